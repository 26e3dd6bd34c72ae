/-
  Hello: a message's bytes.
-/
import Derived.Test.YteoikkmpkhnalaaHD
namespace Go.Proofs.Yteoikkmpkhnalaa
open Go Go.Sh
set_option linter.unusedVariables false
set_option linter.unusedSimpArgs false

def short (s : List UInt8) : List UInt8 := numB s.length 1 ++ s
def long (s : List UInt8) : List UInt8 := numB s.length 2 ++ s
def bodyB (m : Msg) : List UInt8 :=
  if m.kind = 1 then m.random.1 ++ m.share.1 ++ short m.name ++ numB m.protos.length 1 ++ m.protos.flatMap short ++ long m.params ++ [flagB (decide (m.ticket.length > 0)) m.early] ++ (if m.ticket.length > 0 then long m.ticket ++ m.binder.1 else [])
  else if m.kind = 2 then m.random.1 ++ m.share.1 ++ [flagB m.again false]
  else if m.kind = 4 then numB m.life 4 ++ long m.ticket ++ [flagB m.early false]
  else if m.kind = 8 then short (m.protos.headD []) ++ long m.params ++ [flagB m.early false]
  else if m.kind = 11 then short m.name ++ m.mark.1
  else m.mark.1

variable {m : Msg} {q : Parts}

theorem short_len (s : List UInt8) : (short s).length = s.length + 1 := by simp [short, numB_len]; omega
theorem long_len (s : List UInt8) : (long s).length = s.length + 2 := by simp [long, numB_len]; omega
theorem shorts_le : ∀ (l : List (List UInt8)), (∀ s ∈ l, s.length ≤ 255) → (l.flatMap short).length ≤ 256 * l.length
  | [], _ => by simp
  | s :: l, h => by
    have h1 := h s (by simp)
    have h2 := shorts_le l fun s hs => h s (by simp [hs])
    rw [List.flatMap_cons, List.length_append, short_len, List.length_cons]
    omega

/-- the message may be: its parts are small -/
structure Small (m : Msg) : Prop where
  life : m.kind = 4 → 0 ≤ m.life ∧ m.life ≤ 4294967295
  first : m.kind = 8 → m.protos ≠ []
  each : m.kind = 1 ∨ m.kind = 8 → ∀ s ∈ m.protos, s.length ≤ 255
  count : m.kind = 1 → m.protos.length ≤ 8
  name : m.kind = 1 → m.name.length ≤ 255
  params : m.kind = 1 → m.params.length ≤ 4096
  ticket : m.kind = 1 → m.ticket.length ≤ 512

theorem body_spec {A : Nat → Prop} {w0 w : World} {wb : Nat} {K : World → Prop} (hw : Wr A w wb []) (hA : Low A w) (hq : MsgAt w0 m q) (h0 : Mod No w0 w) (hold : ∀ c, c < w0.heap.size → A c) (hs : Small m)
    (h : ∀ w', Wr A w' wb (bodyB m) → Kp A w w' → K w') : C12 (some ⟨wb, 0, none⟩) (mcells m q).toArray w K := by
  refine br12 ?_
  unfold sh12
  refine newV.mk fun b w1 hb hB hm1 => ldI.mk hB mc0 ?_
  simp only [add_at, Nat.zero_add]
  have hb1 := hB.lt
  have hn0 := hq.name
  have hp0 := hq.params
  have ht0 := hq.ticket
  let A1 : Nat → Prop := fun c => A c ∨ c = b
  have hw1 : Wr A1 w1 wb [] := hw.more hb hm1
  have hA1 : Low A1 w1 := fun c hc => hc.elim (hA.mod hm1 c) fun e => e ▸ hb1
  -- the copy and the slices, whatever is written behind w1
  have keepB : ∀ {w' : World}, Kp A1 w1 w' → Blk w' b (mcells m q) 27 := fun h => hB.mod h fun e => e (.inr rfl)
  have keepM : ∀ {w' : World}, Kp A1 w1 w' → MsgAt w' m q := fun hk => hq.mod0 ((h0.on0 hm1).on hk fun c hc e => e (.inl (hold c hc)))
  have fin : ∀ {w' : World}, Wr A1 w' wb (bodyB m) → Kp A1 w1 w' → K w' := fun h1 h2 => h _ (h1.less fun c hc => .inl hc) (Mod.on hm1.of0 h2 fun c hc e hA => e (.inl hA))
  have r0 := m.random.2
  have r1 := m.share.2
  have r2 := m.binder.2
  have r3 := m.mark.2
  refine jn_in (jn_in (jn_in (jn_in (jn_in (jn_in (jn_in (jn_in ⟨fun hc => ?_, fun hc => ?_⟩)))))))
  · have hk : m.kind = 1 := by simpa using hc
    let pre : List UInt8 := m.random.1 ++ m.share.1 ++ numB m.name.length 1 ++ m.name ++ numB m.protos.length 1
    let tl : List UInt8 := if m.ticket.length > 0 then long m.ticket ++ m.binder.1 else []
    have e : bodyB m = pre ++ m.protos.flatMap short ++ numB m.params.length 2 ++ m.params ++ [flagB (decide (m.ticket.length > 0)) m.early] ++ tl := by simp [bodyB, hk, pre, tl, short, long]
    rw [e] at fin
    have g1 := hs.name hk
    have g2 := hs.params hk
    have g3 := hs.ticket hk
    have g4 := hs.count hk
    have g5 := hs.each (.inl hk)
    have g6 := shorts_le m.protos g5
    have hpre : pre.length < 1000 := by simp [pre, numB_len]; omega
    refine jn_in (ldA.part hB (by rw [mc_len]; omega) ?_)
    rw [mc_random]
    refine handle_spec hw1 hA1 (by simp) fun w2 hw2 hk2 => ?_
    refine ldA.part (keepB hk2) (by rw [mc_len]; omega) ?_
    rw [mc_share]
    refine handle_spec hw2 (hA1.mod hk2) (by simp; omega) fun w3 hw3 hk3 => ?_
    have hk13 := Kp.on hk2 hk3
    refine ldS.mk (keepB hk13) mc33 (text_spec (n := 1) hw3 (hA1.mod hk13) (by simp; omega) hn0 (by omega) (by omega) fun w4 hw4 hk4 => ?_)
    have hk14 := Kp.on hk13 hk4
    have hl4 := (keepM hk14).lens
    refine ldL.mk (keepB hk14) mc34 ?_
    rw [hl4.1]
    refine number_spec (n := 1) hw4 (hA1.mod hk14) (by simp [numB_len]; omega) (by omega) (by omega) (by omega) (by omega) fun w5 hw5 hk5 => ?_
    have hk15 := Kp.on hk14 hk5
    refine jn.mk (fun _ w' => Wr A1 w' wb (pre ++ m.protos.flatMap short) ∧ Kp A1 w1 w') ?_ ?_
    · intro kk hkk
      refine ldL.mk (keepB hk15) mc34 ?_
      refine Lp.inv (fun (i : Int) w' => ∃ j : Nat, i = (j : Int) ∧ j ≤ m.protos.length ∧ Wr A1 w' wb (pre ++ (m.protos.take j).flatMap short) ∧ Kp A1 w1 w') (fun i _ => (m.protos.length - i).toNat) ⟨0, rfl, by omega, by simpa [pre] using hw5, hk15⟩ ?_
      rintro i w6 ⟨j, rfl, hj, hw6, hk6⟩
      rw [hl4.1]
      refine ⟨fun hc => ?_, fun hc => ?_⟩
      · have hlt : j < m.protos.length := by have : (j : Int) < m.protos.length := of_decide_eq_true hc; omega
        have e1 : IntKind.i64.wrap ((j : Int) + 1) = ((j + 1 : Nat) : Int) := wrap_i64 (by omega) (by omega)
        rw [e1]
        have h7 := shorts_le (m.protos.take j) fun s hs => g5 s (List.mem_of_mem_take hs)
        have h8 : (m.protos.take j).length ≤ 8 := by rw [List.length_take]; omega
        have h9 := g5 _ (List.getElem_mem hlt)
        refine jn_in (str_at' (keepM hk6).ps (List.getElem?_eq_getElem hlt) ?_)
        refine text_spec (n := 1) hw6 (hA1.mod hk6) (by rw [List.length_append]; omega) (by omega) (by omega) (by omega) fun w7 hw7 hk7 => ?_
        refine ⟨⟨j + 1, rfl, by omega, ?_, Kp.on hk6 hk7⟩, by omega⟩
        rw [List.take_add_one, List.getElem?_eq_getElem hlt, List.flatMap_append]
        simpa [short] using hw7
      · have : ¬ (j : Int) < m.protos.length := of_decide_eq_false hc
        rw [List.take_of_length_le (by omega)] at hw6
        exact hkk () w6 ⟨hw6, hk6⟩
    · rintro _ w6 ⟨hw6, hk6⟩
      refine ldL.mk (keepB hk6) mc35 ⟨_, run_b2s Try.underlying25 Try.underlying5 Try.underlying9 (keepM hk6).pr, ?_⟩
      refine text_spec (n := 2) hw6 (hA1.mod hk6) (by rw [List.length_append]; omega) hp0 (by omega) (by omega) fun w7 hw7 hk7 => ?_
      have hk17 := Kp.on hk6 hk7
      have hl7 := (keepM hk17).lens
      refine ldL.mk (keepB hk17) mc36 (ldB.mk (keepB hk17) mc53 (newV.mk fun bf w8 hbf hBf hm8 => ?_))
      rw [hl7.2.2] at hBf
      have e5 : decide (((m.ticket.length : Nat) : Int) > 0) = decide (m.ticket.length > 0) := by
        by_cases h : m.ticket.length > 0
        · rw [decide_eq_true h, decide_eq_true (by omega)]
        · rw [decide_eq_false h, decide_eq_false (by omega)]
      rw [e5] at hBf
      refine flags2_spec (hw7.mod0 hm8) ((hA1.mod hk17).mod hm8) (by simp only [List.length_append, numB_len, List.length_cons, List.length_nil]; omega) hBf fun w9 hw9 hk9 => ?_
      have hk19 := Kp.on (Kp.on hk17 hm8.of0) hk9
      refine ldL.mk (keepB hk19) mc36 ?_
      rw [hl7.2.2, e5]
      refine ⟨fun hc => ?_, fun hc => ?_⟩
      · have hpos : m.ticket.length > 0 := of_decide_eq_true hc
        refine ldL.mk (keepB hk19) mc36 ⟨_, run_b2s Try.underlying25 Try.underlying5 Try.underlying9 (keepM hk19).tk, ?_⟩
        refine text_spec (n := 2) hw9 (hA1.mod hk19) (by simp only [List.length_append, numB_len, List.length_cons, List.length_nil]; omega) ht0 (by omega) (by omega) fun w10 hw10 hk10 => ?_
        have hk110 := Kp.on hk19 hk10
        refine ldA.part (keepB hk110) (by rw [mc_len]; omega) ?_
        rw [mc_binder]
        refine handle_spec hw10 (hA1.mod hk110) (by simp only [List.length_append, numB_len, List.length_cons, List.length_nil]; omega) fun w11 hw11 hk11 => ?_
        refine fin ?_ (Kp.on hk110 hk11)
        have : tl = long m.ticket ++ m.binder.1 := if_pos hpos
        rw [this]
        simpa [long] using hw11
      · have hpos : ¬ m.ticket.length > 0 := of_decide_eq_false hc
        refine fin ?_ hk19
        have : tl = [] := if_neg hpos
        rw [this]
        simpa using hw9
  · have hk1 : m.kind ≠ 1 := by simpa using hc
    refine jn_in ⟨fun hc => ?_, fun hc => ?_⟩
    · have hk : m.kind = 2 := by simpa using hc
      have e : bodyB m = m.random.1 ++ m.share.1 ++ [flagB m.again false] := by simp [bodyB, hk]
      rw [e] at fin
      refine jn_in (ldA.part hB (by rw [mc_len]; omega) ?_)
      rw [mc_random]
      refine handle_spec hw1 hA1 (by simp) fun w2 hw2 hk2 => ?_
      refine ldA.part (keepB hk2) (by rw [mc_len]; omega) ?_
      rw [mc_share]
      refine handle_spec hw2 (hA1.mod hk2) (by simp; omega) fun w3 hw3 hk3 => ?_
      have hk13 := Kp.on hk2 hk3
      refine ldB.mk (keepB hk13) mc54 (newV.mk fun bf w4 hbf hBf hm4 => ?_)
      refine flags1_spec (hw3.mod0 hm4) ((hA1.mod hk13).mod hm4) (by simp; omega) hBf fun w5 hw5 hk5 => ?_
      exact fin (by simpa using hw5) (Kp.on (Kp.on hk13 hm4.of0) hk5)
    · have hk2 : m.kind ≠ 2 := by simpa using hc
      refine jn_in ⟨fun hc => ?_, fun hc => ?_⟩
      · have hk : m.kind = 4 := by simpa using hc
        have e : bodyB m = numB m.life 4 ++ long m.ticket ++ [flagB m.early false] := by simp [bodyB, hk]
        rw [e] at fin
        have hl := hs.life hk
        refine jn_in (ldI.mk hB mc71 ?_)
        refine number_spec (n := 4) hw1 hA1 (by simp) hl.1 (by omega) (by omega) (by omega) fun w2 hw2 hk2 => ?_
        refine ldL.mk (keepB hk2) mc36 ⟨_, run_b2s Try.underlying25 Try.underlying5 Try.underlying9 (keepM hk2).tk, ?_⟩
        refine text_spec (n := 2) hw2 (hA1.mod hk2) (by simp [numB_len]) ht0 (by omega) (by omega) fun w3 hw3 hk3 => ?_
        have hk13 := Kp.on hk2 hk3
        refine ldB.mk (keepB hk13) mc53 (newV.mk fun bf w4 hbf hBf hm4 => ?_)
        refine flags1_spec (hw3.mod0 hm4) ((hA1.mod hk13).mod hm4) (by simp [numB_len]; omega) hBf fun w5 hw5 hk5 => ?_
        exact fin (by simpa [long] using hw5) (Kp.on (Kp.on hk13 hm4.of0) hk5)
      · have hk4 : m.kind ≠ 4 := by simpa using hc
        refine jn_in ⟨fun hc => ?_, fun hc => ?_⟩
        · have hk : m.kind = 8 := by simpa using hc
          have hne := hs.first hk
          obtain ⟨s0, rest, hp⟩ := List.exists_cons_of_ne_nil hne
          have e : bodyB m = short s0 ++ long m.params ++ [flagB m.early false] := by simp [bodyB, hk, hp]
          rw [e] at fin
          have h0s := hs.each (.inr hk) s0 (by rw [hp]; simp)
          refine jn_in (ldL.mk hB mc34 ?_)
          refine str_at' (i := 0) (x := s0) (keepM (Mod.refl _ _)).ps (by rw [hp]; rfl) ?_
          refine text_spec (n := 1) hw1 hA1 (by simp) (by omega) (by omega) (by omega) fun w2 hw2 hk2 => ?_
          refine ldL.mk (keepB hk2) mc35 ⟨_, run_b2s Try.underlying25 Try.underlying5 Try.underlying9 (keepM hk2).pr, ?_⟩
          refine text_spec (n := 2) hw2 (hA1.mod hk2) (by simp [numB_len]; omega) hp0 (by omega) (by omega) fun w3 hw3 hk3 => ?_
          have hk13 := Kp.on hk2 hk3
          refine ldB.mk (keepB hk13) mc53 (newV.mk fun bf w4 hbf hBf hm4 => ?_)
          refine flags1_spec (hw3.mod0 hm4) ((hA1.mod hk13).mod hm4) (by simp [numB_len]; omega) hBf fun w5 hw5 hk5 => ?_
          exact fin (by simpa [long, short] using hw5) (Kp.on (Kp.on hk13 hm4.of0) hk5)
        · have hk8 : m.kind ≠ 8 := by simpa using hc
          refine ⟨fun hc => ?_, fun hc => ?_⟩
          · have hk : m.kind = 11 := by simpa using hc
            have e : bodyB m = short m.name ++ m.mark.1 := by simp [bodyB, hk]
            rw [e] at fin
            refine ldS.mk hB mc33 (text_spec (n := 1) hw1 hA1 (by simp) hn0 (by omega) (by omega) fun w2 hw2 hk2 => ?_)
            refine ldA.part (keepB hk2) (by rw [mc_len]; omega) ?_
            rw [mc_mark]
            refine handle_spec hw2 (hA1.mod hk2) (by simp [numB_len]; omega) fun w3 hw3 hk3 => ?_
            exact fin (by simpa [short] using hw3) (Kp.on hk2 hk3)
          · have hk : m.kind ≠ 11 := by simpa using hc
            have e : bodyB m = m.mark.1 := by simp [bodyB, hk1, hk2, hk4, hk8, hk]
            rw [e] at fin
            refine ldA.part hB (by rw [mc_len]; omega) ?_
            rw [mc_mark]
            refine handle_spec hw1 hA1 (by simp) fun w3 hw3 hk3 => ?_
            exact fin (by simpa using hw3) hk3
end Go.Proofs.Yteoikkmpkhnalaa
