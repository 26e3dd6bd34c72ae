/-
  Hello: the reference: a message's bytes, put.
-/
import Derived.Test.YteoikkmpkhnalaaHJ
namespace Go.Proofs.Yteoikkmpkhnalaa
open Go Go.Sh
set_option linter.unusedVariables false
set_option linter.unusedSimpArgs false

variable {m : Msg} {q : Parts}

theorem rbody_spec {w : World} {K : Slc → World → Prop} (hq : MsgAt w m q) (hkn : knownB m.kind = true) (hs : Small m) (h : ∀ r w', Mine (Old w) w' r (bodyB m) → Mod No w w' → K r w') : C17 (mcells m q).toArray w K := by
  refine br17 ?_
  unfold sh17
  refine newV.mk fun b w1 hb hB hm1 => ?_
  simp only [add_at, Nat.zero_add]
  have hb1 := hB.lt
  have hn0 := hq.name
  have hp0 := hq.params
  have ht0 := hq.ticket
  have keepN : ∀ {w' : World}, Kp (Old w1) w1 w' → Mod No w1 w' := fun h => Kp.old (Mod.refl _ _) h
  have keepB : ∀ {w' : World}, Kp (Old w1) w1 w' → Blk w' b (mcells m q) 34 := fun h => hB.mod0 (keepN h)
  have keepM : ∀ {w' : World}, Kp (Old w1) w1 w' → MsgAt w' m q := fun hk => (hq.mod0 hm1).mod0 (keepN hk)
  have fin : ∀ {r : Slc} {w' : World}, Mine (Old w1) w' r (bodyB m) → Kp (Old w1) w1 w' → K r w' := fun h1 h2 => h _ _ (h1.less fun c hc => Nat.lt_of_lt_of_le hc hm1.size) (hm1.on0 (keepN h2))
  have hA : ∀ {w' : World}, Kp (Old w1) w1 w' → Low (Old w1) w' := fun h c hc => Nat.lt_of_lt_of_le hc h.size
  have kr : Kp (Old w1) w1 w1 := Mod.refl _ _
  have r0 := m.random.2
  have r1 := m.share.2
  have r2 := m.binder.2
  have r3 := m.mark.2
  have nil1 : Mine (Old w1) w1 Slc.nil [] := Mine.nil ..
  refine jn_in (ldI.mk hB mc0 ⟨fun hc => ?_, fun hc => ?_⟩)
  · have hk : m.kind = 1 := by simpa using hc
    let pre : List UInt8 := m.random.1 ++ m.share.1 ++ short m.name ++ numB m.protos.length 1
    let tl : List UInt8 := if m.ticket.length > 0 then long m.ticket ++ m.binder.1 else []
    have e : bodyB m = pre ++ m.protos.flatMap short ++ long m.params ++ [flagB (decide (m.ticket.length > 0)) m.early] ++ tl := by simp [bodyB, hk, pre, tl]
    rw [e] at fin
    have g1 := hs.name hk
    have g2 := hs.params hk
    have g3 := hs.ticket hk
    have g4 := hs.count hk
    have g5 := hs.each (.inl hk)
    have g6 := shorts_le m.protos g5
    have hpre : pre.length < 1000 := by simp [pre, numB_len, short_len]; omega
    refine drw.mk fun w2 hm2 => ?_
    have k2 : Kp (Old w1) w1 w2 := hm2.of0
    obtain ⟨s3, w3, hr3, hs3, _, hk3, _⟩ := (nil1.mod0 hm2).app (hpart (keepB k2) (by omega) mc_random) (by simp; omega) (hA k2)
    refine ⟨s3, w3, hr3, ?_⟩
    have k3 := Kp.on k2 hk3
    obtain ⟨s4, w4, hr4, hs4, _, hk4, _⟩ := hs3.app (hpart (keepB k3) (by omega) mc_share) (by simp; omega) (hA k3)
    refine ⟨s4, w4, hr4, ?_⟩
    have k4 := Kp.on k3 hk4
    refine drw.mk fun w5 hm5 => ?_
    have k5 : Kp (Old w1) w1 w5 := Kp.on k4 hm5.of0
    have hs5 := hs4.mod0 hm5
    have hl5 := (keepM k5).lens
    refine jn.mk (fun t w' => Mine (Old w1) w' t pre ∧ Kp (Old w1) w1 w') ?_ ?_
    · intro kk hkk
      refine ldS.mk (keepB k5) mc33 (ldL.mk (keepB k5) mc34 ?_)
      rw [hl5.1, u8w0]
      constructor
      · refine short_spec hs5 (hA k5) (by simp; omega) (by omega) fun t6 w6 hs6 hk6 => ⟨(keepB (Kp.on k5 hk6)).cell mc34, ?_⟩
        have k6 := Kp.on k5 hk6
        refine newV.mk fun b7 w7 hb7 hB7 hm7 => ?_
        have k7 : Kp (Old w1) w1 w7 := Kp.on k6 hm7.of0
        obtain ⟨t8, w8, hr8, hs8, _, hk8, _⟩ := (hs6.mod0 hm7).app (ys := [byteN m.protos.length 0]) (rd_blk hB7 rfl) (by simp [short_len]; omega) (hA k7)
        exact ⟨t8, w8, hr8, hkk _ _ ⟨by simpa [pre, numB1] using hs8, Kp.on k7 hk8⟩⟩
      · refine newV.mk fun b7 w7 hb7 hB7 hm7 => ?_
        have k7 : Kp (Old w1) w1 w7 := Kp.on k5 hm7.of0
        have z7 := hB7.lt
        refine ⟨(keepB k7).cell mc33, ?_⟩
        have hs7 : Mine (Old w7) w7 s4 (m.random.1 ++ m.share.1) → True := fun _ => trivial
        let A2 : Nat → Prop := fun c => Old w1 c ∨ c = b7
        have hs7 : Mine A2 w7 s4 ([] ++ m.random.1 ++ m.share.1) := by
          have hs7 := hs5.mod0 hm7
          refine ⟨hs7.1, fun c hc => ⟨fun e => e.elim (hs7.2 c hc).1 fun e => ?_, (hs7.2 c hc).2⟩⟩
          have := (hs5.2 c hc).2
          omega
        have hA7 : Low A2 w7 := fun c hc => hc.elim (fun h => hA k7 c h) fun e => e ▸ z7
        refine short_spec hs7 hA7 (by simp; omega) (by omega) fun t8 w8 hs8 hk8 => ?_
        have k8 : Kp (Old w1) w1 w8 := Kp.on k7 (hk8.weaken fun c _ h h' => h (.inl h'))
        obtain ⟨t9, w9, hr9, hs9, _, hk9, _⟩ := (hs8.less (A := Old w1) fun c hc => .inl hc).app (ys := [byteN m.protos.length 0]) (rd_blk (hB7.mod hk8 fun h => h (.inr rfl)) rfl) (by simp [short_len]; omega) (hA k8)
        exact ⟨t9, w9, hr9, hkk _ _ ⟨by simpa [pre, numB1] using hs9, Kp.on k8 hk9⟩⟩
    · rintro t6 w6 ⟨hs6, k6⟩
      refine jn.mk (fun t w' => Mine (Old w1) w' t (pre ++ m.protos.flatMap short) ∧ Kp (Old w1) w1 w') ?_ ?_
      · intro kk hkk
        refine Lp.inv (fun (s : Slc × Int) w' => ∃ j : Nat, s.2 = (j : Int) ∧ j ≤ m.protos.length ∧ Mine (Old w1) w' s.1 (pre ++ (m.protos.take j).flatMap short) ∧ Kp (Old w1) w1 w') (fun s _ => (m.protos.length - s.2).toNat) ⟨0, rfl, by omega, by simpa using hs6, k6⟩ ?_
        rintro ⟨t7, i⟩ w7 ⟨j, hij, hj, hs7, k7⟩
        simp only at hij hs7
        subst hij
        refine jn_in (ldL.mk (keepB k7) mc34 ?_)
        rw [(keepM k7).lens.1]
        refine ⟨fun hc => ?_, fun hc => ?_⟩
        · have hlt : j < m.protos.length := by have : (j : Int) < m.protos.length := of_decide_eq_true hc; omega
          have e1 : IntKind.i64.wrap ((j : Int) + 1) = ((j + 1 : Nat) : Int) := wrap_i64 (by omega) (by omega)
          simp only [e1]
          have h7 := shorts_le (m.protos.take j) fun s hs => g5 s (List.mem_of_mem_take hs)
          have h8 : (m.protos.take j).length ≤ 8 := by rw [List.length_take]; omega
          have h9 := g5 _ (List.getElem_mem hlt)
          refine jn_in (ldL.mk (keepB k7) mc34 (str_at' (keepM k7).ps (List.getElem?_eq_getElem hlt) ?_))
          refine short_spec hs7 (hA k7) (by rw [List.length_append]; omega) (by omega) fun t8 w8 hs8 hk8 => ?_
          refine ⟨⟨j + 1, rfl, by omega, ?_, Kp.on k7 hk8⟩, by omega⟩
          rw [List.take_add_one, List.getElem?_eq_getElem hlt, List.flatMap_append]
          simpa using hs8
        · have : ¬ (j : Int) < m.protos.length := of_decide_eq_false hc
          rw [List.take_of_length_le (by omega)] at hs7
          exact hkk _ _ ⟨hs7, k7⟩
      · rintro t7 w7 ⟨hs7, k7⟩
        refine drw.mk fun w8 hm8 => ?_
        have k8 : Kp (Old w1) w1 w8 := Kp.on k7 hm8.of0
        have hl8 := (keepM k8).lens
        refine ldL.mk (keepB k8) mc35 (ldL.mk (keepB k8) mc36 (ldB.mk (keepB k8) mc53 ?_))
        refine long_spec (hs7.mod0 hm8) (hA k8) (fun w' hk' => (keepM (Kp.on k8 hk')).pr) (by rw [List.length_append]; omega) (by omega) fun t9 w9 hs9 hk9 => ?_
        have k9 := Kp.on k8 hk9
        refine ⟨(keepB k9).cell mc53, (keepB k9).cell mc36, ?_⟩
        rw [hl8.2.2]
        have e5 : decide (((m.ticket.length : Nat) : Int) > 0) = decide (m.ticket.length > 0) := by
          by_cases h : m.ticket.length > 0
          · rw [decide_eq_true h, decide_eq_true (by omega)]
          · rw [decide_eq_false h, decide_eq_false (by omega)]
        rw [e5]
        refine flag_spec hs9 (hA k9) (by simp only [List.length_append, long_len]; omega) fun t10 w10 hs10 hk10 => ?_
        have k10 := Kp.on k9 hk10
        refine ldL.mk (keepB k10) mc36 ?_
        rw [hl8.2.2, e5]
        refine ⟨fun hc => ?_, fun hc => ?_⟩
        · have hpos : m.ticket.length > 0 := of_decide_eq_true hc
          refine drw.mk fun w11 hm11 => ?_
          have k11 : Kp (Old w1) w1 w11 := Kp.on k10 hm11.of0
          refine ldL.mk (keepB k11) mc36 ?_
          refine long_spec (hs10.mod0 hm11) (hA k11) (fun w' hk' => (keepM (Kp.on k11 hk')).tk) (by simp only [List.length_append, long_len, List.length_cons, List.length_nil]; omega) (by omega) fun t12 w12 hs12 hk12 => ?_
          have k12 := Kp.on k11 hk12
          obtain ⟨t13, w13, hr13, hs13, _, hk13, _⟩ := hs12.app (hpart (keepB k12) (by omega) mc_binder) (by simp only [List.length_append, long_len, List.length_cons, List.length_nil]; omega) (hA k12)
          refine ⟨t13, w13, hr13, fin ?_ (Kp.on k12 hk13)⟩
          have : tl = long m.ticket ++ m.binder.1 := if_pos hpos
          rw [this]
          simpa using hs13
        · have hpos : ¬ m.ticket.length > 0 := of_decide_eq_false hc
          refine fin ?_ k10
          have : tl = [] := if_neg hpos
          rw [this]
          simpa using hs10
  · have hk1 : m.kind ≠ 1 := by simpa using hc
    refine ⟨fun hc => ?_, fun hc => ?_⟩
    · have hk : m.kind = 2 := by simpa using hc
      have e : bodyB m = m.random.1 ++ m.share.1 ++ [flagB m.again false] := by simp [bodyB, hk]
      rw [e] at fin
      refine drw.mk fun w2 hm2 => ?_
      have k2 : Kp (Old w1) w1 w2 := hm2.of0
      obtain ⟨s3, w3, hr3, hs3, _, hk3, _⟩ := (nil1.mod0 hm2).app (hpart (keepB k2) (by omega) mc_random) (by simp; omega) (hA k2)
      refine ⟨s3, w3, hr3, ?_⟩
      have k3 := Kp.on k2 hk3
      obtain ⟨s4, w4, hr4, hs4, _, hk4, _⟩ := hs3.app (hpart (keepB k3) (by omega) mc_share) (by simp; omega) (hA k3)
      refine ⟨s4, w4, hr4, ?_⟩
      have k4 := Kp.on k3 hk4
      refine ldB.mk (keepB k4) mc54 (flag_spec hs4 (hA k4) (by simp; omega) fun t5 w5 hs5 hk5 => fin (by simpa using hs5) (Kp.on k4 hk5))
    · have hk2 : m.kind ≠ 2 := by simpa using hc
      refine ⟨fun hc => ?_, fun hc => ?_⟩
      · have hk : m.kind = 4 := by simpa using hc
        have e : bodyB m = numB m.life 4 ++ long m.ticket ++ [flagB m.early false] := by simp [bodyB, hk]
        rw [e] at fin
        have hl := hs.life hk
        refine ldI.mk hB mc71 (ldI.mk hB mc71 (ldI.mk hB mc71 (ldI.mk hB mc71 ?_)))
        rw [u8s (s := 24) m.life 3 (by omega) rfl, u8s (s := 16) m.life 2 (by omega) rfl, u8s (s := 8) m.life 1 (by omega) rfl, u8w0]
        refine newV.mk fun b2 w2 hb2 hB2 hm2 => ?_
        have k2 : Kp (Old w1) w1 w2 := hm2.of0
        obtain ⟨t3, w3, hr3, hs3, _, hk3, _⟩ := (nil1.mod0 hm2).app (ys := numB m.life 4) (rd_blk hB2 rfl) (by simp [numB_len]) (hA k2)
        refine ⟨t3, w3, hr3, drw.mk fun w4 hm4 => ?_⟩
        have k4 : Kp (Old w1) w1 w4 := Kp.on (Kp.on k2 hk3) hm4.of0
        refine ldL.mk (keepB k4) mc36 (ldB.mk (keepB k4) mc53 ?_)
        refine long_spec (hs3.mod0 hm4) (hA k4) (fun w' hk' => (keepM (Kp.on k4 hk')).tk) (by simp [numB_len]) (by omega) fun t5 w5 hs5 hk5 => ?_
        have k5 := Kp.on k4 hk5
        refine ⟨(keepB k5).cell mc53, flag_spec hs5 (hA k5) (by simp [numB_len, long_len]; omega) fun t6 w6 hs6 hk6 => fin (by simpa using hs6) (Kp.on k5 hk6)⟩
      · have hk4 : m.kind ≠ 4 := by simpa using hc
        refine ⟨fun hc => ?_, fun hc => ?_⟩
        · have hk : m.kind = 8 := by simpa using hc
          have hne := hs.first hk
          obtain ⟨s0, rest, hp⟩ := List.exists_cons_of_ne_nil hne
          have e : bodyB m = short s0 ++ long m.params ++ [flagB m.early false] := by simp [bodyB, hk, hp]
          rw [e] at fin
          have h0s := hs.each (.inr hk) s0 (by rw [hp]; simp)
          refine drw.mk fun w2 hm2 => ?_
          have k2 : Kp (Old w1) w1 w2 := hm2.of0
          refine ldL.mk (keepB k2) mc34 (str_at' (i := 0) (x := s0) (keepM k2).ps (by rw [hp]; rfl) ?_)
          refine ldL.mk (keepB k2) mc35 (ldB.mk (keepB k2) mc53 ?_)
          refine short_spec (nil1.mod0 hm2) (hA k2) (by simp) (by omega) fun t3 w3 hs3 hk3 => ?_
          have k3 := Kp.on k2 hk3
          refine ⟨(keepB k3).cell mc53, (keepB k3).cell mc35, ?_⟩
          refine long_spec hs3 (hA k3) (fun w' hk' => (keepM (Kp.on k3 hk')).pr) (by simp [short_len]; omega) (by omega) fun t5 w5 hs5 hk5 => ?_
          have k5 := Kp.on k3 hk5
          refine ⟨(keepB k5).cell mc53, flag_spec hs5 (hA k5) (by simp [short_len, long_len]; omega) fun t6 w6 hs6 hk6 => fin (by simpa using hs6) (Kp.on k5 hk6)⟩
        · have hk8 : m.kind ≠ 8 := by simpa using hc
          refine ⟨fun hc => ?_, fun hc => ?_⟩
          · have hk : m.kind = 11 := by simpa using hc
            have e : bodyB m = short m.name ++ m.mark.1 := by simp [bodyB, hk]
            rw [e] at fin
            refine drw.mk fun w2 hm2 => ?_
            have k2 : Kp (Old w1) w1 w2 := hm2.of0
            refine ldS.mk (keepB k2) mc33 (short_spec (nil1.mod0 hm2) (hA k2) (by simp) (by omega) fun t3 w3 hs3 hk3 => ?_)
            have k3 := Kp.on k2 hk3
            obtain ⟨t4, w4, hr4, hs4, _, hk4, _⟩ := hs3.app (hpart (keepB k3) (by omega) mc_mark) (by simp [short_len]; omega) (hA k3)
            exact ⟨t4, w4, hr4, fin (by simpa using hs4) (Kp.on k3 hk4)⟩
          · have hk11 : m.kind ≠ 11 := by simpa using hc
            have e : bodyB m = m.mark.1 := by simp [bodyB, hk1, hk2, hk4, hk8, hk11]
            rw [e] at fin
            refine jn.mk (fun c w' => w' = w1 ∧ c = true) ?_ ?_
            · intro kk hkk
              refine ⟨fun hc => hkk _ _ ⟨rfl, hc⟩, fun hc => hkk _ _ ⟨rfl, ?_⟩⟩
              have hk15 : m.kind ≠ 15 := by simpa using hc
              simp only [knownB, Bool.or_eq_true, beq_iff_eq] at hkn
              simp
              omega
            · rintro c w2 ⟨rfl, rfl⟩
              refine ifM.t rfl ?_
              obtain ⟨t4, w4, hr4, hs4, _, hk4, _⟩ := nil1.app (hpart hB (by omega) mc_mark) (by simp; omega) (hA kr)
              exact ⟨t4, w4, hr4, fin (by simpa using hs4) hk4⟩

theorem rput_spec {w : World} {K : Slc → Int → World → Prop} (hq : MsgAt w m q) (hbad : putE m ≠ 0 → ∀ w', Mod No w w' → K Slc.nil (putE m) w')
    (hok : putE m = 0 → ∀ w' r, Mine (Old w) w' r (putB m) → Mod No w w' → K r 0 w') : C6 (mcells m q).toArray w K := by
  refine br6 ?_
  unfold sh6
  refine newV.mk fun b w1 hb hB hm1 => jn_in (ldI.mk hB mc0 (known_spec ⟨fun hc => ?_, fun hc => ?_⟩))
  · have hk : knownB m.kind = false := by simpa using hc
    have e : putE m = 12 := by simp [putE, hk]
    have := hbad (by rw [e]; decide) w1 hm1
    rwa [e] at this
  · have hk : knownB m.kind = true := by simpa using hc
    refine jn_in (ldA.all hB mc_len (may_spec (hq.mod0 hm1) fun w2 hm2 => ?_))
    have hM2 := hm1.on0 hm2
    refine ⟨fun hc => ?_, fun hc => ?_⟩
    · have hr : rightB m = false := by simpa using hc
      have e : putE m = 2 := by simp [putE, hk, hr]
      have := hbad (by rw [e]; decide) w2 hM2
      rwa [e] at this
    · have hr : rightB m = true := by simpa using hc
      have e : putE m = 0 := by simp [putE, hk, hr]
      have hbl := body_len hr
      refine ldA.all (hB.mod0 hm2) mc_len (rbody_spec (hq.mod0 hM2) hk (small_of (h := hr)) fun r w3 hs3 hm3 => ?_)
      have hM3 := hM2.on0 hm3
      refine ldI.mk ((hB.mod0 hm2).mod0 hm3) mc0 ?_
      have hrl : (r.len : Int) = ((bodyB m).length : Int) := by rw [hs3.len]
      rw [hrl, u8w0, u8s (s := 16) ((bodyB m).length : Int) 2 (by omega) rfl, u8s (s := 8) ((bodyB m).length : Int) 1 (by omega) rfl, u8w0]
      have e4 : (#[u8 (byteN m.kind 0), u8 (byteN ((bodyB m).length : Int) 2), u8 (byteN ((bodyB m).length : Int) 1), u8 (byteN ((bodyB m).length : Int) 0)] : Array Value).toList = (numB m.kind 1 ++ numB ((bodyB m).length : Int) 3).map u8 := by simp [numB1, numB3]
      refine newV.mk fun b4 w4 hb4 hB4 hm4 => ?_
      rw [e4] at hB4
      have hM4 := hM3.on0 hm4
      have hb4' := hB4.lt
      have z := hM3.size
      have own : Mine (Old w) w4 (Slc.mk (some ⟨b4, 0, none⟩) 4 4) (numB m.kind 1 ++ numB ((bodyB m).length : Int) 3) :=
        ⟨⟨by simp [numB_len], .inr ⟨b4, [], rfl, by simpa using hB4, by simp [numB_len], Nat.le_refl _⟩⟩, fun c hc => by
          have : b4 = c := by simpa using hc
          subst this
          exact ⟨fun h => by have : b4 < w.heap.size := h; omega, hb4'⟩⟩
      obtain ⟨t5, w5, hr5, hs5, _, hk5, _⟩ := own.app (hs3.mod0 hm4).1.rd (by simp [numB_len]; omega) (fun c hc => Nat.lt_of_lt_of_le hc hM4.size)
      refine ⟨t5, w5, hr5, hok e w5 t5 (by simpa [putB] using hs5) (Kp.old hM4 hk5)⟩
end Go.Proofs.Yteoikkmpkhnalaa
