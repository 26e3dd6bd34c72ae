/-
  Hello: kinds; what may be.
-/
import Derived.Test.YteoikkmpkhnalaaHB
namespace Go.Proofs.Yteoikkmpkhnalaa
open Go Go.Sh
set_option linter.unusedVariables false
set_option linter.unusedSimpArgs false

def knownB (k : Int) : Bool := k == 1 || k == 2 || k == 4 || k == 8 || k == 11 || k == 15 || k == 20

theorem kinds_spec {w : World} {K : Option Nat → World → Prop} (h : ∀ b w' (f : Int → Option Bool), MapAt w' b (fun n : Int => Value.int .i64 n) Value.bool f → (∀ k, (f k).getD false = knownB k) → Mod No w w' → K (some b) w') : C10 w K := by
  refine br10 ?_
  unfold sh10
  refine newM.mk fun b w1 hb1 hb2 he hm1 => ?_
  have up : ∀ {w1 : World} {f : Int → Option Bool} (v : Int), MapAt w1 b (fun n : Int => Value.int .i64 n) Value.bool f → ∃ w2, rn Try.prog (Instr.mapUpdate 38 (.map (some b)) (.int .i64 v) (.bool true)) () w1 w2 ∧ MapAt w2 b (fun n : Int => Value.int .i64 n) Value.bool (fun x => if x = v then some true else f x) ∧ Mod (· = b) w1 w2 := fun v hf =>
    run_mapUpdate (keyInt Try.runUnderlying3) (ve := Value.bool) Try.runUnderlying38 hf v true
  obtain ⟨w2, r2, f2, m2⟩ := up 1 (he Int Bool _ _)
  refine ⟨w2, r2, ?_⟩
  obtain ⟨w3, r3, f3, m3⟩ := up 2 f2
  refine ⟨w3, r3, ?_⟩
  obtain ⟨w4, r4, f4, m4⟩ := up 4 f3
  refine ⟨w4, r4, ?_⟩
  obtain ⟨w5, r5, f5, m5⟩ := up 8 f4
  refine ⟨w5, r5, ?_⟩
  obtain ⟨w6, r6, f6, m6⟩ := up 11 f5
  refine ⟨w6, r6, ?_⟩
  obtain ⟨w7, r7, f7, m7⟩ := up 15 f6
  refine ⟨w7, r7, ?_⟩
  obtain ⟨w8, r8, f8, m8⟩ := up 20 f7
  refine ⟨w8, r8, h b w8 _ f8 (fun k => ?_) (((((((hm1.onNew m2 hb1).onNew m3 hb1).onNew m4 hb1).onNew m5 hb1).onNew m6 hb1).onNew m7 hb1).onNew m8 hb1)⟩
  unfold knownB
  by_cases h1 : k = 1 <;> by_cases h2 : k = 2 <;> by_cases h3 : k = 4 <;> by_cases h4 : k = 8 <;> by_cases h5 : k = 11 <;> by_cases h6 : k = 15 <;> by_cases h7 : k = 20 <;> simp [h1, h2, h3, h4, h5, h6, h7]

def oddS (s : List UInt8) : Bool := decide (s.length < 1) || decide (s.length > 255)
theorem bsize (s : List UInt8) : (⟨s.toArray⟩ : ByteArray).size = s.length := by simp [ByteArray.size]

theorem odd_spec {w : World} {s : List UInt8} {K : Bool → World → Prop} (h : K (oddS s) w) : C26 (⟨s.toArray⟩ : ByteArray) w K := by
  refine br26 ?_
  unfold sh26
  rw [bsize]
  unfold oddS at h
  refine jn_in ⟨fun hc => ?_, fun hc => ?_⟩
  · have : s.length < 1 := by have : (s.length : Int) < 1 := of_decide_eq_true hc; omega
    simpa [this] using h
  · have h1 : ¬ s.length < 1 := by have : ¬ (s.length : Int) < 1 := of_decide_eq_false hc; omega
    have e : decide ((s.length : Int) > 255) = decide (s.length > 255) := by
      by_cases h2 : s.length > 255
      · rw [decide_eq_true h2, decide_eq_true (by omega)]
      · rw [decide_eq_false h2, decide_eq_false (by omega)]
    show K (decide ((s.length : Int) > 255)) w
    rw [e]
    simpa [h1] using h

theorem str_at' {w : World} {s : Slc} {l : List (List UInt8)} {i : Nat} {x : List UInt8} {k : ByteArray → Prop} (h : RdS w 1 s (l.map sv)) (hi : l[i]? = some x) (hk : k ⟨x.toArray⟩) : idx 1 s (i : Int) fun p => ldS p w k := by
  obtain ⟨h1, h2⟩ := h
  obtain ⟨a, n, c⟩ := s
  simp only [List.length_map, Nat.mul_one] at h1 h2
  have hin : i < l.length := (List.getElem?_eq_some_iff.1 hi).1
  rcases h2 with ⟨_, h2⟩ | ⟨b, o, rfl, _, hc⟩
  · omega
  refine idx.mk (by omega) (by omega) ⟨_, ?_, hk⟩
  simp only [Int.toNat_natCast, Nat.mul_one]
  rw [hc i hin]
  simp [hi, sv]

theorem index_spec {w : World} {a : Slc} {l : List (List UInt8)} {K : Int → World → Prop} (ha : RdS w 1 a (l.map sv)) (hl : l.length < 1000000000)
    (h : ∀ r, (decide (r ≥ 0) = l.any oddS) → K r w) : C29 a (Value.func (Fn.func 26) #[] #[]) w K := by
  refine br29 ?_
  unfold sh29
  have hlen : a.len = l.length := by have := ha.1; simpa using this.symm
  refine jn_in ?_
  refine Lp.inv (fun (s : Int) w' => w' = w ∧ ∃ i : Nat, s = (i : Int) ∧ i ≤ l.length ∧ (l.take i).any oddS = false) (fun s _ => (l.length - s).toNat) ⟨rfl, 0, rfl, by omega, by simp⟩ ?_
  rintro s w' ⟨rfl, i, rfl, hi, hno⟩
  rw [hlen]
  refine jn_in ⟨fun hc => ?_, fun hc => ?_⟩
  · have hlt : i < l.length := by have : (i : Int) < l.length := of_decide_eq_true hc; omega
    have e1 : IntKind.i64.wrap ((i : Int) + 1) = ((i + 1 : Nat) : Int) := wrap_i64 (by omega) (by omega)
    rw [e1]
    refine jn_in (str_at' ha (List.getElem?_eq_getElem hlt) ?_)
    refine ⟨_, _, _, rfl, fun args w => rfl, ?_⟩
    show C26 (⟨l[i].toArray⟩ : ByteArray) w' _
    refine odd_spec ⟨fun ho => ?_, fun ho => ⟨⟨rfl, i + 1, rfl, by omega, ?_⟩, by omega⟩⟩
    · refine h i ?_
      rw [decide_eq_true (by omega)]
      exact (List.any_eq_true.2 ⟨_, List.getElem_mem hlt, ho⟩).symm
    · rw [List.take_add_one, List.getElem?_eq_getElem hlt, List.any_append, hno]
      simp [ho]
  · have : ¬ (i : Int) < l.length := of_decide_eq_false hc
    refine h (-1) ?_
    rw [List.take_of_length_le (by omega)] at hno
    rw [hno]
    rfl

def namedB (m : Msg) (most : Nat) : Bool := decide (1 ≤ m.protos.length) && (decide (m.protos.length ≤ most) && (!m.protos.any oddS && decide (m.params.length ≤ 4096)))

theorem dec_cast {a b : Nat} : decide ((a : Int) ≤ (b : Int)) = decide (a ≤ b) := by
  by_cases h : a ≤ b
  · rw [decide_eq_true h, decide_eq_true (by omega)]
  · rw [decide_eq_false h, decide_eq_false (by omega)]

variable {m : Msg} {q : Parts}

theorem named_spec {w : World} {most : Nat} {K : Bool → World → Prop} (hq : MsgAt w m q) (h : ∀ w', Mod No w w' → K (namedB m most) w') : C18 (mcells m q).toArray most w K := by
  refine br18 ?_
  unfold sh18
  refine newV.mk fun b w1 hb1 hB hm1 => ?_
  have hq1 := hq.mod0 hm1
  obtain ⟨l1, l2, l3⟩ := hq1.lens
  have h' := h w1 hm1
  unfold namedB at h'
  refine jn_in ?_
  rw [add_at, add_at]
  refine ldL.mk hB mc34 ⟨fun hc => ldL.mk hB mc34 ⟨fun hc2 => ldL.mk hB mc34 ?_, fun hc2 => ?_⟩, fun hc => ?_⟩
  · refine br27 ?_
    unfold sh27
    have h1 : 1 ≤ m.protos.length := by have : (q.ps.len : Int) ≥ 1 := of_decide_eq_true hc; omega
    have h2 : m.protos.length ≤ most := by have : (q.ps.len : Int) ≤ most := of_decide_eq_true hc2; omega
    rw [decide_eq_true h1, decide_eq_true h2, Bool.true_and, Bool.true_and] at h'
    refine index_spec hq1.ps (by have := hq1.protos; omega) fun r hr => ?_
    rw [hr]
    refine ⟨fun hc3 => ldL.mk hB mc35 ?_, fun hc3 => ?_⟩
    · rw [hc3, Bool.true_and] at h'
      rw [l2]
      have e : decide ((m.params.length : Int) ≤ 4096) = decide (m.params.length ≤ 4096) := dec_cast (b := 4096)
      rw [e]
      exact h'
    · rw [hc3, Bool.false_and] at h'
      exact h'
  · have h1 : 1 ≤ m.protos.length := by have : (q.ps.len : Int) ≥ 1 := of_decide_eq_true hc; omega
    have h2 : ¬ m.protos.length ≤ most := by have : ¬ (q.ps.len : Int) ≤ most := of_decide_eq_false hc2; omega
    rw [decide_eq_true h1, decide_eq_false h2, Bool.true_and, Bool.false_and] at h'
    exact h'
  · have h1 : ¬ 1 ≤ m.protos.length := by have : ¬ (q.ps.len : Int) ≥ 1 := of_decide_eq_false hc; omega
    rw [decide_eq_false h1, Bool.false_and] at h'
    exact h'
end Go.Proofs.Yteoikkmpkhnalaa
