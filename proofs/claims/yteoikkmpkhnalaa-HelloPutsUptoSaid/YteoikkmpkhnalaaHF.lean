/-
  Hello: Put.
-/
import Derived.Test.YteoikkmpkhnalaaHE
namespace Go.Proofs.Yteoikkmpkhnalaa
open Go Go.Sh
set_option linter.unusedVariables false
set_option linter.unusedSimpArgs false

variable {m : Msg} {q : Parts}

theorem named_parts {n : Nat} (h : namedB m n = true) : 1 ≤ m.protos.length ∧ m.protos.length ≤ n ∧ (∀ s ∈ m.protos, s.length ≤ 255) ∧ m.params.length ≤ 4096 := by
  simp only [namedB, Bool.and_eq_true, decide_eq_true_eq, Bool.not_eq_true'] at h
  refine ⟨h.1, h.2.1, fun s hs => ?_, h.2.2.2⟩
  have := List.any_eq_false.1 h.2.2.1 s hs
  simp only [oddS, Bool.or_eq_true, decide_eq_true_eq, not_or] at this
  omega

theorem small_of {h : rightB m = true} : Small m := by
  unfold rightB at h
  constructor
  · intro hk
    rw [if_neg (by omega), if_pos hk] at h
    simp only [Bool.and_eq_true, decide_eq_true_eq] at h
    exact ⟨h.1, h.2.1⟩
  · intro hk e
    rw [if_neg (by omega), if_neg (by omega), if_pos hk] at h
    have := named_parts h
    rw [e] at this
    simp at this
  · rintro (hk | hk)
    · rw [if_pos hk] at h
      split at h
      · cases h
      · exact (named_parts (Bool.and_eq_true_iff.1 h).1).2.2.1
    · rw [if_neg (by omega), if_neg (by omega), if_pos hk] at h
      exact (named_parts h).2.2.1
  · intro hk
    rw [if_pos hk] at h
    split at h
    · cases h
    · exact (named_parts (Bool.and_eq_true_iff.1 h).1).2.1
  · intro hk
    rw [if_pos hk] at h
    split at h
    · cases h
    · have := (Bool.and_eq_true_iff.1 h).2
      simp only [sizeB, Bool.and_eq_true, decide_eq_true_eq] at this
      exact this.1
  · intro hk
    rw [if_pos hk] at h
    split at h
    · cases h
    · exact (named_parts (Bool.and_eq_true_iff.1 h).1).2.2.2
  · intro hk
    rw [if_pos hk] at h
    split at h
    · cases h
    · have := (Bool.and_eq_true_iff.1 h).2
      simp only [sizeB, Bool.and_eq_true, decide_eq_true_eq] at this
      exact this.2

def putB (m : Msg) : List UInt8 := numB m.kind 1 ++ numB (bodyB m).length 3 ++ bodyB m
def putE (m : Msg) : Int := if knownB m.kind = false then 12 else if rightB m = false then 2 else 0

theorem body_len (hr : rightB m = true) : (bodyB m).length < 100000 := by
  have hs := small_of (h := hr)
  have r0 := m.random.2
  have r1 := m.share.2
  have r2 := m.binder.2
  have r3 := m.mark.2
  unfold bodyB
  split
  · rename_i hk
    have g1 := hs.name hk
    have g2 := hs.params hk
    have g3 := hs.ticket hk
    have g4 := hs.count hk
    have g6 := shorts_le m.protos (hs.each (.inl hk))
    have g7 : (if m.ticket.length > 0 then long m.ticket ++ m.binder.1 else []).length ≤ 1000 := by
      split
      · rw [List.length_append, long_len]; omega
      · simp
    simp only [List.length_append, short_len, long_len, numB_len, List.length_cons, List.length_nil]
    omega
  · split
    · simp only [List.length_append, List.length_cons, List.length_nil]; omega
    · split
      · rename_i h1 h2 hk
        unfold rightB at hr
        rw [if_neg (by omega), if_pos hk] at hr
        simp only [Bool.and_eq_true, decide_eq_true_eq] at hr
        simp only [List.length_append, long_len, numB_len, List.length_cons, List.length_nil]
        omega
      · split
        · rename_i h1 h2 h3 hk
          unfold rightB at hr
          rw [if_neg (by omega), if_neg (by omega), if_pos hk] at hr
          have hp := named_parts hr
          have h0 : (m.protos.headD []).length ≤ 255 := by
            cases hm : m.protos with
            | nil => simp
            | cons a l => exact hp.2.2.1 a (by rw [hm]; simp)
          simp only [List.length_append, short_len, long_len, List.length_cons, List.length_nil]
          omega
        · split
          · rename_i h1 h2 h3 h4 hk
            unfold rightB at hr
            rw [if_neg (by omega), if_neg (by omega), if_neg (by omega), if_pos hk] at hr
            have := of_decide_eq_true hr
            simp only [List.length_append, short_len]
            omega
          · omega

theorem hput_spec {w : World} {K : Slc → Int → World → Prop} (hq : MsgAt w m q) (hbad : putE m ≠ 0 → ∀ w', Mod No w w' → K Slc.nil (putE m) w')
    (hok : putE m = 0 → ∀ w' r, Mine (Old w) w' r (putB m) → Mod No w w' → K r 0 w') : C4 (mcells m q).toArray w K := by
  refine br4 ?_
  unfold sh4
  refine newV.mk fun b w1 hb hB hm1 => jn_in (drw.mk fun w2 hm2 => ?_)
  have hB2 := hB.mod0 hm2
  have hM2 : Mod No w w2 := hm1.on0 hm2
  refine ldI.mk hB2 mc0 (kinds_spec fun mb w3 f hf hfk hm3 => ?_)
  have hM3 : Mod No w w3 := hM2.on0 hm3
  have hB3 := hB2.mod0 hm3
  refine ⟨hB3.cell mc0, ?_⟩
  have hlook := run_lookup1 (keyInt Try.runUnderlying3) (ve := Value.bool) (T := 38) (E := 4) (z := false) Try.runUnderlying38 Try.zeroValue4 hf m.kind
  rw [hfk] at hlook
  refine ⟨_, hlook, ⟨fun hc => ?_, fun hc => ?_⟩⟩
  · have hk : knownB m.kind = false := by simpa using hc
    have e : putE m = 12 := by simp [putE, hk]
    have := hbad (by rw [e]; decide) w3 hM3
    rwa [e] at this
  · have hk : knownB m.kind = true := by simpa using hc
    refine ldA.all hB3 mc_len (right_spec (hq.mod0 hM3) fun w4 hm4 => ?_)
    have hM4 := hM3.on0 hm4
    refine ⟨fun hc => ?_, fun hc => ?_⟩
    · have hr : rightB m = false := by simpa using hc
      have e : putE m = 2 := by simp [putE, hk, hr]
      have := hbad (by rw [e]; decide) w4 hM4
      rwa [e] at this
    · have hr : rightB m = true := by simpa using hc
      have e : putE m = 0 := by simp [putE, hk, hr]
      have hs := small_of (h := hr)
      have hbl := body_len hr
      have z4 := hM4.size
      refine newV.mk fun bi w5 hbi hBi hm5 => newV.mk fun bo w6 hbo hBo hm6 => ?_
      have li := hBi.lt
      have lo := hBo.lt
      have z5 := hm5.size
      have z6 := hm6.size
      have hB6 := (((hB3.mod0 hm4).mod0 hm5).mod0 hm6)
      have lb := (hB3.mod0 hm4).lt
      have hM6 := (hM4.on0 hm5).on0 hm6
      refine ldA.all hB6 mc_len ?_
      refine body_spec (A := fun c => c < w6.heap.size ∧ c ≠ bi) (w0 := w) ⟨Slc.nil, hBi.mod0 hm6, Mine.nil .., (fun e => by cases e), fun h => h.2 rfl⟩ (fun c h => h.1) hq hM6 (fun c hc => ⟨by omega, by omega⟩) hs fun w7 hw7 hk7 => ?_
      have z7 := hk7.size
      have hB7 := hB6.mod hk7 fun h => h ⟨by omega, by omega⟩
      have hBo7 := hBo.mod hk7 fun h => h ⟨by omega, by omega⟩
      have hM7 : Mod No w w7 := hM6.on hk7 fun c hc h => h ⟨by omega, by omega⟩
      refine ldI.mk hB7 mc0 ?_
      have hkn : 0 ≤ m.kind ∧ m.kind ≤ 20 := by
        unfold knownB at hk
        simp only [Bool.or_eq_true, beq_iff_eq] at hk
        omega
      let A2 : Nat → Prop := fun c => c < w7.heap.size ∧ c ≠ bo
      have hO7 : Wr A2 w7 bo [] := ⟨Slc.nil, hBo7, Mine.nil .., (fun e => by cases e), fun h => h.2 rfl⟩
      have hA2 : Low A2 w7 := fun c h => h.1
      refine number_spec (n := 1) hO7 hA2 (by simp) hkn.1 (by omega) (by omega) (by omega) fun w8 hw8 hk8 => ?_
      obtain ⟨si, hi1, hi2, hi3, hi4⟩ := hw7
      have hBi8 := hi1.mod hk8 fun h => h ⟨by omega, by omega⟩
      have hrd : RdB w8 si (bodyB m) := (hi2.1.mod hk8 fun c hc h => by
        have h1 := hi2.2 c hc
        refine h ⟨h1.2, fun e => h1.1 ⟨by omega, by omega⟩⟩).rd
      refine ldL.mk hBi8 rfl ⟨_, run_b2s Try.underlying25 Try.underlying5 Try.underlying9 hrd, ?_⟩
      refine text_spec (n := 3) hw8 (hA2.mod hk8) (by simp [numB_len]) (by omega) (by omega) (by omega) fun w9 hw9 hk9 => ?_
      obtain ⟨so, ho1, ho2, _, _⟩ := hw9
      refine ldL.mk ho1 rfl (hok e w9 so ?_ ?_)
      · have : Mine (Old w) w9 so _ := ho2.less fun c hc => ⟨by have : c < w.heap.size := hc; have := hM7.size; omega, by have : c < w.heap.size := hc; omega⟩
        simpa [putB] using this
      · exact hM7.on (Kp.on hk8 hk9) fun c hc h => h ⟨by have := hM7.size; omega, by omega⟩
end Go.Proofs.Yteoikkmpkhnalaa
