/-
  Hello: the reference: what may be.
-/
import Derived.Test.YteoikkmpkhnalaaHH
namespace Go.Proofs.Yteoikkmpkhnalaa
open Go Go.Sh
set_option linter.unusedVariables false
set_option linter.unusedSimpArgs false

variable {m : Msg} {q : Parts}

theorem right1 {c : Bool} (hk : m.kind = 1) (hc : c = true ↔ ¬ (m.ticket.length = 0 ∧ (m.early = true ∨ m.binder ≠ zeroH))) :
    rightB m = (decide (m.name.length ≤ 255) && (protosB m.protos 8 && (decide (m.params.length ≤ 4096) && (decide (m.ticket.length ≤ 512) && c)))) := by
  unfold rightB
  rw [if_pos hk]
  by_cases h : m.ticket.length = 0 ∧ (m.early = true ∨ m.binder ≠ zeroH)
  · have : c = false := by
      cases c with
      | false => rfl
      | true => exact absurd h (hc.1 rfl)
    rw [if_pos h, this]
    simp
  · have : c = true := hc.2 h
    rw [if_neg h, this, Bool.eq_iff_iff]
    simp only [namedB, sizeB, protosB, Bool.and_eq_true, and_true]
    constructor
    · rintro ⟨⟨a1, a2, a3, a4⟩, a5, a6⟩
      exact ⟨a5, ⟨a1, a2, a3⟩, a4, a6⟩
    · rintro ⟨a5, ⟨a1, a2, a3⟩, a4, a6⟩
      exact ⟨⟨a1, a2, a3, a4⟩, a5, a6⟩
theorem right8 (hk : m.kind = 8) : rightB m = (protosB m.protos 1 && decide (m.params.length ≤ 4096)) := by
  unfold rightB
  rw [if_neg (by omega), if_neg (by omega), if_pos hk, Bool.eq_iff_iff]
  simp only [namedB, protosB, Bool.and_eq_true]
  constructor
  · rintro ⟨a1, a2, a3, a4⟩
    exact ⟨⟨a1, a2, a3⟩, a4⟩
  · rintro ⟨⟨a1, a2, a3⟩, a4⟩
    exact ⟨a1, a2, a3, a4⟩

theorem may_spec {w : World} {K : Bool → World → Prop} (hq : MsgAt w m q) (h : ∀ w', Mod No w w' → K (rightB m) w') : C16 (mcells m q).toArray w K := by
  refine br16 ?_
  unfold sh16
  refine newV.mk fun b w1 hb1 hB hm1 => ?_
  have hq1 := hq.mod0 hm1
  obtain ⟨l1, l2, l3⟩ := hq1.lens
  have h' := h w1 hm1
  have c255 : decide ((m.name.length : Int) ≤ 255) = decide (m.name.length ≤ 255) := dec_cast (b := 255)
  have c512 : decide ((m.ticket.length : Int) ≤ 512) = decide (m.ticket.length ≤ 512) := dec_cast (b := 512)
  have c4096 : decide ((m.params.length : Int) ≤ 4096) = decide (m.params.length ≤ 4096) := dec_cast (b := 4096)
  have c1 : decide ((m.ticket.length : Int) ≥ 1) = decide (1 ≤ m.ticket.length) := dec_cast (a := 1)
  have hp := hq1.protos
  simp only [add_at, Nat.zero_add]
  refine jn_in (ldI.mk hB mc0 ⟨fun hc => ?_, fun hc => ?_⟩)
  · have hk : m.kind = 1 := by simpa using hc
    refine jn.mk (fun c w' => w' = w1 ∧ (c = true ↔ ¬ (m.ticket.length = 0 ∧ (m.early = true ∨ m.binder ≠ zeroH)))) ?_ ?_
    · intro kk hkk
      refine ldL.mk hB mc36 ?_
      rw [l3]
      refine ⟨fun hc1 => hkk _ _ ⟨rfl, ?_⟩, fun hc1 => ?_⟩
      · have : (m.ticket.length : Int) > 0 := of_decide_eq_true hc1
        exact ⟨fun _ h => by omega, fun _ => rfl⟩
      · have h0 : m.ticket.length = 0 := by have : ¬ (m.ticket.length : Int) > 0 := of_decide_eq_false hc1; omega
        refine ldB.mk hB mc53 ⟨fun hc2 => ?_, fun hc2 => hkk _ _ ⟨rfl, ?_⟩⟩
        · refine ldA.part hB (by rw [mc_len]; omega) ?_
          rw [mc_binder]
          refine ⟨decide (m.binder = zeroH), fun w => keyAH.eq m.binder zeroH w, hkk _ _ ⟨rfl, ?_⟩⟩
          have he : m.early = false := by simpa using hc2
          simp [h0, he]
        · have he : m.early = true := by simpa using hc2
          simp [h0, he]
    · rintro c w2 ⟨rfl, hcc⟩
      rw [right1 hk hcc] at h'
      refine jn_in (ldS.mk hB mc33 ?_)
      rw [bsize, c255]
      refine ⟨fun hc => ldL.mk hB mc34 ?_, fun hc => ?_⟩
      · rw [hc, Bool.true_and] at h'
        refine rprotos_spec (most := 8) hq1.ps (by omega) ⟨fun hc => ldL.mk hB mc35 ?_, fun hc => ?_⟩
        · rw [hc, Bool.true_and] at h'
          rw [l2, c4096]
          refine ⟨fun hc => ldL.mk hB mc36 ?_, fun hc => ?_⟩
          · rw [hc, Bool.true_and] at h'
            rw [l3, c512]
            refine ⟨fun hc => ?_, fun hc => ?_⟩
            · rw [hc, Bool.true_and] at h'
              exact h'
            · rw [hc, Bool.false_and] at h'
              exact h'
          · rw [hc, Bool.false_and] at h'
            exact h'
        · rw [hc, Bool.false_and] at h'
          exact h'
      · rw [hc, Bool.false_and] at h'
        exact h'
  · have hk : m.kind ≠ 1 := by simpa using hc
    refine ⟨fun hc => ?_, fun hc => ?_⟩
    · have hk4 : m.kind = 4 := by simpa using hc
      unfold rightB at h'
      rw [if_neg hk, if_pos hk4] at h'
      refine jn_in (ldI.mk hB mc71 ?_)
      have e0 : decide (m.life ≥ 0) = decide (0 ≤ m.life) := rfl
      rw [e0]
      refine ⟨fun hc1 => ldI.mk hB mc71 ⟨fun hc2 => ldL.mk hB mc36 ?_, fun hc2 => ?_⟩, fun hc1 => ?_⟩
      · rw [hc1, hc2, Bool.true_and, Bool.true_and] at h'
        rw [l3, c1]
        refine ⟨fun hc3 => ldL.mk hB mc36 ?_, fun hc3 => ?_⟩
        · rw [hc3, Bool.true_and] at h'
          rw [l3, c512]
          exact h'
        · rw [hc3, Bool.false_and] at h'
          exact h'
      · rw [hc1, hc2, Bool.true_and, Bool.false_and] at h'
        exact h'
      · rw [hc1, Bool.false_and] at h'
        exact h'
    · have hk4 : m.kind ≠ 4 := by simpa using hc
      refine ⟨fun hc => ?_, fun hc => ?_⟩
      · have hk8 : m.kind = 8 := by simpa using hc
        rw [right8 hk8] at h'
        refine jn_in (ldL.mk hB mc34 (rprotos_spec (most := 1) hq1.ps (by omega) ⟨fun hc => ldL.mk hB mc35 ?_, fun hc => ?_⟩))
        · rw [hc, Bool.true_and] at h'
          rw [l2, c4096]
          exact h'
        · rw [hc, Bool.false_and] at h'
          exact h'
      · have hk8 : m.kind ≠ 8 := by simpa using hc
        unfold rightB at h'
        rw [if_neg hk, if_neg hk4, if_neg hk8] at h'
        refine ⟨fun hc => ldS.mk hB mc33 ?_, fun hc => ?_⟩
        · have hk11 : m.kind = 11 := by simpa using hc
          rw [if_pos hk11] at h'
          rw [bsize, c255]
          exact h'
        · have hk11 : m.kind ≠ 11 := by simpa using hc
          rw [if_neg hk11] at h'
          exact h'
end Go.Proofs.Yteoikkmpkhnalaa
