/-
  Hello: what may be.
-/
import Derived.Test.YteoikkmpkhnalaaHC
namespace Go.Proofs.Yteoikkmpkhnalaa
open Go Go.Sh
set_option linter.unusedVariables false
set_option linter.unusedSimpArgs false

def zeroH : Hd := ⟨List.replicate 16 0, rfl⟩
def sizeB (m : Msg) : Bool := decide (m.name.length ≤ 255) && decide (m.ticket.length ≤ 512)
def rightB (m : Msg) : Bool :=
  if m.kind = 1 then (if m.ticket.length = 0 ∧ (m.early = true ∨ m.binder ≠ zeroH) then false else namedB m 8 && sizeB m)
  else if m.kind = 4 then decide (0 ≤ m.life) && (decide (m.life ≤ 4294967295) && (decide (1 ≤ m.ticket.length) && decide (m.ticket.length ≤ 512)))
  else if m.kind = 8 then namedB m 1
  else if m.kind = 11 then decide (m.name.length ≤ 255)
  else true

theorem keyVH : KeyT Try.prog 23 Hd.enc (.array 16 5) :=
  keyHd Try.underlying23 Try.runUnderlying23 (i := Try.t5) (by kernel_rfl) Try.sizeOf5 (by kernel_rfl) Try.runUnderlying5 Try.isAgg5
theorem keyAH : KeyT Try.prog 22 Hd.enc (.array 16 5) :=
  keyHd Try.underlying22 Try.runUnderlying22 (i := Try.t5) (by kernel_rfl) Try.sizeOf5 (by kernel_rfl) Try.runUnderlying5 Try.isAgg5

variable {m : Msg} {q : Parts}

theorem dec1 {a : Nat} {c : Nat} (h : decide ((a : Int) ≤ (c : Int)) = decide (a ≤ c)) : decide ((a : Int) ≤ (c : Int)) = decide (a ≤ c) := h

theorem right_spec {w : World} {K : Bool → World → Prop} (hq : MsgAt w m q) (h : ∀ w', Mod No w w' → K (rightB m) w') : C11 (mcells m q).toArray w K := by
  refine br11 ?_
  unfold sh11
  refine newV.mk fun b w1 hb1 hB hm1 => ?_
  have hq1 := hq.mod0 hm1
  obtain ⟨l1, l2, l3⟩ := hq1.lens
  have h' := h w1 hm1
  unfold rightB at h'
  have c255 : decide ((m.name.length : Int) ≤ 255) = decide (m.name.length ≤ 255) := dec_cast (b := 255)
  have c512 : decide ((m.ticket.length : Int) ≤ 512) = decide (m.ticket.length ≤ 512) := dec_cast (b := 512)
  have c1 : decide ((m.ticket.length : Int) ≥ 1) = decide (1 ≤ m.ticket.length) := dec_cast (a := 1)
  simp only [add_at, Nat.zero_add]
  refine jn_in (ldI.mk hB mc0 ⟨fun hc => ?_, fun hc => ?_⟩)
  · have hk : m.kind = 1 := by simpa using hc
    rw [if_pos hk] at h'
    refine jn_in ?_
    refine jn.mk (fun c w' => w' = w1 ∧ (c = true ↔ m.ticket.length = 0 ∧ (m.early = true ∨ m.binder ≠ zeroH))) ?_ ?_
    · intro kk hkk
      refine ldL.mk hB mc36 ⟨fun hc1 => ldB.mk hB mc53 ⟨fun hc2 => ?_, fun hc2 => ?_⟩, fun hc1 => ?_⟩
      · have h0 : m.ticket.length = 0 := by have : (q.tk.len : Int) = 0 := by simpa using hc1
                                            omega
        exact hkk _ _ ⟨rfl, by simp [h0, hc2]⟩
      · have h0 : m.ticket.length = 0 := by have : (q.tk.len : Int) = 0 := by simpa using hc1
                                            omega
        refine ldA.part hB (by rw [mc_len]; omega) ?_
        rw [mc_binder]
        refine ⟨decide (m.binder = zeroH), fun w => keyVH.eq m.binder zeroH w, hkk _ _ ⟨rfl, ?_⟩⟩
        simp [h0, hc2]
      · have h0 : m.ticket.length ≠ 0 := by have : (q.tk.len : Int) ≠ 0 := by simpa using hc1
                                            omega
        exact hkk _ _ ⟨rfl, by simp [h0]⟩
    · rintro c _ ⟨rfl, hcc⟩
      refine ⟨fun hc1 => ?_, fun hc1 => ?_⟩
      · rw [if_pos (hcc.1 hc1)] at h'
        exact h'
      · have hn : ¬ (m.ticket.length = 0 ∧ (m.early = true ∨ m.binder ≠ zeroH)) := fun e => by rw [hcc.2 e] at hc1; cases hc1
        refine jn_in (ldA.all hB mc_len ?_)
        refine named_spec (most := 8) hq1 fun w2 hm2 => ?_
        have h2 := h w2 (hm1.on0 hm2)
        unfold rightB at h2
        rw [if_pos hk, if_neg hn] at h2
        have hB2 := hB.mod0 hm2
        refine ⟨fun hc2 => ?_, fun hc2 => ?_⟩
        · rw [hc2, Bool.true_and] at h2
          unfold sizeB at h2
          refine ldS.mk hB2 mc33 ?_
          rw [bsize, c255]
          refine ⟨fun hc3 => ldL.mk hB2 mc36 ?_, fun hc3 => ?_⟩
          · rw [hc3, Bool.true_and] at h2
            rw [l3, c512]
            exact h2
          · rw [hc3, Bool.false_and] at h2
            exact h2
        · rw [hc2, Bool.false_and] at h2
          exact h2
  · have hk : m.kind ≠ 1 := by simpa using hc
    rw [if_neg hk] at h'
    refine ⟨fun hc => ?_, fun hc => ?_⟩
    · have hk4 : m.kind = 4 := by simpa using hc
      rw [if_pos hk4] at h'
      refine jn_in (ldI.mk hB mc71 ?_)
      have e0 : decide (m.life ≥ 0) = decide (0 ≤ m.life) := rfl
      rw [e0]
      refine ⟨fun hc1 => ldI.mk hB mc71 ⟨fun hc2 => ldL.mk hB mc36 ?_, fun hc2 => ?_⟩, fun hc1 => ?_⟩
      · rw [hc1, hc2, Bool.true_and, Bool.true_and] at h'
        rw [l3, c1]
        refine ⟨fun hc3 => ldL.mk hB mc36 ?_, fun hc3 => ?_⟩
        · rw [hc3, Bool.true_and] at h'
          rw [l3, c512]
          exact h'
        · rw [hc3, Bool.false_and] at h'
          exact h'
      · rw [hc1, hc2, Bool.true_and, Bool.false_and] at h'
        exact h'
      · rw [hc1, Bool.false_and] at h'
        exact h'
    · have hk4 : m.kind ≠ 4 := by simpa using hc
      rw [if_neg hk4] at h'
      refine ⟨fun hc => ?_, fun hc => ?_⟩
      · have hk8 : m.kind = 8 := by simpa using hc
        refine ldA.all hB mc_len (named_spec (most := 1) hq1 fun w2 hm2 => ?_)
        have h2 := h w2 (hm1.on0 hm2)
        unfold rightB at h2
        rw [if_neg hk, if_neg hk4, if_pos hk8] at h2
        exact h2
      · have hk8 : m.kind ≠ 8 := by simpa using hc
        rw [if_neg hk8] at h'
        refine ⟨fun hc => ldS.mk hB mc33 ?_, fun hc => ?_⟩
        · have hk11 : m.kind = 11 := by simpa using hc
          rw [if_pos hk11] at h'
          rw [bsize, c255]
          exact h'
        · have hk11 : m.kind ≠ 11 := by simpa using hc
          rw [if_neg hk11] at h'
          exact h'
end Go.Proofs.Yteoikkmpkhnalaa
