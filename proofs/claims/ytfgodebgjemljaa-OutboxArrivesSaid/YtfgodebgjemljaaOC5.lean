/-
  Outbox: its calls, while nothing is lost.
-/
import Derived.Test.YtfgodebgjemljaaOB5
namespace Go.Proofs.Ytfgodebgjemljaa
open Go Go.Sh
set_option linter.unusedVariables false
set_option linter.unusedSimpArgs false

variable {w w' : World} {v : OF} {z : St}

/-! ### 1. Nothing is taken out of an empty set -/

theorem insert0_spec {sl : Slc} {i : Int} {K : Slc → World → Prop} (h0 : 0 ≤ i) (h1 : i ≤ sl.len) (h : K sl w) : C59 sl i Slc.nil w K := by
  refine br59 ?_
  unfold sh59
  exact ⟨h0, h1, jn_in (ifM.t rfl h)⟩

theorem replace0_spec {sl : Slc} {i : Int} {K : Slc → World → Prop} (h0 : 0 ≤ i) (h1 : i ≤ sl.len) (h2 : sl.len ≤ sl.cap) (h : K sl w) : C51 sl i i Slc.nil w K := by
  refine br51 ?_
  unfold sh51
  exact ⟨h0, Int.le_refl _, by omega, jn_in (ifM.t (by simp) (insert0_spec h0 h1 h))⟩

theorem remove0_spec {sb : Nat} {sl : Slc} {a b : Int} {K : Int → World → Prop} (hs : SetAt w sb sl none) (h0 : 0 ≤ a) (h1 : a ≤ b) (h2 : b ≤ 4611686018427387903)
    (h : ∀ w', SetAt w' sb sl none → Mod (· = sb) w w' → K 0 w') : C31 (some ⟨sb, 0, none⟩) a b w K := by
  refine br31 ?_
  unfold sh31
  have hl : (sl.len : Int) = 0 := by have := hs.len; simp [spanN] at this; omega
  refine jn_in (rwrong_spec hs h0 h1 h2 (ifM.f rfl (from_spec hs ⟨by omega, by omega⟩ fun w1 hm1 => ?_)))
  have hs1 := hs.mod0 hm1
  have e0 : fromI none a = 0 := rfl
  rw [e0]
  refine jn_in (Lp.unroll (jn_in (jn_in (nn.mk ?_))))
  rw [add_at]
  refine ldL.mk hs1.box rfl ?_
  rw [hl]
  refine ifM.f (by decide) (ifM.f rfl (jn_in (nn.mk ?_)))
  rw [add_at]
  refine ldL.mk hs1.box rfl ?_
  rw [hl]
  refine ifM.f (by decide) (nn.mk ?_)
  rw [add_at]
  refine ldL.mk hs1.box rfl (replace0_spec (by decide) (by omega) hs1.cap (nn.mk ?_))
  rw [add_at]
  refine stV.mk hs1.box (by simp) fun w2 hB hm2 => h w2 ⟨hB, hs1.sp.mod hm2 fun b hb e => hs.ne b hb e, hs.ne, hs.ok⟩ (hm1.of0.on hm2 fun _ _ h => h)

/-! ### 2. Done -/

theorem done_spec {K : Bool → World → Prop} (hv : BoxAt w v z) (h : ∀ w', Mod No w w' → K (decide (z.fin = 4 ∧ z.kept = [])) w') : C11 v.ptr w K := by
  refine br11 ?_
  unfold sh11
  refine drw.mk fun w1 hm1 => jn_in ?_
  have hv1 := hv.mod0 hm1
  refine onone_spec hv1 (ifM.t rfl (nn.mk ?_))
  rw [add_at]
  refine ldI.mk hv1.box rfl (nn.mk ?_)
  rw [add_at]
  refine ldL.mk hv1.box rfl ?_
  rw [hv1.klen]
  refine ⟨decide (z.fin = 4 ∧ z.kept = []), fun w => ?_, h w1 hm1⟩
  have key : ∀ d (a b : Int), (Op.equalIn (d + 2) 75 (.agg (#[.int .i64 a, .int .i64 b])) (.agg (#[.int .i64 4, .int .i64 0]))).run Try.prog w = .ok (decide (a = 4 ∧ b = 0)) w := fun d a b => by
    have hc : Try.prog.cellsOf 3 = 1 := by kernel_rfl
    rw [run_equalIn_array (P := Try.prog) (w := w) (d + 1) _ _ Try.underlying75 (i := Try.t3) (by kernel_rfl), hc]
    have p0 : ∀ (x y : Int), (part 3 #[.int .i64 x, .int .i64 y] 0).run Try.prog w = .ok (.int .i64 x) w := fun x y => part1 Try.isAgg3 rfl
    have p1 : ∀ (x y : Int), (part 3 #[.int .i64 x, .int .i64 y] 1).run Try.prog w = .ok (.int .i64 y) w := fun x y => part1 Try.isAgg3 rfl
    have q : ∀ (x y : Int), (Op.equalIn (d + 1) 3 (.int .i64 x) (.int .i64 y)).run Try.prog w = .ok (decide (x = y)) w := fun x y => eqIn_int Try.runUnderlying3 x y
    show (Op.eqItems (d + 1) 3 1 _ _ [0, 1]).run Try.prog w = _
    simp only [Op.eqItems, Sem.run_bind, Nat.zero_mul, Nat.mul_one, p0, p1, q, Result.andThen_ok]
    by_cases h1 : a = 4 <;> by_cases h2 : b = 0 <;> simp [h1, h2, p1, q]
  have := key 9998 z.fin z.kept.length
  have e : decide (z.fin = 4 ∧ (z.kept.length : Int) = 0) = decide (z.fin = 4 ∧ z.kept = []) := by
    have : ((z.kept.length : Int) = 0) ↔ z.kept = [] := by
      rw [← List.length_eq_zero_iff]
      omega
    simp only [this]
  rw [e] at this
  unfold rn
  simpa [Op.equal, Op.maxDepth] using this
end Go.Proofs.Ytfgodebgjemljaa
