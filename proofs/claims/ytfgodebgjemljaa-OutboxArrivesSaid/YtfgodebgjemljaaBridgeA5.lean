/-
  Printed by a program: the plain texts of the functions, and their ties to the code.
-/
import Derived.Test.YtfgodebgjemljaaPlain5
namespace Go.Proofs.Ytfgodebgjemljaa
open Go Go.Sh
set_option linter.unusedVariables false
set_option linter.unusedSimpArgs false
set_option maxRecDepth 20000 in
theorem br27 {w : World} {K : Option Addr → World → Prop} (h : sh27 w K) : C27 w K := by
  unfold sh27 at h
  refine enter (n := 3) (l := []) 3 Try.func27 rfl _ rfl rfl rfl fun a hF => ?_
  refine seq_region fun K1 hK2 => ?_
  refine RL.val  hF rfl rfl rfl (r_assign hF rfl rfl) ?_; clear hF; clear a; intro a hF
  refine RL.nil (hK2 _ _ ?_)
  clear hK2 K1
  refine seq_region fun K3 hK4 => ?_
  refine RL.val (v := .agg (#[.bool true, Slc.nil.v])) (w' := w) hF rfl rfl rfl (r_build (xs := [(0, .bool true)]) hF rfl rfl (by kernel_rfl)) ?_; clear hF; clear a; intro a hF
  obtain ⟨p5, w6, hp_, hw_, h⟩ := h
  refine RL.val (v := .pointer (some p5)) (w' := w6) hF rfl rfl rfl (by rw [hp_, hw_]; exact r_box hF rfl rfl rfl) ?_; clear hF; clear a; intro a hF
  refine RL.val  hF rfl rfl rfl (r_assign hF rfl rfl) ?_; clear hF; clear a; intro a hF
  refine RL.nil (hK4 _ _ ?_)
  clear hK4 K3
  refine wp_ret ?_
  exact ret_of hF (res1 hF rfl rfl) ⟨_, rfl, h⟩

set_option maxRecDepth 20000 in
theorem br6 {a0 : Int} {w : World} {K : Option Addr → Int → World → Prop} (h : sh6 a0 w K) : C6 a0 w K := by
  unfold sh6 at h
  refine enter (n := 15) (l := [(0, .int .i64 a0)]) 14 Try.func6 rfl _ rfl rfl rfl fun a hF => ?_
  refine seq_region fun K1 hK2 => ?_
  refine RL.val  hF rfl rfl rfl (r_assign hF rfl rfl) ?_; clear hF; clear a; intro a hF
  refine RL.val  hF rfl rfl rfl (r_assign hF rfl rfl) ?_; clear hF; clear a; intro a hF
  refine RL.nil (hK2 _ _ ?_)
  clear hK2 K1
  refine seq_k fun K3 hK4 => ?_
  obtain ⟨J, hJ, h⟩ := jn_open h
  have jn8 : ∀ (v5 : Unit) (w6 : World) a, Fr 15 a [(0, .int .i64 a0)] → J v5 w6 → K3 a w6 := by
    intro v5 w6 a hF h
    replace h := hJ _ _ h
    clear hJ
    refine hK4 _ _ ?_
    refine seq_region fun K9 hK10 => ?_
    refine RL.val  hF rfl rfl rfl (r_move hF rfl rfl) ?_; clear hF; clear a; intro a hF
    refine RL.call hF rfl rfl rfl (r_call (xs := []) hF rfl rfl Try.call27) (CallsV.mono h ?_)
    clear h; rintro _ w11 ⟨r12, rfl, h⟩; clear hF; clear a; intro a hF
    refine RL.call hF rfl rfl rfl (r_call (xs := []) hF rfl rfl Try.call27) (CallsV.mono h ?_)
    clear h; rintro _ w13 ⟨r14, rfl, h⟩; clear hF; clear a; intro a hF
    refine RL.val (v := .agg (#[.int .i64 a0, .int .i64 0, Slc.nil.v, .int .i64 0, .pointer r12, .pointer r14, .int .i64 0])) (w' := w13) hF rfl rfl rfl (r_build (xs := [(0, .int .i64 a0), (4, .pointer r12), (5, .pointer r14)]) hF rfl rfl (by kernel_rfl)) ?_; clear hF; clear a; intro a hF
    obtain ⟨p15, w16, hp_, hw_, h⟩ := h
    refine RL.val (v := .pointer (some p15)) (w' := w16) hF rfl rfl rfl (by rw [hp_, hw_]; exact r_box hF rfl rfl rfl) ?_; clear hF; clear a; intro a hF
    refine RL.val  hF rfl rfl rfl (r_assign hF rfl rfl) ?_; clear hF; clear a; intro a hF
    refine RL.val  hF rfl rfl rfl (r_assign hF rfl rfl) ?_; clear hF; clear a; intro a hF
    refine RL.nil (hK10 _ _ ?_)
    clear hK10 K9
    refine wp_ret ?_
    exact ret_of hF (res2 hF rfl rfl rfl) ⟨_, _, rfl, h⟩
  clear hJ
  refine seq_region fun K17 hK18 => ?_
  obtain ⟨J21, hJ, h⟩ := jn_open h
  have jn22 : ∀ (v19 : Bool) (w20 : World) a, Fr 15 a [(0, .int .i64 a0), (9, .bool v19)] → J21 v19 w20 → K17 a w20 := by
    clear hF
    intro v19 w20 a hF h; replace h := hJ _ _ h; refine hK18 _ _ ?_; clear hJ hK18 K17
    obtain ⟨ht, hf⟩ := h
    refine cond_ hF rfl (fun hc => ?_) (fun hc => ?_)
    · replace h := ht hc; clear ht hf
      refine seq_region fun K23 hK24 => ?_
      refine RL.val  hF rfl rfl rfl (r_assign hF rfl rfl) ?_; clear hF; clear a; intro a hF
      refine RL.val  hF rfl rfl rfl (r_assign hF rfl rfl) ?_; clear hF; clear a; intro a hF
      refine RL.nil (hK24 _ _ ?_)
      clear hK24 K23
      refine wp_ret ?_
      exact ret_of hF (res2 hF rfl rfl rfl) ⟨_, _, rfl, h⟩
    · replace h := hf hc; clear ht hf
      refine wp_skip ?_
      exact jn8 () _ _ (hF.sub rfl) h
  clear hJ hK18
  refine RL.val  hF rfl rfl rfl (r_move hF rfl rfl) ?_; clear hF; clear a; intro a hF
  refine RL.val  hF rfl rfl rfl (r_lss hF rfl rfl rfl) ?_; clear hF; clear a; intro a hF
  refine RL.val  hF rfl rfl rfl (r_move hF rfl rfl) ?_; clear hF; clear a; intro a hF
  obtain ⟨ht, hf⟩ := h
  rcases bool_cases (decide (a0 < 0)) with hg25 | hg25
  · replace h := ht hg25; clear ht hf
    refine RL.skip hF rfl rfl (lkb rfl hg25) (.inl rfl) rfl rfl ?_; clear hF; clear a; intro a hF
    refine RL.skip hF rfl rfl (lkb rfl hg25) (.inl rfl) rfl rfl ?_; clear hF; clear a; intro a hF
    refine RL.val (v := .bool true) (w' := w) hF rfl rfl rfl (r_pick hF rfl rfl rfl rfl (fun _ => rfl) (fun e => absurd (hg25.symm.trans e) (by decide))) ?_; clear hF; clear a; intro a hF
    refine RL.nil ?_
    exact jn22 true _ _ (hF.sub rfl) h
  · replace h := hf hg25; clear ht hf
    refine RL.gval  hF rfl rfl (lkb rfl hg25) rfl rfl (r_move hF rfl rfl) ?_; clear hF; clear a; intro a hF
    refine RL.gval  hF rfl rfl (lkb rfl hg25) rfl rfl (r_gtr hF rfl rfl rfl) ?_; clear hF; clear a; intro a hF
    refine RL.val (v := .bool (decide (a0 > 1048576))) (w' := w) hF rfl rfl rfl (r_pick hF rfl rfl rfl rfl (fun e => absurd (hg25.symm.trans e) (by decide)) (fun _ => rfl)) ?_; clear hF; clear a; intro a hF
    refine RL.nil ?_
    exact jn22 (decide (a0 > 1048576)) _ _ (hF.sub rfl) h

set_option maxRecDepth 20000 in
theorem br24 {a0 : Int} {w : World} {K : Option Addr → Int → World → Prop} (h : sh24 a0 w K) : C24 a0 w K := by
  unfold sh24 at h
  refine enter (n := 15) (l := [(0, .int .i64 a0)]) 14 Try.func24 rfl _ rfl rfl rfl fun a hF => ?_
  refine seq_region fun K1 hK2 => ?_
  refine RL.val  hF rfl rfl rfl (r_assign hF rfl rfl) ?_; clear hF; clear a; intro a hF
  refine RL.val  hF rfl rfl rfl (r_assign hF rfl rfl) ?_; clear hF; clear a; intro a hF
  refine RL.nil (hK2 _ _ ?_)
  clear hK2 K1
  refine seq_k fun K3 hK4 => ?_
  obtain ⟨J, hJ, h⟩ := jn_open h
  have jn8 : ∀ (v5 : Unit) (w6 : World) a, Fr 15 a [(0, .int .i64 a0)] → J v5 w6 → K3 a w6 := by
    intro v5 w6 a hF h
    replace h := hJ _ _ h
    clear hJ
    refine hK4 _ _ ?_
    refine seq_region fun K9 hK10 => ?_
    refine RL.val  hF rfl rfl rfl (r_move hF rfl rfl) ?_; clear hF; clear a; intro a hF
    refine RL.val  hF rfl rfl rfl (r_move hF rfl rfl) ?_; clear hF; clear a; intro a hF
    obtain ⟨m11, w12, hp_, hw_, h⟩ := h
    refine RL.val (v := .map m11) (w' := w12) hF rfl rfl rfl (by rw [hp_, hw_]; exact r_makeMap rfl) ?_; clear hF; clear a; intro a hF
    refine RL.val (v := .agg (#[.bool true, .int .i64 a0, .int .i64 0, .int .i64 a0, .int .i64 0, .int .i64 0, .bool false, .map m11])) (w' := w12) hF rfl rfl rfl (r_build (xs := [(0, .bool true), (1, .int .i64 a0), (3, .int .i64 a0), (7, .map m11)]) hF rfl rfl (by kernel_rfl)) ?_; clear hF; clear a; intro a hF
    obtain ⟨p13, w14, hp_, hw_, h⟩ := h
    refine RL.val (v := .pointer (some p13)) (w' := w14) hF rfl rfl rfl (by rw [hp_, hw_]; exact r_box hF rfl rfl rfl) ?_; clear hF; clear a; intro a hF
    refine RL.val  hF rfl rfl rfl (r_assign hF rfl rfl) ?_; clear hF; clear a; intro a hF
    refine RL.val  hF rfl rfl rfl (r_assign hF rfl rfl) ?_; clear hF; clear a; intro a hF
    refine RL.nil (hK10 _ _ ?_)
    clear hK10 K9
    refine wp_ret ?_
    exact ret_of hF (res2 hF rfl rfl rfl) ⟨_, _, rfl, h⟩
  clear hJ
  refine seq_region fun K15 hK16 => ?_
  obtain ⟨J19, hJ, h⟩ := jn_open h
  have jn20 : ∀ (v17 : Bool) (w18 : World) a, Fr 15 a [(0, .int .i64 a0), (9, .bool v17)] → J19 v17 w18 → K15 a w18 := by
    clear hF
    intro v17 w18 a hF h; replace h := hJ _ _ h; refine hK16 _ _ ?_; clear hJ hK16 K15
    obtain ⟨ht, hf⟩ := h
    refine cond_ hF rfl (fun hc => ?_) (fun hc => ?_)
    · replace h := ht hc; clear ht hf
      refine seq_region fun K21 hK22 => ?_
      refine RL.val  hF rfl rfl rfl (r_assign hF rfl rfl) ?_; clear hF; clear a; intro a hF
      refine RL.val  hF rfl rfl rfl (r_assign hF rfl rfl) ?_; clear hF; clear a; intro a hF
      refine RL.nil (hK22 _ _ ?_)
      clear hK22 K21
      refine wp_ret ?_
      exact ret_of hF (res2 hF rfl rfl rfl) ⟨_, _, rfl, h⟩
    · replace h := hf hc; clear ht hf
      refine wp_skip ?_
      exact jn8 () _ _ (hF.sub rfl) h
  clear hJ hK16
  refine RL.val  hF rfl rfl rfl (r_move hF rfl rfl) ?_; clear hF; clear a; intro a hF
  refine RL.val  hF rfl rfl rfl (r_lss hF rfl rfl rfl) ?_; clear hF; clear a; intro a hF
  refine RL.val  hF rfl rfl rfl (r_move hF rfl rfl) ?_; clear hF; clear a; intro a hF
  obtain ⟨ht, hf⟩ := h
  rcases bool_cases (decide (a0 < 0)) with hg23 | hg23
  · replace h := ht hg23; clear ht hf
    refine RL.skip hF rfl rfl (lkb rfl hg23) (.inl rfl) rfl rfl ?_; clear hF; clear a; intro a hF
    refine RL.skip hF rfl rfl (lkb rfl hg23) (.inl rfl) rfl rfl ?_; clear hF; clear a; intro a hF
    refine RL.val (v := .bool true) (w' := w) hF rfl rfl rfl (r_pick hF rfl rfl rfl rfl (fun _ => rfl) (fun e => absurd (hg23.symm.trans e) (by decide))) ?_; clear hF; clear a; intro a hF
    refine RL.nil ?_
    exact jn20 true _ _ (hF.sub rfl) h
  · replace h := hf hg23; clear ht hf
    refine RL.gval  hF rfl rfl (lkb rfl hg23) rfl rfl (r_move hF rfl rfl) ?_; clear hF; clear a; intro a hF
    refine RL.gval  hF rfl rfl (lkb rfl hg23) rfl rfl (r_gtr hF rfl rfl rfl) ?_; clear hF; clear a; intro a hF
    refine RL.val (v := .bool (decide (a0 > 1048576))) (w' := w) hF rfl rfl rfl (r_pick hF rfl rfl rfl rfl (fun e => absurd (hg23.symm.trans e) (by decide)) (fun _ => rfl)) ?_; clear hF; clear a; intro a hF
    refine RL.nil ?_
    exact jn20 (decide (a0 > 1048576)) _ _ (hF.sub rfl) h

set_option maxRecDepth 20000 in
theorem br28 {a0 : Option Addr} {w : World} {K : Bool → World → Prop} (h : sh28 a0 w K) : C28 a0 w K := by
  unfold sh28 at h
  refine enter (n := 12) (l := [(0, .pointer a0)]) 11 Try.func28 rfl _ rfl rfl rfl fun a hF => ?_
  refine seq_region fun K1 hK2 => ?_
  refine RL.val  hF rfl rfl rfl (r_assign hF rfl rfl) ?_; clear hF; clear a; intro a hF
  refine RL.nil (hK2 _ _ ?_)
  clear hK2 K1
  refine seq_region fun K3 hK4 => ?_
  obtain ⟨J7, hJ, h⟩ := jn_open h
  have jn8 : ∀ (v5 : Bool) (w6 : World) a, Fr 12 a [(2, .bool v5)] → J7 v5 w6 → K3 a w6 := by
    clear hF
    intro v5 w6 a hF h; replace h := hJ _ _ h; refine hK4 _ _ ?_; clear hJ hK4 K3
    refine wp_ret ?_
    exact ret_of hF (res1 hF rfl rfl) ⟨_, rfl, h⟩
  clear hJ hK4
  refine RL.val  hF rfl rfl rfl (r_move hF rfl rfl) ?_; clear hF; clear a; intro a hF
  refine RL.val  hF rfl rfl rfl (r_ptrnil hF rfl rfl rfl Try.runUnderlying23) ?_; clear hF; clear a; intro a hF
  refine RL.val  hF rfl rfl rfl (r_move hF rfl rfl) ?_; clear hF; clear a; intro a hF
  obtain ⟨ht, hf⟩ := h
  rcases bool_cases a0.isNone with hg9 | hg9
  · replace h := ht hg9; clear ht hf
    refine RL.skip hF rfl rfl (lkb rfl hg9) (.inl rfl) rfl rfl ?_; clear hF; clear a; intro a hF
    refine RL.skip hF rfl rfl (lkb rfl hg9) (.inl rfl) rfl rfl ?_; clear hF; clear a; intro a hF
    refine RL.skip hF rfl rfl (lkb rfl hg9) (.inl rfl) rfl rfl ?_; clear hF; clear a; intro a hF
    refine RL.skip hF rfl rfl (lkb rfl hg9) (.inl rfl) rfl rfl ?_; clear hF; clear a; intro a hF
    refine RL.skip hF rfl rfl (lkb rfl hg9) (.inl rfl) rfl rfl ?_; clear hF; clear a; intro a hF
    refine RL.val (v := .bool true) (w' := w) hF rfl rfl rfl (r_pick hF rfl rfl rfl rfl (fun _ => rfl) (fun e => absurd (hg9.symm.trans e) (by decide))) ?_; clear hF; clear a; intro a hF
    refine RL.val  hF rfl rfl rfl (r_assign hF rfl rfl) ?_; clear hF; clear a; intro a hF
    refine RL.nil ?_
    exact jn8 true _ _ (hF.sub rfl) h
  · replace h := hf hg9; clear ht hf
    refine RL.gval  hF rfl rfl (lkb rfl hg9) rfl rfl (r_move hF rfl rfl) ?_; clear hF; clear a; intro a hF
    obtain ⟨p10, hpp10, h⟩ := h
    refine RL.gval  hF rfl rfl (lkb rfl hg9) rfl rfl (r_nilCheck hF rfl (lkp rfl hpp10)) ?_; clear hF; clear a; intro a hF
    refine RL.gval  hF rfl rfl (lkb rfl hg9) rfl rfl (r_fieldAddr hF rfl rfl Try.runUnderlying70 rfl Try.sizeOf67 rfl) ?_; clear hF; clear a; intro a hF
    obtain ⟨t11, hct11, h⟩ := h
    refine RL.gval  hF rfl rfl (lkb rfl hg9) rfl rfl (r_load hF rfl rfl Try.isAgg67 hct11) ?_; clear hF; clear a; intro a hF
    refine RL.gval  hF rfl rfl (lkb rfl hg9) rfl rfl (r_ptrnil hF rfl rfl rfl Try.runUnderlying67) ?_; clear hF; clear a; intro a hF
    refine RL.val (v := .bool t11.isNone) (w' := w) hF rfl rfl rfl (r_pick hF rfl rfl rfl rfl (fun e => absurd (hg9.symm.trans e) (by decide)) (fun _ => rfl)) ?_; clear hF; clear a; intro a hF
    refine RL.val  hF rfl rfl rfl (r_assign hF rfl rfl) ?_; clear hF; clear a; intro a hF
    refine RL.nil ?_
    exact jn8 t11.isNone _ _ (hF.sub rfl) h

set_option maxRecDepth 20000 in
theorem br7 {a0 : Option Addr} {a1 : Slc} {w : World} {K : Int → Int → World → Prop} (h : sh7 a0 a1 w K) : C7 a0 a1 w K := by
  unfold sh7 at h
  refine enter (n := 41) (l := [(0, .pointer a0), (1, a1.v)]) 39 Try.func7 rfl _ rfl rfl rfl fun a hF => ?_
  refine seq_region fun K1 hK2 => ?_
  refine RL.val  hF rfl rfl rfl (r_assign hF rfl rfl) ?_; clear hF; clear a; intro a hF
  refine RL.val  hF rfl rfl rfl (r_assign hF rfl rfl) ?_; clear hF; clear a; intro a hF
  refine RL.nil (hK2 _ _ ?_)
  clear hK2 K1
  refine seq_k fun K3 hK4 => ?_
  obtain ⟨J, hJ, h⟩ := jn_open h
  have jn8 : ∀ (v5 : Unit) (w6 : World) a, Fr 41 a [(0, .pointer a0), (1, a1.v)] → J v5 w6 → K3 a w6 := by
    intro v5 w6 a hF h
    replace h := hJ _ _ h
    clear hJ
    refine hK4 _ _ ?_
    refine seq_draw 0 #[0, 1, 0, 4, 12, 28, 0, 64, 192, 448, 960, 2044, 4095, 8191] 14 mo rfl (by kernel_rfl) (by kernel_rfl) fun hS K9 hK10 => ?_
    obtain ⟨w11, hw, h⟩ := h; rw [← hw]; clear hw
    refine GL.val (v := a1.v) (i := 0) hF hS rfl rfl (by kernel_rfl) rfl rfl rfl rfl (fun x => r_move hF rfl rfl) ?_; clear hF; clear a; intro a hF
    refine GL.val (v := .int .i64 (a1.len : Int)) (i := 1) hF hS rfl rfl (by kernel_rfl) rfl rfl rfl rfl (fun x => r_len_slice hF rfl rfl Try.runUnderlying22) ?_; clear hF; clear a; intro a hF
    refine GL.val (v := .pointer a0) (i := 2) hF hS rfl rfl (by kernel_rfl) rfl rfl rfl rfl (fun x => r_move hF rfl rfl) ?_; clear hF; clear a; intro a hF
    obtain ⟨p12, hpp12, h⟩ := h
    refine GL.val (v := .pointer (some p12)) (i := 3) hF hS rfl rfl (by kernel_rfl) rfl rfl rfl rfl (fun x => r_nilCheck hF rfl (lkp rfl hpp12)) ?_; clear hF; clear a; intro a hF
    refine GL.val (v := .pointer (some p12)) (i := 4) hF hS rfl rfl (by kernel_rfl) rfl rfl rfl rfl (fun x => r_fieldAddr0 hF rfl rfl Try.runUnderlying70 rfl Try.sizeOf3 rfl) ?_; clear hF; clear a; intro a hF
    obtain ⟨t13, hct13, h⟩ := h
    refine GL.read (v := .int .i64 t13) (i := 5) hF (fun x => World.cell? x p12 = some (.int .i64 t13)) hS rfl rfl (by kernel_rfl) rfl rfl rfl rfl hct13 (fun x hx => r_load hF rfl rfl Try.isAgg3 hx) ?_; clear hF; clear a; intro a hF
    refine GL.val (v := .pointer a0) (i := 6) hF hS rfl rfl (by kernel_rfl) rfl rfl rfl rfl (fun x => r_move hF rfl rfl) ?_; clear hF; clear a; intro a hF
    obtain ⟨p14, hpp14, h⟩ := h
    refine GL.val (v := .pointer (some p14)) (i := 7) hF hS rfl rfl (by kernel_rfl) rfl rfl rfl rfl (fun x => r_nilCheck hF rfl (lkp rfl hpp14)) ?_; clear hF; clear a; intro a hF
    refine GL.val (v := .pointer (some (p14.add 2))) (i := 8) hF hS rfl rfl (by kernel_rfl) rfl rfl rfl rfl (fun x => r_fieldAddr hF rfl rfl Try.runUnderlying70 rfl Try.sizeOf22 rfl) ?_; clear hF; clear a; intro a hF
    obtain ⟨t15, hct15, h⟩ := h
    refine GL.read (v := t15.v) (i := 9) hF (fun x => World.cell? x (p14.add 2) = some (t15.v)) hS rfl rfl (by kernel_rfl) rfl rfl rfl rfl hct15 (fun x hx => r_load hF rfl rfl Try.isAgg22 hx) ?_; clear hF; clear a; intro a hF
    refine GL.val (v := .int .i64 (t15.len : Int)) (i := 10) hF hS rfl rfl (by kernel_rfl) rfl rfl rfl rfl (fun x => r_len_slice hF rfl rfl Try.runUnderlying22) ?_; clear hF; clear a; intro a hF
    refine GL.val (v := .int .i64 (IntKind.i64.wrap (t13 - (t15.len : Int)))) (i := 11) hF hS rfl rfl (by kernel_rfl) rfl rfl rfl rfl (fun x => r_sub hF rfl rfl rfl) ?_; clear hF; clear a; intro a hF
    refine GL.val (v := .int .i64 (if (IntKind.i64.wrap (t13 - (t15.len : Int))) < (a1.len : Int) then (IntKind.i64.wrap (t13 - (t15.len : Int))) else (a1.len : Int))) (i := 12) hF hS rfl rfl (by kernel_rfl) rfl rfl rfl rfl (fun x => r_min hF rfl rfl rfl) ?_; clear hF; clear a; intro a hF
    refine GL.val (v := .int .i64 (if (IntKind.i64.wrap (t13 - (t15.len : Int))) < (a1.len : Int) then (IntKind.i64.wrap (t13 - (t15.len : Int))) else (a1.len : Int))) (i := 13) hF hS rfl rfl (by kernel_rfl) rfl rfl rfl rfl (fun x => r_assign hF rfl rfl) ?_; clear hF; clear a; intro a hF
    refine GL.done (by kernel_rfl) (hK10 _ _ ?_)
    clear hK10 K9
    refine seq_draw 2304 #[0, 0, 2, 6, 14, 0, 0, 96, 254, 511, 1023, 2047] 12 mo rfl (by kernel_rfl) (by kernel_rfl) fun hS K16 hK17 => ?_
    obtain ⟨w18, hw, h⟩ := h; rw [← hw]; clear hw
    refine GL.val (v := .pointer a0) (i := 0) hF hS rfl rfl (by kernel_rfl) rfl rfl rfl rfl (fun x => r_move hF rfl rfl) ?_; clear hF; clear a; intro a hF
    refine GL.val (v := .pointer a0) (i := 1) hF hS rfl rfl (by kernel_rfl) rfl rfl rfl rfl (fun x => r_move hF rfl rfl) ?_; clear hF; clear a; intro a hF
    obtain ⟨p19, hpp19, h⟩ := h
    refine GL.val (v := .pointer (some p19)) (i := 2) hF hS rfl rfl (by kernel_rfl) rfl rfl rfl rfl (fun x => r_nilCheck hF rfl (lkp rfl hpp19)) ?_; clear hF; clear a; intro a hF
    refine GL.val (v := .pointer (some (p19.add 2))) (i := 3) hF hS rfl rfl (by kernel_rfl) rfl rfl rfl rfl (fun x => r_fieldAddr hF rfl rfl Try.runUnderlying70 rfl Try.sizeOf22 rfl) ?_; clear hF; clear a; intro a hF
    obtain ⟨t20, hct20, h⟩ := h
    refine GL.read (v := t20.v) (i := 4) hF (fun x => World.cell? x (p19.add 2) = some (t20.v)) hS rfl rfl (by kernel_rfl) rfl rfl rfl rfl hct20 (fun x hx => r_load hF rfl rfl Try.isAgg22 hx) ?_; clear hF; clear a; intro a hF
    refine GL.val (v := a1.v) (i := 5) hF hS rfl rfl (by kernel_rfl) rfl rfl rfl rfl (fun x => r_move hF rfl rfl) ?_; clear hF; clear a; intro a hF
    refine GL.val (v := .int .i64 (if (IntKind.i64.wrap (t13 - (t15.len : Int))) < (a1.len : Int) then (IntKind.i64.wrap (t13 - (t15.len : Int))) else (a1.len : Int))) (i := 6) hF hS rfl rfl (by kernel_rfl) rfl rfl rfl rfl (fun x => r_move hF rfl rfl) ?_; clear hF; clear a; intro a hF
    obtain ⟨hs21, hs22, h⟩ := h
    refine GL.val (v := (a1.sub 1 0 ((if (IntKind.i64.wrap (t13 - (t15.len : Int))) < (a1.len : Int) then (IntKind.i64.wrap (t13 - (t15.len : Int))) else (a1.len : Int)).toNat) a1.cap).v) (i := 7) hF hS rfl rfl (by kernel_rfl) rfl rfl rfl rfl (fun x => r_slice (lo' := none) (hi' := some (.int .i64 (if (IntKind.i64.wrap (t13 - (t15.len : Int))) < (a1.len : Int) then (IntKind.i64.wrap (t13 - (t15.len : Int))) else (a1.len : Int)))) (mx' := none) hF rfl rfl rfl rfl rfl (slc_at Try.runUnderlying22 Try.sizeOf5 (bounds01 hs21 hs22))) ?_; clear hF; clear a; intro a hF
    refine GL.act (i := 8) (pend' := []) hS (by kernel_rfl) rfl (by kernel_rfl) ?_
    obtain ⟨t24, w23, hc_, h⟩ := h
    refine op_val  hF rfl rfl rfl rfl (r_append (xs := [t20.v, (a1.sub 1 0 ((if (IntKind.i64.wrap (t13 - (t15.len : Int))) < (a1.len : Int) then (IntKind.i64.wrap (t13 - (t15.len : Int))) else (a1.len : Int)).toNat) a1.cap).v]) hF rfl rfl hc_) trivial ?_; clear hF; clear a; intro a hF
    obtain ⟨p25, hpp25, h⟩ := h
    refine GL.val (v := .pointer (some p25)) (i := 9) hF hS rfl rfl (by kernel_rfl) rfl rfl rfl rfl (fun x => r_nilCheck hF rfl (lkp rfl hpp25)) ?_; clear hF; clear a; intro a hF
    refine GL.val (v := .pointer (some (p25.add 2))) (i := 10) hF hS rfl rfl (by kernel_rfl) rfl rfl rfl rfl (fun x => r_fieldAddr hF rfl rfl Try.runUnderlying70 rfl Try.sizeOf22 rfl) ?_; clear hF; clear a; intro a hF
    refine GL.act (i := 11) (pend' := []) hS (by kernel_rfl) rfl (by kernel_rfl) ?_
    obtain ⟨u_, w26, hs1_, hs2_, hs3_, h⟩ := h
    refine op_unit (w' := w26) hF rfl rfl rfl (by rw [hs3_]; exact r_store hF rfl rfl rfl rfl Try.sizeOf22 hs1_ hs2_) trivial ?_; clear hF; clear a; intro a hF
    refine GL.done (by kernel_rfl) (hK17 _ _ ?_)
    clear hK17 K16
    refine seq_region fun K27 hK28 => ?_
    refine RL.val  hF rfl rfl rfl (r_move hF rfl rfl) ?_; clear hF; clear a; intro a hF
    refine RL.val  hF rfl rfl rfl (r_assign hF rfl rfl) ?_; clear hF; clear a; intro a hF
    refine RL.val  hF rfl rfl rfl (r_assign hF rfl rfl) ?_; clear hF; clear a; intro a hF
    refine RL.nil (hK28 _ _ ?_)
    clear hK28 K27
    refine wp_ret ?_
    exact ret_of hF (res2 hF rfl rfl rfl) ⟨_, _, rfl, h⟩
  clear hJ
  refine wp_block ?_
  refine seq_region fun K29 hK30 => ?_
  refine RL.val  hF rfl rfl rfl (r_move hF rfl rfl) ?_; clear hF; clear a; intro a hF
  refine RL.call hF rfl rfl rfl (r_call (xs := [.pointer a0]) hF rfl rfl Try.call28) (CallsV.mono h ?_)
  clear h; rintro _ w31 ⟨r32, rfl, h⟩; clear hF; clear a; intro a hF
  refine RL.val  hF rfl rfl rfl (r_assign hF rfl rfl) ?_; clear hF; clear a; intro a hF
  refine RL.nil (hK30 _ _ ?_)
  clear hK30 K29
  obtain ⟨ht, hf⟩ := h
  refine cond_ hF rfl (fun hc => ?_) (fun hc => ?_)
  · replace h := ht hc; clear ht hf
    refine seq_region fun K33 hK34 => ?_
    refine RL.val  hF rfl rfl rfl (r_assign hF rfl rfl) ?_; clear hF; clear a; intro a hF
    refine RL.val  hF rfl rfl rfl (r_assign hF rfl rfl) ?_; clear hF; clear a; intro a hF
    refine RL.nil (hK34 _ _ ?_)
    clear hK34 K33
    refine wp_ret ?_
    exact ret_of hF (res2 hF rfl rfl rfl) ⟨_, _, rfl, h⟩
  · replace h := hf hc; clear ht hf
    refine seq_region fun K35 hK36 => ?_
    refine RL.val  hF rfl rfl rfl (r_move hF rfl rfl) ?_; clear hF; clear a; intro a hF
    obtain ⟨p37, hpp37, h⟩ := h
    refine RL.val  hF rfl rfl rfl (r_nilCheck hF rfl (lkp rfl hpp37)) ?_; clear hF; clear a; intro a hF
    refine RL.val  hF rfl rfl rfl (r_fieldAddr hF rfl rfl Try.runUnderlying70 rfl Try.sizeOf3 rfl) ?_; clear hF; clear a; intro a hF
    obtain ⟨t38, hct38, h⟩ := h
    refine RL.val  hF rfl rfl rfl (r_load hF rfl rfl Try.isAgg3 hct38) ?_; clear hF; clear a; intro a hF
    refine RL.val  hF rfl rfl rfl (r_neq hF rfl rfl rfl) ?_; clear hF; clear a; intro a hF
    refine RL.val  hF rfl rfl rfl (r_assign hF rfl rfl) ?_; clear hF; clear a; intro a hF
    refine RL.nil (hK36 _ _ ?_)
    clear hK36 K35
    obtain ⟨ht, hf⟩ := h
    refine cond_ hF rfl (fun hc => ?_) (fun hc => ?_)
    · replace h := ht hc; clear ht hf
      refine seq_region fun K39 hK40 => ?_
      refine RL.val  hF rfl rfl rfl (r_assign hF rfl rfl) ?_; clear hF; clear a; intro a hF
      refine RL.val  hF rfl rfl rfl (r_assign hF rfl rfl) ?_; clear hF; clear a; intro a hF
      refine RL.nil (hK40 _ _ ?_)
      clear hK40 K39
      refine wp_ret ?_
      exact ret_of hF (res2 hF rfl rfl rfl) ⟨_, _, rfl, h⟩
    · replace h := hf hc; clear ht hf
      refine wp_skip ?_
      exact jn8 () _ _ (hF.sub rfl) h

set_option maxRecDepth 20000 in
theorem br15 {a0 : Option Addr} {w : World} {K : Int → World → Prop} (h : sh15 a0 w K) : C15 a0 w K := by
  unfold sh15 at h
  refine enter (n := 15) (l := [(0, .pointer a0)]) 14 Try.func15 rfl _ rfl rfl rfl fun a hF => ?_
  refine seq_region fun K1 hK2 => ?_
  refine RL.val  hF rfl rfl rfl (r_assign hF rfl rfl) ?_; clear hF; clear a; intro a hF
  refine RL.nil (hK2 _ _ ?_)
  clear hK2 K1
  refine seq_k fun K3 hK4 => ?_
  obtain ⟨J, hJ, h⟩ := jn_open h
  have jn8 : ∀ (v5 : Unit) (w6 : World) a, Fr 15 a [(0, .pointer a0)] → J v5 w6 → K3 a w6 := by
    intro v5 w6 a hF h
    replace h := hJ _ _ h
    clear hJ
    refine hK4 _ _ ?_
    refine seq_region fun K9 hK10 => ?_
    refine RL.val  hF rfl rfl rfl (r_move hF rfl rfl) ?_; clear hF; clear a; intro a hF
    obtain ⟨p11, hpp11, h⟩ := h
    refine RL.val  hF rfl rfl rfl (r_nilCheck hF rfl (lkp rfl hpp11)) ?_; clear hF; clear a; intro a hF
    refine RL.val  hF rfl rfl rfl (r_fieldAddr hF rfl rfl Try.runUnderlying70 rfl Try.sizeOf3 rfl) ?_; clear hF; clear a; intro a hF
    obtain ⟨u_, w12, hs1_, hs2_, hs3_, h⟩ := h
    refine RL.unit (w' := w12) hF rfl rfl (by rw [hs3_]; exact r_store hF rfl rfl rfl rfl Try.sizeOf3 hs1_ hs2_) ?_; clear hF; clear a; intro a hF
    refine RL.nil (hK10 _ _ ?_)
    clear hK10 K9
    refine seq_region fun K13 hK14 => ?_
    refine RL.val  hF rfl rfl rfl (r_assign hF rfl rfl) ?_; clear hF; clear a; intro a hF
    refine RL.nil (hK14 _ _ ?_)
    clear hK14 K13
    refine wp_ret ?_
    exact ret_of hF (res1 hF rfl rfl) ⟨_, rfl, h⟩
  clear hJ
  refine wp_block ?_
  refine seq_region fun K15 hK16 => ?_
  refine RL.val  hF rfl rfl rfl (r_move hF rfl rfl) ?_; clear hF; clear a; intro a hF
  refine RL.call hF rfl rfl rfl (r_call (xs := [.pointer a0]) hF rfl rfl Try.call28) (CallsV.mono h ?_)
  clear h; rintro _ w17 ⟨r18, rfl, h⟩; clear hF; clear a; intro a hF
  refine RL.val  hF rfl rfl rfl (r_assign hF rfl rfl) ?_; clear hF; clear a; intro a hF
  refine RL.nil (hK16 _ _ ?_)
  clear hK16 K15
  obtain ⟨ht, hf⟩ := h
  refine cond_ hF rfl (fun hc => ?_) (fun hc => ?_)
  · replace h := ht hc; clear ht hf
    refine seq_region fun K19 hK20 => ?_
    refine RL.val  hF rfl rfl rfl (r_assign hF rfl rfl) ?_; clear hF; clear a; intro a hF
    refine RL.nil (hK20 _ _ ?_)
    clear hK20 K19
    refine wp_ret ?_
    exact ret_of hF (res1 hF rfl rfl) ⟨_, rfl, h⟩
  · replace h := hf hc; clear ht hf
    refine seq_region fun K21 hK22 => ?_
    refine RL.val  hF rfl rfl rfl (r_move hF rfl rfl) ?_; clear hF; clear a; intro a hF
    obtain ⟨p23, hpp23, h⟩ := h
    refine RL.val  hF rfl rfl rfl (r_nilCheck hF rfl (lkp rfl hpp23)) ?_; clear hF; clear a; intro a hF
    refine RL.val  hF rfl rfl rfl (r_fieldAddr hF rfl rfl Try.runUnderlying70 rfl Try.sizeOf3 rfl) ?_; clear hF; clear a; intro a hF
    obtain ⟨t24, hct24, h⟩ := h
    refine RL.val  hF rfl rfl rfl (r_load hF rfl rfl Try.isAgg3 hct24) ?_; clear hF; clear a; intro a hF
    refine RL.val  hF rfl rfl rfl (r_neq hF rfl rfl rfl) ?_; clear hF; clear a; intro a hF
    refine RL.val  hF rfl rfl rfl (r_assign hF rfl rfl) ?_; clear hF; clear a; intro a hF
    refine RL.nil (hK22 _ _ ?_)
    clear hK22 K21
    obtain ⟨ht, hf⟩ := h
    refine cond_ hF rfl (fun hc => ?_) (fun hc => ?_)
    · replace h := ht hc; clear ht hf
      refine seq_region fun K25 hK26 => ?_
      refine RL.val  hF rfl rfl rfl (r_assign hF rfl rfl) ?_; clear hF; clear a; intro a hF
      refine RL.nil (hK26 _ _ ?_)
      clear hK26 K25
      refine wp_ret ?_
      exact ret_of hF (res1 hF rfl rfl) ⟨_, rfl, h⟩
    · replace h := hf hc; clear ht hf
      refine wp_skip ?_
      exact jn8 () _ _ (hF.sub rfl) h

set_option maxRecDepth 20000 in
theorem br11 {a0 : Option Addr} {w : World} {K : Bool → World → Prop} (h : sh11 a0 w K) : C11 a0 w K := by
  unfold sh11 at h
  refine enter (n := 20) (l := [(0, .pointer a0)]) 19 Try.func11 rfl _ rfl rfl rfl fun a hF => ?_
  refine seq_region fun K1 hK2 => ?_
  refine RL.val  hF rfl rfl rfl (r_assign hF rfl rfl) ?_; clear hF; clear a; intro a hF
  refine RL.nil (hK2 _ _ ?_)
  clear hK2 K1
  refine seq_draw 2 #[0, 1, 3, 7, 15, 31, 63, 127, 15, 271, 783, 1807, 3855, 8191, 15, 32767, 65535, 131071] 18 mo rfl (by kernel_rfl) (by kernel_rfl) fun hS K3 hK4 => ?_
  obtain ⟨w5, hw, h⟩ := h; rw [← hw]; clear hw
  obtain ⟨J8, hJ, h⟩ := jn_open h
  have jn9 : ∀ (v6 : Bool) (w7 : World) a, Fr 20 a [(2, .bool v6)] → J8 v6 w7 → K3 a w7 := by
    clear hF
    intro v6 w7 a hF h; replace h := hJ _ _ h; refine hK4 _ _ ?_; clear hJ hK4 K3
    refine wp_ret ?_
    exact ret_of hF (res1 hF rfl rfl) ⟨_, rfl, h⟩
  clear hJ hK4
  refine GL.val (v := .pointer a0) (i := 0) hF hS rfl rfl (by kernel_rfl) rfl rfl rfl rfl (fun x => r_move hF rfl rfl) ?_; clear hF; clear a; intro a hF
  refine GL.act (i := 1) (pend' := []) hS (by kernel_rfl) rfl (by kernel_rfl) ?_
  refine op_call hF rfl rfl rfl rfl (r_call (xs := [.pointer a0]) hF rfl rfl Try.call28) (CallsV.mono h ?_)
  clear h; rintro _ w10 ⟨r11, rfl, h⟩
  refine ⟨trivial, ?_⟩; clear hF; clear a; intro a hF
  refine GL.val (v := .bool (!r11)) (i := 2) hF hS rfl rfl (by kernel_rfl) rfl rfl rfl rfl (fun x => r_not hF rfl rfl) ?_; clear hF; clear a; intro a hF
  refine GL.val (v := .bool (!r11)) (i := 3) hF hS rfl rfl (by kernel_rfl) rfl rfl rfl rfl (fun x => r_move hF rfl rfl) ?_; clear hF; clear a; intro a hF
  obtain ⟨ht, hf⟩ := h
  rcases bool_cases (!r11) with hg12 | hg12
  · replace h := ht hg12; clear ht hf
    refine GL.gval (v := .pointer a0) (i := 4) hF hS rfl rfl (by kernel_rfl) rfl rfl rfl (lkb rfl hg12) rfl rfl (fun x => r_move hF rfl rfl) ?_; clear hF; clear a; intro a hF
    obtain ⟨p13, hpp13, h⟩ := h
    refine GL.gval (v := .pointer (some p13)) (i := 5) hF hS rfl rfl (by kernel_rfl) rfl rfl rfl (lkb rfl hg12) rfl rfl (fun x => r_nilCheck hF rfl (lkp rfl hpp13)) ?_; clear hF; clear a; intro a hF
    refine GL.gval (v := .pointer (some (p13.add 6))) (i := 6) hF hS rfl rfl (by kernel_rfl) rfl rfl rfl (lkb rfl hg12) rfl rfl (fun x => r_fieldAddr hF rfl rfl Try.runUnderlying70 rfl Try.sizeOf3 rfl) ?_; clear hF; clear a; intro a hF
    obtain ⟨t14, hct14, h⟩ := h
    refine GL.gread (v := .int .i64 t14) (i := 7) hF (fun x => World.cell? x (p13.add 6) = some (.int .i64 t14)) hS rfl rfl (by kernel_rfl) rfl rfl rfl (lkb rfl hg12) rfl rfl hct14 (fun x hx => r_load hF rfl rfl Try.isAgg3 hx) ?_; clear hF; clear a; intro a hF
    refine GL.gval (v := .pointer a0) (i := 8) hF hS rfl rfl (by kernel_rfl) rfl rfl rfl (lkb rfl hg12) rfl rfl (fun x => r_move hF rfl rfl) ?_; clear hF; clear a; intro a hF
    obtain ⟨p15, hpp15, h⟩ := h
    refine GL.gval (v := .pointer (some p15)) (i := 9) hF hS rfl rfl (by kernel_rfl) rfl rfl rfl (lkb rfl hg12) rfl rfl (fun x => r_nilCheck hF rfl (lkp rfl hpp15)) ?_; clear hF; clear a; intro a hF
    refine GL.gval (v := .pointer (some (p15.add 2))) (i := 10) hF hS rfl rfl (by kernel_rfl) rfl rfl rfl (lkb rfl hg12) rfl rfl (fun x => r_fieldAddr hF rfl rfl Try.runUnderlying70 rfl Try.sizeOf22 rfl) ?_; clear hF; clear a; intro a hF
    obtain ⟨t16, hct16, h⟩ := h
    refine GL.gread (v := t16.v) (i := 11) hF (fun x => World.cell? x (p15.add 2) = some (t16.v)) hS rfl rfl (by kernel_rfl) rfl rfl rfl (lkb rfl hg12) rfl rfl hct16 (fun x hx => r_load hF rfl rfl Try.isAgg22 hx) ?_; clear hF; clear a; intro a hF
    refine GL.gval (v := .int .i64 (t16.len : Int)) (i := 12) hF hS rfl rfl (by kernel_rfl) rfl rfl rfl (lkb rfl hg12) rfl rfl (fun x => r_len_slice hF rfl rfl Try.runUnderlying22) ?_; clear hF; clear a; intro a hF
    refine GL.gval (v := .agg (#[.int .i64 t14, .int .i64 (t16.len : Int)])) (i := 13) hF hS rfl rfl (by kernel_rfl) rfl rfl rfl (lkb rfl hg12) rfl rfl (fun x => r_build (xs := [(0, .int .i64 t14), (1, .int .i64 (t16.len : Int))]) hF rfl rfl (by kernel_rfl)) ?_; clear hF; clear a; intro a hF
    refine GL.gval (v := .agg (#[.int .i64 4, .int .i64 0])) (i := 14) hF hS rfl rfl (by kernel_rfl) rfl rfl rfl (lkb rfl hg12) rfl rfl (fun x => r_build (xs := [(0, .int .i64 4), (1, .int .i64 0)]) hF rfl rfl (by kernel_rfl)) ?_; clear hF; clear a; intro a hF
    obtain ⟨t17, hc_, h⟩ := h
    refine GL.gval (v := .bool t17) (i := 15) hF hS rfl rfl (by kernel_rfl) rfl rfl rfl (lkb rfl hg12) rfl rfl (fun x => r_aggeq hF rfl rfl rfl Try.eqGuardType75 (hc_ _)) ?_; clear hF; clear a; intro a hF
    refine GL.val (v := .bool t17) (i := 16) hF hS rfl rfl (by kernel_rfl) rfl rfl rfl rfl (fun x => r_pick hF rfl rfl rfl rfl (fun _ => rfl) (fun e => absurd (hg12.symm.trans e) (by decide))) ?_; clear hF; clear a; intro a hF
    refine GL.val (v := .bool t17) (i := 17) hF hS rfl rfl (by kernel_rfl) rfl rfl rfl rfl (fun x => r_assign hF rfl rfl) ?_; clear hF; clear a; intro a hF
    refine GL.done (by kernel_rfl) ?_
    exact jn9 t17 _ _ (hF.sub rfl) h
  · replace h := hf hg12; clear ht hf
    refine GL.skip (i := 4) hF hS rfl rfl (by kernel_rfl) rfl rfl rfl (lkb rfl hg12) (.inl rfl) rfl rfl ?_; clear hF; clear a; intro a hF
    refine GL.skip (i := 5) hF hS rfl rfl (by kernel_rfl) rfl rfl rfl (lkb rfl hg12) (.inl rfl) rfl rfl ?_; clear hF; clear a; intro a hF
    refine GL.skip (i := 6) hF hS rfl rfl (by kernel_rfl) rfl rfl rfl (lkb rfl hg12) (.inl rfl) rfl rfl ?_; clear hF; clear a; intro a hF
    refine GL.skip (i := 7) hF hS rfl rfl (by kernel_rfl) rfl rfl rfl (lkb rfl hg12) (.inl rfl) rfl rfl ?_; clear hF; clear a; intro a hF
    refine GL.skip (i := 8) hF hS rfl rfl (by kernel_rfl) rfl rfl rfl (lkb rfl hg12) (.inl rfl) rfl rfl ?_; clear hF; clear a; intro a hF
    refine GL.skip (i := 9) hF hS rfl rfl (by kernel_rfl) rfl rfl rfl (lkb rfl hg12) (.inl rfl) rfl rfl ?_; clear hF; clear a; intro a hF
    refine GL.skip (i := 10) hF hS rfl rfl (by kernel_rfl) rfl rfl rfl (lkb rfl hg12) (.inl rfl) rfl rfl ?_; clear hF; clear a; intro a hF
    refine GL.skip (i := 11) hF hS rfl rfl (by kernel_rfl) rfl rfl rfl (lkb rfl hg12) (.inl rfl) rfl rfl ?_; clear hF; clear a; intro a hF
    refine GL.skip (i := 12) hF hS rfl rfl (by kernel_rfl) rfl rfl rfl (lkb rfl hg12) (.inl rfl) rfl rfl ?_; clear hF; clear a; intro a hF
    refine GL.skip (i := 13) hF hS rfl rfl (by kernel_rfl) rfl rfl rfl (lkb rfl hg12) (.inl rfl) rfl rfl ?_; clear hF; clear a; intro a hF
    refine GL.skip (i := 14) hF hS rfl rfl (by kernel_rfl) rfl rfl rfl (lkb rfl hg12) (.inl rfl) rfl rfl ?_; clear hF; clear a; intro a hF
    refine GL.skip (i := 15) hF hS rfl rfl (by kernel_rfl) rfl rfl rfl (lkb rfl hg12) (.inl rfl) rfl rfl ?_; clear hF; clear a; intro a hF
    refine GL.val (v := .bool false) (i := 16) hF hS rfl rfl (by kernel_rfl) rfl rfl rfl rfl (fun x => r_pick hF rfl rfl rfl rfl (fun e => absurd (hg12.symm.trans e) (by decide)) (fun _ => rfl)) ?_; clear hF; clear a; intro a hF
    refine GL.val (v := .bool false) (i := 17) hF hS rfl rfl (by kernel_rfl) rfl rfl rfl rfl (fun x => r_assign hF rfl rfl) ?_; clear hF; clear a; intro a hF
    refine GL.done (by kernel_rfl) ?_
    exact jn9 false _ _ (hF.sub rfl) h

set_option maxRecDepth 20000 in
theorem br53 {a0 : Option Addr} {w : World} {K : Bool → World → Prop} (h : sh53 a0 w K) : C53 a0 w K := by
  unfold sh53 at h
  refine enter (n := 12) (l := [(0, .pointer a0)]) 11 Try.func53 rfl _ rfl rfl rfl fun a hF => ?_
  refine seq_region fun K1 hK2 => ?_
  refine RL.val  hF rfl rfl rfl (r_assign hF rfl rfl) ?_; clear hF; clear a; intro a hF
  refine RL.nil (hK2 _ _ ?_)
  clear hK2 K1
  refine seq_region fun K3 hK4 => ?_
  obtain ⟨J7, hJ, h⟩ := jn_open h
  have jn8 : ∀ (v5 : Bool) (w6 : World) a, Fr 12 a [(2, .bool v5)] → J7 v5 w6 → K3 a w6 := by
    clear hF
    intro v5 w6 a hF h; replace h := hJ _ _ h; refine hK4 _ _ ?_; clear hJ hK4 K3
    refine wp_ret ?_
    exact ret_of hF (res1 hF rfl rfl) ⟨_, rfl, h⟩
  clear hJ hK4
  refine RL.val  hF rfl rfl rfl (r_move hF rfl rfl) ?_; clear hF; clear a; intro a hF
  refine RL.val  hF rfl rfl rfl (r_ptrnil hF rfl rfl rfl Try.runUnderlying67) ?_; clear hF; clear a; intro a hF
  refine RL.val  hF rfl rfl rfl (r_move hF rfl rfl) ?_; clear hF; clear a; intro a hF
  obtain ⟨ht, hf⟩ := h
  rcases bool_cases a0.isNone with hg9 | hg9
  · replace h := ht hg9; clear ht hf
    refine RL.skip hF rfl rfl (lkb rfl hg9) (.inl rfl) rfl rfl ?_; clear hF; clear a; intro a hF
    refine RL.skip hF rfl rfl (lkb rfl hg9) (.inl rfl) rfl rfl ?_; clear hF; clear a; intro a hF
    refine RL.skip hF rfl rfl (lkb rfl hg9) (.inl rfl) rfl rfl ?_; clear hF; clear a; intro a hF
    refine RL.skip hF rfl rfl (lkb rfl hg9) (.inl rfl) rfl rfl ?_; clear hF; clear a; intro a hF
    refine RL.skip hF rfl rfl (lkb rfl hg9) (.inl rfl) rfl rfl ?_; clear hF; clear a; intro a hF
    refine RL.val (v := .bool true) (w' := w) hF rfl rfl rfl (r_pick hF rfl rfl rfl rfl (fun _ => rfl) (fun e => absurd (hg9.symm.trans e) (by decide))) ?_; clear hF; clear a; intro a hF
    refine RL.val  hF rfl rfl rfl (r_assign hF rfl rfl) ?_; clear hF; clear a; intro a hF
    refine RL.nil ?_
    exact jn8 true _ _ (hF.sub rfl) h
  · replace h := hf hg9; clear ht hf
    refine RL.gval  hF rfl rfl (lkb rfl hg9) rfl rfl (r_move hF rfl rfl) ?_; clear hF; clear a; intro a hF
    obtain ⟨p10, hpp10, h⟩ := h
    refine RL.gval  hF rfl rfl (lkb rfl hg9) rfl rfl (r_nilCheck hF rfl (lkp rfl hpp10)) ?_; clear hF; clear a; intro a hF
    refine RL.gval  hF rfl rfl (lkb rfl hg9) rfl rfl (r_fieldAddr0 hF rfl rfl Try.runUnderlying89 rfl Try.sizeOf4 rfl) ?_; clear hF; clear a; intro a hF
    obtain ⟨t11, hct11, h⟩ := h
    refine RL.gval  hF rfl rfl (lkb rfl hg9) rfl rfl (r_load hF rfl rfl Try.isAgg4 hct11) ?_; clear hF; clear a; intro a hF
    refine RL.gval  hF rfl rfl (lkb rfl hg9) rfl rfl (r_not hF rfl rfl) ?_; clear hF; clear a; intro a hF
    refine RL.val (v := .bool (!t11)) (w' := w) hF rfl rfl rfl (r_pick hF rfl rfl rfl rfl (fun e => absurd (hg9.symm.trans e) (by decide)) (fun _ => rfl)) ?_; clear hF; clear a; intro a hF
    refine RL.val  hF rfl rfl rfl (r_assign hF rfl rfl) ?_; clear hF; clear a; intro a hF
    refine RL.nil ?_
    exact jn8 (!t11) _ _ (hF.sub rfl) h

set_option maxRecDepth 20000 in
theorem br56 {a0 : Slc} {w : World} {K : Slc → World → Prop} (h : sh56 a0 w K) : C56 a0 w K := by
  unfold sh56 at h
  refine enter (n := 8) (l := [(0, a0.v)]) 7 Try.func56 rfl _ rfl rfl rfl fun a hF => ?_
  refine seq_region fun K1 hK2 => ?_
  refine RL.val  hF rfl rfl rfl (r_assign hF rfl rfl) ?_; clear hF; clear a; intro a hF
  refine RL.nil (hK2 _ _ ?_)
  clear hK2 K1
  refine seq_k fun K3 hK4 => ?_
  obtain ⟨J, hJ, h⟩ := jn_open h
  have jn8 : ∀ (v5 : Unit) (w6 : World) a, Fr 8 a [(0, a0.v)] → J v5 w6 → K3 a w6 := by
    intro v5 w6 a hF h
    replace h := hJ _ _ h
    clear hJ
    refine hK4 _ _ ?_
    refine seq_region fun K9 hK10 => ?_
    obtain ⟨t12, w11, hc_, h⟩ := h
    refine RL.val  hF rfl rfl rfl (r_buildSlice (xs := []) hF rfl rfl hc_) ?_; clear hF; clear a; intro a hF
    refine RL.val  hF rfl rfl rfl (r_move hF rfl rfl) ?_; clear hF; clear a; intro a hF
    obtain ⟨t14, w13, hc_, h⟩ := h
    refine RL.val  hF rfl rfl rfl (r_append (xs := [t12.v, a0.v]) hF rfl rfl hc_) ?_; clear hF; clear a; intro a hF
    refine RL.val  hF rfl rfl rfl (r_assign hF rfl rfl) ?_; clear hF; clear a; intro a hF
    refine RL.nil (hK10 _ _ ?_)
    clear hK10 K9
    refine wp_ret ?_
    exact ret_of hF (res1 hF rfl rfl) ⟨_, rfl, h⟩
  clear hJ
  refine seq_region fun K15 hK16 => ?_
  refine RL.val  hF rfl rfl rfl (r_move hF rfl rfl) ?_; clear hF; clear a; intro a hF
  refine RL.val  hF rfl rfl rfl (r_slcnil hF rfl rfl rfl Try.runUnderlying87) ?_; clear hF; clear a; intro a hF
  refine RL.nil (hK16 _ _ ?_)
  clear hK16 K15
  obtain ⟨ht, hf⟩ := h
  refine cond_ hF rfl (fun hc => ?_) (fun hc => ?_)
  · replace h := ht hc; clear ht hf
    refine seq_region fun K17 hK18 => ?_
    refine RL.val  hF rfl rfl rfl (r_assign hF rfl rfl) ?_; clear hF; clear a; intro a hF
    refine RL.nil (hK18 _ _ ?_)
    clear hK18 K17
    refine wp_ret ?_
    exact ret_of hF (res1 hF rfl rfl) ⟨_, rfl, h⟩
  · replace h := hf hc; clear ht hf
    refine wp_skip ?_
    exact jn8 () _ _ (hF.sub rfl) h

set_option maxRecDepth 20000 in
theorem br55 {a0 : Value} {c0 : Option Addr} {w : World} {K : World → Prop} (h : sh55 a0 c0 w K) : C55 a0 c0 w K := by
  unfold sh55 at h
  refine enter (n := 22) (l := [(0, a0), (1, .pointer c0)]) 20 Try.func55 rfl _ rfl rfl rfl fun a hF => ?_
  refine seq_k fun K1 hK2 => ?_
  obtain ⟨J, hJ, h⟩ := jn_open h
  have jn6 : ∀ (v3 : Unit) (w4 : World) a, Fr 22 a [(0, a0), (1, .pointer c0)] → J v3 w4 → K1 a w4 := by
    intro v3 w4 a hF h
    replace h := hJ _ _ h
    clear hJ
    refine hK2 _ _ ?_
    refine seq_region fun K7 hK8 => ?_
    obtain ⟨p10, hpp10, h⟩ := h
    obtain ⟨t9, hct9, h⟩ := h
    refine RL.val  hF rfl rfl rfl (r_load hF rfl (lkp rfl hpp10) Try.isAgg67 hct9) ?_; clear hF; clear a; intro a hF
    obtain ⟨p11, hpp11, h⟩ := h
    refine RL.val  hF rfl rfl rfl (r_nilCheck hF rfl (lkp rfl hpp11)) ?_; clear hF; clear a; intro a hF
    refine RL.val  hF rfl rfl rfl (r_fieldAddr hF rfl rfl Try.runUnderlying89 rfl Try.sizeOf87 rfl) ?_; clear hF; clear a; intro a hF
    obtain ⟨t12, hct12, h⟩ := h
    refine RL.val  hF rfl rfl rfl (r_load hF rfl rfl Try.isAgg87 hct12) ?_; clear hF; clear a; intro a hF
    refine RL.call hF rfl rfl rfl (r_call (xs := [t12.v]) hF rfl rfl Try.call56) (CallsV.mono h ?_)
    clear h; rintro _ w13 ⟨r14, rfl, h⟩; clear hF; clear a; intro a hF
    refine RL.val  hF rfl rfl rfl (r_len_slice hF rfl rfl Try.runUnderlying87) ?_; clear hF; clear a; intro a hF
    refine RL.val  hF rfl rfl rfl (r_move hF rfl rfl) ?_; clear hF; clear a; intro a hF
    refine RL.nil (hK8 _ _ ?_)
    clear hK8 K7
    refine wp_block ?_
    refine loop_ (fun (s15 : Int) => [(0, a0), (11, r14.v), (12, .int .i64 (r14.len : Int)), (13, .int .i64 s15)]) (hF.sub rfl) h ?_
    clear hF h
    intro s15 w16 N17 KL hN18 h a hF
    refine seq_region fun K19 hK20 => ?_
    refine RL.val  hF rfl rfl rfl (r_lss hF rfl rfl rfl) ?_; clear hF; clear a; intro a hF
    refine RL.nil (hK20 _ _ ?_)
    clear hK20 K19
    refine seq_k fun K21 hK22 => ?_
    obtain ⟨J, hJ, h⟩ := jn_open h
    have jn26 : ∀ (v23 : Unit) (w24 : World) a, Fr 22 a [(0, a0), (11, r14.v), (12, .int .i64 (r14.len : Int)), (13, .int .i64 s15)] → J v23 w24 → K21 a w24 := by
      intro v23 w24 a hF h
      replace h := hJ _ _ h
      clear hJ
      refine hK22 _ _ ?_
      refine seq_k fun K27 hK28 => ?_
      obtain ⟨J, hJ, h⟩ := jn_open h
      have jn32 : ∀ (v29 : Unit) (w30 : World) a, Fr 22 a [(0, a0), (11, r14.v), (12, .int .i64 (r14.len : Int)), (13, .int .i64 s15)] → J v29 w30 → K27 a w30 := by
        intro v29 w30 a hF h
        replace h := hJ _ _ h
        clear hJ
        refine hK28 _ _ ?_
        refine end_region fun K33 hK34 => ?_
        refine RL.val  hF rfl rfl rfl (r_add hF rfl rfl rfl) ?_; clear hF; clear a; intro a hF
        refine RL.val  hF rfl rfl rfl (r_move hF rfl rfl) ?_; clear hF; clear a; intro a hF
        refine RL.nil (hK34 _ _ ?_)
        clear hK34 K33
        exact hN18 (IntKind.i64.wrap (s15 + 1)) _ _ (hF.sub rfl) h
      clear hJ
      refine wp_block ?_
      refine seq_region fun K35 hK36 => ?_
      obtain ⟨b38, p37, hb_, h0_, h1_, hp_, h⟩ := h
      refine RL.val (v := .pointer (some p37)) (w' := w24) hF rfl rfl rfl (by rw [hp_]; exact r_indexAddr hF rfl (lks rfl hb_) rfl Try.runUnderlying87 Try.sizeOf94 h0_ h1_) ?_; clear hF; clear a; intro a hF
      obtain ⟨t39, hct39, h⟩ := h
      refine RL.val  hF rfl rfl rfl (r_loadA hF rfl rfl Try.isAgg94 Try.sizeOf94 hct39) ?_; clear hF; clear a; intro a hF
      obtain ⟨p40, w41, hp_, hw_, h⟩ := h
      refine RL.val (v := .pointer (some p40)) (w' := w41) hF rfl rfl rfl (by rw [hp_, hw_]; exact r_alloc rfl Try.zeroValue94 rfl) ?_; clear hF; clear a; intro a hF
      obtain ⟨w42, hs1_, hs2_, hs3_, hs4_, h⟩ := h
      refine RL.unit (w' := w42) hF rfl rfl (by rw [hs4_]; exact r_storeA hF rfl rfl rfl Try.sizeOf94 hs1_ hs2_ hs3_) ?_; clear hF; clear a; intro a hF
      refine RL.nil (hK36 _ _ ?_)
      clear hK36 K35
      refine seq_region fun K43 hK44 => ?_
      refine RL.val  hF rfl rfl rfl (r_move hF rfl rfl) ?_; clear hF; clear a; intro a hF
      obtain ⟨t45, hct45, h⟩ := h
      refine RL.val  hF rfl rfl rfl (r_loadA hF rfl rfl Try.isAgg94 Try.sizeOf94 hct45) ?_; clear hF; clear a; intro a hF
      refine RL.yield (xs := [.agg t45]) hF rfl rfl rfl rfl rfl rfl (Yl.mono h ?_)
      clear h; rintro r47 w46 h; clear hF; clear a; intro a hF
      refine RL.val  hF rfl rfl rfl (r_not hF rfl rfl) ?_; clear hF; clear a; intro a hF
      refine RL.nil (hK44 _ _ ?_)
      clear hK44 K43
      obtain ⟨ht, hf⟩ := h
      refine cond_ hF rfl (fun hc => ?_) (fun hc => ?_)
      · replace h := ht hc; clear ht hf
        refine wp_ret ?_
        exact ret_of hF (res0 rfl) ⟨rfl, h⟩
      · replace h := hf hc; clear ht hf
        refine wp_skip ?_
        exact jn32 () _ _ (hF.sub rfl) h
    clear hJ
    obtain ⟨ht, hf⟩ := h
    refine cond_ hF rfl (fun hc => ?_) (fun hc => ?_)
    · replace h := ht hc; clear ht hf
      refine wp_skip ?_
      exact jn26 () _ _ (hF.sub rfl) h
    · replace h := hf hc; clear ht hf
      refine wp_exit ?_
      exact end_of hF (res0 rfl) ⟨rfl, h⟩
  clear hJ
  refine seq_region fun K48 hK49 => ?_
  obtain ⟨p51, hpp51, h⟩ := h
  obtain ⟨t50, hct50, h⟩ := h
  refine RL.val  hF rfl rfl rfl (r_load hF rfl (lkp rfl hpp51) Try.isAgg67 hct50) ?_; clear hF; clear a; intro a hF
  refine RL.call hF rfl rfl rfl (r_call (xs := [.pointer t50]) hF rfl rfl Try.call53) (CallsV.mono h ?_)
  clear h; rintro _ w52 ⟨r53, rfl, h⟩; clear hF; clear a; intro a hF
  refine RL.nil (hK49 _ _ ?_)
  clear hK49 K48
  obtain ⟨ht, hf⟩ := h
  refine cond_ hF rfl (fun hc => ?_) (fun hc => ?_)
  · replace h := ht hc; clear ht hf
    refine wp_ret ?_
    exact ret_of hF (res0 rfl) ⟨rfl, h⟩
  · replace h := hf hc; clear ht hf
    refine wp_skip ?_
    exact jn6 () _ _ (hF.sub rfl) h

set_option maxRecDepth 20000 in
theorem br47 {a0 : Option Addr} {w : World} {K : Value → World → Prop} (h : sh47 a0 w K) : C47 a0 w K := by
  unfold sh47 at h
  refine enter (n := 4) (l := [(0, .pointer a0)]) 3 Try.func47 rfl _ rfl rfl rfl fun a hF => ?_
  refine seq_region fun K1 hK2 => ?_
  obtain ⟨p3, w4, hp_, hw_, h⟩ := h
  refine RL.val (v := .pointer (some p3)) (w' := w4) hF rfl rfl rfl (by rw [hp_, hw_]; exact r_box hF rfl rfl rfl) ?_; clear hF; clear a; intro a hF
  refine RL.val  hF rfl rfl rfl (r_assign hF rfl rfl) ?_; clear hF; clear a; intro a hF
  refine RL.nil (hK2 _ _ ?_)
  clear hK2 K1
  refine seq_region fun K5 hK6 => ?_
  refine RL.val  hF rfl rfl rfl (r_makeFunc (xs := []) (ys := [.pointer (some p3)]) hF rfl rfl rfl) ?_; clear hF; clear a; intro a hF
  refine RL.val  hF rfl rfl rfl (r_assign hF rfl rfl) ?_; clear hF; clear a; intro a hF
  refine RL.nil (hK6 _ _ ?_)
  clear hK6 K5
  refine wp_ret ?_
  exact ret_of hF (res1 hF rfl rfl) ⟨_, rfl, h⟩

set_option maxRecDepth 20000 in
theorem br32 {a0 : Option Addr} {w : World} {K : Int → World → Prop} (h : sh32 a0 w K) : C32 a0 w K := by
  unfold sh32 at h
  refine enter (n := 13) (l := [(0, .pointer a0)]) 12 Try.func32 rfl _ rfl rfl rfl fun a hF => ?_
  refine seq_region fun K1 hK2 => ?_
  refine RL.val  hF rfl rfl rfl (r_assign hF rfl rfl) ?_; clear hF; clear a; intro a hF
  refine RL.nil (hK2 _ _ ?_)
  clear hK2 K1
  refine seq_draw 0 #[0, 1, 3, 7, 0, 16, 48, 112, 240, 511, 1023] 11 mo rfl (by kernel_rfl) (by kernel_rfl) fun hS K3 hK4 => ?_
  obtain ⟨w5, hw, h⟩ := h; rw [← hw]; clear hw
  refine GL.val (v := .pointer a0) (i := 0) hF hS rfl rfl (by kernel_rfl) rfl rfl rfl rfl (fun x => r_move hF rfl rfl) ?_; clear hF; clear a; intro a hF
  obtain ⟨p6, hpp6, h⟩ := h
  refine GL.val (v := .pointer (some p6)) (i := 1) hF hS rfl rfl (by kernel_rfl) rfl rfl rfl rfl (fun x => r_nilCheck hF rfl (lkp rfl hpp6)) ?_; clear hF; clear a; intro a hF
  refine GL.val (v := .pointer (some (p6.add 1))) (i := 2) hF hS rfl rfl (by kernel_rfl) rfl rfl rfl rfl (fun x => r_fieldAddr hF rfl rfl Try.runUnderlying70 rfl Try.sizeOf3 rfl) ?_; clear hF; clear a; intro a hF
  obtain ⟨t7, hct7, h⟩ := h
  refine GL.read (v := .int .i64 t7) (i := 3) hF (fun x => World.cell? x (p6.add 1) = some (.int .i64 t7)) hS rfl rfl (by kernel_rfl) rfl rfl rfl rfl hct7 (fun x hx => r_load hF rfl rfl Try.isAgg3 hx) ?_; clear hF; clear a; intro a hF
  refine GL.val (v := .pointer a0) (i := 4) hF hS rfl rfl (by kernel_rfl) rfl rfl rfl rfl (fun x => r_move hF rfl rfl) ?_; clear hF; clear a; intro a hF
  obtain ⟨p8, hpp8, h⟩ := h
  refine GL.val (v := .pointer (some p8)) (i := 5) hF hS rfl rfl (by kernel_rfl) rfl rfl rfl rfl (fun x => r_nilCheck hF rfl (lkp rfl hpp8)) ?_; clear hF; clear a; intro a hF
  refine GL.val (v := .pointer (some (p8.add 2))) (i := 6) hF hS rfl rfl (by kernel_rfl) rfl rfl rfl rfl (fun x => r_fieldAddr hF rfl rfl Try.runUnderlying70 rfl Try.sizeOf22 rfl) ?_; clear hF; clear a; intro a hF
  obtain ⟨t9, hct9, h⟩ := h
  refine GL.read (v := t9.v) (i := 7) hF (fun x => World.cell? x (p8.add 2) = some (t9.v)) hS rfl rfl (by kernel_rfl) rfl rfl rfl rfl hct9 (fun x hx => r_load hF rfl rfl Try.isAgg22 hx) ?_; clear hF; clear a; intro a hF
  refine GL.val (v := .int .i64 (t9.len : Int)) (i := 8) hF hS rfl rfl (by kernel_rfl) rfl rfl rfl rfl (fun x => r_len_slice hF rfl rfl Try.runUnderlying22) ?_; clear hF; clear a; intro a hF
  refine GL.val (v := .int .i64 (IntKind.i64.wrap (t7 + (t9.len : Int)))) (i := 9) hF hS rfl rfl (by kernel_rfl) rfl rfl rfl rfl (fun x => r_add hF rfl rfl rfl) ?_; clear hF; clear a; intro a hF
  refine GL.val (v := .int .i64 (IntKind.i64.wrap (t7 + (t9.len : Int)))) (i := 10) hF hS rfl rfl (by kernel_rfl) rfl rfl rfl rfl (fun x => r_assign hF rfl rfl) ?_; clear hF; clear a; intro a hF
  refine GL.done (by kernel_rfl) (hK4 _ _ ?_)
  clear hK4 K3
  refine wp_ret ?_
  exact ret_of hF (res1 hF rfl rfl) ⟨_, rfl, h⟩

set_option maxRecDepth 20000 in
theorem br48 {c0 : Option Addr} {c1 : Option Addr} {w : World} {K : Int → World → Prop} (h : sh48 c0 c1 w K) : C48 c0 c1 w K := by
  unfold sh48 at h
  refine enter (n := 7) (l := [(0, .pointer c0), (1, .pointer c1)]) 5 Try.func48 rfl _ rfl rfl rfl fun a hF => ?_
  refine seq_region fun K1 hK2 => ?_
  refine RL.val  hF rfl rfl rfl (r_assign hF rfl rfl) ?_; clear hF; clear a; intro a hF
  refine RL.nil (hK2 _ _ ?_)
  clear hK2 K1
  refine seq_draw 2 #[0, 1, 0, 7, 15] 5 mo rfl (by kernel_rfl) (by kernel_rfl) fun hS K3 hK4 => ?_
  obtain ⟨w5, hw, h⟩ := h; rw [← hw]; clear hw
  obtain ⟨p7, hpp7, h⟩ := h
  obtain ⟨t6, hct6, h⟩ := h
  refine GL.read (v := .pointer t6) (i := 0) hF (fun x => World.cell? x p7 = some (.pointer t6)) hS rfl rfl (by kernel_rfl) rfl rfl rfl rfl hct6 (fun x hx => r_load hF rfl (lkp rfl hpp7) Try.isAgg23 hx) ?_; clear hF; clear a; intro a hF
  obtain ⟨p9, hpp9, h⟩ := h
  obtain ⟨t8, hct8, h⟩ := h
  refine GL.read (v := .int .i64 t8) (i := 2) hF (fun x => World.cell? x p9 = some (.int .i64 t8)) hS rfl rfl (by kernel_rfl) rfl rfl rfl rfl hct8 (fun x hx => r_load hF rfl (lkp rfl hpp9) Try.isAgg3 hx) ?_; clear hF; clear a; intro a hF
  refine GL.act (i := 1) (pend' := [(2, fun x => World.cell? x p9 = some (.int .i64 t8))]) hS (by kernel_rfl) rfl (by kernel_rfl) ?_
  refine op_call hF rfl rfl rfl rfl (r_call (xs := [.pointer t6]) hF rfl rfl Try.call32) (CallsV.mono h ?_)
  clear h; rintro _ w10 ⟨r11, rfl, h⟩
  obtain ⟨hk12, h⟩ := h
  refine ⟨⟨hk12, trivial⟩, ?_⟩; clear hF; clear a; intro a hF
  refine GL.val (v := .int .i64 (if t8 < r11 then t8 else r11)) (i := 3) hF hS rfl rfl (by kernel_rfl) rfl rfl rfl rfl (fun x => r_min hF rfl rfl rfl) ?_; clear hF; clear a; intro a hF
  refine GL.val (v := .int .i64 (if t8 < r11 then t8 else r11)) (i := 4) hF hS rfl rfl (by kernel_rfl) rfl rfl rfl rfl (fun x => r_assign hF rfl rfl) ?_; clear hF; clear a; intro a hF
  refine GL.done (by kernel_rfl) (hK4 _ _ ?_)
  clear hK4 K3
  refine wp_ret ?_
  exact ret_of hF (res1 hF rfl rfl) ⟨_, rfl, h⟩

set_option maxRecDepth 20000 in
theorem br29 {a0 : Option Addr} {a1 : Int} {a2 : Int} {w : World} {K : Int → Int → Bool → World → Prop} (h : sh29 a0 a1 a2 w K) : C29 a0 a1 a2 w K := by
  unfold sh29 at h
  refine enterM (n := 96) (l := [(0, .pointer a0), (1, .int .i64 a1), (2, .int .i64 a2)]) 93 Try.func29 rfl _ rfl rfl rfl fun a hF => ?_
  refine seq_region fun K1 hK2 => ?_
  obtain ⟨p3, w4, hp_, hw_, h⟩ := h
  refine RL.val (v := .pointer (some p3)) (w' := w4) hF rfl rfl rfl (by rw [hp_, hw_]; exact r_box hF rfl rfl rfl) ?_; clear hF; clear a; intro a hF
  obtain ⟨p5, w6, hp_, hw_, h⟩ := h
  refine RL.val (v := .pointer (some p5)) (w' := w6) hF rfl rfl rfl (by rw [hp_, hw_]; exact r_box hF rfl rfl rfl) ?_; clear hF; clear a; intro a hF
  obtain ⟨p7, w8, hp_, hw_, h⟩ := h
  refine RL.val (v := .pointer (some p7)) (w' := w8) hF rfl rfl rfl (by rw [hp_, hw_]; exact r_box hF rfl rfl rfl) ?_; clear hF; clear a; intro a hF
  obtain ⟨p9, w10, hp_, hw_, h⟩ := h
  refine RL.val (v := .pointer (some p9)) (w' := w10) hF rfl rfl rfl (by rw [hp_, hw_]; exact r_alloc rfl Try.zeroValue3 rfl) ?_; clear hF; clear a; intro a hF
  obtain ⟨p11, w12, hp_, hw_, h⟩ := h
  refine RL.val (v := .pointer (some p11)) (w' := w12) hF rfl rfl rfl (by rw [hp_, hw_]; exact r_alloc rfl Try.zeroValue3 rfl) ?_; clear hF; clear a; intro a hF
  obtain ⟨p13, w14, hp_, hw_, h⟩ := h
  refine RL.val (v := .pointer (some p13)) (w' := w14) hF rfl rfl rfl (by rw [hp_, hw_]; exact r_alloc rfl Try.zeroValue4 rfl) ?_; clear hF; clear a; intro a hF
  refine RL.nil (hK2 _ _ ?_)
  clear hK2 K1
  refine seq_k fun K15 hK16 => ?_
  obtain ⟨J, hJ, h⟩ := jn_open h
  have jn20 : ∀ (v17 : Unit) (w18 : World) a, Fr 96 a [(3, .pointer (some p3)), (4, .pointer (some p5)), (5, .pointer (some p7)), (6, .pointer (some p9)), (7, .pointer (some p11)), (8, .pointer (some p13))] → J v17 w18 → K15 a w18 := by
    intro v17 w18 a hF h
    replace h := hJ _ _ h
    clear hJ
    refine hK16 _ _ ?_
    refine seq_k fun K21 hK22 => ?_
    refine seq_region fun K23 hK24 => ?_
    obtain ⟨t25, hct25, h⟩ := h
    refine RL.val  hF rfl rfl rfl (r_load hF rfl rfl Try.isAgg23 hct25) ?_; clear hF; clear a; intro a hF
    obtain ⟨p26, hpp26, h⟩ := h
    refine RL.val  hF rfl rfl rfl (r_nilCheck hF rfl (lkp rfl hpp26)) ?_; clear hF; clear a; intro a hF
    refine RL.val  hF rfl rfl rfl (r_fieldAddr hF rfl rfl Try.runUnderlying70 rfl Try.sizeOf67 rfl) ?_; clear hF; clear a; intro a hF
    obtain ⟨t27, hct27, h⟩ := h
    refine RL.val  hF rfl rfl rfl (r_load hF rfl rfl Try.isAgg67 hct27) ?_; clear hF; clear a; intro a hF
    refine RL.call hF rfl rfl rfl (r_call (xs := [.pointer t27]) hF rfl rfl Try.call47) (CallsV.mono h ?_)
    clear h; rintro _ w28 ⟨r29, rfl, h⟩; clear hF; clear a; intro a hF
    refine RL.nil (hK24 _ _ ?_)
    clear hK24 K23
    refine rf29_ok (l' := [(3, .pointer (some p3)), (4, .pointer (some p5)), (5, .pointer (some p7)), (6, .pointer (some p9)), (7, .pointer (some p11)), (8, .pointer (some p13))]) hF rfl rfl rfl rfl rfl (hF.sub rfl) h (fun D30 w31 a hF h => ?_) (fun D30 w31 a hF h => ?_)
    · refine hK22 _ _ ?_
      refine seq_region fun K32 hK33 => ?_
      refine RL.val  hF rfl rfl rfl (r_makeFunc (xs := []) (ys := [.pointer (some p3), .pointer (some p7)]) hF rfl rfl rfl) ?_; clear hF; clear a; intro a hF
      refine RL.val  hF rfl rfl rfl (r_assign hF rfl rfl) ?_; clear hF; clear a; intro a hF
      refine RL.nil (hK33 _ _ ?_)
      clear hK33 K32
      refine seq_k fun K34 hK35 => ?_
      obtain ⟨J, hJ, h⟩ := jn_open h
      have jn39 : ∀ (v36 : Unit) (w37 : World) a, Fr 96 a [(3, .pointer (some p3)), (6, .pointer (some p9)), (7, .pointer (some p11)), (8, .pointer (some p13))] (mkD D30) → J v36 w37 → K34 a w37 := by
        intro v36 w37 a hF h
        replace h := hJ _ _ h
        clear hJ
        refine hK35 _ _ ?_
        refine seq_draw 7340032 #[0, 1, 3, 7, 0, 16, 48, 112, 0, 256, 768, 1792, 3840, 7936, 16128, 32512, 65280, 130816, 261888, 524032, 16143, 1064959, 4194303] 23 mo rfl (by kernel_rfl) (by kernel_rfl) fun hS K40 hK41 => ?_
        obtain ⟨w42, hw, h⟩ := h; rw [← hw]; clear hw
        obtain ⟨J45, hJ, h⟩ := jn_open h
        have jn46 : ∀ (v43 : Unit) (w44 : World) a, Fr 96 a [(6, .pointer (some p9)), (7, .pointer (some p11)), (8, .pointer (some p13))] (mkD D30) → J45 v43 w44 → K40 a w44 := by
          clear hF
          intro v43 w44 a hF h; replace h := hJ _ _ h; refine hK41 _ _ ?_; clear hJ hK41 K40
          refine wp_ret ?_
          obtain ⟨hD_, h⟩ := h; generalize hW_ : w44.putObj D30 (.deferred none) = w47 at h
          obtain ⟨t48, hct48, h⟩ := h
          obtain ⟨t49, hct49, h⟩ := h
          obtain ⟨t50, hct50, h⟩ := h
          subst hW_
          try dsimp only [Exit.then, Exit.inBlock, Exit.noGoto]
          refine retM1 (fn := Try.f29) hF hD_ (res3 hF rfl ⟨_, rfl, ld1 Try.isAgg3 hct48⟩ ⟨_, rfl, ld1 Try.isAgg3 hct49⟩ ⟨_, rfl, ld1 Try.isAgg4 hct50⟩) ?_; exact ⟨_, _, _, rfl, h⟩
        clear hJ hK41
        obtain ⟨t51, hct51, h⟩ := h
        refine GL.read (v := .pointer t51) (i := 0) hF (fun x => World.cell? x p3 = some (.pointer t51)) hS rfl rfl (by kernel_rfl) rfl rfl rfl rfl hct51 (fun x hx => r_load hF rfl rfl Try.isAgg23 hx) ?_; clear hF; clear a; intro a hF
        obtain ⟨p52, hpp52, h⟩ := h
        refine GL.val (v := .pointer (some p52)) (i := 1) hF hS rfl rfl (by kernel_rfl) rfl rfl rfl rfl (fun x => r_nilCheck hF rfl (lkp rfl hpp52)) ?_; clear hF; clear a; intro a hF
        refine GL.val (v := .pointer (some (p52.add 3))) (i := 2) hF hS rfl rfl (by kernel_rfl) rfl rfl rfl rfl (fun x => r_fieldAddr hF rfl rfl Try.runUnderlying70 rfl Try.sizeOf3 rfl) ?_; clear hF; clear a; intro a hF
        obtain ⟨t53, hct53, h⟩ := h
        refine GL.read (v := .int .i64 t53) (i := 3) hF (fun x => World.cell? x (p52.add 3) = some (.int .i64 t53)) hS rfl rfl (by kernel_rfl) rfl rfl rfl rfl hct53 (fun x hx => r_load hF rfl rfl Try.isAgg3 hx) ?_; clear hF; clear a; intro a hF
        obtain ⟨t54, hct54, h⟩ := h
        refine GL.read (v := .pointer t54) (i := 4) hF (fun x => World.cell? x p3 = some (.pointer t54)) hS rfl rfl (by kernel_rfl) rfl rfl rfl rfl hct54 (fun x hx => r_load hF rfl rfl Try.isAgg23 hx) ?_; clear hF; clear a; intro a hF
        obtain ⟨p55, hpp55, h⟩ := h
        refine GL.val (v := .pointer (some p55)) (i := 5) hF hS rfl rfl (by kernel_rfl) rfl rfl rfl rfl (fun x => r_nilCheck hF rfl (lkp rfl hpp55)) ?_; clear hF; clear a; intro a hF
        refine GL.val (v := .pointer (some (p55.add 3))) (i := 6) hF hS rfl rfl (by kernel_rfl) rfl rfl rfl rfl (fun x => r_fieldAddr hF rfl rfl Try.runUnderlying70 rfl Try.sizeOf3 rfl) ?_; clear hF; clear a; intro a hF
        obtain ⟨t56, hct56, h⟩ := h
        refine GL.read (v := .int .i64 t56) (i := 7) hF (fun x => World.cell? x (p55.add 3) = some (.int .i64 t56)) hS rfl rfl (by kernel_rfl) rfl rfl rfl rfl hct56 (fun x hx => r_load hF rfl rfl Try.isAgg3 hx) ?_; clear hF; clear a; intro a hF
        obtain ⟨t57, hct57, h⟩ := h
        refine GL.read (v := .pointer t57) (i := 8) hF (fun x => World.cell? x p3 = some (.pointer t57)) hS rfl rfl (by kernel_rfl) rfl rfl rfl rfl hct57 (fun x hx => r_load hF rfl rfl Try.isAgg23 hx) ?_; clear hF; clear a; intro a hF
        obtain ⟨p58, hpp58, h⟩ := h
        refine GL.val (v := .pointer (some p58)) (i := 9) hF hS rfl rfl (by kernel_rfl) rfl rfl rfl rfl (fun x => r_nilCheck hF rfl (lkp rfl hpp58)) ?_; clear hF; clear a; intro a hF
        refine GL.val (v := .pointer (some (p58.add 6))) (i := 10) hF hS rfl rfl (by kernel_rfl) rfl rfl rfl rfl (fun x => r_fieldAddr hF rfl rfl Try.runUnderlying70 rfl Try.sizeOf3 rfl) ?_; clear hF; clear a; intro a hF
        obtain ⟨t59, hct59, h⟩ := h
        refine GL.read (v := .int .i64 t59) (i := 11) hF (fun x => World.cell? x (p58.add 6) = some (.int .i64 t59)) hS rfl rfl (by kernel_rfl) rfl rfl rfl rfl hct59 (fun x hx => r_load hF rfl rfl Try.isAgg3 hx) ?_; clear hF; clear a; intro a hF
        refine GL.val (v := .bool (t59 == 1)) (i := 12) hF hS rfl rfl (by kernel_rfl) rfl rfl rfl rfl (fun x => r_eql hF rfl rfl rfl) ?_; clear hF; clear a; intro a hF
        refine GL.val (v := .bool (t59 == 1)) (i := 13) hF hS rfl rfl (by kernel_rfl) rfl rfl rfl rfl (fun x => r_move hF rfl rfl) ?_; clear hF; clear a; intro a hF
        obtain ⟨ht, hf⟩ := h
        rcases bool_cases (t59 == 1) with hg60 | hg60
        · replace h := ht hg60; clear ht hf
          refine GL.skip (i := 14) hF hS rfl rfl (by kernel_rfl) rfl rfl rfl (lkb rfl hg60) (.inl rfl) rfl rfl ?_; clear hF; clear a; intro a hF
          refine GL.skip (i := 15) hF hS rfl rfl (by kernel_rfl) rfl rfl rfl (lkb rfl hg60) (.inl rfl) rfl rfl ?_; clear hF; clear a; intro a hF
          refine GL.skip (i := 16) hF hS rfl rfl (by kernel_rfl) rfl rfl rfl (lkb rfl hg60) (.inl rfl) rfl rfl ?_; clear hF; clear a; intro a hF
          refine GL.skip (i := 17) hF hS rfl rfl (by kernel_rfl) rfl rfl rfl (lkb rfl hg60) (.inl rfl) rfl rfl ?_; clear hF; clear a; intro a hF
          refine GL.skip (i := 18) hF hS rfl rfl (by kernel_rfl) rfl rfl rfl (lkb rfl hg60) (.inl rfl) rfl rfl ?_; clear hF; clear a; intro a hF
          refine GL.val (v := .bool true) (i := 19) hF hS rfl rfl (by kernel_rfl) rfl rfl rfl rfl (fun x => r_pick hF rfl rfl rfl rfl (fun _ => rfl) (fun e => absurd (hg60.symm.trans e) (by decide))) ?_; clear hF; clear a; intro a hF
          refine GL.act (i := 20) (pend' := [(7, fun x => World.cell? x (p55.add 3) = some (.int .i64 t56)), (4, fun x => World.cell? x p3 = some (.pointer t54))]) hS (by kernel_rfl) rfl (by kernel_rfl) ?_
          obtain ⟨u_, w61, hs1_, hs2_, hs3_, h⟩ := h
          obtain ⟨hk62, hk63, h⟩ := h
          refine op_unit (w' := w61) hF rfl rfl rfl (by rw [hs3_]; exact r_store hF rfl rfl rfl rfl Try.sizeOf3 hs1_ hs2_) ⟨hk62, hk63, trivial⟩ ?_; clear hF; clear a; intro a hF
          refine GL.act (i := 21) (pend' := []) hS (by kernel_rfl) rfl (by kernel_rfl) ?_
          obtain ⟨u_, w64, hs1_, hs2_, hs3_, h⟩ := h
          refine op_unit (w' := w64) hF rfl rfl rfl (by rw [hs3_]; exact r_store hF rfl rfl rfl rfl Try.sizeOf3 hs1_ hs2_) trivial ?_; clear hF; clear a; intro a hF
          refine GL.act (i := 22) (pend' := []) hS (by kernel_rfl) rfl (by kernel_rfl) ?_
          obtain ⟨u_, w65, hs1_, hs2_, hs3_, h⟩ := h
          refine op_unit (w' := w65) hF rfl rfl rfl (by rw [hs3_]; exact r_store hF rfl rfl rfl rfl Try.sizeOf4 hs1_ hs2_) trivial ?_; clear hF; clear a; intro a hF
          refine GL.done (by kernel_rfl) ?_
          exact jn46 () _ _ (hF.sub rfl) h
        · replace h := hf hg60; clear ht hf
          obtain ⟨t66, hct66, h⟩ := h
          refine GL.gread (v := .pointer t66) (i := 14) hF (fun x => World.cell? x p3 = some (.pointer t66)) hS rfl rfl (by kernel_rfl) rfl rfl rfl (lkb rfl hg60) rfl rfl hct66 (fun x hx => r_load hF rfl rfl Try.isAgg23 hx) ?_; clear hF; clear a; intro a hF
          obtain ⟨p67, hpp67, h⟩ := h
          refine GL.gval (v := .pointer (some p67)) (i := 15) hF hS rfl rfl (by kernel_rfl) rfl rfl rfl (lkb rfl hg60) rfl rfl (fun x => r_nilCheck hF rfl (lkp rfl hpp67)) ?_; clear hF; clear a; intro a hF
          refine GL.gval (v := .pointer (some (p67.add 6))) (i := 16) hF hS rfl rfl (by kernel_rfl) rfl rfl rfl (lkb rfl hg60) rfl rfl (fun x => r_fieldAddr hF rfl rfl Try.runUnderlying70 rfl Try.sizeOf3 rfl) ?_; clear hF; clear a; intro a hF
          obtain ⟨t68, hct68, h⟩ := h
          refine GL.gread (v := .int .i64 t68) (i := 17) hF (fun x => World.cell? x (p67.add 6) = some (.int .i64 t68)) hS rfl rfl (by kernel_rfl) rfl rfl rfl (lkb rfl hg60) rfl rfl hct68 (fun x hx => r_load hF rfl rfl Try.isAgg3 hx) ?_; clear hF; clear a; intro a hF
          refine GL.gval (v := .bool (t68 == 3)) (i := 18) hF hS rfl rfl (by kernel_rfl) rfl rfl rfl (lkb rfl hg60) rfl rfl (fun x => r_eql hF rfl rfl rfl) ?_; clear hF; clear a; intro a hF
          refine GL.val (v := .bool (t68 == 3)) (i := 19) hF hS rfl rfl (by kernel_rfl) rfl rfl rfl rfl (fun x => r_pick hF rfl rfl rfl rfl (fun e => absurd (hg60.symm.trans e) (by decide)) (fun _ => rfl)) ?_; clear hF; clear a; intro a hF
          refine GL.act (i := 20) (pend' := [(17, fun x => World.cell? x (p67.add 6) = some (.int .i64 t68)), (14, fun x => World.cell? x p3 = some (.pointer t66)), (7, fun x => World.cell? x (p55.add 3) = some (.int .i64 t56)), (4, fun x => World.cell? x p3 = some (.pointer t54))]) hS (by kernel_rfl) rfl (by kernel_rfl) ?_
          obtain ⟨u_, w69, hs1_, hs2_, hs3_, h⟩ := h
          obtain ⟨hk70, hk71, hk72, hk73, h⟩ := h
          refine op_unit (w' := w69) hF rfl rfl rfl (by rw [hs3_]; exact r_store hF rfl rfl rfl rfl Try.sizeOf3 hs1_ hs2_) ⟨hk70, hk71, hk72, hk73, trivial⟩ ?_; clear hF; clear a; intro a hF
          refine GL.act (i := 21) (pend' := [(17, fun x => World.cell? x (p67.add 6) = some (.int .i64 t68)), (14, fun x => World.cell? x p3 = some (.pointer t66))]) hS (by kernel_rfl) rfl (by kernel_rfl) ?_
          obtain ⟨u_, w74, hs1_, hs2_, hs3_, h⟩ := h
          obtain ⟨hk75, hk76, h⟩ := h
          refine op_unit (w' := w74) hF rfl rfl rfl (by rw [hs3_]; exact r_store hF rfl rfl rfl rfl Try.sizeOf3 hs1_ hs2_) ⟨hk75, hk76, trivial⟩ ?_; clear hF; clear a; intro a hF
          refine GL.act (i := 22) (pend' := []) hS (by kernel_rfl) rfl (by kernel_rfl) ?_
          obtain ⟨u_, w77, hs1_, hs2_, hs3_, h⟩ := h
          refine op_unit (w' := w77) hF rfl rfl rfl (by rw [hs3_]; exact r_store hF rfl rfl rfl rfl Try.sizeOf4 hs1_ hs2_) trivial ?_; clear hF; clear a; intro a hF
          refine GL.done (by kernel_rfl) ?_
          exact jn46 () _ _ (hF.sub rfl) h
      clear hJ
      refine seq_draw 32 #[0, 1, 3, 7, 0, 16, 63] 7 mo rfl (by kernel_rfl) (by kernel_rfl) fun hS K78 hK79 => ?_
      obtain ⟨w80, hw, h⟩ := h; rw [← hw]; clear hw
      obtain ⟨t81, hct81, h⟩ := h
      refine GL.read (v := .pointer t81) (i := 0) hF (fun x => World.cell? x p3 = some (.pointer t81)) hS rfl rfl (by kernel_rfl) rfl rfl rfl rfl hct81 (fun x hx => r_load hF rfl rfl Try.isAgg23 hx) ?_; clear hF; clear a; intro a hF
      obtain ⟨p82, hpp82, h⟩ := h
      refine GL.val (v := .pointer (some p82)) (i := 1) hF hS rfl rfl (by kernel_rfl) rfl rfl rfl rfl (fun x => r_nilCheck hF rfl (lkp rfl hpp82)) ?_; clear hF; clear a; intro a hF
      refine GL.val (v := .pointer (some (p82.add 3))) (i := 2) hF hS rfl rfl (by kernel_rfl) rfl rfl rfl rfl (fun x => r_fieldAddr hF rfl rfl Try.runUnderlying70 rfl Try.sizeOf3 rfl) ?_; clear hF; clear a; intro a hF
      obtain ⟨t83, hct83, h⟩ := h
      refine GL.read (v := .int .i64 t83) (i := 3) hF (fun x => World.cell? x (p82.add 3) = some (.int .i64 t83)) hS rfl rfl (by kernel_rfl) rfl rfl rfl rfl hct83 (fun x hx => r_load hF rfl rfl Try.isAgg3 hx) ?_; clear hF; clear a; intro a hF
      obtain ⟨t84, hct84, h⟩ := h
      refine GL.read (v := .pointer t84) (i := 4) hF (fun x => World.cell? x p3 = some (.pointer t84)) hS rfl rfl (by kernel_rfl) rfl rfl rfl rfl hct84 (fun x hx => r_load hF rfl rfl Try.isAgg23 hx) ?_; clear hF; clear a; intro a hF
      refine GL.act (i := 5) (pend' := [(3, fun x => World.cell? x (p82.add 3) = some (.int .i64 t83)), (0, fun x => World.cell? x p3 = some (.pointer t81))]) hS (by kernel_rfl) rfl (by kernel_rfl) ?_
      refine op_call hF rfl rfl rfl rfl (r_call (xs := [.pointer t84]) hF rfl rfl Try.call32) (CallsV.mono h ?_)
      clear h; rintro _ w85 ⟨r86, rfl, h⟩
      obtain ⟨hk87, hk88, h⟩ := h
      refine ⟨⟨hk87, hk88, trivial⟩, ?_⟩; clear hF; clear a; intro a hF
      refine GL.val (v := .bool (decide (t83 < r86))) (i := 6) hF hS rfl rfl (by kernel_rfl) rfl rfl rfl rfl (fun x => r_lss hF rfl rfl rfl) ?_; clear hF; clear a; intro a hF
      refine GL.done (by kernel_rfl) (hK79 _ _ ?_)
      clear hK79 K78
      obtain ⟨ht, hf⟩ := h
      refine cond_ hF rfl (fun hc => ?_) (fun hc => ?_)
      · replace h := ht hc; clear ht hf
        refine seq_k fun K89 hK90 => ?_
        obtain ⟨J, hJ, h⟩ := jn_open h
        have jn94 : ∀ (v91 : Unit) (w92 : World) a, Fr 96 a [(3, .pointer (some p3)), (4, .pointer (some p5)), (6, .pointer (some p9)), (7, .pointer (some p11)), (8, .pointer (some p13)), (10, (Value.func (Fn.func 48) #[] #[.pointer (some p3), .pointer (some p7)]))] (mkD D30) → J v91 w92 → K89 a w92 := by
          intro v91 w92 a hF h
          replace h := hJ _ _ h
          clear hJ
          refine hK90 _ _ ?_
          refine seq_draw 16448 #[0, 1, 3, 7, 0, 0, 32, 0, 128, 384, 896, 2016, 4080, 8191, 16383] 15 mo rfl (by kernel_rfl) (by kernel_rfl) fun hS K95 hK96 => ?_
          obtain ⟨w97, hw, h⟩ := h; rw [← hw]; clear hw
          obtain ⟨t98, hct98, h⟩ := h
          refine GL.read (v := .pointer t98) (i := 0) hF (fun x => World.cell? x p3 = some (.pointer t98)) hS rfl rfl (by kernel_rfl) rfl rfl rfl rfl hct98 (fun x hx => r_load hF rfl rfl Try.isAgg23 hx) ?_; clear hF; clear a; intro a hF
          obtain ⟨p99, hpp99, h⟩ := h
          refine GL.val (v := .pointer (some p99)) (i := 1) hF hS rfl rfl (by kernel_rfl) rfl rfl rfl rfl (fun x => r_nilCheck hF rfl (lkp rfl hpp99)) ?_; clear hF; clear a; intro a hF
          refine GL.val (v := .pointer (some (p99.add 3))) (i := 2) hF hS rfl rfl (by kernel_rfl) rfl rfl rfl rfl (fun x => r_fieldAddr hF rfl rfl Try.runUnderlying70 rfl Try.sizeOf3 rfl) ?_; clear hF; clear a; intro a hF
          obtain ⟨t100, hct100, h⟩ := h
          refine GL.read (v := .int .i64 t100) (i := 3) hF (fun x => World.cell? x (p99.add 3) = some (.int .i64 t100)) hS rfl rfl (by kernel_rfl) rfl rfl rfl rfl hct100 (fun x hx => r_load hF rfl rfl Try.isAgg3 hx) ?_; clear hF; clear a; intro a hF
          obtain ⟨t101, hct101, h⟩ := h
          refine GL.read (v := .int .i64 t101) (i := 4) hF (fun x => World.cell? x p5 = some (.int .i64 t101)) hS rfl rfl (by kernel_rfl) rfl rfl rfl rfl hct101 (fun x hx => r_load hF rfl rfl Try.isAgg3 hx) ?_; clear hF; clear a; intro a hF
          refine GL.val (v := (Value.func (Fn.func 48) #[] #[.pointer (some p3), .pointer (some p7)])) (i := 5) hF hS rfl rfl (by kernel_rfl) rfl rfl rfl rfl (fun x => r_move hF rfl rfl) ?_; clear hF; clear a; intro a hF
          obtain ⟨t102, hct102, h⟩ := h
          refine GL.read (v := .pointer t102) (i := 7) hF (fun x => World.cell? x p3 = some (.pointer t102)) hS rfl rfl (by kernel_rfl) rfl rfl rfl rfl hct102 (fun x hx => r_load hF rfl rfl Try.isAgg23 hx) ?_; clear hF; clear a; intro a hF
          obtain ⟨p103, hpp103, h⟩ := h
          refine GL.val (v := .pointer (some p103)) (i := 8) hF hS rfl rfl (by kernel_rfl) rfl rfl rfl rfl (fun x => r_nilCheck hF rfl (lkp rfl hpp103)) ?_; clear hF; clear a; intro a hF
          refine GL.val (v := .pointer (some (p103.add 3))) (i := 9) hF hS rfl rfl (by kernel_rfl) rfl rfl rfl rfl (fun x => r_fieldAddr hF rfl rfl Try.runUnderlying70 rfl Try.sizeOf3 rfl) ?_; clear hF; clear a; intro a hF
          obtain ⟨t104, hct104, h⟩ := h
          refine GL.read (v := .int .i64 t104) (i := 10) hF (fun x => World.cell? x (p103.add 3) = some (.int .i64 t104)) hS rfl rfl (by kernel_rfl) rfl rfl rfl rfl hct104 (fun x hx => r_load hF rfl rfl Try.isAgg3 hx) ?_; clear hF; clear a; intro a hF
          refine GL.act (i := 6) (pend' := [(10, fun x => World.cell? x (p103.add 3) = some (.int .i64 t104)), (7, fun x => World.cell? x p3 = some (.pointer t102)), (4, fun x => World.cell? x p5 = some (.int .i64 t101)), (3, fun x => World.cell? x (p99.add 3) = some (.int .i64 t100)), (0, fun x => World.cell? x p3 = some (.pointer t98))]) hS (by kernel_rfl) rfl (by kernel_rfl) ?_
          obtain ⟨f107, x108, y109, hf_, hg_, h⟩ := h
          refine op_call hF rfl rfl rfl rfl (r_callV (xs := []) hF rfl (by rw [← hf_]; rfl) rfl hg_) (CallsV.mono h ?_)
          clear h; rintro _ w105 ⟨r106, rfl, h⟩
          obtain ⟨hk110, hk111, hk112, hk113, hk114, h⟩ := h
          refine ⟨⟨hk110, hk111, hk112, hk113, hk114, trivial⟩, ?_⟩; clear hF; clear a; intro a hF
          refine GL.val (v := .int .i64 (IntKind.i64.wrap (r106 - t104))) (i := 11) hF hS rfl rfl (by kernel_rfl) rfl rfl rfl rfl (fun x => r_sub hF rfl rfl rfl) ?_; clear hF; clear a; intro a hF
          refine GL.val (v := .int .i64 (if (IntKind.i64.wrap (r106 - t104)) < t101 then (IntKind.i64.wrap (r106 - t104)) else t101)) (i := 12) hF hS rfl rfl (by kernel_rfl) rfl rfl rfl rfl (fun x => r_min hF rfl rfl rfl) ?_; clear hF; clear a; intro a hF
          refine GL.val (v := .int .i64 (IntKind.i64.wrap (t100 + (if (IntKind.i64.wrap (r106 - t104)) < t101 then (IntKind.i64.wrap (r106 - t104)) else t101)))) (i := 13) hF hS rfl rfl (by kernel_rfl) rfl rfl rfl rfl (fun x => r_add hF rfl rfl rfl) ?_; clear hF; clear a; intro a hF
          refine GL.act (i := 14) (pend' := []) hS (by kernel_rfl) rfl (by kernel_rfl) ?_
          obtain ⟨u_, w115, hs1_, hs2_, hs3_, h⟩ := h
          refine op_unit (w' := w115) hF rfl rfl rfl (by rw [hs3_]; exact r_store hF rfl rfl rfl rfl Try.sizeOf3 hs1_ hs2_) trivial ?_; clear hF; clear a; intro a hF
          refine GL.done (by kernel_rfl) (hK96 _ _ ?_)
          clear hK96 K95
          refine seq_draw 14336 #[0, 1, 3, 7, 0, 0, 0, 64, 192, 448, 992, 47, 2111, 8191] 14 mo rfl (by kernel_rfl) (by kernel_rfl) fun hS K116 hK117 => ?_
          obtain ⟨w118, hw, h⟩ := h; rw [← hw]; clear hw
          obtain ⟨t119, hct119, h⟩ := h
          refine GL.read (v := .pointer t119) (i := 0) hF (fun x => World.cell? x p3 = some (.pointer t119)) hS rfl rfl (by kernel_rfl) rfl rfl rfl rfl hct119 (fun x hx => r_load hF rfl rfl Try.isAgg23 hx) ?_; clear hF; clear a; intro a hF
          obtain ⟨p120, hpp120, h⟩ := h
          refine GL.val (v := .pointer (some p120)) (i := 1) hF hS rfl rfl (by kernel_rfl) rfl rfl rfl rfl (fun x => r_nilCheck hF rfl (lkp rfl hpp120)) ?_; clear hF; clear a; intro a hF
          refine GL.val (v := .pointer (some (p120.add 3))) (i := 2) hF hS rfl rfl (by kernel_rfl) rfl rfl rfl rfl (fun x => r_fieldAddr hF rfl rfl Try.runUnderlying70 rfl Try.sizeOf3 rfl) ?_; clear hF; clear a; intro a hF
          obtain ⟨t121, hct121, h⟩ := h
          refine GL.read (v := .int .i64 t121) (i := 3) hF (fun x => World.cell? x (p120.add 3) = some (.int .i64 t121)) hS rfl rfl (by kernel_rfl) rfl rfl rfl rfl hct121 (fun x hx => r_load hF rfl rfl Try.isAgg3 hx) ?_; clear hF; clear a; intro a hF
          obtain ⟨t122, hct122, h⟩ := h
          refine GL.read (v := .int .i64 t122) (i := 4) hF (fun x => World.cell? x p11 = some (.int .i64 t122)) hS rfl rfl (by kernel_rfl) rfl rfl rfl rfl hct122 (fun x hx => r_load hF rfl rfl Try.isAgg3 hx) ?_; clear hF; clear a; intro a hF
          obtain ⟨t123, hct123, h⟩ := h
          refine GL.read (v := .int .i64 t123) (i := 5) hF (fun x => World.cell? x p11 = some (.int .i64 t123)) hS rfl rfl (by kernel_rfl) rfl rfl rfl rfl hct123 (fun x hx => r_load hF rfl rfl Try.isAgg3 hx) ?_; clear hF; clear a; intro a hF
          obtain ⟨t124, hct124, h⟩ := h
          refine GL.read (v := .pointer t124) (i := 6) hF (fun x => World.cell? x p3 = some (.pointer t124)) hS rfl rfl (by kernel_rfl) rfl rfl rfl rfl hct124 (fun x hx => r_load hF rfl rfl Try.isAgg23 hx) ?_; clear hF; clear a; intro a hF
          obtain ⟨p125, hpp125, h⟩ := h
          refine GL.val (v := .pointer (some p125)) (i := 7) hF hS rfl rfl (by kernel_rfl) rfl rfl rfl rfl (fun x => r_nilCheck hF rfl (lkp rfl hpp125)) ?_; clear hF; clear a; intro a hF
          refine GL.val (v := .pointer (some (p125.add 3))) (i := 8) hF hS rfl rfl (by kernel_rfl) rfl rfl rfl rfl (fun x => r_fieldAddr hF rfl rfl Try.runUnderlying70 rfl Try.sizeOf3 rfl) ?_; clear hF; clear a; intro a hF
          obtain ⟨t126, hct126, h⟩ := h
          refine GL.read (v := .int .i64 t126) (i := 9) hF (fun x => World.cell? x (p125.add 3) = some (.int .i64 t126)) hS rfl rfl (by kernel_rfl) rfl rfl rfl rfl hct126 (fun x hx => r_load hF rfl rfl Try.isAgg3 hx) ?_; clear hF; clear a; intro a hF
          refine GL.val (v := .bool (decide (t123 > t126))) (i := 10) hF hS rfl rfl (by kernel_rfl) rfl rfl rfl rfl (fun x => r_gtr hF rfl rfl rfl) ?_; clear hF; clear a; intro a hF
          refine GL.act (i := 11) (pend' := [(9, fun x => World.cell? x (p125.add 3) = some (.int .i64 t126)), (6, fun x => World.cell? x p3 = some (.pointer t124)), (4, fun x => World.cell? x p11 = some (.int .i64 t122))]) hS (by kernel_rfl) rfl (by kernel_rfl) ?_
          obtain ⟨u_, w127, hs1_, hs2_, hs3_, h⟩ := h
          obtain ⟨hk128, hk129, hk130, h⟩ := h
          refine op_unit (w' := w127) hF rfl rfl rfl (by rw [hs3_]; exact r_store hF rfl rfl rfl rfl Try.sizeOf3 hs1_ hs2_) ⟨hk128, hk129, hk130, trivial⟩ ?_; clear hF; clear a; intro a hF
          refine GL.act (i := 12) (pend' := [(9, fun x => World.cell? x (p125.add 3) = some (.int .i64 t126)), (6, fun x => World.cell? x p3 = some (.pointer t124))]) hS (by kernel_rfl) rfl (by kernel_rfl) ?_
          obtain ⟨u_, w131, hs1_, hs2_, hs3_, h⟩ := h
          obtain ⟨hk132, hk133, h⟩ := h
          refine op_unit (w' := w131) hF rfl rfl rfl (by rw [hs3_]; exact r_store hF rfl rfl rfl rfl Try.sizeOf3 hs1_ hs2_) ⟨hk132, hk133, trivial⟩ ?_; clear hF; clear a; intro a hF
          refine GL.act (i := 13) (pend' := []) hS (by kernel_rfl) rfl (by kernel_rfl) ?_
          obtain ⟨u_, w134, hs1_, hs2_, hs3_, h⟩ := h
          refine op_unit (w' := w134) hF rfl rfl rfl (by rw [hs3_]; exact r_store hF rfl rfl rfl rfl Try.sizeOf4 hs1_ hs2_) trivial ?_; clear hF; clear a; intro a hF
          refine GL.done (by kernel_rfl) (hK117 _ _ ?_)
          clear hK117 K116
          refine wp_ret ?_
          obtain ⟨hD_, h⟩ := h; generalize hW_ : w134.putObj D30 (.deferred none) = w135 at h
          obtain ⟨t136, hct136, h⟩ := h
          obtain ⟨t137, hct137, h⟩ := h
          obtain ⟨t138, hct138, h⟩ := h
          subst hW_
          try dsimp only [Exit.then, Exit.inBlock, Exit.noGoto]
          refine retM1 (fn := Try.f29) hF hD_ (res3 hF rfl ⟨_, rfl, ld1 Try.isAgg3 hct136⟩ ⟨_, rfl, ld1 Try.isAgg3 hct137⟩ ⟨_, rfl, ld1 Try.isAgg4 hct138⟩) ?_; exact ⟨_, _, _, rfl, h⟩
        clear hJ
        refine seq_draw 0 #[0, 1, 3, 7, 0, 31] 6 mo rfl (by kernel_rfl) (by kernel_rfl) fun hS K139 hK140 => ?_
        obtain ⟨w141, hw, h⟩ := h; rw [← hw]; clear hw
        obtain ⟨t142, hct142, h⟩ := h
        refine GL.read (v := .pointer t142) (i := 0) hF (fun x => World.cell? x p3 = some (.pointer t142)) hS rfl rfl (by kernel_rfl) rfl rfl rfl rfl hct142 (fun x hx => r_load hF rfl rfl Try.isAgg23 hx) ?_; clear hF; clear a; intro a hF
        obtain ⟨p143, hpp143, h⟩ := h
        refine GL.val (v := .pointer (some p143)) (i := 1) hF hS rfl rfl (by kernel_rfl) rfl rfl rfl rfl (fun x => r_nilCheck hF rfl (lkp rfl hpp143)) ?_; clear hF; clear a; intro a hF
        refine GL.val (v := .pointer (some (p143.add 3))) (i := 2) hF hS rfl rfl (by kernel_rfl) rfl rfl rfl rfl (fun x => r_fieldAddr hF rfl rfl Try.runUnderlying70 rfl Try.sizeOf3 rfl) ?_; clear hF; clear a; intro a hF
        obtain ⟨t144, hct144, h⟩ := h
        refine GL.read (v := .int .i64 t144) (i := 3) hF (fun x => World.cell? x (p143.add 3) = some (.int .i64 t144)) hS rfl rfl (by kernel_rfl) rfl rfl rfl rfl hct144 (fun x hx => r_load hF rfl rfl Try.isAgg3 hx) ?_; clear hF; clear a; intro a hF
        obtain ⟨t145, hct145, h⟩ := h
        refine GL.read (v := .int .i64 t145) (i := 4) hF (fun x => World.cell? x p7 = some (.int .i64 t145)) hS rfl rfl (by kernel_rfl) rfl rfl rfl rfl hct145 (fun x hx => r_load hF rfl rfl Try.isAgg3 hx) ?_; clear hF; clear a; intro a hF
        refine GL.val (v := .bool (decide (t144 ≥ t145))) (i := 5) hF hS rfl rfl (by kernel_rfl) rfl rfl rfl rfl (fun x => r_geq hF rfl rfl rfl) ?_; clear hF; clear a; intro a hF
        refine GL.done (by kernel_rfl) (hK140 _ _ ?_)
        clear hK140 K139
        obtain ⟨ht, hf⟩ := h
        refine cond_ hF rfl (fun hc => ?_) (fun hc => ?_)
        · replace h := ht hc; clear ht hf
          refine seq_region fun K146 hK147 => ?_
          obtain ⟨u_, w148, hs1_, hs2_, hs3_, h⟩ := h
          refine RL.unit (w' := w148) hF rfl rfl (by rw [hs3_]; exact r_store hF rfl rfl rfl rfl Try.sizeOf3 hs1_ hs2_) ?_; clear hF; clear a; intro a hF
          obtain ⟨u_, w149, hs1_, hs2_, hs3_, h⟩ := h
          refine RL.unit (w' := w149) hF rfl rfl (by rw [hs3_]; exact r_store hF rfl rfl rfl rfl Try.sizeOf3 hs1_ hs2_) ?_; clear hF; clear a; intro a hF
          obtain ⟨u_, w150, hs1_, hs2_, hs3_, h⟩ := h
          refine RL.unit (w' := w150) hF rfl rfl (by rw [hs3_]; exact r_store hF rfl rfl rfl rfl Try.sizeOf4 hs1_ hs2_) ?_; clear hF; clear a; intro a hF
          refine RL.nil (hK147 _ _ ?_)
          clear hK147 K146
          refine wp_ret ?_
          obtain ⟨hD_, h⟩ := h; generalize hW_ : w150.putObj D30 (.deferred none) = w151 at h
          obtain ⟨t152, hct152, h⟩ := h
          obtain ⟨t153, hct153, h⟩ := h
          obtain ⟨t154, hct154, h⟩ := h
          subst hW_
          try dsimp only [Exit.then, Exit.inBlock, Exit.noGoto]
          refine retM1 (fn := Try.f29) hF hD_ (res3 hF rfl ⟨_, rfl, ld1 Try.isAgg3 hct152⟩ ⟨_, rfl, ld1 Try.isAgg3 hct153⟩ ⟨_, rfl, ld1 Try.isAgg4 hct154⟩) ?_; exact ⟨_, _, _, rfl, h⟩
        · replace h := hf hc; clear ht hf
          refine wp_skip ?_
          exact jn94 () _ _ (hF.sub rfl) h
      · replace h := hf hc; clear ht hf
        refine wp_skip ?_
        exact jn39 () _ _ (hF.sub rfl) h
    · clear hK22
      obtain ⟨hD_, h⟩ := h; generalize hW_ : w31.putObj D30 (.deferred none) = w155 at h
      obtain ⟨t156, hct156, h⟩ := h
      obtain ⟨t157, hct157, h⟩ := h
      obtain ⟨t158, hct158, h⟩ := h
      subst hW_
      try dsimp only [Exit.then, Exit.inBlock, Exit.noGoto]
      refine retM1 (fn := Try.f29) hF hD_ (res3 hF rfl ⟨_, rfl, ld1 Try.isAgg3 hct156⟩ ⟨_, rfl, ld1 Try.isAgg3 hct157⟩ ⟨_, rfl, ld1 Try.isAgg4 hct158⟩) ?_; exact ⟨_, _, _, rfl, h⟩
  clear hJ
  refine seq_region fun K159 hK160 => ?_
  obtain ⟨t161, hct161, h⟩ := h
  refine RL.val  hF rfl rfl rfl (r_load hF rfl rfl Try.isAgg3 hct161) ?_; clear hF; clear a; intro a hF
  refine RL.val  hF rfl rfl rfl (r_lss hF rfl rfl rfl) ?_; clear hF; clear a; intro a hF
  refine RL.nil (hK160 _ _ ?_)
  clear hK160 K159
  obtain ⟨ht, hf⟩ := h
  refine cond_ hF rfl (fun hc => ?_) (fun hc => ?_)
  · replace h := ht hc; clear ht hf
    refine seq_region fun K162 hK163 => ?_
    obtain ⟨u_, w164, hs1_, hs2_, hs3_, h⟩ := h
    refine RL.unit (w' := w164) hF rfl rfl (by rw [hs3_]; exact r_store hF rfl rfl rfl rfl Try.sizeOf3 hs1_ hs2_) ?_; clear hF; clear a; intro a hF
    obtain ⟨u_, w165, hs1_, hs2_, hs3_, h⟩ := h
    refine RL.unit (w' := w165) hF rfl rfl (by rw [hs3_]; exact r_store hF rfl rfl rfl rfl Try.sizeOf3 hs1_ hs2_) ?_; clear hF; clear a; intro a hF
    obtain ⟨u_, w166, hs1_, hs2_, hs3_, h⟩ := h
    refine RL.unit (w' := w166) hF rfl rfl (by rw [hs3_]; exact r_store hF rfl rfl rfl rfl Try.sizeOf4 hs1_ hs2_) ?_; clear hF; clear a; intro a hF
    refine RL.nil (hK163 _ _ ?_)
    clear hK163 K162
    refine wp_ret ?_
    obtain ⟨t167, hct167, h⟩ := h
    obtain ⟨t168, hct168, h⟩ := h
    obtain ⟨t169, hct169, h⟩ := h
    try dsimp only [Exit.then, Exit.inBlock, Exit.noGoto]
    refine retM0 (fn := Try.f29) hF (res3 hF rfl ⟨_, rfl, ld1 Try.isAgg3 hct167⟩ ⟨_, rfl, ld1 Try.isAgg3 hct168⟩ ⟨_, rfl, ld1 Try.isAgg4 hct169⟩) ?_; exact ⟨_, _, _, rfl, h⟩
  · replace h := hf hc; clear ht hf
    refine wp_skip ?_
    exact jn20 () _ _ (hF.sub rfl) h

set_option maxRecDepth 20000 in
theorem br30 {a0 : Slc} {w : World} {K : Slc → World → Prop} (h : sh30 a0 w K) : C30 a0 w K := by
  unfold sh30 at h
  refine enter (n := 8) (l := [(0, a0.v)]) 7 Try.func30 rfl _ rfl rfl rfl fun a hF => ?_
  refine seq_region fun K1 hK2 => ?_
  refine RL.val  hF rfl rfl rfl (r_assign hF rfl rfl) ?_; clear hF; clear a; intro a hF
  refine RL.nil (hK2 _ _ ?_)
  clear hK2 K1
  refine seq_k fun K3 hK4 => ?_
  obtain ⟨J, hJ, h⟩ := jn_open h
  have jn8 : ∀ (v5 : Unit) (w6 : World) a, Fr 8 a [(0, a0.v)] → J v5 w6 → K3 a w6 := by
    intro v5 w6 a hF h
    replace h := hJ _ _ h
    clear hJ
    refine hK4 _ _ ?_
    refine seq_region fun K9 hK10 => ?_
    obtain ⟨p12, w11, hp_, hw_, h⟩ := h
    refine RL.val (v := (Slc.mk (some p12) 0 0).v) (w' := w11) hF rfl rfl rfl (by rw [hp_, hw_]; exact r_buildSlice (xs := []) hF rfl rfl (by kernel_rfl)) ?_; clear hF; clear a; intro a hF
    refine RL.val  hF rfl rfl rfl (r_move hF rfl rfl) ?_; clear hF; clear a; intro a hF
    obtain ⟨t14, w13, hc_, h⟩ := h
    refine RL.val  hF rfl rfl rfl (r_append (xs := [(Slc.mk (some p12) 0 0).v, a0.v]) hF rfl rfl hc_) ?_; clear hF; clear a; intro a hF
    refine RL.val  hF rfl rfl rfl (r_assign hF rfl rfl) ?_; clear hF; clear a; intro a hF
    refine RL.nil (hK10 _ _ ?_)
    clear hK10 K9
    refine wp_ret ?_
    exact ret_of hF (res1 hF rfl rfl) ⟨_, rfl, h⟩
  clear hJ
  refine seq_region fun K15 hK16 => ?_
  refine RL.val  hF rfl rfl rfl (r_move hF rfl rfl) ?_; clear hF; clear a; intro a hF
  refine RL.val  hF rfl rfl rfl (r_slcnil hF rfl rfl rfl Try.runUnderlying22) ?_; clear hF; clear a; intro a hF
  refine RL.nil (hK16 _ _ ?_)
  clear hK16 K15
  obtain ⟨ht, hf⟩ := h
  refine cond_ hF rfl (fun hc => ?_) (fun hc => ?_)
  · replace h := ht hc; clear ht hf
    refine seq_region fun K17 hK18 => ?_
    refine RL.val  hF rfl rfl rfl (r_assign hF rfl rfl) ?_; clear hF; clear a; intro a hF
    refine RL.nil (hK18 _ _ ?_)
    clear hK18 K17
    refine wp_ret ?_
    exact ret_of hF (res1 hF rfl rfl) ⟨_, rfl, h⟩
  · replace h := hf hc; clear ht hf
    refine wp_skip ?_
    exact jn8 () _ _ (hF.sub rfl) h

set_option maxRecDepth 20000 in
theorem br49 {a0 : Option Addr} {a1 : Int} {a2 : Int} {w : World} {K : Int → World → Prop} (h : sh49 a0 a1 a2 w K) : C49 a0 a1 a2 w K := by
  unfold sh49 at h
  refine enter (n := 22) (l := [(0, .pointer a0), (1, .int .i64 a1), (2, .int .i64 a2)]) 19 Try.func49 rfl _ rfl rfl rfl fun a hF => ?_
  refine seq_region fun K1 hK2 => ?_
  refine RL.val  hF rfl rfl rfl (r_assign hF rfl rfl) ?_; clear hF; clear a; intro a hF
  refine RL.nil (hK2 _ _ ?_)
  clear hK2 K1
  refine seq_k fun K3 hK4 => ?_
  obtain ⟨J, hJ, h⟩ := jn_open h
  have jn8 : ∀ (v5 : Unit) (w6 : World) a, Fr 22 a [] → J v5 w6 → K3 a w6 := by
    intro v5 w6 a hF h
    replace h := hJ _ _ h
    clear hJ
    refine hK4 _ _ ?_
    refine seq_region fun K9 hK10 => ?_
    refine RL.val  hF rfl rfl rfl (r_assign hF rfl rfl) ?_; clear hF; clear a; intro a hF
    refine RL.nil (hK10 _ _ ?_)
    clear hK10 K9
    refine wp_ret ?_
    exact ret_of hF (res1 hF rfl rfl) ⟨_, rfl, h⟩
  clear hJ
  refine wp_block ?_
  refine seq_region fun K11 hK12 => ?_
  refine RL.val  hF rfl rfl rfl (r_move hF rfl rfl) ?_; clear hF; clear a; intro a hF
  refine RL.call hF rfl rfl rfl (r_call (xs := [.pointer a0]) hF rfl rfl Try.call53) (CallsV.mono h ?_)
  clear h; rintro _ w13 ⟨r14, rfl, h⟩; clear hF; clear a; intro a hF
  refine RL.val  hF rfl rfl rfl (r_assign hF rfl rfl) ?_; clear hF; clear a; intro a hF
  refine RL.nil (hK12 _ _ ?_)
  clear hK12 K11
  obtain ⟨ht, hf⟩ := h
  refine cond_ hF rfl (fun hc => ?_) (fun hc => ?_)
  · replace h := ht hc; clear ht hf
    refine seq_region fun K15 hK16 => ?_
    refine RL.val  hF rfl rfl rfl (r_assign hF rfl rfl) ?_; clear hF; clear a; intro a hF
    refine RL.nil (hK16 _ _ ?_)
    clear hK16 K15
    refine wp_ret ?_
    exact ret_of hF (res1 hF rfl rfl) ⟨_, rfl, h⟩
  · replace h := hf hc; clear ht hf
    refine seq_region fun K17 hK18 => ?_
    obtain ⟨J21, hJ, h⟩ := jn_open h
    have jn22 : ∀ (v19 : Bool) (w20 : World) a, Fr 22 a [(10, .bool v19)] → J21 v19 w20 → K17 a w20 := by
      clear hF
      intro v19 w20 a hF h; replace h := hJ _ _ h; refine hK18 _ _ ?_; clear hJ hK18 K17
      obtain ⟨ht, hf⟩ := h
      refine cond_ hF rfl (fun hc => ?_) (fun hc => ?_)
      · replace h := ht hc; clear ht hf
        refine seq_region fun K23 hK24 => ?_
        refine RL.val  hF rfl rfl rfl (r_assign hF rfl rfl) ?_; clear hF; clear a; intro a hF
        refine RL.nil (hK24 _ _ ?_)
        clear hK24 K23
        refine wp_ret ?_
        exact ret_of hF (res1 hF rfl rfl) ⟨_, rfl, h⟩
      · replace h := hf hc; clear ht hf
        refine wp_skip ?_
        exact jn8 () _ _ (hF.sub rfl) h
    clear hJ hK18
    refine RL.val  hF rfl rfl rfl (r_move hF rfl rfl) ?_; clear hF; clear a; intro a hF
    refine RL.val  hF rfl rfl rfl (r_lss hF rfl rfl rfl) ?_; clear hF; clear a; intro a hF
    refine RL.val  hF rfl rfl rfl (r_move hF rfl rfl) ?_; clear hF; clear a; intro a hF
    obtain ⟨ht, hf⟩ := h
    rcases bool_cases (decide (a1 < 0)) with hg25 | hg25
    · replace h := ht hg25; clear ht hf
      refine RL.skip hF rfl rfl (lkb rfl hg25) (.inl rfl) rfl rfl ?_; clear hF; clear a; intro a hF
      refine RL.skip hF rfl rfl (lkb rfl hg25) (.inl rfl) rfl rfl ?_; clear hF; clear a; intro a hF
      refine RL.val (v := .bool true) (w' := w13) hF rfl rfl rfl (r_pick hF rfl rfl rfl rfl (fun _ => rfl) (fun e => absurd (hg25.symm.trans e) (by decide))) ?_; clear hF; clear a; intro a hF
      refine RL.val  hF rfl rfl rfl (r_move hF rfl rfl) ?_; clear hF; clear a; intro a hF
      refine RL.skip hF rfl rfl rfl (.inl rfl) rfl rfl ?_; clear hF; clear a; intro a hF
      refine RL.skip hF rfl rfl rfl (.inl rfl) rfl rfl ?_; clear hF; clear a; intro a hF
      refine RL.skip hF rfl rfl rfl (.inl rfl) rfl rfl ?_; clear hF; clear a; intro a hF
      refine RL.val (v := .bool true) (w' := w13) hF rfl rfl rfl (r_pick hF rfl rfl rfl rfl (fun _ => rfl) (fun e => absurd e (by decide))) ?_; clear hF; clear a; intro a hF
      refine RL.val  hF rfl rfl rfl (r_assign hF rfl rfl) ?_; clear hF; clear a; intro a hF
      refine RL.nil ?_
      exact jn22 true _ _ (hF.sub rfl) h
    · replace h := hf hg25; clear ht hf
      refine RL.gval  hF rfl rfl (lkb rfl hg25) rfl rfl (r_move hF rfl rfl) ?_; clear hF; clear a; intro a hF
      refine RL.gval  hF rfl rfl (lkb rfl hg25) rfl rfl (r_gtr hF rfl rfl rfl) ?_; clear hF; clear a; intro a hF
      refine RL.val (v := .bool (decide (a2 > 4611686018427387903))) (w' := w13) hF rfl rfl rfl (r_pick hF rfl rfl rfl rfl (fun e => absurd (hg25.symm.trans e) (by decide)) (fun _ => rfl)) ?_; clear hF; clear a; intro a hF
      refine RL.val  hF rfl rfl rfl (r_move hF rfl rfl) ?_; clear hF; clear a; intro a hF
      obtain ⟨ht, hf⟩ := h
      rcases bool_cases (decide (a2 > 4611686018427387903)) with hg26 | hg26
      · replace h := ht hg26; clear ht hf
        refine RL.skip hF rfl rfl (lkb rfl hg26) (.inl rfl) rfl rfl ?_; clear hF; clear a; intro a hF
        refine RL.skip hF rfl rfl (lkb rfl hg26) (.inl rfl) rfl rfl ?_; clear hF; clear a; intro a hF
        refine RL.skip hF rfl rfl (lkb rfl hg26) (.inl rfl) rfl rfl ?_; clear hF; clear a; intro a hF
        refine RL.val (v := .bool true) (w' := w13) hF rfl rfl rfl (r_pick hF rfl rfl rfl rfl (fun _ => rfl) (fun e => absurd (hg26.symm.trans e) (by decide))) ?_; clear hF; clear a; intro a hF
        refine RL.val  hF rfl rfl rfl (r_assign hF rfl rfl) ?_; clear hF; clear a; intro a hF
        refine RL.nil ?_
        exact jn22 true _ _ (hF.sub rfl) h
      · replace h := hf hg26; clear ht hf
        refine RL.gval  hF rfl rfl (lkb rfl hg26) rfl rfl (r_move hF rfl rfl) ?_; clear hF; clear a; intro a hF
        refine RL.gval  hF rfl rfl (lkb rfl hg26) rfl rfl (r_move hF rfl rfl) ?_; clear hF; clear a; intro a hF
        refine RL.gval  hF rfl rfl (lkb rfl hg26) rfl rfl (r_gtr hF rfl rfl rfl) ?_; clear hF; clear a; intro a hF
        refine RL.val (v := .bool (decide (a1 > a2))) (w' := w13) hF rfl rfl rfl (r_pick hF rfl rfl rfl rfl (fun e => absurd (hg26.symm.trans e) (by decide)) (fun _ => rfl)) ?_; clear hF; clear a; intro a hF
        refine RL.val  hF rfl rfl rfl (r_assign hF rfl rfl) ?_; clear hF; clear a; intro a hF
        refine RL.nil ?_
        exact jn22 (decide (a1 > a2)) _ _ (hF.sub rfl) h

set_option maxRecDepth 20000 in
theorem br57 {a0 : Slc} {a1 : Int} {a2 : Value} {w : World} {K : Int → Bool → World → Prop} (h : sh57 a0 a1 a2 w K) : C57 a0 a1 a2 w K := by
  unfold sh57 at h
  refine enter (n := 49) (l := [(0, a0.v), (1, .int .i64 a1), (2, a2)]) 46 Try.func57 rfl _ rfl rfl rfl fun a hF => ?_
  refine seq_region fun K1 hK2 => ?_
  refine RL.val  hF rfl rfl rfl (r_assign hF rfl rfl) ?_; clear hF; clear a; intro a hF
  refine RL.val  hF rfl rfl rfl (r_assign hF rfl rfl) ?_; clear hF; clear a; intro a hF
  refine RL.nil (hK2 _ _ ?_)
  clear hK2 K1
  refine seq_region fun K3 hK4 => ?_
  refine RL.val  hF rfl rfl rfl (r_move hF rfl rfl) ?_; clear hF; clear a; intro a hF
  refine RL.val  hF rfl rfl rfl (r_len_slice hF rfl rfl Try.runUnderlying87) ?_; clear hF; clear a; intro a hF
  refine RL.val  hF rfl rfl rfl (r_assign hF rfl rfl) ?_; clear hF; clear a; intro a hF
  refine RL.nil (hK4 _ _ ?_)
  clear hK4 K3
  refine seq_region fun K5 hK6 => ?_
  refine RL.val  hF rfl rfl rfl (r_move hF rfl rfl) ?_; clear hF; clear a; intro a hF
  refine RL.val  hF rfl rfl rfl (r_assign hF rfl rfl) ?_; clear hF; clear a; intro a hF
  refine RL.val  hF rfl rfl rfl (r_assign hF rfl rfl) ?_; clear hF; clear a; intro a hF
  refine RL.nil (hK6 _ _ ?_)
  clear hK6 K5
  refine seq_k fun K7 hK8 => ?_
  obtain ⟨J, hJ, h⟩ := jn_open h
  have jn12 : ∀ (v9 : Int) (w10 : World) a, Fr 49 a [(0, a0.v), (1, .int .i64 a1), (2, a2), (8, .int .i64 (a0.len : Int)), (9, .int .i64 v9)] → J v9 w10 → K7 a w10 := by
    intro v9 w10 a hF h
    replace h := hJ _ _ h
    clear hJ
    refine hK8 _ _ ?_
    refine seq_region fun K13 hK14 => ?_
    obtain ⟨J17, hJ, h⟩ := jn_open h
    have jn18 : ∀ (v15 : Int × Bool) (w16 : World) a, Fr 49 a [(6, .int .i64 v15.1), (7, .bool v15.2)] → J17 v15 w16 → K13 a w16 := by
      clear hF
      intro v15 w16 a hF h; replace h := hJ _ _ h; refine hK14 _ _ ?_; clear hJ hK14 K13
      refine wp_ret ?_
      exact ret_of hF (res2 hF rfl rfl rfl) ⟨_, _, rfl, h⟩
    clear hJ hK14
    refine RL.val  hF rfl rfl rfl (r_move hF rfl rfl) ?_; clear hF; clear a; intro a hF
    refine RL.val  hF rfl rfl rfl (r_move hF rfl rfl) ?_; clear hF; clear a; intro a hF
    refine RL.val  hF rfl rfl rfl (r_move hF rfl rfl) ?_; clear hF; clear a; intro a hF
    refine RL.val  hF rfl rfl rfl (r_lss hF rfl rfl rfl) ?_; clear hF; clear a; intro a hF
    refine RL.val  hF rfl rfl rfl (r_move hF rfl rfl) ?_; clear hF; clear a; intro a hF
    obtain ⟨ht, hf⟩ := h
    rcases bool_cases (decide (v9 < (a0.len : Int))) with hg19 | hg19
    · replace h := ht hg19; clear ht hf
      refine RL.gval  hF rfl rfl (lkb rfl hg19) rfl rfl (r_move hF rfl rfl) ?_; clear hF; clear a; intro a hF
      refine RL.gval  hF rfl rfl (lkb rfl hg19) rfl rfl (r_move hF rfl rfl) ?_; clear hF; clear a; intro a hF
      refine RL.gval  hF rfl rfl (lkb rfl hg19) rfl rfl (r_move hF rfl rfl) ?_; clear hF; clear a; intro a hF
      obtain ⟨b21, p20, hb_, h0_, h1_, hp_, h⟩ := h
      refine RL.gval (v := .pointer (some p20)) (w' := w10) hF rfl rfl (lkb rfl hg19) rfl rfl (by rw [hp_]; exact r_indexAddr hF rfl (lks rfl hb_) rfl Try.runUnderlying87 Try.sizeOf94 h0_ h1_) ?_; clear hF; clear a; intro a hF
      obtain ⟨t22, hct22, h⟩ := h
      refine RL.gval  hF rfl rfl (lkb rfl hg19) rfl rfl (r_loadA hF rfl rfl Try.isAgg94 Try.sizeOf94 hct22) ?_; clear hF; clear a; intro a hF
      refine RL.gval  hF rfl rfl (lkb rfl hg19) rfl rfl (r_move hF rfl rfl) ?_; clear hF; clear a; intro a hF
      obtain ⟨f25, x26, y27, hf_, hg_, h⟩ := h
      refine RL.gcall hF rfl rfl (lkb rfl hg19) rfl rfl (r_callV (xs := [.agg t22, .int .i64 a1]) hF rfl (by rw [← hf_]; rfl) rfl hg_) (CallsV.mono h ?_)
      clear h; rintro _ w23 ⟨r24, rfl, h⟩; clear hF; clear a; intro a hF
      refine RL.gval  hF rfl rfl (lkb rfl hg19) rfl rfl (r_eql hF rfl rfl rfl) ?_; clear hF; clear a; intro a hF
      refine RL.val (v := .bool (r24 == 0)) (w' := w23) hF rfl rfl rfl (r_pick hF rfl rfl rfl rfl (fun _ => rfl) (fun e => absurd (hg19.symm.trans e) (by decide))) ?_; clear hF; clear a; intro a hF
      refine RL.val  hF rfl rfl rfl (r_assign hF rfl rfl) ?_; clear hF; clear a; intro a hF
      refine RL.val  hF rfl rfl rfl (r_assign hF rfl rfl) ?_; clear hF; clear a; intro a hF
      refine RL.nil ?_
      exact jn18 (v9, r24 == 0) _ _ (hF.sub rfl) h
    · replace h := hf hg19; clear ht hf
      refine RL.skip hF rfl rfl (lkb rfl hg19) (.inl rfl) rfl rfl ?_; clear hF; clear a; intro a hF
      refine RL.skip hF rfl rfl (lkb rfl hg19) (.inl rfl) rfl rfl ?_; clear hF; clear a; intro a hF
      refine RL.skip hF rfl rfl (lkb rfl hg19) (.inl rfl) rfl rfl ?_; clear hF; clear a; intro a hF
      refine RL.skip hF rfl rfl (lkb rfl hg19) (.inl rfl) rfl rfl ?_; clear hF; clear a; intro a hF
      refine RL.skip hF rfl rfl (lkb rfl hg19) (.inl rfl) rfl rfl ?_; clear hF; clear a; intro a hF
      refine RL.skip hF rfl rfl (lkb rfl hg19) (.inl rfl) rfl rfl ?_; clear hF; clear a; intro a hF
      refine RL.skip hF rfl rfl (lkb rfl hg19) (.inl rfl) rfl rfl ?_; clear hF; clear a; intro a hF
      refine RL.skip hF rfl rfl (lkb rfl hg19) (.inl rfl) rfl rfl ?_; clear hF; clear a; intro a hF
      refine RL.val (v := .bool false) (w' := w10) hF rfl rfl rfl (r_pick hF rfl rfl rfl rfl (fun e => absurd (hg19.symm.trans e) (by decide)) (fun _ => rfl)) ?_; clear hF; clear a; intro a hF
      refine RL.val  hF rfl rfl rfl (r_assign hF rfl rfl) ?_; clear hF; clear a; intro a hF
      refine RL.val  hF rfl rfl rfl (r_assign hF rfl rfl) ?_; clear hF; clear a; intro a hF
      refine RL.nil ?_
      exact jn18 (v9, false) _ _ (hF.sub rfl) h
  clear hJ
  refine wp_block ?_
  refine loop_ (fun (s28 : Int × Int) => [(0, a0.v), (1, .int .i64 a1), (2, a2), (8, .int .i64 (a0.len : Int)), (9, .int .i64 s28.1), (10, .int .i64 s28.2)]) (hF.sub rfl) h ?_
  clear hF h
  intro s28 w29 N30 KL hN31 h a hF
  refine seq_k fun K32 hK33 => ?_
  obtain ⟨J, hJ, h⟩ := jn_open h
  have jn37 : ∀ (v34 : Unit) (w35 : World) a, Fr 49 a [(0, a0.v), (1, .int .i64 a1), (2, a2), (8, .int .i64 (a0.len : Int)), (9, .int .i64 s28.1), (10, .int .i64 s28.2)] → J v34 w35 → K32 a w35 := by
    intro v34 w35 a hF h
    replace h := hJ _ _ h
    clear hJ
    refine hK33 _ _ ?_
    refine wp_block ?_
    refine seq_region fun K38 hK39 => ?_
    refine RL.val  hF rfl rfl rfl (r_move hF rfl rfl) ?_; clear hF; clear a; intro a hF
    refine RL.val  hF rfl rfl rfl (r_move hF rfl rfl) ?_; clear hF; clear a; intro a hF
    refine RL.val  hF rfl rfl rfl (r_add hF rfl rfl rfl) ?_; clear hF; clear a; intro a hF
    refine RL.val  hF rfl rfl rfl (r_convInt hF rfl rfl Try.runUnderlying3 Try.runUnderlying108) ?_; clear hF; clear a; intro a hF
    refine RL.val (v := .int .u64 (shrZ .u64 (IntKind.u64.wrap (IntKind.i64.wrap (s28.1 + s28.2))) 1)) (w' := w35) hF rfl rfl rfl (r_shr hF rfl rfl rfl (by decide)) ?_; clear hF; clear a; intro a hF
    refine RL.val  hF rfl rfl rfl (r_convInt hF rfl rfl Try.runUnderlying108 Try.runUnderlying3) ?_; clear hF; clear a; intro a hF
    refine RL.val  hF rfl rfl rfl (r_assign hF rfl rfl) ?_; clear hF; clear a; intro a hF
    refine RL.nil (hK39 _ _ ?_)
    clear hK39 K38
    refine seq_region fun K40 hK41 => ?_
    refine RL.val  hF rfl rfl rfl (r_move hF rfl rfl) ?_; clear hF; clear a; intro a hF
    refine RL.val  hF rfl rfl rfl (r_move hF rfl rfl) ?_; clear hF; clear a; intro a hF
    refine RL.val  hF rfl rfl rfl (r_move hF rfl rfl) ?_; clear hF; clear a; intro a hF
    obtain ⟨b43, p42, hb_, h0_, h1_, hp_, h⟩ := h
    refine RL.val (v := .pointer (some p42)) (w' := w35) hF rfl rfl rfl (by rw [hp_]; exact r_indexAddr hF rfl (lks rfl hb_) rfl Try.runUnderlying87 Try.sizeOf94 h0_ h1_) ?_; clear hF; clear a; intro a hF
    obtain ⟨t44, hct44, h⟩ := h
    refine RL.val  hF rfl rfl rfl (r_loadA hF rfl rfl Try.isAgg94 Try.sizeOf94 hct44) ?_; clear hF; clear a; intro a hF
    refine RL.val  hF rfl rfl rfl (r_move hF rfl rfl) ?_; clear hF; clear a; intro a hF
    obtain ⟨f47, x48, y49, hf_, hg_, h⟩ := h
    refine RL.call hF rfl rfl rfl (r_callV (xs := [.agg t44, .int .i64 a1]) hF rfl (by rw [← hf_]; rfl) rfl hg_) (CallsV.mono h ?_)
    clear h; rintro _ w45 ⟨r46, rfl, h⟩; clear hF; clear a; intro a hF
    refine RL.val  hF rfl rfl rfl (r_lss hF rfl rfl rfl) ?_; clear hF; clear a; intro a hF
    refine RL.nil (hK41 _ _ ?_)
    clear hK41 K40
    obtain ⟨ht, hf⟩ := h
    refine cond_ hF rfl (fun hc => ?_) (fun hc => ?_)
    · replace h := ht hc; clear ht hf
      refine end_region fun K50 hK51 => ?_
      refine RL.val  hF rfl rfl rfl (r_move hF rfl rfl) ?_; clear hF; clear a; intro a hF
      refine RL.val  hF rfl rfl rfl (r_add hF rfl rfl rfl) ?_; clear hF; clear a; intro a hF
      refine RL.val  hF rfl rfl rfl (r_assign hF rfl rfl) ?_; clear hF; clear a; intro a hF
      refine RL.nil (hK51 _ _ ?_)
      clear hK51 K50
      exact hN31 (IntKind.i64.wrap ((IntKind.i64.wrap (shrZ .u64 (IntKind.u64.wrap (IntKind.i64.wrap (s28.1 + s28.2))) 1)) + 1), s28.2) _ _ (hF.sub rfl) h
    · replace h := hf hc; clear ht hf
      refine end_region fun K52 hK53 => ?_
      refine RL.val  hF rfl rfl rfl (r_move hF rfl rfl) ?_; clear hF; clear a; intro a hF
      refine RL.val  hF rfl rfl rfl (r_assign hF rfl rfl) ?_; clear hF; clear a; intro a hF
      refine RL.nil (hK53 _ _ ?_)
      clear hK53 K52
      exact hN31 (s28.1, IntKind.i64.wrap (shrZ .u64 (IntKind.u64.wrap (IntKind.i64.wrap (s28.1 + s28.2))) 1)) _ _ (hF.sub rfl) h
  clear hJ
  refine seq_region fun K54 hK55 => ?_
  refine RL.val  hF rfl rfl rfl (r_move hF rfl rfl) ?_; clear hF; clear a; intro a hF
  refine RL.val  hF rfl rfl rfl (r_move hF rfl rfl) ?_; clear hF; clear a; intro a hF
  refine RL.val  hF rfl rfl rfl (r_lss hF rfl rfl rfl) ?_; clear hF; clear a; intro a hF
  refine RL.nil (hK55 _ _ ?_)
  clear hK55 K54
  obtain ⟨ht, hf⟩ := h
  refine cond_ hF rfl (fun hc => ?_) (fun hc => ?_)
  · replace h := ht hc; clear ht hf
    refine wp_skip ?_
    exact jn37 () _ _ (hF.sub rfl) h
  · replace h := hf hc; clear ht hf
    refine wp_exit ?_
    exact jn12 s28.1 _ _ (hF.sub rfl) h

set_option maxRecDepth 20000 in
theorem br58 {a0 : Array Value} {a1 : Int} {w : World} {K : Int → World → Prop} (h : sh58 a0 a1 w K) : C58 a0 a1 w K := by
  unfold sh58 at h
  refine enter (n := 9) (l := [(0, .agg a0), (1, .int .i64 a1)]) 7 Try.func58 rfl _ rfl rfl rfl fun a hF => ?_
  refine seq_region fun K1 hK2 => ?_
  obtain ⟨p3, w4, hp_, hw_, h⟩ := h
  refine RL.val (v := .pointer (some p3)) (w' := w4) hF rfl rfl rfl (by rw [hp_, hw_]; exact r_box hF rfl rfl rfl) ?_; clear hF; clear a; intro a hF
  refine RL.val  hF rfl rfl rfl (r_assign hF rfl rfl) ?_; clear hF; clear a; intro a hF
  refine RL.nil (hK2 _ _ ?_)
  clear hK2 K1
  refine seq_region fun K5 hK6 => ?_
  refine RL.val  hF rfl rfl rfl (r_fieldAddr hF rfl rfl Try.runUnderlying94 rfl Try.sizeOf3 rfl) ?_; clear hF; clear a; intro a hF
  obtain ⟨t7, hct7, h⟩ := h
  refine RL.val  hF rfl rfl rfl (r_load hF rfl rfl Try.isAgg3 hct7) ?_; clear hF; clear a; intro a hF
  refine RL.val  hF rfl rfl rfl (r_move hF rfl rfl) ?_; clear hF; clear a; intro a hF
  refine RL.val  hF rfl rfl rfl (r_sub hF rfl rfl rfl) ?_; clear hF; clear a; intro a hF
  refine RL.val  hF rfl rfl rfl (r_assign hF rfl rfl) ?_; clear hF; clear a; intro a hF
  refine RL.nil (hK6 _ _ ?_)
  clear hK6 K5
  refine wp_ret ?_
  exact ret_of hF (res1 hF rfl rfl) ⟨_, rfl, h⟩

set_option maxRecDepth 20000 in
theorem br50 {a0 : Option Addr} {a1 : Int} {w : World} {K : Int → World → Prop} (h : sh50 a0 a1 w K) : C50 a0 a1 w K := by
  unfold sh50 at h
  refine enter (n := 17) (l := [(0, .pointer a0), (1, .int .i64 a1)]) 15 Try.func50 rfl _ rfl rfl rfl fun a hF => ?_
  refine seq_region fun K1 hK2 => ?_
  refine RL.val  hF rfl rfl rfl (r_assign hF rfl rfl) ?_; clear hF; clear a; intro a hF
  refine RL.nil (hK2 _ _ ?_)
  clear hK2 K1
  refine seq_region fun K3 hK4 => ?_
  refine RL.val  hF rfl rfl rfl (r_move hF rfl rfl) ?_; clear hF; clear a; intro a hF
  obtain ⟨p5, hpp5, h⟩ := h
  refine RL.val  hF rfl rfl rfl (r_nilCheck hF rfl (lkp rfl hpp5)) ?_; clear hF; clear a; intro a hF
  refine RL.val  hF rfl rfl rfl (r_fieldAddr hF rfl rfl Try.runUnderlying89 rfl Try.sizeOf87 rfl) ?_; clear hF; clear a; intro a hF
  obtain ⟨t6, hct6, h⟩ := h
  refine RL.val  hF rfl rfl rfl (r_load hF rfl rfl Try.isAgg87 hct6) ?_; clear hF; clear a; intro a hF
  refine RL.val  hF rfl rfl rfl (r_move hF rfl rfl) ?_; clear hF; clear a; intro a hF
  refine RL.call hF rfl rfl rfl (r_call (xs := [t6.v, .int .i64 a1, (Value.func (Fn.func 58) #[] #[])]) hF rfl rfl Try.call57) (CallsV.mono h ?_)
  clear h; rintro _ w7 ⟨r8, r9, rfl, h⟩; clear hF; clear a; intro a hF
  refine RL.val  hF rfl rfl rfl (r_move hF rfl rfl) ?_; clear hF; clear a; intro a hF
  refine RL.val  hF rfl rfl rfl (r_extract hF rfl rfl rfl) ?_; clear hF; clear a; intro a hF
  refine RL.val  hF rfl rfl rfl (r_extract hF rfl rfl rfl) ?_; clear hF; clear a; intro a hF
  refine RL.val  hF rfl rfl rfl (r_assign hF rfl rfl) ?_; clear hF; clear a; intro a hF
  refine RL.val  hF rfl rfl rfl (r_assign hF rfl rfl) ?_; clear hF; clear a; intro a hF
  refine RL.nil (hK4 _ _ ?_)
  clear hK4 K3
  refine seq_region fun K10 hK11 => ?_
  refine RL.val  hF rfl rfl rfl (r_move hF rfl rfl) ?_; clear hF; clear a; intro a hF
  refine RL.val  hF rfl rfl rfl (r_assign hF rfl rfl) ?_; clear hF; clear a; intro a hF
  refine RL.nil (hK11 _ _ ?_)
  clear hK11 K10
  refine wp_ret ?_
  exact ret_of hF (res1 hF rfl rfl) ⟨_, rfl, h⟩

set_option maxRecDepth 20000 in
theorem br59 {a0 : Slc} {a1 : Int} {a2 : Slc} {w : World} {K : Slc → World → Prop} (h : sh59 a0 a1 a2 w K) : C59 a0 a1 a2 w K := by
  unfold sh59 at h
  refine enter (n := 95) (l := [(0, a0.v), (1, .int .i64 a1), (2, a2.v)]) 92 Try.func59 rfl _ rfl rfl rfl fun a hF => ?_
  refine seq_region fun K1 hK2 => ?_
  refine RL.val  hF rfl rfl rfl (r_assign hF rfl rfl) ?_; clear hF; clear a; intro a hF
  refine RL.nil (hK2 _ _ ?_)
  clear hK2 K1
  refine seq_region fun K3 hK4 => ?_
  refine RL.val  hF rfl rfl rfl (r_move hF rfl rfl) ?_; clear hF; clear a; intro a hF
  refine RL.val  hF rfl rfl rfl (r_move hF rfl rfl) ?_; clear hF; clear a; intro a hF
  obtain ⟨hs5, hs6, h⟩ := h
  refine RL.val  hF rfl rfl rfl (r_slice (lo' := some (.int .i64 a1)) (hi' := none) (mx' := none) hF rfl rfl rfl rfl rfl (slc_at Try.runUnderlying87 Try.sizeOf94 (bounds10 hs5 hs6))) ?_; clear hF; clear a; intro a hF
  refine RL.nil (hK4 _ _ ?_)
  clear hK4 K3
  refine seq_region fun K7 hK8 => ?_
  refine RL.val  hF rfl rfl rfl (r_move hF rfl rfl) ?_; clear hF; clear a; intro a hF
  refine RL.val  hF rfl rfl rfl (r_len_slice hF rfl rfl Try.runUnderlying87) ?_; clear hF; clear a; intro a hF
  refine RL.val  hF rfl rfl rfl (r_assign hF rfl rfl) ?_; clear hF; clear a; intro a hF
  refine RL.nil (hK8 _ _ ?_)
  clear hK8 K7
  refine seq_k fun K9 hK10 => ?_
  obtain ⟨J, hJ, h⟩ := jn_open h
  have jn14 : ∀ (v11 : Unit) (w12 : World) a, Fr 95 a [(0, a0.v), (1, .int .i64 a1), (2, a2.v), (7, .int .i64 (a2.len : Int))] → J v11 w12 → K9 a w12 := by
    intro v11 w12 a hF h
    replace h := hJ _ _ h
    clear hJ
    refine hK10 _ _ ?_
    refine seq_region fun K15 hK16 => ?_
    refine RL.val  hF rfl rfl rfl (r_move hF rfl rfl) ?_; clear hF; clear a; intro a hF
    refine RL.val  hF rfl rfl rfl (r_len_slice hF rfl rfl Try.runUnderlying87) ?_; clear hF; clear a; intro a hF
    refine RL.val  hF rfl rfl rfl (r_assign hF rfl rfl) ?_; clear hF; clear a; intro a hF
    refine RL.nil (hK16 _ _ ?_)
    clear hK16 K15
    refine seq_k fun K17 hK18 => ?_
    obtain ⟨J, hJ, h⟩ := jn_open h
    have jn22 : ∀ (v19 : Unit) (w20 : World) a, Fr 95 a [(0, a0.v), (1, .int .i64 a1), (2, a2.v), (7, .int .i64 (a2.len : Int)), (8, .int .i64 (a0.len : Int))] → J v19 w20 → K17 a w20 := by
      intro v19 w20 a hF h
      replace h := hJ _ _ h
      clear hJ
      refine hK18 _ _ ?_
      refine seq_k fun K23 hK24 => ?_
      obtain ⟨J, hJ, h⟩ := jn_open h
      have jn28 : ∀ (v25 : Unit) (w26 : World) a, Fr 95 a [(0, a0.v), (1, .int .i64 a1), (2, a2.v), (7, .int .i64 (a2.len : Int)), (8, .int .i64 (a0.len : Int))] → J v25 w26 → K23 a w26 := by
        intro v25 w26 a hF h
        replace h := hJ _ _ h
        clear hJ
        refine hK24 _ _ ?_
        refine seq_region fun K29 hK30 => ?_
        refine RL.val  hF rfl rfl rfl (r_move hF rfl rfl) ?_; clear hF; clear a; intro a hF
        refine RL.val  hF rfl rfl rfl (r_move hF rfl rfl) ?_; clear hF; clear a; intro a hF
        refine RL.val  hF rfl rfl rfl (r_move hF rfl rfl) ?_; clear hF; clear a; intro a hF
        refine RL.val  hF rfl rfl rfl (r_add hF rfl rfl rfl) ?_; clear hF; clear a; intro a hF
        obtain ⟨hs31, hs32, h⟩ := h
        refine RL.val  hF rfl rfl rfl (r_slice (lo' := none) (hi' := some (.int .i64 (IntKind.i64.wrap ((a0.len : Int) + (a2.len : Int))))) (mx' := none) hF rfl rfl rfl rfl rfl (slc_at Try.runUnderlying87 Try.sizeOf94 (bounds01 hs31 hs32))) ?_; clear hF; clear a; intro a hF
        refine RL.val  hF rfl rfl rfl (r_assign hF rfl rfl) ?_; clear hF; clear a; intro a hF
        refine RL.nil (hK30 _ _ ?_)
        clear hK30 K29
        refine seq_k fun K33 hK34 => ?_
        obtain ⟨J, hJ, h⟩ := jn_open h
        have jn38 : ∀ (v35 : Unit) (w36 : World) a, Fr 95 a [(0, (a0.sub 2 0 ((IntKind.i64.wrap ((a0.len : Int) + (a2.len : Int))).toNat) a0.cap).v), (1, .int .i64 a1), (2, a2.v), (7, .int .i64 (a2.len : Int)), (8, .int .i64 (a0.len : Int))] → J v35 w36 → K33 a w36 := by
          intro v35 w36 a hF h
          replace h := hJ _ _ h
          clear hJ
          refine hK34 _ _ ?_
          refine seq_region fun K39 hK40 => ?_
          refine RL.val  hF rfl rfl rfl (r_move hF rfl rfl) ?_; clear hF; clear a; intro a hF
          refine RL.val  hF rfl rfl rfl (r_move hF rfl rfl) ?_; clear hF; clear a; intro a hF
          obtain ⟨hs41, hs42, h⟩ := h
          refine RL.val  hF rfl rfl rfl (r_slice (lo' := some (.int .i64 (a0.len : Int))) (hi' := none) (mx' := none) hF rfl rfl rfl rfl rfl (slc_at Try.runUnderlying87 Try.sizeOf94 (bounds10 hs41 hs42))) ?_; clear hF; clear a; intro a hF
          refine RL.val  hF rfl rfl rfl (r_move hF rfl rfl) ?_; clear hF; clear a; intro a hF
          obtain ⟨t44, w43, hc_, h⟩ := h
          refine RL.val  hF rfl rfl rfl (r_copy (xs := [((a0.sub 2 0 ((IntKind.i64.wrap ((a0.len : Int) + (a2.len : Int))).toNat) a0.cap).sub 2 ((a0.len : Int).toNat) ((a0.sub 2 0 ((IntKind.i64.wrap ((a0.len : Int) + (a2.len : Int))).toNat) a0.cap).len) ((a0.sub 2 0 ((IntKind.i64.wrap ((a0.len : Int) + (a2.len : Int))).toNat) a0.cap).cap)).v, a2.v]) hF rfl rfl hc_) ?_; clear hF; clear a; intro a hF
          refine RL.nil (hK40 _ _ ?_)
          clear hK40 K39
          refine seq_region fun K45 hK46 => ?_
          refine RL.val  hF rfl rfl rfl (r_move hF rfl rfl) ?_; clear hF; clear a; intro a hF
          refine RL.val  hF rfl rfl rfl (r_move hF rfl rfl) ?_; clear hF; clear a; intro a hF
          obtain ⟨hs47, hs48, h⟩ := h
          refine RL.val  hF rfl rfl rfl (r_slice (lo' := some (.int .i64 a1)) (hi' := none) (mx' := none) hF rfl rfl rfl rfl rfl (slc_at Try.runUnderlying87 Try.sizeOf94 (bounds10 hs47 hs48))) ?_; clear hF; clear a; intro a hF
          refine RL.val  hF rfl rfl rfl (r_move hF rfl rfl) ?_; clear hF; clear a; intro a hF
          refine RL.call hF rfl rfl rfl (r_call (xs := [((a0.sub 2 0 ((IntKind.i64.wrap ((a0.len : Int) + (a2.len : Int))).toNat) a0.cap).sub 2 a1.toNat ((a0.sub 2 0 ((IntKind.i64.wrap ((a0.len : Int) + (a2.len : Int))).toNat) a0.cap).len) ((a0.sub 2 0 ((IntKind.i64.wrap ((a0.len : Int) + (a2.len : Int))).toNat) a0.cap).cap)).v, .int .i64 (a2.len : Int)]) hF rfl rfl Try.call61) (CallsV.mono h ?_)
          clear h; rintro _ w49 ⟨rfl, h⟩; clear hF; clear a; intro a hF
          refine RL.nil (hK46 _ _ ?_)
          clear hK46 K45
          refine seq_region fun K50 hK51 => ?_
          refine RL.val  hF rfl rfl rfl (r_move hF rfl rfl) ?_; clear hF; clear a; intro a hF
          refine RL.val  hF rfl rfl rfl (r_assign hF rfl rfl) ?_; clear hF; clear a; intro a hF
          refine RL.nil (hK51 _ _ ?_)
          clear hK51 K50
          refine wp_ret ?_
          exact ret_of hF (res1 hF rfl rfl) ⟨_, rfl, h⟩
        clear hJ
        refine seq_region fun K52 hK53 => ?_
        refine RL.val  hF rfl rfl rfl (r_move hF rfl rfl) ?_; clear hF; clear a; intro a hF
        refine RL.val  hF rfl rfl rfl (r_move hF rfl rfl) ?_; clear hF; clear a; intro a hF
        refine RL.val  hF rfl rfl rfl (r_move hF rfl rfl) ?_; clear hF; clear a; intro a hF
        refine RL.val  hF rfl rfl rfl (r_move hF rfl rfl) ?_; clear hF; clear a; intro a hF
        refine RL.val  hF rfl rfl rfl (r_add hF rfl rfl rfl) ?_; clear hF; clear a; intro a hF
        obtain ⟨hs54, hs55, h⟩ := h
        refine RL.val  hF rfl rfl rfl (r_slice (lo' := some (.int .i64 (IntKind.i64.wrap (a1 + (a2.len : Int))))) (hi' := none) (mx' := none) hF rfl rfl rfl rfl rfl (slc_at Try.runUnderlying87 Try.sizeOf94 (bounds10 hs54 hs55))) ?_; clear hF; clear a; intro a hF
        exact h.elim
      clear hJ
      refine seq_region fun K57 hK58 => ?_
      refine RL.val  hF rfl rfl rfl (r_move hF rfl rfl) ?_; clear hF; clear a; intro a hF
      refine RL.val  hF rfl rfl rfl (r_move hF rfl rfl) ?_; clear hF; clear a; intro a hF
      refine RL.val  hF rfl rfl rfl (r_add hF rfl rfl rfl) ?_; clear hF; clear a; intro a hF
      refine RL.val  hF rfl rfl rfl (r_move hF rfl rfl) ?_; clear hF; clear a; intro a hF
      refine RL.val  hF rfl rfl rfl (r_cap_slice hF rfl rfl Try.runUnderlying87) ?_; clear hF; clear a; intro a hF
      refine RL.val  hF rfl rfl rfl (r_gtr hF rfl rfl rfl) ?_; clear hF; clear a; intro a hF
      refine RL.nil (hK58 _ _ ?_)
      clear hK58 K57
      obtain ⟨ht, hf⟩ := h
      refine cond_ hF rfl (fun hc => ?_) (fun hc => ?_)
      · replace h := ht hc; clear ht hf
        refine seq_region fun K59 hK60 => ?_
        refine RL.val  hF rfl rfl rfl (r_move hF rfl rfl) ?_; clear hF; clear a; intro a hF
        refine RL.val  hF rfl rfl rfl (r_move hF rfl rfl) ?_; clear hF; clear a; intro a hF
        obtain ⟨hs61, hs62, h⟩ := h
        refine RL.val  hF rfl rfl rfl (r_slice (lo' := none) (hi' := some (.int .i64 a1)) (mx' := none) hF rfl rfl rfl rfl rfl (slc_at Try.runUnderlying87 Try.sizeOf94 (bounds01 hs61 hs62))) ?_; clear hF; clear a; intro a hF
        refine RL.val  hF rfl rfl rfl (r_move hF rfl rfl) ?_; clear hF; clear a; intro a hF
        refine RL.val  hF rfl rfl rfl (r_move hF rfl rfl) ?_; clear hF; clear a; intro a hF
        refine RL.val  hF rfl rfl rfl (r_add hF rfl rfl rfl) ?_; clear hF; clear a; intro a hF
        refine RL.val  hF rfl rfl rfl (r_move hF rfl rfl) ?_; clear hF; clear a; intro a hF
        refine RL.val  hF rfl rfl rfl (r_sub hF rfl rfl rfl) ?_; clear hF; clear a; intro a hF
        obtain ⟨t64, w63, hc_, h⟩ := h
        refine RL.val  hF rfl rfl rfl (r_append (xs := [(a0.sub 2 0 a1.toNat a0.cap).v, .int .i64 (IntKind.i64.wrap ((IntKind.i64.wrap ((a0.len : Int) + (a2.len : Int))) - a1))]) hF rfl rfl hc_) ?_; clear hF; clear a; intro a hF
        refine RL.val  hF rfl rfl rfl (r_assign hF rfl rfl) ?_; clear hF; clear a; intro a hF
        refine RL.nil (hK60 _ _ ?_)
        clear hK60 K59
        refine seq_region fun K65 hK66 => ?_
        refine RL.val  hF rfl rfl rfl (r_move hF rfl rfl) ?_; clear hF; clear a; intro a hF
        refine RL.val  hF rfl rfl rfl (r_move hF rfl rfl) ?_; clear hF; clear a; intro a hF
        obtain ⟨hs67, hs68, h⟩ := h
        refine RL.val  hF rfl rfl rfl (r_slice (lo' := some (.int .i64 a1)) (hi' := none) (mx' := none) hF rfl rfl rfl rfl rfl (slc_at Try.runUnderlying87 Try.sizeOf94 (bounds10 hs67 hs68))) ?_; clear hF; clear a; intro a hF
        refine RL.val  hF rfl rfl rfl (r_move hF rfl rfl) ?_; clear hF; clear a; intro a hF
        obtain ⟨t70, w69, hc_, h⟩ := h
        refine RL.val  hF rfl rfl rfl (r_copy (xs := [(t64.sub 2 a1.toNat t64.len t64.cap).v, a2.v]) hF rfl rfl hc_) ?_; clear hF; clear a; intro a hF
        refine RL.nil (hK66 _ _ ?_)
        clear hK66 K65
        refine seq_draw 256 #[0, 0, 0, 6, 15, 0, 0, 96, 255] 9 mo rfl (by kernel_rfl) (by kernel_rfl) fun hS K71 hK72 => ?_
        obtain ⟨w73, hw, h⟩ := h; rw [← hw]; clear hw
        refine GL.val (v := t64.v) (i := 0) hF hS rfl rfl (by kernel_rfl) rfl rfl rfl rfl (fun x => r_move hF rfl rfl) ?_; clear hF; clear a; intro a hF
        refine GL.val (v := .int .i64 a1) (i := 1) hF hS rfl rfl (by kernel_rfl) rfl rfl rfl rfl (fun x => r_move hF rfl rfl) ?_; clear hF; clear a; intro a hF
        refine GL.val (v := .int .i64 (a2.len : Int)) (i := 2) hF hS rfl rfl (by kernel_rfl) rfl rfl rfl rfl (fun x => r_move hF rfl rfl) ?_; clear hF; clear a; intro a hF
        refine GL.val (v := .int .i64 (IntKind.i64.wrap (a1 + (a2.len : Int)))) (i := 3) hF hS rfl rfl (by kernel_rfl) rfl rfl rfl rfl (fun x => r_add hF rfl rfl rfl) ?_; clear hF; clear a; intro a hF
        obtain ⟨hs74, hs75, h⟩ := h
        refine GL.val (v := (t64.sub 2 ((IntKind.i64.wrap (a1 + (a2.len : Int))).toNat) t64.len t64.cap).v) (i := 4) hF hS rfl rfl (by kernel_rfl) rfl rfl rfl rfl (fun x => r_slice (lo' := some (.int .i64 (IntKind.i64.wrap (a1 + (a2.len : Int))))) (hi' := none) (mx' := none) hF rfl rfl rfl rfl rfl (slc_at Try.runUnderlying87 Try.sizeOf94 (bounds10 hs74 hs75))) ?_; clear hF; clear a; intro a hF
        refine GL.val (v := a0.v) (i := 5) hF hS rfl rfl (by kernel_rfl) rfl rfl rfl rfl (fun x => r_move hF rfl rfl) ?_; clear hF; clear a; intro a hF
        refine GL.val (v := .int .i64 a1) (i := 6) hF hS rfl rfl (by kernel_rfl) rfl rfl rfl rfl (fun x => r_move hF rfl rfl) ?_; clear hF; clear a; intro a hF
        obtain ⟨hs76, hs77, h⟩ := h
        refine GL.val (v := (a0.sub 2 a1.toNat a0.len a0.cap).v) (i := 7) hF hS rfl rfl (by kernel_rfl) rfl rfl rfl rfl (fun x => r_slice (lo' := some (.int .i64 a1)) (hi' := none) (mx' := none) hF rfl rfl rfl rfl rfl (slc_at Try.runUnderlying87 Try.sizeOf94 (bounds10 hs76 hs77))) ?_; clear hF; clear a; intro a hF
        refine GL.act (i := 8) (pend' := []) hS (by kernel_rfl) rfl (by kernel_rfl) ?_
        obtain ⟨t79, w78, hc_, h⟩ := h
        refine op_val  hF rfl rfl rfl rfl (r_copy (xs := [(t64.sub 2 ((IntKind.i64.wrap (a1 + (a2.len : Int))).toNat) t64.len t64.cap).v, (a0.sub 2 a1.toNat a0.len a0.cap).v]) hF rfl rfl hc_) trivial ?_; clear hF; clear a; intro a hF
        refine GL.done (by kernel_rfl) (hK72 _ _ ?_)
        clear hK72 K71
        refine seq_region fun K80 hK81 => ?_
        refine RL.val  hF rfl rfl rfl (r_move hF rfl rfl) ?_; clear hF; clear a; intro a hF
        refine RL.val  hF rfl rfl rfl (r_assign hF rfl rfl) ?_; clear hF; clear a; intro a hF
        refine RL.nil (hK81 _ _ ?_)
        clear hK81 K80
        refine wp_ret ?_
        exact ret_of hF (res1 hF rfl rfl) ⟨_, rfl, h⟩
      · replace h := hf hc; clear ht hf
        refine wp_skip ?_
        exact jn28 () _ _ (hF.sub rfl) h
    clear hJ
    refine seq_region fun K82 hK83 => ?_
    refine RL.val  hF rfl rfl rfl (r_move hF rfl rfl) ?_; clear hF; clear a; intro a hF
    refine RL.val  hF rfl rfl rfl (r_move hF rfl rfl) ?_; clear hF; clear a; intro a hF
    refine RL.val  hF rfl rfl rfl (r_eql hF rfl rfl rfl) ?_; clear hF; clear a; intro a hF
    refine RL.nil (hK83 _ _ ?_)
    clear hK83 K82
    obtain ⟨ht, hf⟩ := h
    refine cond_ hF rfl (fun hc => ?_) (fun hc => ?_)
    · replace h := ht hc; clear ht hf
      refine seq_region fun K84 hK85 => ?_
      refine RL.val  hF rfl rfl rfl (r_move hF rfl rfl) ?_; clear hF; clear a; intro a hF
      refine RL.val  hF rfl rfl rfl (r_move hF rfl rfl) ?_; clear hF; clear a; intro a hF
      obtain ⟨t87, w86, hc_, h⟩ := h
      refine RL.val  hF rfl rfl rfl (r_append (xs := [a0.v, a2.v]) hF rfl rfl hc_) ?_; clear hF; clear a; intro a hF
      refine RL.val  hF rfl rfl rfl (r_assign hF rfl rfl) ?_; clear hF; clear a; intro a hF
      refine RL.nil (hK85 _ _ ?_)
      clear hK85 K84
      refine wp_ret ?_
      exact ret_of hF (res1 hF rfl rfl) ⟨_, rfl, h⟩
    · replace h := hf hc; clear ht hf
      refine wp_skip ?_
      exact jn22 () _ _ (hF.sub rfl) h
  clear hJ
  refine seq_region fun K88 hK89 => ?_
  refine RL.val  hF rfl rfl rfl (r_move hF rfl rfl) ?_; clear hF; clear a; intro a hF
  refine RL.val  hF rfl rfl rfl (r_eql hF rfl rfl rfl) ?_; clear hF; clear a; intro a hF
  refine RL.nil (hK89 _ _ ?_)
  clear hK89 K88
  obtain ⟨ht, hf⟩ := h
  refine cond_ hF rfl (fun hc => ?_) (fun hc => ?_)
  · replace h := ht hc; clear ht hf
    refine seq_region fun K90 hK91 => ?_
    refine RL.val  hF rfl rfl rfl (r_move hF rfl rfl) ?_; clear hF; clear a; intro a hF
    refine RL.val  hF rfl rfl rfl (r_assign hF rfl rfl) ?_; clear hF; clear a; intro a hF
    refine RL.nil (hK91 _ _ ?_)
    clear hK91 K90
    refine wp_ret ?_
    exact ret_of hF (res1 hF rfl rfl) ⟨_, rfl, h⟩
  · replace h := hf hc; clear ht hf
    refine wp_skip ?_
    exact jn14 () _ _ (hF.sub rfl) h

set_option maxRecDepth 20000 in
theorem br51 {a0 : Slc} {a1 : Int} {a2 : Int} {a3 : Slc} {w : World} {K : Slc → World → Prop} (h : sh51 a0 a1 a2 a3 w K) : C51 a0 a1 a2 a3 w K := by
  unfold sh51 at h
  refine enter (n := 224) (l := [(0, a0.v), (1, .int .i64 a1), (2, .int .i64 a2), (3, a3.v)]) 220 Try.func51 rfl _ rfl rfl rfl fun a hF => ?_
  refine seq_region fun K1 hK2 => ?_
  refine RL.val  hF rfl rfl rfl (r_assign hF rfl rfl) ?_; clear hF; clear a; intro a hF
  refine RL.nil (hK2 _ _ ?_)
  clear hK2 K1
  refine seq_region fun K3 hK4 => ?_
  refine RL.val  hF rfl rfl rfl (r_move hF rfl rfl) ?_; clear hF; clear a; intro a hF
  refine RL.val  hF rfl rfl rfl (r_move hF rfl rfl) ?_; clear hF; clear a; intro a hF
  refine RL.val  hF rfl rfl rfl (r_move hF rfl rfl) ?_; clear hF; clear a; intro a hF
  obtain ⟨hs5, hs6, hs7, h⟩ := h
  refine RL.val  hF rfl rfl rfl (r_slice (lo' := some (.int .i64 a1)) (hi' := some (.int .i64 a2)) (mx' := none) hF rfl rfl rfl rfl rfl (slc_at Try.runUnderlying87 Try.sizeOf94 (bounds11 hs5 hs6 hs7))) ?_; clear hF; clear a; intro a hF
  refine RL.nil (hK4 _ _ ?_)
  clear hK4 K3
  refine seq_k fun K8 hK9 => ?_
  obtain ⟨J, hJ, h⟩ := jn_open h
  have jn13 : ∀ (v10 : Unit) (w11 : World) a, Fr 224 a [(0, a0.v), (1, .int .i64 a1), (2, .int .i64 a2), (3, a3.v)] → J v10 w11 → K8 a w11 := by
    intro v10 w11 a hF h
    replace h := hJ _ _ h
    clear hJ
    refine hK9 _ _ ?_
    refine seq_k fun K14 hK15 => ?_
    obtain ⟨J, hJ, h⟩ := jn_open h
    have jn19 : ∀ (v16 : Unit) (w17 : World) a, Fr 224 a [(0, a0.v), (1, .int .i64 a1), (2, .int .i64 a2), (3, a3.v)] → J v16 w17 → K14 a w17 := by
      intro v16 w17 a hF h
      replace h := hJ _ _ h
      clear hJ
      refine hK15 _ _ ?_
      refine seq_draw 0 #[0, 0, 3, 7, 0, 16, 63, 0, 0, 384, 896, 2047, 4095] 13 mo rfl (by kernel_rfl) (by kernel_rfl) fun hS K20 hK21 => ?_
      obtain ⟨w22, hw, h⟩ := h; rw [← hw]; clear hw
      refine GL.val (v := a0.v) (i := 0) hF hS rfl rfl (by kernel_rfl) rfl rfl rfl rfl (fun x => r_move hF rfl rfl) ?_; clear hF; clear a; intro a hF
      refine GL.val (v := .int .i64 a1) (i := 1) hF hS rfl rfl (by kernel_rfl) rfl rfl rfl rfl (fun x => r_move hF rfl rfl) ?_; clear hF; clear a; intro a hF
      obtain ⟨hs23, hs24, h⟩ := h
      refine GL.val (v := (a0.sub 2 0 a1.toNat a0.cap).v) (i := 2) hF hS rfl rfl (by kernel_rfl) rfl rfl rfl rfl (fun x => r_slice (lo' := none) (hi' := some (.int .i64 a1)) (mx' := none) hF rfl rfl rfl rfl rfl (slc_at Try.runUnderlying87 Try.sizeOf94 (bounds01 hs23 hs24))) ?_; clear hF; clear a; intro a hF
      refine GL.val (v := .int .i64 ((a0.sub 2 0 a1.toNat a0.cap).len : Int)) (i := 3) hF hS rfl rfl (by kernel_rfl) rfl rfl rfl rfl (fun x => r_len_slice hF rfl rfl Try.runUnderlying87) ?_; clear hF; clear a; intro a hF
      refine GL.val (v := a3.v) (i := 4) hF hS rfl rfl (by kernel_rfl) rfl rfl rfl rfl (fun x => r_move hF rfl rfl) ?_; clear hF; clear a; intro a hF
      refine GL.val (v := .int .i64 (a3.len : Int)) (i := 5) hF hS rfl rfl (by kernel_rfl) rfl rfl rfl rfl (fun x => r_len_slice hF rfl rfl Try.runUnderlying87) ?_; clear hF; clear a; intro a hF
      refine GL.val (v := .int .i64 (IntKind.i64.wrap (((a0.sub 2 0 a1.toNat a0.cap).len : Int) + (a3.len : Int)))) (i := 6) hF hS rfl rfl (by kernel_rfl) rfl rfl rfl rfl (fun x => r_add hF rfl rfl rfl) ?_; clear hF; clear a; intro a hF
      refine GL.val (v := a0.v) (i := 7) hF hS rfl rfl (by kernel_rfl) rfl rfl rfl rfl (fun x => r_move hF rfl rfl) ?_; clear hF; clear a; intro a hF
      refine GL.val (v := .int .i64 a2) (i := 8) hF hS rfl rfl (by kernel_rfl) rfl rfl rfl rfl (fun x => r_move hF rfl rfl) ?_; clear hF; clear a; intro a hF
      obtain ⟨hs25, hs26, h⟩ := h
      refine GL.val (v := (a0.sub 2 a2.toNat a0.len a0.cap).v) (i := 9) hF hS rfl rfl (by kernel_rfl) rfl rfl rfl rfl (fun x => r_slice (lo' := some (.int .i64 a2)) (hi' := none) (mx' := none) hF rfl rfl rfl rfl rfl (slc_at Try.runUnderlying87 Try.sizeOf94 (bounds10 hs25 hs26))) ?_; clear hF; clear a; intro a hF
      refine GL.val (v := .int .i64 ((a0.sub 2 a2.toNat a0.len a0.cap).len : Int)) (i := 10) hF hS rfl rfl (by kernel_rfl) rfl rfl rfl rfl (fun x => r_len_slice hF rfl rfl Try.runUnderlying87) ?_; clear hF; clear a; intro a hF
      refine GL.val (v := .int .i64 (IntKind.i64.wrap ((IntKind.i64.wrap (((a0.sub 2 0 a1.toNat a0.cap).len : Int) + (a3.len : Int))) + ((a0.sub 2 a2.toNat a0.len a0.cap).len : Int)))) (i := 11) hF hS rfl rfl (by kernel_rfl) rfl rfl rfl rfl (fun x => r_add hF rfl rfl rfl) ?_; clear hF; clear a; intro a hF
      refine GL.val (v := .int .i64 (IntKind.i64.wrap ((IntKind.i64.wrap (((a0.sub 2 0 a1.toNat a0.cap).len : Int) + (a3.len : Int))) + ((a0.sub 2 a2.toNat a0.len a0.cap).len : Int)))) (i := 12) hF hS rfl rfl (by kernel_rfl) rfl rfl rfl rfl (fun x => r_assign hF rfl rfl) ?_; clear hF; clear a; intro a hF
      refine GL.done (by kernel_rfl) (hK21 _ _ ?_)
      clear hK21 K20
      refine seq_k fun K27 hK28 => ?_
      obtain ⟨J, hJ, h⟩ := jn_open h
      have jn32 : ∀ (v29 : Unit) (w30 : World) a, Fr 224 a [(0, a0.v), (1, .int .i64 a1), (2, .int .i64 a2), (3, a3.v), (10, .int .i64 (IntKind.i64.wrap ((IntKind.i64.wrap (((a0.sub 2 0 a1.toNat a0.cap).len : Int) + (a3.len : Int))) + ((a0.sub 2 a2.toNat a0.len a0.cap).len : Int))))] → J v29 w30 → K27 a w30 := by
        intro v29 w30 a hF h
        replace h := hJ _ _ h
        clear hJ
        refine hK28 _ _ ?_
        refine seq_region fun K33 hK34 => ?_
        refine RL.val  hF rfl rfl rfl (r_move hF rfl rfl) ?_; clear hF; clear a; intro a hF
        refine RL.val  hF rfl rfl rfl (r_move hF rfl rfl) ?_; clear hF; clear a; intro a hF
        obtain ⟨hs35, hs36, h⟩ := h
        refine RL.val  hF rfl rfl rfl (r_slice (lo' := none) (hi' := some (.int .i64 (IntKind.i64.wrap ((IntKind.i64.wrap (((a0.sub 2 0 a1.toNat a0.cap).len : Int) + (a3.len : Int))) + ((a0.sub 2 a2.toNat a0.len a0.cap).len : Int))))) (mx' := none) hF rfl rfl rfl rfl rfl (slc_at Try.runUnderlying87 Try.sizeOf94 (bounds01 hs35 hs36))) ?_; clear hF; clear a; intro a hF
        refine RL.val  hF rfl rfl rfl (r_assign hF rfl rfl) ?_; clear hF; clear a; intro a hF
        refine RL.nil (hK34 _ _ ?_)
        clear hK34 K33
        refine seq_k fun K37 hK38 => ?_
        obtain ⟨J, hJ, h⟩ := jn_open h
        have jn42 : ∀ (v39 : Unit) (w40 : World) a, Fr 224 a [(0, a0.v), (1, .int .i64 a1), (2, .int .i64 a2), (3, a3.v), (12, (a0.sub 2 0 ((IntKind.i64.wrap ((IntKind.i64.wrap (((a0.sub 2 0 a1.toNat a0.cap).len : Int) + (a3.len : Int))) + ((a0.sub 2 a2.toNat a0.len a0.cap).len : Int))).toNat) a0.cap).v)] → J v39 w40 → K37 a w40 := by
          intro v39 w40 a hF h
          replace h := hJ _ _ h
          clear hJ
          refine hK38 _ _ ?_
          refine seq_k fun K43 hK44 => ?_
          obtain ⟨J, hJ, h⟩ := jn_open h
          have jn48 : ∀ (v45 : Unit) (w46 : World) a, Fr 224 a [(0, a0.v), (1, .int .i64 a1), (2, .int .i64 a2), (3, a3.v), (12, (a0.sub 2 0 ((IntKind.i64.wrap ((IntKind.i64.wrap (((a0.sub 2 0 a1.toNat a0.cap).len : Int) + (a3.len : Int))) + ((a0.sub 2 a2.toNat a0.len a0.cap).len : Int))).toNat) a0.cap).v)] → J v45 w46 → K43 a w46 := by
            intro v45 w46 a hF h
            replace h := hJ _ _ h
            clear hJ
            refine hK44 _ _ ?_
            refine seq_region fun K49 hK50 => ?_
            refine RL.val  hF rfl rfl rfl (r_move hF rfl rfl) ?_; clear hF; clear a; intro a hF
            refine RL.val  hF rfl rfl rfl (r_len_slice hF rfl rfl Try.runUnderlying87) ?_; clear hF; clear a; intro a hF
            refine RL.val  hF rfl rfl rfl (r_move hF rfl rfl) ?_; clear hF; clear a; intro a hF
            refine RL.val  hF rfl rfl rfl (r_move hF rfl rfl) ?_; clear hF; clear a; intro a hF
            refine RL.val  hF rfl rfl rfl (r_sub hF rfl rfl rfl) ?_; clear hF; clear a; intro a hF
            refine RL.val  hF rfl rfl rfl (r_sub hF rfl rfl rfl) ?_; clear hF; clear a; intro a hF
            refine RL.val  hF rfl rfl rfl (r_assign hF rfl rfl) ?_; clear hF; clear a; intro a hF
            refine RL.nil (hK50 _ _ ?_)
            clear hK50 K49
            refine seq_k fun K51 hK52 => ?_
            obtain ⟨J, hJ, h⟩ := jn_open h
            have jn56 : ∀ (v53 : Unit) (w54 : World) a, Fr 224 a [(0, a0.v), (1, .int .i64 a1), (2, .int .i64 a2), (3, a3.v), (12, (a0.sub 2 0 ((IntKind.i64.wrap ((IntKind.i64.wrap (((a0.sub 2 0 a1.toNat a0.cap).len : Int) + (a3.len : Int))) + ((a0.sub 2 a2.toNat a0.len a0.cap).len : Int))).toNat) a0.cap).v), (13, .int .i64 (IntKind.i64.wrap ((a3.len : Int) - (IntKind.i64.wrap (a2 - a1)))))] → J v53 w54 → K51 a w54 := by
              intro v53 w54 a hF h
              replace h := hJ _ _ h
              clear hJ
              refine hK52 _ _ ?_
              refine seq_k fun K57 hK58 => ?_
              obtain ⟨J, hJ, h⟩ := jn_open h
              have jn62 : ∀ (v59 : Unit) (w60 : World) a, Fr 224 a [(0, a0.v), (1, .int .i64 a1), (2, .int .i64 a2), (3, a3.v), (12, (a0.sub 2 0 ((IntKind.i64.wrap ((IntKind.i64.wrap (((a0.sub 2 0 a1.toNat a0.cap).len : Int) + (a3.len : Int))) + ((a0.sub 2 a2.toNat a0.len a0.cap).len : Int))).toNat) a0.cap).v)] → J v59 w60 → K57 a w60 := by
                intro v59 w60 a hF h
                replace h := hJ _ _ h
                clear hJ
                refine hK58 _ _ ?_
                refine seq_region fun K63 hK64 => ?_
                refine RL.val  hF rfl rfl rfl (r_move hF rfl rfl) ?_; clear hF; clear a; intro a hF
                refine RL.val  hF rfl rfl rfl (r_move hF rfl rfl) ?_; clear hF; clear a; intro a hF
                refine RL.val  hF rfl rfl rfl (r_move hF rfl rfl) ?_; clear hF; clear a; intro a hF
                obtain ⟨hs65, hs66, h⟩ := h
                refine RL.val  hF rfl rfl rfl (r_slice (lo' := some (.int .i64 a2)) (hi' := none) (mx' := none) hF rfl rfl rfl rfl rfl (slc_at Try.runUnderlying87 Try.sizeOf94 (bounds10 hs65 hs66))) ?_; clear hF; clear a; intro a hF
                refine RL.call hF rfl rfl rfl (r_call (xs := [a3.v, (a0.sub 2 a2.toNat a0.len a0.cap).v]) hF rfl rfl Try.call62) (CallsV.mono h ?_)
                clear h; rintro _ w67 ⟨r68, rfl, h⟩; clear hF; clear a; intro a hF
                refine RL.val  hF rfl rfl rfl (r_assign hF rfl rfl) ?_; clear hF; clear a; intro a hF
                refine RL.nil (hK64 _ _ ?_)
                clear hK64 K63
                refine seq_region fun K69 hK70 => ?_
                refine RL.val  hF rfl rfl rfl (r_move hF rfl rfl) ?_; clear hF; clear a; intro a hF
                refine RL.val  hF rfl rfl rfl (r_move hF rfl rfl) ?_; clear hF; clear a; intro a hF
                obtain ⟨hs71, hs72, h⟩ := h
                refine RL.val  hF rfl rfl rfl (r_slice (lo' := some (.int .i64 a1)) (hi' := none) (mx' := none) hF rfl rfl rfl rfl rfl (slc_at Try.runUnderlying87 Try.sizeOf94 (bounds10 hs71 hs72))) ?_; clear hF; clear a; intro a hF
                refine RL.val  hF rfl rfl rfl (r_move hF rfl rfl) ?_; clear hF; clear a; intro a hF
                obtain ⟨t74, w73, hc_, h⟩ := h
                refine RL.val  hF rfl rfl rfl (r_copy (xs := [((a0.sub 2 0 ((IntKind.i64.wrap ((IntKind.i64.wrap (((a0.sub 2 0 a1.toNat a0.cap).len : Int) + (a3.len : Int))) + ((a0.sub 2 a2.toNat a0.len a0.cap).len : Int))).toNat) a0.cap).sub 2 a1.toNat ((a0.sub 2 0 ((IntKind.i64.wrap ((IntKind.i64.wrap (((a0.sub 2 0 a1.toNat a0.cap).len : Int) + (a3.len : Int))) + ((a0.sub 2 a2.toNat a0.len a0.cap).len : Int))).toNat) a0.cap).len) ((a0.sub 2 0 ((IntKind.i64.wrap ((IntKind.i64.wrap (((a0.sub 2 0 a1.toNat a0.cap).len : Int) + (a3.len : Int))) + ((a0.sub 2 a2.toNat a0.len a0.cap).len : Int))).toNat) a0.cap).cap)).v, a3.v]) hF rfl rfl hc_) ?_; clear hF; clear a; intro a hF
                refine RL.nil (hK70 _ _ ?_)
                clear hK70 K69
                refine seq_draw 2048 #[0, 0, 0, 4, 14, 31, 0, 0, 0, 384, 960, 2047] 12 mo rfl (by kernel_rfl) (by kernel_rfl) fun hS K75 hK76 => ?_
                obtain ⟨w77, hw, h⟩ := h; rw [← hw]; clear hw
                refine GL.val (v := (a0.sub 2 0 ((IntKind.i64.wrap ((IntKind.i64.wrap (((a0.sub 2 0 a1.toNat a0.cap).len : Int) + (a3.len : Int))) + ((a0.sub 2 a2.toNat a0.len a0.cap).len : Int))).toNat) a0.cap).v) (i := 0) hF hS rfl rfl (by kernel_rfl) rfl rfl rfl rfl (fun x => r_move hF rfl rfl) ?_; clear hF; clear a; intro a hF
                refine GL.val (v := .int .i64 a1) (i := 1) hF hS rfl rfl (by kernel_rfl) rfl rfl rfl rfl (fun x => r_move hF rfl rfl) ?_; clear hF; clear a; intro a hF
                refine GL.val (v := a3.v) (i := 2) hF hS rfl rfl (by kernel_rfl) rfl rfl rfl rfl (fun x => r_move hF rfl rfl) ?_; clear hF; clear a; intro a hF
                refine GL.val (v := .int .i64 (a3.len : Int)) (i := 3) hF hS rfl rfl (by kernel_rfl) rfl rfl rfl rfl (fun x => r_len_slice hF rfl rfl Try.runUnderlying87) ?_; clear hF; clear a; intro a hF
                refine GL.val (v := .int .i64 (IntKind.i64.wrap (a1 + (a3.len : Int)))) (i := 4) hF hS rfl rfl (by kernel_rfl) rfl rfl rfl rfl (fun x => r_add hF rfl rfl rfl) ?_; clear hF; clear a; intro a hF
                obtain ⟨hs78, hs79, h⟩ := h
                refine GL.val (v := ((a0.sub 2 0 ((IntKind.i64.wrap ((IntKind.i64.wrap (((a0.sub 2 0 a1.toNat a0.cap).len : Int) + (a3.len : Int))) + ((a0.sub 2 a2.toNat a0.len a0.cap).len : Int))).toNat) a0.cap).sub 2 ((IntKind.i64.wrap (a1 + (a3.len : Int))).toNat) ((a0.sub 2 0 ((IntKind.i64.wrap ((IntKind.i64.wrap (((a0.sub 2 0 a1.toNat a0.cap).len : Int) + (a3.len : Int))) + ((a0.sub 2 a2.toNat a0.len a0.cap).len : Int))).toNat) a0.cap).len) ((a0.sub 2 0 ((IntKind.i64.wrap ((IntKind.i64.wrap (((a0.sub 2 0 a1.toNat a0.cap).len : Int) + (a3.len : Int))) + ((a0.sub 2 a2.toNat a0.len a0.cap).len : Int))).toNat) a0.cap).cap)).v) (i := 5) hF hS rfl rfl (by kernel_rfl) rfl rfl rfl rfl (fun x => r_slice (lo' := some (.int .i64 (IntKind.i64.wrap (a1 + (a3.len : Int))))) (hi' := none) (mx' := none) hF rfl rfl rfl rfl rfl (slc_at Try.runUnderlying87 Try.sizeOf94 (bounds10 hs78 hs79))) ?_; clear hF; clear a; intro a hF
                refine GL.val (v := (a0.sub 2 0 ((IntKind.i64.wrap ((IntKind.i64.wrap (((a0.sub 2 0 a1.toNat a0.cap).len : Int) + (a3.len : Int))) + ((a0.sub 2 a2.toNat a0.len a0.cap).len : Int))).toNat) a0.cap).v) (i := 6) hF hS rfl rfl (by kernel_rfl) rfl rfl rfl rfl (fun x => r_move hF rfl rfl) ?_; clear hF; clear a; intro a hF
                refine GL.val (v := .int .i64 a1) (i := 7) hF hS rfl rfl (by kernel_rfl) rfl rfl rfl rfl (fun x => r_move hF rfl rfl) ?_; clear hF; clear a; intro a hF
                refine GL.val (v := .int .i64 r68) (i := 8) hF hS rfl rfl (by kernel_rfl) rfl rfl rfl rfl (fun x => r_move hF rfl rfl) ?_; clear hF; clear a; intro a hF
                refine GL.val (v := .int .i64 (IntKind.i64.wrap (a1 + r68))) (i := 9) hF hS rfl rfl (by kernel_rfl) rfl rfl rfl rfl (fun x => r_add hF rfl rfl rfl) ?_; clear hF; clear a; intro a hF
                obtain ⟨hs80, hs81, h⟩ := h
                refine GL.val (v := ((a0.sub 2 0 ((IntKind.i64.wrap ((IntKind.i64.wrap (((a0.sub 2 0 a1.toNat a0.cap).len : Int) + (a3.len : Int))) + ((a0.sub 2 a2.toNat a0.len a0.cap).len : Int))).toNat) a0.cap).sub 2 ((IntKind.i64.wrap (a1 + r68)).toNat) ((a0.sub 2 0 ((IntKind.i64.wrap ((IntKind.i64.wrap (((a0.sub 2 0 a1.toNat a0.cap).len : Int) + (a3.len : Int))) + ((a0.sub 2 a2.toNat a0.len a0.cap).len : Int))).toNat) a0.cap).len) ((a0.sub 2 0 ((IntKind.i64.wrap ((IntKind.i64.wrap (((a0.sub 2 0 a1.toNat a0.cap).len : Int) + (a3.len : Int))) + ((a0.sub 2 a2.toNat a0.len a0.cap).len : Int))).toNat) a0.cap).cap)).v) (i := 10) hF hS rfl rfl (by kernel_rfl) rfl rfl rfl rfl (fun x => r_slice (lo' := some (.int .i64 (IntKind.i64.wrap (a1 + r68)))) (hi' := none) (mx' := none) hF rfl rfl rfl rfl rfl (slc_at Try.runUnderlying87 Try.sizeOf94 (bounds10 hs80 hs81))) ?_; clear hF; clear a; intro a hF
                refine GL.act (i := 11) (pend' := []) hS (by kernel_rfl) rfl (by kernel_rfl) ?_
                obtain ⟨t83, w82, hc_, h⟩ := h
                refine op_val  hF rfl rfl rfl rfl (r_copy (xs := [((a0.sub 2 0 ((IntKind.i64.wrap ((IntKind.i64.wrap (((a0.sub 2 0 a1.toNat a0.cap).len : Int) + (a3.len : Int))) + ((a0.sub 2 a2.toNat a0.len a0.cap).len : Int))).toNat) a0.cap).sub 2 ((IntKind.i64.wrap (a1 + (a3.len : Int))).toNat) ((a0.sub 2 0 ((IntKind.i64.wrap ((IntKind.i64.wrap (((a0.sub 2 0 a1.toNat a0.cap).len : Int) + (a3.len : Int))) + ((a0.sub 2 a2.toNat a0.len a0.cap).len : Int))).toNat) a0.cap).len) ((a0.sub 2 0 ((IntKind.i64.wrap ((IntKind.i64.wrap (((a0.sub 2 0 a1.toNat a0.cap).len : Int) + (a3.len : Int))) + ((a0.sub 2 a2.toNat a0.len a0.cap).len : Int))).toNat) a0.cap).cap)).v, ((a0.sub 2 0 ((IntKind.i64.wrap ((IntKind.i64.wrap (((a0.sub 2 0 a1.toNat a0.cap).len : Int) + (a3.len : Int))) + ((a0.sub 2 a2.toNat a0.len a0.cap).len : Int))).toNat) a0.cap).sub 2 ((IntKind.i64.wrap (a1 + r68)).toNat) ((a0.sub 2 0 ((IntKind.i64.wrap ((IntKind.i64.wrap (((a0.sub 2 0 a1.toNat a0.cap).len : Int) + (a3.len : Int))) + ((a0.sub 2 a2.toNat a0.len a0.cap).len : Int))).toNat) a0.cap).len) ((a0.sub 2 0 ((IntKind.i64.wrap ((IntKind.i64.wrap (((a0.sub 2 0 a1.toNat a0.cap).len : Int) + (a3.len : Int))) + ((a0.sub 2 a2.toNat a0.len a0.cap).len : Int))).toNat) a0.cap).cap)).v]) hF rfl rfl hc_) trivial ?_; clear hF; clear a; intro a hF
                refine GL.done (by kernel_rfl) (hK76 _ _ ?_)
                clear hK76 K75
                refine seq_region fun K84 hK85 => ?_
                refine RL.val  hF rfl rfl rfl (r_move hF rfl rfl) ?_; clear hF; clear a; intro a hF
                refine RL.val  hF rfl rfl rfl (r_assign hF rfl rfl) ?_; clear hF; clear a; intro a hF
                refine RL.nil (hK85 _ _ ?_)
                clear hK85 K84
                refine wp_ret ?_
                exact ret_of hF (res1 hF rfl rfl) ⟨_, rfl, h⟩
              clear hJ
              refine seq_region fun K86 hK87 => ?_
              refine RL.val  hF rfl rfl rfl (r_move hF rfl rfl) ?_; clear hF; clear a; intro a hF
              refine RL.val  hF rfl rfl rfl (r_move hF rfl rfl) ?_; clear hF; clear a; intro a hF
              refine RL.val  hF rfl rfl rfl (r_len_slice hF rfl rfl Try.runUnderlying87) ?_; clear hF; clear a; intro a hF
              obtain ⟨hs88, hs89, h⟩ := h
              refine RL.val  hF rfl rfl rfl (r_slice (lo' := some (.int .i64 (a0.len : Int))) (hi' := none) (mx' := none) hF rfl rfl rfl rfl rfl (slc_at Try.runUnderlying87 Try.sizeOf94 (bounds10 hs88 hs89))) ?_; clear hF; clear a; intro a hF
              refine RL.val  hF rfl rfl rfl (r_move hF rfl rfl) ?_; clear hF; clear a; intro a hF
              exact h.elim
            clear hJ
            refine seq_region fun K91 hK92 => ?_
            refine RL.val  hF rfl rfl rfl (r_move hF rfl rfl) ?_; clear hF; clear a; intro a hF
            refine RL.val  hF rfl rfl rfl (r_move hF rfl rfl) ?_; clear hF; clear a; intro a hF
            refine RL.val  hF rfl rfl rfl (r_move hF rfl rfl) ?_; clear hF; clear a; intro a hF
            obtain ⟨hs93, hs94, hs95, h⟩ := h
            refine RL.val  hF rfl rfl rfl (r_slice (lo' := some (.int .i64 a1)) (hi' := some (.int .i64 a2)) (mx' := none) hF rfl rfl rfl rfl rfl (slc_at Try.runUnderlying87 Try.sizeOf94 (bounds11 hs93 hs94 hs95))) ?_; clear hF; clear a; intro a hF
            refine RL.val  hF rfl rfl rfl (r_move hF rfl rfl) ?_; clear hF; clear a; intro a hF
            exact h.elim
          clear hJ
          refine seq_region fun K97 hK98 => ?_
          refine RL.val  hF rfl rfl rfl (r_move hF rfl rfl) ?_; clear hF; clear a; intro a hF
          refine RL.val  hF rfl rfl rfl (r_move hF rfl rfl) ?_; clear hF; clear a; intro a hF
          refine RL.val  hF rfl rfl rfl (r_move hF rfl rfl) ?_; clear hF; clear a; intro a hF
          refine RL.val  hF rfl rfl rfl (r_len_slice hF rfl rfl Try.runUnderlying87) ?_; clear hF; clear a; intro a hF
          refine RL.val  hF rfl rfl rfl (r_add hF rfl rfl rfl) ?_; clear hF; clear a; intro a hF
          obtain ⟨hs99, hs100, h⟩ := h
          refine RL.val  hF rfl rfl rfl (r_slice (lo' := some (.int .i64 (IntKind.i64.wrap (a1 + (a3.len : Int))))) (hi' := none) (mx' := none) hF rfl rfl rfl rfl rfl (slc_at Try.runUnderlying87 Try.sizeOf94 (bounds10 hs99 hs100))) ?_; clear hF; clear a; intro a hF
          refine RL.val  hF rfl rfl rfl (r_move hF rfl rfl) ?_; clear hF; clear a; intro a hF
          exact h.elim
        clear hJ
        refine seq_region fun K102 hK103 => ?_
        refine RL.val  hF rfl rfl rfl (r_move hF rfl rfl) ?_; clear hF; clear a; intro a hF
        refine RL.val  hF rfl rfl rfl (r_move hF rfl rfl) ?_; clear hF; clear a; intro a hF
        refine RL.val  hF rfl rfl rfl (r_len_slice hF rfl rfl Try.runUnderlying87) ?_; clear hF; clear a; intro a hF
        refine RL.val  hF rfl rfl rfl (r_add hF rfl rfl rfl) ?_; clear hF; clear a; intro a hF
        refine RL.val  hF rfl rfl rfl (r_move hF rfl rfl) ?_; clear hF; clear a; intro a hF
        refine RL.val  hF rfl rfl rfl (r_leq hF rfl rfl rfl) ?_; clear hF; clear a; intro a hF
        refine RL.nil (hK103 _ _ ?_)
        clear hK103 K102
        obtain ⟨ht, hf⟩ := h
        refine cond_ hF rfl (fun hc => ?_) (fun hc => ?_)
        · replace h := ht hc; clear ht hf
          refine seq_region fun K104 hK105 => ?_
          refine RL.val  hF rfl rfl rfl (r_move hF rfl rfl) ?_; clear hF; clear a; intro a hF
          refine RL.val  hF rfl rfl rfl (r_move hF rfl rfl) ?_; clear hF; clear a; intro a hF
          obtain ⟨hs106, hs107, h⟩ := h
          refine RL.val  hF rfl rfl rfl (r_slice (lo' := some (.int .i64 a1)) (hi' := none) (mx' := none) hF rfl rfl rfl rfl rfl (slc_at Try.runUnderlying87 Try.sizeOf94 (bounds10 hs106 hs107))) ?_; clear hF; clear a; intro a hF
          refine RL.val  hF rfl rfl rfl (r_move hF rfl rfl) ?_; clear hF; clear a; intro a hF
          obtain ⟨t109, w108, hc_, h⟩ := h
          refine RL.val  hF rfl rfl rfl (r_copy (xs := [((a0.sub 2 0 ((IntKind.i64.wrap ((IntKind.i64.wrap (((a0.sub 2 0 a1.toNat a0.cap).len : Int) + (a3.len : Int))) + ((a0.sub 2 a2.toNat a0.len a0.cap).len : Int))).toNat) a0.cap).sub 2 a1.toNat ((a0.sub 2 0 ((IntKind.i64.wrap ((IntKind.i64.wrap (((a0.sub 2 0 a1.toNat a0.cap).len : Int) + (a3.len : Int))) + ((a0.sub 2 a2.toNat a0.len a0.cap).len : Int))).toNat) a0.cap).len) ((a0.sub 2 0 ((IntKind.i64.wrap ((IntKind.i64.wrap (((a0.sub 2 0 a1.toNat a0.cap).len : Int) + (a3.len : Int))) + ((a0.sub 2 a2.toNat a0.len a0.cap).len : Int))).toNat) a0.cap).cap)).v, a3.v]) hF rfl rfl hc_) ?_; clear hF; clear a; intro a hF
          refine RL.nil (hK105 _ _ ?_)
          clear hK105 K104
          refine seq_draw 512 #[0, 0, 0, 4, 14, 31, 0, 0, 192, 511] 10 mo rfl (by kernel_rfl) (by kernel_rfl) fun hS K110 hK111 => ?_
          obtain ⟨w112, hw, h⟩ := h; rw [← hw]; clear hw
          refine GL.val (v := (a0.sub 2 0 ((IntKind.i64.wrap ((IntKind.i64.wrap (((a0.sub 2 0 a1.toNat a0.cap).len : Int) + (a3.len : Int))) + ((a0.sub 2 a2.toNat a0.len a0.cap).len : Int))).toNat) a0.cap).v) (i := 0) hF hS rfl rfl (by kernel_rfl) rfl rfl rfl rfl (fun x => r_move hF rfl rfl) ?_; clear hF; clear a; intro a hF
          refine GL.val (v := .int .i64 a1) (i := 1) hF hS rfl rfl (by kernel_rfl) rfl rfl rfl rfl (fun x => r_move hF rfl rfl) ?_; clear hF; clear a; intro a hF
          refine GL.val (v := a3.v) (i := 2) hF hS rfl rfl (by kernel_rfl) rfl rfl rfl rfl (fun x => r_move hF rfl rfl) ?_; clear hF; clear a; intro a hF
          refine GL.val (v := .int .i64 (a3.len : Int)) (i := 3) hF hS rfl rfl (by kernel_rfl) rfl rfl rfl rfl (fun x => r_len_slice hF rfl rfl Try.runUnderlying87) ?_; clear hF; clear a; intro a hF
          refine GL.val (v := .int .i64 (IntKind.i64.wrap (a1 + (a3.len : Int)))) (i := 4) hF hS rfl rfl (by kernel_rfl) rfl rfl rfl rfl (fun x => r_add hF rfl rfl rfl) ?_; clear hF; clear a; intro a hF
          obtain ⟨hs113, hs114, h⟩ := h
          refine GL.val (v := ((a0.sub 2 0 ((IntKind.i64.wrap ((IntKind.i64.wrap (((a0.sub 2 0 a1.toNat a0.cap).len : Int) + (a3.len : Int))) + ((a0.sub 2 a2.toNat a0.len a0.cap).len : Int))).toNat) a0.cap).sub 2 ((IntKind.i64.wrap (a1 + (a3.len : Int))).toNat) ((a0.sub 2 0 ((IntKind.i64.wrap ((IntKind.i64.wrap (((a0.sub 2 0 a1.toNat a0.cap).len : Int) + (a3.len : Int))) + ((a0.sub 2 a2.toNat a0.len a0.cap).len : Int))).toNat) a0.cap).len) ((a0.sub 2 0 ((IntKind.i64.wrap ((IntKind.i64.wrap (((a0.sub 2 0 a1.toNat a0.cap).len : Int) + (a3.len : Int))) + ((a0.sub 2 a2.toNat a0.len a0.cap).len : Int))).toNat) a0.cap).cap)).v) (i := 5) hF hS rfl rfl (by kernel_rfl) rfl rfl rfl rfl (fun x => r_slice (lo' := some (.int .i64 (IntKind.i64.wrap (a1 + (a3.len : Int))))) (hi' := none) (mx' := none) hF rfl rfl rfl rfl rfl (slc_at Try.runUnderlying87 Try.sizeOf94 (bounds10 hs113 hs114))) ?_; clear hF; clear a; intro a hF
          refine GL.val (v := a0.v) (i := 6) hF hS rfl rfl (by kernel_rfl) rfl rfl rfl rfl (fun x => r_move hF rfl rfl) ?_; clear hF; clear a; intro a hF
          refine GL.val (v := .int .i64 a2) (i := 7) hF hS rfl rfl (by kernel_rfl) rfl rfl rfl rfl (fun x => r_move hF rfl rfl) ?_; clear hF; clear a; intro a hF
          obtain ⟨hs115, hs116, h⟩ := h
          refine GL.val (v := (a0.sub 2 a2.toNat a0.len a0.cap).v) (i := 8) hF hS rfl rfl (by kernel_rfl) rfl rfl rfl rfl (fun x => r_slice (lo' := some (.int .i64 a2)) (hi' := none) (mx' := none) hF rfl rfl rfl rfl rfl (slc_at Try.runUnderlying87 Try.sizeOf94 (bounds10 hs115 hs116))) ?_; clear hF; clear a; intro a hF
          refine GL.act (i := 9) (pend' := []) hS (by kernel_rfl) rfl (by kernel_rfl) ?_
          obtain ⟨t118, w117, hc_, h⟩ := h
          refine op_val  hF rfl rfl rfl rfl (r_copy (xs := [((a0.sub 2 0 ((IntKind.i64.wrap ((IntKind.i64.wrap (((a0.sub 2 0 a1.toNat a0.cap).len : Int) + (a3.len : Int))) + ((a0.sub 2 a2.toNat a0.len a0.cap).len : Int))).toNat) a0.cap).sub 2 ((IntKind.i64.wrap (a1 + (a3.len : Int))).toNat) ((a0.sub 2 0 ((IntKind.i64.wrap ((IntKind.i64.wrap (((a0.sub 2 0 a1.toNat a0.cap).len : Int) + (a3.len : Int))) + ((a0.sub 2 a2.toNat a0.len a0.cap).len : Int))).toNat) a0.cap).len) ((a0.sub 2 0 ((IntKind.i64.wrap ((IntKind.i64.wrap (((a0.sub 2 0 a1.toNat a0.cap).len : Int) + (a3.len : Int))) + ((a0.sub 2 a2.toNat a0.len a0.cap).len : Int))).toNat) a0.cap).cap)).v, (a0.sub 2 a2.toNat a0.len a0.cap).v]) hF rfl rfl hc_) trivial ?_; clear hF; clear a; intro a hF
          refine GL.done (by kernel_rfl) (hK111 _ _ ?_)
          clear hK111 K110
          refine seq_region fun K119 hK120 => ?_
          refine RL.val  hF rfl rfl rfl (r_move hF rfl rfl) ?_; clear hF; clear a; intro a hF
          refine RL.val  hF rfl rfl rfl (r_move hF rfl rfl) ?_; clear hF; clear a; intro a hF
          obtain ⟨hs121, hs122, h⟩ := h
          refine RL.val  hF rfl rfl rfl (r_slice (lo' := some (.int .i64 (IntKind.i64.wrap ((IntKind.i64.wrap (((a0.sub 2 0 a1.toNat a0.cap).len : Int) + (a3.len : Int))) + ((a0.sub 2 a2.toNat a0.len a0.cap).len : Int))))) (hi' := none) (mx' := none) hF rfl rfl rfl rfl rfl (slc_at Try.runUnderlying87 Try.sizeOf94 (bounds10 hs121 hs122))) ?_; clear hF; clear a; intro a hF
          obtain ⟨w123, hc_, h⟩ := h
          refine RL.vunit  hF rfl rfl (r_clear (xs := [(a0.sub 2 ((IntKind.i64.wrap ((IntKind.i64.wrap (((a0.sub 2 0 a1.toNat a0.cap).len : Int) + (a3.len : Int))) + ((a0.sub 2 a2.toNat a0.len a0.cap).len : Int))).toNat) a0.len a0.cap).v]) hF rfl rfl hc_) ?_; clear hF; clear a; intro a hF
          refine RL.nil (hK120 _ _ ?_)
          clear hK120 K119
          refine seq_region fun K124 hK125 => ?_
          refine RL.val  hF rfl rfl rfl (r_move hF rfl rfl) ?_; clear hF; clear a; intro a hF
          refine RL.val  hF rfl rfl rfl (r_assign hF rfl rfl) ?_; clear hF; clear a; intro a hF
          refine RL.nil (hK125 _ _ ?_)
          clear hK125 K124
          refine wp_ret ?_
          exact ret_of hF (res1 hF rfl rfl) ⟨_, rfl, h⟩
        · replace h := hf hc; clear ht hf
          refine wp_skip ?_
          exact jn42 () _ _ (hF.sub rfl) h
      clear hJ
      refine seq_region fun K126 hK127 => ?_
      refine RL.val  hF rfl rfl rfl (r_move hF rfl rfl) ?_; clear hF; clear a; intro a hF
      refine RL.val  hF rfl rfl rfl (r_move hF rfl rfl) ?_; clear hF; clear a; intro a hF
      refine RL.val  hF rfl rfl rfl (r_cap_slice hF rfl rfl Try.runUnderlying87) ?_; clear hF; clear a; intro a hF
      refine RL.val  hF rfl rfl rfl (r_gtr hF rfl rfl rfl) ?_; clear hF; clear a; intro a hF
      refine RL.nil (hK127 _ _ ?_)
      clear hK127 K126
      obtain ⟨ht, hf⟩ := h
      refine cond_ hF rfl (fun hc => ?_) (fun hc => ?_)
      · replace h := ht hc; clear ht hf
        refine seq_region fun K128 hK129 => ?_
        refine RL.val  hF rfl rfl rfl (r_move hF rfl rfl) ?_; clear hF; clear a; intro a hF
        refine RL.val  hF rfl rfl rfl (r_move hF rfl rfl) ?_; clear hF; clear a; intro a hF
        obtain ⟨hs130, hs131, h⟩ := h
        refine RL.val  hF rfl rfl rfl (r_slice (lo' := none) (hi' := some (.int .i64 a1)) (mx' := none) hF rfl rfl rfl rfl rfl (slc_at Try.runUnderlying87 Try.sizeOf94 (bounds01 hs130 hs131))) ?_; clear hF; clear a; intro a hF
        refine RL.val  hF rfl rfl rfl (r_move hF rfl rfl) ?_; clear hF; clear a; intro a hF
        refine RL.val  hF rfl rfl rfl (r_move hF rfl rfl) ?_; clear hF; clear a; intro a hF
        refine RL.val  hF rfl rfl rfl (r_sub hF rfl rfl rfl) ?_; clear hF; clear a; intro a hF
        obtain ⟨t133, w132, hc_, h⟩ := h
        refine RL.val  hF rfl rfl rfl (r_append (xs := [(a0.sub 2 0 a1.toNat a0.cap).v, .int .i64 (IntKind.i64.wrap ((IntKind.i64.wrap ((IntKind.i64.wrap (((a0.sub 2 0 a1.toNat a0.cap).len : Int) + (a3.len : Int))) + ((a0.sub 2 a2.toNat a0.len a0.cap).len : Int))) - a1))]) hF rfl rfl hc_) ?_; clear hF; clear a; intro a hF
        refine RL.val  hF rfl rfl rfl (r_assign hF rfl rfl) ?_; clear hF; clear a; intro a hF
        refine RL.nil (hK129 _ _ ?_)
        clear hK129 K128
        refine seq_region fun K134 hK135 => ?_
        refine RL.val  hF rfl rfl rfl (r_move hF rfl rfl) ?_; clear hF; clear a; intro a hF
        refine RL.val  hF rfl rfl rfl (r_move hF rfl rfl) ?_; clear hF; clear a; intro a hF
        obtain ⟨hs136, hs137, h⟩ := h
        refine RL.val  hF rfl rfl rfl (r_slice (lo' := some (.int .i64 a1)) (hi' := none) (mx' := none) hF rfl rfl rfl rfl rfl (slc_at Try.runUnderlying87 Try.sizeOf94 (bounds10 hs136 hs137))) ?_; clear hF; clear a; intro a hF
        refine RL.val  hF rfl rfl rfl (r_move hF rfl rfl) ?_; clear hF; clear a; intro a hF
        obtain ⟨t139, w138, hc_, h⟩ := h
        refine RL.val  hF rfl rfl rfl (r_copy (xs := [(t133.sub 2 a1.toNat t133.len t133.cap).v, a3.v]) hF rfl rfl hc_) ?_; clear hF; clear a; intro a hF
        refine RL.nil (hK135 _ _ ?_)
        clear hK135 K134
        refine seq_draw 512 #[0, 0, 0, 4, 14, 31, 0, 0, 192, 511] 10 mo rfl (by kernel_rfl) (by kernel_rfl) fun hS K140 hK141 => ?_
        obtain ⟨w142, hw, h⟩ := h; rw [← hw]; clear hw
        refine GL.val (v := t133.v) (i := 0) hF hS rfl rfl (by kernel_rfl) rfl rfl rfl rfl (fun x => r_move hF rfl rfl) ?_; clear hF; clear a; intro a hF
        refine GL.val (v := .int .i64 a1) (i := 1) hF hS rfl rfl (by kernel_rfl) rfl rfl rfl rfl (fun x => r_move hF rfl rfl) ?_; clear hF; clear a; intro a hF
        refine GL.val (v := a3.v) (i := 2) hF hS rfl rfl (by kernel_rfl) rfl rfl rfl rfl (fun x => r_move hF rfl rfl) ?_; clear hF; clear a; intro a hF
        refine GL.val (v := .int .i64 (a3.len : Int)) (i := 3) hF hS rfl rfl (by kernel_rfl) rfl rfl rfl rfl (fun x => r_len_slice hF rfl rfl Try.runUnderlying87) ?_; clear hF; clear a; intro a hF
        refine GL.val (v := .int .i64 (IntKind.i64.wrap (a1 + (a3.len : Int)))) (i := 4) hF hS rfl rfl (by kernel_rfl) rfl rfl rfl rfl (fun x => r_add hF rfl rfl rfl) ?_; clear hF; clear a; intro a hF
        obtain ⟨hs143, hs144, h⟩ := h
        refine GL.val (v := (t133.sub 2 ((IntKind.i64.wrap (a1 + (a3.len : Int))).toNat) t133.len t133.cap).v) (i := 5) hF hS rfl rfl (by kernel_rfl) rfl rfl rfl rfl (fun x => r_slice (lo' := some (.int .i64 (IntKind.i64.wrap (a1 + (a3.len : Int))))) (hi' := none) (mx' := none) hF rfl rfl rfl rfl rfl (slc_at Try.runUnderlying87 Try.sizeOf94 (bounds10 hs143 hs144))) ?_; clear hF; clear a; intro a hF
        refine GL.val (v := a0.v) (i := 6) hF hS rfl rfl (by kernel_rfl) rfl rfl rfl rfl (fun x => r_move hF rfl rfl) ?_; clear hF; clear a; intro a hF
        refine GL.val (v := .int .i64 a2) (i := 7) hF hS rfl rfl (by kernel_rfl) rfl rfl rfl rfl (fun x => r_move hF rfl rfl) ?_; clear hF; clear a; intro a hF
        obtain ⟨hs145, hs146, h⟩ := h
        refine GL.val (v := (a0.sub 2 a2.toNat a0.len a0.cap).v) (i := 8) hF hS rfl rfl (by kernel_rfl) rfl rfl rfl rfl (fun x => r_slice (lo' := some (.int .i64 a2)) (hi' := none) (mx' := none) hF rfl rfl rfl rfl rfl (slc_at Try.runUnderlying87 Try.sizeOf94 (bounds10 hs145 hs146))) ?_; clear hF; clear a; intro a hF
        refine GL.act (i := 9) (pend' := []) hS (by kernel_rfl) rfl (by kernel_rfl) ?_
        obtain ⟨t148, w147, hc_, h⟩ := h
        refine op_val  hF rfl rfl rfl rfl (r_copy (xs := [(t133.sub 2 ((IntKind.i64.wrap (a1 + (a3.len : Int))).toNat) t133.len t133.cap).v, (a0.sub 2 a2.toNat a0.len a0.cap).v]) hF rfl rfl hc_) trivial ?_; clear hF; clear a; intro a hF
        refine GL.done (by kernel_rfl) (hK141 _ _ ?_)
        clear hK141 K140
        refine seq_region fun K149 hK150 => ?_
        refine RL.val  hF rfl rfl rfl (r_move hF rfl rfl) ?_; clear hF; clear a; intro a hF
        refine RL.val  hF rfl rfl rfl (r_assign hF rfl rfl) ?_; clear hF; clear a; intro a hF
        refine RL.nil (hK150 _ _ ?_)
        clear hK150 K149
        refine wp_ret ?_
        exact ret_of hF (res1 hF rfl rfl) ⟨_, rfl, h⟩
      · replace h := hf hc; clear ht hf
        refine wp_skip ?_
        exact jn32 () _ _ (hF.sub rfl) h
    clear hJ
    refine seq_region fun K151 hK152 => ?_
    refine RL.val  hF rfl rfl rfl (r_move hF rfl rfl) ?_; clear hF; clear a; intro a hF
    refine RL.val  hF rfl rfl rfl (r_move hF rfl rfl) ?_; clear hF; clear a; intro a hF
    refine RL.val  hF rfl rfl rfl (r_len_slice hF rfl rfl Try.runUnderlying87) ?_; clear hF; clear a; intro a hF
    refine RL.val  hF rfl rfl rfl (r_eql hF rfl rfl rfl) ?_; clear hF; clear a; intro a hF
    refine RL.nil (hK152 _ _ ?_)
    clear hK152 K151
    obtain ⟨ht, hf⟩ := h
    refine cond_ hF rfl (fun hc => ?_) (fun hc => ?_)
    · replace h := ht hc; clear ht hf
      refine seq_region fun K153 hK154 => ?_
      refine RL.val  hF rfl rfl rfl (r_move hF rfl rfl) ?_; clear hF; clear a; intro a hF
      refine RL.val  hF rfl rfl rfl (r_move hF rfl rfl) ?_; clear hF; clear a; intro a hF
      obtain ⟨hs155, hs156, h⟩ := h
      refine RL.val  hF rfl rfl rfl (r_slice (lo' := none) (hi' := some (.int .i64 a1)) (mx' := none) hF rfl rfl rfl rfl rfl (slc_at Try.runUnderlying87 Try.sizeOf94 (bounds01 hs155 hs156))) ?_; clear hF; clear a; intro a hF
      refine RL.val  hF rfl rfl rfl (r_move hF rfl rfl) ?_; clear hF; clear a; intro a hF
      obtain ⟨t158, w157, hc_, h⟩ := h
      refine RL.val  hF rfl rfl rfl (r_append (xs := [(a0.sub 2 0 a1.toNat a0.cap).v, a3.v]) hF rfl rfl hc_) ?_; clear hF; clear a; intro a hF
      refine RL.val  hF rfl rfl rfl (r_assign hF rfl rfl) ?_; clear hF; clear a; intro a hF
      refine RL.nil (hK154 _ _ ?_)
      clear hK154 K153
      refine seq_k fun K159 hK160 => ?_
      obtain ⟨J, hJ, h⟩ := jn_open h
      have jn164 : ∀ (v161 : Unit) (w162 : World) a, Fr 224 a [(9, t158.v)] → J v161 w162 → K159 a w162 := by
        intro v161 w162 a hF h
        replace h := hJ _ _ h
        clear hJ
        refine hK160 _ _ ?_
        refine seq_region fun K165 hK166 => ?_
        refine RL.val  hF rfl rfl rfl (r_move hF rfl rfl) ?_; clear hF; clear a; intro a hF
        refine RL.val  hF rfl rfl rfl (r_assign hF rfl rfl) ?_; clear hF; clear a; intro a hF
        refine RL.nil (hK166 _ _ ?_)
        clear hK166 K165
        refine wp_ret ?_
        exact ret_of hF (res1 hF rfl rfl) ⟨_, rfl, h⟩
      clear hJ
      refine seq_region fun K167 hK168 => ?_
      refine RL.val  hF rfl rfl rfl (r_move hF rfl rfl) ?_; clear hF; clear a; intro a hF
      refine RL.val  hF rfl rfl rfl (r_len_slice hF rfl rfl Try.runUnderlying87) ?_; clear hF; clear a; intro a hF
      refine RL.val  hF rfl rfl rfl (r_move hF rfl rfl) ?_; clear hF; clear a; intro a hF
      refine RL.val  hF rfl rfl rfl (r_len_slice hF rfl rfl Try.runUnderlying87) ?_; clear hF; clear a; intro a hF
      refine RL.val  hF rfl rfl rfl (r_lss hF rfl rfl rfl) ?_; clear hF; clear a; intro a hF
      refine RL.nil (hK168 _ _ ?_)
      clear hK168 K167
      obtain ⟨ht, hf⟩ := h
      refine cond_ hF rfl (fun hc => ?_) (fun hc => ?_)
      · replace h := ht hc; clear ht hf
        refine end_region fun K169 hK170 => ?_
        refine RL.val  hF rfl rfl rfl (r_move hF rfl rfl) ?_; clear hF; clear a; intro a hF
        refine RL.val  hF rfl rfl rfl (r_move hF rfl rfl) ?_; clear hF; clear a; intro a hF
        refine RL.val  hF rfl rfl rfl (r_len_slice hF rfl rfl Try.runUnderlying87) ?_; clear hF; clear a; intro a hF
        obtain ⟨hs171, hs172, h⟩ := h
        refine RL.val  hF rfl rfl rfl (r_slice (lo' := some (.int .i64 (t158.len : Int))) (hi' := none) (mx' := none) hF rfl rfl rfl rfl rfl (slc_at Try.runUnderlying87 Try.sizeOf94 (bounds10 hs171 hs172))) ?_; clear hF; clear a; intro a hF
        obtain ⟨w173, hc_, h⟩ := h
        refine RL.vunit  hF rfl rfl (r_clear (xs := [(a0.sub 2 ((t158.len : Int).toNat) a0.len a0.cap).v]) hF rfl rfl hc_) ?_; clear hF; clear a; intro a hF
        refine RL.nil (hK170 _ _ ?_)
        clear hK170 K169
        exact jn164 () _ _ (hF.sub rfl) h
      · replace h := hf hc; clear ht hf
        refine wp_skip ?_
        exact jn164 () _ _ (hF.sub rfl) h
    · replace h := hf hc; clear ht hf
      refine wp_skip ?_
      exact jn19 () _ _ (hF.sub rfl) h
  clear hJ
  refine seq_region fun K174 hK175 => ?_
  refine RL.val  hF rfl rfl rfl (r_move hF rfl rfl) ?_; clear hF; clear a; intro a hF
  refine RL.val  hF rfl rfl rfl (r_move hF rfl rfl) ?_; clear hF; clear a; intro a hF
  refine RL.val  hF rfl rfl rfl (r_eql hF rfl rfl rfl) ?_; clear hF; clear a; intro a hF
  refine RL.nil (hK175 _ _ ?_)
  clear hK175 K174
  obtain ⟨ht, hf⟩ := h
  refine cond_ hF rfl (fun hc => ?_) (fun hc => ?_)
  · replace h := ht hc; clear ht hf
    refine seq_region fun K176 hK177 => ?_
    refine RL.val  hF rfl rfl rfl (r_move hF rfl rfl) ?_; clear hF; clear a; intro a hF
    refine RL.val  hF rfl rfl rfl (r_move hF rfl rfl) ?_; clear hF; clear a; intro a hF
    refine RL.val  hF rfl rfl rfl (r_move hF rfl rfl) ?_; clear hF; clear a; intro a hF
    refine RL.call hF rfl rfl rfl (r_call (xs := [a0.v, .int .i64 a1, a3.v]) hF rfl rfl Try.call59) (CallsV.mono h ?_)
    clear h; rintro _ w178 ⟨r179, rfl, h⟩; clear hF; clear a; intro a hF
    refine RL.val  hF rfl rfl rfl (r_assign hF rfl rfl) ?_; clear hF; clear a; intro a hF
    refine RL.nil (hK177 _ _ ?_)
    clear hK177 K176
    refine wp_ret ?_
    exact ret_of hF (res1 hF rfl rfl) ⟨_, rfl, h⟩
  · replace h := hf hc; clear ht hf
    refine wp_skip ?_
    exact jn13 () _ _ (hF.sub rfl) h

set_option maxRecDepth 20000 in
theorem br31 {a0 : Option Addr} {a1 : Int} {a2 : Int} {w : World} {K : Int → World → Prop} (h : sh31 a0 a1 a2 w K) : C31 a0 a1 a2 w K := by
  unfold sh31 at h
  refine enter (n := 107) (l := [(0, .pointer a0), (1, .int .i64 a1), (2, .int .i64 a2)]) 104 Try.func31 rfl _ rfl rfl rfl fun a hF => ?_
  refine seq_region fun K1 hK2 => ?_
  refine RL.val  hF rfl rfl rfl (r_assign hF rfl rfl) ?_; clear hF; clear a; intro a hF
  refine RL.nil (hK2 _ _ ?_)
  clear hK2 K1
  refine seq_k fun K3 hK4 => ?_
  obtain ⟨J, hJ, h⟩ := jn_open h
  have jn8 : ∀ (v5 : Unit) (w6 : World) a, Fr 107 a [(0, .pointer a0), (1, .int .i64 a1), (2, .int .i64 a2)] → J v5 w6 → K3 a w6 := by
    intro v5 w6 a hF h
    replace h := hJ _ _ h
    clear hJ
    refine hK4 _ _ ?_
    refine seq_region fun K9 hK10 => ?_
    refine RL.val  hF rfl rfl rfl (r_move hF rfl rfl) ?_; clear hF; clear a; intro a hF
    refine RL.val  hF rfl rfl rfl (r_move hF rfl rfl) ?_; clear hF; clear a; intro a hF
    refine RL.call hF rfl rfl rfl (r_call (xs := [.pointer a0, .int .i64 a1]) hF rfl rfl Try.call50) (CallsV.mono h ?_)
    clear h; rintro _ w11 ⟨r12, rfl, h⟩; clear hF; clear a; intro a hF
    refine RL.val  hF rfl rfl rfl (r_assign hF rfl rfl) ?_; clear hF; clear a; intro a hF
    refine RL.nil (hK10 _ _ ?_)
    clear hK10 K9
    refine seq_region fun K13 hK14 => ?_
    refine RL.val  hF rfl rfl rfl (r_move hF rfl rfl) ?_; clear hF; clear a; intro a hF
    refine RL.val  hF rfl rfl rfl (r_assign hF rfl rfl) ?_; clear hF; clear a; intro a hF
    refine RL.nil (hK14 _ _ ?_)
    clear hK14 K13
    refine seq_region fun K15 hK16 => ?_
    refine RL.val  hF rfl rfl rfl (r_assign hF rfl rfl) ?_; clear hF; clear a; intro a hF
    refine RL.nil (hK16 _ _ ?_)
    clear hK16 K15
    refine seq_k fun K17 hK18 => ?_
    obtain ⟨J, hJ, h⟩ := jn_open h
    have jn22 : ∀ (v19 : Int × Slc) (w20 : World) a, Fr 107 a [(0, .pointer a0), (8, .int .i64 r12), (9, .int .i64 v19.1), (10, v19.2.v)] → J v19 w20 → K17 a w20 := by
      intro v19 w20 a hF h
      replace h := hJ _ _ h
      clear hJ
      refine hK18 _ _ ?_
      refine seq_k fun K23 hK24 => ?_
      obtain ⟨J, hJ, h⟩ := jn_open h
      have jn28 : ∀ (v25 : Unit) (w26 : World) a, Fr 107 a [(0, .pointer a0), (8, .int .i64 r12), (9, .int .i64 v19.1), (10, v19.2.v)] → J v25 w26 → K23 a w26 := by
        intro v25 w26 a hF h
        replace h := hJ _ _ h
        clear hJ
        refine hK24 _ _ ?_
        refine seq_region fun K29 hK30 => ?_
        refine RL.val  hF rfl rfl rfl (r_move hF rfl rfl) ?_; clear hF; clear a; intro a hF
        refine RL.val  hF rfl rfl rfl (r_move hF rfl rfl) ?_; clear hF; clear a; intro a hF
        obtain ⟨p31, hpp31, h⟩ := h
        refine RL.val  hF rfl rfl rfl (r_nilCheck hF rfl (lkp rfl hpp31)) ?_; clear hF; clear a; intro a hF
        refine RL.val  hF rfl rfl rfl (r_fieldAddr hF rfl rfl Try.runUnderlying89 rfl Try.sizeOf87 rfl) ?_; clear hF; clear a; intro a hF
        obtain ⟨t32, hct32, h⟩ := h
        refine RL.val  hF rfl rfl rfl (r_load hF rfl rfl Try.isAgg87 hct32) ?_; clear hF; clear a; intro a hF
        refine RL.val  hF rfl rfl rfl (r_move hF rfl rfl) ?_; clear hF; clear a; intro a hF
        refine RL.val  hF rfl rfl rfl (r_move hF rfl rfl) ?_; clear hF; clear a; intro a hF
        refine RL.val  hF rfl rfl rfl (r_move hF rfl rfl) ?_; clear hF; clear a; intro a hF
        refine RL.call hF rfl rfl rfl (r_call (xs := [t32.v, .int .i64 r12, .int .i64 v19.1, v19.2.v]) hF rfl rfl Try.call51) (CallsV.mono h ?_)
        clear h; rintro _ w33 ⟨r34, rfl, h⟩; clear hF; clear a; intro a hF
        obtain ⟨p35, hpp35, h⟩ := h
        refine RL.val  hF rfl rfl rfl (r_nilCheck hF rfl (lkp rfl hpp35)) ?_; clear hF; clear a; intro a hF
        refine RL.val  hF rfl rfl rfl (r_fieldAddr hF rfl rfl Try.runUnderlying89 rfl Try.sizeOf87 rfl) ?_; clear hF; clear a; intro a hF
        obtain ⟨u_, w36, hs1_, hs2_, hs3_, h⟩ := h
        refine RL.unit (w' := w36) hF rfl rfl (by rw [hs3_]; exact r_store hF rfl rfl rfl rfl Try.sizeOf87 hs1_ hs2_) ?_; clear hF; clear a; intro a hF
        refine RL.nil (hK30 _ _ ?_)
        clear hK30 K29
        refine seq_region fun K37 hK38 => ?_
        refine RL.val  hF rfl rfl rfl (r_assign hF rfl rfl) ?_; clear hF; clear a; intro a hF
        refine RL.nil (hK38 _ _ ?_)
        clear hK38 K37
        refine wp_ret ?_
        exact ret_of hF (res1 hF rfl rfl) ⟨_, rfl, h⟩
      clear hJ
      refine seq_region fun K39 hK40 => ?_
      refine RL.val  hF rfl rfl rfl (r_move hF rfl rfl) ?_; clear hF; clear a; intro a hF
      obtain ⟨p41, hpp41, h⟩ := h
      refine RL.val  hF rfl rfl rfl (r_nilCheck hF rfl (lkp rfl hpp41)) ?_; clear hF; clear a; intro a hF
      refine RL.val  hF rfl rfl rfl (r_fieldAddr hF rfl rfl Try.runUnderlying89 rfl Try.sizeOf87 rfl) ?_; clear hF; clear a; intro a hF
      obtain ⟨t42, hct42, h⟩ := h
      refine RL.val  hF rfl rfl rfl (r_load hF rfl rfl Try.isAgg87 hct42) ?_; clear hF; clear a; intro a hF
      refine RL.val  hF rfl rfl rfl (r_len_slice hF rfl rfl Try.runUnderlying87) ?_; clear hF; clear a; intro a hF
      refine RL.val  hF rfl rfl rfl (r_move hF rfl rfl) ?_; clear hF; clear a; intro a hF
      refine RL.val  hF rfl rfl rfl (r_move hF rfl rfl) ?_; clear hF; clear a; intro a hF
      refine RL.val  hF rfl rfl rfl (r_sub hF rfl rfl rfl) ?_; clear hF; clear a; intro a hF
      refine RL.val  hF rfl rfl rfl (r_sub hF rfl rfl rfl) ?_; clear hF; clear a; intro a hF
      refine RL.val  hF rfl rfl rfl (r_move hF rfl rfl) ?_; clear hF; clear a; intro a hF
      refine RL.val  hF rfl rfl rfl (r_len_slice hF rfl rfl Try.runUnderlying87) ?_; clear hF; clear a; intro a hF
      refine RL.val  hF rfl rfl rfl (r_add hF rfl rfl rfl) ?_; clear hF; clear a; intro a hF
      refine RL.val  hF rfl rfl rfl (r_gtr hF rfl rfl rfl) ?_; clear hF; clear a; intro a hF
      refine RL.nil (hK40 _ _ ?_)
      clear hK40 K39
      obtain ⟨ht, hf⟩ := h
      refine cond_ hF rfl (fun hc => ?_) (fun hc => ?_)
      · replace h := ht hc; clear ht hf
        refine seq_region fun K43 hK44 => ?_
        refine RL.val  hF rfl rfl rfl (r_assign hF rfl rfl) ?_; clear hF; clear a; intro a hF
        refine RL.nil (hK44 _ _ ?_)
        clear hK44 K43
        refine wp_ret ?_
        exact ret_of hF (res1 hF rfl rfl) ⟨_, rfl, h⟩
      · replace h := hf hc; clear ht hf
        refine wp_skip ?_
        exact jn28 () _ _ (hF.sub rfl) h
    clear hJ
    refine wp_block ?_
    refine loop_ (fun (s45 : Int × Slc) => [(0, .pointer a0), (1, .int .i64 a1), (2, .int .i64 a2), (8, .int .i64 r12), (9, .int .i64 s45.1), (10, s45.2.v)]) (hF.sub rfl) h ?_
    clear hF h
    intro s45 w46 N47 KL hN48 h a hF
    refine seq_k fun K49 hK50 => ?_
    obtain ⟨J, hJ, h⟩ := jn_open h
    have jn54 : ∀ (v51 : Unit) (w52 : World) a, Fr 107 a [(0, .pointer a0), (1, .int .i64 a1), (2, .int .i64 a2), (8, .int .i64 r12), (9, .int .i64 s45.1), (10, s45.2.v)] → J v51 w52 → K49 a w52 := by
      intro v51 w52 a hF h
      replace h := hJ _ _ h
      clear hJ
      refine hK50 _ _ ?_
      refine seq_k fun K55 hK56 => ?_
      obtain ⟨J, hJ, h⟩ := jn_open h
      have jn60 : ∀ (v57 : Slc) (w58 : World) a, Fr 107 a [(0, .pointer a0), (1, .int .i64 a1), (2, .int .i64 a2), (8, .int .i64 r12), (9, .int .i64 s45.1), (10, v57.v)] → J v57 w58 → K55 a w58 := by
        intro v57 w58 a hF h
        replace h := hJ _ _ h
        clear hJ
        refine hK56 _ _ ?_
        refine end_region fun K61 hK62 => ?_
        refine RL.val  hF rfl rfl rfl (r_move hF rfl rfl) ?_; clear hF; clear a; intro a hF
        refine RL.val  hF rfl rfl rfl (r_add hF rfl rfl rfl) ?_; clear hF; clear a; intro a hF
        refine RL.val  hF rfl rfl rfl (r_assign hF rfl rfl) ?_; clear hF; clear a; intro a hF
        refine RL.nil (hK62 _ _ ?_)
        clear hK62 K61
        exact hN48 (IntKind.i64.wrap (s45.1 + 1), v57) _ _ (hF.sub rfl) h
      clear hJ
      refine wp_block ?_
      refine seq_k fun K63 hK64 => ?_
      obtain ⟨J, hJ, h⟩ := jn_open h
      have jn68 : ∀ (v65 : Slc) (w66 : World) a, Fr 107 a [(0, .pointer a0), (1, .int .i64 a1), (2, .int .i64 a2), (8, .int .i64 r12), (9, .int .i64 s45.1), (10, v65.v)] → J v65 w66 → K63 a w66 := by
        intro v65 w66 a hF h
        replace h := hJ _ _ h
        clear hJ
        refine hK64 _ _ ?_
        refine seq_region fun K69 hK70 => ?_
        refine RL.val  hF rfl rfl rfl (r_move hF rfl rfl) ?_; clear hF; clear a; intro a hF
        obtain ⟨p71, hpp71, h⟩ := h
        refine RL.val  hF rfl rfl rfl (r_nilCheck hF rfl (lkp rfl hpp71)) ?_; clear hF; clear a; intro a hF
        refine RL.val  hF rfl rfl rfl (r_fieldAddr hF rfl rfl Try.runUnderlying89 rfl Try.sizeOf87 rfl) ?_; clear hF; clear a; intro a hF
        obtain ⟨t72, hct72, h⟩ := h
        refine RL.val  hF rfl rfl rfl (r_load hF rfl rfl Try.isAgg87 hct72) ?_; clear hF; clear a; intro a hF
        refine RL.val  hF rfl rfl rfl (r_move hF rfl rfl) ?_; clear hF; clear a; intro a hF
        obtain ⟨b74, p73, hb_, h0_, h1_, hp_, h⟩ := h
        refine RL.val (v := .pointer (some p73)) (w' := w66) hF rfl rfl rfl (by rw [hp_]; exact r_indexAddr hF rfl (lks rfl hb_) rfl Try.runUnderlying87 Try.sizeOf94 h0_ h1_) ?_; clear hF; clear a; intro a hF
        obtain ⟨t75, hct75, h⟩ := h
        refine RL.val  hF rfl rfl rfl (r_loadA hF rfl rfl Try.isAgg94 Try.sizeOf94 hct75) ?_; clear hF; clear a; intro a hF
        obtain ⟨p76, w77, hp_, hw_, h⟩ := h
        refine RL.val (v := .pointer (some p76)) (w' := w77) hF rfl rfl rfl (by rw [hp_, hw_]; exact r_alloc rfl Try.zeroValue94 rfl) ?_; clear hF; clear a; intro a hF
        obtain ⟨w78, hs1_, hs2_, hs3_, hs4_, h⟩ := h
        refine RL.unit (w' := w78) hF rfl rfl (by rw [hs4_]; exact r_storeA hF rfl rfl rfl Try.sizeOf94 hs1_ hs2_ hs3_) ?_; clear hF; clear a; intro a hF
        refine RL.nil (hK70 _ _ ?_)
        clear hK70 K69
        refine seq_region fun K79 hK80 => ?_
        refine RL.val  hF rfl rfl rfl (r_fieldAddr hF rfl rfl Try.runUnderlying94 rfl Try.sizeOf3 rfl) ?_; clear hF; clear a; intro a hF
        obtain ⟨t81, hct81, h⟩ := h
        refine RL.val  hF rfl rfl rfl (r_load hF rfl rfl Try.isAgg3 hct81) ?_; clear hF; clear a; intro a hF
        refine RL.val  hF rfl rfl rfl (r_move hF rfl rfl) ?_; clear hF; clear a; intro a hF
        refine RL.val  hF rfl rfl rfl (r_gtr hF rfl rfl rfl) ?_; clear hF; clear a; intro a hF
        refine RL.nil (hK80 _ _ ?_)
        clear hK80 K79
        obtain ⟨ht, hf⟩ := h
        refine cond_ hF rfl (fun hc => ?_) (fun hc => ?_)
        · replace h := ht hc; clear ht hf
          refine end_region fun K82 hK83 => ?_
          refine RL.val  hF rfl rfl rfl (r_move hF rfl rfl) ?_; clear hF; clear a; intro a hF
          refine RL.val  hF rfl rfl rfl (r_move hF rfl rfl) ?_; clear hF; clear a; intro a hF
          refine RL.val  hF rfl rfl rfl (r_add hF rfl rfl rfl) ?_; clear hF; clear a; intro a hF
          refine RL.val  hF rfl rfl rfl (r_fieldAddr hF rfl rfl Try.runUnderlying94 rfl Try.sizeOf3 rfl) ?_; clear hF; clear a; intro a hF
          obtain ⟨t84, hct84, h⟩ := h
          refine RL.val  hF rfl rfl rfl (r_load hF rfl rfl Try.isAgg3 hct84) ?_; clear hF; clear a; intro a hF
          refine RL.val (v := .agg (#[.int .i64 (IntKind.i64.wrap (a2 + 1)), .int .i64 t84])) (w' := w78) hF rfl rfl rfl (r_build (xs := [(0, .int .i64 (IntKind.i64.wrap (a2 + 1))), (1, .int .i64 t84)]) hF rfl rfl (by kernel_rfl)) ?_; clear hF; clear a; intro a hF
          obtain ⟨t86, w85, hc_, h⟩ := h
          refine RL.val  hF rfl rfl rfl (r_buildSlice (xs := [(0, .agg (#[.int .i64 (IntKind.i64.wrap (a2 + 1)), .int .i64 t84]))]) hF rfl rfl hc_) ?_; clear hF; clear a; intro a hF
          obtain ⟨t88, w87, hc_, h⟩ := h
          refine RL.val  hF rfl rfl rfl (r_append (xs := [v65.v, t86.v]) hF rfl rfl hc_) ?_; clear hF; clear a; intro a hF
          refine RL.val  hF rfl rfl rfl (r_assign hF rfl rfl) ?_; clear hF; clear a; intro a hF
          refine RL.nil (hK83 _ _ ?_)
          clear hK83 K82
          exact jn60 t88 _ _ (hF.sub rfl) h
        · replace h := hf hc; clear ht hf
          refine wp_skip ?_
          exact jn60 v65 _ _ (hF.sub rfl) h
      clear hJ
      refine seq_region fun K89 hK90 => ?_
      refine RL.val  hF rfl rfl rfl (r_move hF rfl rfl) ?_; clear hF; clear a; intro a hF
      obtain ⟨p91, hpp91, h⟩ := h
      refine RL.val  hF rfl rfl rfl (r_nilCheck hF rfl (lkp rfl hpp91)) ?_; clear hF; clear a; intro a hF
      refine RL.val  hF rfl rfl rfl (r_fieldAddr hF rfl rfl Try.runUnderlying89 rfl Try.sizeOf87 rfl) ?_; clear hF; clear a; intro a hF
      obtain ⟨t92, hct92, h⟩ := h
      refine RL.val  hF rfl rfl rfl (r_load hF rfl rfl Try.isAgg87 hct92) ?_; clear hF; clear a; intro a hF
      refine RL.val  hF rfl rfl rfl (r_move hF rfl rfl) ?_; clear hF; clear a; intro a hF
      obtain ⟨b94, p93, hb_, h0_, h1_, hp_, h⟩ := h
      refine RL.val (v := .pointer (some p93)) (w' := w52) hF rfl rfl rfl (by rw [hp_]; exact r_indexAddr hF rfl (lks rfl hb_) rfl Try.runUnderlying87 Try.sizeOf94 h0_ h1_) ?_; clear hF; clear a; intro a hF
      obtain ⟨t95, hct95, h⟩ := h
      refine RL.val  hF rfl rfl rfl (r_loadA hF rfl rfl Try.isAgg94 Try.sizeOf94 hct95) ?_; clear hF; clear a; intro a hF
      obtain ⟨p96, w97, hp_, hw_, h⟩ := h
      refine RL.val (v := .pointer (some p96)) (w' := w97) hF rfl rfl rfl (by rw [hp_, hw_]; exact r_alloc rfl Try.zeroValue94 rfl) ?_; clear hF; clear a; intro a hF
      obtain ⟨w98, hs1_, hs2_, hs3_, hs4_, h⟩ := h
      refine RL.unit (w' := w98) hF rfl rfl (by rw [hs4_]; exact r_storeA hF rfl rfl rfl Try.sizeOf94 hs1_ hs2_ hs3_) ?_; clear hF; clear a; intro a hF
      refine RL.nil (hK90 _ _ ?_)
      clear hK90 K89
      refine seq_region fun K99 hK100 => ?_
      refine RL.val  hF rfl rfl rfl (r_fieldAddr0 hF rfl rfl Try.runUnderlying94 rfl Try.sizeOf3 rfl) ?_; clear hF; clear a; intro a hF
      obtain ⟨t101, hct101, h⟩ := h
      refine RL.val  hF rfl rfl rfl (r_load hF rfl rfl Try.isAgg3 hct101) ?_; clear hF; clear a; intro a hF
      refine RL.val  hF rfl rfl rfl (r_move hF rfl rfl) ?_; clear hF; clear a; intro a hF
      refine RL.val  hF rfl rfl rfl (r_lss hF rfl rfl rfl) ?_; clear hF; clear a; intro a hF
      refine RL.nil (hK100 _ _ ?_)
      clear hK100 K99
      obtain ⟨ht, hf⟩ := h
      refine cond_ hF rfl (fun hc => ?_) (fun hc => ?_)
      · replace h := ht hc; clear ht hf
        refine end_region fun K102 hK103 => ?_
        refine RL.val  hF rfl rfl rfl (r_move hF rfl rfl) ?_; clear hF; clear a; intro a hF
        refine RL.val  hF rfl rfl rfl (r_fieldAddr0 hF rfl rfl Try.runUnderlying94 rfl Try.sizeOf3 rfl) ?_; clear hF; clear a; intro a hF
        obtain ⟨t104, hct104, h⟩ := h
        refine RL.val  hF rfl rfl rfl (r_load hF rfl rfl Try.isAgg3 hct104) ?_; clear hF; clear a; intro a hF
        refine RL.val  hF rfl rfl rfl (r_move hF rfl rfl) ?_; clear hF; clear a; intro a hF
        refine RL.val  hF rfl rfl rfl (r_sub hF rfl rfl rfl) ?_; clear hF; clear a; intro a hF
        refine RL.val (v := .agg (#[.int .i64 t104, .int .i64 (IntKind.i64.wrap (a1 - 1))])) (w' := w98) hF rfl rfl rfl (r_build (xs := [(0, .int .i64 t104), (1, .int .i64 (IntKind.i64.wrap (a1 - 1)))]) hF rfl rfl (by kernel_rfl)) ?_; clear hF; clear a; intro a hF
        obtain ⟨t106, w105, hc_, h⟩ := h
        refine RL.val  hF rfl rfl rfl (r_buildSlice (xs := [(0, .agg (#[.int .i64 t104, .int .i64 (IntKind.i64.wrap (a1 - 1))]))]) hF rfl rfl hc_) ?_; clear hF; clear a; intro a hF
        obtain ⟨t108, w107, hc_, h⟩ := h
        refine RL.val  hF rfl rfl rfl (r_append (xs := [s45.2.v, t106.v]) hF rfl rfl hc_) ?_; clear hF; clear a; intro a hF
        refine RL.val  hF rfl rfl rfl (r_assign hF rfl rfl) ?_; clear hF; clear a; intro a hF
        refine RL.nil (hK103 _ _ ?_)
        clear hK103 K102
        exact jn68 t108 _ _ (hF.sub rfl) h
      · replace h := hf hc; clear ht hf
        refine wp_skip ?_
        exact jn68 s45.2 _ _ (hF.sub rfl) h
    clear hJ
    refine seq_region fun K109 hK110 => ?_
    obtain ⟨J113, hJ, h⟩ := jn_open h
    have jn114 : ∀ (v111 : Bool) (w112 : World) a, Fr 107 a [(0, .pointer a0), (1, .int .i64 a1), (2, .int .i64 a2), (8, .int .i64 r12), (9, .int .i64 s45.1), (10, s45.2.v), (42, .bool v111)] → J113 v111 w112 → K109 a w112 := by
      clear hF
      intro v111 w112 a hF h; replace h := hJ _ _ h; refine hK110 _ _ ?_; clear hJ hK110 K109
      obtain ⟨ht, hf⟩ := h
      refine cond_ hF rfl (fun hc => ?_) (fun hc => ?_)
      · replace h := ht hc; clear ht hf
        refine wp_skip ?_
        exact jn54 () _ _ (hF.sub rfl) h
      · replace h := hf hc; clear ht hf
        refine wp_exit ?_
        exact jn22 (s45.1, s45.2) _ _ (hF.sub rfl) h
    clear hJ hK110
    refine RL.val  hF rfl rfl rfl (r_move hF rfl rfl) ?_; clear hF; clear a; intro a hF
    refine RL.val  hF rfl rfl rfl (r_move hF rfl rfl) ?_; clear hF; clear a; intro a hF
    obtain ⟨p115, hpp115, h⟩ := h
    refine RL.val  hF rfl rfl rfl (r_nilCheck hF rfl (lkp rfl hpp115)) ?_; clear hF; clear a; intro a hF
    refine RL.val  hF rfl rfl rfl (r_fieldAddr hF rfl rfl Try.runUnderlying89 rfl Try.sizeOf87 rfl) ?_; clear hF; clear a; intro a hF
    obtain ⟨t116, hct116, h⟩ := h
    refine RL.val  hF rfl rfl rfl (r_load hF rfl rfl Try.isAgg87 hct116) ?_; clear hF; clear a; intro a hF
    refine RL.val  hF rfl rfl rfl (r_len_slice hF rfl rfl Try.runUnderlying87) ?_; clear hF; clear a; intro a hF
    refine RL.val  hF rfl rfl rfl (r_lss hF rfl rfl rfl) ?_; clear hF; clear a; intro a hF
    refine RL.val  hF rfl rfl rfl (r_move hF rfl rfl) ?_; clear hF; clear a; intro a hF
    obtain ⟨ht, hf⟩ := h
    rcases bool_cases (decide (s45.1 < (t116.len : Int))) with hg117 | hg117
    · replace h := ht hg117; clear ht hf
      refine RL.gval  hF rfl rfl (lkb rfl hg117) rfl rfl (r_move hF rfl rfl) ?_; clear hF; clear a; intro a hF
      obtain ⟨p118, hpp118, h⟩ := h
      refine RL.gval  hF rfl rfl (lkb rfl hg117) rfl rfl (r_nilCheck hF rfl (lkp rfl hpp118)) ?_; clear hF; clear a; intro a hF
      refine RL.gval  hF rfl rfl (lkb rfl hg117) rfl rfl (r_fieldAddr hF rfl rfl Try.runUnderlying89 rfl Try.sizeOf87 rfl) ?_; clear hF; clear a; intro a hF
      obtain ⟨t119, hct119, h⟩ := h
      refine RL.gval  hF rfl rfl (lkb rfl hg117) rfl rfl (r_load hF rfl rfl Try.isAgg87 hct119) ?_; clear hF; clear a; intro a hF
      refine RL.gval  hF rfl rfl (lkb rfl hg117) rfl rfl (r_move hF rfl rfl) ?_; clear hF; clear a; intro a hF
      obtain ⟨b121, p120, hb_, h0_, h1_, hp_, h⟩ := h
      refine RL.gval (v := .pointer (some p120)) (w' := w46) hF rfl rfl (lkb rfl hg117) rfl rfl (by rw [hp_]; exact r_indexAddr hF rfl (lks rfl hb_) rfl Try.runUnderlying87 Try.sizeOf94 h0_ h1_) ?_; clear hF; clear a; intro a hF
      refine RL.gval  hF rfl rfl (lkb rfl hg117) rfl rfl (r_fieldAddr0 hF rfl rfl Try.runUnderlying94 rfl Try.sizeOf3 rfl) ?_; clear hF; clear a; intro a hF
      obtain ⟨t122, hct122, h⟩ := h
      refine RL.gval  hF rfl rfl (lkb rfl hg117) rfl rfl (r_load hF rfl rfl Try.isAgg3 hct122) ?_; clear hF; clear a; intro a hF
      refine RL.gval  hF rfl rfl (lkb rfl hg117) rfl rfl (r_move hF rfl rfl) ?_; clear hF; clear a; intro a hF
      refine RL.gval  hF rfl rfl (lkb rfl hg117) rfl rfl (r_leq hF rfl rfl rfl) ?_; clear hF; clear a; intro a hF
      refine RL.val (v := .bool (decide (t122 ≤ a2))) (w' := w46) hF rfl rfl rfl (r_pick hF rfl rfl rfl rfl (fun _ => rfl) (fun e => absurd (hg117.symm.trans e) (by decide))) ?_; clear hF; clear a; intro a hF
      refine RL.nil ?_
      exact jn114 (decide (t122 ≤ a2)) _ _ (hF.sub rfl) h
    · replace h := hf hg117; clear ht hf
      refine RL.skip hF rfl rfl (lkb rfl hg117) (.inl rfl) rfl rfl ?_; clear hF; clear a; intro a hF
      refine RL.skip hF rfl rfl (lkb rfl hg117) (.inl rfl) rfl rfl ?_; clear hF; clear a; intro a hF
      refine RL.skip hF rfl rfl (lkb rfl hg117) (.inl rfl) rfl rfl ?_; clear hF; clear a; intro a hF
      refine RL.skip hF rfl rfl (lkb rfl hg117) (.inl rfl) rfl rfl ?_; clear hF; clear a; intro a hF
      refine RL.skip hF rfl rfl (lkb rfl hg117) (.inl rfl) rfl rfl ?_; clear hF; clear a; intro a hF
      refine RL.skip hF rfl rfl (lkb rfl hg117) (.inl rfl) rfl rfl ?_; clear hF; clear a; intro a hF
      refine RL.skip hF rfl rfl (lkb rfl hg117) (.inl rfl) rfl rfl ?_; clear hF; clear a; intro a hF
      refine RL.skip hF rfl rfl (lkb rfl hg117) (.inl rfl) rfl rfl ?_; clear hF; clear a; intro a hF
      refine RL.skip hF rfl rfl (lkb rfl hg117) (.inl rfl) rfl rfl ?_; clear hF; clear a; intro a hF
      refine RL.skip hF rfl rfl (lkb rfl hg117) (.inl rfl) rfl rfl ?_; clear hF; clear a; intro a hF
      refine RL.val (v := .bool false) (w' := w46) hF rfl rfl rfl (r_pick hF rfl rfl rfl rfl (fun e => absurd (hg117.symm.trans e) (by decide)) (fun _ => rfl)) ?_; clear hF; clear a; intro a hF
      refine RL.nil ?_
      exact jn114 false _ _ (hF.sub rfl) h
  clear hJ
  refine seq_region fun K123 hK124 => ?_
  refine RL.val  hF rfl rfl rfl (r_move hF rfl rfl) ?_; clear hF; clear a; intro a hF
  refine RL.val  hF rfl rfl rfl (r_move hF rfl rfl) ?_; clear hF; clear a; intro a hF
  refine RL.val  hF rfl rfl rfl (r_move hF rfl rfl) ?_; clear hF; clear a; intro a hF
  refine RL.call hF rfl rfl rfl (r_call (xs := [.pointer a0, .int .i64 a1, .int .i64 a2]) hF rfl rfl Try.call49) (CallsV.mono h ?_)
  clear h; rintro _ w125 ⟨r126, rfl, h⟩; clear hF; clear a; intro a hF
  refine RL.val  hF rfl rfl rfl (r_assign hF rfl rfl) ?_; clear hF; clear a; intro a hF
  refine RL.nil (hK124 _ _ ?_)
  clear hK124 K123
  refine seq_region fun K127 hK128 => ?_
  refine RL.val  hF rfl rfl rfl (r_move hF rfl rfl) ?_; clear hF; clear a; intro a hF
  refine RL.val  hF rfl rfl rfl (r_neq hF rfl rfl rfl) ?_; clear hF; clear a; intro a hF
  refine RL.nil (hK128 _ _ ?_)
  clear hK128 K127
  obtain ⟨ht, hf⟩ := h
  refine cond_ hF rfl (fun hc => ?_) (fun hc => ?_)
  · replace h := ht hc; clear ht hf
    refine seq_region fun K129 hK130 => ?_
    refine RL.val  hF rfl rfl rfl (r_move hF rfl rfl) ?_; clear hF; clear a; intro a hF
    refine RL.val  hF rfl rfl rfl (r_assign hF rfl rfl) ?_; clear hF; clear a; intro a hF
    refine RL.nil (hK130 _ _ ?_)
    clear hK130 K129
    refine wp_ret ?_
    exact ret_of hF (res1 hF rfl rfl) ⟨_, rfl, h⟩
  · replace h := hf hc; clear ht hf
    refine wp_skip ?_
    exact jn8 () _ _ (hF.sub rfl) h

set_option maxRecDepth 20000 in
theorem br8 {a0 : Option Addr} {a1 : Int} {a2 : Int} {w : World} {K : Array Value → Bool → World → Prop} (h : sh8 a0 a1 a2 w K) : C8 a0 a1 a2 w K := by
  unfold sh8 at h
  refine enter (n := 89) (l := [(0, .pointer a0), (1, .int .i64 a1), (2, .int .i64 a2)]) 86 Try.func8 rfl _ rfl rfl rfl fun a hF => ?_
  refine seq_region fun K1 hK2 => ?_
  obtain ⟨p3, w4, hp_, hw_, h⟩ := h
  refine RL.val (v := .pointer (some p3)) (w' := w4) hF rfl rfl rfl (by rw [hp_, hw_]; exact r_alloc rfl Try.zeroValue30 rfl) ?_; clear hF; clear a; intro a hF
  refine RL.val  hF rfl rfl rfl (r_assign hF rfl rfl) ?_; clear hF; clear a; intro a hF
  refine RL.nil (hK2 _ _ ?_)
  clear hK2 K1
  refine seq_k fun K5 hK6 => ?_
  obtain ⟨J, hJ, h⟩ := jn_open h
  have jn10 : ∀ (v7 : Unit) (w8 : World) a, Fr 89 a [(0, .pointer a0), (1, .int .i64 a1), (2, .int .i64 a2), (6, .pointer (some p3))] → J v7 w8 → K5 a w8 := by
    intro v7 w8 a hF h
    replace h := hJ _ _ h
    clear hJ
    refine hK6 _ _ ?_
    refine seq_region fun K11 hK12 => ?_
    refine RL.val  hF rfl rfl rfl (r_move hF rfl rfl) ?_; clear hF; clear a; intro a hF
    refine RL.val  hF rfl rfl rfl (r_move hF rfl rfl) ?_; clear hF; clear a; intro a hF
    refine RL.val  hF rfl rfl rfl (r_move hF rfl rfl) ?_; clear hF; clear a; intro a hF
    refine RL.call hF rfl rfl rfl (r_call (xs := [.pointer a0, .int .i64 a1, .int .i64 a2]) hF rfl rfl Try.call29) (CallsV.mono h ?_)
    clear h; rintro _ w13 ⟨r14, r15, r16, rfl, h⟩; clear hF; clear a; intro a hF
    refine RL.val  hF rfl rfl rfl (r_move hF rfl rfl) ?_; clear hF; clear a; intro a hF
    refine RL.val  hF rfl rfl rfl (r_extract hF rfl rfl rfl) ?_; clear hF; clear a; intro a hF
    refine RL.val  hF rfl rfl rfl (r_extract hF rfl rfl rfl) ?_; clear hF; clear a; intro a hF
    refine RL.val  hF rfl rfl rfl (r_extract hF rfl rfl rfl) ?_; clear hF; clear a; intro a hF
    refine RL.val  hF rfl rfl rfl (r_assign hF rfl rfl) ?_; clear hF; clear a; intro a hF
    refine RL.val  hF rfl rfl rfl (r_assign hF rfl rfl) ?_; clear hF; clear a; intro a hF
    refine RL.val  hF rfl rfl rfl (r_assign hF rfl rfl) ?_; clear hF; clear a; intro a hF
    refine RL.nil (hK12 _ _ ?_)
    clear hK12 K11
    refine seq_k fun K17 hK18 => ?_
    obtain ⟨J, hJ, h⟩ := jn_open h
    have jn22 : ∀ (v19 : Unit) (w20 : World) a, Fr 89 a [(0, .pointer a0), (6, .pointer (some p3)), (8, .int .i64 r14), (9, .int .i64 r15)] → J v19 w20 → K17 a w20 := by
      intro v19 w20 a hF h
      replace h := hJ _ _ h
      clear hJ
      refine hK18 _ _ ?_
      refine seq_draw 3407872 #[0, 0, 2, 6, 14, 0, 0, 64, 192, 448, 992, 0, 0, 4096, 12288, 28672, 63488, 131070, 262142, 524287, 0, 2097151] 22 mo rfl (by kernel_rfl) (by kernel_rfl) fun hS K23 hK24 => ?_
      obtain ⟨w25, hw, h⟩ := h; rw [← hw]; clear hw
      obtain ⟨J28, hJ, h⟩ := jn_open h
      have jn29 : ∀ (v26 : Option Addr) (w27 : World) a, Fr 89 a [(0, .pointer a0), (6, .pointer (some p3)), (8, .int .i64 r14), (9, .int .i64 r15), (11, .pointer v26)] → J28 v26 w27 → K23 a w27 := by
        clear hF
        intro v26 w27 a hF h; replace h := hJ _ _ h; refine hK24 _ _ ?_; clear hJ hK24 K23
        refine seq_k fun K30 hK31 => ?_
        obtain ⟨J, hJ, h⟩ := jn_open h
        have jn35 : ∀ (v32 : Unit) (w33 : World) a, Fr 89 a [(0, .pointer a0), (6, .pointer (some p3)), (9, .int .i64 r15), (11, .pointer v26)] → J v32 w33 → K30 a w33 := by
          intro v32 w33 a hF h
          replace h := hJ _ _ h
          clear hJ
          refine hK31 _ _ ?_
          refine seq_k fun K36 hK37 => ?_
          obtain ⟨J, hJ, h⟩ := jn_open h
          have jn41 : ∀ (v38 : Unit) (w39 : World) a, Fr 89 a [(0, .pointer a0), (6, .pointer (some p3)), (9, .int .i64 r15), (11, .pointer v26)] → J v38 w39 → K36 a w39 := by
            intro v38 w39 a hF h
            replace h := hJ _ _ h
            clear hJ
            refine hK37 _ _ ?_
            refine seq_region fun K42 hK43 => ?_
            refine RL.val  hF rfl rfl rfl (r_move hF rfl rfl) ?_; clear hF; clear a; intro a hF
            refine RL.val  hF rfl rfl rfl (r_move hF rfl rfl) ?_; clear hF; clear a; intro a hF
            obtain ⟨p44, hpp44, h⟩ := h
            refine RL.val  hF rfl rfl rfl (r_nilCheck hF rfl (lkp rfl hpp44)) ?_; clear hF; clear a; intro a hF
            refine RL.val  hF rfl rfl rfl (r_fieldAddr hF rfl rfl Try.runUnderlying70 rfl Try.sizeOf3 rfl) ?_; clear hF; clear a; intro a hF
            obtain ⟨t45, hct45, h⟩ := h
            refine RL.val  hF rfl rfl rfl (r_load hF rfl rfl Try.isAgg3 hct45) ?_; clear hF; clear a; intro a hF
            refine RL.val  hF rfl rfl rfl (r_move hF rfl rfl) ?_; clear hF; clear a; intro a hF
            refine RL.val  hF rfl rfl rfl (r_max hF rfl rfl rfl) ?_; clear hF; clear a; intro a hF
            obtain ⟨p46, hpp46, h⟩ := h
            refine RL.val  hF rfl rfl rfl (r_nilCheck hF rfl (lkp rfl hpp46)) ?_; clear hF; clear a; intro a hF
            refine RL.val  hF rfl rfl rfl (r_fieldAddr hF rfl rfl Try.runUnderlying70 rfl Try.sizeOf3 rfl) ?_; clear hF; clear a; intro a hF
            obtain ⟨u_, w47, hs1_, hs2_, hs3_, h⟩ := h
            refine RL.unit (w' := w47) hF rfl rfl (by rw [hs3_]; exact r_store hF rfl rfl rfl rfl Try.sizeOf3 hs1_ hs2_) ?_; clear hF; clear a; intro a hF
            refine RL.nil (hK43 _ _ ?_)
            clear hK43 K42
            refine seq_region fun K48 hK49 => ?_
            obtain ⟨p51, hpp51, h⟩ := h
            obtain ⟨t50, hct50, h⟩ := h
            refine RL.val  hF rfl rfl rfl (r_loadA hF rfl (lkp rfl hpp51) Try.isAgg30 Try.sizeOf30 hct50) ?_; clear hF; clear a; intro a hF
            obtain ⟨w52, hs1_, hs2_, hs3_, hs4_, h⟩ := h
            refine RL.unit (w' := w52) hF rfl rfl (by rw [hs4_]; exact r_storeA hF rfl rfl rfl Try.sizeOf30 hs1_ hs2_ hs3_) ?_; clear hF; clear a; intro a hF
            refine RL.val  hF rfl rfl rfl (r_assign hF rfl rfl) ?_; clear hF; clear a; intro a hF
            refine RL.nil (hK49 _ _ ?_)
            clear hK49 K48
            refine wp_ret ?_
            obtain ⟨t53, hct53, h⟩ := h
            exact ret_of hF (res2 hF rfl ⟨_, rfl, ldAg Try.isAgg30 Try.sizeOf30 hct53⟩ rfl) ⟨_, _, rfl, h⟩
          clear hJ
          refine seq_region fun K54 hK55 => ?_
          obtain ⟨J58, hJ, h⟩ := jn_open h
          have jn59 : ∀ (v56 : Bool) (w57 : World) a, Fr 89 a [(0, .pointer a0), (6, .pointer (some p3)), (9, .int .i64 r15), (11, .pointer v26), (74, .bool v56)] → J58 v56 w57 → K54 a w57 := by
            clear hF
            intro v56 w57 a hF h; replace h := hJ _ _ h; refine hK55 _ _ ?_; clear hJ hK55 K54
            obtain ⟨ht, hf⟩ := h
            refine cond_ hF rfl (fun hc => ?_) (fun hc => ?_)
            · replace h := ht hc; clear ht hf
              refine end_region fun K60 hK61 => ?_
              refine RL.val  hF rfl rfl rfl (r_move hF rfl rfl) ?_; clear hF; clear a; intro a hF
              obtain ⟨p62, hpp62, h⟩ := h
              refine RL.val  hF rfl rfl rfl (r_fieldAddr hF rfl (lkp rfl hpp62) Try.runUnderlying30 rfl Try.sizeOf4 rfl) ?_; clear hF; clear a; intro a hF
              obtain ⟨u_, w63, hs1_, hs2_, hs3_, h⟩ := h
              refine RL.unit (w' := w63) hF rfl rfl (by rw [hs3_]; exact r_store hF rfl rfl rfl rfl Try.sizeOf4 hs1_ hs2_) ?_; clear hF; clear a; intro a hF
              obtain ⟨p64, hpp64, h⟩ := h
              refine RL.val  hF rfl rfl rfl (r_nilCheck hF rfl (lkp rfl hpp64)) ?_; clear hF; clear a; intro a hF
              refine RL.val  hF rfl rfl rfl (r_fieldAddr hF rfl rfl Try.runUnderlying70 rfl Try.sizeOf3 rfl) ?_; clear hF; clear a; intro a hF
              obtain ⟨u_, w65, hs1_, hs2_, hs3_, h⟩ := h
              refine RL.unit (w' := w65) hF rfl rfl (by rw [hs3_]; exact r_store hF rfl rfl rfl rfl Try.sizeOf3 hs1_ hs2_) ?_; clear hF; clear a; intro a hF
              refine RL.nil (hK61 _ _ ?_)
              clear hK61 K60
              exact jn41 () _ _ (hF.sub rfl) h
            · replace h := hf hc; clear ht hf
              refine wp_skip ?_
              exact jn41 () _ _ (hF.sub rfl) h
          clear hJ hK55
          refine RL.val  hF rfl rfl rfl (r_move hF rfl rfl) ?_; clear hF; clear a; intro a hF
          refine RL.val  hF rfl rfl rfl (r_move hF rfl rfl) ?_; clear hF; clear a; intro a hF
          refine RL.call hF rfl rfl rfl (r_call (xs := [.pointer a0]) hF rfl rfl Try.call32) (CallsV.mono h ?_)
          clear h; rintro _ w66 ⟨r67, rfl, h⟩; clear hF; clear a; intro a hF
          refine RL.val  hF rfl rfl rfl (r_eql hF rfl rfl rfl) ?_; clear hF; clear a; intro a hF
          refine RL.val  hF rfl rfl rfl (r_move hF rfl rfl) ?_; clear hF; clear a; intro a hF
          obtain ⟨ht, hf⟩ := h
          rcases bool_cases (r15 == r67) with hg68 | hg68
          · replace h := ht hg68; clear ht hf
            refine RL.gval  hF rfl rfl (lkb rfl hg68) rfl rfl (r_move hF rfl rfl) ?_; clear hF; clear a; intro a hF
            obtain ⟨p69, hpp69, h⟩ := h
            refine RL.gval  hF rfl rfl (lkb rfl hg68) rfl rfl (r_nilCheck hF rfl (lkp rfl hpp69)) ?_; clear hF; clear a; intro a hF
            refine RL.gval  hF rfl rfl (lkb rfl hg68) rfl rfl (r_fieldAddr hF rfl rfl Try.runUnderlying70 rfl Try.sizeOf3 rfl) ?_; clear hF; clear a; intro a hF
            obtain ⟨t70, hct70, h⟩ := h
            refine RL.gval  hF rfl rfl (lkb rfl hg68) rfl rfl (r_load hF rfl rfl Try.isAgg3 hct70) ?_; clear hF; clear a; intro a hF
            refine RL.gval  hF rfl rfl (lkb rfl hg68) rfl rfl (r_eql hF rfl rfl rfl) ?_; clear hF; clear a; intro a hF
            refine RL.gval  hF rfl rfl (lkb rfl hg68) rfl rfl (r_move hF rfl rfl) ?_; clear hF; clear a; intro a hF
            obtain ⟨ht, hf⟩ := h
            rcases bool_cases (t70 == 1) with hg71 | hg71
            · replace h := ht hg71; clear ht hf
              refine RL.skip hF rfl rfl (lkb rfl hg71) (.inl rfl) rfl rfl ?_; clear hF; clear a; intro a hF
              refine RL.skip hF rfl rfl (lkb rfl hg71) (.inl rfl) rfl rfl ?_; clear hF; clear a; intro a hF
              refine RL.skip hF rfl rfl (lkb rfl hg71) (.inl rfl) rfl rfl ?_; clear hF; clear a; intro a hF
              refine RL.skip hF rfl rfl (lkb rfl hg71) (.inl rfl) rfl rfl ?_; clear hF; clear a; intro a hF
              refine RL.skip hF rfl rfl (lkb rfl hg71) (.inl rfl) rfl rfl ?_; clear hF; clear a; intro a hF
              refine RL.gval (v := .bool true) (w' := w66) hF rfl rfl (lkb rfl hg68) rfl rfl (r_pick hF rfl rfl rfl rfl (fun _ => rfl) (fun e => absurd (hg71.symm.trans e) (by decide))) ?_; clear hF; clear a; intro a hF
              refine RL.val (v := .bool true) (w' := w66) hF rfl rfl rfl (r_pick hF rfl rfl rfl rfl (fun _ => rfl) (fun e => absurd (hg68.symm.trans e) (by decide))) ?_; clear hF; clear a; intro a hF
              refine RL.nil ?_
              exact jn59 true _ _ (hF.sub rfl) h
            · replace h := hf hg71; clear ht hf
              refine RL.gval  hF rfl rfl (lkb rfl hg71) rfl rfl (r_move hF rfl rfl) ?_; clear hF; clear a; intro a hF
              obtain ⟨p72, hpp72, h⟩ := h
              refine RL.gval  hF rfl rfl (lkb rfl hg71) rfl rfl (r_nilCheck hF rfl (lkp rfl hpp72)) ?_; clear hF; clear a; intro a hF
              refine RL.gval  hF rfl rfl (lkb rfl hg71) rfl rfl (r_fieldAddr hF rfl rfl Try.runUnderlying70 rfl Try.sizeOf3 rfl) ?_; clear hF; clear a; intro a hF
              obtain ⟨t73, hct73, h⟩ := h
              refine RL.gval  hF rfl rfl (lkb rfl hg71) rfl rfl (r_load hF rfl rfl Try.isAgg3 hct73) ?_; clear hF; clear a; intro a hF
              refine RL.gval  hF rfl rfl (lkb rfl hg71) rfl rfl (r_eql hF rfl rfl rfl) ?_; clear hF; clear a; intro a hF
              refine RL.gval (v := .bool (t73 == 3)) (w' := w66) hF rfl rfl (lkb rfl hg68) rfl rfl (r_pick hF rfl rfl rfl rfl (fun e => absurd (hg71.symm.trans e) (by decide)) (fun _ => rfl)) ?_; clear hF; clear a; intro a hF
              refine RL.val (v := .bool (t73 == 3)) (w' := w66) hF rfl rfl rfl (r_pick hF rfl rfl rfl rfl (fun _ => rfl) (fun e => absurd (hg68.symm.trans e) (by decide))) ?_; clear hF; clear a; intro a hF
              refine RL.nil ?_
              exact jn59 (t73 == 3) _ _ (hF.sub rfl) h
          · replace h := hf hg68; clear ht hf
            refine RL.skip hF rfl rfl (lkb rfl hg68) (.inl rfl) rfl rfl ?_; clear hF; clear a; intro a hF
            refine RL.skip hF rfl rfl (lkb rfl hg68) (.inl rfl) rfl rfl ?_; clear hF; clear a; intro a hF
            refine RL.skip hF rfl rfl (lkb rfl hg68) (.inl rfl) rfl rfl ?_; clear hF; clear a; intro a hF
            refine RL.skip hF rfl rfl (lkb rfl hg68) (.inl rfl) rfl rfl ?_; clear hF; clear a; intro a hF
            refine RL.skip hF rfl rfl (lkb rfl hg68) (.inl rfl) rfl rfl ?_; clear hF; clear a; intro a hF
            refine RL.skip hF rfl rfl (lkb rfl hg68) (.inl rfl) rfl rfl ?_; clear hF; clear a; intro a hF
            refine RL.skip hF rfl rfl rfl (.inr rfl) rfl rfl ?_; clear hF; clear a; intro a hF
            refine RL.skip hF rfl rfl rfl (.inr rfl) rfl rfl ?_; clear hF; clear a; intro a hF
            refine RL.skip hF rfl rfl rfl (.inr rfl) rfl rfl ?_; clear hF; clear a; intro a hF
            refine RL.skip hF rfl rfl rfl (.inr rfl) rfl rfl ?_; clear hF; clear a; intro a hF
            refine RL.skip hF rfl rfl rfl (.inr rfl) rfl rfl ?_; clear hF; clear a; intro a hF
            refine RL.skip hF rfl rfl (lkb rfl hg68) (.inl rfl) rfl rfl ?_; clear hF; clear a; intro a hF
            refine RL.val (v := .bool false) (w' := w66) hF rfl rfl rfl (r_pick hF rfl rfl rfl rfl (fun e => absurd (hg68.symm.trans e) (by decide)) (fun _ => rfl)) ?_; clear hF; clear a; intro a hF
            refine RL.nil ?_
            exact jn59 false _ _ (hF.sub rfl) h
        clear hJ
        refine seq_region fun K74 hK75 => ?_
        refine RL.val  hF rfl rfl rfl (r_move hF rfl rfl) ?_; clear hF; clear a; intro a hF
        refine RL.val  hF rfl rfl rfl (r_move hF rfl rfl) ?_; clear hF; clear a; intro a hF
        refine RL.val  hF rfl rfl rfl (r_gtr hF rfl rfl rfl) ?_; clear hF; clear a; intro a hF
        refine RL.nil (hK75 _ _ ?_)
        clear hK75 K74
        obtain ⟨ht, hf⟩ := h
        refine cond_ hF rfl (fun hc => ?_) (fun hc => ?_)
        · replace h := ht hc; clear ht hf
          refine end_region fun K76 hK77 => ?_
          refine RL.val  hF rfl rfl rfl (r_move hF rfl rfl) ?_; clear hF; clear a; intro a hF
          obtain ⟨p78, hpp78, h⟩ := h
          refine RL.val  hF rfl rfl rfl (r_nilCheck hF rfl (lkp rfl hpp78)) ?_; clear hF; clear a; intro a hF
          refine RL.val  hF rfl rfl rfl (r_fieldAddr hF rfl rfl Try.runUnderlying70 rfl Try.sizeOf67 rfl) ?_; clear hF; clear a; intro a hF
          obtain ⟨t79, hct79, h⟩ := h
          refine RL.val  hF rfl rfl rfl (r_load hF rfl rfl Try.isAgg67 hct79) ?_; clear hF; clear a; intro a hF
          refine RL.val  hF rfl rfl rfl (r_move hF rfl rfl) ?_; clear hF; clear a; intro a hF
          refine RL.val  hF rfl rfl rfl (r_move hF rfl rfl) ?_; clear hF; clear a; intro a hF
          refine RL.val  hF rfl rfl rfl (r_sub hF rfl rfl rfl) ?_; clear hF; clear a; intro a hF
          refine RL.call hF rfl rfl rfl (r_call (xs := [.pointer t79, .int .i64 r14, .int .i64 (IntKind.i64.wrap (r15 - 1))]) hF rfl rfl Try.call31) (CallsV.mono h ?_)
          clear h; rintro _ w80 ⟨r81, rfl, h⟩; clear hF; clear a; intro a hF
          refine RL.nil (hK77 _ _ ?_)
          clear hK77 K76
          exact jn35 () _ _ (hF.sub rfl) h
        · replace h := hf hc; clear ht hf
          refine wp_skip ?_
          exact jn35 () _ _ (hF.sub rfl) h
      clear hJ hK24
      refine GL.val (v := .int .i64 r14) (i := 0) hF hS rfl rfl (by kernel_rfl) rfl rfl rfl rfl (fun x => r_move hF rfl rfl) ?_; clear hF; clear a; intro a hF
      refine GL.val (v := .pointer a0) (i := 1) hF hS rfl rfl (by kernel_rfl) rfl rfl rfl rfl (fun x => r_move hF rfl rfl) ?_; clear hF; clear a; intro a hF
      obtain ⟨p82, hpp82, h⟩ := h
      refine GL.val (v := .pointer (some p82)) (i := 2) hF hS rfl rfl (by kernel_rfl) rfl rfl rfl rfl (fun x => r_nilCheck hF rfl (lkp rfl hpp82)) ?_; clear hF; clear a; intro a hF
      refine GL.val (v := .pointer (some (p82.add 2))) (i := 3) hF hS rfl rfl (by kernel_rfl) rfl rfl rfl rfl (fun x => r_fieldAddr hF rfl rfl Try.runUnderlying70 rfl Try.sizeOf22 rfl) ?_; clear hF; clear a; intro a hF
      obtain ⟨t83, hct83, h⟩ := h
      refine GL.read (v := t83.v) (i := 4) hF (fun x => World.cell? x (p82.add 2) = some (t83.v)) hS rfl rfl (by kernel_rfl) rfl rfl rfl rfl hct83 (fun x hx => r_load hF rfl rfl Try.isAgg22 hx) ?_; clear hF; clear a; intro a hF
      refine GL.val (v := .int .i64 r14) (i := 5) hF hS rfl rfl (by kernel_rfl) rfl rfl rfl rfl (fun x => r_move hF rfl rfl) ?_; clear hF; clear a; intro a hF
      refine GL.val (v := .pointer a0) (i := 6) hF hS rfl rfl (by kernel_rfl) rfl rfl rfl rfl (fun x => r_move hF rfl rfl) ?_; clear hF; clear a; intro a hF
      obtain ⟨p84, hpp84, h⟩ := h
      refine GL.val (v := .pointer (some p84)) (i := 7) hF hS rfl rfl (by kernel_rfl) rfl rfl rfl rfl (fun x => r_nilCheck hF rfl (lkp rfl hpp84)) ?_; clear hF; clear a; intro a hF
      refine GL.val (v := .pointer (some (p84.add 1))) (i := 8) hF hS rfl rfl (by kernel_rfl) rfl rfl rfl rfl (fun x => r_fieldAddr hF rfl rfl Try.runUnderlying70 rfl Try.sizeOf3 rfl) ?_; clear hF; clear a; intro a hF
      obtain ⟨t85, hct85, h⟩ := h
      refine GL.read (v := .int .i64 t85) (i := 9) hF (fun x => World.cell? x (p84.add 1) = some (.int .i64 t85)) hS rfl rfl (by kernel_rfl) rfl rfl rfl rfl hct85 (fun x hx => r_load hF rfl rfl Try.isAgg3 hx) ?_; clear hF; clear a; intro a hF
      refine GL.val (v := .int .i64 (IntKind.i64.wrap (r14 - t85))) (i := 10) hF hS rfl rfl (by kernel_rfl) rfl rfl rfl rfl (fun x => r_sub hF rfl rfl rfl) ?_; clear hF; clear a; intro a hF
      refine GL.val (v := .int .i64 r15) (i := 11) hF hS rfl rfl (by kernel_rfl) rfl rfl rfl rfl (fun x => r_move hF rfl rfl) ?_; clear hF; clear a; intro a hF
      refine GL.val (v := .pointer a0) (i := 12) hF hS rfl rfl (by kernel_rfl) rfl rfl rfl rfl (fun x => r_move hF rfl rfl) ?_; clear hF; clear a; intro a hF
      obtain ⟨p86, hpp86, h⟩ := h
      refine GL.val (v := .pointer (some p86)) (i := 13) hF hS rfl rfl (by kernel_rfl) rfl rfl rfl rfl (fun x => r_nilCheck hF rfl (lkp rfl hpp86)) ?_; clear hF; clear a; intro a hF
      refine GL.val (v := .pointer (some (p86.add 1))) (i := 14) hF hS rfl rfl (by kernel_rfl) rfl rfl rfl rfl (fun x => r_fieldAddr hF rfl rfl Try.runUnderlying70 rfl Try.sizeOf3 rfl) ?_; clear hF; clear a; intro a hF
      obtain ⟨t87, hct87, h⟩ := h
      refine GL.read (v := .int .i64 t87) (i := 15) hF (fun x => World.cell? x (p86.add 1) = some (.int .i64 t87)) hS rfl rfl (by kernel_rfl) rfl rfl rfl rfl hct87 (fun x hx => r_load hF rfl rfl Try.isAgg3 hx) ?_; clear hF; clear a; intro a hF
      refine GL.val (v := .int .i64 (IntKind.i64.wrap (r15 - t87))) (i := 16) hF hS rfl rfl (by kernel_rfl) rfl rfl rfl rfl (fun x => r_sub hF rfl rfl rfl) ?_; clear hF; clear a; intro a hF
      obtain ⟨hs88, hs89, hs90, h⟩ := h
      refine GL.val (v := (t83.sub 1 ((IntKind.i64.wrap (r14 - t85)).toNat) ((IntKind.i64.wrap (r15 - t87)).toNat) t83.cap).v) (i := 17) hF hS rfl rfl (by kernel_rfl) rfl rfl rfl rfl (fun x => r_slice (lo' := some (.int .i64 (IntKind.i64.wrap (r14 - t85)))) (hi' := some (.int .i64 (IntKind.i64.wrap (r15 - t87)))) (mx' := none) hF rfl rfl rfl rfl rfl (slc_at Try.runUnderlying22 Try.sizeOf5 (bounds11 hs88 hs89 hs90))) ?_; clear hF; clear a; intro a hF
      obtain ⟨hb91, hb92⟩ := h
      refine GL.act2 (i1 := 18) (pend1 := []) (i2 := 20) (pend2 := [(15, fun x => World.cell? x (p86.add 1) = some (.int .i64 t87)), (9, fun x => World.cell? x (p84.add 1) = some (.int .i64 t85)), (4, fun x => World.cell? x (p82.add 2) = some (t83.v))]) hS (by kernel_rfl) rfl rfl (by kernel_rfl) (by kernel_rfl) ?_ ?_
      · replace h := hb91; clear hb92
        refine op_call hF rfl rfl rfl rfl (r_call (xs := [(t83.sub 1 ((IntKind.i64.wrap (r14 - t85)).toNat) ((IntKind.i64.wrap (r15 - t87)).toNat) t83.cap).v]) hF rfl rfl Try.call30) (CallsV.mono h ?_)
        clear h; rintro _ w93 ⟨r94, rfl, h⟩
        refine ⟨trivial, ?_⟩; clear hF; clear a; intro a hF
        refine GL.val (v := .agg (#[.int .i64 r14, r94.v, .bool false])) (i := 19) hF hS rfl rfl (by kernel_rfl) rfl rfl rfl rfl (fun x => r_build (xs := [(0, .int .i64 r14), (1, r94.v)]) hF rfl rfl (by kernel_rfl)) ?_; clear hF; clear a; intro a hF
        refine GL.act (i := 20) (pend' := []) hS (by kernel_rfl) rfl (by kernel_rfl) ?_
        obtain ⟨p95, w96, hp_, hw_, h⟩ := h
        refine op_val (v := .pointer (some p95)) (w' := w96) hF rfl rfl rfl rfl (by rw [hp_, hw_]; exact r_alloc rfl Try.zeroValue30 rfl) trivial ?_; clear hF; clear a; intro a hF
        refine GL.act (i := 21) (pend' := []) hS (by kernel_rfl) rfl (by kernel_rfl) ?_
        obtain ⟨w97, hs1_, hs2_, hs3_, hs4_, h⟩ := h
        refine op_unit (w' := w97) hF rfl rfl rfl (by rw [hs4_]; exact r_storeA hF rfl rfl rfl Try.sizeOf30 hs1_ hs2_ hs3_) trivial ?_; clear hF; clear a; intro a hF
        refine GL.done (by kernel_rfl) ?_
        exact jn29 (some p95) _ _ (hF.sub rfl) h
      · replace h := hb92; clear hb91
        obtain ⟨p98, w99, hp_, hw_, h⟩ := h
        obtain ⟨hk100, hk101, hk102, h⟩ := h
        refine op_val (v := .pointer (some p98)) (w' := w99) hF rfl rfl rfl rfl (by rw [hp_, hw_]; exact r_alloc rfl Try.zeroValue30 rfl) ⟨hk100, hk101, hk102, trivial⟩ ?_; clear hF; clear a; intro a hF
        refine GL.act (i := 18) (pend' := []) hS (by kernel_rfl) rfl (by kernel_rfl) ?_
        refine op_call hF rfl rfl rfl rfl (r_call (xs := [(t83.sub 1 ((IntKind.i64.wrap (r14 - t85)).toNat) ((IntKind.i64.wrap (r15 - t87)).toNat) t83.cap).v]) hF rfl rfl Try.call30) (CallsV.mono h ?_)
        clear h; rintro _ w103 ⟨r104, rfl, h⟩
        refine ⟨trivial, ?_⟩; clear hF; clear a; intro a hF
        refine GL.val (v := .agg (#[.int .i64 r14, r104.v, .bool false])) (i := 19) hF hS rfl rfl (by kernel_rfl) rfl rfl rfl rfl (fun x => r_build (xs := [(0, .int .i64 r14), (1, r104.v)]) hF rfl rfl (by kernel_rfl)) ?_; clear hF; clear a; intro a hF
        refine GL.act (i := 21) (pend' := []) hS (by kernel_rfl) rfl (by kernel_rfl) ?_
        obtain ⟨w105, hs1_, hs2_, hs3_, hs4_, h⟩ := h
        refine op_unit (w' := w105) hF rfl rfl rfl (by rw [hs4_]; exact r_storeA hF rfl rfl rfl Try.sizeOf30 hs1_ hs2_ hs3_) trivial ?_; clear hF; clear a; intro a hF
        refine GL.done (by kernel_rfl) ?_
        exact jn29 (some p98) _ _ (hF.sub rfl) h
    clear hJ
    refine seq_region fun K106 hK107 => ?_
    refine RL.val  hF rfl rfl rfl (r_move hF rfl rfl) ?_; clear hF; clear a; intro a hF
    refine RL.val  hF rfl rfl rfl (r_not hF rfl rfl) ?_; clear hF; clear a; intro a hF
    refine RL.nil (hK107 _ _ ?_)
    clear hK107 K106
    obtain ⟨ht, hf⟩ := h
    refine cond_ hF rfl (fun hc => ?_) (fun hc => ?_)
    · replace h := ht hc; clear ht hf
      refine seq_region fun K108 hK109 => ?_
      refine RL.val (v := .agg (#[.int .i64 0, Slc.nil.v, .bool false])) (w' := w13) hF rfl rfl rfl (r_build (xs := []) hF rfl rfl (by kernel_rfl)) ?_; clear hF; clear a; intro a hF
      obtain ⟨w110, hs1_, hs2_, hs3_, hs4_, h⟩ := h
      refine RL.unit (w' := w110) hF rfl rfl (by rw [hs4_]; exact r_storeA hF rfl rfl rfl Try.sizeOf30 hs1_ hs2_ hs3_) ?_; clear hF; clear a; intro a hF
      refine RL.val  hF rfl rfl rfl (r_assign hF rfl rfl) ?_; clear hF; clear a; intro a hF
      refine RL.nil (hK109 _ _ ?_)
      clear hK109 K108
      refine wp_ret ?_
      obtain ⟨t111, hct111, h⟩ := h
      exact ret_of hF (res2 hF rfl ⟨_, rfl, ldAg Try.isAgg30 Try.sizeOf30 hct111⟩ rfl) ⟨_, _, rfl, h⟩
    · replace h := hf hc; clear ht hf
      refine wp_skip ?_
      exact jn22 () _ _ (hF.sub rfl) h
  clear hJ
  refine seq_region fun K112 hK113 => ?_
  refine RL.val  hF rfl rfl rfl (r_move hF rfl rfl) ?_; clear hF; clear a; intro a hF
  refine RL.call hF rfl rfl rfl (r_call (xs := [.pointer a0]) hF rfl rfl Try.call28) (CallsV.mono h ?_)
  clear h; rintro _ w114 ⟨r115, rfl, h⟩; clear hF; clear a; intro a hF
  refine RL.nil (hK113 _ _ ?_)
  clear hK113 K112
  obtain ⟨ht, hf⟩ := h
  refine cond_ hF rfl (fun hc => ?_) (fun hc => ?_)
  · replace h := ht hc; clear ht hf
    refine seq_region fun K116 hK117 => ?_
    refine RL.val (v := .agg (#[.int .i64 0, Slc.nil.v, .bool false])) (w' := w114) hF rfl rfl rfl (r_build (xs := []) hF rfl rfl (by kernel_rfl)) ?_; clear hF; clear a; intro a hF
    obtain ⟨w118, hs1_, hs2_, hs3_, hs4_, h⟩ := h
    refine RL.unit (w' := w118) hF rfl rfl (by rw [hs4_]; exact r_storeA hF rfl rfl rfl Try.sizeOf30 hs1_ hs2_ hs3_) ?_; clear hF; clear a; intro a hF
    refine RL.val  hF rfl rfl rfl (r_assign hF rfl rfl) ?_; clear hF; clear a; intro a hF
    refine RL.nil (hK117 _ _ ?_)
    clear hK117 K116
    refine wp_ret ?_
    obtain ⟨t119, hct119, h⟩ := h
    exact ret_of hF (res2 hF rfl ⟨_, rfl, ldAg Try.isAgg30 Try.sizeOf30 hct119⟩ rfl) ⟨_, _, rfl, h⟩
  · replace h := hf hc; clear ht hf
    refine wp_skip ?_
    exact jn10 () _ _ (hF.sub rfl) h

set_option maxRecDepth 20000 in
theorem br42 {a0 : Option Addr} {w : World} {K : Bool → World → Prop} (h : sh42 a0 w K) : C42 a0 w K := by
  unfold sh42 at h
  refine enter (n := 12) (l := [(0, .pointer a0)]) 11 Try.func42 rfl _ rfl rfl rfl fun a hF => ?_
  refine seq_region fun K1 hK2 => ?_
  refine RL.val  hF rfl rfl rfl (r_assign hF rfl rfl) ?_; clear hF; clear a; intro a hF
  refine RL.nil (hK2 _ _ ?_)
  clear hK2 K1
  refine seq_region fun K3 hK4 => ?_
  obtain ⟨J7, hJ, h⟩ := jn_open h
  have jn8 : ∀ (v5 : Bool) (w6 : World) a, Fr 12 a [(2, .bool v5)] → J7 v5 w6 → K3 a w6 := by
    clear hF
    intro v5 w6 a hF h; replace h := hJ _ _ h; refine hK4 _ _ ?_; clear hJ hK4 K3
    refine wp_ret ?_
    exact ret_of hF (res1 hF rfl rfl) ⟨_, rfl, h⟩
  clear hJ hK4
  refine RL.val  hF rfl rfl rfl (r_move hF rfl rfl) ?_; clear hF; clear a; intro a hF
  refine RL.val  hF rfl rfl rfl (r_ptrnil hF rfl rfl rfl Try.runUnderlying58) ?_; clear hF; clear a; intro a hF
  refine RL.val  hF rfl rfl rfl (r_move hF rfl rfl) ?_; clear hF; clear a; intro a hF
  obtain ⟨ht, hf⟩ := h
  rcases bool_cases a0.isNone with hg9 | hg9
  · replace h := ht hg9; clear ht hf
    refine RL.skip hF rfl rfl (lkb rfl hg9) (.inl rfl) rfl rfl ?_; clear hF; clear a; intro a hF
    refine RL.skip hF rfl rfl (lkb rfl hg9) (.inl rfl) rfl rfl ?_; clear hF; clear a; intro a hF
    refine RL.skip hF rfl rfl (lkb rfl hg9) (.inl rfl) rfl rfl ?_; clear hF; clear a; intro a hF
    refine RL.skip hF rfl rfl (lkb rfl hg9) (.inl rfl) rfl rfl ?_; clear hF; clear a; intro a hF
    refine RL.skip hF rfl rfl (lkb rfl hg9) (.inl rfl) rfl rfl ?_; clear hF; clear a; intro a hF
    refine RL.val (v := .bool true) (w' := w) hF rfl rfl rfl (r_pick hF rfl rfl rfl rfl (fun _ => rfl) (fun e => absurd (hg9.symm.trans e) (by decide))) ?_; clear hF; clear a; intro a hF
    refine RL.val  hF rfl rfl rfl (r_assign hF rfl rfl) ?_; clear hF; clear a; intro a hF
    refine RL.nil ?_
    exact jn8 true _ _ (hF.sub rfl) h
  · replace h := hf hg9; clear ht hf
    refine RL.gval  hF rfl rfl (lkb rfl hg9) rfl rfl (r_move hF rfl rfl) ?_; clear hF; clear a; intro a hF
    obtain ⟨p10, hpp10, h⟩ := h
    refine RL.gval  hF rfl rfl (lkb rfl hg9) rfl rfl (r_nilCheck hF rfl (lkp rfl hpp10)) ?_; clear hF; clear a; intro a hF
    refine RL.gval  hF rfl rfl (lkb rfl hg9) rfl rfl (r_fieldAddr0 hF rfl rfl Try.runUnderlying83 rfl Try.sizeOf4 rfl) ?_; clear hF; clear a; intro a hF
    obtain ⟨t11, hct11, h⟩ := h
    refine RL.gval  hF rfl rfl (lkb rfl hg9) rfl rfl (r_load hF rfl rfl Try.isAgg4 hct11) ?_; clear hF; clear a; intro a hF
    refine RL.gval  hF rfl rfl (lkb rfl hg9) rfl rfl (r_not hF rfl rfl) ?_; clear hF; clear a; intro a hF
    refine RL.val (v := .bool (!t11)) (w' := w) hF rfl rfl rfl (r_pick hF rfl rfl rfl rfl (fun e => absurd (hg9.symm.trans e) (by decide)) (fun _ => rfl)) ?_; clear hF; clear a; intro a hF
    refine RL.val  hF rfl rfl rfl (r_assign hF rfl rfl) ?_; clear hF; clear a; intro a hF
    refine RL.nil ?_
    exact jn8 (!t11) _ _ (hF.sub rfl) h

set_option maxRecDepth 20000 in
theorem br43 {a0 : Option Addr} {a1 : Int} {a2 : Bool} {w : World} {K : Int → World → Prop} (h : sh43 a0 a1 a2 w K) : C43 a0 a1 a2 w K := by
  unfold sh43 at h
  refine enter (n := 49) (l := [(0, .pointer a0), (1, .int .i64 a1), (2, .bool a2)]) 46 Try.func43 rfl _ rfl rfl rfl fun a hF => ?_
  refine seq_region fun K1 hK2 => ?_
  refine RL.val  hF rfl rfl rfl (r_assign hF rfl rfl) ?_; clear hF; clear a; intro a hF
  refine RL.nil (hK2 _ _ ?_)
  clear hK2 K1
  refine seq_k fun K3 hK4 => ?_
  obtain ⟨J, hJ, h⟩ := jn_open h
  have jn8 : ∀ (v5 : Unit) (w6 : World) a, Fr 49 a [] → J v5 w6 → K3 a w6 := by
    intro v5 w6 a hF h
    replace h := hJ _ _ h
    clear hJ
    refine hK4 _ _ ?_
    refine seq_region fun K9 hK10 => ?_
    refine RL.val  hF rfl rfl rfl (r_assign hF rfl rfl) ?_; clear hF; clear a; intro a hF
    refine RL.nil (hK10 _ _ ?_)
    clear hK10 K9
    refine wp_ret ?_
    exact ret_of hF (res1 hF rfl rfl) ⟨_, rfl, h⟩
  clear hJ
  refine wp_block ?_
  refine seq_region fun K11 hK12 => ?_
  obtain ⟨J15, hJ, h⟩ := jn_open h
  have jn16 : ∀ (v13 : Bool) (w14 : World) a, Fr 49 a [(0, .pointer a0), (1, .int .i64 a1), (7, .bool v13)] → J15 v13 w14 → K11 a w14 := by
    clear hF
    intro v13 w14 a hF h; replace h := hJ _ _ h; refine hK12 _ _ ?_; clear hJ hK12 K11
    obtain ⟨ht, hf⟩ := h
    refine cond_ hF rfl (fun hc => ?_) (fun hc => ?_)
    · replace h := ht hc; clear ht hf
      refine seq_region fun K17 hK18 => ?_
      refine RL.val  hF rfl rfl rfl (r_assign hF rfl rfl) ?_; clear hF; clear a; intro a hF
      refine RL.nil (hK18 _ _ ?_)
      clear hK18 K17
      refine wp_ret ?_
      exact ret_of hF (res1 hF rfl rfl) ⟨_, rfl, h⟩
    · replace h := hf hc; clear ht hf
      refine seq_region fun K19 hK20 => ?_
      refine RL.val  hF rfl rfl rfl (r_move hF rfl rfl) ?_; clear hF; clear a; intro a hF
      refine RL.val  hF rfl rfl rfl (r_move hF rfl rfl) ?_; clear hF; clear a; intro a hF
      obtain ⟨p21, hpp21, h⟩ := h
      refine RL.val  hF rfl rfl rfl (r_nilCheck hF rfl (lkp rfl hpp21)) ?_; clear hF; clear a; intro a hF
      refine RL.val  hF rfl rfl rfl (r_fieldAddr hF rfl rfl Try.runUnderlying83 rfl Try.sizeOf3 rfl) ?_; clear hF; clear a; intro a hF
      obtain ⟨t22, hct22, h⟩ := h
      refine RL.val  hF rfl rfl rfl (r_load hF rfl rfl Try.isAgg3 hct22) ?_; clear hF; clear a; intro a hF
      refine RL.val  hF rfl rfl rfl (r_gtr hF rfl rfl rfl) ?_; clear hF; clear a; intro a hF
      refine RL.val  hF rfl rfl rfl (r_assign hF rfl rfl) ?_; clear hF; clear a; intro a hF
      refine RL.nil (hK20 _ _ ?_)
      clear hK20 K19
      obtain ⟨ht, hf⟩ := h
      refine cond_ hF rfl (fun hc => ?_) (fun hc => ?_)
      · replace h := ht hc; clear ht hf
        refine seq_region fun K23 hK24 => ?_
        refine RL.val  hF rfl rfl rfl (r_assign hF rfl rfl) ?_; clear hF; clear a; intro a hF
        refine RL.nil (hK24 _ _ ?_)
        clear hK24 K23
        refine wp_ret ?_
        exact ret_of hF (res1 hF rfl rfl) ⟨_, rfl, h⟩
      · replace h := hf hc; clear ht hf
        refine wp_skip ?_
        exact jn8 () _ _ (hF.sub rfl) h
  clear hJ hK12
  refine RL.val  hF rfl rfl rfl (r_move hF rfl rfl) ?_; clear hF; clear a; intro a hF
  obtain ⟨p25, hpp25, h⟩ := h
  refine RL.val  hF rfl rfl rfl (r_nilCheck hF rfl (lkp rfl hpp25)) ?_; clear hF; clear a; intro a hF
  refine RL.val  hF rfl rfl rfl (r_fieldAddr hF rfl rfl Try.runUnderlying83 rfl Try.sizeOf4 rfl) ?_; clear hF; clear a; intro a hF
  obtain ⟨t26, hct26, h⟩ := h
  refine RL.val  hF rfl rfl rfl (r_load hF rfl rfl Try.isAgg4 hct26) ?_; clear hF; clear a; intro a hF
  refine RL.val  hF rfl rfl rfl (r_move hF rfl rfl) ?_; clear hF; clear a; intro a hF
  obtain ⟨ht, hf⟩ := h
  rcases bool_cases t26 with hg27 | hg27
  · replace h := ht hg27; clear ht hf
    refine RL.gval  hF rfl rfl (lkb rfl hg27) rfl rfl (r_move hF rfl rfl) ?_; clear hF; clear a; intro a hF
    refine RL.gval  hF rfl rfl (lkb rfl hg27) rfl rfl (r_move hF rfl rfl) ?_; clear hF; clear a; intro a hF
    obtain ⟨p28, hpp28, h⟩ := h
    refine RL.gval  hF rfl rfl (lkb rfl hg27) rfl rfl (r_nilCheck hF rfl (lkp rfl hpp28)) ?_; clear hF; clear a; intro a hF
    refine RL.gval  hF rfl rfl (lkb rfl hg27) rfl rfl (r_fieldAddr hF rfl rfl Try.runUnderlying83 rfl Try.sizeOf3 rfl) ?_; clear hF; clear a; intro a hF
    obtain ⟨t29, hct29, h⟩ := h
    refine RL.gval  hF rfl rfl (lkb rfl hg27) rfl rfl (r_load hF rfl rfl Try.isAgg3 hct29) ?_; clear hF; clear a; intro a hF
    refine RL.gval  hF rfl rfl (lkb rfl hg27) rfl rfl (r_gtr hF rfl rfl rfl) ?_; clear hF; clear a; intro a hF
    refine RL.gval  hF rfl rfl (lkb rfl hg27) rfl rfl (r_move hF rfl rfl) ?_; clear hF; clear a; intro a hF
    obtain ⟨ht, hf⟩ := h
    rcases bool_cases (decide (a1 > t29)) with hg30 | hg30
    · replace h := ht hg30; clear ht hf
      refine RL.skip hF rfl rfl (lkb rfl hg30) (.inl rfl) rfl rfl ?_; clear hF; clear a; intro a hF
      refine RL.skip hF rfl rfl (lkb rfl hg30) (.inl rfl) rfl rfl ?_; clear hF; clear a; intro a hF
      refine RL.skip hF rfl rfl rfl (.inr rfl) rfl rfl ?_; clear hF; clear a; intro a hF
      refine RL.skip hF rfl rfl rfl (.inr rfl) rfl rfl ?_; clear hF; clear a; intro a hF
      refine RL.skip hF rfl rfl rfl (.inr rfl) rfl rfl ?_; clear hF; clear a; intro a hF
      refine RL.skip hF rfl rfl rfl (.inr rfl) rfl rfl ?_; clear hF; clear a; intro a hF
      refine RL.skip hF rfl rfl rfl (.inr rfl) rfl rfl ?_; clear hF; clear a; intro a hF
      refine RL.skip hF rfl rfl rfl (.inr rfl) rfl rfl ?_; clear hF; clear a; intro a hF
      refine RL.skip hF rfl rfl (lkb rfl hg30) (.inl rfl) rfl rfl ?_; clear hF; clear a; intro a hF
      refine RL.gval (v := .bool true) (w' := w) hF rfl rfl (lkb rfl hg27) rfl rfl (r_pick hF rfl rfl rfl rfl (fun _ => rfl) (fun e => absurd (hg30.symm.trans e) (by decide))) ?_; clear hF; clear a; intro a hF
      refine RL.val (v := .bool true) (w' := w) hF rfl rfl rfl (r_pick hF rfl rfl rfl rfl (fun _ => rfl) (fun e => absurd (hg27.symm.trans e) (by decide))) ?_; clear hF; clear a; intro a hF
      refine RL.val  hF rfl rfl rfl (r_move hF rfl rfl) ?_; clear hF; clear a; intro a hF
      refine RL.skip hF rfl rfl rfl (.inl rfl) rfl rfl ?_; clear hF; clear a; intro a hF
      refine RL.skip hF rfl rfl rfl (.inl rfl) rfl rfl ?_; clear hF; clear a; intro a hF
      refine RL.skip hF rfl rfl rfl (.inr rfl) rfl rfl ?_; clear hF; clear a; intro a hF
      refine RL.skip hF rfl rfl rfl (.inr rfl) rfl rfl ?_; clear hF; clear a; intro a hF
      refine RL.skip hF rfl rfl rfl (.inr rfl) rfl rfl ?_; clear hF; clear a; intro a hF
      refine RL.skip hF rfl rfl rfl (.inr rfl) rfl rfl ?_; clear hF; clear a; intro a hF
      refine RL.skip hF rfl rfl rfl (.inr rfl) rfl rfl ?_; clear hF; clear a; intro a hF
      refine RL.skip hF rfl rfl rfl (.inr rfl) rfl rfl ?_; clear hF; clear a; intro a hF
      refine RL.skip hF rfl rfl rfl (.inl rfl) rfl rfl ?_; clear hF; clear a; intro a hF
      refine RL.val (v := .bool true) (w' := w) hF rfl rfl rfl (r_pick hF rfl rfl rfl rfl (fun _ => rfl) (fun e => absurd e (by decide))) ?_; clear hF; clear a; intro a hF
      refine RL.val  hF rfl rfl rfl (r_assign hF rfl rfl) ?_; clear hF; clear a; intro a hF
      refine RL.nil ?_
      exact jn16 true _ _ (hF.sub rfl) h
    · replace h := hf hg30; clear ht hf
      refine RL.gval  hF rfl rfl (lkb rfl hg30) rfl rfl (r_move hF rfl rfl) ?_; clear hF; clear a; intro a hF
      refine RL.gval  hF rfl rfl (lkb rfl hg30) rfl rfl (r_move hF rfl rfl) ?_; clear hF; clear a; intro a hF
      obtain ⟨ht, hf⟩ := h
      rcases bool_cases a2 with hg31 | hg31
      · replace h := ht hg31; clear ht hf
        refine RL.gval  hF rfl rfl (lkb rfl hg31) rfl rfl (r_move hF rfl rfl) ?_; clear hF; clear a; intro a hF
        refine RL.gval  hF rfl rfl (lkb rfl hg31) rfl rfl (r_move hF rfl rfl) ?_; clear hF; clear a; intro a hF
        obtain ⟨p32, hpp32, h⟩ := h
        refine RL.gval  hF rfl rfl (lkb rfl hg31) rfl rfl (r_nilCheck hF rfl (lkp rfl hpp32)) ?_; clear hF; clear a; intro a hF
        refine RL.gval  hF rfl rfl (lkb rfl hg31) rfl rfl (r_fieldAddr hF rfl rfl Try.runUnderlying83 rfl Try.sizeOf3 rfl) ?_; clear hF; clear a; intro a hF
        obtain ⟨t33, hct33, h⟩ := h
        refine RL.gval  hF rfl rfl (lkb rfl hg31) rfl rfl (r_load hF rfl rfl Try.isAgg3 hct33) ?_; clear hF; clear a; intro a hF
        refine RL.gval  hF rfl rfl (lkb rfl hg31) rfl rfl (r_neq hF rfl rfl rfl) ?_; clear hF; clear a; intro a hF
        refine RL.gval (v := .bool (a1 != t33)) (w' := w) hF rfl rfl (lkb rfl hg30) rfl rfl (r_pick hF rfl rfl rfl rfl (fun _ => rfl) (fun e => absurd (hg31.symm.trans e) (by decide))) ?_; clear hF; clear a; intro a hF
        refine RL.gval (v := .bool (a1 != t33)) (w' := w) hF rfl rfl (lkb rfl hg27) rfl rfl (r_pick hF rfl rfl rfl rfl (fun e => absurd (hg30.symm.trans e) (by decide)) (fun _ => rfl)) ?_; clear hF; clear a; intro a hF
        refine RL.val (v := .bool (a1 != t33)) (w' := w) hF rfl rfl rfl (r_pick hF rfl rfl rfl rfl (fun _ => rfl) (fun e => absurd (hg27.symm.trans e) (by decide))) ?_; clear hF; clear a; intro a hF
        refine RL.val  hF rfl rfl rfl (r_move hF rfl rfl) ?_; clear hF; clear a; intro a hF
        obtain ⟨ht, hf⟩ := h
        rcases bool_cases (a1 != t33) with hg34 | hg34
        · replace h := ht hg34; clear ht hf
          refine RL.skip hF rfl rfl (lkb rfl hg34) (.inl rfl) rfl rfl ?_; clear hF; clear a; intro a hF
          refine RL.skip hF rfl rfl (lkb rfl hg34) (.inl rfl) rfl rfl ?_; clear hF; clear a; intro a hF
          refine RL.skip hF rfl rfl rfl (.inr rfl) rfl rfl ?_; clear hF; clear a; intro a hF
          refine RL.skip hF rfl rfl rfl (.inr rfl) rfl rfl ?_; clear hF; clear a; intro a hF
          refine RL.skip hF rfl rfl rfl (.inr rfl) rfl rfl ?_; clear hF; clear a; intro a hF
          refine RL.skip hF rfl rfl rfl (.inr rfl) rfl rfl ?_; clear hF; clear a; intro a hF
          refine RL.skip hF rfl rfl rfl (.inr rfl) rfl rfl ?_; clear hF; clear a; intro a hF
          refine RL.skip hF rfl rfl rfl (.inr rfl) rfl rfl ?_; clear hF; clear a; intro a hF
          refine RL.skip hF rfl rfl (lkb rfl hg34) (.inl rfl) rfl rfl ?_; clear hF; clear a; intro a hF
          refine RL.val (v := .bool true) (w' := w) hF rfl rfl rfl (r_pick hF rfl rfl rfl rfl (fun _ => rfl) (fun e => absurd (hg34.symm.trans e) (by decide))) ?_; clear hF; clear a; intro a hF
          refine RL.val  hF rfl rfl rfl (r_assign hF rfl rfl) ?_; clear hF; clear a; intro a hF
          refine RL.nil ?_
          exact jn16 true _ _ (hF.sub rfl) h
        · replace h := hf hg34; clear ht hf
          refine RL.gval  hF rfl rfl (lkb rfl hg34) rfl rfl (r_move hF rfl rfl) ?_; clear hF; clear a; intro a hF
          refine RL.gval  hF rfl rfl (lkb rfl hg34) rfl rfl (r_move hF rfl rfl) ?_; clear hF; clear a; intro a hF
          refine RL.gval  hF rfl rfl (lkb rfl hg31) rfl rfl (r_move hF rfl rfl) ?_; clear hF; clear a; intro a hF
          refine RL.gval  hF rfl rfl (lkb rfl hg31) rfl rfl (r_move hF rfl rfl) ?_; clear hF; clear a; intro a hF
          obtain ⟨p35, hpp35, h⟩ := h
          refine RL.gval  hF rfl rfl (lkb rfl hg31) rfl rfl (r_nilCheck hF rfl (lkp rfl hpp35)) ?_; clear hF; clear a; intro a hF
          refine RL.gval  hF rfl rfl (lkb rfl hg31) rfl rfl (r_fieldAddr hF rfl rfl Try.runUnderlying83 rfl Try.sizeOf3 rfl) ?_; clear hF; clear a; intro a hF
          obtain ⟨t36, hct36, h⟩ := h
          refine RL.gval  hF rfl rfl (lkb rfl hg31) rfl rfl (r_load hF rfl rfl Try.isAgg3 hct36) ?_; clear hF; clear a; intro a hF
          refine RL.gval  hF rfl rfl (lkb rfl hg31) rfl rfl (r_lss hF rfl rfl rfl) ?_; clear hF; clear a; intro a hF
          refine RL.gval (v := .bool (decide (a1 < t36))) (w' := w) hF rfl rfl (lkb rfl hg34) rfl rfl (r_pick hF rfl rfl rfl rfl (fun _ => rfl) (fun e => absurd (hg31.symm.trans e) (by decide))) ?_; clear hF; clear a; intro a hF
          refine RL.val (v := .bool (decide (a1 < t36))) (w' := w) hF rfl rfl rfl (r_pick hF rfl rfl rfl rfl (fun e => absurd (hg34.symm.trans e) (by decide)) (fun _ => rfl)) ?_; clear hF; clear a; intro a hF
          refine RL.val  hF rfl rfl rfl (r_assign hF rfl rfl) ?_; clear hF; clear a; intro a hF
          refine RL.nil ?_
          exact jn16 (decide (a1 < t36)) _ _ (hF.sub rfl) h
      · replace h := hf hg31; clear ht hf
        refine RL.skip hF rfl rfl (lkb rfl hg31) (.inl rfl) rfl rfl ?_; clear hF; clear a; intro a hF
        refine RL.skip hF rfl rfl (lkb rfl hg31) (.inl rfl) rfl rfl ?_; clear hF; clear a; intro a hF
        refine RL.skip hF rfl rfl (lkb rfl hg31) (.inl rfl) rfl rfl ?_; clear hF; clear a; intro a hF
        refine RL.skip hF rfl rfl (lkb rfl hg31) (.inl rfl) rfl rfl ?_; clear hF; clear a; intro a hF
        refine RL.skip hF rfl rfl (lkb rfl hg31) (.inl rfl) rfl rfl ?_; clear hF; clear a; intro a hF
        refine RL.skip hF rfl rfl (lkb rfl hg31) (.inl rfl) rfl rfl ?_; clear hF; clear a; intro a hF
        refine RL.gval (v := .bool false) (w' := w) hF rfl rfl (lkb rfl hg30) rfl rfl (r_pick hF rfl rfl rfl rfl (fun e => absurd (hg31.symm.trans e) (by decide)) (fun _ => rfl)) ?_; clear hF; clear a; intro a hF
        refine RL.gval (v := .bool false) (w' := w) hF rfl rfl (lkb rfl hg27) rfl rfl (r_pick hF rfl rfl rfl rfl (fun e => absurd (hg30.symm.trans e) (by decide)) (fun _ => rfl)) ?_; clear hF; clear a; intro a hF
        refine RL.val (v := .bool false) (w' := w) hF rfl rfl rfl (r_pick hF rfl rfl rfl rfl (fun _ => rfl) (fun e => absurd (hg27.symm.trans e) (by decide))) ?_; clear hF; clear a; intro a hF
        refine RL.val  hF rfl rfl rfl (r_move hF rfl rfl) ?_; clear hF; clear a; intro a hF
        refine RL.gval  hF rfl rfl rfl rfl rfl (r_move hF rfl rfl) ?_; clear hF; clear a; intro a hF
        refine RL.gval  hF rfl rfl rfl rfl rfl (r_move hF rfl rfl) ?_; clear hF; clear a; intro a hF
        refine RL.skip hF rfl rfl (lkb rfl hg31) (.inl rfl) rfl rfl ?_; clear hF; clear a; intro a hF
        refine RL.skip hF rfl rfl (lkb rfl hg31) (.inl rfl) rfl rfl ?_; clear hF; clear a; intro a hF
        refine RL.skip hF rfl rfl (lkb rfl hg31) (.inl rfl) rfl rfl ?_; clear hF; clear a; intro a hF
        refine RL.skip hF rfl rfl (lkb rfl hg31) (.inl rfl) rfl rfl ?_; clear hF; clear a; intro a hF
        refine RL.skip hF rfl rfl (lkb rfl hg31) (.inl rfl) rfl rfl ?_; clear hF; clear a; intro a hF
        refine RL.skip hF rfl rfl (lkb rfl hg31) (.inl rfl) rfl rfl ?_; clear hF; clear a; intro a hF
        refine RL.gval (v := .bool false) (w' := w) hF rfl rfl rfl rfl rfl (r_pick hF rfl rfl rfl rfl (fun e => absurd (hg31.symm.trans e) (by decide)) (fun _ => rfl)) ?_; clear hF; clear a; intro a hF
        refine RL.val (v := .bool false) (w' := w) hF rfl rfl rfl (r_pick hF rfl rfl rfl rfl (fun e => absurd e (by decide)) (fun _ => rfl)) ?_; clear hF; clear a; intro a hF
        refine RL.val  hF rfl rfl rfl (r_assign hF rfl rfl) ?_; clear hF; clear a; intro a hF
        refine RL.nil ?_
        exact jn16 false _ _ (hF.sub rfl) h
  · replace h := hf hg27; clear ht hf
    refine RL.skip hF rfl rfl (lkb rfl hg27) (.inl rfl) rfl rfl ?_; clear hF; clear a; intro a hF
    refine RL.skip hF rfl rfl (lkb rfl hg27) (.inl rfl) rfl rfl ?_; clear hF; clear a; intro a hF
    refine RL.skip hF rfl rfl (lkb rfl hg27) (.inl rfl) rfl rfl ?_; clear hF; clear a; intro a hF
    refine RL.skip hF rfl rfl (lkb rfl hg27) (.inl rfl) rfl rfl ?_; clear hF; clear a; intro a hF
    refine RL.skip hF rfl rfl (lkb rfl hg27) (.inl rfl) rfl rfl ?_; clear hF; clear a; intro a hF
    refine RL.skip hF rfl rfl (lkb rfl hg27) (.inl rfl) rfl rfl ?_; clear hF; clear a; intro a hF
    refine RL.skip hF rfl rfl (lkb rfl hg27) (.inl rfl) rfl rfl ?_; clear hF; clear a; intro a hF
    refine RL.skip hF rfl rfl rfl (.inr rfl) rfl rfl ?_; clear hF; clear a; intro a hF
    refine RL.skip hF rfl rfl rfl (.inr rfl) rfl rfl ?_; clear hF; clear a; intro a hF
    refine RL.skip hF rfl rfl rfl (.inr rfl) rfl rfl ?_; clear hF; clear a; intro a hF
    refine RL.skip hF rfl rfl rfl (.inr rfl) rfl rfl ?_; clear hF; clear a; intro a hF
    refine RL.skip hF rfl rfl rfl (.inr rfl) rfl rfl ?_; clear hF; clear a; intro a hF
    refine RL.skip hF rfl rfl rfl (.inr rfl) rfl rfl ?_; clear hF; clear a; intro a hF
    refine RL.skip hF rfl rfl rfl (.inr rfl) rfl rfl ?_; clear hF; clear a; intro a hF
    refine RL.skip hF rfl rfl rfl (.inr rfl) rfl rfl ?_; clear hF; clear a; intro a hF
    refine RL.skip hF rfl rfl rfl (.inr rfl) rfl rfl ?_; clear hF; clear a; intro a hF
    refine RL.skip hF rfl rfl (lkb rfl hg27) (.inl rfl) rfl rfl ?_; clear hF; clear a; intro a hF
    refine RL.val (v := .bool false) (w' := w) hF rfl rfl rfl (r_pick hF rfl rfl rfl rfl (fun e => absurd (hg27.symm.trans e) (by decide)) (fun _ => rfl)) ?_; clear hF; clear a; intro a hF
    refine RL.val  hF rfl rfl rfl (r_move hF rfl rfl) ?_; clear hF; clear a; intro a hF
    refine RL.gval  hF rfl rfl rfl rfl rfl (r_move hF rfl rfl) ?_; clear hF; clear a; intro a hF
    refine RL.gval  hF rfl rfl rfl rfl rfl (r_move hF rfl rfl) ?_; clear hF; clear a; intro a hF
    obtain ⟨ht, hf⟩ := h
    rcases bool_cases a2 with hg37 | hg37
    · replace h := ht hg37; clear ht hf
      refine RL.gval  hF rfl rfl (lkb rfl hg37) rfl rfl (r_move hF rfl rfl) ?_; clear hF; clear a; intro a hF
      refine RL.gval  hF rfl rfl (lkb rfl hg37) rfl rfl (r_move hF rfl rfl) ?_; clear hF; clear a; intro a hF
      obtain ⟨p38, hpp38, h⟩ := h
      refine RL.gval  hF rfl rfl (lkb rfl hg37) rfl rfl (r_nilCheck hF rfl (lkp rfl hpp38)) ?_; clear hF; clear a; intro a hF
      refine RL.gval  hF rfl rfl (lkb rfl hg37) rfl rfl (r_fieldAddr hF rfl rfl Try.runUnderlying83 rfl Try.sizeOf3 rfl) ?_; clear hF; clear a; intro a hF
      obtain ⟨t39, hct39, h⟩ := h
      refine RL.gval  hF rfl rfl (lkb rfl hg37) rfl rfl (r_load hF rfl rfl Try.isAgg3 hct39) ?_; clear hF; clear a; intro a hF
      refine RL.gval  hF rfl rfl (lkb rfl hg37) rfl rfl (r_lss hF rfl rfl rfl) ?_; clear hF; clear a; intro a hF
      refine RL.gval (v := .bool (decide (a1 < t39))) (w' := w) hF rfl rfl rfl rfl rfl (r_pick hF rfl rfl rfl rfl (fun _ => rfl) (fun e => absurd (hg37.symm.trans e) (by decide))) ?_; clear hF; clear a; intro a hF
      refine RL.val (v := .bool (decide (a1 < t39))) (w' := w) hF rfl rfl rfl (r_pick hF rfl rfl rfl rfl (fun e => absurd e (by decide)) (fun _ => rfl)) ?_; clear hF; clear a; intro a hF
      refine RL.val  hF rfl rfl rfl (r_assign hF rfl rfl) ?_; clear hF; clear a; intro a hF
      refine RL.nil ?_
      exact jn16 (decide (a1 < t39)) _ _ (hF.sub rfl) h
    · replace h := hf hg37; clear ht hf
      refine RL.skip hF rfl rfl (lkb rfl hg37) (.inl rfl) rfl rfl ?_; clear hF; clear a; intro a hF
      refine RL.skip hF rfl rfl (lkb rfl hg37) (.inl rfl) rfl rfl ?_; clear hF; clear a; intro a hF
      refine RL.skip hF rfl rfl (lkb rfl hg37) (.inl rfl) rfl rfl ?_; clear hF; clear a; intro a hF
      refine RL.skip hF rfl rfl (lkb rfl hg37) (.inl rfl) rfl rfl ?_; clear hF; clear a; intro a hF
      refine RL.skip hF rfl rfl (lkb rfl hg37) (.inl rfl) rfl rfl ?_; clear hF; clear a; intro a hF
      refine RL.skip hF rfl rfl (lkb rfl hg37) (.inl rfl) rfl rfl ?_; clear hF; clear a; intro a hF
      refine RL.gval (v := .bool false) (w' := w) hF rfl rfl rfl rfl rfl (r_pick hF rfl rfl rfl rfl (fun e => absurd (hg37.symm.trans e) (by decide)) (fun _ => rfl)) ?_; clear hF; clear a; intro a hF
      refine RL.val (v := .bool false) (w' := w) hF rfl rfl rfl (r_pick hF rfl rfl rfl rfl (fun e => absurd e (by decide)) (fun _ => rfl)) ?_; clear hF; clear a; intro a hF
      refine RL.val  hF rfl rfl rfl (r_assign hF rfl rfl) ?_; clear hF; clear a; intro a hF
      refine RL.nil ?_
      exact jn16 false _ _ (hF.sub rfl) h

set_option maxRecDepth 20000 in
theorem br45 {a0 : Slc} {w : World} {K : Slc → World → Prop} (h : sh45 a0 w K) : C45 a0 w K := by
  unfold sh45 at h
  refine enter (n := 8) (l := [(0, a0.v)]) 7 Try.func45 rfl _ rfl rfl rfl fun a hF => ?_
  refine seq_region fun K1 hK2 => ?_
  refine RL.val  hF rfl rfl rfl (r_assign hF rfl rfl) ?_; clear hF; clear a; intro a hF
  refine RL.nil (hK2 _ _ ?_)
  clear hK2 K1
  refine seq_k fun K3 hK4 => ?_
  obtain ⟨J, hJ, h⟩ := jn_open h
  have jn8 : ∀ (v5 : Unit) (w6 : World) a, Fr 8 a [(0, a0.v)] → J v5 w6 → K3 a w6 := by
    intro v5 w6 a hF h
    replace h := hJ _ _ h
    clear hJ
    refine hK4 _ _ ?_
    refine seq_region fun K9 hK10 => ?_
    obtain ⟨p12, w11, hp_, hw_, h⟩ := h
    refine RL.val (v := (Slc.mk (some p12) 0 0).v) (w' := w11) hF rfl rfl rfl (by rw [hp_, hw_]; exact r_buildSlice (xs := []) hF rfl rfl (by kernel_rfl)) ?_; clear hF; clear a; intro a hF
    refine RL.val  hF rfl rfl rfl (r_move hF rfl rfl) ?_; clear hF; clear a; intro a hF
    obtain ⟨t14, w13, hc_, h⟩ := h
    refine RL.val  hF rfl rfl rfl (r_append (xs := [(Slc.mk (some p12) 0 0).v, a0.v]) hF rfl rfl hc_) ?_; clear hF; clear a; intro a hF
    refine RL.val  hF rfl rfl rfl (r_assign hF rfl rfl) ?_; clear hF; clear a; intro a hF
    refine RL.nil (hK10 _ _ ?_)
    clear hK10 K9
    refine wp_ret ?_
    exact ret_of hF (res1 hF rfl rfl) ⟨_, rfl, h⟩
  clear hJ
  refine seq_region fun K15 hK16 => ?_
  refine RL.val  hF rfl rfl rfl (r_move hF rfl rfl) ?_; clear hF; clear a; intro a hF
  refine RL.val  hF rfl rfl rfl (r_slcnil hF rfl rfl rfl Try.runUnderlying22) ?_; clear hF; clear a; intro a hF
  refine RL.nil (hK16 _ _ ?_)
  clear hK16 K15
  obtain ⟨ht, hf⟩ := h
  refine cond_ hF rfl (fun hc => ?_) (fun hc => ?_)
  · replace h := ht hc; clear ht hf
    refine seq_region fun K17 hK18 => ?_
    refine RL.val  hF rfl rfl rfl (r_assign hF rfl rfl) ?_; clear hF; clear a; intro a hF
    refine RL.nil (hK18 _ _ ?_)
    clear hK18 K17
    refine wp_ret ?_
    exact ret_of hF (res1 hF rfl rfl) ⟨_, rfl, h⟩
  · replace h := hf hc; clear ht hf
    refine wp_skip ?_
    exact jn8 () _ _ (hF.sub rfl) h

set_option maxRecDepth 20000 in
theorem br44 {a0 : Int} {c0 : Option Addr} {c1 : Option Addr} {c2 : Option Addr} {c3 : Option Addr} {w : World} {K : World → Prop} (h : sh44 a0 c0 c1 c2 c3 w K) : C44 a0 c0 c1 c2 c3 w K := by
  unfold sh44 at h
  refine enter (n := 23) (l := [(0, .int .i64 a0), (1, .pointer c0), (2, .pointer c1), (3, .pointer c2), (4, .pointer c3)]) 18 Try.func44 rfl _ rfl rfl rfl fun a hF => ?_
  refine seq_region fun K1 hK2 => ?_
  refine RL.val  hF rfl rfl rfl (r_move hF rfl rfl) ?_; clear hF; clear a; intro a hF
  obtain ⟨p4, hpp4, h⟩ := h
  obtain ⟨t3, hct3, h⟩ := h
  refine RL.val  hF rfl rfl rfl (r_load hF rfl (lkp rfl hpp4) Try.isAgg3 hct3) ?_; clear hF; clear a; intro a hF
  refine RL.val  hF rfl rfl rfl (r_gtr hF rfl rfl rfl) ?_; clear hF; clear a; intro a hF
  refine RL.nil (hK2 _ _ ?_)
  clear hK2 K1
  obtain ⟨ht, hf⟩ := h
  refine cond_ hF rfl (fun hc => ?_) (fun hc => ?_)
  · replace h := ht hc; clear ht hf
    refine end_draw 24576 #[0, 1, 3, 7, 0, 0, 0, 0, 192, 0, 0, 1536, 4064, 8160, 16383] 15 mo rfl (by kernel_rfl) (by kernel_rfl) fun hS K5 hK6 => ?_
    obtain ⟨w7, hw, h⟩ := h; rw [← hw]; clear hw
    obtain ⟨p9, hpp9, h⟩ := h
    obtain ⟨t8, hct8, h⟩ := h
    refine GL.read (v := .pointer t8) (i := 0) hF (fun x => World.cell? x p9 = some (.pointer t8)) hS rfl rfl (by kernel_rfl) rfl rfl rfl rfl hct8 (fun x hx => r_load hF rfl (lkp rfl hpp9) Try.isAgg58 hx) ?_; clear hF; clear a; intro a hF
    obtain ⟨p10, hpp10, h⟩ := h
    refine GL.val (v := .pointer (some p10)) (i := 1) hF hS rfl rfl (by kernel_rfl) rfl rfl rfl rfl (fun x => r_nilCheck hF rfl (lkp rfl hpp10)) ?_; clear hF; clear a; intro a hF
    refine GL.val (v := .pointer (some (p10.add 7))) (i := 2) hF hS rfl rfl (by kernel_rfl) rfl rfl rfl rfl (fun x => r_fieldAddr hF rfl rfl Try.runUnderlying83 rfl Try.sizeOf81 rfl) ?_; clear hF; clear a; intro a hF
    obtain ⟨t11, hct11, h⟩ := h
    refine GL.read (v := .map t11) (i := 3) hF (fun x => World.cell? x (p10.add 7) = some (.map t11)) hS rfl rfl (by kernel_rfl) rfl rfl rfl rfl hct11 (fun x hx => r_load hF rfl rfl Try.isAgg81 hx) ?_; clear hF; clear a; intro a hF
    obtain ⟨p13, hpp13, h⟩ := h
    obtain ⟨t12, hct12, h⟩ := h
    refine GL.read (v := .int .i64 t12) (i := 4) hF (fun x => World.cell? x p13 = some (.int .i64 t12)) hS rfl rfl (by kernel_rfl) rfl rfl rfl rfl hct12 (fun x hx => r_load hF rfl (lkp rfl hpp13) Try.isAgg3 hx) ?_; clear hF; clear a; intro a hF
    obtain ⟨p15, hpp15, h⟩ := h
    obtain ⟨t14, hct14, h⟩ := h
    refine GL.read (v := t14.v) (i := 5) hF (fun x => World.cell? x p15 = some (t14.v)) hS rfl rfl (by kernel_rfl) rfl rfl rfl rfl hct14 (fun x hx => r_load hF rfl (lkp rfl hpp15) Try.isAgg22 hx) ?_; clear hF; clear a; intro a hF
    obtain ⟨p17, hpp17, h⟩ := h
    obtain ⟨t16, hct16, h⟩ := h
    refine GL.read (v := .int .i64 t16) (i := 6) hF (fun x => World.cell? x p17 = some (.int .i64 t16)) hS rfl rfl (by kernel_rfl) rfl rfl rfl rfl hct16 (fun x hx => r_load hF rfl (lkp rfl hpp17) Try.isAgg3 hx) ?_; clear hF; clear a; intro a hF
    obtain ⟨p19, hpp19, h⟩ := h
    obtain ⟨t18, hct18, h⟩ := h
    refine GL.read (v := .int .i64 t18) (i := 7) hF (fun x => World.cell? x p19 = some (.int .i64 t18)) hS rfl rfl (by kernel_rfl) rfl rfl rfl rfl hct18 (fun x hx => r_load hF rfl (lkp rfl hpp19) Try.isAgg3 hx) ?_; clear hF; clear a; intro a hF
    refine GL.val (v := .int .i64 (IntKind.i64.wrap (t16 - t18))) (i := 8) hF hS rfl rfl (by kernel_rfl) rfl rfl rfl rfl (fun x => r_sub hF rfl rfl rfl) ?_; clear hF; clear a; intro a hF
    refine GL.val (v := .int .i64 a0) (i := 9) hF hS rfl rfl (by kernel_rfl) rfl rfl rfl rfl (fun x => r_move hF rfl rfl) ?_; clear hF; clear a; intro a hF
    obtain ⟨p21, hpp21, h⟩ := h
    obtain ⟨t20, hct20, h⟩ := h
    refine GL.read (v := .int .i64 t20) (i := 10) hF (fun x => World.cell? x p21 = some (.int .i64 t20)) hS rfl rfl (by kernel_rfl) rfl rfl rfl rfl hct20 (fun x hx => r_load hF rfl (lkp rfl hpp21) Try.isAgg3 hx) ?_; clear hF; clear a; intro a hF
    refine GL.val (v := .int .i64 (IntKind.i64.wrap (a0 - t20))) (i := 11) hF hS rfl rfl (by kernel_rfl) rfl rfl rfl rfl (fun x => r_sub hF rfl rfl rfl) ?_; clear hF; clear a; intro a hF
    obtain ⟨hs22, hs23, hs24, h⟩ := h
    refine GL.val (v := (t14.sub 1 ((IntKind.i64.wrap (t16 - t18)).toNat) ((IntKind.i64.wrap (a0 - t20)).toNat) t14.cap).v) (i := 12) hF hS rfl rfl (by kernel_rfl) rfl rfl rfl rfl (fun x => r_slice (lo' := some (.int .i64 (IntKind.i64.wrap (t16 - t18)))) (hi' := some (.int .i64 (IntKind.i64.wrap (a0 - t20)))) (mx' := none) hF rfl rfl rfl rfl rfl (slc_at Try.runUnderlying22 Try.sizeOf5 (bounds11 hs22 hs23 hs24))) ?_; clear hF; clear a; intro a hF
    refine GL.act (i := 13) (pend' := [(4, fun x => World.cell? x p13 = some (.int .i64 t12)), (3, fun x => World.cell? x (p10.add 7) = some (.map t11)), (0, fun x => World.cell? x p9 = some (.pointer t8))]) hS (by kernel_rfl) rfl (by kernel_rfl) ?_
    refine op_call hF rfl rfl rfl rfl (r_call (xs := [(t14.sub 1 ((IntKind.i64.wrap (t16 - t18)).toNat) ((IntKind.i64.wrap (a0 - t20)).toNat) t14.cap).v]) hF rfl rfl Try.call45) (CallsV.mono h ?_)
    clear h; rintro _ w25 ⟨r26, rfl, h⟩
    obtain ⟨hk27, hk28, hk29, h⟩ := h
    refine ⟨⟨hk27, hk28, hk29, trivial⟩, ?_⟩; clear hF; clear a; intro a hF
    refine GL.act (i := 14) (pend' := []) hS (by kernel_rfl) rfl (by kernel_rfl) ?_
    obtain ⟨w30, hc_, h⟩ := h
    refine op_unit  hF rfl rfl rfl (r_mapUpdate hF rfl rfl rfl rfl hc_) trivial ?_; clear hF; clear a; intro a hF
    refine GL.done (by kernel_rfl) (hK6 _ _ ?_)
    clear hK6 K5
    exact end_of hF (res0 rfl) ⟨rfl, h⟩
  · replace h := hf hc; clear ht hf
    refine wp_skip ?_
    exact end_of hF (res0 rfl) ⟨rfl, h⟩

set_option maxRecDepth 20000 in
theorem br46 {a0 : Option Addr} {w : World} {K : Slc → World → Prop} (h : sh46 a0 w K) : C46 a0 w K := by
  unfold sh46 at h
  refine enter (n := 21) (l := [(0, .pointer a0)]) 20 Try.func46 rfl _ rfl rfl rfl fun a hF => ?_
  refine seq_region fun K1 hK2 => ?_
  refine RL.val  hF rfl rfl rfl (r_assign hF rfl rfl) ?_; clear hF; clear a; intro a hF
  refine RL.nil (hK2 _ _ ?_)
  clear hK2 K1
  refine seq_region fun K3 hK4 => ?_
  refine RL.val  hF rfl rfl rfl (r_assign hF rfl rfl) ?_; clear hF; clear a; intro a hF
  refine RL.nil (hK4 _ _ ?_)
  clear hK4 K3
  refine seq_k fun K5 hK6 => ?_
  obtain ⟨J, hJ, h⟩ := jn_open h
  have jn10 : ∀ (v7 : Slc) (w8 : World) a, Fr 21 a [(3, v7.v)] → J v7 w8 → K5 a w8 := by
    intro v7 w8 a hF h
    replace h := hJ _ _ h
    clear hJ
    refine hK6 _ _ ?_
    refine seq_region fun K11 hK12 => ?_
    refine RL.val  hF rfl rfl rfl (r_move hF rfl rfl) ?_; clear hF; clear a; intro a hF
    refine RL.call hF rfl rfl rfl (r_call (xs := [v7.v]) hF rfl rfl Try.call54) (CallsV.mono h ?_)
    clear h; rintro _ w13 ⟨rfl, h⟩; clear hF; clear a; intro a hF
    refine RL.nil (hK12 _ _ ?_)
    clear hK12 K11
    refine seq_region fun K14 hK15 => ?_
    refine RL.val  hF rfl rfl rfl (r_move hF rfl rfl) ?_; clear hF; clear a; intro a hF
    refine RL.val  hF rfl rfl rfl (r_assign hF rfl rfl) ?_; clear hF; clear a; intro a hF
    refine RL.nil (hK15 _ _ ?_)
    clear hK15 K14
    refine wp_ret ?_
    exact ret_of hF (res1 hF rfl rfl) ⟨_, rfl, h⟩
  clear hJ
  refine seq_region fun K16 hK17 => ?_
  refine RL.val  hF rfl rfl rfl (r_move hF rfl rfl) ?_; clear hF; clear a; intro a hF
  obtain ⟨p18, hpp18, h⟩ := h
  refine RL.val  hF rfl rfl rfl (r_nilCheck hF rfl (lkp rfl hpp18)) ?_; clear hF; clear a; intro a hF
  refine RL.val  hF rfl rfl rfl (r_fieldAddr hF rfl rfl Try.runUnderlying83 rfl Try.sizeOf81 rfl) ?_; clear hF; clear a; intro a hF
  obtain ⟨t19, hct19, h⟩ := h
  refine RL.val  hF rfl rfl rfl (r_load hF rfl rfl Try.isAgg81 hct19) ?_; clear hF; clear a; intro a hF
  obtain ⟨p20, w21, hc_, h⟩ := h
  refine RL.val  hF rfl rfl rfl (r_range hF rfl rfl hc_) ?_; clear hF; clear a; intro a hF
  refine RL.nil (hK17 _ _ ?_)
  clear hK17 K16
  refine wp_block ?_
  refine loop_ (fun (s22 : Slc) => [(3, s22.v), (9, .pointer (some p20))]) (hF.sub rfl) h ?_
  clear hF h
  intro s22 w23 N24 KL hN25 h a hF
  refine seq_region fun K26 hK27 => ?_
  obtain ⟨t28, b29, w30, hc_, hqt28, h⟩ := h
  refine RL.val  hF rfl rfl rfl (r_next hF rfl rfl hc_) ?_; clear hF; clear a; intro a hF
  refine RL.val  hF rfl rfl rfl (r_extract hF rfl rfl hqt28) ?_; clear hF; clear a; intro a hF
  refine RL.nil (hK27 _ _ ?_)
  clear hK27 K26
  refine seq_k fun K31 hK32 => ?_
  obtain ⟨J, hJ, h⟩ := jn_open h
  have jn36 : ∀ (v33 : Unit) (w34 : World) a, Fr 21 a [(3, s22.v), (9, .pointer (some p20))] → J v33 w34 → K31 a w34 := by
    intro v33 w34 a hF h
    replace h := hJ _ _ h
    clear hJ
    refine hK32 _ _ ?_
    refine wp_block ?_
    refine seq_region fun K37 hK38 => ?_
    obtain ⟨t39, t40, hct39, h⟩ := h
    refine RL.val  hF rfl rfl rfl (r_entry hF rfl rfl hct39) ?_; clear hF; clear a; intro a hF
    refine RL.val  hF rfl rfl rfl (r_extract hF rfl rfl rfl) ?_; clear hF; clear a; intro a hF
    refine RL.val  hF rfl rfl rfl (r_assign hF rfl rfl) ?_; clear hF; clear a; intro a hF
    refine RL.nil (hK38 _ _ ?_)
    clear hK38 K37
    refine end_region fun K41 hK42 => ?_
    refine RL.val  hF rfl rfl rfl (r_move hF rfl rfl) ?_; clear hF; clear a; intro a hF
    refine RL.val  hF rfl rfl rfl (r_move hF rfl rfl) ?_; clear hF; clear a; intro a hF
    obtain ⟨p44, w43, hp_, hw_, h⟩ := h
    refine RL.val (v := (Slc.mk (some p44) 1 1).v) (w' := w43) hF rfl rfl rfl (by rw [hp_, hw_]; exact r_buildSlice (xs := [(0, .int .i64 t39)]) hF rfl rfl (by kernel_rfl)) ?_; clear hF; clear a; intro a hF
    obtain ⟨t46, w45, hc_, h⟩ := h
    refine RL.val  hF rfl rfl rfl (r_append (xs := [s22.v, (Slc.mk (some p44) 1 1).v]) hF rfl rfl hc_) ?_; clear hF; clear a; intro a hF
    refine RL.val  hF rfl rfl rfl (r_assign hF rfl rfl) ?_; clear hF; clear a; intro a hF
    refine RL.nil (hK42 _ _ ?_)
    clear hK42 K41
    exact hN25 t46 _ _ (hF.sub rfl) h
  clear hJ
  obtain ⟨ht, hf⟩ := h
  refine cond_ hF rfl (fun hc => ?_) (fun hc => ?_)
  · replace h := ht hc; clear ht hf
    refine wp_skip ?_
    exact jn36 () _ _ (hF.sub rfl) h
  · replace h := hf hc; clear ht hf
    refine wp_exit ?_
    exact jn10 s22 _ _ (hF.sub rfl) h

set_option maxRecDepth 20000 in
theorem br25 {a0 : Option Addr} {a1 : Int} {a2 : Slc} {a3 : Bool} {w : World} {K : Int → World → Prop} (h : sh25 a0 a1 a2 a3 w K) : C25 a0 a1 a2 a3 w K := by
  unfold sh25 at h
  refine enter (n := 96) (l := [(0, .pointer a0), (1, .int .i64 a1), (2, a2.v), (3, .bool a3)]) 92 Try.func25 rfl _ rfl rfl rfl fun a hF => ?_
  refine seq_region fun K1 hK2 => ?_
  obtain ⟨p3, w4, hp_, hw_, h⟩ := h
  refine RL.val (v := .pointer (some p3)) (w' := w4) hF rfl rfl rfl (by rw [hp_, hw_]; exact r_box hF rfl rfl rfl) ?_; clear hF; clear a; intro a hF
  obtain ⟨p5, w6, hp_, hw_, h⟩ := h
  refine RL.val (v := .pointer (some p5)) (w' := w6) hF rfl rfl rfl (by rw [hp_, hw_]; exact r_box hF rfl rfl rfl) ?_; clear hF; clear a; intro a hF
  obtain ⟨p7, w8, hp_, hw_, h⟩ := h
  refine RL.val (v := .pointer (some p7)) (w' := w8) hF rfl rfl rfl (by rw [hp_, hw_]; exact r_box hF rfl rfl rfl) ?_; clear hF; clear a; intro a hF
  refine RL.val  hF rfl rfl rfl (r_assign hF rfl rfl) ?_; clear hF; clear a; intro a hF
  refine RL.nil (hK2 _ _ ?_)
  clear hK2 K1
  refine seq_k fun K9 hK10 => ?_
  obtain ⟨J, hJ, h⟩ := jn_open h
  have jn14 : ∀ (v11 : Unit) (w12 : World) a, Fr 96 a [(3, .bool a3), (4, .pointer (some p3)), (5, .pointer (some p5)), (6, .pointer (some p7))] → J v11 w12 → K9 a w12 := by
    intro v11 w12 a hF h
    replace h := hJ _ _ h
    clear hJ
    refine hK10 _ _ ?_
    refine seq_region fun K15 hK16 => ?_
    obtain ⟨t17, hct17, h⟩ := h
    refine RL.val  hF rfl rfl rfl (r_load hF rfl rfl Try.isAgg3 hct17) ?_; clear hF; clear a; intro a hF
    obtain ⟨t18, hct18, h⟩ := h
    refine RL.val  hF rfl rfl rfl (r_load hF rfl rfl Try.isAgg22 hct18) ?_; clear hF; clear a; intro a hF
    refine RL.val  hF rfl rfl rfl (r_len_slice hF rfl rfl Try.runUnderlying22) ?_; clear hF; clear a; intro a hF
    refine RL.val  hF rfl rfl rfl (r_add hF rfl rfl rfl) ?_; clear hF; clear a; intro a hF
    refine RL.val  hF rfl rfl rfl (r_assign hF rfl rfl) ?_; clear hF; clear a; intro a hF
    refine RL.nil (hK16 _ _ ?_)
    clear hK16 K15
    refine seq_k fun K19 hK20 => ?_
    obtain ⟨J, hJ, h⟩ := jn_open h
    have jn24 : ∀ (v21 : Unit) (w22 : World) a, Fr 96 a [(3, .bool a3), (4, .pointer (some p3)), (5, .pointer (some p5)), (6, .pointer (some p7)), (9, .int .i64 (IntKind.i64.wrap (t17 + (t18.len : Int))))] → J v21 w22 → K19 a w22 := by
      intro v21 w22 a hF h
      replace h := hJ _ _ h
      clear hJ
      refine hK20 _ _ ?_
      refine seq_draw 512 #[0, 0, 2, 6, 14, 0, 62, 127, 255, 511] 10 mo rfl (by kernel_rfl) (by kernel_rfl) fun hS K25 hK26 => ?_
      obtain ⟨w27, hw, h⟩ := h; rw [← hw]; clear hw
      obtain ⟨t28, hct28, h⟩ := h
      refine GL.read (v := .pointer t28) (i := 0) hF (fun x => World.cell? x p3 = some (.pointer t28)) hS rfl rfl (by kernel_rfl) rfl rfl rfl rfl hct28 (fun x hx => r_load hF rfl rfl Try.isAgg58 hx) ?_; clear hF; clear a; intro a hF
      obtain ⟨t29, hct29, h⟩ := h
      refine GL.read (v := .pointer t29) (i := 1) hF (fun x => World.cell? x p3 = some (.pointer t29)) hS rfl rfl (by kernel_rfl) rfl rfl rfl rfl hct29 (fun x hx => r_load hF rfl rfl Try.isAgg58 hx) ?_; clear hF; clear a; intro a hF
      obtain ⟨p30, hpp30, h⟩ := h
      refine GL.val (v := .pointer (some p30)) (i := 2) hF hS rfl rfl (by kernel_rfl) rfl rfl rfl rfl (fun x => r_nilCheck hF rfl (lkp rfl hpp30)) ?_; clear hF; clear a; intro a hF
      refine GL.val (v := .pointer (some (p30.add 4))) (i := 3) hF hS rfl rfl (by kernel_rfl) rfl rfl rfl rfl (fun x => r_fieldAddr hF rfl rfl Try.runUnderlying83 rfl Try.sizeOf3 rfl) ?_; clear hF; clear a; intro a hF
      obtain ⟨t31, hct31, h⟩ := h
      refine GL.read (v := .int .i64 t31) (i := 4) hF (fun x => World.cell? x (p30.add 4) = some (.int .i64 t31)) hS rfl rfl (by kernel_rfl) rfl rfl rfl rfl hct31 (fun x hx => r_load hF rfl rfl Try.isAgg3 hx) ?_; clear hF; clear a; intro a hF
      refine GL.val (v := .int .i64 (IntKind.i64.wrap (t17 + (t18.len : Int)))) (i := 5) hF hS rfl rfl (by kernel_rfl) rfl rfl rfl rfl (fun x => r_move hF rfl rfl) ?_; clear hF; clear a; intro a hF
      refine GL.val (v := .int .i64 (if (IntKind.i64.wrap (t17 + (t18.len : Int))) > t31 then (IntKind.i64.wrap (t17 + (t18.len : Int))) else t31)) (i := 6) hF hS rfl rfl (by kernel_rfl) rfl rfl rfl rfl (fun x => r_max hF rfl rfl rfl) ?_; clear hF; clear a; intro a hF
      obtain ⟨p32, hpp32, h⟩ := h
      refine GL.val (v := .pointer (some p32)) (i := 7) hF hS rfl rfl (by kernel_rfl) rfl rfl rfl rfl (fun x => r_nilCheck hF rfl (lkp rfl hpp32)) ?_; clear hF; clear a; intro a hF
      refine GL.val (v := .pointer (some (p32.add 4))) (i := 8) hF hS rfl rfl (by kernel_rfl) rfl rfl rfl rfl (fun x => r_fieldAddr hF rfl rfl Try.runUnderlying83 rfl Try.sizeOf3 rfl) ?_; clear hF; clear a; intro a hF
      refine GL.act (i := 9) (pend' := []) hS (by kernel_rfl) rfl (by kernel_rfl) ?_
      obtain ⟨u_, w33, hs1_, hs2_, hs3_, h⟩ := h
      refine op_unit (w' := w33) hF rfl rfl rfl (by rw [hs3_]; exact r_store hF rfl rfl rfl rfl Try.sizeOf3 hs1_ hs2_) trivial ?_; clear hF; clear a; intro a hF
      refine GL.done (by kernel_rfl) (hK26 _ _ ?_)
      clear hK26 K25
      refine seq_k fun K34 hK35 => ?_
      obtain ⟨J, hJ, h⟩ := jn_open h
      have jn39 : ∀ (v36 : Unit) (w37 : World) a, Fr 96 a [(4, .pointer (some p3)), (5, .pointer (some p5)), (6, .pointer (some p7)), (9, .int .i64 (IntKind.i64.wrap (t17 + (t18.len : Int))))] → J v36 w37 → K34 a w37 := by
        intro v36 w37 a hF h
        replace h := hJ _ _ h
        clear hJ
        refine hK35 _ _ ?_
        refine seq_draw 192 #[0, 0, 2, 6, 14, 31, 0, 127] 8 mo rfl (by kernel_rfl) (by kernel_rfl) fun hS K40 hK41 => ?_
        obtain ⟨w42, hw, h⟩ := h; rw [← hw]; clear hw
        obtain ⟨t43, hct43, h⟩ := h
        refine GL.read (v := .int .i64 t43) (i := 0) hF (fun x => World.cell? x p5 = some (.int .i64 t43)) hS rfl rfl (by kernel_rfl) rfl rfl rfl rfl hct43 (fun x hx => r_load hF rfl rfl Try.isAgg3 hx) ?_; clear hF; clear a; intro a hF
        obtain ⟨t44, hct44, h⟩ := h
        refine GL.read (v := .pointer t44) (i := 1) hF (fun x => World.cell? x p3 = some (.pointer t44)) hS rfl rfl (by kernel_rfl) rfl rfl rfl rfl hct44 (fun x hx => r_load hF rfl rfl Try.isAgg58 hx) ?_; clear hF; clear a; intro a hF
        obtain ⟨p45, hpp45, h⟩ := h
        refine GL.val (v := .pointer (some p45)) (i := 2) hF hS rfl rfl (by kernel_rfl) rfl rfl rfl rfl (fun x => r_nilCheck hF rfl (lkp rfl hpp45)) ?_; clear hF; clear a; intro a hF
        refine GL.val (v := .pointer (some (p45.add 2))) (i := 3) hF hS rfl rfl (by kernel_rfl) rfl rfl rfl rfl (fun x => r_fieldAddr hF rfl rfl Try.runUnderlying83 rfl Try.sizeOf3 rfl) ?_; clear hF; clear a; intro a hF
        obtain ⟨t46, hct46, h⟩ := h
        refine GL.read (v := .int .i64 t46) (i := 4) hF (fun x => World.cell? x (p45.add 2) = some (.int .i64 t46)) hS rfl rfl (by kernel_rfl) rfl rfl rfl rfl hct46 (fun x hx => r_load hF rfl rfl Try.isAgg3 hx) ?_; clear hF; clear a; intro a hF
        refine GL.val (v := .int .i64 (if t46 > t43 then t46 else t43)) (i := 5) hF hS rfl rfl (by kernel_rfl) rfl rfl rfl rfl (fun x => r_max hF rfl rfl rfl) ?_; clear hF; clear a; intro a hF
        refine GL.act (i := 6) (pend' := [(4, fun x => World.cell? x (p45.add 2) = some (.int .i64 t46)), (1, fun x => World.cell? x p3 = some (.pointer t44)), (0, fun x => World.cell? x p5 = some (.int .i64 t43))]) hS (by kernel_rfl) rfl (by kernel_rfl) ?_
        obtain ⟨p47, w48, hp_, hw_, h⟩ := h
        obtain ⟨hk49, hk50, hk51, h⟩ := h
        refine op_val (v := .pointer (some p47)) (w' := w48) hF rfl rfl rfl rfl (by rw [hp_, hw_]; exact r_alloc rfl Try.zeroValue3 rfl) ⟨hk49, hk50, hk51, trivial⟩ ?_; clear hF; clear a; intro a hF
        refine GL.act (i := 7) (pend' := []) hS (by kernel_rfl) rfl (by kernel_rfl) ?_
        obtain ⟨u_, w52, hs1_, hs2_, hs3_, h⟩ := h
        refine op_unit (w' := w52) hF rfl rfl rfl (by rw [hs3_]; exact r_store hF rfl rfl rfl rfl Try.sizeOf3 hs1_ hs2_) trivial ?_; clear hF; clear a; intro a hF
        refine GL.done (by kernel_rfl) (hK41 _ _ ?_)
        clear hK41 K40
        refine seq_region fun K53 hK54 => ?_
        refine RL.val  hF rfl rfl rfl (r_makeFunc (xs := []) (ys := [.pointer (some p47), .pointer (some p7), .pointer (some p5), .pointer (some p3)]) hF rfl rfl rfl) ?_; clear hF; clear a; intro a hF
        refine RL.val  hF rfl rfl rfl (r_assign hF rfl rfl) ?_; clear hF; clear a; intro a hF
        refine RL.nil (hK54 _ _ ?_)
        clear hK54 K53
        refine seq_k fun K55 hK56 => ?_
        obtain ⟨J, hJ, h⟩ := jn_open h
        have jn60 : ∀ (v57 : Unit) (w58 : World) a, Fr 96 a [(9, .int .i64 (IntKind.i64.wrap (t17 + (t18.len : Int)))), (12, (Value.func (Fn.func 44) #[] #[.pointer (some p47), .pointer (some p7), .pointer (some p5), .pointer (some p3)]))] → J v57 w58 → K55 a w58 := by
          intro v57 w58 a hF h
          replace h := hJ _ _ h
          clear hJ
          refine hK56 _ _ ?_
          refine seq_region fun K61 hK62 => ?_
          refine RL.val  hF rfl rfl rfl (r_move hF rfl rfl) ?_; clear hF; clear a; intro a hF
          refine RL.val  hF rfl rfl rfl (r_move hF rfl rfl) ?_; clear hF; clear a; intro a hF
          obtain ⟨f64, x65, y66, hf_, hg_, h⟩ := h
          refine RL.call hF rfl rfl rfl (r_callV (xs := [.int .i64 (IntKind.i64.wrap (t17 + (t18.len : Int)))]) hF rfl (by rw [← hf_]; rfl) rfl hg_) (CallsV.mono h ?_)
          clear h; rintro _ w63 ⟨rfl, h⟩; clear hF; clear a; intro a hF
          refine RL.nil (hK62 _ _ ?_)
          clear hK62 K61
          refine seq_region fun K67 hK68 => ?_
          refine RL.val  hF rfl rfl rfl (r_assign hF rfl rfl) ?_; clear hF; clear a; intro a hF
          refine RL.nil (hK68 _ _ ?_)
          clear hK68 K67
          refine wp_ret ?_
          exact ret_of hF (res1 hF rfl rfl) ⟨_, rfl, h⟩
        clear hJ
        refine seq_region fun K69 hK70 => ?_
        obtain ⟨t71, hct71, h⟩ := h
        refine RL.val  hF rfl rfl rfl (r_load hF rfl rfl Try.isAgg58 hct71) ?_; clear hF; clear a; intro a hF
        refine RL.call hF rfl rfl rfl (r_call (xs := [.pointer t71]) hF rfl rfl Try.call46) (CallsV.mono h ?_)
        clear h; rintro _ w72 ⟨r73, rfl, h⟩; clear hF; clear a; intro a hF
        refine RL.val  hF rfl rfl rfl (r_len_slice hF rfl rfl Try.runUnderlying76) ?_; clear hF; clear a; intro a hF
        refine RL.val  hF rfl rfl rfl (r_move hF rfl rfl) ?_; clear hF; clear a; intro a hF
        refine RL.nil (hK70 _ _ ?_)
        clear hK70 K69
        refine wp_block ?_
        refine loop_ (fun (s74 : Int) => [(4, .pointer (some p3)), (9, .int .i64 (IntKind.i64.wrap (t17 + (t18.len : Int)))), (11, .pointer (some p47)), (12, (Value.func (Fn.func 44) #[] #[.pointer (some p47), .pointer (some p7), .pointer (some p5), .pointer (some p3)])), (65, r73.v), (66, .int .i64 (r73.len : Int)), (67, .int .i64 s74)]) (hF.sub rfl) h ?_
        clear hF h
        intro s74 w75 N76 KL hN77 h a hF
        refine seq_region fun K78 hK79 => ?_
        refine RL.val  hF rfl rfl rfl (r_lss hF rfl rfl rfl) ?_; clear hF; clear a; intro a hF
        refine RL.nil (hK79 _ _ ?_)
        clear hK79 K78
        refine seq_k fun K80 hK81 => ?_
        obtain ⟨J, hJ, h⟩ := jn_open h
        have jn85 : ∀ (v82 : Unit) (w83 : World) a, Fr 96 a [(4, .pointer (some p3)), (9, .int .i64 (IntKind.i64.wrap (t17 + (t18.len : Int)))), (11, .pointer (some p47)), (12, (Value.func (Fn.func 44) #[] #[.pointer (some p47), .pointer (some p7), .pointer (some p5), .pointer (some p3)])), (65, r73.v), (66, .int .i64 (r73.len : Int)), (67, .int .i64 s74)] → J v82 w83 → K80 a w83 := by
          intro v82 w83 a hF h
          replace h := hJ _ _ h
          clear hJ
          refine hK81 _ _ ?_
          refine seq_k fun K86 hK87 => ?_
          obtain ⟨J, hJ, h⟩ := jn_open h
          have jn91 : ∀ (v88 : Unit) (w89 : World) a, Fr 96 a [(4, .pointer (some p3)), (9, .int .i64 (IntKind.i64.wrap (t17 + (t18.len : Int)))), (11, .pointer (some p47)), (12, (Value.func (Fn.func 44) #[] #[.pointer (some p47), .pointer (some p7), .pointer (some p5), .pointer (some p3)])), (65, r73.v), (66, .int .i64 (r73.len : Int)), (67, .int .i64 s74)] → J v88 w89 → K86 a w89 := by
            intro v88 w89 a hF h
            replace h := hJ _ _ h
            clear hJ
            refine hK87 _ _ ?_
            refine end_region fun K92 hK93 => ?_
            refine RL.val  hF rfl rfl rfl (r_add hF rfl rfl rfl) ?_; clear hF; clear a; intro a hF
            refine RL.val  hF rfl rfl rfl (r_move hF rfl rfl) ?_; clear hF; clear a; intro a hF
            refine RL.nil (hK93 _ _ ?_)
            clear hK93 K92
            exact hN77 (IntKind.i64.wrap (s74 + 1)) _ _ (hF.sub rfl) h
          clear hJ
          refine wp_block ?_
          refine seq_region fun K94 hK95 => ?_
          obtain ⟨b97, p96, hb_, h0_, h1_, hp_, h⟩ := h
          refine RL.val (v := .pointer (some p96)) (w' := w83) hF rfl rfl rfl (by rw [hp_]; exact r_indexAddr hF rfl (lks rfl hb_) rfl Try.runUnderlying76 Try.sizeOf3 h0_ h1_) ?_; clear hF; clear a; intro a hF
          obtain ⟨t98, hct98, h⟩ := h
          refine RL.val  hF rfl rfl rfl (r_load hF rfl rfl Try.isAgg3 hct98) ?_; clear hF; clear a; intro a hF
          refine RL.val  hF rfl rfl rfl (r_assign hF rfl rfl) ?_; clear hF; clear a; intro a hF
          refine RL.nil (hK95 _ _ ?_)
          clear hK95 K94
          refine seq_region fun K99 hK100 => ?_
          refine RL.val  hF rfl rfl rfl (r_move hF rfl rfl) ?_; clear hF; clear a; intro a hF
          obtain ⟨t101, hct101, h⟩ := h
          refine RL.val  hF rfl rfl rfl (r_load hF rfl rfl Try.isAgg58 hct101) ?_; clear hF; clear a; intro a hF
          obtain ⟨p102, hpp102, h⟩ := h
          refine RL.val  hF rfl rfl rfl (r_nilCheck hF rfl (lkp rfl hpp102)) ?_; clear hF; clear a; intro a hF
          refine RL.val  hF rfl rfl rfl (r_fieldAddr hF rfl rfl Try.runUnderlying83 rfl Try.sizeOf81 rfl) ?_; clear hF; clear a; intro a hF
          obtain ⟨t103, hct103, h⟩ := h
          refine RL.val  hF rfl rfl rfl (r_load hF rfl rfl Try.isAgg81 hct103) ?_; clear hF; clear a; intro a hF
          refine RL.val  hF rfl rfl rfl (r_move hF rfl rfl) ?_; clear hF; clear a; intro a hF
          obtain ⟨t104, hct104, h⟩ := h
          refine RL.val  hF rfl rfl rfl (r_lookup hF rfl rfl rfl hct104) ?_; clear hF; clear a; intro a hF
          refine RL.val  hF rfl rfl rfl (r_len_slice hF rfl rfl Try.runUnderlying22) ?_; clear hF; clear a; intro a hF
          refine RL.val  hF rfl rfl rfl (r_add hF rfl rfl rfl) ?_; clear hF; clear a; intro a hF
          refine RL.val  hF rfl rfl rfl (r_assign hF rfl rfl) ?_; clear hF; clear a; intro a hF
          refine RL.nil (hK100 _ _ ?_)
          clear hK100 K99
          refine seq_k fun K105 hK106 => ?_
          obtain ⟨J, hJ, h⟩ := jn_open h
          have jn110 : ∀ (v107 : Unit) (w108 : World) a, Fr 96 a [(4, .pointer (some p3)), (9, .int .i64 (IntKind.i64.wrap (t17 + (t18.len : Int)))), (11, .pointer (some p47)), (12, (Value.func (Fn.func 44) #[] #[.pointer (some p47), .pointer (some p7), .pointer (some p5), .pointer (some p3)])), (14, .int .i64 t98), (15, .int .i64 (IntKind.i64.wrap (t98 + (t104.len : Int)))), (65, r73.v), (66, .int .i64 (r73.len : Int)), (67, .int .i64 s74)] → J v107 w108 → K105 a w108 := by
            intro v107 w108 a hF h
            replace h := hJ _ _ h
            clear hJ
            refine hK106 _ _ ?_
            refine seq_k fun K111 hK112 => ?_
            obtain ⟨J, hJ, h⟩ := jn_open h
            have jn116 : ∀ (v113 : Unit) (w114 : World) a, Fr 96 a [(4, .pointer (some p3)), (9, .int .i64 (IntKind.i64.wrap (t17 + (t18.len : Int)))), (11, .pointer (some p47)), (12, (Value.func (Fn.func 44) #[] #[.pointer (some p47), .pointer (some p7), .pointer (some p5), .pointer (some p3)])), (14, .int .i64 t98), (15, .int .i64 (IntKind.i64.wrap (t98 + (t104.len : Int)))), (65, r73.v), (66, .int .i64 (r73.len : Int)), (67, .int .i64 s74)] → J v113 w114 → K111 a w114 := by
              intro v113 w114 a hF h
              replace h := hJ _ _ h
              clear hJ
              refine hK112 _ _ ?_
              refine seq_region fun K117 hK118 => ?_
              refine RL.val  hF rfl rfl rfl (r_move hF rfl rfl) ?_; clear hF; clear a; intro a hF
              refine RL.val  hF rfl rfl rfl (r_move hF rfl rfl) ?_; clear hF; clear a; intro a hF
              obtain ⟨f120, x121, y122, hf_, hg_, h⟩ := h
              refine RL.call hF rfl rfl rfl (r_callV (xs := [.int .i64 t98]) hF rfl (by rw [← hf_]; rfl) rfl hg_) (CallsV.mono h ?_)
              clear h; rintro _ w119 ⟨rfl, h⟩; clear hF; clear a; intro a hF
              refine RL.nil (hK118 _ _ ?_)
              clear hK118 K117
              refine end_region fun K123 hK124 => ?_
              obtain ⟨t125, hct125, h⟩ := h
              refine RL.val  hF rfl rfl rfl (r_load hF rfl rfl Try.isAgg3 hct125) ?_; clear hF; clear a; intro a hF
              refine RL.val  hF rfl rfl rfl (r_move hF rfl rfl) ?_; clear hF; clear a; intro a hF
              refine RL.val  hF rfl rfl rfl (r_max hF rfl rfl rfl) ?_; clear hF; clear a; intro a hF
              obtain ⟨u_, w126, hs1_, hs2_, hs3_, h⟩ := h
              refine RL.unit (w' := w126) hF rfl rfl (by rw [hs3_]; exact r_store hF rfl rfl rfl rfl Try.sizeOf3 hs1_ hs2_) ?_; clear hF; clear a; intro a hF
              refine RL.nil (hK124 _ _ ?_)
              clear hK124 K123
              exact jn91 () _ _ (hF.sub rfl) h
            clear hJ
            refine seq_region fun K127 hK128 => ?_
            refine RL.val  hF rfl rfl rfl (r_move hF rfl rfl) ?_; clear hF; clear a; intro a hF
            refine RL.val  hF rfl rfl rfl (r_move hF rfl rfl) ?_; clear hF; clear a; intro a hF
            refine RL.val  hF rfl rfl rfl (r_geq hF rfl rfl rfl) ?_; clear hF; clear a; intro a hF
            refine RL.nil (hK128 _ _ ?_)
            clear hK128 K127
            obtain ⟨ht, hf⟩ := h
            refine cond_ hF rfl (fun hc => ?_) (fun hc => ?_)
            · replace h := ht hc; clear ht hf
              refine wp_exit ?_
              exact jn60 () _ _ (hF.sub rfl) h
            · replace h := hf hc; clear ht hf
              refine wp_skip ?_
              exact jn116 () _ _ (hF.sub rfl) h
          clear hJ
          refine seq_region fun K129 hK130 => ?_
          refine RL.val  hF rfl rfl rfl (r_move hF rfl rfl) ?_; clear hF; clear a; intro a hF
          obtain ⟨t131, hct131, h⟩ := h
          refine RL.val  hF rfl rfl rfl (r_load hF rfl rfl Try.isAgg3 hct131) ?_; clear hF; clear a; intro a hF
          refine RL.val  hF rfl rfl rfl (r_leq hF rfl rfl rfl) ?_; clear hF; clear a; intro a hF
          refine RL.nil (hK130 _ _ ?_)
          clear hK130 K129
          obtain ⟨ht, hf⟩ := h
          refine cond_ hF rfl (fun hc => ?_) (fun hc => ?_)
          · replace h := ht hc; clear ht hf
            refine wp_exit ?_
            exact jn91 () _ _ (hF.sub rfl) h
          · replace h := hf hc; clear ht hf
            refine wp_skip ?_
            exact jn110 () _ _ (hF.sub rfl) h
        clear hJ
        obtain ⟨ht, hf⟩ := h
        refine cond_ hF rfl (fun hc => ?_) (fun hc => ?_)
        · replace h := ht hc; clear ht hf
          refine wp_skip ?_
          exact jn85 () _ _ (hF.sub rfl) h
        · replace h := hf hc; clear ht hf
          refine wp_exit ?_
          exact jn60 () _ _ (hF.sub rfl) h
      clear hJ
      refine seq_region fun K132 hK133 => ?_
      refine RL.val  hF rfl rfl rfl (r_move hF rfl rfl) ?_; clear hF; clear a; intro a hF
      refine RL.nil (hK133 _ _ ?_)
      clear hK133 K132
      obtain ⟨ht, hf⟩ := h
      refine cond_ hF rfl (fun hc => ?_) (fun hc => ?_)
      · replace h := ht hc; clear ht hf
        refine end_draw 288 #[0, 0, 0, 1, 9, 25, 63, 127, 255] 9 mo rfl (by kernel_rfl) (by kernel_rfl) fun hS K134 hK135 => ?_
        obtain ⟨w136, hw, h⟩ := h; rw [← hw]; clear hw
        obtain ⟨t137, hct137, h⟩ := h
        refine GL.read (v := .pointer t137) (i := 0) hF (fun x => World.cell? x p3 = some (.pointer t137)) hS rfl rfl (by kernel_rfl) rfl rfl rfl rfl hct137 (fun x hx => r_load hF rfl rfl Try.isAgg58 hx) ?_; clear hF; clear a; intro a hF
        obtain ⟨t138, hct138, h⟩ := h
        refine GL.read (v := .pointer t138) (i := 1) hF (fun x => World.cell? x p3 = some (.pointer t138)) hS rfl rfl (by kernel_rfl) rfl rfl rfl rfl hct138 (fun x hx => r_load hF rfl rfl Try.isAgg58 hx) ?_; clear hF; clear a; intro a hF
        refine GL.val (v := .int .i64 (IntKind.i64.wrap (t17 + (t18.len : Int)))) (i := 2) hF hS rfl rfl (by kernel_rfl) rfl rfl rfl rfl (fun x => r_move hF rfl rfl) ?_; clear hF; clear a; intro a hF
        obtain ⟨p139, hpp139, h⟩ := h
        refine GL.val (v := .pointer (some p139)) (i := 3) hF hS rfl rfl (by kernel_rfl) rfl rfl rfl rfl (fun x => r_nilCheck hF rfl (lkp rfl hpp139)) ?_; clear hF; clear a; intro a hF
        refine GL.val (v := .pointer (some (p139.add 6))) (i := 4) hF hS rfl rfl (by kernel_rfl) rfl rfl rfl rfl (fun x => r_fieldAddr hF rfl rfl Try.runUnderlying83 rfl Try.sizeOf4 rfl) ?_; clear hF; clear a; intro a hF
        refine GL.act (i := 5) (pend' := [(1, fun x => World.cell? x p3 = some (.pointer t138))]) hS (by kernel_rfl) rfl (by kernel_rfl) ?_
        obtain ⟨u_, w140, hs1_, hs2_, hs3_, h⟩ := h
        obtain ⟨hk141, h⟩ := h
        refine op_unit (w' := w140) hF rfl rfl rfl (by rw [hs3_]; exact r_store hF rfl rfl rfl rfl Try.sizeOf4 hs1_ hs2_) ⟨hk141, trivial⟩ ?_; clear hF; clear a; intro a hF
        obtain ⟨p142, hpp142, h⟩ := h
        refine GL.val (v := .pointer (some p142)) (i := 6) hF hS rfl rfl (by kernel_rfl) rfl rfl rfl rfl (fun x => r_nilCheck hF rfl (lkp rfl hpp142)) ?_; clear hF; clear a; intro a hF
        refine GL.val (v := .pointer (some (p142.add 5))) (i := 7) hF hS rfl rfl (by kernel_rfl) rfl rfl rfl rfl (fun x => r_fieldAddr hF rfl rfl Try.runUnderlying83 rfl Try.sizeOf3 rfl) ?_; clear hF; clear a; intro a hF
        refine GL.act (i := 8) (pend' := []) hS (by kernel_rfl) rfl (by kernel_rfl) ?_
        obtain ⟨u_, w143, hs1_, hs2_, hs3_, h⟩ := h
        refine op_unit (w' := w143) hF rfl rfl rfl (by rw [hs3_]; exact r_store hF rfl rfl rfl rfl Try.sizeOf3 hs1_ hs2_) trivial ?_; clear hF; clear a; intro a hF
        refine GL.done (by kernel_rfl) (hK135 _ _ ?_)
        clear hK135 K134
        exact jn39 () _ _ (hF.sub rfl) h
      · replace h := hf hc; clear ht hf
        refine wp_skip ?_
        exact jn39 () _ _ (hF.sub rfl) h
    clear hJ
    refine seq_region fun K144 hK145 => ?_
    obtain ⟨t146, hct146, h⟩ := h
    refine RL.val  hF rfl rfl rfl (r_load hF rfl rfl Try.isAgg58 hct146) ?_; clear hF; clear a; intro a hF
    refine RL.val  hF rfl rfl rfl (r_move hF rfl rfl) ?_; clear hF; clear a; intro a hF
    refine RL.val  hF rfl rfl rfl (r_move hF rfl rfl) ?_; clear hF; clear a; intro a hF
    refine RL.call hF rfl rfl rfl (r_call (xs := [.pointer t146, .int .i64 (IntKind.i64.wrap (t17 + (t18.len : Int))), .bool a3]) hF rfl rfl Try.call43) (CallsV.mono h ?_)
    clear h; rintro _ w147 ⟨r148, rfl, h⟩; clear hF; clear a; intro a hF
    refine RL.val  hF rfl rfl rfl (r_assign hF rfl rfl) ?_; clear hF; clear a; intro a hF
    refine RL.nil (hK145 _ _ ?_)
    clear hK145 K144
    refine seq_region fun K149 hK150 => ?_
    refine RL.val  hF rfl rfl rfl (r_move hF rfl rfl) ?_; clear hF; clear a; intro a hF
    refine RL.val  hF rfl rfl rfl (r_neq hF rfl rfl rfl) ?_; clear hF; clear a; intro a hF
    refine RL.nil (hK150 _ _ ?_)
    clear hK150 K149
    obtain ⟨ht, hf⟩ := h
    refine cond_ hF rfl (fun hc => ?_) (fun hc => ?_)
    · replace h := ht hc; clear ht hf
      refine seq_region fun K151 hK152 => ?_
      refine RL.val  hF rfl rfl rfl (r_move hF rfl rfl) ?_; clear hF; clear a; intro a hF
      refine RL.val  hF rfl rfl rfl (r_assign hF rfl rfl) ?_; clear hF; clear a; intro a hF
      refine RL.nil (hK152 _ _ ?_)
      clear hK152 K151
      refine wp_ret ?_
      exact ret_of hF (res1 hF rfl rfl) ⟨_, rfl, h⟩
    · replace h := hf hc; clear ht hf
      refine wp_skip ?_
      exact jn24 () _ _ (hF.sub rfl) h
  clear hJ
  refine wp_block ?_
  refine seq_region fun K153 hK154 => ?_
  obtain ⟨t155, hct155, h⟩ := h
  refine RL.val  hF rfl rfl rfl (r_load hF rfl rfl Try.isAgg58 hct155) ?_; clear hF; clear a; intro a hF
  refine RL.call hF rfl rfl rfl (r_call (xs := [.pointer t155]) hF rfl rfl Try.call42) (CallsV.mono h ?_)
  clear h; rintro _ w156 ⟨r157, rfl, h⟩; clear hF; clear a; intro a hF
  refine RL.val  hF rfl rfl rfl (r_assign hF rfl rfl) ?_; clear hF; clear a; intro a hF
  refine RL.nil (hK154 _ _ ?_)
  clear hK154 K153
  obtain ⟨ht, hf⟩ := h
  refine cond_ hF rfl (fun hc => ?_) (fun hc => ?_)
  · replace h := ht hc; clear ht hf
    refine seq_region fun K158 hK159 => ?_
    refine RL.val  hF rfl rfl rfl (r_assign hF rfl rfl) ?_; clear hF; clear a; intro a hF
    refine RL.nil (hK159 _ _ ?_)
    clear hK159 K158
    refine wp_ret ?_
    exact ret_of hF (res1 hF rfl rfl) ⟨_, rfl, h⟩
  · replace h := hf hc; clear ht hf
    refine seq_region fun K160 hK161 => ?_
    obtain ⟨J164, hJ, h⟩ := jn_open h
    have jn165 : ∀ (v162 : Bool) (w163 : World) a, Fr 96 a [(3, .bool a3), (4, .pointer (some p3)), (5, .pointer (some p5)), (6, .pointer (some p7)), (19, .bool v162)] → J164 v162 w163 → K160 a w163 := by
      clear hF
      intro v162 w163 a hF h; replace h := hJ _ _ h; refine hK161 _ _ ?_; clear hJ hK161 K160
      obtain ⟨ht, hf⟩ := h
      refine cond_ hF rfl (fun hc => ?_) (fun hc => ?_)
      · replace h := ht hc; clear ht hf
        refine seq_region fun K166 hK167 => ?_
        refine RL.val  hF rfl rfl rfl (r_assign hF rfl rfl) ?_; clear hF; clear a; intro a hF
        refine RL.nil (hK167 _ _ ?_)
        clear hK167 K166
        refine wp_ret ?_
        exact ret_of hF (res1 hF rfl rfl) ⟨_, rfl, h⟩
      · replace h := hf hc; clear ht hf
        refine wp_skip ?_
        exact jn14 () _ _ (hF.sub rfl) h
    clear hJ hK161
    obtain ⟨t168, hct168, h⟩ := h
    refine RL.val  hF rfl rfl rfl (r_load hF rfl rfl Try.isAgg3 hct168) ?_; clear hF; clear a; intro a hF
    refine RL.val  hF rfl rfl rfl (r_lss hF rfl rfl rfl) ?_; clear hF; clear a; intro a hF
    refine RL.val  hF rfl rfl rfl (r_move hF rfl rfl) ?_; clear hF; clear a; intro a hF
    obtain ⟨ht, hf⟩ := h
    rcases bool_cases (decide (t168 < 0)) with hg169 | hg169
    · replace h := ht hg169; clear ht hf
      refine RL.skip hF rfl rfl (lkb rfl hg169) (.inl rfl) rfl rfl ?_; clear hF; clear a; intro a hF
      refine RL.skip hF rfl rfl (lkb rfl hg169) (.inl rfl) rfl rfl ?_; clear hF; clear a; intro a hF
      refine RL.skip hF rfl rfl (lkb rfl hg169) (.inl rfl) rfl rfl ?_; clear hF; clear a; intro a hF
      refine RL.skip hF rfl rfl (lkb rfl hg169) (.inl rfl) rfl rfl ?_; clear hF; clear a; intro a hF
      refine RL.skip hF rfl rfl (lkb rfl hg169) (.inl rfl) rfl rfl ?_; clear hF; clear a; intro a hF
      refine RL.val (v := .bool true) (w' := w156) hF rfl rfl rfl (r_pick hF rfl rfl rfl rfl (fun _ => rfl) (fun e => absurd (hg169.symm.trans e) (by decide))) ?_; clear hF; clear a; intro a hF
      refine RL.val  hF rfl rfl rfl (r_assign hF rfl rfl) ?_; clear hF; clear a; intro a hF
      refine RL.nil ?_
      exact jn165 true _ _ (hF.sub rfl) h
    · replace h := hf hg169; clear ht hf
      obtain ⟨t170, hct170, h⟩ := h
      refine RL.gval  hF rfl rfl (lkb rfl hg169) rfl rfl (r_load hF rfl rfl Try.isAgg3 hct170) ?_; clear hF; clear a; intro a hF
      obtain ⟨t171, hct171, h⟩ := h
      refine RL.gval  hF rfl rfl (lkb rfl hg169) rfl rfl (r_load hF rfl rfl Try.isAgg22 hct171) ?_; clear hF; clear a; intro a hF
      refine RL.gval  hF rfl rfl (lkb rfl hg169) rfl rfl (r_len_slice hF rfl rfl Try.runUnderlying22) ?_; clear hF; clear a; intro a hF
      refine RL.gval  hF rfl rfl (lkb rfl hg169) rfl rfl (r_sub hF rfl rfl rfl) ?_; clear hF; clear a; intro a hF
      refine RL.gval  hF rfl rfl (lkb rfl hg169) rfl rfl (r_gtr hF rfl rfl rfl) ?_; clear hF; clear a; intro a hF
      refine RL.val (v := .bool (decide (t170 > (IntKind.i64.wrap (4611686018427387903 - (t171.len : Int)))))) (w' := w156) hF rfl rfl rfl (r_pick hF rfl rfl rfl rfl (fun e => absurd (hg169.symm.trans e) (by decide)) (fun _ => rfl)) ?_; clear hF; clear a; intro a hF
      refine RL.val  hF rfl rfl rfl (r_assign hF rfl rfl) ?_; clear hF; clear a; intro a hF
      refine RL.nil ?_
      exact jn165 (decide (t170 > (IntKind.i64.wrap (4611686018427387903 - (t171.len : Int))))) _ _ (hF.sub rfl) h


end Go.Proofs.Ytfgodebgjemljaa
