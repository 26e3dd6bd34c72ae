/-
  Printed by a program: the plain texts of the functions, and their ties to the code.
-/
import Derived.Test.YtfgodebgjemljaaBridgeA5
namespace Go.Proofs.Ytfgodebgjemljaa
open Go Go.Sh
set_option linter.unusedVariables false
set_option linter.unusedSimpArgs false
set_option maxRecDepth 20000 in
theorem br35 {a0 : Option Addr} {a1 : Array Value} {w : World} {K : Int → World → Prop} (h : sh35 a0 a1 w K) : C35 a0 a1 w K := by
  unfold sh35 at h
  refine enter (n := 53) (l := [(0, .pointer a0), (1, .agg a1)]) 51 Try.func35 rfl _ rfl rfl rfl fun a hF => ?_
  refine seq_region fun K1 hK2 => ?_
  obtain ⟨p3, w4, hp_, hw_, h⟩ := h
  refine RL.val (v := .pointer (some p3)) (w' := w4) hF rfl rfl rfl (by rw [hp_, hw_]; exact r_box hF rfl rfl rfl) ?_; clear hF; clear a; intro a hF
  refine RL.val  hF rfl rfl rfl (r_assign hF rfl rfl) ?_; clear hF; clear a; intro a hF
  refine RL.nil (hK2 _ _ ?_)
  clear hK2 K1
  refine seq_k fun K5 hK6 => ?_
  obtain ⟨J, hJ, h⟩ := jn_open h
  have jn10 : ∀ (v7 : Unit) (w8 : World) a, Fr 53 a [] → J v7 w8 → K5 a w8 := by
    intro v7 w8 a hF h
    replace h := hJ _ _ h
    clear hJ
    refine hK6 _ _ ?_
    refine seq_region fun K11 hK12 => ?_
    refine RL.val  hF rfl rfl rfl (r_assign hF rfl rfl) ?_; clear hF; clear a; intro a hF
    refine RL.nil (hK12 _ _ ?_)
    clear hK12 K11
    refine wp_ret ?_
    exact ret_of hF (res1 hF rfl rfl) ⟨_, rfl, h⟩
  clear hJ
  refine wp_block ?_
  refine seq_region fun K13 hK14 => ?_
  refine RL.val  hF rfl rfl rfl (r_move hF rfl rfl) ?_; clear hF; clear a; intro a hF
  refine RL.call hF rfl rfl rfl (r_call (xs := [.pointer a0]) hF rfl rfl Try.call28) (CallsV.mono h ?_)
  clear h; rintro _ w15 ⟨r16, rfl, h⟩; clear hF; clear a; intro a hF
  refine RL.val  hF rfl rfl rfl (r_assign hF rfl rfl) ?_; clear hF; clear a; intro a hF
  refine RL.nil (hK14 _ _ ?_)
  clear hK14 K13
  obtain ⟨ht, hf⟩ := h
  refine cond_ hF rfl (fun hc => ?_) (fun hc => ?_)
  · replace h := ht hc; clear ht hf
    refine seq_region fun K17 hK18 => ?_
    refine RL.val  hF rfl rfl rfl (r_assign hF rfl rfl) ?_; clear hF; clear a; intro a hF
    refine RL.nil (hK18 _ _ ?_)
    clear hK18 K17
    refine wp_ret ?_
    exact ret_of hF (res1 hF rfl rfl) ⟨_, rfl, h⟩
  · replace h := hf hc; clear ht hf
    refine seq_draw 0 #[0, 1, 3, 7, 15, 31, 15, 79, 207, 463, 15, 1039, 3087, 8143, 16383, 32767, 65535] 17 mo rfl (by kernel_rfl) (by kernel_rfl) fun hS K19 hK20 => ?_
    obtain ⟨w21, hw, h⟩ := h; rw [← hw]; clear hw
    obtain ⟨J24, hJ, h⟩ := jn_open h
    have jn25 : ∀ (v22 : Bool) (w23 : World) a, Fr 53 a [(0, .pointer a0), (3, .pointer (some p3)), (8, .bool v22)] → J24 v22 w23 → K19 a w23 := by
      clear hF
      intro v22 w23 a hF h; replace h := hJ _ _ h; refine hK20 _ _ ?_; clear hJ hK20 K19
      obtain ⟨ht, hf⟩ := h
      refine cond_ hF rfl (fun hc => ?_) (fun hc => ?_)
      · replace h := ht hc; clear ht hf
        refine seq_region fun K26 hK27 => ?_
        refine RL.val  hF rfl rfl rfl (r_assign hF rfl rfl) ?_; clear hF; clear a; intro a hF
        refine RL.nil (hK27 _ _ ?_)
        clear hK27 K26
        refine wp_ret ?_
        exact ret_of hF (res1 hF rfl rfl) ⟨_, rfl, h⟩
      · replace h := hf hc; clear ht hf
        refine seq_draw 1024 #[0, 1, 3, 7, 15, 7, 39, 103, 255, 7, 519, 2047, 4095, 8191, 16383, 32767, 65535, 131071, 262143, 524287, 1048575, 2097151, 4194303, 8388607, 16777215, 33554431, 67108863, 134217727] 28 mo rfl (by kernel_rfl) (by kernel_rfl) fun hS K28 hK29 => ?_
        obtain ⟨w30, hw, h⟩ := h; rw [← hw]; clear hw
        obtain ⟨J33, hJ, h⟩ := jn_open h
        have jn34 : ∀ (v31 : Bool) (w32 : World) a, Fr 53 a [(25, .bool v31)] → J33 v31 w32 → K28 a w32 := by
          clear hF
          intro v31 w32 a hF h; replace h := hJ _ _ h; refine hK29 _ _ ?_; clear hJ hK29 K28
          obtain ⟨ht, hf⟩ := h
          refine cond_ hF rfl (fun hc => ?_) (fun hc => ?_)
          · replace h := ht hc; clear ht hf
            refine seq_region fun K35 hK36 => ?_
            refine RL.val  hF rfl rfl rfl (r_assign hF rfl rfl) ?_; clear hF; clear a; intro a hF
            refine RL.nil (hK36 _ _ ?_)
            clear hK36 K35
            refine wp_ret ?_
            exact ret_of hF (res1 hF rfl rfl) ⟨_, rfl, h⟩
          · replace h := hf hc; clear ht hf
            refine wp_skip ?_
            exact jn10 () _ _ (hF.sub rfl) h
        clear hJ hK29
        refine GL.val (v := .pointer (some (p3.add 2))) (i := 0) hF hS rfl rfl (by kernel_rfl) rfl rfl rfl rfl (fun x => r_fieldAddr hF rfl rfl Try.runUnderlying30 rfl Try.sizeOf4 rfl) ?_; clear hF; clear a; intro a hF
        obtain ⟨t37, hct37, h⟩ := h
        refine GL.read (v := .bool t37) (i := 1) hF (fun x => World.cell? x (p3.add 2) = some (.bool t37)) hS rfl rfl (by kernel_rfl) rfl rfl rfl rfl hct37 (fun x hx => r_load hF rfl rfl Try.isAgg4 hx) ?_; clear hF; clear a; intro a hF
        refine GL.val (v := .bool t37) (i := 2) hF hS rfl rfl (by kernel_rfl) rfl rfl rfl rfl (fun x => r_move hF rfl rfl) ?_; clear hF; clear a; intro a hF
        obtain ⟨ht, hf⟩ := h
        rcases bool_cases t37 with hg38 | hg38
        · replace h := ht hg38; clear ht hf
          refine GL.gval (v := .pointer (some p3)) (i := 3) hF hS rfl rfl (by kernel_rfl) rfl rfl rfl (lkb rfl hg38) rfl rfl (fun x => r_fieldAddr0 hF rfl rfl Try.runUnderlying30 rfl Try.sizeOf3 rfl) ?_; clear hF; clear a; intro a hF
          obtain ⟨t39, hct39, h⟩ := h
          refine GL.gread (v := .int .i64 t39) (i := 4) hF (fun x => World.cell? x p3 = some (.int .i64 t39)) hS rfl rfl (by kernel_rfl) rfl rfl rfl (lkb rfl hg38) rfl rfl hct39 (fun x hx => r_load hF rfl rfl Try.isAgg3 hx) ?_; clear hF; clear a; intro a hF
          refine GL.gval (v := .pointer (some (p3.add 1))) (i := 5) hF hS rfl rfl (by kernel_rfl) rfl rfl rfl (lkb rfl hg38) rfl rfl (fun x => r_fieldAddr hF rfl rfl Try.runUnderlying30 rfl Try.sizeOf22 rfl) ?_; clear hF; clear a; intro a hF
          obtain ⟨t40, hct40, h⟩ := h
          refine GL.gread (v := t40.v) (i := 6) hF (fun x => World.cell? x (p3.add 1) = some (t40.v)) hS rfl rfl (by kernel_rfl) rfl rfl rfl (lkb rfl hg38) rfl rfl hct40 (fun x hx => r_load hF rfl rfl Try.isAgg22 hx) ?_; clear hF; clear a; intro a hF
          refine GL.gval (v := .int .i64 (t40.len : Int)) (i := 7) hF hS rfl rfl (by kernel_rfl) rfl rfl rfl (lkb rfl hg38) rfl rfl (fun x => r_len_slice hF rfl rfl Try.runUnderlying22) ?_; clear hF; clear a; intro a hF
          refine GL.gval (v := .int .i64 (IntKind.i64.wrap (t39 + (t40.len : Int)))) (i := 8) hF hS rfl rfl (by kernel_rfl) rfl rfl rfl (lkb rfl hg38) rfl rfl (fun x => r_add hF rfl rfl rfl) ?_; clear hF; clear a; intro a hF
          refine GL.gval (v := .pointer a0) (i := 9) hF hS rfl rfl (by kernel_rfl) rfl rfl rfl (lkb rfl hg38) rfl rfl (fun x => r_move hF rfl rfl) ?_; clear hF; clear a; intro a hF
          refine GL.act (i := 10) (pend' := [(6, fun x => World.cell? x (p3.add 1) = some (t40.v)), (4, fun x => World.cell? x p3 = some (.int .i64 t39))]) hS (by kernel_rfl) rfl (by kernel_rfl) ?_
          refine op_gcall hF rfl rfl rfl (lkb rfl hg38) rfl rfl (r_call (xs := [.pointer a0]) hF rfl rfl Try.call32) (CallsV.mono h ?_)
          clear h; rintro _ w41 ⟨r42, rfl, h⟩
          obtain ⟨hk43, hk44, h⟩ := h
          refine ⟨⟨hk43, hk44, trivial⟩, ?_⟩; clear hF; clear a; intro a hF
          refine GL.gval (v := .bool ((IntKind.i64.wrap (t39 + (t40.len : Int))) != r42)) (i := 11) hF hS rfl rfl (by kernel_rfl) rfl rfl rfl (lkb rfl hg38) rfl rfl (fun x => r_neq hF rfl rfl rfl) ?_; clear hF; clear a; intro a hF
          refine GL.gval (v := .bool ((IntKind.i64.wrap (t39 + (t40.len : Int))) != r42)) (i := 12) hF hS rfl rfl (by kernel_rfl) rfl rfl rfl (lkb rfl hg38) rfl rfl (fun x => r_move hF rfl rfl) ?_; clear hF; clear a; intro a hF
          obtain ⟨ht, hf⟩ := h
          rcases bool_cases ((IntKind.i64.wrap (t39 + (t40.len : Int))) != r42) with hg45 | hg45
          · replace h := ht hg45; clear ht hf
            refine GL.skip (i := 13) hF hS rfl rfl (by kernel_rfl) rfl rfl rfl (lkb rfl hg45) (.inl rfl) rfl rfl ?_; clear hF; clear a; intro a hF
            refine GL.skip (i := 14) hF hS rfl rfl (by kernel_rfl) rfl rfl rfl (lkb rfl hg45) (.inl rfl) rfl rfl ?_; clear hF; clear a; intro a hF
            refine GL.skip (i := 15) hF hS rfl rfl (by kernel_rfl) rfl rfl rfl (lkb rfl hg45) (.inl rfl) rfl rfl ?_; clear hF; clear a; intro a hF
            refine GL.skip (i := 16) hF hS rfl rfl (by kernel_rfl) rfl rfl rfl (lkb rfl hg45) (.inl rfl) rfl rfl ?_; clear hF; clear a; intro a hF
            refine GL.skip (i := 17) hF hS rfl rfl (by kernel_rfl) rfl rfl rfl (lkb rfl hg45) (.inl rfl) rfl rfl ?_; clear hF; clear a; intro a hF
            refine GL.gval (v := .bool true) (i := 18) hF hS rfl rfl (by kernel_rfl) rfl rfl rfl (lkb rfl hg38) rfl rfl (fun x => r_pick hF rfl rfl rfl rfl (fun _ => rfl) (fun e => absurd (hg45.symm.trans e) (by decide))) ?_; clear hF; clear a; intro a hF
            refine GL.gval (v := .bool true) (i := 19) hF hS rfl rfl (by kernel_rfl) rfl rfl rfl (lkb rfl hg38) rfl rfl (fun x => r_move hF rfl rfl) ?_; clear hF; clear a; intro a hF
            refine GL.skip (i := 20) hF hS rfl rfl (by kernel_rfl) rfl rfl rfl rfl (.inl rfl) rfl rfl ?_; clear hF; clear a; intro a hF
            refine GL.skip (i := 21) hF hS rfl rfl (by kernel_rfl) rfl rfl rfl rfl (.inl rfl) rfl rfl ?_; clear hF; clear a; intro a hF
            refine GL.skip (i := 22) hF hS rfl rfl (by kernel_rfl) rfl rfl rfl rfl (.inl rfl) rfl rfl ?_; clear hF; clear a; intro a hF
            refine GL.skip (i := 23) hF hS rfl rfl (by kernel_rfl) rfl rfl rfl rfl (.inl rfl) rfl rfl ?_; clear hF; clear a; intro a hF
            refine GL.skip (i := 24) hF hS rfl rfl (by kernel_rfl) rfl rfl rfl rfl (.inl rfl) rfl rfl ?_; clear hF; clear a; intro a hF
            refine GL.gval (v := .bool true) (i := 25) hF hS rfl rfl (by kernel_rfl) rfl rfl rfl (lkb rfl hg38) rfl rfl (fun x => r_pick hF rfl rfl rfl rfl (fun _ => rfl) (fun e => absurd e (by decide))) ?_; clear hF; clear a; intro a hF
            refine GL.val (v := .bool true) (i := 26) hF hS rfl rfl (by kernel_rfl) rfl rfl rfl rfl (fun x => r_pick hF rfl rfl rfl rfl (fun _ => rfl) (fun e => absurd (hg38.symm.trans e) (by decide))) ?_; clear hF; clear a; intro a hF
            refine GL.val (v := .bool true) (i := 27) hF hS rfl rfl (by kernel_rfl) rfl rfl rfl rfl (fun x => r_assign hF rfl rfl) ?_; clear hF; clear a; intro a hF
            refine GL.done (by kernel_rfl) ?_
            exact jn34 true _ _ (hF.sub rfl) h
          · replace h := hf hg45; clear ht hf
            refine GL.gval (v := .pointer a0) (i := 13) hF hS rfl rfl (by kernel_rfl) rfl rfl rfl (lkb rfl hg45) rfl rfl (fun x => r_move hF rfl rfl) ?_; clear hF; clear a; intro a hF
            obtain ⟨p46, hpp46, h⟩ := h
            refine GL.gval (v := .pointer (some p46)) (i := 14) hF hS rfl rfl (by kernel_rfl) rfl rfl rfl (lkb rfl hg45) rfl rfl (fun x => r_nilCheck hF rfl (lkp rfl hpp46)) ?_; clear hF; clear a; intro a hF
            refine GL.gval (v := .pointer (some (p46.add 6))) (i := 15) hF hS rfl rfl (by kernel_rfl) rfl rfl rfl (lkb rfl hg45) rfl rfl (fun x => r_fieldAddr hF rfl rfl Try.runUnderlying70 rfl Try.sizeOf3 rfl) ?_; clear hF; clear a; intro a hF
            obtain ⟨t47, hct47, h⟩ := h
            refine GL.gread (v := .int .i64 t47) (i := 16) hF (fun x => World.cell? x (p46.add 6) = some (.int .i64 t47)) hS rfl rfl (by kernel_rfl) rfl rfl rfl (lkb rfl hg45) rfl rfl hct47 (fun x hx => r_load hF rfl rfl Try.isAgg3 hx) ?_; clear hF; clear a; intro a hF
            refine GL.gval (v := .bool (t47 == 0)) (i := 17) hF hS rfl rfl (by kernel_rfl) rfl rfl rfl (lkb rfl hg45) rfl rfl (fun x => r_eql hF rfl rfl rfl) ?_; clear hF; clear a; intro a hF
            refine GL.gval (v := .bool (t47 == 0)) (i := 18) hF hS rfl rfl (by kernel_rfl) rfl rfl rfl (lkb rfl hg38) rfl rfl (fun x => r_pick hF rfl rfl rfl rfl (fun e => absurd (hg45.symm.trans e) (by decide)) (fun _ => rfl)) ?_; clear hF; clear a; intro a hF
            refine GL.gval (v := .bool (t47 == 0)) (i := 19) hF hS rfl rfl (by kernel_rfl) rfl rfl rfl (lkb rfl hg38) rfl rfl (fun x => r_move hF rfl rfl) ?_; clear hF; clear a; intro a hF
            obtain ⟨ht, hf⟩ := h
            rcases bool_cases (t47 == 0) with hg48 | hg48
            · replace h := ht hg48; clear ht hf
              refine GL.skip (i := 20) hF hS rfl rfl (by kernel_rfl) rfl rfl rfl (lkb rfl hg48) (.inl rfl) rfl rfl ?_; clear hF; clear a; intro a hF
              refine GL.skip (i := 21) hF hS rfl rfl (by kernel_rfl) rfl rfl rfl (lkb rfl hg48) (.inl rfl) rfl rfl ?_; clear hF; clear a; intro a hF
              refine GL.skip (i := 22) hF hS rfl rfl (by kernel_rfl) rfl rfl rfl (lkb rfl hg48) (.inl rfl) rfl rfl ?_; clear hF; clear a; intro a hF
              refine GL.skip (i := 23) hF hS rfl rfl (by kernel_rfl) rfl rfl rfl (lkb rfl hg48) (.inl rfl) rfl rfl ?_; clear hF; clear a; intro a hF
              refine GL.skip (i := 24) hF hS rfl rfl (by kernel_rfl) rfl rfl rfl (lkb rfl hg48) (.inl rfl) rfl rfl ?_; clear hF; clear a; intro a hF
              refine GL.gval (v := .bool true) (i := 25) hF hS rfl rfl (by kernel_rfl) rfl rfl rfl (lkb rfl hg38) rfl rfl (fun x => r_pick hF rfl rfl rfl rfl (fun _ => rfl) (fun e => absurd (hg48.symm.trans e) (by decide))) ?_; clear hF; clear a; intro a hF
              refine GL.val (v := .bool true) (i := 26) hF hS rfl rfl (by kernel_rfl) rfl rfl rfl rfl (fun x => r_pick hF rfl rfl rfl rfl (fun _ => rfl) (fun e => absurd (hg38.symm.trans e) (by decide))) ?_; clear hF; clear a; intro a hF
              refine GL.val (v := .bool true) (i := 27) hF hS rfl rfl (by kernel_rfl) rfl rfl rfl rfl (fun x => r_assign hF rfl rfl) ?_; clear hF; clear a; intro a hF
              refine GL.done (by kernel_rfl) ?_
              exact jn34 true _ _ (hF.sub rfl) h
            · replace h := hf hg48; clear ht hf
              refine GL.gval (v := .pointer a0) (i := 20) hF hS rfl rfl (by kernel_rfl) rfl rfl rfl (lkb rfl hg48) rfl rfl (fun x => r_move hF rfl rfl) ?_; clear hF; clear a; intro a hF
              obtain ⟨p49, hpp49, h⟩ := h
              refine GL.gval (v := .pointer (some p49)) (i := 21) hF hS rfl rfl (by kernel_rfl) rfl rfl rfl (lkb rfl hg48) rfl rfl (fun x => r_nilCheck hF rfl (lkp rfl hpp49)) ?_; clear hF; clear a; intro a hF
              refine GL.gval (v := .pointer (some (p49.add 6))) (i := 22) hF hS rfl rfl (by kernel_rfl) rfl rfl rfl (lkb rfl hg48) rfl rfl (fun x => r_fieldAddr hF rfl rfl Try.runUnderlying70 rfl Try.sizeOf3 rfl) ?_; clear hF; clear a; intro a hF
              obtain ⟨t50, hct50, h⟩ := h
              refine GL.gread (v := .int .i64 t50) (i := 23) hF (fun x => World.cell? x (p49.add 6) = some (.int .i64 t50)) hS rfl rfl (by kernel_rfl) rfl rfl rfl (lkb rfl hg48) rfl rfl hct50 (fun x hx => r_load hF rfl rfl Try.isAgg3 hx) ?_; clear hF; clear a; intro a hF
              refine GL.gval (v := .bool (t50 == 1)) (i := 24) hF hS rfl rfl (by kernel_rfl) rfl rfl rfl (lkb rfl hg48) rfl rfl (fun x => r_eql hF rfl rfl rfl) ?_; clear hF; clear a; intro a hF
              refine GL.gval (v := .bool (t50 == 1)) (i := 25) hF hS rfl rfl (by kernel_rfl) rfl rfl rfl (lkb rfl hg38) rfl rfl (fun x => r_pick hF rfl rfl rfl rfl (fun e => absurd (hg48.symm.trans e) (by decide)) (fun _ => rfl)) ?_; clear hF; clear a; intro a hF
              refine GL.val (v := .bool (t50 == 1)) (i := 26) hF hS rfl rfl (by kernel_rfl) rfl rfl rfl rfl (fun x => r_pick hF rfl rfl rfl rfl (fun _ => rfl) (fun e => absurd (hg38.symm.trans e) (by decide))) ?_; clear hF; clear a; intro a hF
              refine GL.val (v := .bool (t50 == 1)) (i := 27) hF hS rfl rfl (by kernel_rfl) rfl rfl rfl rfl (fun x => r_assign hF rfl rfl) ?_; clear hF; clear a; intro a hF
              refine GL.done (by kernel_rfl) ?_
              exact jn34 (t50 == 1) _ _ (hF.sub rfl) h
        · replace h := hf hg38; clear ht hf
          refine GL.skip (i := 3) hF hS rfl rfl (by kernel_rfl) rfl rfl rfl (lkb rfl hg38) (.inl rfl) rfl rfl ?_; clear hF; clear a; intro a hF
          refine GL.skip (i := 4) hF hS rfl rfl (by kernel_rfl) rfl rfl rfl (lkb rfl hg38) (.inl rfl) rfl rfl ?_; clear hF; clear a; intro a hF
          refine GL.skip (i := 5) hF hS rfl rfl (by kernel_rfl) rfl rfl rfl (lkb rfl hg38) (.inl rfl) rfl rfl ?_; clear hF; clear a; intro a hF
          refine GL.skip (i := 6) hF hS rfl rfl (by kernel_rfl) rfl rfl rfl (lkb rfl hg38) (.inl rfl) rfl rfl ?_; clear hF; clear a; intro a hF
          refine GL.skip (i := 7) hF hS rfl rfl (by kernel_rfl) rfl rfl rfl (lkb rfl hg38) (.inl rfl) rfl rfl ?_; clear hF; clear a; intro a hF
          refine GL.skip (i := 8) hF hS rfl rfl (by kernel_rfl) rfl rfl rfl (lkb rfl hg38) (.inl rfl) rfl rfl ?_; clear hF; clear a; intro a hF
          refine GL.skip (i := 9) hF hS rfl rfl (by kernel_rfl) rfl rfl rfl (lkb rfl hg38) (.inl rfl) rfl rfl ?_; clear hF; clear a; intro a hF
          refine GL.actSkip (i := 10) (pend' := []) hF hS (by kernel_rfl) rfl (by kernel_rfl) rfl rfl rfl (lkb rfl hg38) (.inl rfl) rfl rfl ?_; clear hF; clear a; intro a hF
          refine GL.skip (i := 11) hF hS rfl rfl (by kernel_rfl) rfl rfl rfl (lkb rfl hg38) (.inl rfl) rfl rfl ?_; clear hF; clear a; intro a hF
          refine GL.skip (i := 12) hF hS rfl rfl (by kernel_rfl) rfl rfl rfl (lkb rfl hg38) (.inl rfl) rfl rfl ?_; clear hF; clear a; intro a hF
          refine GL.skip (i := 13) hF hS rfl rfl (by kernel_rfl) rfl rfl rfl rfl (.inr rfl) rfl rfl ?_; clear hF; clear a; intro a hF
          refine GL.skip (i := 14) hF hS rfl rfl (by kernel_rfl) rfl rfl rfl rfl (.inr rfl) rfl rfl ?_; clear hF; clear a; intro a hF
          refine GL.skip (i := 15) hF hS rfl rfl (by kernel_rfl) rfl rfl rfl rfl (.inr rfl) rfl rfl ?_; clear hF; clear a; intro a hF
          refine GL.skip (i := 16) hF hS rfl rfl (by kernel_rfl) rfl rfl rfl rfl (.inr rfl) rfl rfl ?_; clear hF; clear a; intro a hF
          refine GL.skip (i := 17) hF hS rfl rfl (by kernel_rfl) rfl rfl rfl rfl (.inr rfl) rfl rfl ?_; clear hF; clear a; intro a hF
          refine GL.skip (i := 18) hF hS rfl rfl (by kernel_rfl) rfl rfl rfl (lkb rfl hg38) (.inl rfl) rfl rfl ?_; clear hF; clear a; intro a hF
          refine GL.skip (i := 19) hF hS rfl rfl (by kernel_rfl) rfl rfl rfl (lkb rfl hg38) (.inl rfl) rfl rfl ?_; clear hF; clear a; intro a hF
          refine GL.skip (i := 20) hF hS rfl rfl (by kernel_rfl) rfl rfl rfl rfl (.inr rfl) rfl rfl ?_; clear hF; clear a; intro a hF
          refine GL.skip (i := 21) hF hS rfl rfl (by kernel_rfl) rfl rfl rfl rfl (.inr rfl) rfl rfl ?_; clear hF; clear a; intro a hF
          refine GL.skip (i := 22) hF hS rfl rfl (by kernel_rfl) rfl rfl rfl rfl (.inr rfl) rfl rfl ?_; clear hF; clear a; intro a hF
          refine GL.skip (i := 23) hF hS rfl rfl (by kernel_rfl) rfl rfl rfl rfl (.inr rfl) rfl rfl ?_; clear hF; clear a; intro a hF
          refine GL.skip (i := 24) hF hS rfl rfl (by kernel_rfl) rfl rfl rfl rfl (.inr rfl) rfl rfl ?_; clear hF; clear a; intro a hF
          refine GL.skip (i := 25) hF hS rfl rfl (by kernel_rfl) rfl rfl rfl (lkb rfl hg38) (.inl rfl) rfl rfl ?_; clear hF; clear a; intro a hF
          refine GL.val (v := .bool false) (i := 26) hF hS rfl rfl (by kernel_rfl) rfl rfl rfl rfl (fun x => r_pick hF rfl rfl rfl rfl (fun e => absurd (hg38.symm.trans e) (by decide)) (fun _ => rfl)) ?_; clear hF; clear a; intro a hF
          refine GL.val (v := .bool false) (i := 27) hF hS rfl rfl (by kernel_rfl) rfl rfl rfl rfl (fun x => r_assign hF rfl rfl) ?_; clear hF; clear a; intro a hF
          refine GL.done (by kernel_rfl) ?_
          exact jn34 false _ _ (hF.sub rfl) h
    clear hJ hK20
    refine GL.val (v := .pointer (some p3)) (i := 0) hF hS rfl rfl (by kernel_rfl) rfl rfl rfl rfl (fun x => r_fieldAddr0 hF rfl rfl Try.runUnderlying30 rfl Try.sizeOf3 rfl) ?_; clear hF; clear a; intro a hF
    obtain ⟨t51, hct51, h⟩ := h
    refine GL.read (v := .int .i64 t51) (i := 1) hF (fun x => World.cell? x p3 = some (.int .i64 t51)) hS rfl rfl (by kernel_rfl) rfl rfl rfl rfl hct51 (fun x hx => r_load hF rfl rfl Try.isAgg3 hx) ?_; clear hF; clear a; intro a hF
    refine GL.val (v := .bool (decide (t51 < 0))) (i := 2) hF hS rfl rfl (by kernel_rfl) rfl rfl rfl rfl (fun x => r_lss hF rfl rfl rfl) ?_; clear hF; clear a; intro a hF
    refine GL.val (v := .bool (decide (t51 < 0))) (i := 3) hF hS rfl rfl (by kernel_rfl) rfl rfl rfl rfl (fun x => r_move hF rfl rfl) ?_; clear hF; clear a; intro a hF
    obtain ⟨ht, hf⟩ := h
    rcases bool_cases (decide (t51 < 0)) with hg52 | hg52
    · replace h := ht hg52; clear ht hf
      refine GL.skip (i := 4) hF hS rfl rfl (by kernel_rfl) rfl rfl rfl (lkb rfl hg52) (.inl rfl) rfl rfl ?_; clear hF; clear a; intro a hF
      refine GL.skip (i := 5) hF hS rfl rfl (by kernel_rfl) rfl rfl rfl (lkb rfl hg52) (.inl rfl) rfl rfl ?_; clear hF; clear a; intro a hF
      refine GL.skip (i := 6) hF hS rfl rfl (by kernel_rfl) rfl rfl rfl (lkb rfl hg52) (.inl rfl) rfl rfl ?_; clear hF; clear a; intro a hF
      refine GL.skip (i := 7) hF hS rfl rfl (by kernel_rfl) rfl rfl rfl (lkb rfl hg52) (.inl rfl) rfl rfl ?_; clear hF; clear a; intro a hF
      refine GL.skip (i := 8) hF hS rfl rfl (by kernel_rfl) rfl rfl rfl (lkb rfl hg52) (.inl rfl) rfl rfl ?_; clear hF; clear a; intro a hF
      refine GL.skip (i := 9) hF hS rfl rfl (by kernel_rfl) rfl rfl rfl (lkb rfl hg52) (.inl rfl) rfl rfl ?_; clear hF; clear a; intro a hF
      refine GL.skip (i := 10) hF hS rfl rfl (by kernel_rfl) rfl rfl rfl (lkb rfl hg52) (.inl rfl) rfl rfl ?_; clear hF; clear a; intro a hF
      refine GL.skip (i := 11) hF hS rfl rfl (by kernel_rfl) rfl rfl rfl (lkb rfl hg52) (.inl rfl) rfl rfl ?_; clear hF; clear a; intro a hF
      refine GL.skip (i := 12) hF hS rfl rfl (by kernel_rfl) rfl rfl rfl (lkb rfl hg52) (.inl rfl) rfl rfl ?_; clear hF; clear a; intro a hF
      refine GL.skip (i := 13) hF hS rfl rfl (by kernel_rfl) rfl rfl rfl (lkb rfl hg52) (.inl rfl) rfl rfl ?_; clear hF; clear a; intro a hF
      refine GL.skip (i := 14) hF hS rfl rfl (by kernel_rfl) rfl rfl rfl (lkb rfl hg52) (.inl rfl) rfl rfl ?_; clear hF; clear a; intro a hF
      refine GL.val (v := .bool true) (i := 15) hF hS rfl rfl (by kernel_rfl) rfl rfl rfl rfl (fun x => r_pick hF rfl rfl rfl rfl (fun _ => rfl) (fun e => absurd (hg52.symm.trans e) (by decide))) ?_; clear hF; clear a; intro a hF
      refine GL.val (v := .bool true) (i := 16) hF hS rfl rfl (by kernel_rfl) rfl rfl rfl rfl (fun x => r_assign hF rfl rfl) ?_; clear hF; clear a; intro a hF
      refine GL.done (by kernel_rfl) ?_
      exact jn25 true _ _ (hF.sub rfl) h
    · replace h := hf hg52; clear ht hf
      refine GL.gval (v := .pointer (some p3)) (i := 4) hF hS rfl rfl (by kernel_rfl) rfl rfl rfl (lkb rfl hg52) rfl rfl (fun x => r_fieldAddr0 hF rfl rfl Try.runUnderlying30 rfl Try.sizeOf3 rfl) ?_; clear hF; clear a; intro a hF
      obtain ⟨t53, hct53, h⟩ := h
      refine GL.gread (v := .int .i64 t53) (i := 5) hF (fun x => World.cell? x p3 = some (.int .i64 t53)) hS rfl rfl (by kernel_rfl) rfl rfl rfl (lkb rfl hg52) rfl rfl hct53 (fun x hx => r_load hF rfl rfl Try.isAgg3 hx) ?_; clear hF; clear a; intro a hF
      refine GL.gval (v := .pointer a0) (i := 6) hF hS rfl rfl (by kernel_rfl) rfl rfl rfl (lkb rfl hg52) rfl rfl (fun x => r_move hF rfl rfl) ?_; clear hF; clear a; intro a hF
      obtain ⟨p54, hpp54, h⟩ := h
      refine GL.gval (v := .pointer (some p54)) (i := 7) hF hS rfl rfl (by kernel_rfl) rfl rfl rfl (lkb rfl hg52) rfl rfl (fun x => r_nilCheck hF rfl (lkp rfl hpp54)) ?_; clear hF; clear a; intro a hF
      refine GL.gval (v := .pointer (some (p54.add 3))) (i := 8) hF hS rfl rfl (by kernel_rfl) rfl rfl rfl (lkb rfl hg52) rfl rfl (fun x => r_fieldAddr hF rfl rfl Try.runUnderlying70 rfl Try.sizeOf3 rfl) ?_; clear hF; clear a; intro a hF
      obtain ⟨t55, hct55, h⟩ := h
      refine GL.gread (v := .int .i64 t55) (i := 9) hF (fun x => World.cell? x (p54.add 3) = some (.int .i64 t55)) hS rfl rfl (by kernel_rfl) rfl rfl rfl (lkb rfl hg52) rfl rfl hct55 (fun x hx => r_load hF rfl rfl Try.isAgg3 hx) ?_; clear hF; clear a; intro a hF
      refine GL.gval (v := .pointer (some (p3.add 1))) (i := 10) hF hS rfl rfl (by kernel_rfl) rfl rfl rfl (lkb rfl hg52) rfl rfl (fun x => r_fieldAddr hF rfl rfl Try.runUnderlying30 rfl Try.sizeOf22 rfl) ?_; clear hF; clear a; intro a hF
      obtain ⟨t56, hct56, h⟩ := h
      refine GL.gread (v := t56.v) (i := 11) hF (fun x => World.cell? x (p3.add 1) = some (t56.v)) hS rfl rfl (by kernel_rfl) rfl rfl rfl (lkb rfl hg52) rfl rfl hct56 (fun x hx => r_load hF rfl rfl Try.isAgg22 hx) ?_; clear hF; clear a; intro a hF
      refine GL.gval (v := .int .i64 (t56.len : Int)) (i := 12) hF hS rfl rfl (by kernel_rfl) rfl rfl rfl (lkb rfl hg52) rfl rfl (fun x => r_len_slice hF rfl rfl Try.runUnderlying22) ?_; clear hF; clear a; intro a hF
      refine GL.gval (v := .int .i64 (IntKind.i64.wrap (t55 - (t56.len : Int)))) (i := 13) hF hS rfl rfl (by kernel_rfl) rfl rfl rfl (lkb rfl hg52) rfl rfl (fun x => r_sub hF rfl rfl rfl) ?_; clear hF; clear a; intro a hF
      refine GL.gval (v := .bool (decide (t53 > (IntKind.i64.wrap (t55 - (t56.len : Int)))))) (i := 14) hF hS rfl rfl (by kernel_rfl) rfl rfl rfl (lkb rfl hg52) rfl rfl (fun x => r_gtr hF rfl rfl rfl) ?_; clear hF; clear a; intro a hF
      refine GL.val (v := .bool (decide (t53 > (IntKind.i64.wrap (t55 - (t56.len : Int)))))) (i := 15) hF hS rfl rfl (by kernel_rfl) rfl rfl rfl rfl (fun x => r_pick hF rfl rfl rfl rfl (fun e => absurd (hg52.symm.trans e) (by decide)) (fun _ => rfl)) ?_; clear hF; clear a; intro a hF
      refine GL.val (v := .bool (decide (t53 > (IntKind.i64.wrap (t55 - (t56.len : Int)))))) (i := 16) hF hS rfl rfl (by kernel_rfl) rfl rfl rfl rfl (fun x => r_assign hF rfl rfl) ?_; clear hF; clear a; intro a hF
      refine GL.done (by kernel_rfl) ?_
      exact jn25 (decide (t53 > (IntKind.i64.wrap (t55 - (t56.len : Int))))) _ _ (hF.sub rfl) h

set_option maxRecDepth 20000 in
theorem br37 {a0 : Option Addr} {a1 : Int} {w : World} {K : Int → World → Prop} (h : sh37 a0 a1 w K) : C37 a0 a1 w K := by
  unfold sh37 at h
  refine enter (n := 44) (l := [(0, .pointer a0), (1, .int .i64 a1)]) 42 Try.func37 rfl _ rfl rfl rfl fun a hF => ?_
  refine seq_region fun K1 hK2 => ?_
  refine RL.val  hF rfl rfl rfl (r_assign hF rfl rfl) ?_; clear hF; clear a; intro a hF
  refine RL.nil (hK2 _ _ ?_)
  clear hK2 K1
  refine seq_k fun K3 hK4 => ?_
  obtain ⟨J, hJ, h⟩ := jn_open h
  have jn8 : ∀ (v5 : Unit) (w6 : World) a, Fr 44 a [(0, .pointer a0), (1, .int .i64 a1)] → J v5 w6 → K3 a w6 := by
    intro v5 w6 a hF h
    replace h := hJ _ _ h
    clear hJ
    refine hK4 _ _ ?_
    refine seq_region fun K9 hK10 => ?_
    refine RL.val  hF rfl rfl rfl (r_move hF rfl rfl) ?_; clear hF; clear a; intro a hF
    refine RL.val  hF rfl rfl rfl (r_max hF rfl rfl rfl) ?_; clear hF; clear a; intro a hF
    refine RL.val  hF rfl rfl rfl (r_assign hF rfl rfl) ?_; clear hF; clear a; intro a hF
    refine RL.nil (hK10 _ _ ?_)
    clear hK10 K9
    refine seq_k fun K11 hK12 => ?_
    obtain ⟨J, hJ, h⟩ := jn_open h
    have jn16 : ∀ (v13 : Int) (w14 : World) a, Fr 44 a [(1, .int .i64 v13)] → J v13 w14 → K11 a w14 := by
      intro v13 w14 a hF h
      replace h := hJ _ _ h
      clear hJ
      refine hK12 _ _ ?_
      refine seq_k fun K17 hK18 => ?_
      obtain ⟨J, hJ, h⟩ := jn_open h
      have jn22 : ∀ (v19 : Unit) (w20 : World) a, Fr 44 a [(1, .int .i64 v13)] → J v19 w20 → K17 a w20 := by
        intro v19 w20 a hF h
        replace h := hJ _ _ h
        clear hJ
        refine hK18 _ _ ?_
        refine seq_region fun K23 hK24 => ?_
        refine RL.val  hF rfl rfl rfl (r_move hF rfl rfl) ?_; clear hF; clear a; intro a hF
        refine RL.val  hF rfl rfl rfl (r_assign hF rfl rfl) ?_; clear hF; clear a; intro a hF
        refine RL.nil (hK24 _ _ ?_)
        clear hK24 K23
        refine wp_ret ?_
        exact ret_of hF (res1 hF rfl rfl) ⟨_, rfl, h⟩
      clear hJ
      refine seq_region fun K25 hK26 => ?_
      refine RL.val  hF rfl rfl rfl (r_move hF rfl rfl) ?_; clear hF; clear a; intro a hF
      refine RL.val  hF rfl rfl rfl (r_gtr hF rfl rfl rfl) ?_; clear hF; clear a; intro a hF
      refine RL.nil (hK26 _ _ ?_)
      clear hK26 K25
      obtain ⟨ht, hf⟩ := h
      refine cond_ hF rfl (fun hc => ?_) (fun hc => ?_)
      · replace h := ht hc; clear ht hf
        refine seq_region fun K27 hK28 => ?_
        refine RL.val  hF rfl rfl rfl (r_assign hF rfl rfl) ?_; clear hF; clear a; intro a hF
        refine RL.nil (hK28 _ _ ?_)
        clear hK28 K27
        refine wp_ret ?_
        exact ret_of hF (res1 hF rfl rfl) ⟨_, rfl, h⟩
      · replace h := hf hc; clear ht hf
        refine wp_skip ?_
        exact jn22 () _ _ (hF.sub rfl) h
    clear hJ
    refine seq_region fun K29 hK30 => ?_
    refine RL.val  hF rfl rfl rfl (r_move hF rfl rfl) ?_; clear hF; clear a; intro a hF
    refine RL.val  hF rfl rfl rfl (r_move hF rfl rfl) ?_; clear hF; clear a; intro a hF
    refine RL.call hF rfl rfl rfl (r_call (xs := [.pointer a0, .int .i64 (if 0 > a1 then 0 else a1)]) hF rfl rfl Try.call50) (CallsV.mono h ?_)
    clear h; rintro _ w31 ⟨r32, rfl, h⟩; clear hF; clear a; intro a hF
    refine RL.val  hF rfl rfl rfl (r_assign hF rfl rfl) ?_; clear hF; clear a; intro a hF
    refine RL.nil (hK30 _ _ ?_)
    clear hK30 K29
    refine seq_region fun K33 hK34 => ?_
    obtain ⟨J37, hJ, h⟩ := jn_open h
    have jn38 : ∀ (v35 : Bool) (w36 : World) a, Fr 44 a [(0, .pointer a0), (1, .int .i64 (if 0 > a1 then 0 else a1)), (5, .int .i64 r32), (31, .bool v35)] → J37 v35 w36 → K33 a w36 := by
      clear hF
      intro v35 w36 a hF h; replace h := hJ _ _ h; refine hK34 _ _ ?_; clear hJ hK34 K33
      obtain ⟨ht, hf⟩ := h
      refine cond_ hF rfl (fun hc => ?_) (fun hc => ?_)
      · replace h := ht hc; clear ht hf
        refine end_region fun K39 hK40 => ?_
        refine RL.val  hF rfl rfl rfl (r_move hF rfl rfl) ?_; clear hF; clear a; intro a hF
        obtain ⟨p41, hpp41, h⟩ := h
        refine RL.val  hF rfl rfl rfl (r_nilCheck hF rfl (lkp rfl hpp41)) ?_; clear hF; clear a; intro a hF
        refine RL.val  hF rfl rfl rfl (r_fieldAddr hF rfl rfl Try.runUnderlying89 rfl Try.sizeOf87 rfl) ?_; clear hF; clear a; intro a hF
        obtain ⟨t42, hct42, h⟩ := h
        refine RL.val  hF rfl rfl rfl (r_load hF rfl rfl Try.isAgg87 hct42) ?_; clear hF; clear a; intro a hF
        refine RL.val  hF rfl rfl rfl (r_move hF rfl rfl) ?_; clear hF; clear a; intro a hF
        obtain ⟨b44, p43, hb_, h0_, h1_, hp_, h⟩ := h
        refine RL.val (v := .pointer (some p43)) (w' := w36) hF rfl rfl rfl (by rw [hp_]; exact r_indexAddr hF rfl (lks rfl hb_) rfl Try.runUnderlying87 Try.sizeOf94 h0_ h1_) ?_; clear hF; clear a; intro a hF
        refine RL.val  hF rfl rfl rfl (r_fieldAddr hF rfl rfl Try.runUnderlying94 rfl Try.sizeOf3 rfl) ?_; clear hF; clear a; intro a hF
        obtain ⟨t45, hct45, h⟩ := h
        refine RL.val  hF rfl rfl rfl (r_load hF rfl rfl Try.isAgg3 hct45) ?_; clear hF; clear a; intro a hF
        refine RL.val  hF rfl rfl rfl (r_add hF rfl rfl rfl) ?_; clear hF; clear a; intro a hF
        refine RL.val  hF rfl rfl rfl (r_assign hF rfl rfl) ?_; clear hF; clear a; intro a hF
        refine RL.nil (hK40 _ _ ?_)
        clear hK40 K39
        exact jn16 (IntKind.i64.wrap (t45 + 1)) _ _ (hF.sub rfl) h
      · replace h := hf hc; clear ht hf
        refine wp_skip ?_
        exact jn16 (if 0 > a1 then 0 else a1) _ _ (hF.sub rfl) h
    clear hJ hK34
    refine RL.val  hF rfl rfl rfl (r_move hF rfl rfl) ?_; clear hF; clear a; intro a hF
    refine RL.val  hF rfl rfl rfl (r_move hF rfl rfl) ?_; clear hF; clear a; intro a hF
    obtain ⟨p46, hpp46, h⟩ := h
    refine RL.val  hF rfl rfl rfl (r_nilCheck hF rfl (lkp rfl hpp46)) ?_; clear hF; clear a; intro a hF
    refine RL.val  hF rfl rfl rfl (r_fieldAddr hF rfl rfl Try.runUnderlying89 rfl Try.sizeOf87 rfl) ?_; clear hF; clear a; intro a hF
    obtain ⟨t47, hct47, h⟩ := h
    refine RL.val  hF rfl rfl rfl (r_load hF rfl rfl Try.isAgg87 hct47) ?_; clear hF; clear a; intro a hF
    refine RL.val  hF rfl rfl rfl (r_len_slice hF rfl rfl Try.runUnderlying87) ?_; clear hF; clear a; intro a hF
    refine RL.val  hF rfl rfl rfl (r_lss hF rfl rfl rfl) ?_; clear hF; clear a; intro a hF
    refine RL.val  hF rfl rfl rfl (r_move hF rfl rfl) ?_; clear hF; clear a; intro a hF
    obtain ⟨ht, hf⟩ := h
    rcases bool_cases (decide (r32 < (t47.len : Int))) with hg48 | hg48
    · replace h := ht hg48; clear ht hf
      refine RL.gval  hF rfl rfl (lkb rfl hg48) rfl rfl (r_move hF rfl rfl) ?_; clear hF; clear a; intro a hF
      obtain ⟨p49, hpp49, h⟩ := h
      refine RL.gval  hF rfl rfl (lkb rfl hg48) rfl rfl (r_nilCheck hF rfl (lkp rfl hpp49)) ?_; clear hF; clear a; intro a hF
      refine RL.gval  hF rfl rfl (lkb rfl hg48) rfl rfl (r_fieldAddr hF rfl rfl Try.runUnderlying89 rfl Try.sizeOf87 rfl) ?_; clear hF; clear a; intro a hF
      obtain ⟨t50, hct50, h⟩ := h
      refine RL.gval  hF rfl rfl (lkb rfl hg48) rfl rfl (r_load hF rfl rfl Try.isAgg87 hct50) ?_; clear hF; clear a; intro a hF
      refine RL.gval  hF rfl rfl (lkb rfl hg48) rfl rfl (r_move hF rfl rfl) ?_; clear hF; clear a; intro a hF
      obtain ⟨b52, p51, hb_, h0_, h1_, hp_, h⟩ := h
      refine RL.gval (v := .pointer (some p51)) (w' := w31) hF rfl rfl (lkb rfl hg48) rfl rfl (by rw [hp_]; exact r_indexAddr hF rfl (lks rfl hb_) rfl Try.runUnderlying87 Try.sizeOf94 h0_ h1_) ?_; clear hF; clear a; intro a hF
      refine RL.gval  hF rfl rfl (lkb rfl hg48) rfl rfl (r_fieldAddr0 hF rfl rfl Try.runUnderlying94 rfl Try.sizeOf3 rfl) ?_; clear hF; clear a; intro a hF
      obtain ⟨t53, hct53, h⟩ := h
      refine RL.gval  hF rfl rfl (lkb rfl hg48) rfl rfl (r_load hF rfl rfl Try.isAgg3 hct53) ?_; clear hF; clear a; intro a hF
      refine RL.gval  hF rfl rfl (lkb rfl hg48) rfl rfl (r_move hF rfl rfl) ?_; clear hF; clear a; intro a hF
      refine RL.gval  hF rfl rfl (lkb rfl hg48) rfl rfl (r_leq hF rfl rfl rfl) ?_; clear hF; clear a; intro a hF
      refine RL.val (v := .bool (decide (t53 ≤ (if 0 > a1 then 0 else a1)))) (w' := w31) hF rfl rfl rfl (r_pick hF rfl rfl rfl rfl (fun _ => rfl) (fun e => absurd (hg48.symm.trans e) (by decide))) ?_; clear hF; clear a; intro a hF
      refine RL.nil ?_
      exact jn38 (decide (t53 ≤ (if 0 > a1 then 0 else a1))) _ _ (hF.sub rfl) h
    · replace h := hf hg48; clear ht hf
      refine RL.skip hF rfl rfl (lkb rfl hg48) (.inl rfl) rfl rfl ?_; clear hF; clear a; intro a hF
      refine RL.skip hF rfl rfl (lkb rfl hg48) (.inl rfl) rfl rfl ?_; clear hF; clear a; intro a hF
      refine RL.skip hF rfl rfl (lkb rfl hg48) (.inl rfl) rfl rfl ?_; clear hF; clear a; intro a hF
      refine RL.skip hF rfl rfl (lkb rfl hg48) (.inl rfl) rfl rfl ?_; clear hF; clear a; intro a hF
      refine RL.skip hF rfl rfl (lkb rfl hg48) (.inl rfl) rfl rfl ?_; clear hF; clear a; intro a hF
      refine RL.skip hF rfl rfl (lkb rfl hg48) (.inl rfl) rfl rfl ?_; clear hF; clear a; intro a hF
      refine RL.skip hF rfl rfl (lkb rfl hg48) (.inl rfl) rfl rfl ?_; clear hF; clear a; intro a hF
      refine RL.skip hF rfl rfl (lkb rfl hg48) (.inl rfl) rfl rfl ?_; clear hF; clear a; intro a hF
      refine RL.skip hF rfl rfl (lkb rfl hg48) (.inl rfl) rfl rfl ?_; clear hF; clear a; intro a hF
      refine RL.skip hF rfl rfl (lkb rfl hg48) (.inl rfl) rfl rfl ?_; clear hF; clear a; intro a hF
      refine RL.val (v := .bool false) (w' := w31) hF rfl rfl rfl (r_pick hF rfl rfl rfl rfl (fun e => absurd (hg48.symm.trans e) (by decide)) (fun _ => rfl)) ?_; clear hF; clear a; intro a hF
      refine RL.nil ?_
      exact jn38 false _ _ (hF.sub rfl) h
  clear hJ
  refine seq_region fun K54 hK55 => ?_
  refine RL.val  hF rfl rfl rfl (r_move hF rfl rfl) ?_; clear hF; clear a; intro a hF
  refine RL.call hF rfl rfl rfl (r_call (xs := [.pointer a0]) hF rfl rfl Try.call53) (CallsV.mono h ?_)
  clear h; rintro _ w56 ⟨r57, rfl, h⟩; clear hF; clear a; intro a hF
  refine RL.nil (hK55 _ _ ?_)
  clear hK55 K54
  obtain ⟨ht, hf⟩ := h
  refine cond_ hF rfl (fun hc => ?_) (fun hc => ?_)
  · replace h := ht hc; clear ht hf
    refine seq_region fun K58 hK59 => ?_
    refine RL.val  hF rfl rfl rfl (r_assign hF rfl rfl) ?_; clear hF; clear a; intro a hF
    refine RL.nil (hK59 _ _ ?_)
    clear hK59 K58
    refine wp_ret ?_
    exact ret_of hF (res1 hF rfl rfl) ⟨_, rfl, h⟩
  · replace h := hf hc; clear ht hf
    refine wp_skip ?_
    exact jn8 () _ _ (hF.sub rfl) h

set_option maxRecDepth 20000 in
theorem br39 {a0 : Option Addr} {a1 : Int} {w : World} {K : Bool → World → Prop} (h : sh39 a0 a1 w K) : C39 a0 a1 w K := by
  unfold sh39 at h
  refine enter (n := 34) (l := [(0, .pointer a0), (1, .int .i64 a1)]) 32 Try.func39 rfl _ rfl rfl rfl fun a hF => ?_
  refine seq_region fun K1 hK2 => ?_
  refine RL.val  hF rfl rfl rfl (r_assign hF rfl rfl) ?_; clear hF; clear a; intro a hF
  refine RL.nil (hK2 _ _ ?_)
  clear hK2 K1
  refine seq_k fun K3 hK4 => ?_
  obtain ⟨J, hJ, h⟩ := jn_open h
  have jn8 : ∀ (v5 : Unit) (w6 : World) a, Fr 34 a [(0, .pointer a0), (1, .int .i64 a1)] → J v5 w6 → K3 a w6 := by
    intro v5 w6 a hF h
    replace h := hJ _ _ h
    clear hJ
    refine hK4 _ _ ?_
    refine seq_region fun K9 hK10 => ?_
    refine RL.val  hF rfl rfl rfl (r_move hF rfl rfl) ?_; clear hF; clear a; intro a hF
    refine RL.val  hF rfl rfl rfl (r_move hF rfl rfl) ?_; clear hF; clear a; intro a hF
    refine RL.call hF rfl rfl rfl (r_call (xs := [.pointer a0, .int .i64 a1]) hF rfl rfl Try.call50) (CallsV.mono h ?_)
    clear h; rintro _ w11 ⟨r12, rfl, h⟩; clear hF; clear a; intro a hF
    refine RL.val  hF rfl rfl rfl (r_assign hF rfl rfl) ?_; clear hF; clear a; intro a hF
    refine RL.nil (hK10 _ _ ?_)
    clear hK10 K9
    refine seq_region fun K13 hK14 => ?_
    obtain ⟨J17, hJ, h⟩ := jn_open h
    have jn18 : ∀ (v15 : Bool) (w16 : World) a, Fr 34 a [(4, .bool v15)] → J17 v15 w16 → K13 a w16 := by
      clear hF
      intro v15 w16 a hF h; replace h := hJ _ _ h; refine hK14 _ _ ?_; clear hJ hK14 K13
      refine wp_ret ?_
      exact ret_of hF (res1 hF rfl rfl) ⟨_, rfl, h⟩
    clear hJ hK14
    refine RL.val  hF rfl rfl rfl (r_move hF rfl rfl) ?_; clear hF; clear a; intro a hF
    refine RL.val  hF rfl rfl rfl (r_move hF rfl rfl) ?_; clear hF; clear a; intro a hF
    obtain ⟨p19, hpp19, h⟩ := h
    refine RL.val  hF rfl rfl rfl (r_nilCheck hF rfl (lkp rfl hpp19)) ?_; clear hF; clear a; intro a hF
    refine RL.val  hF rfl rfl rfl (r_fieldAddr hF rfl rfl Try.runUnderlying89 rfl Try.sizeOf87 rfl) ?_; clear hF; clear a; intro a hF
    obtain ⟨t20, hct20, h⟩ := h
    refine RL.val  hF rfl rfl rfl (r_load hF rfl rfl Try.isAgg87 hct20) ?_; clear hF; clear a; intro a hF
    refine RL.val  hF rfl rfl rfl (r_len_slice hF rfl rfl Try.runUnderlying87) ?_; clear hF; clear a; intro a hF
    refine RL.val  hF rfl rfl rfl (r_lss hF rfl rfl rfl) ?_; clear hF; clear a; intro a hF
    refine RL.val  hF rfl rfl rfl (r_move hF rfl rfl) ?_; clear hF; clear a; intro a hF
    obtain ⟨ht, hf⟩ := h
    rcases bool_cases (decide (r12 < (t20.len : Int))) with hg21 | hg21
    · replace h := ht hg21; clear ht hf
      refine RL.gval  hF rfl rfl (lkb rfl hg21) rfl rfl (r_move hF rfl rfl) ?_; clear hF; clear a; intro a hF
      obtain ⟨p22, hpp22, h⟩ := h
      refine RL.gval  hF rfl rfl (lkb rfl hg21) rfl rfl (r_nilCheck hF rfl (lkp rfl hpp22)) ?_; clear hF; clear a; intro a hF
      refine RL.gval  hF rfl rfl (lkb rfl hg21) rfl rfl (r_fieldAddr hF rfl rfl Try.runUnderlying89 rfl Try.sizeOf87 rfl) ?_; clear hF; clear a; intro a hF
      obtain ⟨t23, hct23, h⟩ := h
      refine RL.gval  hF rfl rfl (lkb rfl hg21) rfl rfl (r_load hF rfl rfl Try.isAgg87 hct23) ?_; clear hF; clear a; intro a hF
      refine RL.gval  hF rfl rfl (lkb rfl hg21) rfl rfl (r_move hF rfl rfl) ?_; clear hF; clear a; intro a hF
      obtain ⟨b25, p24, hb_, h0_, h1_, hp_, h⟩ := h
      refine RL.gval (v := .pointer (some p24)) (w' := w11) hF rfl rfl (lkb rfl hg21) rfl rfl (by rw [hp_]; exact r_indexAddr hF rfl (lks rfl hb_) rfl Try.runUnderlying87 Try.sizeOf94 h0_ h1_) ?_; clear hF; clear a; intro a hF
      refine RL.gval  hF rfl rfl (lkb rfl hg21) rfl rfl (r_fieldAddr0 hF rfl rfl Try.runUnderlying94 rfl Try.sizeOf3 rfl) ?_; clear hF; clear a; intro a hF
      obtain ⟨t26, hct26, h⟩ := h
      refine RL.gval  hF rfl rfl (lkb rfl hg21) rfl rfl (r_load hF rfl rfl Try.isAgg3 hct26) ?_; clear hF; clear a; intro a hF
      refine RL.gval  hF rfl rfl (lkb rfl hg21) rfl rfl (r_move hF rfl rfl) ?_; clear hF; clear a; intro a hF
      refine RL.gval  hF rfl rfl (lkb rfl hg21) rfl rfl (r_leq hF rfl rfl rfl) ?_; clear hF; clear a; intro a hF
      refine RL.val (v := .bool (decide (t26 ≤ a1))) (w' := w11) hF rfl rfl rfl (r_pick hF rfl rfl rfl rfl (fun _ => rfl) (fun e => absurd (hg21.symm.trans e) (by decide))) ?_; clear hF; clear a; intro a hF
      refine RL.val  hF rfl rfl rfl (r_assign hF rfl rfl) ?_; clear hF; clear a; intro a hF
      refine RL.nil ?_
      exact jn18 (decide (t26 ≤ a1)) _ _ (hF.sub rfl) h
    · replace h := hf hg21; clear ht hf
      refine RL.skip hF rfl rfl (lkb rfl hg21) (.inl rfl) rfl rfl ?_; clear hF; clear a; intro a hF
      refine RL.skip hF rfl rfl (lkb rfl hg21) (.inl rfl) rfl rfl ?_; clear hF; clear a; intro a hF
      refine RL.skip hF rfl rfl (lkb rfl hg21) (.inl rfl) rfl rfl ?_; clear hF; clear a; intro a hF
      refine RL.skip hF rfl rfl (lkb rfl hg21) (.inl rfl) rfl rfl ?_; clear hF; clear a; intro a hF
      refine RL.skip hF rfl rfl (lkb rfl hg21) (.inl rfl) rfl rfl ?_; clear hF; clear a; intro a hF
      refine RL.skip hF rfl rfl (lkb rfl hg21) (.inl rfl) rfl rfl ?_; clear hF; clear a; intro a hF
      refine RL.skip hF rfl rfl (lkb rfl hg21) (.inl rfl) rfl rfl ?_; clear hF; clear a; intro a hF
      refine RL.skip hF rfl rfl (lkb rfl hg21) (.inl rfl) rfl rfl ?_; clear hF; clear a; intro a hF
      refine RL.skip hF rfl rfl (lkb rfl hg21) (.inl rfl) rfl rfl ?_; clear hF; clear a; intro a hF
      refine RL.skip hF rfl rfl (lkb rfl hg21) (.inl rfl) rfl rfl ?_; clear hF; clear a; intro a hF
      refine RL.val (v := .bool false) (w' := w11) hF rfl rfl rfl (r_pick hF rfl rfl rfl rfl (fun e => absurd (hg21.symm.trans e) (by decide)) (fun _ => rfl)) ?_; clear hF; clear a; intro a hF
      refine RL.val  hF rfl rfl rfl (r_assign hF rfl rfl) ?_; clear hF; clear a; intro a hF
      refine RL.nil ?_
      exact jn18 false _ _ (hF.sub rfl) h
  clear hJ
  refine seq_region fun K27 hK28 => ?_
  obtain ⟨J31, hJ, h⟩ := jn_open h
  have jn32 : ∀ (v29 : Bool) (w30 : World) a, Fr 34 a [(0, .pointer a0), (1, .int .i64 a1), (11, .bool v29)] → J31 v29 w30 → K27 a w30 := by
    clear hF
    intro v29 w30 a hF h; replace h := hJ _ _ h; refine hK28 _ _ ?_; clear hJ hK28 K27
    obtain ⟨ht, hf⟩ := h
    refine cond_ hF rfl (fun hc => ?_) (fun hc => ?_)
    · replace h := ht hc; clear ht hf
      refine seq_region fun K33 hK34 => ?_
      refine RL.val  hF rfl rfl rfl (r_assign hF rfl rfl) ?_; clear hF; clear a; intro a hF
      refine RL.nil (hK34 _ _ ?_)
      clear hK34 K33
      refine wp_ret ?_
      exact ret_of hF (res1 hF rfl rfl) ⟨_, rfl, h⟩
    · replace h := hf hc; clear ht hf
      refine wp_skip ?_
      exact jn8 () _ _ (hF.sub rfl) h
  clear hJ hK28
  refine RL.val  hF rfl rfl rfl (r_move hF rfl rfl) ?_; clear hF; clear a; intro a hF
  refine RL.call hF rfl rfl rfl (r_call (xs := [.pointer a0]) hF rfl rfl Try.call53) (CallsV.mono h ?_)
  clear h; rintro _ w35 ⟨r36, rfl, h⟩; clear hF; clear a; intro a hF
  refine RL.val  hF rfl rfl rfl (r_move hF rfl rfl) ?_; clear hF; clear a; intro a hF
  obtain ⟨ht, hf⟩ := h
  rcases bool_cases r36 with hg37 | hg37
  · replace h := ht hg37; clear ht hf
    refine RL.skip hF rfl rfl (lkb rfl hg37) (.inl rfl) rfl rfl ?_; clear hF; clear a; intro a hF
    refine RL.skip hF rfl rfl (lkb rfl hg37) (.inl rfl) rfl rfl ?_; clear hF; clear a; intro a hF
    refine RL.val (v := .bool true) (w' := w35) hF rfl rfl rfl (r_pick hF rfl rfl rfl rfl (fun _ => rfl) (fun e => absurd (hg37.symm.trans e) (by decide))) ?_; clear hF; clear a; intro a hF
    refine RL.nil ?_
    exact jn32 true _ _ (hF.sub rfl) h
  · replace h := hf hg37; clear ht hf
    refine RL.gval  hF rfl rfl (lkb rfl hg37) rfl rfl (r_move hF rfl rfl) ?_; clear hF; clear a; intro a hF
    refine RL.gval  hF rfl rfl (lkb rfl hg37) rfl rfl (r_lss hF rfl rfl rfl) ?_; clear hF; clear a; intro a hF
    refine RL.val (v := .bool (decide (a1 < 0))) (w' := w35) hF rfl rfl rfl (r_pick hF rfl rfl rfl rfl (fun e => absurd (hg37.symm.trans e) (by decide)) (fun _ => rfl)) ?_; clear hF; clear a; intro a hF
    refine RL.nil ?_
    exact jn32 (decide (a1 < 0)) _ _ (hF.sub rfl) h

set_option maxRecDepth 20000 in
theorem br36 {a0 : Option Addr} {a1 : Int} {a2 : Int} {w : World} {K : Int → World → Prop} (h : sh36 a0 a1 a2 w K) : C36 a0 a1 a2 w K := by
  unfold sh36 at h
  refine enter (n := 92) (l := [(0, .pointer a0), (1, .int .i64 a1), (2, .int .i64 a2)]) 89 Try.func36 rfl _ rfl rfl rfl fun a hF => ?_
  refine seq_region fun K1 hK2 => ?_
  refine RL.val  hF rfl rfl rfl (r_assign hF rfl rfl) ?_; clear hF; clear a; intro a hF
  refine RL.nil (hK2 _ _ ?_)
  clear hK2 K1
  refine wp_scope_straight ?_
  refine seq_k fun K3 hK4 => ?_
  obtain ⟨J, hJ, h⟩ := jn_open h
  have jn8 : ∀ (v5 : Unit) (w6 : World) a, Fr 92 a [(0, .pointer a0), (1, .int .i64 a1), (2, .int .i64 a2)] → J v5 w6 → K3 a w6 := by
    intro v5 w6 a hF h
    replace h := hJ _ _ h
    clear hJ
    refine hK4 _ _ ?_
    refine seq_region fun K9 hK10 => ?_
    refine RL.val  hF rfl rfl rfl (r_move hF rfl rfl) ?_; clear hF; clear a; intro a hF
    refine RL.val  hF rfl rfl rfl (r_move hF rfl rfl) ?_; clear hF; clear a; intro a hF
    refine RL.val  hF rfl rfl rfl (r_sub hF rfl rfl rfl) ?_; clear hF; clear a; intro a hF
    refine RL.call hF rfl rfl rfl (r_call (xs := [.pointer a0, .int .i64 (IntKind.i64.wrap (a1 - 1))]) hF rfl rfl Try.call50) (CallsV.mono h ?_)
    clear h; rintro _ w11 ⟨r12, rfl, h⟩; clear hF; clear a; intro a hF
    refine RL.val  hF rfl rfl rfl (r_assign hF rfl rfl) ?_; clear hF; clear a; intro a hF
    refine RL.nil (hK10 _ _ ?_)
    clear hK10 K9
    refine seq_region fun K13 hK14 => ?_
    refine RL.val  hF rfl rfl rfl (r_move hF rfl rfl) ?_; clear hF; clear a; intro a hF
    refine RL.val  hF rfl rfl rfl (r_assign hF rfl rfl) ?_; clear hF; clear a; intro a hF
    refine RL.nil (hK14 _ _ ?_)
    clear hK14 K13
    refine seq_region fun K15 hK16 => ?_
    refine RL.val  hF rfl rfl rfl (r_move hF rfl rfl) ?_; clear hF; clear a; intro a hF
    refine RL.val  hF rfl rfl rfl (r_move hF rfl rfl) ?_; clear hF; clear a; intro a hF
    refine RL.val (v := .agg (#[.int .i64 a1, .int .i64 a2])) (w' := w11) hF rfl rfl rfl (r_build (xs := [(0, .int .i64 a1), (1, .int .i64 a2)]) hF rfl rfl (by kernel_rfl)) ?_; clear hF; clear a; intro a hF
    obtain ⟨p17, w18, hp_, hw_, h⟩ := h
    refine RL.val (v := .pointer (some p17)) (w' := w18) hF rfl rfl rfl (by rw [hp_, hw_]; exact r_alloc rfl Try.zeroValue94 rfl) ?_; clear hF; clear a; intro a hF
    obtain ⟨w19, hs1_, hs2_, hs3_, hs4_, h⟩ := h
    refine RL.unit (w' := w19) hF rfl rfl (by rw [hs4_]; exact r_storeA hF rfl rfl rfl Try.sizeOf94 hs1_ hs2_ hs3_) ?_; clear hF; clear a; intro a hF
    refine RL.nil (hK16 _ _ ?_)
    clear hK16 K15
    refine seq_k fun K hK => wp_label (hK _ _ ?_)
    refine seq_k fun K20 hK21 => ?_
    obtain ⟨J, hJ, h⟩ := jn_open h
    have jn25 : ∀ (v22 : Int) (w23 : World) a, Fr 92 a [(0, .pointer a0), (8, .int .i64 r12), (9, .int .i64 v22), (10, .pointer (some p17))] → J v22 w23 → K20 a w23 := by
      intro v22 w23 a hF h
      replace h := hJ _ _ h
      clear hJ
      refine hK21 _ _ ?_
      refine seq_k fun K26 hK27 => ?_
      obtain ⟨J, hJ, h⟩ := jn_open h
      have jn31 : ∀ (v28 : Unit) (w29 : World) a, Fr 92 a [(0, .pointer a0), (8, .int .i64 r12), (9, .int .i64 v22), (10, .pointer (some p17))] → J v28 w29 → K26 a w29 := by
        intro v28 w29 a hF h
        replace h := hJ _ _ h
        clear hJ
        refine hK27 _ _ ?_
        refine seq_draw 4864 #[0, 0, 2, 6, 14, 0, 0, 0, 128, 510, 1023, 2047, 4095] 13 mo rfl (by kernel_rfl) (by kernel_rfl) fun hS K32 hK33 => ?_
        obtain ⟨w34, hw, h⟩ := h; rw [← hw]; clear hw
        refine GL.val (v := .pointer a0) (i := 0) hF hS rfl rfl (by kernel_rfl) rfl rfl rfl rfl (fun x => r_move hF rfl rfl) ?_; clear hF; clear a; intro a hF
        refine GL.val (v := .pointer a0) (i := 1) hF hS rfl rfl (by kernel_rfl) rfl rfl rfl rfl (fun x => r_move hF rfl rfl) ?_; clear hF; clear a; intro a hF
        obtain ⟨p35, hpp35, h⟩ := h
        refine GL.val (v := .pointer (some p35)) (i := 2) hF hS rfl rfl (by kernel_rfl) rfl rfl rfl rfl (fun x => r_nilCheck hF rfl (lkp rfl hpp35)) ?_; clear hF; clear a; intro a hF
        refine GL.val (v := .pointer (some (p35.add 1))) (i := 3) hF hS rfl rfl (by kernel_rfl) rfl rfl rfl rfl (fun x => r_fieldAddr hF rfl rfl Try.runUnderlying89 rfl Try.sizeOf87 rfl) ?_; clear hF; clear a; intro a hF
        obtain ⟨t36, hct36, h⟩ := h
        refine GL.read (v := t36.v) (i := 4) hF (fun x => World.cell? x (p35.add 1) = some (t36.v)) hS rfl rfl (by kernel_rfl) rfl rfl rfl rfl hct36 (fun x hx => r_load hF rfl rfl Try.isAgg87 hx) ?_; clear hF; clear a; intro a hF
        refine GL.val (v := .int .i64 r12) (i := 5) hF hS rfl rfl (by kernel_rfl) rfl rfl rfl rfl (fun x => r_move hF rfl rfl) ?_; clear hF; clear a; intro a hF
        refine GL.val (v := .int .i64 v22) (i := 6) hF hS rfl rfl (by kernel_rfl) rfl rfl rfl rfl (fun x => r_move hF rfl rfl) ?_; clear hF; clear a; intro a hF
        obtain ⟨t37, hct37, h⟩ := h
        refine GL.read (v := .agg t37) (i := 7) hF (fun x => CellsAt x p17 2 t37) hS rfl rfl (by kernel_rfl) rfl rfl rfl rfl hct37 (fun x hx => r_loadA hF rfl rfl Try.isAgg94 Try.sizeOf94 hx) ?_; clear hF; clear a; intro a hF
        refine GL.act (i := 8) (pend' := [(4, fun x => World.cell? x (p35.add 1) = some (t36.v))]) hS (by kernel_rfl) rfl (by kernel_rfl) ?_
        obtain ⟨t39, w38, hc_, h⟩ := h
        obtain ⟨hk40, h⟩ := h
        refine op_val  hF rfl rfl rfl rfl (r_buildSlice (xs := [(0, .agg t37)]) hF rfl rfl hc_) ⟨hk40, trivial⟩ ?_; clear hF; clear a; intro a hF
        refine GL.act (i := 9) (pend' := []) hS (by kernel_rfl) rfl (by kernel_rfl) ?_
        refine op_call hF rfl rfl rfl rfl (r_call (xs := [t36.v, .int .i64 r12, .int .i64 v22, t39.v]) hF rfl rfl Try.call51) (CallsV.mono h ?_)
        clear h; rintro _ w41 ⟨r42, rfl, h⟩
        refine ⟨trivial, ?_⟩; clear hF; clear a; intro a hF
        obtain ⟨p43, hpp43, h⟩ := h
        refine GL.val (v := .pointer (some p43)) (i := 10) hF hS rfl rfl (by kernel_rfl) rfl rfl rfl rfl (fun x => r_nilCheck hF rfl (lkp rfl hpp43)) ?_; clear hF; clear a; intro a hF
        refine GL.val (v := .pointer (some (p43.add 1))) (i := 11) hF hS rfl rfl (by kernel_rfl) rfl rfl rfl rfl (fun x => r_fieldAddr hF rfl rfl Try.runUnderlying89 rfl Try.sizeOf87 rfl) ?_; clear hF; clear a; intro a hF
        refine GL.act (i := 12) (pend' := []) hS (by kernel_rfl) rfl (by kernel_rfl) ?_
        obtain ⟨u_, w44, hs1_, hs2_, hs3_, h⟩ := h
        refine op_unit (w' := w44) hF rfl rfl rfl (by rw [hs3_]; exact r_store hF rfl rfl rfl rfl Try.sizeOf87 hs1_ hs2_) trivial ?_; clear hF; clear a; intro a hF
        refine GL.done (by kernel_rfl) (hK33 _ _ ?_)
        clear hK33 K32
        refine seq_region fun K45 hK46 => ?_
        refine RL.val  hF rfl rfl rfl (r_assign hF rfl rfl) ?_; clear hF; clear a; intro a hF
        refine RL.nil (hK46 _ _ ?_)
        clear hK46 K45
        refine wp_ret ?_
        exact ret_of hF (res1 hF rfl rfl) ⟨_, rfl, h⟩
      clear hJ
      refine seq_region fun K47 hK48 => ?_
      refine RL.val  hF rfl rfl rfl (r_move hF rfl rfl) ?_; clear hF; clear a; intro a hF
      obtain ⟨p49, hpp49, h⟩ := h
      refine RL.val  hF rfl rfl rfl (r_nilCheck hF rfl (lkp rfl hpp49)) ?_; clear hF; clear a; intro a hF
      refine RL.val  hF rfl rfl rfl (r_fieldAddr hF rfl rfl Try.runUnderlying89 rfl Try.sizeOf87 rfl) ?_; clear hF; clear a; intro a hF
      obtain ⟨t50, hct50, h⟩ := h
      refine RL.val  hF rfl rfl rfl (r_load hF rfl rfl Try.isAgg87 hct50) ?_; clear hF; clear a; intro a hF
      refine RL.val  hF rfl rfl rfl (r_len_slice hF rfl rfl Try.runUnderlying87) ?_; clear hF; clear a; intro a hF
      refine RL.val  hF rfl rfl rfl (r_move hF rfl rfl) ?_; clear hF; clear a; intro a hF
      refine RL.val  hF rfl rfl rfl (r_move hF rfl rfl) ?_; clear hF; clear a; intro a hF
      refine RL.val  hF rfl rfl rfl (r_sub hF rfl rfl rfl) ?_; clear hF; clear a; intro a hF
      refine RL.val  hF rfl rfl rfl (r_sub hF rfl rfl rfl) ?_; clear hF; clear a; intro a hF
      refine RL.val  hF rfl rfl rfl (r_add hF rfl rfl rfl) ?_; clear hF; clear a; intro a hF
      refine RL.val  hF rfl rfl rfl (r_gtr hF rfl rfl rfl) ?_; clear hF; clear a; intro a hF
      refine RL.nil (hK48 _ _ ?_)
      clear hK48 K47
      obtain ⟨ht, hf⟩ := h
      refine cond_ hF rfl (fun hc => ?_) (fun hc => ?_)
      · replace h := ht hc; clear ht hf
        refine seq_region fun K51 hK52 => ?_
        refine RL.val  hF rfl rfl rfl (r_assign hF rfl rfl) ?_; clear hF; clear a; intro a hF
        refine RL.nil (hK52 _ _ ?_)
        clear hK52 K51
        refine wp_ret ?_
        exact ret_of hF (res1 hF rfl rfl) ⟨_, rfl, h⟩
      · replace h := hf hc; clear ht hf
        refine wp_skip ?_
        exact jn31 () _ _ (hF.sub rfl) h
    clear hJ
    refine wp_block ?_
    refine loop_ (fun (s53 : Int) => [(0, .pointer a0), (2, .int .i64 a2), (8, .int .i64 r12), (9, .int .i64 s53), (10, .pointer (some p17))]) (hF.sub rfl) h ?_
    clear hF h
    intro s53 w54 N55 KL hN56 h a hF
    refine seq_k fun K57 hK58 => ?_
    obtain ⟨J, hJ, h⟩ := jn_open h
    have jn62 : ∀ (v59 : Unit) (w60 : World) a, Fr 92 a [(0, .pointer a0), (2, .int .i64 a2), (8, .int .i64 r12), (9, .int .i64 s53), (10, .pointer (some p17))] → J v59 w60 → K57 a w60 := by
      intro v59 w60 a hF h
      replace h := hJ _ _ h
      clear hJ
      refine hK58 _ _ ?_
      refine seq_k fun K63 hK64 => ?_
      obtain ⟨J, hJ, h⟩ := jn_open h
      have jn68 : ∀ (v65 : Unit) (w66 : World) a, Fr 92 a [(0, .pointer a0), (2, .int .i64 a2), (8, .int .i64 r12), (9, .int .i64 s53), (10, .pointer (some p17))] → J v65 w66 → K63 a w66 := by
        intro v65 w66 a hF h
        replace h := hJ _ _ h
        clear hJ
        refine hK64 _ _ ?_
        refine end_region fun K69 hK70 => ?_
        refine RL.val  hF rfl rfl rfl (r_move hF rfl rfl) ?_; clear hF; clear a; intro a hF
        refine RL.val  hF rfl rfl rfl (r_add hF rfl rfl rfl) ?_; clear hF; clear a; intro a hF
        refine RL.val  hF rfl rfl rfl (r_assign hF rfl rfl) ?_; clear hF; clear a; intro a hF
        refine RL.nil (hK70 _ _ ?_)
        clear hK70 K69
        exact hN56 (IntKind.i64.wrap (s53 + 1)) _ _ (hF.sub rfl) h
      clear hJ
      refine wp_block ?_
      refine seq_k fun K71 hK72 => ?_
      obtain ⟨J, hJ, h⟩ := jn_open h
      have jn76 : ∀ (v73 : Unit) (w74 : World) a, Fr 92 a [(0, .pointer a0), (2, .int .i64 a2), (8, .int .i64 r12), (9, .int .i64 s53), (10, .pointer (some p17))] → J v73 w74 → K71 a w74 := by
        intro v73 w74 a hF h
        replace h := hJ _ _ h
        clear hJ
        refine hK72 _ _ ?_
        refine end_draw 8388608 #[0, 1, 0, 4, 12, 28, 0, 124, 252, 508, 1023, 0, 2048, 0, 8192, 24576, 57344, 0, 253952, 516096, 1040384, 2095104, 4194303, 8388607] 24 mo rfl (by kernel_rfl) (by kernel_rfl) fun hS K77 hK78 => ?_
        obtain ⟨w79, hw, h⟩ := h; rw [← hw]; clear hw
        refine GL.val (v := .pointer (some p17)) (i := 0) hF hS rfl rfl (by kernel_rfl) rfl rfl rfl rfl (fun x => r_fieldAddr0 hF rfl rfl Try.runUnderlying94 rfl Try.sizeOf3 rfl) ?_; clear hF; clear a; intro a hF
        obtain ⟨t80, hct80, h⟩ := h
        refine GL.read (v := .int .i64 t80) (i := 1) hF (fun x => World.cell? x p17 = some (.int .i64 t80)) hS rfl rfl (by kernel_rfl) rfl rfl rfl rfl hct80 (fun x hx => r_load hF rfl rfl Try.isAgg3 hx) ?_; clear hF; clear a; intro a hF
        refine GL.val (v := .pointer a0) (i := 2) hF hS rfl rfl (by kernel_rfl) rfl rfl rfl rfl (fun x => r_move hF rfl rfl) ?_; clear hF; clear a; intro a hF
        obtain ⟨p81, hpp81, h⟩ := h
        refine GL.val (v := .pointer (some p81)) (i := 3) hF hS rfl rfl (by kernel_rfl) rfl rfl rfl rfl (fun x => r_nilCheck hF rfl (lkp rfl hpp81)) ?_; clear hF; clear a; intro a hF
        refine GL.val (v := .pointer (some (p81.add 1))) (i := 4) hF hS rfl rfl (by kernel_rfl) rfl rfl rfl rfl (fun x => r_fieldAddr hF rfl rfl Try.runUnderlying89 rfl Try.sizeOf87 rfl) ?_; clear hF; clear a; intro a hF
        obtain ⟨t82, hct82, h⟩ := h
        refine GL.read (v := t82.v) (i := 5) hF (fun x => World.cell? x (p81.add 1) = some (t82.v)) hS rfl rfl (by kernel_rfl) rfl rfl rfl rfl hct82 (fun x hx => r_load hF rfl rfl Try.isAgg87 hx) ?_; clear hF; clear a; intro a hF
        refine GL.val (v := .int .i64 s53) (i := 6) hF hS rfl rfl (by kernel_rfl) rfl rfl rfl rfl (fun x => r_move hF rfl rfl) ?_; clear hF; clear a; intro a hF
        obtain ⟨b84, p83, hb_, h0_, h1_, hp_, h⟩ := h
        refine GL.val (v := .pointer (some p83)) (i := 7) hF hS rfl rfl (by kernel_rfl) rfl rfl rfl rfl (fun x => by rw [hp_]; exact r_indexAddr hF rfl (lks rfl hb_) rfl Try.runUnderlying87 Try.sizeOf94 h0_ h1_) ?_; clear hF; clear a; intro a hF
        refine GL.val (v := .pointer (some p83)) (i := 8) hF hS rfl rfl (by kernel_rfl) rfl rfl rfl rfl (fun x => r_fieldAddr0 hF rfl rfl Try.runUnderlying94 rfl Try.sizeOf3 rfl) ?_; clear hF; clear a; intro a hF
        obtain ⟨t85, hct85, h⟩ := h
        refine GL.read (v := .int .i64 t85) (i := 9) hF (fun x => World.cell? x p83 = some (.int .i64 t85)) hS rfl rfl (by kernel_rfl) rfl rfl rfl rfl hct85 (fun x hx => r_load hF rfl rfl Try.isAgg3 hx) ?_; clear hF; clear a; intro a hF
        refine GL.val (v := .int .i64 (if t85 < t80 then t85 else t80)) (i := 10) hF hS rfl rfl (by kernel_rfl) rfl rfl rfl rfl (fun x => r_min hF rfl rfl rfl) ?_; clear hF; clear a; intro a hF
        refine GL.val (v := .pointer (some (p17.add 1))) (i := 11) hF hS rfl rfl (by kernel_rfl) rfl rfl rfl rfl (fun x => r_fieldAddr hF rfl rfl Try.runUnderlying94 rfl Try.sizeOf3 rfl) ?_; clear hF; clear a; intro a hF
        obtain ⟨t86, hct86, h⟩ := h
        refine GL.read (v := .int .i64 t86) (i := 12) hF (fun x => World.cell? x (p17.add 1) = some (.int .i64 t86)) hS rfl rfl (by kernel_rfl) rfl rfl rfl rfl hct86 (fun x hx => r_load hF rfl rfl Try.isAgg3 hx) ?_; clear hF; clear a; intro a hF
        refine GL.val (v := .pointer a0) (i := 13) hF hS rfl rfl (by kernel_rfl) rfl rfl rfl rfl (fun x => r_move hF rfl rfl) ?_; clear hF; clear a; intro a hF
        obtain ⟨p87, hpp87, h⟩ := h
        refine GL.val (v := .pointer (some p87)) (i := 14) hF hS rfl rfl (by kernel_rfl) rfl rfl rfl rfl (fun x => r_nilCheck hF rfl (lkp rfl hpp87)) ?_; clear hF; clear a; intro a hF
        refine GL.val (v := .pointer (some (p87.add 1))) (i := 15) hF hS rfl rfl (by kernel_rfl) rfl rfl rfl rfl (fun x => r_fieldAddr hF rfl rfl Try.runUnderlying89 rfl Try.sizeOf87 rfl) ?_; clear hF; clear a; intro a hF
        obtain ⟨t88, hct88, h⟩ := h
        refine GL.read (v := t88.v) (i := 16) hF (fun x => World.cell? x (p87.add 1) = some (t88.v)) hS rfl rfl (by kernel_rfl) rfl rfl rfl rfl hct88 (fun x hx => r_load hF rfl rfl Try.isAgg87 hx) ?_; clear hF; clear a; intro a hF
        refine GL.val (v := .int .i64 s53) (i := 17) hF hS rfl rfl (by kernel_rfl) rfl rfl rfl rfl (fun x => r_move hF rfl rfl) ?_; clear hF; clear a; intro a hF
        obtain ⟨b90, p89, hb_, h0_, h1_, hp_, h⟩ := h
        refine GL.val (v := .pointer (some p89)) (i := 18) hF hS rfl rfl (by kernel_rfl) rfl rfl rfl rfl (fun x => by rw [hp_]; exact r_indexAddr hF rfl (lks rfl hb_) rfl Try.runUnderlying87 Try.sizeOf94 h0_ h1_) ?_; clear hF; clear a; intro a hF
        refine GL.val (v := .pointer (some (p89.add 1))) (i := 19) hF hS rfl rfl (by kernel_rfl) rfl rfl rfl rfl (fun x => r_fieldAddr hF rfl rfl Try.runUnderlying94 rfl Try.sizeOf3 rfl) ?_; clear hF; clear a; intro a hF
        obtain ⟨t91, hct91, h⟩ := h
        refine GL.read (v := .int .i64 t91) (i := 20) hF (fun x => World.cell? x (p89.add 1) = some (.int .i64 t91)) hS rfl rfl (by kernel_rfl) rfl rfl rfl rfl hct91 (fun x hx => r_load hF rfl rfl Try.isAgg3 hx) ?_; clear hF; clear a; intro a hF
        refine GL.val (v := .int .i64 (if t91 > t86 then t91 else t86)) (i := 21) hF hS rfl rfl (by kernel_rfl) rfl rfl rfl rfl (fun x => r_max hF rfl rfl rfl) ?_; clear hF; clear a; intro a hF
        refine GL.val (v := .agg (#[.int .i64 (if t85 < t80 then t85 else t80), .int .i64 (if t91 > t86 then t91 else t86)])) (i := 22) hF hS rfl rfl (by kernel_rfl) rfl rfl rfl rfl (fun x => r_build (xs := [(0, .int .i64 (if t85 < t80 then t85 else t80)), (1, .int .i64 (if t91 > t86 then t91 else t86))]) hF rfl rfl (by kernel_rfl)) ?_; clear hF; clear a; intro a hF
        refine GL.act (i := 23) (pend' := []) hS (by kernel_rfl) rfl (by kernel_rfl) ?_
        obtain ⟨w92, hs1_, hs2_, hs3_, hs4_, h⟩ := h
        refine op_unit (w' := w92) hF rfl rfl rfl (by rw [hs4_]; exact r_storeA hF rfl rfl rfl Try.sizeOf94 hs1_ hs2_ hs3_) trivial ?_; clear hF; clear a; intro a hF
        refine GL.done (by kernel_rfl) (hK78 _ _ ?_)
        clear hK78 K77
        exact jn68 () _ _ (hF.sub rfl) h
      clear hJ
      refine seq_region fun K93 hK94 => ?_
      refine RL.val  hF rfl rfl rfl (r_move hF rfl rfl) ?_; clear hF; clear a; intro a hF
      obtain ⟨p95, hpp95, h⟩ := h
      refine RL.val  hF rfl rfl rfl (r_nilCheck hF rfl (lkp rfl hpp95)) ?_; clear hF; clear a; intro a hF
      refine RL.val  hF rfl rfl rfl (r_fieldAddr hF rfl rfl Try.runUnderlying89 rfl Try.sizeOf87 rfl) ?_; clear hF; clear a; intro a hF
      obtain ⟨t96, hct96, h⟩ := h
      refine RL.val  hF rfl rfl rfl (r_load hF rfl rfl Try.isAgg87 hct96) ?_; clear hF; clear a; intro a hF
      refine RL.val  hF rfl rfl rfl (r_move hF rfl rfl) ?_; clear hF; clear a; intro a hF
      obtain ⟨b98, p97, hb_, h0_, h1_, hp_, h⟩ := h
      refine RL.val (v := .pointer (some p97)) (w' := w60) hF rfl rfl rfl (by rw [hp_]; exact r_indexAddr hF rfl (lks rfl hb_) rfl Try.runUnderlying87 Try.sizeOf94 h0_ h1_) ?_; clear hF; clear a; intro a hF
      refine RL.val  hF rfl rfl rfl (r_fieldAddr0 hF rfl rfl Try.runUnderlying94 rfl Try.sizeOf3 rfl) ?_; clear hF; clear a; intro a hF
      obtain ⟨t99, hct99, h⟩ := h
      refine RL.val  hF rfl rfl rfl (r_load hF rfl rfl Try.isAgg3 hct99) ?_; clear hF; clear a; intro a hF
      refine RL.val  hF rfl rfl rfl (r_move hF rfl rfl) ?_; clear hF; clear a; intro a hF
      refine RL.val  hF rfl rfl rfl (r_add hF rfl rfl rfl) ?_; clear hF; clear a; intro a hF
      refine RL.val  hF rfl rfl rfl (r_gtr hF rfl rfl rfl) ?_; clear hF; clear a; intro a hF
      refine RL.nil (hK94 _ _ ?_)
      clear hK94 K93
      obtain ⟨ht, hf⟩ := h
      refine cond_ hF rfl (fun hc => ?_) (fun hc => ?_)
      · replace h := ht hc; clear ht hf
        refine wp_exit ?_
        exact jn25 s53 _ _ (hF.sub rfl) h
      · replace h := hf hc; clear ht hf
        refine wp_skip ?_
        exact jn76 () _ _ (hF.sub rfl) h
    clear hJ
    refine seq_region fun K100 hK101 => ?_
    refine RL.val  hF rfl rfl rfl (r_move hF rfl rfl) ?_; clear hF; clear a; intro a hF
    refine RL.val  hF rfl rfl rfl (r_move hF rfl rfl) ?_; clear hF; clear a; intro a hF
    obtain ⟨p102, hpp102, h⟩ := h
    refine RL.val  hF rfl rfl rfl (r_nilCheck hF rfl (lkp rfl hpp102)) ?_; clear hF; clear a; intro a hF
    refine RL.val  hF rfl rfl rfl (r_fieldAddr hF rfl rfl Try.runUnderlying89 rfl Try.sizeOf87 rfl) ?_; clear hF; clear a; intro a hF
    obtain ⟨t103, hct103, h⟩ := h
    refine RL.val  hF rfl rfl rfl (r_load hF rfl rfl Try.isAgg87 hct103) ?_; clear hF; clear a; intro a hF
    refine RL.val  hF rfl rfl rfl (r_len_slice hF rfl rfl Try.runUnderlying87) ?_; clear hF; clear a; intro a hF
    refine RL.val  hF rfl rfl rfl (r_lss hF rfl rfl rfl) ?_; clear hF; clear a; intro a hF
    refine RL.nil (hK101 _ _ ?_)
    clear hK101 K100
    obtain ⟨ht, hf⟩ := h
    refine cond_ hF rfl (fun hc => ?_) (fun hc => ?_)
    · replace h := ht hc; clear ht hf
      refine wp_skip ?_
      exact jn62 () _ _ (hF.sub rfl) h
    · replace h := hf hc; clear ht hf
      refine wp_exit ?_
      exact jn25 s53 _ _ (hF.sub rfl) h
  clear hJ
  refine seq_region fun K104 hK105 => ?_
  refine RL.val  hF rfl rfl rfl (r_move hF rfl rfl) ?_; clear hF; clear a; intro a hF
  refine RL.val  hF rfl rfl rfl (r_move hF rfl rfl) ?_; clear hF; clear a; intro a hF
  refine RL.val  hF rfl rfl rfl (r_move hF rfl rfl) ?_; clear hF; clear a; intro a hF
  refine RL.call hF rfl rfl rfl (r_call (xs := [.pointer a0, .int .i64 a1, .int .i64 a2]) hF rfl rfl Try.call49) (CallsV.mono h ?_)
  clear h; rintro _ w106 ⟨r107, rfl, h⟩; clear hF; clear a; intro a hF
  refine RL.val  hF rfl rfl rfl (r_assign hF rfl rfl) ?_; clear hF; clear a; intro a hF
  refine RL.nil (hK105 _ _ ?_)
  clear hK105 K104
  refine seq_region fun K108 hK109 => ?_
  refine RL.val  hF rfl rfl rfl (r_move hF rfl rfl) ?_; clear hF; clear a; intro a hF
  refine RL.val  hF rfl rfl rfl (r_neq hF rfl rfl rfl) ?_; clear hF; clear a; intro a hF
  refine RL.nil (hK109 _ _ ?_)
  clear hK109 K108
  obtain ⟨ht, hf⟩ := h
  refine cond_ hF rfl (fun hc => ?_) (fun hc => ?_)
  · replace h := ht hc; clear ht hf
    refine seq_region fun K110 hK111 => ?_
    refine RL.val  hF rfl rfl rfl (r_move hF rfl rfl) ?_; clear hF; clear a; intro a hF
    refine RL.val  hF rfl rfl rfl (r_assign hF rfl rfl) ?_; clear hF; clear a; intro a hF
    refine RL.nil (hK111 _ _ ?_)
    clear hK111 K110
    refine wp_ret ?_
    exact ret_of hF (res1 hF rfl rfl) ⟨_, rfl, h⟩
  · replace h := hf hc; clear ht hf
    refine wp_skip ?_
    exact jn8 () _ _ (hF.sub rfl) h

set_option maxRecDepth 20000 in
theorem br21 {a0 : Option Addr} {a1 : Array Value} {w : World} {K : Int → World → Prop} (h : sh21 a0 a1 w K) : C21 a0 a1 w K := by
  unfold sh21 at h
  refine enter (n := 74) (l := [(0, .pointer a0), (1, .agg a1)]) 72 Try.func21 rfl _ rfl rfl rfl fun a hF => ?_
  refine seq_region fun K1 hK2 => ?_
  obtain ⟨p3, w4, hp_, hw_, h⟩ := h
  refine RL.val (v := .pointer (some p3)) (w' := w4) hF rfl rfl rfl (by rw [hp_, hw_]; exact r_box hF rfl rfl rfl) ?_; clear hF; clear a; intro a hF
  refine RL.val  hF rfl rfl rfl (r_assign hF rfl rfl) ?_; clear hF; clear a; intro a hF
  refine RL.nil (hK2 _ _ ?_)
  clear hK2 K1
  refine seq_k fun K5 hK6 => ?_
  obtain ⟨J, hJ, h⟩ := jn_open h
  have jn10 : ∀ (v7 : Unit) (w8 : World) a, Fr 74 a [(0, .pointer a0), (3, .pointer (some p3))] → J v7 w8 → K5 a w8 := by
    intro v7 w8 a hF h
    replace h := hJ _ _ h
    clear hJ
    refine hK6 _ _ ?_
    refine seq_k fun K11 hK12 => ?_
    obtain ⟨J, hJ, h⟩ := jn_open h
    have jn16 : ∀ (v13 : Unit) (w14 : World) a, Fr 74 a [(0, .pointer a0), (3, .pointer (some p3))] → J v13 w14 → K11 a w14 := by
      intro v13 w14 a hF h
      replace h := hJ _ _ h
      clear hJ
      refine hK12 _ _ ?_
      refine seq_k fun K17 hK18 => ?_
      obtain ⟨J, hJ, h⟩ := jn_open h
      have jn22 : ∀ (v19 : Unit) (w20 : World) a, Fr 74 a [] → J v19 w20 → K17 a w20 := by
        intro v19 w20 a hF h
        replace h := hJ _ _ h
        clear hJ
        refine hK18 _ _ ?_
        refine seq_region fun K23 hK24 => ?_
        refine RL.val  hF rfl rfl rfl (r_assign hF rfl rfl) ?_; clear hF; clear a; intro a hF
        refine RL.nil (hK24 _ _ ?_)
        clear hK24 K23
        refine wp_ret ?_
        exact ret_of hF (res1 hF rfl rfl) ⟨_, rfl, h⟩
      clear hJ
      refine seq_region fun K25 hK26 => ?_
      obtain ⟨J29, hJ, h⟩ := jn_open h
      have jn30 : ∀ (v27 : Bool) (w28 : World) a, Fr 74 a [(0, .pointer a0), (70, .bool v27)] → J29 v27 w28 → K25 a w28 := by
        clear hF
        intro v27 w28 a hF h; replace h := hJ _ _ h; refine hK26 _ _ ?_; clear hJ hK26 K25
        obtain ⟨ht, hf⟩ := h
        refine cond_ hF rfl (fun hc => ?_) (fun hc => ?_)
        · replace h := ht hc; clear ht hf
          refine end_region fun K31 hK32 => ?_
          refine RL.val  hF rfl rfl rfl (r_move hF rfl rfl) ?_; clear hF; clear a; intro a hF
          obtain ⟨p33, hpp33, h⟩ := h
          refine RL.val  hF rfl rfl rfl (r_nilCheck hF rfl (lkp rfl hpp33)) ?_; clear hF; clear a; intro a hF
          refine RL.val  hF rfl rfl rfl (r_fieldAddr hF rfl rfl Try.runUnderlying70 rfl Try.sizeOf3 rfl) ?_; clear hF; clear a; intro a hF
          obtain ⟨u_, w34, hs1_, hs2_, hs3_, h⟩ := h
          refine RL.unit (w' := w34) hF rfl rfl (by rw [hs3_]; exact r_store hF rfl rfl rfl rfl Try.sizeOf3 hs1_ hs2_) ?_; clear hF; clear a; intro a hF
          refine RL.nil (hK32 _ _ ?_)
          clear hK32 K31
          exact jn22 () _ _ (hF.sub rfl) h
        · replace h := hf hc; clear ht hf
          refine wp_skip ?_
          exact jn22 () _ _ (hF.sub rfl) h
      clear hJ hK26
      refine RL.val  hF rfl rfl rfl (r_fieldAddr hF rfl rfl Try.runUnderlying30 rfl Try.sizeOf4 rfl) ?_; clear hF; clear a; intro a hF
      obtain ⟨t35, hct35, h⟩ := h
      refine RL.val  hF rfl rfl rfl (r_load hF rfl rfl Try.isAgg4 hct35) ?_; clear hF; clear a; intro a hF
      refine RL.val  hF rfl rfl rfl (r_move hF rfl rfl) ?_; clear hF; clear a; intro a hF
      obtain ⟨ht, hf⟩ := h
      rcases bool_cases t35 with hg36 | hg36
      · replace h := ht hg36; clear ht hf
        refine RL.gval  hF rfl rfl (lkb rfl hg36) rfl rfl (r_move hF rfl rfl) ?_; clear hF; clear a; intro a hF
        obtain ⟨p37, hpp37, h⟩ := h
        refine RL.gval  hF rfl rfl (lkb rfl hg36) rfl rfl (r_nilCheck hF rfl (lkp rfl hpp37)) ?_; clear hF; clear a; intro a hF
        refine RL.gval  hF rfl rfl (lkb rfl hg36) rfl rfl (r_fieldAddr hF rfl rfl Try.runUnderlying70 rfl Try.sizeOf3 rfl) ?_; clear hF; clear a; intro a hF
        obtain ⟨t38, hct38, h⟩ := h
        refine RL.gval  hF rfl rfl (lkb rfl hg36) rfl rfl (r_load hF rfl rfl Try.isAgg3 hct38) ?_; clear hF; clear a; intro a hF
        refine RL.gval  hF rfl rfl (lkb rfl hg36) rfl rfl (r_eql hF rfl rfl rfl) ?_; clear hF; clear a; intro a hF
        refine RL.val (v := .bool (t38 == 2)) (w' := w14) hF rfl rfl rfl (r_pick hF rfl rfl rfl rfl (fun _ => rfl) (fun e => absurd (hg36.symm.trans e) (by decide))) ?_; clear hF; clear a; intro a hF
        refine RL.nil ?_
        exact jn30 (t38 == 2) _ _ (hF.sub rfl) h
      · replace h := hf hg36; clear ht hf
        refine RL.skip hF rfl rfl (lkb rfl hg36) (.inl rfl) rfl rfl ?_; clear hF; clear a; intro a hF
        refine RL.skip hF rfl rfl (lkb rfl hg36) (.inl rfl) rfl rfl ?_; clear hF; clear a; intro a hF
        refine RL.skip hF rfl rfl (lkb rfl hg36) (.inl rfl) rfl rfl ?_; clear hF; clear a; intro a hF
        refine RL.skip hF rfl rfl (lkb rfl hg36) (.inl rfl) rfl rfl ?_; clear hF; clear a; intro a hF
        refine RL.skip hF rfl rfl (lkb rfl hg36) (.inl rfl) rfl rfl ?_; clear hF; clear a; intro a hF
        refine RL.val (v := .bool false) (w' := w14) hF rfl rfl rfl (r_pick hF rfl rfl rfl rfl (fun e => absurd (hg36.symm.trans e) (by decide)) (fun _ => rfl)) ?_; clear hF; clear a; intro a hF
        refine RL.nil ?_
        exact jn30 false _ _ (hF.sub rfl) h
    clear hJ
    refine seq_region fun K39 hK40 => ?_
    refine RL.val  hF rfl rfl rfl (r_fieldAddr0 hF rfl rfl Try.runUnderlying30 rfl Try.sizeOf3 rfl) ?_; clear hF; clear a; intro a hF
    obtain ⟨t41, hct41, h⟩ := h
    refine RL.val  hF rfl rfl rfl (r_load hF rfl rfl Try.isAgg3 hct41) ?_; clear hF; clear a; intro a hF
    refine RL.val  hF rfl rfl rfl (r_assign hF rfl rfl) ?_; clear hF; clear a; intro a hF
    refine RL.nil (hK40 _ _ ?_)
    clear hK40 K39
    refine wp_block ?_
    refine loop_ (fun (s42 : Int) => [(0, .pointer a0), (3, .pointer (some p3)), (6, .int .i64 s42)]) (hF.sub rfl) h ?_
    clear hF h
    intro s42 w43 N44 KL hN45 h a hF
    refine seq_k fun K46 hK47 => ?_
    obtain ⟨J, hJ, h⟩ := jn_open h
    have jn51 : ∀ (v48 : Unit) (w49 : World) a, Fr 74 a [(0, .pointer a0), (3, .pointer (some p3)), (6, .int .i64 s42)] → J v48 w49 → K46 a w49 := by
      intro v48 w49 a hF h
      replace h := hJ _ _ h
      clear hJ
      refine hK47 _ _ ?_
      refine wp_block ?_
      refine seq_region fun K52 hK53 => ?_
      refine RL.val  hF rfl rfl rfl (r_move hF rfl rfl) ?_; clear hF; clear a; intro a hF
      obtain ⟨p54, hpp54, h⟩ := h
      refine RL.val  hF rfl rfl rfl (r_nilCheck hF rfl (lkp rfl hpp54)) ?_; clear hF; clear a; intro a hF
      refine RL.val  hF rfl rfl rfl (r_fieldAddr hF rfl rfl Try.runUnderlying70 rfl Try.sizeOf67 rfl) ?_; clear hF; clear a; intro a hF
      obtain ⟨t55, hct55, h⟩ := h
      refine RL.val  hF rfl rfl rfl (r_load hF rfl rfl Try.isAgg67 hct55) ?_; clear hF; clear a; intro a hF
      refine RL.val  hF rfl rfl rfl (r_move hF rfl rfl) ?_; clear hF; clear a; intro a hF
      refine RL.call hF rfl rfl rfl (r_call (xs := [.pointer t55, .int .i64 s42]) hF rfl rfl Try.call37) (CallsV.mono h ?_)
      clear h; rintro _ w56 ⟨r57, rfl, h⟩; clear hF; clear a; intro a hF
      refine RL.val  hF rfl rfl rfl (r_assign hF rfl rfl) ?_; clear hF; clear a; intro a hF
      refine RL.nil (hK53 _ _ ?_)
      clear hK53 K52
      refine seq_region fun K58 hK59 => ?_
      refine RL.val  hF rfl rfl rfl (r_move hF rfl rfl) ?_; clear hF; clear a; intro a hF
      refine RL.val  hF rfl rfl rfl (r_assign hF rfl rfl) ?_; clear hF; clear a; intro a hF
      refine RL.nil (hK59 _ _ ?_)
      clear hK59 K58
      refine seq_k fun K60 hK61 => ?_
      obtain ⟨J, hJ, h⟩ := jn_open h
      have jn65 : ∀ (v62 : Int) (w63 : World) a, Fr 74 a [(0, .pointer a0), (3, .pointer (some p3)), (6, .int .i64 r57), (7, .int .i64 v62)] → J v62 w63 → K60 a w63 := by
        intro v62 w63 a hF h
        replace h := hJ _ _ h
        clear hJ
        refine hK61 _ _ ?_
        refine seq_k fun K66 hK67 => ?_
        obtain ⟨J, hJ, h⟩ := jn_open h
        have jn71 : ∀ (v68 : Unit) (w69 : World) a, Fr 74 a [(0, .pointer a0), (3, .pointer (some p3)), (7, .int .i64 v62)] → J v68 w69 → K66 a w69 := by
          intro v68 w69 a hF h
          replace h := hJ _ _ h
          clear hJ
          refine hK67 _ _ ?_
          refine end_region fun K72 hK73 => ?_
          refine RL.val  hF rfl rfl rfl (r_move hF rfl rfl) ?_; clear hF; clear a; intro a hF
          refine RL.val  hF rfl rfl rfl (r_assign hF rfl rfl) ?_; clear hF; clear a; intro a hF
          refine RL.nil (hK73 _ _ ?_)
          clear hK73 K72
          exact hN45 v62 _ _ (hF.sub rfl) h
        clear hJ
        refine seq_region fun K74 hK75 => ?_
        refine RL.val  hF rfl rfl rfl (r_move hF rfl rfl) ?_; clear hF; clear a; intro a hF
        refine RL.val  hF rfl rfl rfl (r_move hF rfl rfl) ?_; clear hF; clear a; intro a hF
        refine RL.val  hF rfl rfl rfl (r_gtr hF rfl rfl rfl) ?_; clear hF; clear a; intro a hF
        refine RL.nil (hK75 _ _ ?_)
        clear hK75 K74
        obtain ⟨ht, hf⟩ := h
        refine cond_ hF rfl (fun hc => ?_) (fun hc => ?_)
        · replace h := ht hc; clear ht hf
          refine end_region fun K76 hK77 => ?_
          refine RL.val  hF rfl rfl rfl (r_move hF rfl rfl) ?_; clear hF; clear a; intro a hF
          obtain ⟨p78, hpp78, h⟩ := h
          refine RL.val  hF rfl rfl rfl (r_nilCheck hF rfl (lkp rfl hpp78)) ?_; clear hF; clear a; intro a hF
          refine RL.val  hF rfl rfl rfl (r_fieldAddr hF rfl rfl Try.runUnderlying70 rfl Try.sizeOf67 rfl) ?_; clear hF; clear a; intro a hF
          obtain ⟨t79, hct79, h⟩ := h
          refine RL.val  hF rfl rfl rfl (r_load hF rfl rfl Try.isAgg67 hct79) ?_; clear hF; clear a; intro a hF
          refine RL.val  hF rfl rfl rfl (r_move hF rfl rfl) ?_; clear hF; clear a; intro a hF
          refine RL.val  hF rfl rfl rfl (r_move hF rfl rfl) ?_; clear hF; clear a; intro a hF
          refine RL.val  hF rfl rfl rfl (r_sub hF rfl rfl rfl) ?_; clear hF; clear a; intro a hF
          refine RL.call hF rfl rfl rfl (r_call (xs := [.pointer t79, .int .i64 r57, .int .i64 (IntKind.i64.wrap (v62 - 1))]) hF rfl rfl Try.call36) (CallsV.mono h ?_)
          clear h; rintro _ w80 ⟨r81, rfl, h⟩; clear hF; clear a; intro a hF
          refine RL.nil (hK77 _ _ ?_)
          clear hK77 K76
          exact jn71 () _ _ (hF.sub rfl) h
        · replace h := hf hc; clear ht hf
          refine wp_skip ?_
          exact jn71 () _ _ (hF.sub rfl) h
      clear hJ
      refine wp_block ?_
      refine loop_ (fun (s82 : Int) => [(0, .pointer a0), (3, .pointer (some p3)), (6, .int .i64 r57), (7, .int .i64 s82)]) (hF.sub rfl) h ?_
      clear hF h
      intro s82 w83 N84 KL hN85 h a hF
      refine seq_k fun K86 hK87 => ?_
      obtain ⟨J, hJ, h⟩ := jn_open h
      have jn91 : ∀ (v88 : Unit) (w89 : World) a, Fr 74 a [(0, .pointer a0), (3, .pointer (some p3)), (6, .int .i64 r57), (7, .int .i64 s82)] → J v88 w89 → K86 a w89 := by
        intro v88 w89 a hF h
        replace h := hJ _ _ h
        clear hJ
        refine hK87 _ _ ?_
        refine wp_block ?_
        refine end_region fun K92 hK93 => ?_
        refine RL.val  hF rfl rfl rfl (r_move hF rfl rfl) ?_; clear hF; clear a; intro a hF
        refine RL.val  hF rfl rfl rfl (r_add hF rfl rfl rfl) ?_; clear hF; clear a; intro a hF
        refine RL.val  hF rfl rfl rfl (r_assign hF rfl rfl) ?_; clear hF; clear a; intro a hF
        refine RL.nil (hK93 _ _ ?_)
        clear hK93 K92
        exact hN85 (IntKind.i64.wrap (s82 + 1)) _ _ (hF.sub rfl) h
      clear hJ
      refine seq_region fun K94 hK95 => ?_
      obtain ⟨J98, hJ, h⟩ := jn_open h
      have jn99 : ∀ (v96 : Bool) (w97 : World) a, Fr 74 a [(0, .pointer a0), (3, .pointer (some p3)), (6, .int .i64 r57), (7, .int .i64 s82), (47, .bool v96)] → J98 v96 w97 → K94 a w97 := by
        clear hF
        intro v96 w97 a hF h; replace h := hJ _ _ h; refine hK95 _ _ ?_; clear hJ hK95 K94
        obtain ⟨ht, hf⟩ := h
        refine cond_ hF rfl (fun hc => ?_) (fun hc => ?_)
        · replace h := ht hc; clear ht hf
          refine wp_skip ?_
          exact jn91 () _ _ (hF.sub rfl) h
        · replace h := hf hc; clear ht hf
          refine wp_exit ?_
          exact jn65 s82 _ _ (hF.sub rfl) h
      clear hJ hK95
      refine RL.val  hF rfl rfl rfl (r_move hF rfl rfl) ?_; clear hF; clear a; intro a hF
      refine RL.val  hF rfl rfl rfl (r_fieldAddr0 hF rfl rfl Try.runUnderlying30 rfl Try.sizeOf3 rfl) ?_; clear hF; clear a; intro a hF
      obtain ⟨t100, hct100, h⟩ := h
      refine RL.val  hF rfl rfl rfl (r_load hF rfl rfl Try.isAgg3 hct100) ?_; clear hF; clear a; intro a hF
      refine RL.val  hF rfl rfl rfl (r_fieldAddr hF rfl rfl Try.runUnderlying30 rfl Try.sizeOf22 rfl) ?_; clear hF; clear a; intro a hF
      obtain ⟨t101, hct101, h⟩ := h
      refine RL.val  hF rfl rfl rfl (r_load hF rfl rfl Try.isAgg22 hct101) ?_; clear hF; clear a; intro a hF
      refine RL.val  hF rfl rfl rfl (r_len_slice hF rfl rfl Try.runUnderlying22) ?_; clear hF; clear a; intro a hF
      refine RL.val  hF rfl rfl rfl (r_add hF rfl rfl rfl) ?_; clear hF; clear a; intro a hF
      refine RL.val  hF rfl rfl rfl (r_lss hF rfl rfl rfl) ?_; clear hF; clear a; intro a hF
      refine RL.val  hF rfl rfl rfl (r_move hF rfl rfl) ?_; clear hF; clear a; intro a hF
      obtain ⟨ht, hf⟩ := h
      rcases bool_cases (decide (s82 < (IntKind.i64.wrap (t100 + (t101.len : Int))))) with hg102 | hg102
      · replace h := ht hg102; clear ht hf
        refine RL.gval  hF rfl rfl (lkb rfl hg102) rfl rfl (r_move hF rfl rfl) ?_; clear hF; clear a; intro a hF
        obtain ⟨p103, hpp103, h⟩ := h
        refine RL.gval  hF rfl rfl (lkb rfl hg102) rfl rfl (r_nilCheck hF rfl (lkp rfl hpp103)) ?_; clear hF; clear a; intro a hF
        refine RL.gval  hF rfl rfl (lkb rfl hg102) rfl rfl (r_fieldAddr hF rfl rfl Try.runUnderlying70 rfl Try.sizeOf67 rfl) ?_; clear hF; clear a; intro a hF
        obtain ⟨t104, hct104, h⟩ := h
        refine RL.gval  hF rfl rfl (lkb rfl hg102) rfl rfl (r_load hF rfl rfl Try.isAgg67 hct104) ?_; clear hF; clear a; intro a hF
        refine RL.gval  hF rfl rfl (lkb rfl hg102) rfl rfl (r_move hF rfl rfl) ?_; clear hF; clear a; intro a hF
        refine RL.gcall hF rfl rfl (lkb rfl hg102) rfl rfl (r_call (xs := [.pointer t104, .int .i64 s82]) hF rfl rfl Try.call39) (CallsV.mono h ?_)
        clear h; rintro _ w105 ⟨r106, rfl, h⟩; clear hF; clear a; intro a hF
        refine RL.gval  hF rfl rfl (lkb rfl hg102) rfl rfl (r_not hF rfl rfl) ?_; clear hF; clear a; intro a hF
        refine RL.val (v := .bool (!r106)) (w' := w105) hF rfl rfl rfl (r_pick hF rfl rfl rfl rfl (fun _ => rfl) (fun e => absurd (hg102.symm.trans e) (by decide))) ?_; clear hF; clear a; intro a hF
        refine RL.nil ?_
        exact jn99 (!r106) _ _ (hF.sub rfl) h
      · replace h := hf hg102; clear ht hf
        refine RL.skip hF rfl rfl (lkb rfl hg102) (.inl rfl) rfl rfl ?_; clear hF; clear a; intro a hF
        refine RL.skip hF rfl rfl (lkb rfl hg102) (.inl rfl) rfl rfl ?_; clear hF; clear a; intro a hF
        refine RL.skip hF rfl rfl (lkb rfl hg102) (.inl rfl) rfl rfl ?_; clear hF; clear a; intro a hF
        refine RL.skip hF rfl rfl (lkb rfl hg102) (.inl rfl) rfl rfl ?_; clear hF; clear a; intro a hF
        refine RL.skip hF rfl rfl (lkb rfl hg102) (.inl rfl) rfl rfl ?_; clear hF; clear a; intro a hF
        refine RL.skip hF rfl rfl (lkb rfl hg102) (.inl rfl) rfl rfl ?_; clear hF; clear a; intro a hF
        refine RL.skip hF rfl rfl (lkb rfl hg102) (.inl rfl) rfl rfl ?_; clear hF; clear a; intro a hF
        refine RL.val (v := .bool false) (w' := w83) hF rfl rfl rfl (r_pick hF rfl rfl rfl rfl (fun e => absurd (hg102.symm.trans e) (by decide)) (fun _ => rfl)) ?_; clear hF; clear a; intro a hF
        refine RL.nil ?_
        exact jn99 false _ _ (hF.sub rfl) h
    clear hJ
    refine seq_region fun K107 hK108 => ?_
    refine RL.val  hF rfl rfl rfl (r_move hF rfl rfl) ?_; clear hF; clear a; intro a hF
    refine RL.val  hF rfl rfl rfl (r_fieldAddr0 hF rfl rfl Try.runUnderlying30 rfl Try.sizeOf3 rfl) ?_; clear hF; clear a; intro a hF
    obtain ⟨t109, hct109, h⟩ := h
    refine RL.val  hF rfl rfl rfl (r_load hF rfl rfl Try.isAgg3 hct109) ?_; clear hF; clear a; intro a hF
    refine RL.val  hF rfl rfl rfl (r_fieldAddr hF rfl rfl Try.runUnderlying30 rfl Try.sizeOf22 rfl) ?_; clear hF; clear a; intro a hF
    obtain ⟨t110, hct110, h⟩ := h
    refine RL.val  hF rfl rfl rfl (r_load hF rfl rfl Try.isAgg22 hct110) ?_; clear hF; clear a; intro a hF
    refine RL.val  hF rfl rfl rfl (r_len_slice hF rfl rfl Try.runUnderlying22) ?_; clear hF; clear a; intro a hF
    refine RL.val  hF rfl rfl rfl (r_add hF rfl rfl rfl) ?_; clear hF; clear a; intro a hF
    refine RL.val  hF rfl rfl rfl (r_lss hF rfl rfl rfl) ?_; clear hF; clear a; intro a hF
    refine RL.nil (hK108 _ _ ?_)
    clear hK108 K107
    obtain ⟨ht, hf⟩ := h
    refine cond_ hF rfl (fun hc => ?_) (fun hc => ?_)
    · replace h := ht hc; clear ht hf
      refine wp_skip ?_
      exact jn51 () _ _ (hF.sub rfl) h
    · replace h := hf hc; clear ht hf
      refine wp_exit ?_
      exact jn16 () _ _ (hF.sub rfl) h
  clear hJ
  refine seq_region fun K111 hK112 => ?_
  refine RL.val  hF rfl rfl rfl (r_move hF rfl rfl) ?_; clear hF; clear a; intro a hF
  obtain ⟨t113, hct113, h⟩ := h
  refine RL.val  hF rfl rfl rfl (r_loadA hF rfl rfl Try.isAgg30 Try.sizeOf30 hct113) ?_; clear hF; clear a; intro a hF
  refine RL.call hF rfl rfl rfl (r_call (xs := [.pointer a0, .agg t113]) hF rfl rfl Try.call35) (CallsV.mono h ?_)
  clear h; rintro _ w114 ⟨r115, rfl, h⟩; clear hF; clear a; intro a hF
  refine RL.val  hF rfl rfl rfl (r_assign hF rfl rfl) ?_; clear hF; clear a; intro a hF
  refine RL.nil (hK112 _ _ ?_)
  clear hK112 K111
  refine seq_region fun K116 hK117 => ?_
  refine RL.val  hF rfl rfl rfl (r_move hF rfl rfl) ?_; clear hF; clear a; intro a hF
  refine RL.val  hF rfl rfl rfl (r_neq hF rfl rfl rfl) ?_; clear hF; clear a; intro a hF
  refine RL.nil (hK117 _ _ ?_)
  clear hK117 K116
  obtain ⟨ht, hf⟩ := h
  refine cond_ hF rfl (fun hc => ?_) (fun hc => ?_)
  · replace h := ht hc; clear ht hf
    refine seq_region fun K118 hK119 => ?_
    refine RL.val  hF rfl rfl rfl (r_move hF rfl rfl) ?_; clear hF; clear a; intro a hF
    refine RL.val  hF rfl rfl rfl (r_assign hF rfl rfl) ?_; clear hF; clear a; intro a hF
    refine RL.nil (hK119 _ _ ?_)
    clear hK119 K118
    refine wp_ret ?_
    exact ret_of hF (res1 hF rfl rfl) ⟨_, rfl, h⟩
  · replace h := hf hc; clear ht hf
    refine wp_skip ?_
    exact jn10 () _ _ (hF.sub rfl) h

set_option maxRecDepth 20000 in
theorem br19 {a0 : Option Addr} {a1 : Array Value} {w : World} {K : Int → World → Prop} (h : sh19 a0 a1 w K) : C19 a0 a1 w K := by
  unfold sh19 at h
  refine enter (n := 82) (l := [(0, .pointer a0), (1, .agg a1)]) 80 Try.func19 rfl _ rfl rfl rfl fun a hF => ?_
  refine seq_region fun K1 hK2 => ?_
  obtain ⟨p3, w4, hp_, hw_, h⟩ := h
  refine RL.val (v := .pointer (some p3)) (w' := w4) hF rfl rfl rfl (by rw [hp_, hw_]; exact r_box hF rfl rfl rfl) ?_; clear hF; clear a; intro a hF
  refine RL.val  hF rfl rfl rfl (r_assign hF rfl rfl) ?_; clear hF; clear a; intro a hF
  refine RL.nil (hK2 _ _ ?_)
  clear hK2 K1
  refine seq_k fun K5 hK6 => ?_
  obtain ⟨J, hJ, h⟩ := jn_open h
  have jn10 : ∀ (v7 : Unit) (w8 : World) a, Fr 82 a [(0, .pointer a0), (3, .pointer (some p3))] → J v7 w8 → K5 a w8 := by
    intro v7 w8 a hF h
    replace h := hJ _ _ h
    clear hJ
    refine hK6 _ _ ?_
    refine seq_k fun K11 hK12 => ?_
    obtain ⟨J, hJ, h⟩ := jn_open h
    have jn16 : ∀ (v13 : Unit) (w14 : World) a, Fr 82 a [(0, .pointer a0), (3, .pointer (some p3))] → J v13 w14 → K11 a w14 := by
      intro v13 w14 a hF h
      replace h := hJ _ _ h
      clear hJ
      refine hK12 _ _ ?_
      refine seq_k fun K17 hK18 => ?_
      obtain ⟨J, hJ, h⟩ := jn_open h
      have jn22 : ∀ (v19 : Unit) (w20 : World) a, Fr 82 a [(0, .pointer a0)] → J v19 w20 → K17 a w20 := by
        intro v19 w20 a hF h
        replace h := hJ _ _ h
        clear hJ
        refine hK18 _ _ ?_
        refine seq_k fun K23 hK24 => ?_
        obtain ⟨J, hJ, h⟩ := jn_open h
        have jn28 : ∀ (v25 : Unit) (w26 : World) a, Fr 82 a [] → J v25 w26 → K23 a w26 := by
          intro v25 w26 a hF h
          replace h := hJ _ _ h
          clear hJ
          refine hK24 _ _ ?_
          refine seq_region fun K29 hK30 => ?_
          refine RL.val  hF rfl rfl rfl (r_assign hF rfl rfl) ?_; clear hF; clear a; intro a hF
          refine RL.nil (hK30 _ _ ?_)
          clear hK30 K29
          refine wp_ret ?_
          exact ret_of hF (res1 hF rfl rfl) ⟨_, rfl, h⟩
        clear hJ
        refine seq_draw 256 #[0, 1, 3, 7, 0, 16, 48, 112, 255, 511] 10 mo rfl (by kernel_rfl) (by kernel_rfl) fun hS K31 hK32 => ?_
        obtain ⟨w33, hw, h⟩ := h; rw [← hw]; clear hw
        refine GL.val (v := .pointer a0) (i := 0) hF hS rfl rfl (by kernel_rfl) rfl rfl rfl rfl (fun x => r_move hF rfl rfl) ?_; clear hF; clear a; intro a hF
        obtain ⟨p34, hpp34, h⟩ := h
        refine GL.val (v := .pointer (some p34)) (i := 1) hF hS rfl rfl (by kernel_rfl) rfl rfl rfl rfl (fun x => r_nilCheck hF rfl (lkp rfl hpp34)) ?_; clear hF; clear a; intro a hF
        refine GL.val (v := .pointer (some (p34.add 5))) (i := 2) hF hS rfl rfl (by kernel_rfl) rfl rfl rfl rfl (fun x => r_fieldAddr hF rfl rfl Try.runUnderlying70 rfl Try.sizeOf67 rfl) ?_; clear hF; clear a; intro a hF
        obtain ⟨t35, hct35, h⟩ := h
        refine GL.read (v := .pointer t35) (i := 3) hF (fun x => World.cell? x (p34.add 5) = some (.pointer t35)) hS rfl rfl (by kernel_rfl) rfl rfl rfl rfl hct35 (fun x hx => r_load hF rfl rfl Try.isAgg67 hx) ?_; clear hF; clear a; intro a hF
        refine GL.val (v := .pointer a0) (i := 4) hF hS rfl rfl (by kernel_rfl) rfl rfl rfl rfl (fun x => r_move hF rfl rfl) ?_; clear hF; clear a; intro a hF
        obtain ⟨p36, hpp36, h⟩ := h
        refine GL.val (v := .pointer (some p36)) (i := 5) hF hS rfl rfl (by kernel_rfl) rfl rfl rfl rfl (fun x => r_nilCheck hF rfl (lkp rfl hpp36)) ?_; clear hF; clear a; intro a hF
        refine GL.val (v := .pointer (some (p36.add 1))) (i := 6) hF hS rfl rfl (by kernel_rfl) rfl rfl rfl rfl (fun x => r_fieldAddr hF rfl rfl Try.runUnderlying70 rfl Try.sizeOf3 rfl) ?_; clear hF; clear a; intro a hF
        obtain ⟨t37, hct37, h⟩ := h
        refine GL.read (v := .int .i64 t37) (i := 7) hF (fun x => World.cell? x (p36.add 1) = some (.int .i64 t37)) hS rfl rfl (by kernel_rfl) rfl rfl rfl rfl hct37 (fun x hx => r_load hF rfl rfl Try.isAgg3 hx) ?_; clear hF; clear a; intro a hF
        refine GL.act (i := 8) (pend' := []) hS (by kernel_rfl) rfl (by kernel_rfl) ?_
        refine op_call hF rfl rfl rfl rfl (r_call (xs := [.pointer t35, .int .i64 t37]) hF rfl rfl Try.call37) (CallsV.mono h ?_)
        clear h; rintro _ w38 ⟨r39, rfl, h⟩
        refine ⟨trivial, ?_⟩; clear hF; clear a; intro a hF
        refine GL.val (v := .int .i64 r39) (i := 9) hF hS rfl rfl (by kernel_rfl) rfl rfl rfl rfl (fun x => r_assign hF rfl rfl) ?_; clear hF; clear a; intro a hF
        refine GL.done (by kernel_rfl) (hK32 _ _ ?_)
        clear hK32 K31
        refine seq_region fun K40 hK41 => ?_
        refine RL.val  hF rfl rfl rfl (r_move hF rfl rfl) ?_; clear hF; clear a; intro a hF
        refine RL.val  hF rfl rfl rfl (r_move hF rfl rfl) ?_; clear hF; clear a; intro a hF
        obtain ⟨p42, hpp42, h⟩ := h
        refine RL.val  hF rfl rfl rfl (r_nilCheck hF rfl (lkp rfl hpp42)) ?_; clear hF; clear a; intro a hF
        refine RL.val  hF rfl rfl rfl (r_fieldAddr hF rfl rfl Try.runUnderlying70 rfl Try.sizeOf3 rfl) ?_; clear hF; clear a; intro a hF
        obtain ⟨t43, hct43, h⟩ := h
        refine RL.val  hF rfl rfl rfl (r_load hF rfl rfl Try.isAgg3 hct43) ?_; clear hF; clear a; intro a hF
        refine RL.val  hF rfl rfl rfl (r_gtr hF rfl rfl rfl) ?_; clear hF; clear a; intro a hF
        refine RL.nil (hK41 _ _ ?_)
        clear hK41 K40
        obtain ⟨ht, hf⟩ := h
        refine cond_ hF rfl (fun hc => ?_) (fun hc => ?_)
        · replace h := ht hc; clear ht hf
          refine seq_draw 36864 #[0, 0, 2, 6, 14, 0, 0, 64, 192, 448, 992, 2046, 4094, 8191, 16383, 32767] 16 mo rfl (by kernel_rfl) (by kernel_rfl) fun hS K44 hK45 => ?_
          obtain ⟨w46, hw, h⟩ := h; rw [← hw]; clear hw
          refine GL.val (v := .pointer a0) (i := 0) hF hS rfl rfl (by kernel_rfl) rfl rfl rfl rfl (fun x => r_move hF rfl rfl) ?_; clear hF; clear a; intro a hF
          refine GL.val (v := .pointer a0) (i := 1) hF hS rfl rfl (by kernel_rfl) rfl rfl rfl rfl (fun x => r_move hF rfl rfl) ?_; clear hF; clear a; intro a hF
          obtain ⟨p47, hpp47, h⟩ := h
          refine GL.val (v := .pointer (some p47)) (i := 2) hF hS rfl rfl (by kernel_rfl) rfl rfl rfl rfl (fun x => r_nilCheck hF rfl (lkp rfl hpp47)) ?_; clear hF; clear a; intro a hF
          refine GL.val (v := .pointer (some (p47.add 2))) (i := 3) hF hS rfl rfl (by kernel_rfl) rfl rfl rfl rfl (fun x => r_fieldAddr hF rfl rfl Try.runUnderlying70 rfl Try.sizeOf22 rfl) ?_; clear hF; clear a; intro a hF
          obtain ⟨t48, hct48, h⟩ := h
          refine GL.read (v := t48.v) (i := 4) hF (fun x => World.cell? x (p47.add 2) = some (t48.v)) hS rfl rfl (by kernel_rfl) rfl rfl rfl rfl hct48 (fun x hx => r_load hF rfl rfl Try.isAgg22 hx) ?_; clear hF; clear a; intro a hF
          refine GL.val (v := .int .i64 r39) (i := 5) hF hS rfl rfl (by kernel_rfl) rfl rfl rfl rfl (fun x => r_move hF rfl rfl) ?_; clear hF; clear a; intro a hF
          refine GL.val (v := .pointer a0) (i := 6) hF hS rfl rfl (by kernel_rfl) rfl rfl rfl rfl (fun x => r_move hF rfl rfl) ?_; clear hF; clear a; intro a hF
          obtain ⟨p49, hpp49, h⟩ := h
          refine GL.val (v := .pointer (some p49)) (i := 7) hF hS rfl rfl (by kernel_rfl) rfl rfl rfl rfl (fun x => r_nilCheck hF rfl (lkp rfl hpp49)) ?_; clear hF; clear a; intro a hF
          refine GL.val (v := .pointer (some (p49.add 1))) (i := 8) hF hS rfl rfl (by kernel_rfl) rfl rfl rfl rfl (fun x => r_fieldAddr hF rfl rfl Try.runUnderlying70 rfl Try.sizeOf3 rfl) ?_; clear hF; clear a; intro a hF
          obtain ⟨t50, hct50, h⟩ := h
          refine GL.read (v := .int .i64 t50) (i := 9) hF (fun x => World.cell? x (p49.add 1) = some (.int .i64 t50)) hS rfl rfl (by kernel_rfl) rfl rfl rfl rfl hct50 (fun x hx => r_load hF rfl rfl Try.isAgg3 hx) ?_; clear hF; clear a; intro a hF
          refine GL.val (v := .int .i64 (IntKind.i64.wrap (r39 - t50))) (i := 10) hF hS rfl rfl (by kernel_rfl) rfl rfl rfl rfl (fun x => r_sub hF rfl rfl rfl) ?_; clear hF; clear a; intro a hF
          obtain ⟨hs51, hs52, h⟩ := h
          refine GL.val (v := (t48.sub 1 ((IntKind.i64.wrap (r39 - t50)).toNat) t48.len t48.cap).v) (i := 11) hF hS rfl rfl (by kernel_rfl) rfl rfl rfl rfl (fun x => r_slice (lo' := some (.int .i64 (IntKind.i64.wrap (r39 - t50)))) (hi' := none) (mx' := none) hF rfl rfl rfl rfl rfl (slc_at Try.runUnderlying22 Try.sizeOf5 (bounds10 hs51 hs52))) ?_; clear hF; clear a; intro a hF
          refine GL.act (i := 12) (pend' := []) hS (by kernel_rfl) rfl (by kernel_rfl) ?_
          refine op_call hF rfl rfl rfl rfl (r_call (xs := [(t48.sub 1 ((IntKind.i64.wrap (r39 - t50)).toNat) t48.len t48.cap).v]) hF rfl rfl Try.call30) (CallsV.mono h ?_)
          clear h; rintro _ w53 ⟨r54, rfl, h⟩
          refine ⟨trivial, ?_⟩; clear hF; clear a; intro a hF
          obtain ⟨p55, hpp55, h⟩ := h
          refine GL.val (v := .pointer (some p55)) (i := 13) hF hS rfl rfl (by kernel_rfl) rfl rfl rfl rfl (fun x => r_nilCheck hF rfl (lkp rfl hpp55)) ?_; clear hF; clear a; intro a hF
          refine GL.val (v := .pointer (some (p55.add 2))) (i := 14) hF hS rfl rfl (by kernel_rfl) rfl rfl rfl rfl (fun x => r_fieldAddr hF rfl rfl Try.runUnderlying70 rfl Try.sizeOf22 rfl) ?_; clear hF; clear a; intro a hF
          refine GL.act (i := 15) (pend' := []) hS (by kernel_rfl) rfl (by kernel_rfl) ?_
          obtain ⟨u_, w56, hs1_, hs2_, hs3_, h⟩ := h
          refine op_unit (w' := w56) hF rfl rfl rfl (by rw [hs3_]; exact r_store hF rfl rfl rfl rfl Try.sizeOf22 hs1_ hs2_) trivial ?_; clear hF; clear a; intro a hF
          refine GL.done (by kernel_rfl) (hK45 _ _ ?_)
          clear hK45 K44
          refine end_region fun K57 hK58 => ?_
          refine RL.val  hF rfl rfl rfl (r_move hF rfl rfl) ?_; clear hF; clear a; intro a hF
          refine RL.val  hF rfl rfl rfl (r_move hF rfl rfl) ?_; clear hF; clear a; intro a hF
          obtain ⟨p59, hpp59, h⟩ := h
          refine RL.val  hF rfl rfl rfl (r_nilCheck hF rfl (lkp rfl hpp59)) ?_; clear hF; clear a; intro a hF
          refine RL.val  hF rfl rfl rfl (r_fieldAddr hF rfl rfl Try.runUnderlying70 rfl Try.sizeOf3 rfl) ?_; clear hF; clear a; intro a hF
          obtain ⟨u_, w60, hs1_, hs2_, hs3_, h⟩ := h
          refine RL.unit (w' := w60) hF rfl rfl (by rw [hs3_]; exact r_store hF rfl rfl rfl rfl Try.sizeOf3 hs1_ hs2_) ?_; clear hF; clear a; intro a hF
          refine RL.nil (hK58 _ _ ?_)
          clear hK58 K57
          exact jn28 () _ _ (hF.sub rfl) h
        · replace h := hf hc; clear ht hf
          refine wp_skip ?_
          exact jn28 () _ _ (hF.sub rfl) h
      clear hJ
      refine seq_region fun K61 hK62 => ?_
      refine RL.val  hF rfl rfl rfl (r_fieldAddr hF rfl rfl Try.runUnderlying30 rfl Try.sizeOf4 rfl) ?_; clear hF; clear a; intro a hF
      obtain ⟨t63, hct63, h⟩ := h
      refine RL.val  hF rfl rfl rfl (r_load hF rfl rfl Try.isAgg4 hct63) ?_; clear hF; clear a; intro a hF
      refine RL.nil (hK62 _ _ ?_)
      clear hK62 K61
      obtain ⟨ht, hf⟩ := h
      refine cond_ hF rfl (fun hc => ?_) (fun hc => ?_)
      · replace h := ht hc; clear ht hf
        refine end_region fun K64 hK65 => ?_
        refine RL.val  hF rfl rfl rfl (r_move hF rfl rfl) ?_; clear hF; clear a; intro a hF
        obtain ⟨p66, hpp66, h⟩ := h
        refine RL.val  hF rfl rfl rfl (r_nilCheck hF rfl (lkp rfl hpp66)) ?_; clear hF; clear a; intro a hF
        refine RL.val  hF rfl rfl rfl (r_fieldAddr hF rfl rfl Try.runUnderlying70 rfl Try.sizeOf3 rfl) ?_; clear hF; clear a; intro a hF
        obtain ⟨u_, w67, hs1_, hs2_, hs3_, h⟩ := h
        refine RL.unit (w' := w67) hF rfl rfl (by rw [hs3_]; exact r_store hF rfl rfl rfl rfl Try.sizeOf3 hs1_ hs2_) ?_; clear hF; clear a; intro a hF
        refine RL.nil (hK65 _ _ ?_)
        clear hK65 K64
        exact jn22 () _ _ (hF.sub rfl) h
      · replace h := hf hc; clear ht hf
        refine wp_skip ?_
        exact jn22 () _ _ (hF.sub rfl) h
    clear hJ
    refine seq_region fun K68 hK69 => ?_
    refine RL.val  hF rfl rfl rfl (r_fieldAddr hF rfl rfl Try.runUnderlying30 rfl Try.sizeOf22 rfl) ?_; clear hF; clear a; intro a hF
    obtain ⟨t70, hct70, h⟩ := h
    refine RL.val  hF rfl rfl rfl (r_load hF rfl rfl Try.isAgg22 hct70) ?_; clear hF; clear a; intro a hF
    refine RL.val  hF rfl rfl rfl (r_len_slice hF rfl rfl Try.runUnderlying22) ?_; clear hF; clear a; intro a hF
    refine RL.val  hF rfl rfl rfl (r_assign hF rfl rfl) ?_; clear hF; clear a; intro a hF
    refine RL.nil (hK69 _ _ ?_)
    clear hK69 K68
    refine seq_region fun K71 hK72 => ?_
    refine RL.val  hF rfl rfl rfl (r_move hF rfl rfl) ?_; clear hF; clear a; intro a hF
    refine RL.val  hF rfl rfl rfl (r_gtr hF rfl rfl rfl) ?_; clear hF; clear a; intro a hF
    refine RL.nil (hK72 _ _ ?_)
    clear hK72 K71
    obtain ⟨ht, hf⟩ := h
    refine cond_ hF rfl (fun hc => ?_) (fun hc => ?_)
    · replace h := ht hc; clear ht hf
      refine seq_draw 2048 #[0, 1, 3, 7, 0, 16, 0, 64, 0, 448, 960, 2047] 12 mo rfl (by kernel_rfl) (by kernel_rfl) fun hS K73 hK74 => ?_
      obtain ⟨w75, hw, h⟩ := h; rw [← hw]; clear hw
      refine GL.val (v := .pointer a0) (i := 0) hF hS rfl rfl (by kernel_rfl) rfl rfl rfl rfl (fun x => r_move hF rfl rfl) ?_; clear hF; clear a; intro a hF
      obtain ⟨p76, hpp76, h⟩ := h
      refine GL.val (v := .pointer (some p76)) (i := 1) hF hS rfl rfl (by kernel_rfl) rfl rfl rfl rfl (fun x => r_nilCheck hF rfl (lkp rfl hpp76)) ?_; clear hF; clear a; intro a hF
      refine GL.val (v := .pointer (some (p76.add 5))) (i := 2) hF hS rfl rfl (by kernel_rfl) rfl rfl rfl rfl (fun x => r_fieldAddr hF rfl rfl Try.runUnderlying70 rfl Try.sizeOf67 rfl) ?_; clear hF; clear a; intro a hF
      obtain ⟨t77, hct77, h⟩ := h
      refine GL.read (v := .pointer t77) (i := 3) hF (fun x => World.cell? x (p76.add 5) = some (.pointer t77)) hS rfl rfl (by kernel_rfl) rfl rfl rfl rfl hct77 (fun x hx => r_load hF rfl rfl Try.isAgg67 hx) ?_; clear hF; clear a; intro a hF
      refine GL.val (v := .pointer (some p3)) (i := 4) hF hS rfl rfl (by kernel_rfl) rfl rfl rfl rfl (fun x => r_fieldAddr0 hF rfl rfl Try.runUnderlying30 rfl Try.sizeOf3 rfl) ?_; clear hF; clear a; intro a hF
      obtain ⟨t78, hct78, h⟩ := h
      refine GL.read (v := .int .i64 t78) (i := 5) hF (fun x => World.cell? x p3 = some (.int .i64 t78)) hS rfl rfl (by kernel_rfl) rfl rfl rfl rfl hct78 (fun x hx => r_load hF rfl rfl Try.isAgg3 hx) ?_; clear hF; clear a; intro a hF
      refine GL.val (v := .pointer (some p3)) (i := 6) hF hS rfl rfl (by kernel_rfl) rfl rfl rfl rfl (fun x => r_fieldAddr0 hF rfl rfl Try.runUnderlying30 rfl Try.sizeOf3 rfl) ?_; clear hF; clear a; intro a hF
      obtain ⟨t79, hct79, h⟩ := h
      refine GL.read (v := .int .i64 t79) (i := 7) hF (fun x => World.cell? x p3 = some (.int .i64 t79)) hS rfl rfl (by kernel_rfl) rfl rfl rfl rfl hct79 (fun x hx => r_load hF rfl rfl Try.isAgg3 hx) ?_; clear hF; clear a; intro a hF
      refine GL.val (v := .int .i64 (t70.len : Int)) (i := 8) hF hS rfl rfl (by kernel_rfl) rfl rfl rfl rfl (fun x => r_move hF rfl rfl) ?_; clear hF; clear a; intro a hF
      refine GL.val (v := .int .i64 (IntKind.i64.wrap (t79 + (t70.len : Int)))) (i := 9) hF hS rfl rfl (by kernel_rfl) rfl rfl rfl rfl (fun x => r_add hF rfl rfl rfl) ?_; clear hF; clear a; intro a hF
      refine GL.val (v := .int .i64 (IntKind.i64.wrap ((IntKind.i64.wrap (t79 + (t70.len : Int))) - 1))) (i := 10) hF hS rfl rfl (by kernel_rfl) rfl rfl rfl rfl (fun x => r_sub hF rfl rfl rfl) ?_; clear hF; clear a; intro a hF
      refine GL.act (i := 11) (pend' := []) hS (by kernel_rfl) rfl (by kernel_rfl) ?_
      refine op_call hF rfl rfl rfl rfl (r_call (xs := [.pointer t77, .int .i64 t78, .int .i64 (IntKind.i64.wrap ((IntKind.i64.wrap (t79 + (t70.len : Int))) - 1))]) hF rfl rfl Try.call36) (CallsV.mono h ?_)
      clear h; rintro _ w80 ⟨r81, rfl, h⟩
      refine ⟨trivial, ?_⟩; clear hF; clear a; intro a hF
      refine GL.done (by kernel_rfl) (hK74 _ _ ?_)
      clear hK74 K73
      refine end_draw 2048 #[0, 1, 3, 7, 0, 16, 0, 64, 0, 448, 960, 2047] 12 mo rfl (by kernel_rfl) (by kernel_rfl) fun hS K82 hK83 => ?_
      obtain ⟨w84, hw, h⟩ := h; rw [← hw]; clear hw
      refine GL.val (v := .pointer a0) (i := 0) hF hS rfl rfl (by kernel_rfl) rfl rfl rfl rfl (fun x => r_move hF rfl rfl) ?_; clear hF; clear a; intro a hF
      obtain ⟨p85, hpp85, h⟩ := h
      refine GL.val (v := .pointer (some p85)) (i := 1) hF hS rfl rfl (by kernel_rfl) rfl rfl rfl rfl (fun x => r_nilCheck hF rfl (lkp rfl hpp85)) ?_; clear hF; clear a; intro a hF
      refine GL.val (v := .pointer (some (p85.add 4))) (i := 2) hF hS rfl rfl (by kernel_rfl) rfl rfl rfl rfl (fun x => r_fieldAddr hF rfl rfl Try.runUnderlying70 rfl Try.sizeOf67 rfl) ?_; clear hF; clear a; intro a hF
      obtain ⟨t86, hct86, h⟩ := h
      refine GL.read (v := .pointer t86) (i := 3) hF (fun x => World.cell? x (p85.add 4) = some (.pointer t86)) hS rfl rfl (by kernel_rfl) rfl rfl rfl rfl hct86 (fun x hx => r_load hF rfl rfl Try.isAgg67 hx) ?_; clear hF; clear a; intro a hF
      refine GL.val (v := .pointer (some p3)) (i := 4) hF hS rfl rfl (by kernel_rfl) rfl rfl rfl rfl (fun x => r_fieldAddr0 hF rfl rfl Try.runUnderlying30 rfl Try.sizeOf3 rfl) ?_; clear hF; clear a; intro a hF
      obtain ⟨t87, hct87, h⟩ := h
      refine GL.read (v := .int .i64 t87) (i := 5) hF (fun x => World.cell? x p3 = some (.int .i64 t87)) hS rfl rfl (by kernel_rfl) rfl rfl rfl rfl hct87 (fun x hx => r_load hF rfl rfl Try.isAgg3 hx) ?_; clear hF; clear a; intro a hF
      refine GL.val (v := .pointer (some p3)) (i := 6) hF hS rfl rfl (by kernel_rfl) rfl rfl rfl rfl (fun x => r_fieldAddr0 hF rfl rfl Try.runUnderlying30 rfl Try.sizeOf3 rfl) ?_; clear hF; clear a; intro a hF
      obtain ⟨t88, hct88, h⟩ := h
      refine GL.read (v := .int .i64 t88) (i := 7) hF (fun x => World.cell? x p3 = some (.int .i64 t88)) hS rfl rfl (by kernel_rfl) rfl rfl rfl rfl hct88 (fun x hx => r_load hF rfl rfl Try.isAgg3 hx) ?_; clear hF; clear a; intro a hF
      refine GL.val (v := .int .i64 (t70.len : Int)) (i := 8) hF hS rfl rfl (by kernel_rfl) rfl rfl rfl rfl (fun x => r_move hF rfl rfl) ?_; clear hF; clear a; intro a hF
      refine GL.val (v := .int .i64 (IntKind.i64.wrap (t88 + (t70.len : Int)))) (i := 9) hF hS rfl rfl (by kernel_rfl) rfl rfl rfl rfl (fun x => r_add hF rfl rfl rfl) ?_; clear hF; clear a; intro a hF
      refine GL.val (v := .int .i64 (IntKind.i64.wrap ((IntKind.i64.wrap (t88 + (t70.len : Int))) - 1))) (i := 10) hF hS rfl rfl (by kernel_rfl) rfl rfl rfl rfl (fun x => r_sub hF rfl rfl rfl) ?_; clear hF; clear a; intro a hF
      refine GL.act (i := 11) (pend' := []) hS (by kernel_rfl) rfl (by kernel_rfl) ?_
      refine op_call hF rfl rfl rfl rfl (r_call (xs := [.pointer t86, .int .i64 t87, .int .i64 (IntKind.i64.wrap ((IntKind.i64.wrap (t88 + (t70.len : Int))) - 1))]) hF rfl rfl Try.call31) (CallsV.mono h ?_)
      clear h; rintro _ w89 ⟨r90, rfl, h⟩
      refine ⟨trivial, ?_⟩; clear hF; clear a; intro a hF
      refine GL.done (by kernel_rfl) (hK83 _ _ ?_)
      clear hK83 K82
      exact jn16 () _ _ (hF.sub rfl) h
    · replace h := hf hc; clear ht hf
      refine wp_skip ?_
      exact jn16 () _ _ (hF.sub rfl) h
  clear hJ
  refine seq_region fun K91 hK92 => ?_
  refine RL.val  hF rfl rfl rfl (r_move hF rfl rfl) ?_; clear hF; clear a; intro a hF
  obtain ⟨t93, hct93, h⟩ := h
  refine RL.val  hF rfl rfl rfl (r_loadA hF rfl rfl Try.isAgg30 Try.sizeOf30 hct93) ?_; clear hF; clear a; intro a hF
  refine RL.call hF rfl rfl rfl (r_call (xs := [.pointer a0, .agg t93]) hF rfl rfl Try.call35) (CallsV.mono h ?_)
  clear h; rintro _ w94 ⟨r95, rfl, h⟩; clear hF; clear a; intro a hF
  refine RL.val  hF rfl rfl rfl (r_assign hF rfl rfl) ?_; clear hF; clear a; intro a hF
  refine RL.nil (hK92 _ _ ?_)
  clear hK92 K91
  refine seq_region fun K96 hK97 => ?_
  refine RL.val  hF rfl rfl rfl (r_move hF rfl rfl) ?_; clear hF; clear a; intro a hF
  refine RL.val  hF rfl rfl rfl (r_neq hF rfl rfl rfl) ?_; clear hF; clear a; intro a hF
  refine RL.nil (hK97 _ _ ?_)
  clear hK97 K96
  obtain ⟨ht, hf⟩ := h
  refine cond_ hF rfl (fun hc => ?_) (fun hc => ?_)
  · replace h := ht hc; clear ht hf
    refine seq_region fun K98 hK99 => ?_
    refine RL.val  hF rfl rfl rfl (r_move hF rfl rfl) ?_; clear hF; clear a; intro a hF
    refine RL.val  hF rfl rfl rfl (r_assign hF rfl rfl) ?_; clear hF; clear a; intro a hF
    refine RL.nil (hK99 _ _ ?_)
    clear hK99 K98
    refine wp_ret ?_
    exact ret_of hF (res1 hF rfl rfl) ⟨_, rfl, h⟩
  · replace h := hf hc; clear ht hf
    refine wp_skip ?_
    exact jn10 () _ _ (hF.sub rfl) h

set_option maxRecDepth 20000 in
theorem br26 {a0 : Option Addr} {a1 : Int} {w : World} {K : Slc → Bool → World → Prop} (h : sh26 a0 a1 w K) : C26 a0 a1 w K := by
  unfold sh26 at h
  refine enter (n := 105) (l := [(0, .pointer a0), (1, .int .i64 a1)]) 103 Try.func26 rfl _ rfl rfl rfl fun a hF => ?_
  refine seq_region fun K1 hK2 => ?_
  refine RL.val  hF rfl rfl rfl (r_assign hF rfl rfl) ?_; clear hF; clear a; intro a hF
  refine RL.val  hF rfl rfl rfl (r_assign hF rfl rfl) ?_; clear hF; clear a; intro a hF
  refine RL.nil (hK2 _ _ ?_)
  clear hK2 K1
  refine seq_k fun K3 hK4 => ?_
  obtain ⟨J, hJ, h⟩ := jn_open h
  have jn8 : ∀ (v5 : Slc) (w6 : World) a, Fr 105 a [(0, .pointer a0), (1, .int .i64 a1), (4, v5.v)] → J v5 w6 → K3 a w6 := by
    intro v5 w6 a hF h
    replace h := hJ _ _ h
    clear hJ
    refine hK4 _ _ ?_
    refine seq_k fun K9 hK10 => ?_
    obtain ⟨J, hJ, h⟩ := jn_open h
    have jn14 : ∀ (v11 : Slc) (w12 : World) a, Fr 105 a [(0, .pointer a0), (4, v11.v)] → J v11 w12 → K9 a w12 := by
      intro v11 w12 a hF h
      replace h := hJ _ _ h
      clear hJ
      refine hK10 _ _ ?_
      refine seq_draw 131072 #[0, 0, 2, 6, 14, 0, 32, 96, 224, 0, 512, 1536, 3584, 8160, 16382, 32767, 65535, 131071] 18 mo rfl (by kernel_rfl) (by kernel_rfl) fun hS K15 hK16 => ?_
      obtain ⟨w17, hw, h⟩ := h; rw [← hw]; clear hw
      refine GL.val (v := .pointer a0) (i := 0) hF hS rfl rfl (by kernel_rfl) rfl rfl rfl rfl (fun x => r_move hF rfl rfl) ?_; clear hF; clear a; intro a hF
      refine GL.val (v := .pointer a0) (i := 1) hF hS rfl rfl (by kernel_rfl) rfl rfl rfl rfl (fun x => r_move hF rfl rfl) ?_; clear hF; clear a; intro a hF
      obtain ⟨p18, hpp18, h⟩ := h
      refine GL.val (v := .pointer (some p18)) (i := 2) hF hS rfl rfl (by kernel_rfl) rfl rfl rfl rfl (fun x => r_nilCheck hF rfl (lkp rfl hpp18)) ?_; clear hF; clear a; intro a hF
      refine GL.val (v := .pointer (some (p18.add 3))) (i := 3) hF hS rfl rfl (by kernel_rfl) rfl rfl rfl rfl (fun x => r_fieldAddr hF rfl rfl Try.runUnderlying83 rfl Try.sizeOf3 rfl) ?_; clear hF; clear a; intro a hF
      obtain ⟨t19, hct19, h⟩ := h
      refine GL.read (v := .int .i64 t19) (i := 4) hF (fun x => World.cell? x (p18.add 3) = some (.int .i64 t19)) hS rfl rfl (by kernel_rfl) rfl rfl rfl rfl hct19 (fun x hx => r_load hF rfl rfl Try.isAgg3 hx) ?_; clear hF; clear a; intro a hF
      refine GL.val (v := .pointer a0) (i := 5) hF hS rfl rfl (by kernel_rfl) rfl rfl rfl rfl (fun x => r_move hF rfl rfl) ?_; clear hF; clear a; intro a hF
      obtain ⟨p20, hpp20, h⟩ := h
      refine GL.val (v := .pointer (some p20)) (i := 6) hF hS rfl rfl (by kernel_rfl) rfl rfl rfl rfl (fun x => r_nilCheck hF rfl (lkp rfl hpp20)) ?_; clear hF; clear a; intro a hF
      refine GL.val (v := .pointer (some (p20.add 2))) (i := 7) hF hS rfl rfl (by kernel_rfl) rfl rfl rfl rfl (fun x => r_fieldAddr hF rfl rfl Try.runUnderlying83 rfl Try.sizeOf3 rfl) ?_; clear hF; clear a; intro a hF
      obtain ⟨t21, hct21, h⟩ := h
      refine GL.read (v := .int .i64 t21) (i := 8) hF (fun x => World.cell? x (p20.add 2) = some (.int .i64 t21)) hS rfl rfl (by kernel_rfl) rfl rfl rfl rfl hct21 (fun x hx => r_load hF rfl rfl Try.isAgg3 hx) ?_; clear hF; clear a; intro a hF
      refine GL.val (v := .pointer a0) (i := 9) hF hS rfl rfl (by kernel_rfl) rfl rfl rfl rfl (fun x => r_move hF rfl rfl) ?_; clear hF; clear a; intro a hF
      obtain ⟨p22, hpp22, h⟩ := h
      refine GL.val (v := .pointer (some p22)) (i := 10) hF hS rfl rfl (by kernel_rfl) rfl rfl rfl rfl (fun x => r_nilCheck hF rfl (lkp rfl hpp22)) ?_; clear hF; clear a; intro a hF
      refine GL.val (v := .pointer (some (p22.add 1))) (i := 11) hF hS rfl rfl (by kernel_rfl) rfl rfl rfl rfl (fun x => r_fieldAddr hF rfl rfl Try.runUnderlying83 rfl Try.sizeOf3 rfl) ?_; clear hF; clear a; intro a hF
      obtain ⟨t23, hct23, h⟩ := h
      refine GL.read (v := .int .i64 t23) (i := 12) hF (fun x => World.cell? x (p22.add 1) = some (.int .i64 t23)) hS rfl rfl (by kernel_rfl) rfl rfl rfl rfl hct23 (fun x hx => r_load hF rfl rfl Try.isAgg3 hx) ?_; clear hF; clear a; intro a hF
      refine GL.val (v := .int .i64 (IntKind.i64.wrap (t21 + t23))) (i := 13) hF hS rfl rfl (by kernel_rfl) rfl rfl rfl rfl (fun x => r_add hF rfl rfl rfl) ?_; clear hF; clear a; intro a hF
      refine GL.val (v := .int .i64 (if (IntKind.i64.wrap (t21 + t23)) > t19 then (IntKind.i64.wrap (t21 + t23)) else t19)) (i := 14) hF hS rfl rfl (by kernel_rfl) rfl rfl rfl rfl (fun x => r_max hF rfl rfl rfl) ?_; clear hF; clear a; intro a hF
      obtain ⟨p24, hpp24, h⟩ := h
      refine GL.val (v := .pointer (some p24)) (i := 15) hF hS rfl rfl (by kernel_rfl) rfl rfl rfl rfl (fun x => r_nilCheck hF rfl (lkp rfl hpp24)) ?_; clear hF; clear a; intro a hF
      refine GL.val (v := .pointer (some (p24.add 3))) (i := 16) hF hS rfl rfl (by kernel_rfl) rfl rfl rfl rfl (fun x => r_fieldAddr hF rfl rfl Try.runUnderlying83 rfl Try.sizeOf3 rfl) ?_; clear hF; clear a; intro a hF
      refine GL.act (i := 17) (pend' := []) hS (by kernel_rfl) rfl (by kernel_rfl) ?_
      obtain ⟨u_, w25, hs1_, hs2_, hs3_, h⟩ := h
      refine op_unit (w' := w25) hF rfl rfl rfl (by rw [hs3_]; exact r_store hF rfl rfl rfl rfl Try.sizeOf3 hs1_ hs2_) trivial ?_; clear hF; clear a; intro a hF
      refine GL.done (by kernel_rfl) (hK16 _ _ ?_)
      clear hK16 K15
      refine seq_draw 0 #[0, 0, 2, 6, 14, 30, 62, 126, 254, 510, 62, 1086, 3134, 7230, 16382, 32766, 63, 131071] 18 mo rfl (by kernel_rfl) (by kernel_rfl) fun hS K26 hK27 => ?_
      obtain ⟨w28, hw, h⟩ := h; rw [← hw]; clear hw
      obtain ⟨J31, hJ, h⟩ := jn_open h
      have jn32 : ∀ (v29 : Slc × Bool) (w30 : World) a, Fr 105 a [(4, v29.1.v), (5, .bool v29.2)] → J31 v29 w30 → K26 a w30 := by
        clear hF
        intro v29 w30 a hF h; replace h := hJ _ _ h; refine hK27 _ _ ?_; clear hJ hK27 K26
        refine wp_ret ?_
        exact ret_of hF (res2 hF rfl rfl rfl) ⟨_, _, rfl, h⟩
      clear hJ hK27
      refine GL.val (v := v11.v) (i := 0) hF hS rfl rfl (by kernel_rfl) rfl rfl rfl rfl (fun x => r_move hF rfl rfl) ?_; clear hF; clear a; intro a hF
      refine GL.val (v := .pointer a0) (i := 1) hF hS rfl rfl (by kernel_rfl) rfl rfl rfl rfl (fun x => r_move hF rfl rfl) ?_; clear hF; clear a; intro a hF
      obtain ⟨p33, hpp33, h⟩ := h
      refine GL.val (v := .pointer (some p33)) (i := 2) hF hS rfl rfl (by kernel_rfl) rfl rfl rfl rfl (fun x => r_nilCheck hF rfl (lkp rfl hpp33)) ?_; clear hF; clear a; intro a hF
      refine GL.val (v := .pointer (some (p33.add 6))) (i := 3) hF hS rfl rfl (by kernel_rfl) rfl rfl rfl rfl (fun x => r_fieldAddr hF rfl rfl Try.runUnderlying83 rfl Try.sizeOf4 rfl) ?_; clear hF; clear a; intro a hF
      obtain ⟨t34, hct34, h⟩ := h
      refine GL.read (v := .bool t34) (i := 4) hF (fun x => World.cell? x (p33.add 6) = some (.bool t34)) hS rfl rfl (by kernel_rfl) rfl rfl rfl rfl hct34 (fun x hx => r_load hF rfl rfl Try.isAgg4 hx) ?_; clear hF; clear a; intro a hF
      refine GL.val (v := .bool t34) (i := 5) hF hS rfl rfl (by kernel_rfl) rfl rfl rfl rfl (fun x => r_move hF rfl rfl) ?_; clear hF; clear a; intro a hF
      obtain ⟨ht, hf⟩ := h
      rcases bool_cases t34 with hg35 | hg35
      · replace h := ht hg35; clear ht hf
        refine GL.gval (v := .pointer a0) (i := 6) hF hS rfl rfl (by kernel_rfl) rfl rfl rfl (lkb rfl hg35) rfl rfl (fun x => r_move hF rfl rfl) ?_; clear hF; clear a; intro a hF
        obtain ⟨p36, hpp36, h⟩ := h
        refine GL.gval (v := .pointer (some p36)) (i := 7) hF hS rfl rfl (by kernel_rfl) rfl rfl rfl (lkb rfl hg35) rfl rfl (fun x => r_nilCheck hF rfl (lkp rfl hpp36)) ?_; clear hF; clear a; intro a hF
        refine GL.gval (v := .pointer (some (p36.add 2))) (i := 8) hF hS rfl rfl (by kernel_rfl) rfl rfl rfl (lkb rfl hg35) rfl rfl (fun x => r_fieldAddr hF rfl rfl Try.runUnderlying83 rfl Try.sizeOf3 rfl) ?_; clear hF; clear a; intro a hF
        obtain ⟨t37, hct37, h⟩ := h
        refine GL.gread (v := .int .i64 t37) (i := 9) hF (fun x => World.cell? x (p36.add 2) = some (.int .i64 t37)) hS rfl rfl (by kernel_rfl) rfl rfl rfl (lkb rfl hg35) rfl rfl hct37 (fun x hx => r_load hF rfl rfl Try.isAgg3 hx) ?_; clear hF; clear a; intro a hF
        refine GL.gval (v := .pointer a0) (i := 10) hF hS rfl rfl (by kernel_rfl) rfl rfl rfl (lkb rfl hg35) rfl rfl (fun x => r_move hF rfl rfl) ?_; clear hF; clear a; intro a hF
        obtain ⟨p38, hpp38, h⟩ := h
        refine GL.gval (v := .pointer (some p38)) (i := 11) hF hS rfl rfl (by kernel_rfl) rfl rfl rfl (lkb rfl hg35) rfl rfl (fun x => r_nilCheck hF rfl (lkp rfl hpp38)) ?_; clear hF; clear a; intro a hF
        refine GL.gval (v := .pointer (some (p38.add 5))) (i := 12) hF hS rfl rfl (by kernel_rfl) rfl rfl rfl (lkb rfl hg35) rfl rfl (fun x => r_fieldAddr hF rfl rfl Try.runUnderlying83 rfl Try.sizeOf3 rfl) ?_; clear hF; clear a; intro a hF
        obtain ⟨t39, hct39, h⟩ := h
        refine GL.gread (v := .int .i64 t39) (i := 13) hF (fun x => World.cell? x (p38.add 5) = some (.int .i64 t39)) hS rfl rfl (by kernel_rfl) rfl rfl rfl (lkb rfl hg35) rfl rfl hct39 (fun x hx => r_load hF rfl rfl Try.isAgg3 hx) ?_; clear hF; clear a; intro a hF
        refine GL.gval (v := .bool (t37 == t39)) (i := 14) hF hS rfl rfl (by kernel_rfl) rfl rfl rfl (lkb rfl hg35) rfl rfl (fun x => r_eql hF rfl rfl rfl) ?_; clear hF; clear a; intro a hF
        refine GL.val (v := .bool (t37 == t39)) (i := 15) hF hS rfl rfl (by kernel_rfl) rfl rfl rfl rfl (fun x => r_pick hF rfl rfl rfl rfl (fun _ => rfl) (fun e => absurd (hg35.symm.trans e) (by decide))) ?_; clear hF; clear a; intro a hF
        refine GL.val (v := v11.v) (i := 16) hF hS rfl rfl (by kernel_rfl) rfl rfl rfl rfl (fun x => r_assign hF rfl rfl) ?_; clear hF; clear a; intro a hF
        refine GL.val (v := .bool (t37 == t39)) (i := 17) hF hS rfl rfl (by kernel_rfl) rfl rfl rfl rfl (fun x => r_assign hF rfl rfl) ?_; clear hF; clear a; intro a hF
        refine GL.done (by kernel_rfl) ?_
        exact jn32 (v11, t37 == t39) _ _ (hF.sub rfl) h
      · replace h := hf hg35; clear ht hf
        refine GL.skip (i := 6) hF hS rfl rfl (by kernel_rfl) rfl rfl rfl (lkb rfl hg35) (.inl rfl) rfl rfl ?_; clear hF; clear a; intro a hF
        refine GL.skip (i := 7) hF hS rfl rfl (by kernel_rfl) rfl rfl rfl (lkb rfl hg35) (.inl rfl) rfl rfl ?_; clear hF; clear a; intro a hF
        refine GL.skip (i := 8) hF hS rfl rfl (by kernel_rfl) rfl rfl rfl (lkb rfl hg35) (.inl rfl) rfl rfl ?_; clear hF; clear a; intro a hF
        refine GL.skip (i := 9) hF hS rfl rfl (by kernel_rfl) rfl rfl rfl (lkb rfl hg35) (.inl rfl) rfl rfl ?_; clear hF; clear a; intro a hF
        refine GL.skip (i := 10) hF hS rfl rfl (by kernel_rfl) rfl rfl rfl (lkb rfl hg35) (.inl rfl) rfl rfl ?_; clear hF; clear a; intro a hF
        refine GL.skip (i := 11) hF hS rfl rfl (by kernel_rfl) rfl rfl rfl (lkb rfl hg35) (.inl rfl) rfl rfl ?_; clear hF; clear a; intro a hF
        refine GL.skip (i := 12) hF hS rfl rfl (by kernel_rfl) rfl rfl rfl (lkb rfl hg35) (.inl rfl) rfl rfl ?_; clear hF; clear a; intro a hF
        refine GL.skip (i := 13) hF hS rfl rfl (by kernel_rfl) rfl rfl rfl (lkb rfl hg35) (.inl rfl) rfl rfl ?_; clear hF; clear a; intro a hF
        refine GL.skip (i := 14) hF hS rfl rfl (by kernel_rfl) rfl rfl rfl (lkb rfl hg35) (.inl rfl) rfl rfl ?_; clear hF; clear a; intro a hF
        refine GL.val (v := .bool false) (i := 15) hF hS rfl rfl (by kernel_rfl) rfl rfl rfl rfl (fun x => r_pick hF rfl rfl rfl rfl (fun e => absurd (hg35.symm.trans e) (by decide)) (fun _ => rfl)) ?_; clear hF; clear a; intro a hF
        refine GL.val (v := v11.v) (i := 16) hF hS rfl rfl (by kernel_rfl) rfl rfl rfl rfl (fun x => r_assign hF rfl rfl) ?_; clear hF; clear a; intro a hF
        refine GL.val (v := .bool false) (i := 17) hF hS rfl rfl (by kernel_rfl) rfl rfl rfl rfl (fun x => r_assign hF rfl rfl) ?_; clear hF; clear a; intro a hF
        refine GL.done (by kernel_rfl) ?_
        exact jn32 (v11, false) _ _ (hF.sub rfl) h
    clear hJ
    refine wp_block ?_
    refine loop_ (fun (s40 : Slc) => [(0, .pointer a0), (1, .int .i64 a1), (4, s40.v)]) (hF.sub rfl) h ?_
    clear hF h
    intro s40 w41 N42 KL hN43 h a hF
    refine seq_k fun K44 hK45 => ?_
    obtain ⟨J, hJ, h⟩ := jn_open h
    have jn49 : ∀ (v46 : Unit) (w47 : World) a, Fr 105 a [(0, .pointer a0), (1, .int .i64 a1), (4, s40.v)] → J v46 w47 → K44 a w47 := by
      intro v46 w47 a hF h
      replace h := hJ _ _ h
      clear hJ
      refine hK45 _ _ ?_
      refine wp_block ?_
      refine seq_draw 0 #[0, 1, 3, 7, 0, 16, 48, 112, 255, 511, 1023, 1023, 2047, 8191] 14 mo rfl (by kernel_rfl) (by kernel_rfl) fun hS K50 hK51 => ?_
      obtain ⟨w52, hw, h⟩ := h; rw [← hw]; clear hw
      refine GL.val (v := .pointer a0) (i := 0) hF hS rfl rfl (by kernel_rfl) rfl rfl rfl rfl (fun x => r_move hF rfl rfl) ?_; clear hF; clear a; intro a hF
      obtain ⟨p53, hpp53, h⟩ := h
      refine GL.val (v := .pointer (some p53)) (i := 1) hF hS rfl rfl (by kernel_rfl) rfl rfl rfl rfl (fun x => r_nilCheck hF rfl (lkp rfl hpp53)) ?_; clear hF; clear a; intro a hF
      refine GL.val (v := .pointer (some (p53.add 7))) (i := 2) hF hS rfl rfl (by kernel_rfl) rfl rfl rfl rfl (fun x => r_fieldAddr hF rfl rfl Try.runUnderlying83 rfl Try.sizeOf81 rfl) ?_; clear hF; clear a; intro a hF
      obtain ⟨t54, hct54, h⟩ := h
      refine GL.read (v := .map t54) (i := 3) hF (fun x => World.cell? x (p53.add 7) = some (.map t54)) hS rfl rfl (by kernel_rfl) rfl rfl rfl rfl hct54 (fun x hx => r_load hF rfl rfl Try.isAgg81 hx) ?_; clear hF; clear a; intro a hF
      refine GL.val (v := .pointer a0) (i := 4) hF hS rfl rfl (by kernel_rfl) rfl rfl rfl rfl (fun x => r_move hF rfl rfl) ?_; clear hF; clear a; intro a hF
      obtain ⟨p55, hpp55, h⟩ := h
      refine GL.val (v := .pointer (some p55)) (i := 5) hF hS rfl rfl (by kernel_rfl) rfl rfl rfl rfl (fun x => r_nilCheck hF rfl (lkp rfl hpp55)) ?_; clear hF; clear a; intro a hF
      refine GL.val (v := .pointer (some (p55.add 2))) (i := 6) hF hS rfl rfl (by kernel_rfl) rfl rfl rfl rfl (fun x => r_fieldAddr hF rfl rfl Try.runUnderlying83 rfl Try.sizeOf3 rfl) ?_; clear hF; clear a; intro a hF
      obtain ⟨t56, hct56, h⟩ := h
      refine GL.read (v := .int .i64 t56) (i := 7) hF (fun x => World.cell? x (p55.add 2) = some (.int .i64 t56)) hS rfl rfl (by kernel_rfl) rfl rfl rfl rfl hct56 (fun x hx => r_load hF rfl rfl Try.isAgg3 hx) ?_; clear hF; clear a; intro a hF
      obtain ⟨t57, t58, hct57, h⟩ := h
      refine GL.read (v := .tuple #[t57.v, .bool t58]) (i := 8) hF (fun x => rn Try.prog (Instr.lookup 81 (.map t54) (.int .i64 t56) true) (.tuple #[t57.v, .bool t58]) x x) hS rfl rfl (by kernel_rfl) rfl rfl rfl rfl hct57 (fun x hx => r_lookup hF rfl rfl rfl hx) ?_; clear hF; clear a; intro a hF
      refine GL.val (v := .tuple #[t57.v, .bool t58]) (i := 9) hF hS rfl rfl (by kernel_rfl) rfl rfl rfl rfl (fun x => r_move hF rfl rfl) ?_; clear hF; clear a; intro a hF
      refine GL.val (v := t57.v) (i := 10) hF hS rfl rfl (by kernel_rfl) rfl rfl rfl rfl (fun x => r_extract hF rfl rfl rfl) ?_; clear hF; clear a; intro a hF
      refine GL.val (v := .bool t58) (i := 11) hF hS rfl rfl (by kernel_rfl) rfl rfl rfl rfl (fun x => r_extract hF rfl rfl rfl) ?_; clear hF; clear a; intro a hF
      refine GL.val (v := t57.v) (i := 12) hF hS rfl rfl (by kernel_rfl) rfl rfl rfl rfl (fun x => r_assign hF rfl rfl) ?_; clear hF; clear a; intro a hF
      refine GL.val (v := .bool t58) (i := 13) hF hS rfl rfl (by kernel_rfl) rfl rfl rfl rfl (fun x => r_assign hF rfl rfl) ?_; clear hF; clear a; intro a hF
      refine GL.done (by kernel_rfl) (hK51 _ _ ?_)
      clear hK51 K50
      refine seq_k fun K59 hK60 => ?_
      obtain ⟨J, hJ, h⟩ := jn_open h
      have jn64 : ∀ (v61 : Unit) (w62 : World) a, Fr 105 a [(0, .pointer a0), (1, .int .i64 a1), (4, s40.v), (6, t57.v)] → J v61 w62 → K59 a w62 := by
        intro v61 w62 a hF h
        replace h := hJ _ _ h
        clear hJ
        refine hK60 _ _ ?_
        refine seq_draw 256 #[0, 1, 3, 7, 0, 16, 48, 112, 255] 9 mo rfl (by kernel_rfl) (by kernel_rfl) fun hS K65 hK66 => ?_
        obtain ⟨w67, hw, h⟩ := h; rw [← hw]; clear hw
        refine GL.val (v := .pointer a0) (i := 0) hF hS rfl rfl (by kernel_rfl) rfl rfl rfl rfl (fun x => r_move hF rfl rfl) ?_; clear hF; clear a; intro a hF
        obtain ⟨p68, hpp68, h⟩ := h
        refine GL.val (v := .pointer (some p68)) (i := 1) hF hS rfl rfl (by kernel_rfl) rfl rfl rfl rfl (fun x => r_nilCheck hF rfl (lkp rfl hpp68)) ?_; clear hF; clear a; intro a hF
        refine GL.val (v := .pointer (some (p68.add 7))) (i := 2) hF hS rfl rfl (by kernel_rfl) rfl rfl rfl rfl (fun x => r_fieldAddr hF rfl rfl Try.runUnderlying83 rfl Try.sizeOf81 rfl) ?_; clear hF; clear a; intro a hF
        obtain ⟨t69, hct69, h⟩ := h
        refine GL.read (v := .map t69) (i := 3) hF (fun x => World.cell? x (p68.add 7) = some (.map t69)) hS rfl rfl (by kernel_rfl) rfl rfl rfl rfl hct69 (fun x hx => r_load hF rfl rfl Try.isAgg81 hx) ?_; clear hF; clear a; intro a hF
        refine GL.val (v := .pointer a0) (i := 4) hF hS rfl rfl (by kernel_rfl) rfl rfl rfl rfl (fun x => r_move hF rfl rfl) ?_; clear hF; clear a; intro a hF
        obtain ⟨p70, hpp70, h⟩ := h
        refine GL.val (v := .pointer (some p70)) (i := 5) hF hS rfl rfl (by kernel_rfl) rfl rfl rfl rfl (fun x => r_nilCheck hF rfl (lkp rfl hpp70)) ?_; clear hF; clear a; intro a hF
        refine GL.val (v := .pointer (some (p70.add 2))) (i := 6) hF hS rfl rfl (by kernel_rfl) rfl rfl rfl rfl (fun x => r_fieldAddr hF rfl rfl Try.runUnderlying83 rfl Try.sizeOf3 rfl) ?_; clear hF; clear a; intro a hF
        obtain ⟨t71, hct71, h⟩ := h
        refine GL.read (v := .int .i64 t71) (i := 7) hF (fun x => World.cell? x (p70.add 2) = some (.int .i64 t71)) hS rfl rfl (by kernel_rfl) rfl rfl rfl rfl hct71 (fun x hx => r_load hF rfl rfl Try.isAgg3 hx) ?_; clear hF; clear a; intro a hF
        refine GL.act (i := 8) (pend' := []) hS (by kernel_rfl) rfl (by kernel_rfl) ?_
        obtain ⟨w72, hc_, h⟩ := h
        refine op_vunit  hF rfl rfl rfl (r_delete (xs := [.map t69, .int .i64 t71]) hF rfl rfl hc_) trivial ?_; clear hF; clear a; intro a hF
        refine GL.done (by kernel_rfl) (hK66 _ _ ?_)
        clear hK66 K65
        refine seq_region fun K73 hK74 => ?_
        refine RL.val  hF rfl rfl rfl (r_move hF rfl rfl) ?_; clear hF; clear a; intro a hF
        refine RL.val  hF rfl rfl rfl (r_len_slice hF rfl rfl Try.runUnderlying22) ?_; clear hF; clear a; intro a hF
        refine RL.val  hF rfl rfl rfl (r_move hF rfl rfl) ?_; clear hF; clear a; intro a hF
        refine RL.val  hF rfl rfl rfl (r_move hF rfl rfl) ?_; clear hF; clear a; intro a hF
        refine RL.val  hF rfl rfl rfl (r_len_slice hF rfl rfl Try.runUnderlying22) ?_; clear hF; clear a; intro a hF
        refine RL.val  hF rfl rfl rfl (r_sub hF rfl rfl rfl) ?_; clear hF; clear a; intro a hF
        refine RL.val  hF rfl rfl rfl (r_min hF rfl rfl rfl) ?_; clear hF; clear a; intro a hF
        refine RL.val  hF rfl rfl rfl (r_assign hF rfl rfl) ?_; clear hF; clear a; intro a hF
        refine RL.nil (hK74 _ _ ?_)
        clear hK74 K73
        refine seq_region fun K75 hK76 => ?_
        refine RL.val  hF rfl rfl rfl (r_move hF rfl rfl) ?_; clear hF; clear a; intro a hF
        refine RL.val  hF rfl rfl rfl (r_move hF rfl rfl) ?_; clear hF; clear a; intro a hF
        refine RL.val  hF rfl rfl rfl (r_move hF rfl rfl) ?_; clear hF; clear a; intro a hF
        obtain ⟨hs77, hs78, h⟩ := h
        refine RL.val  hF rfl rfl rfl (r_slice (lo' := none) (hi' := some (.int .i64 (if (IntKind.i64.wrap (a1 - (s40.len : Int))) < (t57.len : Int) then (IntKind.i64.wrap (a1 - (s40.len : Int))) else (t57.len : Int)))) (mx' := none) hF rfl rfl rfl rfl rfl (slc_at Try.runUnderlying22 Try.sizeOf5 (bounds01 hs77 hs78))) ?_; clear hF; clear a; intro a hF
        obtain ⟨t80, w79, hc_, h⟩ := h
        refine RL.val  hF rfl rfl rfl (r_append (xs := [s40.v, (t57.sub 1 0 ((if (IntKind.i64.wrap (a1 - (s40.len : Int))) < (t57.len : Int) then (IntKind.i64.wrap (a1 - (s40.len : Int))) else (t57.len : Int)).toNat) t57.cap).v]) hF rfl rfl hc_) ?_; clear hF; clear a; intro a hF
        refine RL.val  hF rfl rfl rfl (r_assign hF rfl rfl) ?_; clear hF; clear a; intro a hF
        refine RL.nil (hK76 _ _ ?_)
        clear hK76 K75
        refine seq_region fun K81 hK82 => ?_
        refine RL.val  hF rfl rfl rfl (r_move hF rfl rfl) ?_; clear hF; clear a; intro a hF
        obtain ⟨p83, hpp83, h⟩ := h
        refine RL.val  hF rfl rfl rfl (r_nilCheck hF rfl (lkp rfl hpp83)) ?_; clear hF; clear a; intro a hF
        refine RL.val  hF rfl rfl rfl (r_fieldAddr hF rfl rfl Try.runUnderlying83 rfl Try.sizeOf3 rfl) ?_; clear hF; clear a; intro a hF
        obtain ⟨t84, hct84, h⟩ := h
        refine RL.val  hF rfl rfl rfl (r_load hF rfl rfl Try.isAgg3 hct84) ?_; clear hF; clear a; intro a hF
        refine RL.val  hF rfl rfl rfl (r_move hF rfl rfl) ?_; clear hF; clear a; intro a hF
        refine RL.val  hF rfl rfl rfl (r_add hF rfl rfl rfl) ?_; clear hF; clear a; intro a hF
        obtain ⟨p85, hpp85, h⟩ := h
        refine RL.val  hF rfl rfl rfl (r_nilCheck hF rfl (lkp rfl hpp85)) ?_; clear hF; clear a; intro a hF
        refine RL.val  hF rfl rfl rfl (r_fieldAddr hF rfl rfl Try.runUnderlying83 rfl Try.sizeOf3 rfl) ?_; clear hF; clear a; intro a hF
        obtain ⟨u_, w86, hs1_, hs2_, hs3_, h⟩ := h
        refine RL.unit (w' := w86) hF rfl rfl (by rw [hs3_]; exact r_store hF rfl rfl rfl rfl Try.sizeOf3 hs1_ hs2_) ?_; clear hF; clear a; intro a hF
        refine RL.nil (hK82 _ _ ?_)
        clear hK82 K81
        refine seq_region fun K87 hK88 => ?_
        refine RL.val  hF rfl rfl rfl (r_move hF rfl rfl) ?_; clear hF; clear a; intro a hF
        refine RL.val  hF rfl rfl rfl (r_move hF rfl rfl) ?_; clear hF; clear a; intro a hF
        refine RL.val  hF rfl rfl rfl (r_len_slice hF rfl rfl Try.runUnderlying22) ?_; clear hF; clear a; intro a hF
        refine RL.val  hF rfl rfl rfl (r_lss hF rfl rfl rfl) ?_; clear hF; clear a; intro a hF
        refine RL.nil (hK88 _ _ ?_)
        clear hK88 K87
        obtain ⟨ht, hf⟩ := h
        refine cond_ hF rfl (fun hc => ?_) (fun hc => ?_)
        · replace h := ht hc; clear ht hf
          refine end_draw 2048 #[0, 1, 3, 7, 0, 16, 48, 112, 0, 0, 768, 2047] 12 mo rfl (by kernel_rfl) (by kernel_rfl) fun hS K89 hK90 => ?_
          obtain ⟨w91, hw, h⟩ := h; rw [← hw]; clear hw
          refine GL.val (v := .pointer a0) (i := 0) hF hS rfl rfl (by kernel_rfl) rfl rfl rfl rfl (fun x => r_move hF rfl rfl) ?_; clear hF; clear a; intro a hF
          obtain ⟨p92, hpp92, h⟩ := h
          refine GL.val (v := .pointer (some p92)) (i := 1) hF hS rfl rfl (by kernel_rfl) rfl rfl rfl rfl (fun x => r_nilCheck hF rfl (lkp rfl hpp92)) ?_; clear hF; clear a; intro a hF
          refine GL.val (v := .pointer (some (p92.add 7))) (i := 2) hF hS rfl rfl (by kernel_rfl) rfl rfl rfl rfl (fun x => r_fieldAddr hF rfl rfl Try.runUnderlying83 rfl Try.sizeOf81 rfl) ?_; clear hF; clear a; intro a hF
          obtain ⟨t93, hct93, h⟩ := h
          refine GL.read (v := .map t93) (i := 3) hF (fun x => World.cell? x (p92.add 7) = some (.map t93)) hS rfl rfl (by kernel_rfl) rfl rfl rfl rfl hct93 (fun x hx => r_load hF rfl rfl Try.isAgg81 hx) ?_; clear hF; clear a; intro a hF
          refine GL.val (v := .pointer a0) (i := 4) hF hS rfl rfl (by kernel_rfl) rfl rfl rfl rfl (fun x => r_move hF rfl rfl) ?_; clear hF; clear a; intro a hF
          obtain ⟨p94, hpp94, h⟩ := h
          refine GL.val (v := .pointer (some p94)) (i := 5) hF hS rfl rfl (by kernel_rfl) rfl rfl rfl rfl (fun x => r_nilCheck hF rfl (lkp rfl hpp94)) ?_; clear hF; clear a; intro a hF
          refine GL.val (v := .pointer (some (p94.add 2))) (i := 6) hF hS rfl rfl (by kernel_rfl) rfl rfl rfl rfl (fun x => r_fieldAddr hF rfl rfl Try.runUnderlying83 rfl Try.sizeOf3 rfl) ?_; clear hF; clear a; intro a hF
          obtain ⟨t95, hct95, h⟩ := h
          refine GL.read (v := .int .i64 t95) (i := 7) hF (fun x => World.cell? x (p94.add 2) = some (.int .i64 t95)) hS rfl rfl (by kernel_rfl) rfl rfl rfl rfl hct95 (fun x hx => r_load hF rfl rfl Try.isAgg3 hx) ?_; clear hF; clear a; intro a hF
          refine GL.val (v := t57.v) (i := 8) hF hS rfl rfl (by kernel_rfl) rfl rfl rfl rfl (fun x => r_move hF rfl rfl) ?_; clear hF; clear a; intro a hF
          refine GL.val (v := .int .i64 (if (IntKind.i64.wrap (a1 - (s40.len : Int))) < (t57.len : Int) then (IntKind.i64.wrap (a1 - (s40.len : Int))) else (t57.len : Int))) (i := 9) hF hS rfl rfl (by kernel_rfl) rfl rfl rfl rfl (fun x => r_move hF rfl rfl) ?_; clear hF; clear a; intro a hF
          obtain ⟨hs96, hs97, h⟩ := h
          refine GL.val (v := (t57.sub 1 ((if (IntKind.i64.wrap (a1 - (s40.len : Int))) < (t57.len : Int) then (IntKind.i64.wrap (a1 - (s40.len : Int))) else (t57.len : Int)).toNat) t57.len t57.cap).v) (i := 10) hF hS rfl rfl (by kernel_rfl) rfl rfl rfl rfl (fun x => r_slice (lo' := some (.int .i64 (if (IntKind.i64.wrap (a1 - (s40.len : Int))) < (t57.len : Int) then (IntKind.i64.wrap (a1 - (s40.len : Int))) else (t57.len : Int)))) (hi' := none) (mx' := none) hF rfl rfl rfl rfl rfl (slc_at Try.runUnderlying22 Try.sizeOf5 (bounds10 hs96 hs97))) ?_; clear hF; clear a; intro a hF
          refine GL.act (i := 11) (pend' := []) hS (by kernel_rfl) rfl (by kernel_rfl) ?_
          obtain ⟨w98, hc_, h⟩ := h
          refine op_unit  hF rfl rfl rfl (r_mapUpdate hF rfl rfl rfl rfl hc_) trivial ?_; clear hF; clear a; intro a hF
          refine GL.done (by kernel_rfl) (hK90 _ _ ?_)
          clear hK90 K89
          exact hN43 t80 _ _ (hF.sub rfl) h
        · replace h := hf hc; clear ht hf
          refine wp_skip ?_
          exact hN43 t80 _ _ (hF.sub rfl) h
      clear hJ
      refine seq_region fun K99 hK100 => ?_
      refine RL.val  hF rfl rfl rfl (r_move hF rfl rfl) ?_; clear hF; clear a; intro a hF
      refine RL.val  hF rfl rfl rfl (r_not hF rfl rfl) ?_; clear hF; clear a; intro a hF
      refine RL.nil (hK100 _ _ ?_)
      clear hK100 K99
      obtain ⟨ht, hf⟩ := h
      refine cond_ hF rfl (fun hc => ?_) (fun hc => ?_)
      · replace h := ht hc; clear ht hf
        refine wp_exit ?_
        exact jn14 s40 _ _ (hF.sub rfl) h
      · replace h := hf hc; clear ht hf
        refine wp_skip ?_
        exact jn64 () _ _ (hF.sub rfl) h
    clear hJ
    refine seq_region fun K101 hK102 => ?_
    refine RL.val  hF rfl rfl rfl (r_move hF rfl rfl) ?_; clear hF; clear a; intro a hF
    refine RL.val  hF rfl rfl rfl (r_len_slice hF rfl rfl Try.runUnderlying22) ?_; clear hF; clear a; intro a hF
    refine RL.val  hF rfl rfl rfl (r_move hF rfl rfl) ?_; clear hF; clear a; intro a hF
    refine RL.val  hF rfl rfl rfl (r_lss hF rfl rfl rfl) ?_; clear hF; clear a; intro a hF
    refine RL.nil (hK102 _ _ ?_)
    clear hK102 K101
    obtain ⟨ht, hf⟩ := h
    refine cond_ hF rfl (fun hc => ?_) (fun hc => ?_)
    · replace h := ht hc; clear ht hf
      refine wp_skip ?_
      exact jn49 () _ _ (hF.sub rfl) h
    · replace h := hf hc; clear ht hf
      refine wp_exit ?_
      exact jn14 s40 _ _ (hF.sub rfl) h
  clear hJ
  refine seq_region fun K103 hK104 => ?_
  refine RL.val  hF rfl rfl rfl (r_move hF rfl rfl) ?_; clear hF; clear a; intro a hF
  refine RL.call hF rfl rfl rfl (r_call (xs := [.pointer a0]) hF rfl rfl Try.call42) (CallsV.mono h ?_)
  clear h; rintro _ w105 ⟨r106, rfl, h⟩; clear hF; clear a; intro a hF
  refine RL.nil (hK104 _ _ ?_)
  clear hK104 K103
  obtain ⟨ht, hf⟩ := h
  refine cond_ hF rfl (fun hc => ?_) (fun hc => ?_)
  · replace h := ht hc; clear ht hf
    refine seq_region fun K107 hK108 => ?_
    refine RL.val  hF rfl rfl rfl (r_assign hF rfl rfl) ?_; clear hF; clear a; intro a hF
    refine RL.val  hF rfl rfl rfl (r_assign hF rfl rfl) ?_; clear hF; clear a; intro a hF
    refine RL.nil (hK108 _ _ ?_)
    clear hK108 K107
    refine wp_ret ?_
    exact ret_of hF (res2 hF rfl rfl rfl) ⟨_, _, rfl, h⟩
  · replace h := hf hc; clear ht hf
    refine wp_skip ?_
    exact jn8 Slc.nil _ _ (hF.sub rfl) h

set_option maxRecDepth 20000 in
theorem br5 {a0 : Slc} {a1 : Slc} {w : World} {K : Bool → World → Prop} (h : sh5 a0 a1 w K) : C5 a0 a1 w K := by
  unfold sh5 at h
  refine enter (n := 215) (l := [(0, a0.v), (1, a1.v)]) 213 Try.func5 rfl _ rfl rfl rfl fun a hF => ?_
  refine seq_region fun K1 hK2 => ?_
  refine RL.val  hF rfl rfl rfl (r_assign hF rfl rfl) ?_; clear hF; clear a; intro a hF
  refine RL.nil (hK2 _ _ ?_)
  clear hK2 K1
  refine seq_k fun K3 hK4 => ?_
  obtain ⟨J, hJ, h⟩ := jn_open h
  have jn8 : ∀ (v5 : Unit) (w6 : World) a, Fr 215 a [(0, a0.v), (1, a1.v)] → J v5 w6 → K3 a w6 := by
    intro v5 w6 a hF h
    replace h := hJ _ _ h
    clear hJ
    refine hK4 _ _ ?_
    refine seq_region fun K9 hK10 => ?_
    refine RL.val  hF rfl rfl rfl (r_move hF rfl rfl) ?_; clear hF; clear a; intro a hF
    refine RL.val  hF rfl rfl rfl (r_len_slice hF rfl rfl Try.runUnderlying22) ?_; clear hF; clear a; intro a hF
    refine RL.call hF rfl rfl rfl (r_call (xs := [.int .i64 (a0.len : Int)]) hF rfl rfl Try.call6) (CallsV.mono h ?_)
    clear h; rintro _ w11 ⟨r12, r13, rfl, h⟩; clear hF; clear a; intro a hF
    refine RL.val  hF rfl rfl rfl (r_move hF rfl rfl) ?_; clear hF; clear a; intro a hF
    refine RL.val  hF rfl rfl rfl (r_extract hF rfl rfl rfl) ?_; clear hF; clear a; intro a hF
    refine RL.val  hF rfl rfl rfl (r_extract hF rfl rfl rfl) ?_; clear hF; clear a; intro a hF
    refine RL.val  hF rfl rfl rfl (r_assign hF rfl rfl) ?_; clear hF; clear a; intro a hF
    refine RL.val  hF rfl rfl rfl (r_assign hF rfl rfl) ?_; clear hF; clear a; intro a hF
    refine RL.nil (hK10 _ _ ?_)
    clear hK10 K9
    refine seq_region fun K14 hK15 => ?_
    refine RL.val  hF rfl rfl rfl (r_move hF rfl rfl) ?_; clear hF; clear a; intro a hF
    refine RL.val  hF rfl rfl rfl (r_len_slice hF rfl rfl Try.runUnderlying22) ?_; clear hF; clear a; intro a hF
    refine RL.call hF rfl rfl rfl (r_call (xs := [.int .i64 (a0.len : Int)]) hF rfl rfl Try.call24) (CallsV.mono h ?_)
    clear h; rintro _ w16 ⟨r17, r18, rfl, h⟩; clear hF; clear a; intro a hF
    refine RL.val  hF rfl rfl rfl (r_move hF rfl rfl) ?_; clear hF; clear a; intro a hF
    refine RL.val  hF rfl rfl rfl (r_extract hF rfl rfl rfl) ?_; clear hF; clear a; intro a hF
    refine RL.val  hF rfl rfl rfl (r_extract hF rfl rfl rfl) ?_; clear hF; clear a; intro a hF
    refine RL.val  hF rfl rfl rfl (r_assign hF rfl rfl) ?_; clear hF; clear a; intro a hF
    refine RL.val  hF rfl rfl rfl (r_assign hF rfl rfl) ?_; clear hF; clear a; intro a hF
    refine RL.nil (hK15 _ _ ?_)
    clear hK15 K14
    refine seq_k fun K19 hK20 => ?_
    obtain ⟨J, hJ, h⟩ := jn_open h
    have jn24 : ∀ (v21 : Unit) (w22 : World) a, Fr 215 a [(0, a0.v), (1, a1.v), (5, .pointer r12), (7, .pointer r17)] → J v21 w22 → K19 a w22 := by
      intro v21 w22 a hF h
      replace h := hJ _ _ h
      clear hJ
      refine hK20 _ _ ?_
      refine seq_region fun K25 hK26 => ?_
      refine RL.val  hF rfl rfl rfl (r_move hF rfl rfl) ?_; clear hF; clear a; intro a hF
      refine RL.val  hF rfl rfl rfl (r_move hF rfl rfl) ?_; clear hF; clear a; intro a hF
      refine RL.call hF rfl rfl rfl (r_call (xs := [.pointer r12, a0.v]) hF rfl rfl Try.call7) (CallsV.mono h ?_)
      clear h; rintro _ w27 ⟨r28, r29, rfl, h⟩; clear hF; clear a; intro a hF
      refine RL.val  hF rfl rfl rfl (r_move hF rfl rfl) ?_; clear hF; clear a; intro a hF
      refine RL.val  hF rfl rfl rfl (r_extract hF rfl rfl rfl) ?_; clear hF; clear a; intro a hF
      refine RL.val  hF rfl rfl rfl (r_extract hF rfl rfl rfl) ?_; clear hF; clear a; intro a hF
      refine RL.val  hF rfl rfl rfl (r_assign hF rfl rfl) ?_; clear hF; clear a; intro a hF
      refine RL.val  hF rfl rfl rfl (r_assign hF rfl rfl) ?_; clear hF; clear a; intro a hF
      refine RL.nil (hK26 _ _ ?_)
      clear hK26 K25
      refine seq_k fun K30 hK31 => ?_
      obtain ⟨J, hJ, h⟩ := jn_open h
      have jn35 : ∀ (v32 : Unit) (w33 : World) a, Fr 215 a [(0, a0.v), (1, a1.v), (5, .pointer r12), (7, .pointer r17)] → J v32 w33 → K30 a w33 := by
        intro v32 w33 a hF h
        replace h := hJ _ _ h
        clear hJ
        refine hK31 _ _ ?_
        refine seq_region fun K36 hK37 => ?_
        refine RL.val  hF rfl rfl rfl (r_assign hF rfl rfl) ?_; clear hF; clear a; intro a hF
        refine RL.nil (hK37 _ _ ?_)
        clear hK37 K36
        refine seq_k fun K38 hK39 => ?_
        obtain ⟨J, hJ, h⟩ := jn_open h
        have jn43 : ∀ (v40 : ByteArray) (w41 : World) a, Fr 215 a [(0, a0.v), (7, .pointer r17), (10, .string v40)] → J v40 w41 → K38 a w41 := by
          intro v40 w41 a hF h
          replace h := hJ _ _ h
          clear hJ
          refine hK39 _ _ ?_
          refine seq_region fun K44 hK45 => ?_
          refine RL.val  hF rfl rfl rfl (r_move hF rfl rfl) ?_; clear hF; clear a; intro a hF
          refine RL.val  hF rfl rfl rfl (r_move hF rfl rfl) ?_; clear hF; clear a; intro a hF
          refine RL.val  hF rfl rfl rfl (r_len_slice hF rfl rfl Try.runUnderlying22) ?_; clear hF; clear a; intro a hF
          refine RL.call hF rfl rfl rfl (r_call (xs := [.pointer r17, .int .i64 (a0.len : Int)]) hF rfl rfl Try.call26) (CallsV.mono h ?_)
          clear h; rintro _ w46 ⟨r47, r48, rfl, h⟩; clear hF; clear a; intro a hF
          refine RL.val  hF rfl rfl rfl (r_move hF rfl rfl) ?_; clear hF; clear a; intro a hF
          refine RL.val  hF rfl rfl rfl (r_extract hF rfl rfl rfl) ?_; clear hF; clear a; intro a hF
          refine RL.val  hF rfl rfl rfl (r_extract hF rfl rfl rfl) ?_; clear hF; clear a; intro a hF
          refine RL.val  hF rfl rfl rfl (r_assign hF rfl rfl) ?_; clear hF; clear a; intro a hF
          refine RL.val  hF rfl rfl rfl (r_assign hF rfl rfl) ?_; clear hF; clear a; intro a hF
          refine RL.nil (hK45 _ _ ?_)
          clear hK45 K44
          refine seq_region fun K49 hK50 => ?_
          obtain ⟨J53, hJ, h⟩ := jn_open h
          have jn54 : ∀ (v51 : Bool) (w52 : World) a, Fr 215 a [(4, .bool v51)] → J53 v51 w52 → K49 a w52 := by
            clear hF
            intro v51 w52 a hF h; replace h := hJ _ _ h; refine hK50 _ _ ?_; clear hJ hK50 K49
            refine wp_ret ?_
            exact ret_of hF (res1 hF rfl rfl) ⟨_, rfl, h⟩
          clear hJ hK50
          refine RL.val  hF rfl rfl rfl (r_move hF rfl rfl) ?_; clear hF; clear a; intro a hF
          refine RL.val  hF rfl rfl rfl (r_move hF rfl rfl) ?_; clear hF; clear a; intro a hF
          obtain ⟨ht, hf⟩ := h
          rcases bool_cases r48 with hg55 | hg55
          · replace h := ht hg55; clear ht hf
            refine RL.gval  hF rfl rfl (lkb rfl hg55) rfl rfl (r_move hF rfl rfl) ?_; clear hF; clear a; intro a hF
            refine RL.gval  hF rfl rfl (lkb rfl hg55) rfl rfl (r_move hF rfl rfl) ?_; clear hF; clear a; intro a hF
            obtain ⟨t56, hct56, h⟩ := h
            refine RL.gval  hF rfl rfl (lkb rfl hg55) rfl rfl (r_conv hF rfl rfl hct56) ?_; clear hF; clear a; intro a hF
            obtain ⟨h0_, h⟩ := h
            refine RL.gval  hF rfl rfl (lkb rfl hg55) rfl rfl (r_stradd hF rfl rfl rfl h0_) ?_; clear hF; clear a; intro a hF
            refine RL.gval  hF rfl rfl (lkb rfl hg55) rfl rfl (r_move hF rfl rfl) ?_; clear hF; clear a; intro a hF
            obtain ⟨t57, hct57, h⟩ := h
            refine RL.gval  hF rfl rfl (lkb rfl hg55) rfl rfl (r_conv hF rfl rfl hct57) ?_; clear hF; clear a; intro a hF
            refine RL.gval  hF rfl rfl (lkb rfl hg55) rfl rfl (r_streq hF rfl rfl rfl) ?_; clear hF; clear a; intro a hF
            refine RL.val (v := .bool ((v40 ++ t56).toList == t57.toList)) (w' := w46) hF rfl rfl rfl (r_pick hF rfl rfl rfl rfl (fun _ => rfl) (fun e => absurd (hg55.symm.trans e) (by decide))) ?_; clear hF; clear a; intro a hF
            refine RL.val  hF rfl rfl rfl (r_assign hF rfl rfl) ?_; clear hF; clear a; intro a hF
            refine RL.nil ?_
            exact jn54 ((v40 ++ t56).toList == t57.toList) _ _ (hF.sub rfl) h
          · replace h := hf hg55; clear ht hf
            refine RL.skip hF rfl rfl (lkb rfl hg55) (.inl rfl) rfl rfl ?_; clear hF; clear a; intro a hF
            refine RL.skip hF rfl rfl (lkb rfl hg55) (.inl rfl) rfl rfl ?_; clear hF; clear a; intro a hF
            refine RL.skip hF rfl rfl (lkb rfl hg55) (.inl rfl) rfl rfl ?_; clear hF; clear a; intro a hF
            refine RL.skip hF rfl rfl (lkb rfl hg55) (.inl rfl) rfl rfl ?_; clear hF; clear a; intro a hF
            refine RL.skip hF rfl rfl (lkb rfl hg55) (.inl rfl) rfl rfl ?_; clear hF; clear a; intro a hF
            refine RL.skip hF rfl rfl (lkb rfl hg55) (.inl rfl) rfl rfl ?_; clear hF; clear a; intro a hF
            refine RL.skip hF rfl rfl (lkb rfl hg55) (.inl rfl) rfl rfl ?_; clear hF; clear a; intro a hF
            refine RL.val (v := .bool false) (w' := w46) hF rfl rfl rfl (r_pick hF rfl rfl rfl rfl (fun e => absurd (hg55.symm.trans e) (by decide)) (fun _ => rfl)) ?_; clear hF; clear a; intro a hF
            refine RL.val  hF rfl rfl rfl (r_assign hF rfl rfl) ?_; clear hF; clear a; intro a hF
            refine RL.nil ?_
            exact jn54 false _ _ (hF.sub rfl) h
        clear hJ
        refine seq_region fun K58 hK59 => ?_
        refine RL.val  hF rfl rfl rfl (r_assign hF rfl rfl) ?_; clear hF; clear a; intro a hF
        refine RL.nil (hK59 _ _ ?_)
        clear hK59 K58
        refine wp_block ?_
        refine loop_ (fun (s60 : ByteArray × Int) => [(0, a0.v), (1, a1.v), (5, .pointer r12), (7, .pointer r17), (10, .string s60.1), (11, .int .i64 s60.2)]) (hF.sub rfl) h ?_
        clear hF h
        intro s60 w61 N62 KL hN63 h a hF
        refine seq_k fun K64 hK65 => ?_
        obtain ⟨J, hJ, h⟩ := jn_open h
        have jn69 : ∀ (v66 : Unit) (w67 : World) a, Fr 215 a [(0, a0.v), (1, a1.v), (5, .pointer r12), (7, .pointer r17), (10, .string s60.1), (11, .int .i64 s60.2)] → J v66 w67 → K64 a w67 := by
          intro v66 w67 a hF h
          replace h := hJ _ _ h
          clear hJ
          refine hK65 _ _ ?_
          refine seq_k fun K70 hK71 => ?_
          obtain ⟨J, hJ, h⟩ := jn_open h
          have jn75 : ∀ (v72 : ByteArray) (w73 : World) a, Fr 215 a [(0, a0.v), (1, a1.v), (5, .pointer r12), (7, .pointer r17), (10, .string v72), (11, .int .i64 s60.2)] → J v72 w73 → K70 a w73 := by
            intro v72 w73 a hF h
            replace h := hJ _ _ h
            clear hJ
            refine hK71 _ _ ?_
            refine end_region fun K76 hK77 => ?_
            refine RL.val  hF rfl rfl rfl (r_move hF rfl rfl) ?_; clear hF; clear a; intro a hF
            refine RL.val  hF rfl rfl rfl (r_add hF rfl rfl rfl) ?_; clear hF; clear a; intro a hF
            refine RL.val  hF rfl rfl rfl (r_assign hF rfl rfl) ?_; clear hF; clear a; intro a hF
            refine RL.nil (hK77 _ _ ?_)
            clear hK77 K76
            exact hN63 (v72, IntKind.i64.wrap (s60.2 + 1)) _ _ (hF.sub rfl) h
          clear hJ
          refine wp_block ?_
          refine seq_k fun K78 hK79 => ?_
          obtain ⟨J, hJ, h⟩ := jn_open h
          have jn83 : ∀ (v80 : Unit) (w81 : World) a, Fr 215 a [(0, a0.v), (1, a1.v), (5, .pointer r12), (7, .pointer r17), (10, .string s60.1), (11, .int .i64 s60.2)] → J v80 w81 → K78 a w81 := by
            intro v80 w81 a hF h
            replace h := hJ _ _ h
            clear hJ
            refine hK79 _ _ ?_
            refine seq_region fun K84 hK85 => ?_
            refine RL.val  hF rfl rfl rfl (r_move hF rfl rfl) ?_; clear hF; clear a; intro a hF
            refine RL.val  hF rfl rfl rfl (r_len_slice hF rfl rfl Try.runUnderlying22) ?_; clear hF; clear a; intro a hF
            refine RL.val (v := .agg (#[.int .i64 (a0.len : Int), .bool false, .bool false])) (w' := w81) hF rfl rfl rfl (r_build (xs := [(0, .int .i64 (a0.len : Int))]) hF rfl rfl (by kernel_rfl)) ?_; clear hF; clear a; intro a hF
            obtain ⟨p86, w87, hp_, hw_, h⟩ := h
            refine RL.val (v := .pointer (some p86)) (w' := w87) hF rfl rfl rfl (by rw [hp_, hw_]; exact r_alloc rfl Try.zeroValue62 rfl) ?_; clear hF; clear a; intro a hF
            obtain ⟨w88, hs1_, hs2_, hs3_, hs4_, h⟩ := h
            refine RL.unit (w' := w88) hF rfl rfl (by rw [hs4_]; exact r_storeA hF rfl rfl rfl Try.sizeOf62 hs1_ hs2_ hs3_) ?_; clear hF; clear a; intro a hF
            refine RL.nil (hK85 _ _ ?_)
            clear hK85 K84
            refine seq_k fun K89 hK90 => ?_
            obtain ⟨J, hJ, h⟩ := jn_open h
            have jn94 : ∀ (v91 : Unit) (w92 : World) a, Fr 215 a [(0, a0.v), (1, a1.v), (5, .pointer r12), (7, .pointer r17), (10, .string s60.1), (11, .int .i64 s60.2), (12, .pointer (some p86))] → J v91 w92 → K89 a w92 := by
              intro v91 w92 a hF h
              replace h := hJ _ _ h
              clear hJ
              refine hK90 _ _ ?_
              refine seq_region fun K95 hK96 => ?_
              refine RL.val  hF rfl rfl rfl (r_move hF rfl rfl) ?_; clear hF; clear a; intro a hF
              refine RL.val  hF rfl rfl rfl (r_fieldAddr0 hF rfl rfl Try.runUnderlying62 rfl Try.sizeOf3 rfl) ?_; clear hF; clear a; intro a hF
              obtain ⟨t97, hct97, h⟩ := h
              refine RL.val  hF rfl rfl rfl (r_load hF rfl rfl Try.isAgg3 hct97) ?_; clear hF; clear a; intro a hF
              refine RL.val  hF rfl rfl rfl (r_move hF rfl rfl) ?_; clear hF; clear a; intro a hF
              refine RL.val  hF rfl rfl rfl (r_len_slice hF rfl rfl Try.runUnderlying22) ?_; clear hF; clear a; intro a hF
              refine RL.call hF rfl rfl rfl (r_call (xs := [.pointer r12, .int .i64 t97, .int .i64 (a0.len : Int)]) hF rfl rfl Try.call8) (CallsV.mono h ?_)
              clear h; rintro _ w98 ⟨r99, r100, rfl, h⟩; clear hF; clear a; intro a hF
              refine RL.val  hF rfl rfl rfl (r_move hF rfl rfl) ?_; clear hF; clear a; intro a hF
              refine RL.val  hF rfl rfl rfl (r_extract hF rfl rfl rfl) ?_; clear hF; clear a; intro a hF
              refine RL.val  hF rfl rfl rfl (r_extract hF rfl rfl rfl) ?_; clear hF; clear a; intro a hF
              obtain ⟨p101, w102, hp_, hw_, h⟩ := h
              refine RL.val (v := .pointer (some p101)) (w' := w102) hF rfl rfl rfl (by rw [hp_, hw_]; exact r_alloc rfl Try.zeroValue30 rfl) ?_; clear hF; clear a; intro a hF
              obtain ⟨w103, hs1_, hs2_, hs3_, hs4_, h⟩ := h
              refine RL.unit (w' := w103) hF rfl rfl (by rw [hs4_]; exact r_storeA hF rfl rfl rfl Try.sizeOf30 hs1_ hs2_ hs3_) ?_; clear hF; clear a; intro a hF
              refine RL.val  hF rfl rfl rfl (r_assign hF rfl rfl) ?_; clear hF; clear a; intro a hF
              refine RL.nil (hK96 _ _ ?_)
              clear hK96 K95
              refine seq_k fun K104 hK105 => ?_
              obtain ⟨J, hJ, h⟩ := jn_open h
              have jn109 : ∀ (v106 : Unit) (w107 : World) a, Fr 215 a [(0, a0.v), (1, a1.v), (5, .pointer r12), (7, .pointer r17), (10, .string s60.1), (11, .int .i64 s60.2), (12, .pointer (some p86)), (13, .pointer (some p101))] → J v106 w107 → K104 a w107 := by
                intro v106 w107 a hF h
                replace h := hJ _ _ h
                clear hJ
                refine hK105 _ _ ?_
                refine seq_k fun K110 hK111 => ?_
                obtain ⟨J, hJ, h⟩ := jn_open h
                have jn115 : ∀ (v112 : Unit) (w113 : World) a, Fr 215 a [(0, a0.v), (1, a1.v), (5, .pointer r12), (7, .pointer r17), (10, .string s60.1), (11, .int .i64 s60.2), (12, .pointer (some p86)), (13, .pointer (some p101))] → J v112 w113 → K110 a w113 := by
                  intro v112 w113 a hF h
                  replace h := hJ _ _ h
                  clear hJ
                  refine hK111 _ _ ?_
                  refine seq_k fun K116 hK117 => ?_
                  obtain ⟨J, hJ, h⟩ := jn_open h
                  have jn121 : ∀ (v118 : Unit) (w119 : World) a, Fr 215 a [(0, a0.v), (1, a1.v), (5, .pointer r12), (7, .pointer r17), (10, .string s60.1), (11, .int .i64 s60.2), (12, .pointer (some p86)), (13, .pointer (some p101))] → J v118 w119 → K116 a w119 := by
                    intro v118 w119 a hF h
                    replace h := hJ _ _ h
                    clear hJ
                    refine hK117 _ _ ?_
                    refine seq_k fun K122 hK123 => ?_
                    obtain ⟨J, hJ, h⟩ := jn_open h
                    have jn127 : ∀ (v124 : Unit) (w125 : World) a, Fr 215 a [(0, a0.v), (1, a1.v), (5, .pointer r12), (7, .pointer r17), (10, .string s60.1), (11, .int .i64 s60.2), (12, .pointer (some p86)), (13, .pointer (some p101))] → J v124 w125 → K122 a w125 := by
                      intro v124 w125 a hF h
                      replace h := hJ _ _ h
                      clear hJ
                      refine hK123 _ _ ?_
                      refine seq_k fun K128 hK129 => ?_
                      obtain ⟨J, hJ, h⟩ := jn_open h
                      have jn133 : ∀ (v130 : Unit) (w131 : World) a, Fr 215 a [(0, a0.v), (1, a1.v), (5, .pointer r12), (7, .pointer r17), (10, .string s60.1), (11, .int .i64 s60.2), (13, .pointer (some p101))] → J v130 w131 → K128 a w131 := by
                        intro v130 w131 a hF h
                        replace h := hJ _ _ h
                        clear hJ
                        refine hK129 _ _ ?_
                        refine seq_k fun K134 hK135 => ?_
                        obtain ⟨J, hJ, h⟩ := jn_open h
                        have jn139 : ∀ (v136 : Unit) (w137 : World) a, Fr 215 a [(0, a0.v), (1, a1.v), (5, .pointer r12), (7, .pointer r17), (10, .string s60.1), (11, .int .i64 s60.2)] → J v136 w137 → K134 a w137 := by
                          intro v136 w137 a hF h
                          replace h := hJ _ _ h
                          clear hJ
                          refine hK135 _ _ ?_
                          refine seq_region fun K140 hK141 => ?_
                          refine RL.val  hF rfl rfl rfl (r_move hF rfl rfl) ?_; clear hF; clear a; intro a hF
                          refine RL.val  hF rfl rfl rfl (r_move hF rfl rfl) ?_; clear hF; clear a; intro a hF
                          refine RL.val  hF rfl rfl rfl (r_len_slice hF rfl rfl Try.runUnderlying22) ?_; clear hF; clear a; intro a hF
                          refine RL.call hF rfl rfl rfl (r_call (xs := [.pointer r17, .int .i64 (a0.len : Int)]) hF rfl rfl Try.call26) (CallsV.mono h ?_)
                          clear h; rintro _ w142 ⟨r143, r144, rfl, h⟩; clear hF; clear a; intro a hF
                          refine RL.val  hF rfl rfl rfl (r_move hF rfl rfl) ?_; clear hF; clear a; intro a hF
                          refine RL.val  hF rfl rfl rfl (r_extract hF rfl rfl rfl) ?_; clear hF; clear a; intro a hF
                          refine RL.val  hF rfl rfl rfl (r_extract hF rfl rfl rfl) ?_; clear hF; clear a; intro a hF
                          refine RL.val  hF rfl rfl rfl (r_assign hF rfl rfl) ?_; clear hF; clear a; intro a hF
                          refine RL.val  hF rfl rfl rfl (r_assign hF rfl rfl) ?_; clear hF; clear a; intro a hF
                          refine RL.nil (hK141 _ _ ?_)
                          clear hK141 K140
                          refine end_region fun K145 hK146 => ?_
                          refine RL.val  hF rfl rfl rfl (r_move hF rfl rfl) ?_; clear hF; clear a; intro a hF
                          refine RL.val  hF rfl rfl rfl (r_move hF rfl rfl) ?_; clear hF; clear a; intro a hF
                          obtain ⟨t147, hct147, h⟩ := h
                          refine RL.val  hF rfl rfl rfl (r_conv hF rfl rfl hct147) ?_; clear hF; clear a; intro a hF
                          obtain ⟨h0_, h⟩ := h
                          refine RL.val  hF rfl rfl rfl (r_stradd hF rfl rfl rfl h0_) ?_; clear hF; clear a; intro a hF
                          refine RL.val  hF rfl rfl rfl (r_assign hF rfl rfl) ?_; clear hF; clear a; intro a hF
                          refine RL.nil (hK146 _ _ ?_)
                          clear hK146 K145
                          exact jn75 (s60.1 ++ t147) _ _ (hF.sub rfl) h
                        clear hJ
                        refine seq_region fun K148 hK149 => ?_
                        refine RL.val  hF rfl rfl rfl (r_move hF rfl rfl) ?_; clear hF; clear a; intro a hF
                        obtain ⟨t150, hct150, h⟩ := h
                        refine RL.val  hF rfl rfl rfl (r_loadA hF rfl rfl Try.isAgg30 Try.sizeOf30 hct150) ?_; clear hF; clear a; intro a hF
                        refine RL.call hF rfl rfl rfl (r_call (xs := [.pointer r12, .agg t150]) hF rfl rfl Try.call19) (CallsV.mono h ?_)
                        clear h; rintro _ w151 ⟨r152, rfl, h⟩; clear hF; clear a; intro a hF
                        refine RL.val  hF rfl rfl rfl (r_neq hF rfl rfl rfl) ?_; clear hF; clear a; intro a hF
                        refine RL.nil (hK149 _ _ ?_)
                        clear hK149 K148
                        obtain ⟨ht, hf⟩ := h
                        refine cond_ hF rfl (fun hc => ?_) (fun hc => ?_)
                        · replace h := ht hc; clear ht hf
                          refine seq_region fun K153 hK154 => ?_
                          refine RL.val  hF rfl rfl rfl (r_assign hF rfl rfl) ?_; clear hF; clear a; intro a hF
                          refine RL.nil (hK154 _ _ ?_)
                          clear hK154 K153
                          refine wp_ret ?_
                          exact ret_of hF (res1 hF rfl rfl) ⟨_, rfl, h⟩
                        · replace h := hf hc; clear ht hf
                          refine wp_skip ?_
                          exact jn139 () _ _ (hF.sub rfl) h
                      clear hJ
                      refine seq_region fun K155 hK156 => ?_
                      obtain ⟨J159, hJ, h⟩ := jn_open h
                      have jn160 : ∀ (v157 : Bool) (w158 : World) a, Fr 215 a [(0, a0.v), (1, a1.v), (5, .pointer r12), (7, .pointer r17), (10, .string s60.1), (11, .int .i64 s60.2), (13, .pointer (some p101)), (182, .bool v157)] → J159 v157 w158 → K155 a w158 := by
                        clear hF
                        intro v157 w158 a hF h; replace h := hJ _ _ h; refine hK156 _ _ ?_; clear hJ hK156 K155
                        obtain ⟨ht, hf⟩ := h
                        refine cond_ hF rfl (fun hc => ?_) (fun hc => ?_)
                        · replace h := ht hc; clear ht hf
                          refine seq_region fun K161 hK162 => ?_
                          refine RL.val  hF rfl rfl rfl (r_assign hF rfl rfl) ?_; clear hF; clear a; intro a hF
                          refine RL.nil (hK162 _ _ ?_)
                          clear hK162 K161
                          refine wp_ret ?_
                          exact ret_of hF (res1 hF rfl rfl) ⟨_, rfl, h⟩
                        · replace h := hf hc; clear ht hf
                          refine wp_skip ?_
                          exact jn133 () _ _ (hF.sub rfl) h
                      clear hJ hK156
                      refine RL.val  hF rfl rfl rfl (r_fieldAddr hF rfl rfl Try.runUnderlying62 rfl Try.sizeOf4 rfl) ?_; clear hF; clear a; intro a hF
                      obtain ⟨t163, hct163, h⟩ := h
                      refine RL.val  hF rfl rfl rfl (r_load hF rfl rfl Try.isAgg4 hct163) ?_; clear hF; clear a; intro a hF
                      refine RL.val  hF rfl rfl rfl (r_move hF rfl rfl) ?_; clear hF; clear a; intro a hF
                      obtain ⟨ht, hf⟩ := h
                      rcases bool_cases t163 with hg164 | hg164
                      · replace h := ht hg164; clear ht hf
                        refine RL.gval  hF rfl rfl (lkb rfl hg164) rfl rfl (r_move hF rfl rfl) ?_; clear hF; clear a; intro a hF
                        obtain ⟨t165, hct165, h⟩ := h
                        refine RL.gval  hF rfl rfl (lkb rfl hg164) rfl rfl (r_loadA hF rfl rfl Try.isAgg30 Try.sizeOf30 hct165) ?_; clear hF; clear a; intro a hF
                        refine RL.gcall hF rfl rfl (lkb rfl hg164) rfl rfl (r_call (xs := [.pointer r12, .agg t165]) hF rfl rfl Try.call21) (CallsV.mono h ?_)
                        clear h; rintro _ w166 ⟨r167, rfl, h⟩; clear hF; clear a; intro a hF
                        refine RL.gval  hF rfl rfl (lkb rfl hg164) rfl rfl (r_neq hF rfl rfl rfl) ?_; clear hF; clear a; intro a hF
                        refine RL.val (v := .bool (r167 != 0)) (w' := w166) hF rfl rfl rfl (r_pick hF rfl rfl rfl rfl (fun _ => rfl) (fun e => absurd (hg164.symm.trans e) (by decide))) ?_; clear hF; clear a; intro a hF
                        refine RL.nil ?_
                        exact jn160 (r167 != 0) _ _ (hF.sub rfl) h
                      · replace h := hf hg164; clear ht hf
                        refine RL.skip hF rfl rfl (lkb rfl hg164) (.inl rfl) rfl rfl ?_; clear hF; clear a; intro a hF
                        refine RL.skip hF rfl rfl (lkb rfl hg164) (.inl rfl) rfl rfl ?_; clear hF; clear a; intro a hF
                        refine RL.skip hF rfl rfl (lkb rfl hg164) (.inl rfl) rfl rfl ?_; clear hF; clear a; intro a hF
                        refine RL.skip hF rfl rfl (lkb rfl hg164) (.inl rfl) rfl rfl ?_; clear hF; clear a; intro a hF
                        refine RL.val (v := .bool false) (w' := w125) hF rfl rfl rfl (r_pick hF rfl rfl rfl rfl (fun e => absurd (hg164.symm.trans e) (by decide)) (fun _ => rfl)) ?_; clear hF; clear a; intro a hF
                        refine RL.nil ?_
                        exact jn160 false _ _ (hF.sub rfl) h
                    clear hJ
                    refine seq_region fun K168 hK169 => ?_
                    refine RL.val  hF rfl rfl rfl (r_fieldAddr hF rfl rfl Try.runUnderlying62 rfl Try.sizeOf4 rfl) ?_; clear hF; clear a; intro a hF
                    obtain ⟨t170, hct170, h⟩ := h
                    refine RL.val  hF rfl rfl rfl (r_load hF rfl rfl Try.isAgg4 hct170) ?_; clear hF; clear a; intro a hF
                    refine RL.nil (hK169 _ _ ?_)
                    clear hK169 K168
                    obtain ⟨ht, hf⟩ := h
                    refine cond_ hF rfl (fun hc => ?_) (fun hc => ?_)
                    · replace h := ht hc; clear ht hf
                      refine seq_k fun K171 hK172 => ?_
                      obtain ⟨J, hJ, h⟩ := jn_open h
                      have jn176 : ∀ (v173 : Unit) (w174 : World) a, Fr 215 a [(0, a0.v), (1, a1.v), (5, .pointer r12), (7, .pointer r17), (10, .string s60.1), (11, .int .i64 s60.2)] → J v173 w174 → K171 a w174 := by
                        intro v173 w174 a hF h
                        replace h := hJ _ _ h
                        clear hJ
                        refine hK172 _ _ ?_
                        refine wp_exit ?_
                        exact jn75 s60.1 _ _ (hF.sub rfl) h
                      clear hJ
                      refine seq_region fun K177 hK178 => ?_
                      refine RL.val  hF rfl rfl rfl (r_move hF rfl rfl) ?_; clear hF; clear a; intro a hF
                      obtain ⟨t179, hct179, h⟩ := h
                      refine RL.val  hF rfl rfl rfl (r_loadA hF rfl rfl Try.isAgg30 Try.sizeOf30 hct179) ?_; clear hF; clear a; intro a hF
                      refine RL.call hF rfl rfl rfl (r_call (xs := [.pointer r12, .agg t179]) hF rfl rfl Try.call21) (CallsV.mono h ?_)
                      clear h; rintro _ w180 ⟨r181, rfl, h⟩; clear hF; clear a; intro a hF
                      refine RL.val  hF rfl rfl rfl (r_neq hF rfl rfl rfl) ?_; clear hF; clear a; intro a hF
                      refine RL.nil (hK178 _ _ ?_)
                      clear hK178 K177
                      obtain ⟨ht, hf⟩ := h
                      refine cond_ hF rfl (fun hc => ?_) (fun hc => ?_)
                      · replace h := ht hc; clear ht hf
                        refine seq_region fun K182 hK183 => ?_
                        refine RL.val  hF rfl rfl rfl (r_assign hF rfl rfl) ?_; clear hF; clear a; intro a hF
                        refine RL.nil (hK183 _ _ ?_)
                        clear hK183 K182
                        refine wp_ret ?_
                        exact ret_of hF (res1 hF rfl rfl) ⟨_, rfl, h⟩
                      · replace h := hf hc; clear ht hf
                        refine wp_skip ?_
                        exact jn176 () _ _ (hF.sub rfl) h
                    · replace h := hf hc; clear ht hf
                      refine wp_skip ?_
                      exact jn127 () _ _ (hF.sub rfl) h
                  clear hJ
                  refine seq_region fun K184 hK185 => ?_
                  obtain ⟨J188, hJ, h⟩ := jn_open h
                  have jn189 : ∀ (v186 : Bool) (w187 : World) a, Fr 215 a [(0, a0.v), (1, a1.v), (5, .pointer r12), (7, .pointer r17), (10, .string s60.1), (11, .int .i64 s60.2), (12, .pointer (some p86)), (13, .pointer (some p101)), (159, .bool v186)] → J188 v186 w187 → K184 a w187 := by
                    clear hF
                    intro v186 w187 a hF h; replace h := hJ _ _ h; refine hK185 _ _ ?_; clear hJ hK185 K184
                    obtain ⟨ht, hf⟩ := h
                    refine cond_ hF rfl (fun hc => ?_) (fun hc => ?_)
                    · replace h := ht hc; clear ht hf
                      refine seq_region fun K190 hK191 => ?_
                      refine RL.val  hF rfl rfl rfl (r_move hF rfl rfl) ?_; clear hF; clear a; intro a hF
                      refine RL.val  hF rfl rfl rfl (r_fieldAddr0 hF rfl rfl Try.runUnderlying30 rfl Try.sizeOf3 rfl) ?_; clear hF; clear a; intro a hF
                      obtain ⟨t192, hct192, h⟩ := h
                      refine RL.val  hF rfl rfl rfl (r_load hF rfl rfl Try.isAgg3 hct192) ?_; clear hF; clear a; intro a hF
                      refine RL.val  hF rfl rfl rfl (r_fieldAddr hF rfl rfl Try.runUnderlying30 rfl Try.sizeOf22 rfl) ?_; clear hF; clear a; intro a hF
                      obtain ⟨t193, hct193, h⟩ := h
                      refine RL.val  hF rfl rfl rfl (r_load hF rfl rfl Try.isAgg22 hct193) ?_; clear hF; clear a; intro a hF
                      refine RL.val  hF rfl rfl rfl (r_fieldAddr hF rfl rfl Try.runUnderlying30 rfl Try.sizeOf4 rfl) ?_; clear hF; clear a; intro a hF
                      obtain ⟨t194, hct194, h⟩ := h
                      refine RL.val  hF rfl rfl rfl (r_load hF rfl rfl Try.isAgg4 hct194) ?_; clear hF; clear a; intro a hF
                      refine RL.call hF rfl rfl rfl (r_call (xs := [.pointer r17, .int .i64 t192, t193.v, .bool t194]) hF rfl rfl Try.call25) (CallsV.mono h ?_)
                      clear h; rintro _ w195 ⟨r196, rfl, h⟩; clear hF; clear a; intro a hF
                      refine RL.val  hF rfl rfl rfl (r_neq hF rfl rfl rfl) ?_; clear hF; clear a; intro a hF
                      refine RL.nil (hK191 _ _ ?_)
                      clear hK191 K190
                      obtain ⟨ht, hf⟩ := h
                      refine cond_ hF rfl (fun hc => ?_) (fun hc => ?_)
                      · replace h := ht hc; clear ht hf
                        refine seq_region fun K197 hK198 => ?_
                        refine RL.val  hF rfl rfl rfl (r_assign hF rfl rfl) ?_; clear hF; clear a; intro a hF
                        refine RL.nil (hK198 _ _ ?_)
                        clear hK198 K197
                        refine wp_ret ?_
                        exact ret_of hF (res1 hF rfl rfl) ⟨_, rfl, h⟩
                      · replace h := hf hc; clear ht hf
                        refine wp_skip ?_
                        exact jn121 () _ _ (hF.sub rfl) h
                    · replace h := hf hc; clear ht hf
                      refine wp_skip ?_
                      exact jn121 () _ _ (hF.sub rfl) h
                  clear hJ hK185
                  refine RL.val  hF rfl rfl rfl (r_fieldAddr hF rfl rfl Try.runUnderlying62 rfl Try.sizeOf4 rfl) ?_; clear hF; clear a; intro a hF
                  obtain ⟨t199, hct199, h⟩ := h
                  refine RL.val  hF rfl rfl rfl (r_load hF rfl rfl Try.isAgg4 hct199) ?_; clear hF; clear a; intro a hF
                  refine RL.val  hF rfl rfl rfl (r_not hF rfl rfl) ?_; clear hF; clear a; intro a hF
                  refine RL.val  hF rfl rfl rfl (r_move hF rfl rfl) ?_; clear hF; clear a; intro a hF
                  obtain ⟨ht, hf⟩ := h
                  rcases bool_cases (!t199) with hg200 | hg200
                  · replace h := ht hg200; clear ht hf
                    refine RL.skip hF rfl rfl (lkb rfl hg200) (.inl rfl) rfl rfl ?_; clear hF; clear a; intro a hF
                    refine RL.skip hF rfl rfl (lkb rfl hg200) (.inl rfl) rfl rfl ?_; clear hF; clear a; intro a hF
                    refine RL.val (v := .bool true) (w' := w113) hF rfl rfl rfl (r_pick hF rfl rfl rfl rfl (fun _ => rfl) (fun e => absurd (hg200.symm.trans e) (by decide))) ?_; clear hF; clear a; intro a hF
                    refine RL.nil ?_
                    exact jn189 true _ _ (hF.sub rfl) h
                  · replace h := hf hg200; clear ht hf
                    refine RL.gval  hF rfl rfl (lkb rfl hg200) rfl rfl (r_fieldAddr hF rfl rfl Try.runUnderlying62 rfl Try.sizeOf4 rfl) ?_; clear hF; clear a; intro a hF
                    obtain ⟨t201, hct201, h⟩ := h
                    refine RL.gval  hF rfl rfl (lkb rfl hg200) rfl rfl (r_load hF rfl rfl Try.isAgg4 hct201) ?_; clear hF; clear a; intro a hF
                    refine RL.val (v := .bool t201) (w' := w113) hF rfl rfl rfl (r_pick hF rfl rfl rfl rfl (fun e => absurd (hg200.symm.trans e) (by decide)) (fun _ => rfl)) ?_; clear hF; clear a; intro a hF
                    refine RL.nil ?_
                    exact jn189 t201 _ _ (hF.sub rfl) h
                clear hJ
                refine seq_draw 0 #[0, 1, 3, 7, 15, 31, 15, 79, 207, 511, 15, 1039, 4095, 8191, 16383, 32767, 65535, 131071, 32767, 32767, 557055, 32767, 2129919, 32767, 8421375, 25198591, 65044479, 133988351, 268206079, 536870911, 1073741823, 2147483647, 4294967295, 8589934591, 17179869183, 34359738367, 68719476735, 34359738367, 171798691839, 446676598783, 1099511627775, 34359738367, 2233382993919, 8796093022207, 17592186044415, 35184372088831] 46 mo rfl (by kernel_rfl) (by kernel_rfl) fun hS K202 hK203 => ?_
                obtain ⟨w204, hw, h⟩ := h; rw [← hw]; clear hw
                obtain ⟨J207, hJ, h⟩ := jn_open h
                have jn208 : ∀ (v205 : Bool) (w206 : World) a, Fr 215 a [(0, a0.v), (1, a1.v), (5, .pointer r12), (7, .pointer r17), (10, .string s60.1), (11, .int .i64 s60.2), (12, .pointer (some p86)), (13, .pointer (some p101)), (152, .bool v205)] → J207 v205 w206 → K202 a w206 := by
                  clear hF
                  intro v205 w206 a hF h; replace h := hJ _ _ h; refine hK203 _ _ ?_; clear hJ hK203 K202
                  obtain ⟨ht, hf⟩ := h
                  refine cond_ hF rfl (fun hc => ?_) (fun hc => ?_)
                  · replace h := ht hc; clear ht hf
                    refine seq_region fun K209 hK210 => ?_
                    refine RL.val  hF rfl rfl rfl (r_assign hF rfl rfl) ?_; clear hF; clear a; intro a hF
                    refine RL.nil (hK210 _ _ ?_)
                    clear hK210 K209
                    refine wp_ret ?_
                    exact ret_of hF (res1 hF rfl rfl) ⟨_, rfl, h⟩
                  · replace h := hf hc; clear ht hf
                    refine wp_skip ?_
                    exact jn115 () _ _ (hF.sub rfl) h
                clear hJ hK203
                refine GL.val (v := .pointer (some p101)) (i := 0) hF hS rfl rfl (by kernel_rfl) rfl rfl rfl rfl (fun x => r_fieldAddr0 hF rfl rfl Try.runUnderlying30 rfl Try.sizeOf3 rfl) ?_; clear hF; clear a; intro a hF
                obtain ⟨t211, hct211, h⟩ := h
                refine GL.read (v := .int .i64 t211) (i := 1) hF (fun x => World.cell? x p101 = some (.int .i64 t211)) hS rfl rfl (by kernel_rfl) rfl rfl rfl rfl hct211 (fun x hx => r_load hF rfl rfl Try.isAgg3 hx) ?_; clear hF; clear a; intro a hF
                refine GL.val (v := .bool (decide (t211 < 0))) (i := 2) hF hS rfl rfl (by kernel_rfl) rfl rfl rfl rfl (fun x => r_lss hF rfl rfl rfl) ?_; clear hF; clear a; intro a hF
                refine GL.val (v := .bool (decide (t211 < 0))) (i := 3) hF hS rfl rfl (by kernel_rfl) rfl rfl rfl rfl (fun x => r_move hF rfl rfl) ?_; clear hF; clear a; intro a hF
                obtain ⟨ht, hf⟩ := h
                rcases bool_cases (decide (t211 < 0)) with hg212 | hg212
                · replace h := ht hg212; clear ht hf
                  refine GL.skip (i := 4) hF hS rfl rfl (by kernel_rfl) rfl rfl rfl (lkb rfl hg212) (.inl rfl) rfl rfl ?_; clear hF; clear a; intro a hF
                  refine GL.skip (i := 5) hF hS rfl rfl (by kernel_rfl) rfl rfl rfl (lkb rfl hg212) (.inl rfl) rfl rfl ?_; clear hF; clear a; intro a hF
                  refine GL.skip (i := 6) hF hS rfl rfl (by kernel_rfl) rfl rfl rfl (lkb rfl hg212) (.inl rfl) rfl rfl ?_; clear hF; clear a; intro a hF
                  refine GL.skip (i := 7) hF hS rfl rfl (by kernel_rfl) rfl rfl rfl (lkb rfl hg212) (.inl rfl) rfl rfl ?_; clear hF; clear a; intro a hF
                  refine GL.skip (i := 8) hF hS rfl rfl (by kernel_rfl) rfl rfl rfl (lkb rfl hg212) (.inl rfl) rfl rfl ?_; clear hF; clear a; intro a hF
                  refine GL.skip (i := 9) hF hS rfl rfl (by kernel_rfl) rfl rfl rfl (lkb rfl hg212) (.inl rfl) rfl rfl ?_; clear hF; clear a; intro a hF
                  refine GL.skip (i := 10) hF hS rfl rfl (by kernel_rfl) rfl rfl rfl (lkb rfl hg212) (.inl rfl) rfl rfl ?_; clear hF; clear a; intro a hF
                  refine GL.skip (i := 11) hF hS rfl rfl (by kernel_rfl) rfl rfl rfl (lkb rfl hg212) (.inl rfl) rfl rfl ?_; clear hF; clear a; intro a hF
                  refine GL.skip (i := 12) hF hS rfl rfl (by kernel_rfl) rfl rfl rfl (lkb rfl hg212) (.inl rfl) rfl rfl ?_; clear hF; clear a; intro a hF
                  refine GL.val (v := .bool true) (i := 13) hF hS rfl rfl (by kernel_rfl) rfl rfl rfl rfl (fun x => r_pick hF rfl rfl rfl rfl (fun _ => rfl) (fun e => absurd (hg212.symm.trans e) (by decide))) ?_; clear hF; clear a; intro a hF
                  refine GL.val (v := .bool true) (i := 14) hF hS rfl rfl (by kernel_rfl) rfl rfl rfl rfl (fun x => r_move hF rfl rfl) ?_; clear hF; clear a; intro a hF
                  refine GL.skip (i := 15) hF hS rfl rfl (by kernel_rfl) rfl rfl rfl rfl (.inl rfl) rfl rfl ?_; clear hF; clear a; intro a hF
                  refine GL.skip (i := 16) hF hS rfl rfl (by kernel_rfl) rfl rfl rfl rfl (.inl rfl) rfl rfl ?_; clear hF; clear a; intro a hF
                  refine GL.skip (i := 17) hF hS rfl rfl (by kernel_rfl) rfl rfl rfl rfl (.inl rfl) rfl rfl ?_; clear hF; clear a; intro a hF
                  refine GL.skip (i := 18) hF hS rfl rfl (by kernel_rfl) rfl rfl rfl rfl (.inl rfl) rfl rfl ?_; clear hF; clear a; intro a hF
                  refine GL.skip (i := 19) hF hS rfl rfl (by kernel_rfl) rfl rfl rfl rfl (.inl rfl) rfl rfl ?_; clear hF; clear a; intro a hF
                  refine GL.skip (i := 20) hF hS rfl rfl (by kernel_rfl) rfl rfl rfl rfl (.inl rfl) rfl rfl ?_; clear hF; clear a; intro a hF
                  refine GL.skip (i := 21) hF hS rfl rfl (by kernel_rfl) rfl rfl rfl rfl (.inl rfl) rfl rfl ?_; clear hF; clear a; intro a hF
                  refine GL.skip (i := 22) hF hS rfl rfl (by kernel_rfl) rfl rfl rfl rfl (.inl rfl) rfl rfl ?_; clear hF; clear a; intro a hF
                  refine GL.skip (i := 23) hF hS rfl rfl (by kernel_rfl) rfl rfl rfl rfl (.inl rfl) rfl rfl ?_; clear hF; clear a; intro a hF
                  refine GL.skip (i := 24) hF hS rfl rfl (by kernel_rfl) rfl rfl rfl rfl (.inl rfl) rfl rfl ?_; clear hF; clear a; intro a hF
                  refine GL.skip (i := 25) hF hS rfl rfl (by kernel_rfl) rfl rfl rfl rfl (.inl rfl) rfl rfl ?_; clear hF; clear a; intro a hF
                  refine GL.skip (i := 26) hF hS rfl rfl (by kernel_rfl) rfl rfl rfl rfl (.inl rfl) rfl rfl ?_; clear hF; clear a; intro a hF
                  refine GL.skip (i := 27) hF hS rfl rfl (by kernel_rfl) rfl rfl rfl rfl (.inl rfl) rfl rfl ?_; clear hF; clear a; intro a hF
                  refine GL.skip (i := 28) hF hS rfl rfl (by kernel_rfl) rfl rfl rfl rfl (.inl rfl) rfl rfl ?_; clear hF; clear a; intro a hF
                  refine GL.skip (i := 29) hF hS rfl rfl (by kernel_rfl) rfl rfl rfl rfl (.inl rfl) rfl rfl ?_; clear hF; clear a; intro a hF
                  refine GL.val (v := .bool true) (i := 30) hF hS rfl rfl (by kernel_rfl) rfl rfl rfl rfl (fun x => r_pick hF rfl rfl rfl rfl (fun _ => rfl) (fun e => absurd e (by decide))) ?_; clear hF; clear a; intro a hF
                  refine GL.val (v := .bool true) (i := 31) hF hS rfl rfl (by kernel_rfl) rfl rfl rfl rfl (fun x => r_move hF rfl rfl) ?_; clear hF; clear a; intro a hF
                  refine GL.skip (i := 32) hF hS rfl rfl (by kernel_rfl) rfl rfl rfl rfl (.inl rfl) rfl rfl ?_; clear hF; clear a; intro a hF
                  refine GL.skip (i := 33) hF hS rfl rfl (by kernel_rfl) rfl rfl rfl rfl (.inl rfl) rfl rfl ?_; clear hF; clear a; intro a hF
                  refine GL.skip (i := 34) hF hS rfl rfl (by kernel_rfl) rfl rfl rfl rfl (.inl rfl) rfl rfl ?_; clear hF; clear a; intro a hF
                  refine GL.skip (i := 35) hF hS rfl rfl (by kernel_rfl) rfl rfl rfl rfl (.inr rfl) rfl rfl ?_; clear hF; clear a; intro a hF
                  refine GL.skip (i := 36) hF hS rfl rfl (by kernel_rfl) rfl rfl rfl rfl (.inr rfl) rfl rfl ?_; clear hF; clear a; intro a hF
                  refine GL.skip (i := 37) hF hS rfl rfl (by kernel_rfl) rfl rfl rfl rfl (.inr rfl) rfl rfl ?_; clear hF; clear a; intro a hF
                  refine GL.skip (i := 38) hF hS rfl rfl (by kernel_rfl) rfl rfl rfl rfl (.inr rfl) rfl rfl ?_; clear hF; clear a; intro a hF
                  refine GL.skip (i := 39) hF hS rfl rfl (by kernel_rfl) rfl rfl rfl rfl (.inr rfl) rfl rfl ?_; clear hF; clear a; intro a hF
                  refine GL.skip (i := 40) hF hS rfl rfl (by kernel_rfl) rfl rfl rfl rfl (.inr rfl) rfl rfl ?_; clear hF; clear a; intro a hF
                  refine GL.skip (i := 41) hF hS rfl rfl (by kernel_rfl) rfl rfl rfl rfl (.inr rfl) rfl rfl ?_; clear hF; clear a; intro a hF
                  refine GL.skip (i := 42) hF hS rfl rfl (by kernel_rfl) rfl rfl rfl rfl (.inr rfl) rfl rfl ?_; clear hF; clear a; intro a hF
                  refine GL.skip (i := 43) hF hS rfl rfl (by kernel_rfl) rfl rfl rfl rfl (.inr rfl) rfl rfl ?_; clear hF; clear a; intro a hF
                  refine GL.skip (i := 44) hF hS rfl rfl (by kernel_rfl) rfl rfl rfl rfl (.inl rfl) rfl rfl ?_; clear hF; clear a; intro a hF
                  refine GL.val (v := .bool true) (i := 45) hF hS rfl rfl (by kernel_rfl) rfl rfl rfl rfl (fun x => r_pick hF rfl rfl rfl rfl (fun _ => rfl) (fun e => absurd e (by decide))) ?_; clear hF; clear a; intro a hF
                  refine GL.done (by kernel_rfl) ?_
                  exact jn208 true _ _ (hF.sub rfl) h
                · replace h := hf hg212; clear ht hf
                  refine GL.gval (v := .pointer (some p101)) (i := 4) hF hS rfl rfl (by kernel_rfl) rfl rfl rfl (lkb rfl hg212) rfl rfl (fun x => r_fieldAddr0 hF rfl rfl Try.runUnderlying30 rfl Try.sizeOf3 rfl) ?_; clear hF; clear a; intro a hF
                  obtain ⟨t213, hct213, h⟩ := h
                  refine GL.gread (v := .int .i64 t213) (i := 5) hF (fun x => World.cell? x p101 = some (.int .i64 t213)) hS rfl rfl (by kernel_rfl) rfl rfl rfl (lkb rfl hg212) rfl rfl hct213 (fun x hx => r_load hF rfl rfl Try.isAgg3 hx) ?_; clear hF; clear a; intro a hF
                  refine GL.gval (v := .pointer (some (p101.add 1))) (i := 6) hF hS rfl rfl (by kernel_rfl) rfl rfl rfl (lkb rfl hg212) rfl rfl (fun x => r_fieldAddr hF rfl rfl Try.runUnderlying30 rfl Try.sizeOf22 rfl) ?_; clear hF; clear a; intro a hF
                  obtain ⟨t214, hct214, h⟩ := h
                  refine GL.gread (v := t214.v) (i := 7) hF (fun x => World.cell? x (p101.add 1) = some (t214.v)) hS rfl rfl (by kernel_rfl) rfl rfl rfl (lkb rfl hg212) rfl rfl hct214 (fun x hx => r_load hF rfl rfl Try.isAgg22 hx) ?_; clear hF; clear a; intro a hF
                  refine GL.gval (v := .int .i64 (t214.len : Int)) (i := 8) hF hS rfl rfl (by kernel_rfl) rfl rfl rfl (lkb rfl hg212) rfl rfl (fun x => r_len_slice hF rfl rfl Try.runUnderlying22) ?_; clear hF; clear a; intro a hF
                  refine GL.gval (v := .int .i64 (IntKind.i64.wrap (t213 + (t214.len : Int)))) (i := 9) hF hS rfl rfl (by kernel_rfl) rfl rfl rfl (lkb rfl hg212) rfl rfl (fun x => r_add hF rfl rfl rfl) ?_; clear hF; clear a; intro a hF
                  refine GL.gval (v := a0.v) (i := 10) hF hS rfl rfl (by kernel_rfl) rfl rfl rfl (lkb rfl hg212) rfl rfl (fun x => r_move hF rfl rfl) ?_; clear hF; clear a; intro a hF
                  refine GL.gval (v := .int .i64 (a0.len : Int)) (i := 11) hF hS rfl rfl (by kernel_rfl) rfl rfl rfl (lkb rfl hg212) rfl rfl (fun x => r_len_slice hF rfl rfl Try.runUnderlying22) ?_; clear hF; clear a; intro a hF
                  refine GL.gval (v := .bool (decide ((IntKind.i64.wrap (t213 + (t214.len : Int))) > (a0.len : Int)))) (i := 12) hF hS rfl rfl (by kernel_rfl) rfl rfl rfl (lkb rfl hg212) rfl rfl (fun x => r_gtr hF rfl rfl rfl) ?_; clear hF; clear a; intro a hF
                  refine GL.val (v := .bool (decide ((IntKind.i64.wrap (t213 + (t214.len : Int))) > (a0.len : Int)))) (i := 13) hF hS rfl rfl (by kernel_rfl) rfl rfl rfl rfl (fun x => r_pick hF rfl rfl rfl rfl (fun e => absurd (hg212.symm.trans e) (by decide)) (fun _ => rfl)) ?_; clear hF; clear a; intro a hF
                  refine GL.val (v := .bool (decide ((IntKind.i64.wrap (t213 + (t214.len : Int))) > (a0.len : Int)))) (i := 14) hF hS rfl rfl (by kernel_rfl) rfl rfl rfl rfl (fun x => r_move hF rfl rfl) ?_; clear hF; clear a; intro a hF
                  obtain ⟨ht, hf⟩ := h
                  rcases bool_cases (decide ((IntKind.i64.wrap (t213 + (t214.len : Int))) > (a0.len : Int))) with hg215 | hg215
                  · replace h := ht hg215; clear ht hf
                    refine GL.skip (i := 15) hF hS rfl rfl (by kernel_rfl) rfl rfl rfl (lkb rfl hg215) (.inl rfl) rfl rfl ?_; clear hF; clear a; intro a hF
                    refine GL.skip (i := 16) hF hS rfl rfl (by kernel_rfl) rfl rfl rfl (lkb rfl hg215) (.inl rfl) rfl rfl ?_; clear hF; clear a; intro a hF
                    refine GL.skip (i := 17) hF hS rfl rfl (by kernel_rfl) rfl rfl rfl (lkb rfl hg215) (.inl rfl) rfl rfl ?_; clear hF; clear a; intro a hF
                    refine GL.skip (i := 18) hF hS rfl rfl (by kernel_rfl) rfl rfl rfl (lkb rfl hg215) (.inl rfl) rfl rfl ?_; clear hF; clear a; intro a hF
                    refine GL.skip (i := 19) hF hS rfl rfl (by kernel_rfl) rfl rfl rfl (lkb rfl hg215) (.inl rfl) rfl rfl ?_; clear hF; clear a; intro a hF
                    refine GL.skip (i := 20) hF hS rfl rfl (by kernel_rfl) rfl rfl rfl (lkb rfl hg215) (.inl rfl) rfl rfl ?_; clear hF; clear a; intro a hF
                    refine GL.skip (i := 21) hF hS rfl rfl (by kernel_rfl) rfl rfl rfl (lkb rfl hg215) (.inl rfl) rfl rfl ?_; clear hF; clear a; intro a hF
                    refine GL.skip (i := 22) hF hS rfl rfl (by kernel_rfl) rfl rfl rfl (lkb rfl hg215) (.inl rfl) rfl rfl ?_; clear hF; clear a; intro a hF
                    refine GL.skip (i := 23) hF hS rfl rfl (by kernel_rfl) rfl rfl rfl (lkb rfl hg215) (.inl rfl) rfl rfl ?_; clear hF; clear a; intro a hF
                    refine GL.skip (i := 24) hF hS rfl rfl (by kernel_rfl) rfl rfl rfl (lkb rfl hg215) (.inl rfl) rfl rfl ?_; clear hF; clear a; intro a hF
                    refine GL.skip (i := 25) hF hS rfl rfl (by kernel_rfl) rfl rfl rfl (lkb rfl hg215) (.inl rfl) rfl rfl ?_; clear hF; clear a; intro a hF
                    refine GL.skip (i := 26) hF hS rfl rfl (by kernel_rfl) rfl rfl rfl (lkb rfl hg215) (.inl rfl) rfl rfl ?_; clear hF; clear a; intro a hF
                    refine GL.skip (i := 27) hF hS rfl rfl (by kernel_rfl) rfl rfl rfl (lkb rfl hg215) (.inl rfl) rfl rfl ?_; clear hF; clear a; intro a hF
                    refine GL.skip (i := 28) hF hS rfl rfl (by kernel_rfl) rfl rfl rfl (lkb rfl hg215) (.inl rfl) rfl rfl ?_; clear hF; clear a; intro a hF
                    refine GL.skip (i := 29) hF hS rfl rfl (by kernel_rfl) rfl rfl rfl (lkb rfl hg215) (.inl rfl) rfl rfl ?_; clear hF; clear a; intro a hF
                    refine GL.val (v := .bool true) (i := 30) hF hS rfl rfl (by kernel_rfl) rfl rfl rfl rfl (fun x => r_pick hF rfl rfl rfl rfl (fun _ => rfl) (fun e => absurd (hg215.symm.trans e) (by decide))) ?_; clear hF; clear a; intro a hF
                    refine GL.val (v := .bool true) (i := 31) hF hS rfl rfl (by kernel_rfl) rfl rfl rfl rfl (fun x => r_move hF rfl rfl) ?_; clear hF; clear a; intro a hF
                    refine GL.skip (i := 32) hF hS rfl rfl (by kernel_rfl) rfl rfl rfl rfl (.inl rfl) rfl rfl ?_; clear hF; clear a; intro a hF
                    refine GL.skip (i := 33) hF hS rfl rfl (by kernel_rfl) rfl rfl rfl rfl (.inl rfl) rfl rfl ?_; clear hF; clear a; intro a hF
                    refine GL.skip (i := 34) hF hS rfl rfl (by kernel_rfl) rfl rfl rfl rfl (.inl rfl) rfl rfl ?_; clear hF; clear a; intro a hF
                    refine GL.skip (i := 35) hF hS rfl rfl (by kernel_rfl) rfl rfl rfl rfl (.inr rfl) rfl rfl ?_; clear hF; clear a; intro a hF
                    refine GL.skip (i := 36) hF hS rfl rfl (by kernel_rfl) rfl rfl rfl rfl (.inr rfl) rfl rfl ?_; clear hF; clear a; intro a hF
                    refine GL.skip (i := 37) hF hS rfl rfl (by kernel_rfl) rfl rfl rfl rfl (.inr rfl) rfl rfl ?_; clear hF; clear a; intro a hF
                    refine GL.skip (i := 38) hF hS rfl rfl (by kernel_rfl) rfl rfl rfl rfl (.inr rfl) rfl rfl ?_; clear hF; clear a; intro a hF
                    refine GL.skip (i := 39) hF hS rfl rfl (by kernel_rfl) rfl rfl rfl rfl (.inr rfl) rfl rfl ?_; clear hF; clear a; intro a hF
                    refine GL.skip (i := 40) hF hS rfl rfl (by kernel_rfl) rfl rfl rfl rfl (.inr rfl) rfl rfl ?_; clear hF; clear a; intro a hF
                    refine GL.skip (i := 41) hF hS rfl rfl (by kernel_rfl) rfl rfl rfl rfl (.inr rfl) rfl rfl ?_; clear hF; clear a; intro a hF
                    refine GL.skip (i := 42) hF hS rfl rfl (by kernel_rfl) rfl rfl rfl rfl (.inr rfl) rfl rfl ?_; clear hF; clear a; intro a hF
                    refine GL.skip (i := 43) hF hS rfl rfl (by kernel_rfl) rfl rfl rfl rfl (.inr rfl) rfl rfl ?_; clear hF; clear a; intro a hF
                    refine GL.skip (i := 44) hF hS rfl rfl (by kernel_rfl) rfl rfl rfl rfl (.inl rfl) rfl rfl ?_; clear hF; clear a; intro a hF
                    refine GL.val (v := .bool true) (i := 45) hF hS rfl rfl (by kernel_rfl) rfl rfl rfl rfl (fun x => r_pick hF rfl rfl rfl rfl (fun _ => rfl) (fun e => absurd e (by decide))) ?_; clear hF; clear a; intro a hF
                    refine GL.done (by kernel_rfl) ?_
                    exact jn208 true _ _ (hF.sub rfl) h
                  · replace h := hf hg215; clear ht hf
                    refine GL.gval (v := .pointer (some (p101.add 1))) (i := 15) hF hS rfl rfl (by kernel_rfl) rfl rfl rfl (lkb rfl hg215) rfl rfl (fun x => r_fieldAddr hF rfl rfl Try.runUnderlying30 rfl Try.sizeOf22 rfl) ?_; clear hF; clear a; intro a hF
                    obtain ⟨t216, hct216, h⟩ := h
                    refine GL.gread (v := t216.v) (i := 16) hF (fun x => World.cell? x (p101.add 1) = some (t216.v)) hS rfl rfl (by kernel_rfl) rfl rfl rfl (lkb rfl hg215) rfl rfl hct216 (fun x hx => r_load hF rfl rfl Try.isAgg22 hx) ?_; clear hF; clear a; intro a hF
                    obtain ⟨t217, hct217, h⟩ := h
                    refine GL.gread (v := .string t217) (i := 17) hF (fun x => rn Try.prog (convert 22 9 t216.v) (.string t217) x x) hS rfl rfl (by kernel_rfl) rfl rfl rfl (lkb rfl hg215) rfl rfl hct217 (fun x hx => r_conv hF rfl rfl hx) ?_; clear hF; clear a; intro a hF
                    refine GL.gval (v := a0.v) (i := 18) hF hS rfl rfl (by kernel_rfl) rfl rfl rfl (lkb rfl hg215) rfl rfl (fun x => r_move hF rfl rfl) ?_; clear hF; clear a; intro a hF
                    refine GL.gval (v := .pointer (some p101)) (i := 19) hF hS rfl rfl (by kernel_rfl) rfl rfl rfl (lkb rfl hg215) rfl rfl (fun x => r_fieldAddr0 hF rfl rfl Try.runUnderlying30 rfl Try.sizeOf3 rfl) ?_; clear hF; clear a; intro a hF
                    obtain ⟨t218, hct218, h⟩ := h
                    refine GL.gread (v := .int .i64 t218) (i := 20) hF (fun x => World.cell? x p101 = some (.int .i64 t218)) hS rfl rfl (by kernel_rfl) rfl rfl rfl (lkb rfl hg215) rfl rfl hct218 (fun x hx => r_load hF rfl rfl Try.isAgg3 hx) ?_; clear hF; clear a; intro a hF
                    refine GL.gval (v := .pointer (some p101)) (i := 21) hF hS rfl rfl (by kernel_rfl) rfl rfl rfl (lkb rfl hg215) rfl rfl (fun x => r_fieldAddr0 hF rfl rfl Try.runUnderlying30 rfl Try.sizeOf3 rfl) ?_; clear hF; clear a; intro a hF
                    obtain ⟨t219, hct219, h⟩ := h
                    refine GL.gread (v := .int .i64 t219) (i := 22) hF (fun x => World.cell? x p101 = some (.int .i64 t219)) hS rfl rfl (by kernel_rfl) rfl rfl rfl (lkb rfl hg215) rfl rfl hct219 (fun x hx => r_load hF rfl rfl Try.isAgg3 hx) ?_; clear hF; clear a; intro a hF
                    refine GL.gval (v := .pointer (some (p101.add 1))) (i := 23) hF hS rfl rfl (by kernel_rfl) rfl rfl rfl (lkb rfl hg215) rfl rfl (fun x => r_fieldAddr hF rfl rfl Try.runUnderlying30 rfl Try.sizeOf22 rfl) ?_; clear hF; clear a; intro a hF
                    obtain ⟨t220, hct220, h⟩ := h
                    refine GL.gread (v := t220.v) (i := 24) hF (fun x => World.cell? x (p101.add 1) = some (t220.v)) hS rfl rfl (by kernel_rfl) rfl rfl rfl (lkb rfl hg215) rfl rfl hct220 (fun x hx => r_load hF rfl rfl Try.isAgg22 hx) ?_; clear hF; clear a; intro a hF
                    refine GL.gval (v := .int .i64 (t220.len : Int)) (i := 25) hF hS rfl rfl (by kernel_rfl) rfl rfl rfl (lkb rfl hg215) rfl rfl (fun x => r_len_slice hF rfl rfl Try.runUnderlying22) ?_; clear hF; clear a; intro a hF
                    refine GL.gval (v := .int .i64 (IntKind.i64.wrap (t219 + (t220.len : Int)))) (i := 26) hF hS rfl rfl (by kernel_rfl) rfl rfl rfl (lkb rfl hg215) rfl rfl (fun x => r_add hF rfl rfl rfl) ?_; clear hF; clear a; intro a hF
                    obtain ⟨hs221, hs222, hs223, h⟩ := h
                    refine GL.gval (v := (a0.sub 1 t218.toNat ((IntKind.i64.wrap (t219 + (t220.len : Int))).toNat) a0.cap).v) (i := 27) hF hS rfl rfl (by kernel_rfl) rfl rfl rfl (lkb rfl hg215) rfl rfl (fun x => r_slice (lo' := some (.int .i64 t218)) (hi' := some (.int .i64 (IntKind.i64.wrap (t219 + (t220.len : Int))))) (mx' := none) hF rfl rfl rfl rfl rfl (slc_at Try.runUnderlying22 Try.sizeOf5 (bounds11 hs221 hs222 hs223))) ?_; clear hF; clear a; intro a hF
                    obtain ⟨t224, hct224, h⟩ := h
                    refine GL.gread (v := .string t224) (i := 28) hF (fun x => rn Try.prog (convert 22 9 (a0.sub 1 t218.toNat ((IntKind.i64.wrap (t219 + (t220.len : Int))).toNat) a0.cap).v) (.string t224) x x) hS rfl rfl (by kernel_rfl) rfl rfl rfl (lkb rfl hg215) rfl rfl hct224 (fun x hx => r_conv hF rfl rfl hx) ?_; clear hF; clear a; intro a hF
                    refine GL.gval (v := .bool (!(t217.toList == t224.toList))) (i := 29) hF hS rfl rfl (by kernel_rfl) rfl rfl rfl (lkb rfl hg215) rfl rfl (fun x => r_strne hF rfl rfl rfl) ?_; clear hF; clear a; intro a hF
                    refine GL.val (v := .bool (!(t217.toList == t224.toList))) (i := 30) hF hS rfl rfl (by kernel_rfl) rfl rfl rfl rfl (fun x => r_pick hF rfl rfl rfl rfl (fun e => absurd (hg215.symm.trans e) (by decide)) (fun _ => rfl)) ?_; clear hF; clear a; intro a hF
                    refine GL.val (v := .bool (!(t217.toList == t224.toList))) (i := 31) hF hS rfl rfl (by kernel_rfl) rfl rfl rfl rfl (fun x => r_move hF rfl rfl) ?_; clear hF; clear a; intro a hF
                    obtain ⟨ht, hf⟩ := h
                    rcases bool_cases (!(t217.toList == t224.toList)) with hg225 | hg225
                    · replace h := ht hg225; clear ht hf
                      refine GL.skip (i := 32) hF hS rfl rfl (by kernel_rfl) rfl rfl rfl (lkb rfl hg225) (.inl rfl) rfl rfl ?_; clear hF; clear a; intro a hF
                      refine GL.skip (i := 33) hF hS rfl rfl (by kernel_rfl) rfl rfl rfl (lkb rfl hg225) (.inl rfl) rfl rfl ?_; clear hF; clear a; intro a hF
                      refine GL.skip (i := 34) hF hS rfl rfl (by kernel_rfl) rfl rfl rfl (lkb rfl hg225) (.inl rfl) rfl rfl ?_; clear hF; clear a; intro a hF
                      refine GL.skip (i := 35) hF hS rfl rfl (by kernel_rfl) rfl rfl rfl rfl (.inr rfl) rfl rfl ?_; clear hF; clear a; intro a hF
                      refine GL.skip (i := 36) hF hS rfl rfl (by kernel_rfl) rfl rfl rfl rfl (.inr rfl) rfl rfl ?_; clear hF; clear a; intro a hF
                      refine GL.skip (i := 37) hF hS rfl rfl (by kernel_rfl) rfl rfl rfl rfl (.inr rfl) rfl rfl ?_; clear hF; clear a; intro a hF
                      refine GL.skip (i := 38) hF hS rfl rfl (by kernel_rfl) rfl rfl rfl rfl (.inr rfl) rfl rfl ?_; clear hF; clear a; intro a hF
                      refine GL.skip (i := 39) hF hS rfl rfl (by kernel_rfl) rfl rfl rfl rfl (.inr rfl) rfl rfl ?_; clear hF; clear a; intro a hF
                      refine GL.skip (i := 40) hF hS rfl rfl (by kernel_rfl) rfl rfl rfl rfl (.inr rfl) rfl rfl ?_; clear hF; clear a; intro a hF
                      refine GL.skip (i := 41) hF hS rfl rfl (by kernel_rfl) rfl rfl rfl rfl (.inr rfl) rfl rfl ?_; clear hF; clear a; intro a hF
                      refine GL.skip (i := 42) hF hS rfl rfl (by kernel_rfl) rfl rfl rfl rfl (.inr rfl) rfl rfl ?_; clear hF; clear a; intro a hF
                      refine GL.skip (i := 43) hF hS rfl rfl (by kernel_rfl) rfl rfl rfl rfl (.inr rfl) rfl rfl ?_; clear hF; clear a; intro a hF
                      refine GL.skip (i := 44) hF hS rfl rfl (by kernel_rfl) rfl rfl rfl (lkb rfl hg225) (.inl rfl) rfl rfl ?_; clear hF; clear a; intro a hF
                      refine GL.val (v := .bool true) (i := 45) hF hS rfl rfl (by kernel_rfl) rfl rfl rfl rfl (fun x => r_pick hF rfl rfl rfl rfl (fun _ => rfl) (fun e => absurd (hg225.symm.trans e) (by decide))) ?_; clear hF; clear a; intro a hF
                      refine GL.done (by kernel_rfl) ?_
                      exact jn208 true _ _ (hF.sub rfl) h
                    · replace h := hf hg225; clear ht hf
                      refine GL.gval (v := .pointer (some (p101.add 2))) (i := 32) hF hS rfl rfl (by kernel_rfl) rfl rfl rfl (lkb rfl hg225) rfl rfl (fun x => r_fieldAddr hF rfl rfl Try.runUnderlying30 rfl Try.sizeOf4 rfl) ?_; clear hF; clear a; intro a hF
                      obtain ⟨t226, hct226, h⟩ := h
                      refine GL.gread (v := .bool t226) (i := 33) hF (fun x => World.cell? x (p101.add 2) = some (.bool t226)) hS rfl rfl (by kernel_rfl) rfl rfl rfl (lkb rfl hg225) rfl rfl hct226 (fun x hx => r_load hF rfl rfl Try.isAgg4 hx) ?_; clear hF; clear a; intro a hF
                      refine GL.gval (v := .bool t226) (i := 34) hF hS rfl rfl (by kernel_rfl) rfl rfl rfl (lkb rfl hg225) rfl rfl (fun x => r_move hF rfl rfl) ?_; clear hF; clear a; intro a hF
                      obtain ⟨ht, hf⟩ := h
                      rcases bool_cases t226 with hg227 | hg227
                      · replace h := ht hg227; clear ht hf
                        refine GL.gval (v := .pointer (some p101)) (i := 35) hF hS rfl rfl (by kernel_rfl) rfl rfl rfl (lkb rfl hg227) rfl rfl (fun x => r_fieldAddr0 hF rfl rfl Try.runUnderlying30 rfl Try.sizeOf3 rfl) ?_; clear hF; clear a; intro a hF
                        obtain ⟨t228, hct228, h⟩ := h
                        refine GL.gread (v := .int .i64 t228) (i := 36) hF (fun x => World.cell? x p101 = some (.int .i64 t228)) hS rfl rfl (by kernel_rfl) rfl rfl rfl (lkb rfl hg227) rfl rfl hct228 (fun x hx => r_load hF rfl rfl Try.isAgg3 hx) ?_; clear hF; clear a; intro a hF
                        refine GL.gval (v := .pointer (some (p101.add 1))) (i := 37) hF hS rfl rfl (by kernel_rfl) rfl rfl rfl (lkb rfl hg227) rfl rfl (fun x => r_fieldAddr hF rfl rfl Try.runUnderlying30 rfl Try.sizeOf22 rfl) ?_; clear hF; clear a; intro a hF
                        obtain ⟨t229, hct229, h⟩ := h
                        refine GL.gread (v := t229.v) (i := 38) hF (fun x => World.cell? x (p101.add 1) = some (t229.v)) hS rfl rfl (by kernel_rfl) rfl rfl rfl (lkb rfl hg227) rfl rfl hct229 (fun x hx => r_load hF rfl rfl Try.isAgg22 hx) ?_; clear hF; clear a; intro a hF
                        refine GL.gval (v := .int .i64 (t229.len : Int)) (i := 39) hF hS rfl rfl (by kernel_rfl) rfl rfl rfl (lkb rfl hg227) rfl rfl (fun x => r_len_slice hF rfl rfl Try.runUnderlying22) ?_; clear hF; clear a; intro a hF
                        refine GL.gval (v := .int .i64 (IntKind.i64.wrap (t228 + (t229.len : Int)))) (i := 40) hF hS rfl rfl (by kernel_rfl) rfl rfl rfl (lkb rfl hg227) rfl rfl (fun x => r_add hF rfl rfl rfl) ?_; clear hF; clear a; intro a hF
                        refine GL.gval (v := a0.v) (i := 41) hF hS rfl rfl (by kernel_rfl) rfl rfl rfl (lkb rfl hg227) rfl rfl (fun x => r_move hF rfl rfl) ?_; clear hF; clear a; intro a hF
                        refine GL.gval (v := .int .i64 (a0.len : Int)) (i := 42) hF hS rfl rfl (by kernel_rfl) rfl rfl rfl (lkb rfl hg227) rfl rfl (fun x => r_len_slice hF rfl rfl Try.runUnderlying22) ?_; clear hF; clear a; intro a hF
                        refine GL.gval (v := .bool ((IntKind.i64.wrap (t228 + (t229.len : Int))) != (a0.len : Int))) (i := 43) hF hS rfl rfl (by kernel_rfl) rfl rfl rfl (lkb rfl hg227) rfl rfl (fun x => r_neq hF rfl rfl rfl) ?_; clear hF; clear a; intro a hF
                        refine GL.gval (v := .bool ((IntKind.i64.wrap (t228 + (t229.len : Int))) != (a0.len : Int))) (i := 44) hF hS rfl rfl (by kernel_rfl) rfl rfl rfl (lkb rfl hg225) rfl rfl (fun x => r_pick hF rfl rfl rfl rfl (fun _ => rfl) (fun e => absurd (hg227.symm.trans e) (by decide))) ?_; clear hF; clear a; intro a hF
                        refine GL.val (v := .bool ((IntKind.i64.wrap (t228 + (t229.len : Int))) != (a0.len : Int))) (i := 45) hF hS rfl rfl (by kernel_rfl) rfl rfl rfl rfl (fun x => r_pick hF rfl rfl rfl rfl (fun e => absurd (hg225.symm.trans e) (by decide)) (fun _ => rfl)) ?_; clear hF; clear a; intro a hF
                        refine GL.done (by kernel_rfl) ?_
                        exact jn208 ((IntKind.i64.wrap (t228 + (t229.len : Int))) != (a0.len : Int)) _ _ (hF.sub rfl) h
                      · replace h := hf hg227; clear ht hf
                        refine GL.skip (i := 35) hF hS rfl rfl (by kernel_rfl) rfl rfl rfl (lkb rfl hg227) (.inl rfl) rfl rfl ?_; clear hF; clear a; intro a hF
                        refine GL.skip (i := 36) hF hS rfl rfl (by kernel_rfl) rfl rfl rfl (lkb rfl hg227) (.inl rfl) rfl rfl ?_; clear hF; clear a; intro a hF
                        refine GL.skip (i := 37) hF hS rfl rfl (by kernel_rfl) rfl rfl rfl (lkb rfl hg227) (.inl rfl) rfl rfl ?_; clear hF; clear a; intro a hF
                        refine GL.skip (i := 38) hF hS rfl rfl (by kernel_rfl) rfl rfl rfl (lkb rfl hg227) (.inl rfl) rfl rfl ?_; clear hF; clear a; intro a hF
                        refine GL.skip (i := 39) hF hS rfl rfl (by kernel_rfl) rfl rfl rfl (lkb rfl hg227) (.inl rfl) rfl rfl ?_; clear hF; clear a; intro a hF
                        refine GL.skip (i := 40) hF hS rfl rfl (by kernel_rfl) rfl rfl rfl (lkb rfl hg227) (.inl rfl) rfl rfl ?_; clear hF; clear a; intro a hF
                        refine GL.skip (i := 41) hF hS rfl rfl (by kernel_rfl) rfl rfl rfl (lkb rfl hg227) (.inl rfl) rfl rfl ?_; clear hF; clear a; intro a hF
                        refine GL.skip (i := 42) hF hS rfl rfl (by kernel_rfl) rfl rfl rfl (lkb rfl hg227) (.inl rfl) rfl rfl ?_; clear hF; clear a; intro a hF
                        refine GL.skip (i := 43) hF hS rfl rfl (by kernel_rfl) rfl rfl rfl (lkb rfl hg227) (.inl rfl) rfl rfl ?_; clear hF; clear a; intro a hF
                        refine GL.gval (v := .bool false) (i := 44) hF hS rfl rfl (by kernel_rfl) rfl rfl rfl (lkb rfl hg225) rfl rfl (fun x => r_pick hF rfl rfl rfl rfl (fun e => absurd (hg227.symm.trans e) (by decide)) (fun _ => rfl)) ?_; clear hF; clear a; intro a hF
                        refine GL.val (v := .bool false) (i := 45) hF hS rfl rfl (by kernel_rfl) rfl rfl rfl rfl (fun x => r_pick hF rfl rfl rfl rfl (fun e => absurd (hg225.symm.trans e) (by decide)) (fun _ => rfl)) ?_; clear hF; clear a; intro a hF
                        refine GL.done (by kernel_rfl) ?_
                        exact jn208 false _ _ (hF.sub rfl) h
              clear hJ
              refine seq_region fun K230 hK231 => ?_
              refine RL.val  hF rfl rfl rfl (r_move hF rfl rfl) ?_; clear hF; clear a; intro a hF
              refine RL.val  hF rfl rfl rfl (r_not hF rfl rfl) ?_; clear hF; clear a; intro a hF
              refine RL.nil (hK231 _ _ ?_)
              clear hK231 K230
              obtain ⟨ht, hf⟩ := h
              refine cond_ hF rfl (fun hc => ?_) (fun hc => ?_)
              · replace h := ht hc; clear ht hf
                refine seq_region fun K232 hK233 => ?_
                refine RL.val  hF rfl rfl rfl (r_assign hF rfl rfl) ?_; clear hF; clear a; intro a hF
                refine RL.nil (hK233 _ _ ?_)
                clear hK233 K232
                refine wp_ret ?_
                exact ret_of hF (res1 hF rfl rfl) ⟨_, rfl, h⟩
              · replace h := hf hc; clear ht hf
                refine wp_skip ?_
                exact jn109 () _ _ (hF.sub rfl) h
            clear hJ
            refine seq_region fun K234 hK235 => ?_
            refine RL.val  hF rfl rfl rfl (r_move hF rfl rfl) ?_; clear hF; clear a; intro a hF
            refine RL.val  hF rfl rfl rfl (r_move hF rfl rfl) ?_; clear hF; clear a; intro a hF
            refine RL.val  hF rfl rfl rfl (r_len_slice hF rfl rfl Try.runUnderlying57) ?_; clear hF; clear a; intro a hF
            refine RL.val  hF rfl rfl rfl (r_lss hF rfl rfl rfl) ?_; clear hF; clear a; intro a hF
            refine RL.nil (hK235 _ _ ?_)
            clear hK235 K234
            obtain ⟨ht, hf⟩ := h
            refine cond_ hF rfl (fun hc => ?_) (fun hc => ?_)
            · replace h := ht hc; clear ht hf
              refine seq_region fun K236 hK237 => ?_
              refine RL.val  hF rfl rfl rfl (r_move hF rfl rfl) ?_; clear hF; clear a; intro a hF
              refine RL.val  hF rfl rfl rfl (r_move hF rfl rfl) ?_; clear hF; clear a; intro a hF
              obtain ⟨b239, p238, hb_, h0_, h1_, hp_, h⟩ := h
              refine RL.val (v := .pointer (some p238)) (w' := w88) hF rfl rfl rfl (by rw [hp_]; exact r_indexAddr hF rfl (lks rfl hb_) rfl Try.runUnderlying57 Try.sizeOf62 h0_ h1_) ?_; clear hF; clear a; intro a hF
              obtain ⟨t240, hct240, h⟩ := h
              refine RL.val  hF rfl rfl rfl (r_loadA hF rfl rfl Try.isAgg62 Try.sizeOf62 hct240) ?_; clear hF; clear a; intro a hF
              obtain ⟨w241, hs1_, hs2_, hs3_, hs4_, h⟩ := h
              refine RL.unit (w' := w241) hF rfl rfl (by rw [hs4_]; exact r_storeA hF rfl rfl rfl Try.sizeOf62 hs1_ hs2_ hs3_) ?_; clear hF; clear a; intro a hF
              refine RL.nil (hK237 _ _ ?_)
              clear hK237 K236
              refine end_region fun K242 hK243 => ?_
              refine RL.val  hF rfl rfl rfl (r_fieldAddr0 hF rfl rfl Try.runUnderlying62 rfl Try.sizeOf3 rfl) ?_; clear hF; clear a; intro a hF
              obtain ⟨t244, hct244, h⟩ := h
              refine RL.val  hF rfl rfl rfl (r_load hF rfl rfl Try.isAgg3 hct244) ?_; clear hF; clear a; intro a hF
              refine RL.val  hF rfl rfl rfl (r_and hF rfl rfl rfl) ?_; clear hF; clear a; intro a hF
              refine RL.val  hF rfl rfl rfl (r_add hF rfl rfl rfl) ?_; clear hF; clear a; intro a hF
              refine RL.val  hF rfl rfl rfl (r_fieldAddr0 hF rfl rfl Try.runUnderlying62 rfl Try.sizeOf3 rfl) ?_; clear hF; clear a; intro a hF
              obtain ⟨u_, w245, hs1_, hs2_, hs3_, h⟩ := h
              refine RL.unit (w' := w245) hF rfl rfl (by rw [hs3_]; exact r_store hF rfl rfl rfl rfl Try.sizeOf3 hs1_ hs2_) ?_; clear hF; clear a; intro a hF
              refine RL.nil (hK243 _ _ ?_)
              clear hK243 K242
              exact jn94 () _ _ (hF.sub rfl) h
            · replace h := hf hc; clear ht hf
              refine wp_skip ?_
              exact jn94 () _ _ (hF.sub rfl) h
          clear hJ
          refine seq_region fun K246 hK247 => ?_
          refine RL.val  hF rfl rfl rfl (r_move hF rfl rfl) ?_; clear hF; clear a; intro a hF
          refine RL.val  hF rfl rfl rfl (r_move hF rfl rfl) ?_; clear hF; clear a; intro a hF
          refine RL.val  hF rfl rfl rfl (r_len_slice hF rfl rfl Try.runUnderlying57) ?_; clear hF; clear a; intro a hF
          refine RL.val  hF rfl rfl rfl (r_move hF rfl rfl) ?_; clear hF; clear a; intro a hF
          refine RL.val  hF rfl rfl rfl (r_len_slice hF rfl rfl Try.runUnderlying22) ?_; clear hF; clear a; intro a hF
          refine RL.val  hF rfl rfl rfl (r_add hF rfl rfl rfl) ?_; clear hF; clear a; intro a hF
          refine RL.val  hF rfl rfl rfl (r_add hF rfl rfl rfl) ?_; clear hF; clear a; intro a hF
          refine RL.val  hF rfl rfl rfl (r_gtr hF rfl rfl rfl) ?_; clear hF; clear a; intro a hF
          refine RL.nil (hK247 _ _ ?_)
          clear hK247 K246
          obtain ⟨ht, hf⟩ := h
          refine cond_ hF rfl (fun hc => ?_) (fun hc => ?_)
          · replace h := ht hc; clear ht hf
            refine seq_region fun K248 hK249 => ?_
            refine RL.val  hF rfl rfl rfl (r_assign hF rfl rfl) ?_; clear hF; clear a; intro a hF
            refine RL.nil (hK249 _ _ ?_)
            clear hK249 K248
            refine wp_ret ?_
            exact ret_of hF (res1 hF rfl rfl) ⟨_, rfl, h⟩
          · replace h := hf hc; clear ht hf
            refine wp_skip ?_
            exact jn83 () _ _ (hF.sub rfl) h
        clear hJ
        refine seq_region fun K250 hK251 => ?_
        refine RL.val  hF rfl rfl rfl (r_move hF rfl rfl) ?_; clear hF; clear a; intro a hF
        refine RL.call hF rfl rfl rfl (r_call (xs := [.pointer r12]) hF rfl rfl Try.call11) (CallsV.mono h ?_)
        clear h; rintro _ w252 ⟨r253, rfl, h⟩; clear hF; clear a; intro a hF
        refine RL.val  hF rfl rfl rfl (r_not hF rfl rfl) ?_; clear hF; clear a; intro a hF
        refine RL.nil (hK251 _ _ ?_)
        clear hK251 K250
        obtain ⟨ht, hf⟩ := h
        refine cond_ hF rfl (fun hc => ?_) (fun hc => ?_)
        · replace h := ht hc; clear ht hf
          refine wp_skip ?_
          exact jn69 () _ _ (hF.sub rfl) h
        · replace h := hf hc; clear ht hf
          refine wp_exit ?_
          exact jn43 s60.1 _ _ (hF.sub rfl) h
      clear hJ
      refine seq_region fun K254 hK255 => ?_
      obtain ⟨J258, hJ, h⟩ := jn_open h
      have jn259 : ∀ (v256 : Bool) (w257 : World) a, Fr 215 a [(0, a0.v), (1, a1.v), (5, .pointer r12), (7, .pointer r17), (66, .bool v256)] → J258 v256 w257 → K254 a w257 := by
        clear hF
        intro v256 w257 a hF h; replace h := hJ _ _ h; refine hK255 _ _ ?_; clear hJ hK255 K254
        obtain ⟨ht, hf⟩ := h
        refine cond_ hF rfl (fun hc => ?_) (fun hc => ?_)
        · replace h := ht hc; clear ht hf
          refine seq_region fun K260 hK261 => ?_
          refine RL.val  hF rfl rfl rfl (r_assign hF rfl rfl) ?_; clear hF; clear a; intro a hF
          refine RL.nil (hK261 _ _ ?_)
          clear hK261 K260
          refine wp_ret ?_
          exact ret_of hF (res1 hF rfl rfl) ⟨_, rfl, h⟩
        · replace h := hf hc; clear ht hf
          refine wp_skip ?_
          exact jn35 () _ _ (hF.sub rfl) h
      clear hJ hK255
      refine RL.val  hF rfl rfl rfl (r_move hF rfl rfl) ?_; clear hF; clear a; intro a hF
      refine RL.val  hF rfl rfl rfl (r_move hF rfl rfl) ?_; clear hF; clear a; intro a hF
      refine RL.val  hF rfl rfl rfl (r_len_slice hF rfl rfl Try.runUnderlying22) ?_; clear hF; clear a; intro a hF
      refine RL.val  hF rfl rfl rfl (r_neq hF rfl rfl rfl) ?_; clear hF; clear a; intro a hF
      refine RL.val  hF rfl rfl rfl (r_move hF rfl rfl) ?_; clear hF; clear a; intro a hF
      obtain ⟨ht, hf⟩ := h
      rcases bool_cases (r28 != (a0.len : Int)) with hg262 | hg262
      · replace h := ht hg262; clear ht hf
        refine RL.skip hF rfl rfl (lkb rfl hg262) (.inl rfl) rfl rfl ?_; clear hF; clear a; intro a hF
        refine RL.skip hF rfl rfl (lkb rfl hg262) (.inl rfl) rfl rfl ?_; clear hF; clear a; intro a hF
        refine RL.val (v := .bool true) (w' := w27) hF rfl rfl rfl (r_pick hF rfl rfl rfl rfl (fun _ => rfl) (fun e => absurd (hg262.symm.trans e) (by decide))) ?_; clear hF; clear a; intro a hF
        refine RL.val  hF rfl rfl rfl (r_move hF rfl rfl) ?_; clear hF; clear a; intro a hF
        refine RL.skip hF rfl rfl rfl (.inl rfl) rfl rfl ?_; clear hF; clear a; intro a hF
        refine RL.skip hF rfl rfl rfl (.inl rfl) rfl rfl ?_; clear hF; clear a; intro a hF
        refine RL.skip hF rfl rfl rfl (.inl rfl) rfl rfl ?_; clear hF; clear a; intro a hF
        refine RL.val (v := .bool true) (w' := w27) hF rfl rfl rfl (r_pick hF rfl rfl rfl rfl (fun _ => rfl) (fun e => absurd e (by decide))) ?_; clear hF; clear a; intro a hF
        refine RL.nil ?_
        exact jn259 true _ _ (hF.sub rfl) h
      · replace h := hf hg262; clear ht hf
        refine RL.gval  hF rfl rfl (lkb rfl hg262) rfl rfl (r_move hF rfl rfl) ?_; clear hF; clear a; intro a hF
        refine RL.gval  hF rfl rfl (lkb rfl hg262) rfl rfl (r_neq hF rfl rfl rfl) ?_; clear hF; clear a; intro a hF
        refine RL.val (v := .bool (r29 != 0)) (w' := w27) hF rfl rfl rfl (r_pick hF rfl rfl rfl rfl (fun e => absurd (hg262.symm.trans e) (by decide)) (fun _ => rfl)) ?_; clear hF; clear a; intro a hF
        refine RL.val  hF rfl rfl rfl (r_move hF rfl rfl) ?_; clear hF; clear a; intro a hF
        obtain ⟨ht, hf⟩ := h
        rcases bool_cases (r29 != 0) with hg263 | hg263
        · replace h := ht hg263; clear ht hf
          refine RL.skip hF rfl rfl (lkb rfl hg263) (.inl rfl) rfl rfl ?_; clear hF; clear a; intro a hF
          refine RL.skip hF rfl rfl (lkb rfl hg263) (.inl rfl) rfl rfl ?_; clear hF; clear a; intro a hF
          refine RL.skip hF rfl rfl (lkb rfl hg263) (.inl rfl) rfl rfl ?_; clear hF; clear a; intro a hF
          refine RL.val (v := .bool true) (w' := w27) hF rfl rfl rfl (r_pick hF rfl rfl rfl rfl (fun _ => rfl) (fun e => absurd (hg263.symm.trans e) (by decide))) ?_; clear hF; clear a; intro a hF
          refine RL.nil ?_
          exact jn259 true _ _ (hF.sub rfl) h
        · replace h := hf hg263; clear ht hf
          refine RL.gval  hF rfl rfl (lkb rfl hg263) rfl rfl (r_move hF rfl rfl) ?_; clear hF; clear a; intro a hF
          refine RL.gcall hF rfl rfl (lkb rfl hg263) rfl rfl (r_call (xs := [.pointer r12]) hF rfl rfl Try.call15) (CallsV.mono h ?_)
          clear h; rintro _ w264 ⟨r265, rfl, h⟩; clear hF; clear a; intro a hF
          refine RL.gval  hF rfl rfl (lkb rfl hg263) rfl rfl (r_neq hF rfl rfl rfl) ?_; clear hF; clear a; intro a hF
          refine RL.val (v := .bool (r265 != 0)) (w' := w264) hF rfl rfl rfl (r_pick hF rfl rfl rfl rfl (fun e => absurd (hg263.symm.trans e) (by decide)) (fun _ => rfl)) ?_; clear hF; clear a; intro a hF
          refine RL.nil ?_
          exact jn259 (r265 != 0) _ _ (hF.sub rfl) h
    clear hJ
    refine seq_region fun K266 hK267 => ?_
    obtain ⟨J270, hJ, h⟩ := jn_open h
    have jn271 : ∀ (v268 : Bool) (w269 : World) a, Fr 215 a [(0, a0.v), (1, a1.v), (5, .pointer r12), (7, .pointer r17), (47, .bool v268)] → J270 v268 w269 → K266 a w269 := by
      clear hF
      intro v268 w269 a hF h; replace h := hJ _ _ h; refine hK267 _ _ ?_; clear hJ hK267 K266
      obtain ⟨ht, hf⟩ := h
      refine cond_ hF rfl (fun hc => ?_) (fun hc => ?_)
      · replace h := ht hc; clear ht hf
        refine seq_region fun K272 hK273 => ?_
        refine RL.val  hF rfl rfl rfl (r_assign hF rfl rfl) ?_; clear hF; clear a; intro a hF
        refine RL.nil (hK273 _ _ ?_)
        clear hK273 K272
        refine wp_ret ?_
        exact ret_of hF (res1 hF rfl rfl) ⟨_, rfl, h⟩
      · replace h := hf hc; clear ht hf
        refine wp_skip ?_
        exact jn24 () _ _ (hF.sub rfl) h
    clear hJ hK267
    refine RL.val  hF rfl rfl rfl (r_move hF rfl rfl) ?_; clear hF; clear a; intro a hF
    refine RL.val  hF rfl rfl rfl (r_neq hF rfl rfl rfl) ?_; clear hF; clear a; intro a hF
    refine RL.val  hF rfl rfl rfl (r_move hF rfl rfl) ?_; clear hF; clear a; intro a hF
    obtain ⟨ht, hf⟩ := h
    rcases bool_cases (r13 != 0) with hg274 | hg274
    · replace h := ht hg274; clear ht hf
      refine RL.skip hF rfl rfl (lkb rfl hg274) (.inl rfl) rfl rfl ?_; clear hF; clear a; intro a hF
      refine RL.skip hF rfl rfl (lkb rfl hg274) (.inl rfl) rfl rfl ?_; clear hF; clear a; intro a hF
      refine RL.val (v := .bool true) (w' := w16) hF rfl rfl rfl (r_pick hF rfl rfl rfl rfl (fun _ => rfl) (fun e => absurd (hg274.symm.trans e) (by decide))) ?_; clear hF; clear a; intro a hF
      refine RL.val  hF rfl rfl rfl (r_move hF rfl rfl) ?_; clear hF; clear a; intro a hF
      refine RL.skip hF rfl rfl rfl (.inl rfl) rfl rfl ?_; clear hF; clear a; intro a hF
      refine RL.skip hF rfl rfl rfl (.inl rfl) rfl rfl ?_; clear hF; clear a; intro a hF
      refine RL.val (v := .bool true) (w' := w16) hF rfl rfl rfl (r_pick hF rfl rfl rfl rfl (fun _ => rfl) (fun e => absurd e (by decide))) ?_; clear hF; clear a; intro a hF
      refine RL.val  hF rfl rfl rfl (r_move hF rfl rfl) ?_; clear hF; clear a; intro a hF
      refine RL.skip hF rfl rfl rfl (.inl rfl) rfl rfl ?_; clear hF; clear a; intro a hF
      refine RL.skip hF rfl rfl rfl (.inl rfl) rfl rfl ?_; clear hF; clear a; intro a hF
      refine RL.val (v := .bool true) (w' := w16) hF rfl rfl rfl (r_pick hF rfl rfl rfl rfl (fun _ => rfl) (fun e => absurd e (by decide))) ?_; clear hF; clear a; intro a hF
      refine RL.nil ?_
      exact jn271 true _ _ (hF.sub rfl) h
    · replace h := hf hg274; clear ht hf
      refine RL.gval  hF rfl rfl (lkb rfl hg274) rfl rfl (r_move hF rfl rfl) ?_; clear hF; clear a; intro a hF
      refine RL.gval  hF rfl rfl (lkb rfl hg274) rfl rfl (r_neq hF rfl rfl rfl) ?_; clear hF; clear a; intro a hF
      refine RL.val (v := .bool (r18 != 0)) (w' := w16) hF rfl rfl rfl (r_pick hF rfl rfl rfl rfl (fun e => absurd (hg274.symm.trans e) (by decide)) (fun _ => rfl)) ?_; clear hF; clear a; intro a hF
      refine RL.val  hF rfl rfl rfl (r_move hF rfl rfl) ?_; clear hF; clear a; intro a hF
      obtain ⟨ht, hf⟩ := h
      rcases bool_cases (r18 != 0) with hg275 | hg275
      · replace h := ht hg275; clear ht hf
        refine RL.skip hF rfl rfl (lkb rfl hg275) (.inl rfl) rfl rfl ?_; clear hF; clear a; intro a hF
        refine RL.skip hF rfl rfl (lkb rfl hg275) (.inl rfl) rfl rfl ?_; clear hF; clear a; intro a hF
        refine RL.val (v := .bool true) (w' := w16) hF rfl rfl rfl (r_pick hF rfl rfl rfl rfl (fun _ => rfl) (fun e => absurd (hg275.symm.trans e) (by decide))) ?_; clear hF; clear a; intro a hF
        refine RL.val  hF rfl rfl rfl (r_move hF rfl rfl) ?_; clear hF; clear a; intro a hF
        refine RL.skip hF rfl rfl rfl (.inl rfl) rfl rfl ?_; clear hF; clear a; intro a hF
        refine RL.skip hF rfl rfl rfl (.inl rfl) rfl rfl ?_; clear hF; clear a; intro a hF
        refine RL.val (v := .bool true) (w' := w16) hF rfl rfl rfl (r_pick hF rfl rfl rfl rfl (fun _ => rfl) (fun e => absurd e (by decide))) ?_; clear hF; clear a; intro a hF
        refine RL.nil ?_
        exact jn271 true _ _ (hF.sub rfl) h
      · replace h := hf hg275; clear ht hf
        refine RL.gval  hF rfl rfl (lkb rfl hg275) rfl rfl (r_move hF rfl rfl) ?_; clear hF; clear a; intro a hF
        refine RL.gval  hF rfl rfl (lkb rfl hg275) rfl rfl (r_ptrnil hF rfl rfl rfl Try.runUnderlying23) ?_; clear hF; clear a; intro a hF
        refine RL.val (v := .bool r12.isNone) (w' := w16) hF rfl rfl rfl (r_pick hF rfl rfl rfl rfl (fun e => absurd (hg275.symm.trans e) (by decide)) (fun _ => rfl)) ?_; clear hF; clear a; intro a hF
        refine RL.val  hF rfl rfl rfl (r_move hF rfl rfl) ?_; clear hF; clear a; intro a hF
        obtain ⟨ht, hf⟩ := h
        rcases bool_cases r12.isNone with hg276 | hg276
        · replace h := ht hg276; clear ht hf
          refine RL.skip hF rfl rfl (lkb rfl hg276) (.inl rfl) rfl rfl ?_; clear hF; clear a; intro a hF
          refine RL.skip hF rfl rfl (lkb rfl hg276) (.inl rfl) rfl rfl ?_; clear hF; clear a; intro a hF
          refine RL.val (v := .bool true) (w' := w16) hF rfl rfl rfl (r_pick hF rfl rfl rfl rfl (fun _ => rfl) (fun e => absurd (hg276.symm.trans e) (by decide))) ?_; clear hF; clear a; intro a hF
          refine RL.nil ?_
          exact jn271 true _ _ (hF.sub rfl) h
        · replace h := hf hg276; clear ht hf
          refine RL.gval  hF rfl rfl (lkb rfl hg276) rfl rfl (r_move hF rfl rfl) ?_; clear hF; clear a; intro a hF
          refine RL.gval  hF rfl rfl (lkb rfl hg276) rfl rfl (r_ptrnil hF rfl rfl rfl Try.runUnderlying58) ?_; clear hF; clear a; intro a hF
          refine RL.val (v := .bool r17.isNone) (w' := w16) hF rfl rfl rfl (r_pick hF rfl rfl rfl rfl (fun e => absurd (hg276.symm.trans e) (by decide)) (fun _ => rfl)) ?_; clear hF; clear a; intro a hF
          refine RL.nil ?_
          exact jn271 r17.isNone _ _ (hF.sub rfl) h
  clear hJ
  refine seq_region fun K277 hK278 => ?_
  refine RL.val  hF rfl rfl rfl (r_move hF rfl rfl) ?_; clear hF; clear a; intro a hF
  refine RL.val  hF rfl rfl rfl (r_len_slice hF rfl rfl Try.runUnderlying22) ?_; clear hF; clear a; intro a hF
  refine RL.val  hF rfl rfl rfl (r_gtr hF rfl rfl rfl) ?_; clear hF; clear a; intro a hF
  refine RL.nil (hK278 _ _ ?_)
  clear hK278 K277
  obtain ⟨ht, hf⟩ := h
  refine cond_ hF rfl (fun hc => ?_) (fun hc => ?_)
  · replace h := ht hc; clear ht hf
    refine seq_region fun K279 hK280 => ?_
    refine RL.val  hF rfl rfl rfl (r_assign hF rfl rfl) ?_; clear hF; clear a; intro a hF
    refine RL.nil (hK280 _ _ ?_)
    clear hK280 K279
    refine wp_ret ?_
    exact ret_of hF (res1 hF rfl rfl) ⟨_, rfl, h⟩
  · replace h := hf hc; clear ht hf
    refine wp_skip ?_
    exact jn8 () _ _ (hF.sub rfl) h

end Go.Proofs.Ytfgodebgjemljaa
