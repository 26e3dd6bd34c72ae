/-
  Printed by a program: the plain texts of the functions, and their ties to the code.
-/
import Derived.Test.YtkehoneadedmhaaDoorBridgeA
namespace Go.Proofs.YtkehoneadedmhaaDoor
open Go Go.Sh
set_option linter.unusedVariables false
set_option linter.unusedSimpArgs false
set_option maxRecDepth 20000 in
theorem br3 {a0 : Slc} {a1 : Slc} {a2 : Int} {w : World} {K : Bool → World → Prop} (h : sh3 a0 a1 a2 w K) : C3 a0 a1 a2 w K := by
  unfold sh3 at h
  refine enter (n := 203) (l := [(0, a0.v), (1, a1.v), (2, .int .i64 a2)]) 200 Tryd.func3 rfl _ rfl rfl rfl fun a hF => ?_
  refine seq_region fun K1 hK2 => ?_
  refine RL.val  hF rfl rfl rfl (r_assign hF rfl rfl) ?_; clear hF; clear a; intro a hF
  refine RL.nil (hK2 _ _ ?_)
  clear hK2 K1
  refine seq_region fun K3 hK4 => ?_
  refine RL.call hF rfl rfl rfl (r_call (xs := []) hF rfl rfl Tryd.call5) (CallsV.mono h ?_)
  clear h; rintro _ w5 ⟨r6, rfl, h⟩; clear hF; clear a; intro a hF
  refine RL.val  hF rfl rfl rfl (r_assign hF rfl rfl) ?_; clear hF; clear a; intro a hF
  refine RL.nil (hK4 _ _ ?_)
  clear hK4 K3
  refine seq_k fun K7 hK8 => ?_
  obtain ⟨J, hJ, h⟩ := jn_open h
  have jn12 : ∀ (v9 : Unit) (w10 : World) a, Fr 203 a [(0, a0.v), (1, a1.v), (2, .int .i64 a2), (7, .pointer r6)] → J v9 w10 → K7 a w10 := by
    intro v9 w10 a hF h
    replace h := hJ _ _ h
    clear hJ
    refine hK8 _ _ ?_
    refine seq_region fun K13 hK14 => ?_
    refine RL.val  hF rfl rfl rfl (r_move hF rfl rfl) ?_; clear hF; clear a; intro a hF
    refine RL.call hF rfl rfl rfl (r_call (xs := [.pointer r6]) hF rfl rfl Tryd.call6) (CallsV.mono h ?_)
    clear h; rintro _ w15 ⟨r16, rfl, h⟩; clear hF; clear a; intro a hF
    refine RL.val  hF rfl rfl rfl (r_move hF rfl rfl) ?_; clear hF; clear a; intro a hF
    refine RL.call hF rfl rfl rfl (r_call (xs := [.pointer r6]) hF rfl rfl Tryd.call6) (CallsV.mono h ?_)
    clear h; rintro _ w17 ⟨r18, rfl, h⟩; clear hF; clear a; intro a hF
    obtain ⟨p19, w20, hp_, hw_, h⟩ := h
    refine RL.val (v := .pointer (some p19)) (w' := w20) hF rfl rfl rfl (by rw [hp_, hw_]; exact r_alloc rfl Tryd.zeroValue26 rfl) ?_; clear hF; clear a; intro a hF
    obtain ⟨p21, w22, hp_, hw_, h⟩ := h
    refine RL.val (v := .pointer (some p21)) (w' := w22) hF rfl rfl rfl (by rw [hp_, hw_]; exact r_alloc rfl Tryd.zeroValue26 rfl) ?_; clear hF; clear a; intro a hF
    obtain ⟨w23, hs1_, hs2_, hs3_, hs4_, h⟩ := h
    refine RL.unit (w' := w23) hF rfl rfl (by rw [hs4_]; exact r_storeA hF rfl rfl rfl Tryd.sizeOf26 hs1_ hs2_ hs3_) ?_; clear hF; clear a; intro a hF
    obtain ⟨w24, hs1_, hs2_, hs3_, hs4_, h⟩ := h
    refine RL.unit (w' := w24) hF rfl rfl (by rw [hs4_]; exact r_storeA hF rfl rfl rfl Tryd.sizeOf26 hs1_ hs2_ hs3_) ?_; clear hF; clear a; intro a hF
    refine RL.nil (hK14 _ _ ?_)
    clear hK14 K13
    refine seq_region fun K25 hK26 => ?_
    refine RL.val  hF rfl rfl rfl (r_move hF rfl rfl) ?_; clear hF; clear a; intro a hF
    refine RL.val  hF rfl rfl rfl (r_and hF rfl rfl rfl) ?_; clear hF; clear a; intro a hF
    refine RL.val  hF rfl rfl rfl (r_assign hF rfl rfl) ?_; clear hF; clear a; intro a hF
    refine RL.nil (hK26 _ _ ?_)
    clear hK26 K25
    refine seq_region fun K27 hK28 => ?_
    refine RL.val  hF rfl rfl rfl (r_move hF rfl rfl) ?_; clear hF; clear a; intro a hF
    obtain ⟨t29, hct29, h⟩ := h
    refine RL.val  hF rfl rfl rfl (r_loadA hF rfl rfl Tryd.isAgg26 Tryd.sizeOf26 hct29) ?_; clear hF; clear a; intro a hF
    refine RL.val  hF rfl rfl rfl (r_move hF rfl rfl) ?_; clear hF; clear a; intro a hF
    refine RL.val  hF rfl rfl rfl (r_move hF rfl rfl) ?_; clear hF; clear a; intro a hF
    refine RL.val  hF rfl rfl rfl (r_move hF rfl rfl) ?_; clear hF; clear a; intro a hF
    refine RL.call hF rfl rfl rfl (r_call (xs := [.pointer r6, .agg t29, .int .i64 (bitsZ .and .i64 a2 16777215), a1.v, a0.v]) hF rfl rfl Tryd.call7) (CallsV.mono h ?_)
    clear h; rintro _ w30 ⟨r31, r32, rfl, h⟩; clear hF; clear a; intro a hF
    refine RL.val  hF rfl rfl rfl (r_move hF rfl rfl) ?_; clear hF; clear a; intro a hF
    refine RL.val  hF rfl rfl rfl (r_extract hF rfl rfl rfl) ?_; clear hF; clear a; intro a hF
    refine RL.val  hF rfl rfl rfl (r_extract hF rfl rfl rfl) ?_; clear hF; clear a; intro a hF
    refine RL.val  hF rfl rfl rfl (r_assign hF rfl rfl) ?_; clear hF; clear a; intro a hF
    refine RL.val  hF rfl rfl rfl (r_assign hF rfl rfl) ?_; clear hF; clear a; intro a hF
    refine RL.nil (hK28 _ _ ?_)
    clear hK28 K27
    refine seq_k fun K33 hK34 => ?_
    obtain ⟨J, hJ, h⟩ := jn_open h
    have jn38 : ∀ (v35 : Unit) (w36 : World) a, Fr 203 a [(0, a0.v), (1, a1.v), (7, .pointer r6), (8, .pointer (some p19)), (9, .pointer (some p21)), (10, .int .i64 (bitsZ .and .i64 a2 16777215)), (11, r31.v), (12, .int .i64 r32)] → J v35 w36 → K33 a w36 := by
      intro v35 w36 a hF h
      replace h := hJ _ _ h
      clear hJ
      refine hK34 _ _ ?_
      refine seq_region fun K39 hK40 => ?_
      refine RL.val  hF rfl rfl rfl (r_move hF rfl rfl) ?_; clear hF; clear a; intro a hF
      obtain ⟨t41, hct41, h⟩ := h
      refine RL.val  hF rfl rfl rfl (r_loadA hF rfl rfl Tryd.isAgg26 Tryd.sizeOf26 hct41) ?_; clear hF; clear a; intro a hF
      refine RL.val  hF rfl rfl rfl (r_move hF rfl rfl) ?_; clear hF; clear a; intro a hF
      refine RL.val  hF rfl rfl rfl (r_move hF rfl rfl) ?_; clear hF; clear a; intro a hF
      refine RL.val  hF rfl rfl rfl (r_move hF rfl rfl) ?_; clear hF; clear a; intro a hF
      refine RL.call hF rfl rfl rfl (r_call (xs := [.pointer r6, .agg t41, .int .i64 (bitsZ .and .i64 a2 16777215), a1.v, r31.v]) hF rfl rfl Tryd.call8) (CallsV.mono h ?_)
      clear h; rintro _ w42 ⟨r43, r44, rfl, h⟩; clear hF; clear a; intro a hF
      refine RL.val  hF rfl rfl rfl (r_move hF rfl rfl) ?_; clear hF; clear a; intro a hF
      refine RL.val  hF rfl rfl rfl (r_extract hF rfl rfl rfl) ?_; clear hF; clear a; intro a hF
      refine RL.val  hF rfl rfl rfl (r_extract hF rfl rfl rfl) ?_; clear hF; clear a; intro a hF
      refine RL.val  hF rfl rfl rfl (r_assign hF rfl rfl) ?_; clear hF; clear a; intro a hF
      refine RL.val  hF rfl rfl rfl (r_assign hF rfl rfl) ?_; clear hF; clear a; intro a hF
      refine RL.nil (hK40 _ _ ?_)
      clear hK40 K39
      refine seq_region fun K45 hK46 => ?_
      refine RL.val  hF rfl rfl rfl (r_move hF rfl rfl) ?_; clear hF; clear a; intro a hF
      obtain ⟨t47, hct47, h⟩ := h
      refine RL.val  hF rfl rfl rfl (r_loadA hF rfl rfl Tryd.isAgg26 Tryd.sizeOf26 hct47) ?_; clear hF; clear a; intro a hF
      refine RL.val  hF rfl rfl rfl (r_move hF rfl rfl) ?_; clear hF; clear a; intro a hF
      refine RL.val  hF rfl rfl rfl (r_move hF rfl rfl) ?_; clear hF; clear a; intro a hF
      refine RL.val  hF rfl rfl rfl (r_move hF rfl rfl) ?_; clear hF; clear a; intro a hF
      refine RL.call hF rfl rfl rfl (r_call (xs := [.pointer r6, .agg t47, .int .i64 (bitsZ .and .i64 a2 16777215), a1.v, r31.v]) hF rfl rfl Tryd.call8) (CallsV.mono h ?_)
      clear h; rintro _ w48 ⟨r49, r50, rfl, h⟩; clear hF; clear a; intro a hF
      refine RL.val  hF rfl rfl rfl (r_move hF rfl rfl) ?_; clear hF; clear a; intro a hF
      refine RL.val  hF rfl rfl rfl (r_extract hF rfl rfl rfl) ?_; clear hF; clear a; intro a hF
      refine RL.val  hF rfl rfl rfl (r_extract hF rfl rfl rfl) ?_; clear hF; clear a; intro a hF
      refine RL.val  hF rfl rfl rfl (r_assign hF rfl rfl) ?_; clear hF; clear a; intro a hF
      refine RL.val  hF rfl rfl rfl (r_assign hF rfl rfl) ?_; clear hF; clear a; intro a hF
      refine RL.nil (hK46 _ _ ?_)
      clear hK46 K45
      refine seq_region fun K51 hK52 => ?_
      refine RL.val  hF rfl rfl rfl (r_move hF rfl rfl) ?_; clear hF; clear a; intro a hF
      obtain ⟨t53, hct53, h⟩ := h
      refine RL.val  hF rfl rfl rfl (r_loadA hF rfl rfl Tryd.isAgg26 Tryd.sizeOf26 hct53) ?_; clear hF; clear a; intro a hF
      refine RL.val  hF rfl rfl rfl (r_move hF rfl rfl) ?_; clear hF; clear a; intro a hF
      refine RL.val  hF rfl rfl rfl (r_add hF rfl rfl rfl) ?_; clear hF; clear a; intro a hF
      refine RL.val  hF rfl rfl rfl (r_move hF rfl rfl) ?_; clear hF; clear a; intro a hF
      refine RL.val  hF rfl rfl rfl (r_move hF rfl rfl) ?_; clear hF; clear a; intro a hF
      refine RL.call hF rfl rfl rfl (r_call (xs := [.pointer r6, .agg t53, .int .i64 (IntKind.i64.wrap ((bitsZ .and .i64 a2 16777215) + 1)), a1.v, r31.v]) hF rfl rfl Tryd.call8) (CallsV.mono h ?_)
      clear h; rintro _ w54 ⟨r55, r56, rfl, h⟩; clear hF; clear a; intro a hF
      refine RL.val  hF rfl rfl rfl (r_move hF rfl rfl) ?_; clear hF; clear a; intro a hF
      refine RL.val  hF rfl rfl rfl (r_extract hF rfl rfl rfl) ?_; clear hF; clear a; intro a hF
      refine RL.val  hF rfl rfl rfl (r_extract hF rfl rfl rfl) ?_; clear hF; clear a; intro a hF
      refine RL.val  hF rfl rfl rfl (r_assign hF rfl rfl) ?_; clear hF; clear a; intro a hF
      refine RL.val  hF rfl rfl rfl (r_assign hF rfl rfl) ?_; clear hF; clear a; intro a hF
      refine RL.nil (hK52 _ _ ?_)
      clear hK52 K51
      refine seq_draw 744 #[0, 0, 0, 0, 0, 24, 0, 120, 0, 511, 1023, 2047, 2047, 4095, 16383] 15 mo rfl (by kernel_rfl) (by kernel_rfl) fun hS K57 hK58 => ?_
      obtain ⟨w59, hw, h⟩ := h; rw [← hw]; clear hw
      obtain ⟨J62, hJ, h⟩ := jn_open h
      have jn63 : ∀ (v60 : Int) (w61 : World) a, Fr 203 a [(0, a0.v), (1, a1.v), (7, .pointer r6), (8, .pointer (some p19)), (9, .pointer (some p21)), (10, .int .i64 (bitsZ .and .i64 a2 16777215)), (11, r31.v), (12, .int .i64 r32), (13, r43.v), (14, .int .i64 r44), (16, .int .i64 r50), (18, .int .i64 r56), (20, .int .i64 v60)] → J62 v60 w61 → K57 a w61 := by
        clear hF
        intro v60 w61 a hF h; replace h := hJ _ _ h; refine hK58 _ _ ?_; clear hJ hK58 K57
        refine seq_k fun K64 hK65 => ?_
        obtain ⟨J, hJ, h⟩ := jn_open h
        have jn69 : ∀ (v66 : Unit) (w67 : World) a, Fr 203 a [(0, a0.v), (1, a1.v), (7, .pointer r6), (8, .pointer (some p19)), (9, .pointer (some p21)), (10, .int .i64 (bitsZ .and .i64 a2 16777215)), (11, r31.v)] → J v66 w67 → K64 a w67 := by
          intro v66 w67 a hF h
          replace h := hJ _ _ h
          clear hJ
          refine hK65 _ _ ?_
          refine seq_k fun K70 hK71 => ?_
          obtain ⟨J, hJ, h⟩ := jn_open h
          have jn75 : ∀ (v72 : Unit) (w73 : World) a, Fr 203 a [(0, a0.v), (7, .pointer r6), (8, .pointer (some p19)), (9, .pointer (some p21)), (11, r31.v)] → J v72 w73 → K70 a w73 := by
            intro v72 w73 a hF h
            replace h := hJ _ _ h
            clear hJ
            refine hK71 _ _ ?_
            refine seq_region fun K76 hK77 => ?_
            refine RL.val  hF rfl rfl rfl (r_move hF rfl rfl) ?_; clear hF; clear a; intro a hF
            refine RL.val  hF rfl rfl rfl (r_move hF rfl rfl) ?_; clear hF; clear a; intro a hF
            refine RL.val  hF rfl rfl rfl (r_slice (lo' := none) (hi' := none) (mx' := none) hF rfl rfl rfl rfl rfl (arr_at Tryd.runUnderlying26 Tryd.sizeOf5 (bounds00 ))) ?_; clear hF; clear a; intro a hF
            obtain ⟨p79, w78, hp_, hw_, h⟩ := h
            refine RL.val (v := (Slc.mk (some p79) 2 2).v) (w' := w78) hF rfl rfl rfl (by rw [hp_, hw_]; exact r_buildSlice (xs := [(0, r31.v), (1, (Slc.sub ⟨some p21, 16, 16⟩ 1 0 16 16).v)]) hF rfl rfl (by kernel_rfl)) ?_; clear hF; clear a; intro a hF
            refine RL.call hF rfl rfl rfl (r_call (xs := [.pointer r6, (Slc.mk (some p79) 2 2).v]) hF rfl rfl Tryd.call9) (CallsV.mono h ?_)
            clear h; rintro _ w80 ⟨r81, rfl, h⟩; clear hF; clear a; intro a hF
            refine RL.val  hF rfl rfl rfl (r_assign hF rfl rfl) ?_; clear hF; clear a; intro a hF
            refine RL.nil (hK77 _ _ ?_)
            clear hK77 K76
            refine seq_region fun K82 hK83 => ?_
            refine RL.val  hF rfl rfl rfl (r_move hF rfl rfl) ?_; clear hF; clear a; intro a hF
            refine RL.val  hF rfl rfl rfl (r_move hF rfl rfl) ?_; clear hF; clear a; intro a hF
            refine RL.val  hF rfl rfl rfl (r_slice (lo' := none) (hi' := none) (mx' := none) hF rfl rfl rfl rfl rfl (arr_at Tryd.runUnderlying26 Tryd.sizeOf5 (bounds00 ))) ?_; clear hF; clear a; intro a hF
            obtain ⟨p85, w84, hp_, hw_, h⟩ := h
            refine RL.val (v := (Slc.mk (some p85) 2 2).v) (w' := w84) hF rfl rfl rfl (by rw [hp_, hw_]; exact r_buildSlice (xs := [(0, r31.v), (1, (Slc.sub ⟨some p19, 16, 16⟩ 1 0 16 16).v)]) hF rfl rfl (by kernel_rfl)) ?_; clear hF; clear a; intro a hF
            refine RL.call hF rfl rfl rfl (r_call (xs := [.pointer r6, (Slc.mk (some p85) 2 2).v]) hF rfl rfl Tryd.call9) (CallsV.mono h ?_)
            clear h; rintro _ w86 ⟨r87, rfl, h⟩; clear hF; clear a; intro a hF
            refine RL.val  hF rfl rfl rfl (r_assign hF rfl rfl) ?_; clear hF; clear a; intro a hF
            refine RL.nil (hK83 _ _ ?_)
            clear hK83 K82
            refine seq_draw 811597824 #[0, 1, 3, 7, 15, 31, 63, 127, 255, 511, 1023, 2047, 4095, 511, 8703, 32767, 65535, 131071, 262143, 262143, 262143, 1310719, 4194303, 8388607, 16777215, 33554431, 33554431, 33554431, 167772159, 536870911, 1073741823, 2147483647, 4294967295] 33 mo rfl (by kernel_rfl) (by kernel_rfl) fun hS K88 hK89 => ?_
            obtain ⟨w90, hw, h⟩ := h; rw [← hw]; clear hw
            obtain ⟨J93, hJ, h⟩ := jn_open h
            have jn94 : ∀ (v91 : Bool) (w92 : World) a, Fr 203 a [(6, .bool v91)] → J93 v91 w92 → K88 a w92 := by
              clear hF
              intro v91 w92 a hF h; replace h := hJ _ _ h; refine hK89 _ _ ?_; clear hJ hK89 K88
              refine wp_ret ?_
              exact ret_of hF (res1 hF rfl rfl) ⟨_, rfl, h⟩
            clear hJ hK89
            refine GL.val (v := r81.v) (i := 0) hF hS rfl rfl (by kernel_rfl) rfl rfl rfl rfl (fun x => r_move hF rfl rfl) ?_; clear hF; clear a; intro a hF
            refine GL.val (v := .int .i64 (r81.len : Int)) (i := 1) hF hS rfl rfl (by kernel_rfl) rfl rfl rfl rfl (fun x => r_len_slice hF rfl rfl Tryd.runUnderlying31) ?_; clear hF; clear a; intro a hF
            refine GL.val (v := .bool ((r81.len : Int) == 0)) (i := 2) hF hS rfl rfl (by kernel_rfl) rfl rfl rfl rfl (fun x => r_eql hF rfl rfl rfl) ?_; clear hF; clear a; intro a hF
            refine GL.val (v := .bool ((r81.len : Int) == 0)) (i := 3) hF hS rfl rfl (by kernel_rfl) rfl rfl rfl rfl (fun x => r_move hF rfl rfl) ?_; clear hF; clear a; intro a hF
            obtain ⟨ht, hf⟩ := h
            rcases bool_cases ((r81.len : Int) == 0) with hg95 | hg95
            · replace h := ht hg95; clear ht hf
              refine GL.gval (v := r87.v) (i := 4) hF hS rfl rfl (by kernel_rfl) rfl rfl rfl (lkb rfl hg95) rfl rfl (fun x => r_move hF rfl rfl) ?_; clear hF; clear a; intro a hF
              refine GL.gval (v := .int .i64 (r87.len : Int)) (i := 5) hF hS rfl rfl (by kernel_rfl) rfl rfl rfl (lkb rfl hg95) rfl rfl (fun x => r_len_slice hF rfl rfl Tryd.runUnderlying31) ?_; clear hF; clear a; intro a hF
              refine GL.gval (v := .bool ((r87.len : Int) == 1)) (i := 6) hF hS rfl rfl (by kernel_rfl) rfl rfl rfl (lkb rfl hg95) rfl rfl (fun x => r_eql hF rfl rfl rfl) ?_; clear hF; clear a; intro a hF
              refine GL.val (v := .bool ((r87.len : Int) == 1)) (i := 7) hF hS rfl rfl (by kernel_rfl) rfl rfl rfl rfl (fun x => r_pick hF rfl rfl rfl rfl (fun _ => rfl) (fun e => absurd (hg95.symm.trans e) (by decide))) ?_; clear hF; clear a; intro a hF
              refine GL.val (v := .bool ((r87.len : Int) == 1)) (i := 8) hF hS rfl rfl (by kernel_rfl) rfl rfl rfl rfl (fun x => r_move hF rfl rfl) ?_; clear hF; clear a; intro a hF
              obtain ⟨ht, hf⟩ := h
              rcases bool_cases ((r87.len : Int) == 1) with hg96 | hg96
              · replace h := ht hg96; clear ht hf
                refine GL.gval (v := r87.v) (i := 9) hF hS rfl rfl (by kernel_rfl) rfl rfl rfl (lkb rfl hg96) rfl rfl (fun x => r_move hF rfl rfl) ?_; clear hF; clear a; intro a hF
                obtain ⟨b98, p97, hb_, h0_, h1_, hp_, h⟩ := h
                refine GL.gval (v := .pointer (some p97)) (i := 10) hF hS rfl rfl (by kernel_rfl) rfl rfl rfl (lkb rfl hg96) rfl rfl (fun x => by rw [hp_]; exact r_indexAddr hF rfl (lks rfl hb_) rfl Tryd.runUnderlying31 Tryd.sizeOf22 h0_ h1_) ?_; clear hF; clear a; intro a hF
                obtain ⟨t99, hct99, h⟩ := h
                refine GL.gread (v := t99.v) (i := 11) hF (fun x => World.cell? x p97 = some (t99.v)) hS rfl rfl (by kernel_rfl) rfl rfl rfl (lkb rfl hg96) rfl rfl hct99 (fun x hx => r_load hF rfl rfl Tryd.isAgg22 hx) ?_; clear hF; clear a; intro a hF
                obtain ⟨t100, hct100, h⟩ := h
                refine GL.gread (v := .string t100) (i := 12) hF (fun x => rn Tryd.prog (convert 22 9 t99.v) (.string t100) x x) hS rfl rfl (by kernel_rfl) rfl rfl rfl (lkb rfl hg96) rfl rfl hct100 (fun x hx => r_conv hF rfl rfl hx) ?_; clear hF; clear a; intro a hF
                refine GL.gval (v := a0.v) (i := 13) hF hS rfl rfl (by kernel_rfl) rfl rfl rfl (lkb rfl hg96) rfl rfl (fun x => r_move hF rfl rfl) ?_; clear hF; clear a; intro a hF
                obtain ⟨t101, hct101, h⟩ := h
                refine GL.gread (v := .string t101) (i := 14) hF (fun x => rn Tryd.prog (convert 22 9 a0.v) (.string t101) x x) hS rfl rfl (by kernel_rfl) rfl rfl rfl (lkb rfl hg96) rfl rfl hct101 (fun x hx => r_conv hF rfl rfl hx) ?_; clear hF; clear a; intro a hF
                refine GL.gval (v := .bool (t100.toList == t101.toList)) (i := 15) hF hS rfl rfl (by kernel_rfl) rfl rfl rfl (lkb rfl hg96) rfl rfl (fun x => r_streq hF rfl rfl rfl) ?_; clear hF; clear a; intro a hF
                refine GL.val (v := .bool (t100.toList == t101.toList)) (i := 16) hF hS rfl rfl (by kernel_rfl) rfl rfl rfl rfl (fun x => r_pick hF rfl rfl rfl rfl (fun _ => rfl) (fun e => absurd (hg96.symm.trans e) (by decide))) ?_; clear hF; clear a; intro a hF
                refine GL.val (v := .bool (t100.toList == t101.toList)) (i := 17) hF hS rfl rfl (by kernel_rfl) rfl rfl rfl rfl (fun x => r_move hF rfl rfl) ?_; clear hF; clear a; intro a hF
                obtain ⟨ht, hf⟩ := h
                rcases bool_cases (t100.toList == t101.toList) with hg102 | hg102
                · replace h := ht hg102; clear ht hf
                  refine GL.gval (v := .pointer r6) (i := 18) hF hS rfl rfl (by kernel_rfl) rfl rfl rfl (lkb rfl hg102) rfl rfl (fun x => r_move hF rfl rfl) ?_; clear hF; clear a; intro a hF
                  refine GL.gval (v := (Slc.sub ⟨some p19, 16, 16⟩ 1 0 16 16).v) (i := 19) hF hS rfl rfl (by kernel_rfl) rfl rfl rfl (lkb rfl hg102) rfl rfl (fun x => r_slice (lo' := none) (hi' := none) (mx' := none) hF rfl rfl rfl rfl rfl (arr_at Tryd.runUnderlying26 Tryd.sizeOf5 (bounds00 ))) ?_; clear hF; clear a; intro a hF
                  refine GL.gval (v := r31.v) (i := 20) hF hS rfl rfl (by kernel_rfl) rfl rfl rfl (lkb rfl hg102) rfl rfl (fun x => r_move hF rfl rfl) ?_; clear hF; clear a; intro a hF
                  refine GL.act (i := 21) (pend' := []) hS (by kernel_rfl) rfl (by kernel_rfl) ?_
                  obtain ⟨p104, w103, hp_, hw_, h⟩ := h
                  refine op_gval (v := (Slc.mk (some p104) 1 1).v) (w' := w103) hF rfl rfl rfl (lkb rfl hg102) rfl rfl (by rw [hp_, hw_]; exact r_buildSlice (xs := [(0, r31.v)]) hF rfl rfl (by kernel_rfl)) trivial ?_; clear hF; clear a; intro a hF
                  refine GL.act (i := 22) (pend' := []) hS (by kernel_rfl) rfl (by kernel_rfl) ?_
                  refine op_gcall hF rfl rfl rfl (lkb rfl hg102) rfl rfl (r_call (xs := [.pointer r6, (Slc.sub ⟨some p19, 16, 16⟩ 1 0 16 16).v, (Slc.mk (some p104) 1 1).v]) hF rfl rfl Tryd.call10) (CallsV.mono h ?_)
                  clear h; rintro _ w105 ⟨r106, rfl, h⟩
                  refine ⟨trivial, ?_⟩; clear hF; clear a; intro a hF
                  refine GL.val (v := .bool r106) (i := 23) hF hS rfl rfl (by kernel_rfl) rfl rfl rfl rfl (fun x => r_pick hF rfl rfl rfl rfl (fun _ => rfl) (fun e => absurd (hg102.symm.trans e) (by decide))) ?_; clear hF; clear a; intro a hF
                  refine GL.val (v := .bool r106) (i := 24) hF hS rfl rfl (by kernel_rfl) rfl rfl rfl rfl (fun x => r_move hF rfl rfl) ?_; clear hF; clear a; intro a hF
                  obtain ⟨ht, hf⟩ := h
                  rcases bool_cases r106 with hg107 | hg107
                  · replace h := ht hg107; clear ht hf
                    refine GL.gval (v := .pointer r6) (i := 25) hF hS rfl rfl (by kernel_rfl) rfl rfl rfl (lkb rfl hg107) rfl rfl (fun x => r_move hF rfl rfl) ?_; clear hF; clear a; intro a hF
                    refine GL.gval (v := r31.v) (i := 26) hF hS rfl rfl (by kernel_rfl) rfl rfl rfl (lkb rfl hg107) rfl rfl (fun x => r_move hF rfl rfl) ?_; clear hF; clear a; intro a hF
                    refine GL.gval (v := r31.v) (i := 27) hF hS rfl rfl (by kernel_rfl) rfl rfl rfl (lkb rfl hg107) rfl rfl (fun x => r_move hF rfl rfl) ?_; clear hF; clear a; intro a hF
                    refine GL.act (i := 28) (pend' := []) hS (by kernel_rfl) rfl (by kernel_rfl) ?_
                    obtain ⟨p109, w108, hp_, hw_, h⟩ := h
                    refine op_gval (v := (Slc.mk (some p109) 1 1).v) (w' := w108) hF rfl rfl rfl (lkb rfl hg107) rfl rfl (by rw [hp_, hw_]; exact r_buildSlice (xs := [(0, r31.v)]) hF rfl rfl (by kernel_rfl)) trivial ?_; clear hF; clear a; intro a hF
                    refine GL.act (i := 29) (pend' := []) hS (by kernel_rfl) rfl (by kernel_rfl) ?_
                    refine op_gcall hF rfl rfl rfl (lkb rfl hg107) rfl rfl (r_call (xs := [.pointer r6, r31.v, (Slc.mk (some p109) 1 1).v]) hF rfl rfl Tryd.call10) (CallsV.mono h ?_)
                    clear h; rintro _ w110 ⟨r111, rfl, h⟩
                    refine ⟨trivial, ?_⟩; clear hF; clear a; intro a hF
                    refine GL.gval (v := .bool (!r111)) (i := 30) hF hS rfl rfl (by kernel_rfl) rfl rfl rfl (lkb rfl hg107) rfl rfl (fun x => r_not hF rfl rfl) ?_; clear hF; clear a; intro a hF
                    refine GL.val (v := .bool (!r111)) (i := 31) hF hS rfl rfl (by kernel_rfl) rfl rfl rfl rfl (fun x => r_pick hF rfl rfl rfl rfl (fun _ => rfl) (fun e => absurd (hg107.symm.trans e) (by decide))) ?_; clear hF; clear a; intro a hF
                    refine GL.val (v := .bool (!r111)) (i := 32) hF hS rfl rfl (by kernel_rfl) rfl rfl rfl rfl (fun x => r_assign hF rfl rfl) ?_; clear hF; clear a; intro a hF
                    refine GL.done (by kernel_rfl) ?_
                    exact jn94 (!r111) _ _ (hF.sub rfl) h
                  · replace h := hf hg107; clear ht hf
                    refine GL.skip (i := 25) hF hS rfl rfl (by kernel_rfl) rfl rfl rfl (lkb rfl hg107) (.inl rfl) rfl rfl ?_; clear hF; clear a; intro a hF
                    refine GL.skip (i := 26) hF hS rfl rfl (by kernel_rfl) rfl rfl rfl (lkb rfl hg107) (.inl rfl) rfl rfl ?_; clear hF; clear a; intro a hF
                    refine GL.skip (i := 27) hF hS rfl rfl (by kernel_rfl) rfl rfl rfl (lkb rfl hg107) (.inl rfl) rfl rfl ?_; clear hF; clear a; intro a hF
                    refine GL.actSkip (i := 28) (pend' := []) hF hS (by kernel_rfl) rfl (by kernel_rfl) rfl rfl rfl (lkb rfl hg107) (.inl rfl) rfl rfl ?_; clear hF; clear a; intro a hF
                    refine GL.actSkip (i := 29) (pend' := []) hF hS (by kernel_rfl) rfl (by kernel_rfl) rfl rfl rfl (lkb rfl hg107) (.inl rfl) rfl rfl ?_; clear hF; clear a; intro a hF
                    refine GL.skip (i := 30) hF hS rfl rfl (by kernel_rfl) rfl rfl rfl (lkb rfl hg107) (.inl rfl) rfl rfl ?_; clear hF; clear a; intro a hF
                    refine GL.val (v := .bool false) (i := 31) hF hS rfl rfl (by kernel_rfl) rfl rfl rfl rfl (fun x => r_pick hF rfl rfl rfl rfl (fun e => absurd (hg107.symm.trans e) (by decide)) (fun _ => rfl)) ?_; clear hF; clear a; intro a hF
                    refine GL.val (v := .bool false) (i := 32) hF hS rfl rfl (by kernel_rfl) rfl rfl rfl rfl (fun x => r_assign hF rfl rfl) ?_; clear hF; clear a; intro a hF
                    refine GL.done (by kernel_rfl) ?_
                    exact jn94 false _ _ (hF.sub rfl) h
                · replace h := hf hg102; clear ht hf
                  refine GL.skip (i := 18) hF hS rfl rfl (by kernel_rfl) rfl rfl rfl (lkb rfl hg102) (.inl rfl) rfl rfl ?_; clear hF; clear a; intro a hF
                  refine GL.skip (i := 19) hF hS rfl rfl (by kernel_rfl) rfl rfl rfl (lkb rfl hg102) (.inl rfl) rfl rfl ?_; clear hF; clear a; intro a hF
                  refine GL.skip (i := 20) hF hS rfl rfl (by kernel_rfl) rfl rfl rfl (lkb rfl hg102) (.inl rfl) rfl rfl ?_; clear hF; clear a; intro a hF
                  refine GL.actSkip (i := 21) (pend' := []) hF hS (by kernel_rfl) rfl (by kernel_rfl) rfl rfl rfl (lkb rfl hg102) (.inl rfl) rfl rfl ?_; clear hF; clear a; intro a hF
                  refine GL.actSkip (i := 22) (pend' := []) hF hS (by kernel_rfl) rfl (by kernel_rfl) rfl rfl rfl (lkb rfl hg102) (.inl rfl) rfl rfl ?_; clear hF; clear a; intro a hF
                  refine GL.val (v := .bool false) (i := 23) hF hS rfl rfl (by kernel_rfl) rfl rfl rfl rfl (fun x => r_pick hF rfl rfl rfl rfl (fun e => absurd (hg102.symm.trans e) (by decide)) (fun _ => rfl)) ?_; clear hF; clear a; intro a hF
                  refine GL.val (v := .bool false) (i := 24) hF hS rfl rfl (by kernel_rfl) rfl rfl rfl rfl (fun x => r_move hF rfl rfl) ?_; clear hF; clear a; intro a hF
                  refine GL.skip (i := 25) hF hS rfl rfl (by kernel_rfl) rfl rfl rfl rfl (.inl rfl) rfl rfl ?_; clear hF; clear a; intro a hF
                  refine GL.skip (i := 26) hF hS rfl rfl (by kernel_rfl) rfl rfl rfl rfl (.inl rfl) rfl rfl ?_; clear hF; clear a; intro a hF
                  refine GL.skip (i := 27) hF hS rfl rfl (by kernel_rfl) rfl rfl rfl rfl (.inl rfl) rfl rfl ?_; clear hF; clear a; intro a hF
                  refine GL.actSkip (i := 28) (pend' := []) hF hS (by kernel_rfl) rfl (by kernel_rfl) rfl rfl rfl rfl (.inl rfl) rfl rfl ?_; clear hF; clear a; intro a hF
                  refine GL.actSkip (i := 29) (pend' := []) hF hS (by kernel_rfl) rfl (by kernel_rfl) rfl rfl rfl rfl (.inl rfl) rfl rfl ?_; clear hF; clear a; intro a hF
                  refine GL.skip (i := 30) hF hS rfl rfl (by kernel_rfl) rfl rfl rfl rfl (.inl rfl) rfl rfl ?_; clear hF; clear a; intro a hF
                  refine GL.val (v := .bool false) (i := 31) hF hS rfl rfl (by kernel_rfl) rfl rfl rfl rfl (fun x => r_pick hF rfl rfl rfl rfl (fun e => absurd e (by decide)) (fun _ => rfl)) ?_; clear hF; clear a; intro a hF
                  refine GL.val (v := .bool false) (i := 32) hF hS rfl rfl (by kernel_rfl) rfl rfl rfl rfl (fun x => r_assign hF rfl rfl) ?_; clear hF; clear a; intro a hF
                  refine GL.done (by kernel_rfl) ?_
                  exact jn94 false _ _ (hF.sub rfl) h
              · replace h := hf hg96; clear ht hf
                refine GL.skip (i := 9) hF hS rfl rfl (by kernel_rfl) rfl rfl rfl (lkb rfl hg96) (.inl rfl) rfl rfl ?_; clear hF; clear a; intro a hF
                refine GL.skip (i := 10) hF hS rfl rfl (by kernel_rfl) rfl rfl rfl (lkb rfl hg96) (.inl rfl) rfl rfl ?_; clear hF; clear a; intro a hF
                refine GL.skip (i := 11) hF hS rfl rfl (by kernel_rfl) rfl rfl rfl (lkb rfl hg96) (.inl rfl) rfl rfl ?_; clear hF; clear a; intro a hF
                refine GL.skip (i := 12) hF hS rfl rfl (by kernel_rfl) rfl rfl rfl (lkb rfl hg96) (.inl rfl) rfl rfl ?_; clear hF; clear a; intro a hF
                refine GL.skip (i := 13) hF hS rfl rfl (by kernel_rfl) rfl rfl rfl (lkb rfl hg96) (.inl rfl) rfl rfl ?_; clear hF; clear a; intro a hF
                refine GL.skip (i := 14) hF hS rfl rfl (by kernel_rfl) rfl rfl rfl (lkb rfl hg96) (.inl rfl) rfl rfl ?_; clear hF; clear a; intro a hF
                refine GL.skip (i := 15) hF hS rfl rfl (by kernel_rfl) rfl rfl rfl (lkb rfl hg96) (.inl rfl) rfl rfl ?_; clear hF; clear a; intro a hF
                refine GL.val (v := .bool false) (i := 16) hF hS rfl rfl (by kernel_rfl) rfl rfl rfl rfl (fun x => r_pick hF rfl rfl rfl rfl (fun e => absurd (hg96.symm.trans e) (by decide)) (fun _ => rfl)) ?_; clear hF; clear a; intro a hF
                refine GL.val (v := .bool false) (i := 17) hF hS rfl rfl (by kernel_rfl) rfl rfl rfl rfl (fun x => r_move hF rfl rfl) ?_; clear hF; clear a; intro a hF
                refine GL.skip (i := 18) hF hS rfl rfl (by kernel_rfl) rfl rfl rfl rfl (.inl rfl) rfl rfl ?_; clear hF; clear a; intro a hF
                refine GL.skip (i := 19) hF hS rfl rfl (by kernel_rfl) rfl rfl rfl rfl (.inl rfl) rfl rfl ?_; clear hF; clear a; intro a hF
                refine GL.skip (i := 20) hF hS rfl rfl (by kernel_rfl) rfl rfl rfl rfl (.inl rfl) rfl rfl ?_; clear hF; clear a; intro a hF
                refine GL.actSkip (i := 21) (pend' := []) hF hS (by kernel_rfl) rfl (by kernel_rfl) rfl rfl rfl rfl (.inl rfl) rfl rfl ?_; clear hF; clear a; intro a hF
                refine GL.actSkip (i := 22) (pend' := []) hF hS (by kernel_rfl) rfl (by kernel_rfl) rfl rfl rfl rfl (.inl rfl) rfl rfl ?_; clear hF; clear a; intro a hF
                refine GL.val (v := .bool false) (i := 23) hF hS rfl rfl (by kernel_rfl) rfl rfl rfl rfl (fun x => r_pick hF rfl rfl rfl rfl (fun e => absurd e (by decide)) (fun _ => rfl)) ?_; clear hF; clear a; intro a hF
                refine GL.val (v := .bool false) (i := 24) hF hS rfl rfl (by kernel_rfl) rfl rfl rfl rfl (fun x => r_move hF rfl rfl) ?_; clear hF; clear a; intro a hF
                refine GL.skip (i := 25) hF hS rfl rfl (by kernel_rfl) rfl rfl rfl rfl (.inl rfl) rfl rfl ?_; clear hF; clear a; intro a hF
                refine GL.skip (i := 26) hF hS rfl rfl (by kernel_rfl) rfl rfl rfl rfl (.inl rfl) rfl rfl ?_; clear hF; clear a; intro a hF
                refine GL.skip (i := 27) hF hS rfl rfl (by kernel_rfl) rfl rfl rfl rfl (.inl rfl) rfl rfl ?_; clear hF; clear a; intro a hF
                refine GL.actSkip (i := 28) (pend' := []) hF hS (by kernel_rfl) rfl (by kernel_rfl) rfl rfl rfl rfl (.inl rfl) rfl rfl ?_; clear hF; clear a; intro a hF
                refine GL.actSkip (i := 29) (pend' := []) hF hS (by kernel_rfl) rfl (by kernel_rfl) rfl rfl rfl rfl (.inl rfl) rfl rfl ?_; clear hF; clear a; intro a hF
                refine GL.skip (i := 30) hF hS rfl rfl (by kernel_rfl) rfl rfl rfl rfl (.inl rfl) rfl rfl ?_; clear hF; clear a; intro a hF
                refine GL.val (v := .bool false) (i := 31) hF hS rfl rfl (by kernel_rfl) rfl rfl rfl rfl (fun x => r_pick hF rfl rfl rfl rfl (fun e => absurd e (by decide)) (fun _ => rfl)) ?_; clear hF; clear a; intro a hF
                refine GL.val (v := .bool false) (i := 32) hF hS rfl rfl (by kernel_rfl) rfl rfl rfl rfl (fun x => r_assign hF rfl rfl) ?_; clear hF; clear a; intro a hF
                refine GL.done (by kernel_rfl) ?_
                exact jn94 false _ _ (hF.sub rfl) h
            · replace h := hf hg95; clear ht hf
              refine GL.skip (i := 4) hF hS rfl rfl (by kernel_rfl) rfl rfl rfl (lkb rfl hg95) (.inl rfl) rfl rfl ?_; clear hF; clear a; intro a hF
              refine GL.skip (i := 5) hF hS rfl rfl (by kernel_rfl) rfl rfl rfl (lkb rfl hg95) (.inl rfl) rfl rfl ?_; clear hF; clear a; intro a hF
              refine GL.skip (i := 6) hF hS rfl rfl (by kernel_rfl) rfl rfl rfl (lkb rfl hg95) (.inl rfl) rfl rfl ?_; clear hF; clear a; intro a hF
              refine GL.val (v := .bool false) (i := 7) hF hS rfl rfl (by kernel_rfl) rfl rfl rfl rfl (fun x => r_pick hF rfl rfl rfl rfl (fun e => absurd (hg95.symm.trans e) (by decide)) (fun _ => rfl)) ?_; clear hF; clear a; intro a hF
              refine GL.val (v := .bool false) (i := 8) hF hS rfl rfl (by kernel_rfl) rfl rfl rfl rfl (fun x => r_move hF rfl rfl) ?_; clear hF; clear a; intro a hF
              refine GL.skip (i := 9) hF hS rfl rfl (by kernel_rfl) rfl rfl rfl rfl (.inl rfl) rfl rfl ?_; clear hF; clear a; intro a hF
              refine GL.skip (i := 10) hF hS rfl rfl (by kernel_rfl) rfl rfl rfl rfl (.inl rfl) rfl rfl ?_; clear hF; clear a; intro a hF
              refine GL.skip (i := 11) hF hS rfl rfl (by kernel_rfl) rfl rfl rfl rfl (.inl rfl) rfl rfl ?_; clear hF; clear a; intro a hF
              refine GL.skip (i := 12) hF hS rfl rfl (by kernel_rfl) rfl rfl rfl rfl (.inl rfl) rfl rfl ?_; clear hF; clear a; intro a hF
              refine GL.skip (i := 13) hF hS rfl rfl (by kernel_rfl) rfl rfl rfl rfl (.inl rfl) rfl rfl ?_; clear hF; clear a; intro a hF
              refine GL.skip (i := 14) hF hS rfl rfl (by kernel_rfl) rfl rfl rfl rfl (.inl rfl) rfl rfl ?_; clear hF; clear a; intro a hF
              refine GL.skip (i := 15) hF hS rfl rfl (by kernel_rfl) rfl rfl rfl rfl (.inl rfl) rfl rfl ?_; clear hF; clear a; intro a hF
              refine GL.val (v := .bool false) (i := 16) hF hS rfl rfl (by kernel_rfl) rfl rfl rfl rfl (fun x => r_pick hF rfl rfl rfl rfl (fun e => absurd e (by decide)) (fun _ => rfl)) ?_; clear hF; clear a; intro a hF
              refine GL.val (v := .bool false) (i := 17) hF hS rfl rfl (by kernel_rfl) rfl rfl rfl rfl (fun x => r_move hF rfl rfl) ?_; clear hF; clear a; intro a hF
              refine GL.skip (i := 18) hF hS rfl rfl (by kernel_rfl) rfl rfl rfl rfl (.inl rfl) rfl rfl ?_; clear hF; clear a; intro a hF
              refine GL.skip (i := 19) hF hS rfl rfl (by kernel_rfl) rfl rfl rfl rfl (.inl rfl) rfl rfl ?_; clear hF; clear a; intro a hF
              refine GL.skip (i := 20) hF hS rfl rfl (by kernel_rfl) rfl rfl rfl rfl (.inl rfl) rfl rfl ?_; clear hF; clear a; intro a hF
              refine GL.actSkip (i := 21) (pend' := []) hF hS (by kernel_rfl) rfl (by kernel_rfl) rfl rfl rfl rfl (.inl rfl) rfl rfl ?_; clear hF; clear a; intro a hF
              refine GL.actSkip (i := 22) (pend' := []) hF hS (by kernel_rfl) rfl (by kernel_rfl) rfl rfl rfl rfl (.inl rfl) rfl rfl ?_; clear hF; clear a; intro a hF
              refine GL.val (v := .bool false) (i := 23) hF hS rfl rfl (by kernel_rfl) rfl rfl rfl rfl (fun x => r_pick hF rfl rfl rfl rfl (fun e => absurd e (by decide)) (fun _ => rfl)) ?_; clear hF; clear a; intro a hF
              refine GL.val (v := .bool false) (i := 24) hF hS rfl rfl (by kernel_rfl) rfl rfl rfl rfl (fun x => r_move hF rfl rfl) ?_; clear hF; clear a; intro a hF
              refine GL.skip (i := 25) hF hS rfl rfl (by kernel_rfl) rfl rfl rfl rfl (.inl rfl) rfl rfl ?_; clear hF; clear a; intro a hF
              refine GL.skip (i := 26) hF hS rfl rfl (by kernel_rfl) rfl rfl rfl rfl (.inl rfl) rfl rfl ?_; clear hF; clear a; intro a hF
              refine GL.skip (i := 27) hF hS rfl rfl (by kernel_rfl) rfl rfl rfl rfl (.inl rfl) rfl rfl ?_; clear hF; clear a; intro a hF
              refine GL.actSkip (i := 28) (pend' := []) hF hS (by kernel_rfl) rfl (by kernel_rfl) rfl rfl rfl rfl (.inl rfl) rfl rfl ?_; clear hF; clear a; intro a hF
              refine GL.actSkip (i := 29) (pend' := []) hF hS (by kernel_rfl) rfl (by kernel_rfl) rfl rfl rfl rfl (.inl rfl) rfl rfl ?_; clear hF; clear a; intro a hF
              refine GL.skip (i := 30) hF hS rfl rfl (by kernel_rfl) rfl rfl rfl rfl (.inl rfl) rfl rfl ?_; clear hF; clear a; intro a hF
              refine GL.val (v := .bool false) (i := 31) hF hS rfl rfl (by kernel_rfl) rfl rfl rfl rfl (fun x => r_pick hF rfl rfl rfl rfl (fun e => absurd e (by decide)) (fun _ => rfl)) ?_; clear hF; clear a; intro a hF
              refine GL.val (v := .bool false) (i := 32) hF hS rfl rfl (by kernel_rfl) rfl rfl rfl rfl (fun x => r_assign hF rfl rfl) ?_; clear hF; clear a; intro a hF
              refine GL.done (by kernel_rfl) ?_
              exact jn94 false _ _ (hF.sub rfl) h
          clear hJ
          refine seq_region fun K112 hK113 => ?_
          refine RL.val  hF rfl rfl rfl (r_assign hF rfl rfl) ?_; clear hF; clear a; intro a hF
          refine RL.nil (hK113 _ _ ?_)
          clear hK113 K112
          refine wp_block ?_
          refine loop_ (fun (s114 : Int) => [(0, a0.v), (1, a1.v), (7, .pointer r6), (8, .pointer (some p19)), (9, .pointer (some p21)), (10, .int .i64 (bitsZ .and .i64 a2 16777215)), (11, r31.v), (21, .int .i64 s114)]) (hF.sub rfl) h ?_
          clear hF h
          intro s114 w115 N116 KL hN117 h a hF
          refine seq_k fun K118 hK119 => ?_
          obtain ⟨J, hJ, h⟩ := jn_open h
          have jn123 : ∀ (v120 : Unit) (w121 : World) a, Fr 203 a [(0, a0.v), (1, a1.v), (7, .pointer r6), (8, .pointer (some p19)), (9, .pointer (some p21)), (10, .int .i64 (bitsZ .and .i64 a2 16777215)), (11, r31.v), (21, .int .i64 s114)] → J v120 w121 → K118 a w121 := by
            intro v120 w121 a hF h
            replace h := hJ _ _ h
            clear hJ
            refine hK119 _ _ ?_
            refine seq_k fun K124 hK125 => ?_
            obtain ⟨J, hJ, h⟩ := jn_open h
            have jn129 : ∀ (v126 : Unit) (w127 : World) a, Fr 203 a [(0, a0.v), (1, a1.v), (7, .pointer r6), (8, .pointer (some p19)), (9, .pointer (some p21)), (10, .int .i64 (bitsZ .and .i64 a2 16777215)), (11, r31.v), (21, .int .i64 s114)] → J v126 w127 → K124 a w127 := by
              intro v126 w127 a hF h
              replace h := hJ _ _ h
              clear hJ
              refine hK125 _ _ ?_
              refine end_region fun K130 hK131 => ?_
              refine RL.val  hF rfl rfl rfl (r_move hF rfl rfl) ?_; clear hF; clear a; intro a hF
              refine RL.val  hF rfl rfl rfl (r_add hF rfl rfl rfl) ?_; clear hF; clear a; intro a hF
              refine RL.val  hF rfl rfl rfl (r_assign hF rfl rfl) ?_; clear hF; clear a; intro a hF
              refine RL.nil (hK131 _ _ ?_)
              clear hK131 K130
              exact hN117 (IntKind.i64.wrap (s114 + 1)) _ _ (hF.sub rfl) h
            clear hJ
            refine wp_block ?_
            refine seq_region fun K132 hK133 => ?_
            obtain ⟨p135, w134, hp_, hw_, h⟩ := h
            refine RL.val (v := (Slc.mk (some p135) 0 0).v) (w' := w134) hF rfl rfl rfl (by rw [hp_, hw_]; exact r_buildSlice (xs := []) hF rfl rfl (by kernel_rfl)) ?_; clear hF; clear a; intro a hF
            refine RL.val  hF rfl rfl rfl (r_move hF rfl rfl) ?_; clear hF; clear a; intro a hF
            obtain ⟨t137, w136, hc_, h⟩ := h
            refine RL.val  hF rfl rfl rfl (r_append (xs := [(Slc.mk (some p135) 0 0).v, r31.v]) hF rfl rfl hc_) ?_; clear hF; clear a; intro a hF
            refine RL.val  hF rfl rfl rfl (r_assign hF rfl rfl) ?_; clear hF; clear a; intro a hF
            refine RL.nil (hK133 _ _ ?_)
            clear hK133 K132
            refine seq_region fun K138 hK139 => ?_
            refine RL.val  hF rfl rfl rfl (r_move hF rfl rfl) ?_; clear hF; clear a; intro a hF
            refine RL.val  hF rfl rfl rfl (r_move hF rfl rfl) ?_; clear hF; clear a; intro a hF
            refine RL.val  hF rfl rfl rfl (r_move hF rfl rfl) ?_; clear hF; clear a; intro a hF
            refine RL.val  hF rfl rfl rfl (r_move hF rfl rfl) ?_; clear hF; clear a; intro a hF
            obtain ⟨b141, p140, hb_, h0_, h1_, hp_, h⟩ := h
            refine RL.val (v := .pointer (some p140)) (w' := w136) hF rfl rfl rfl (by rw [hp_]; exact r_indexAddr hF rfl (lks rfl hb_) rfl Tryd.runUnderlying22 Tryd.sizeOf5 h0_ h1_) ?_; clear hF; clear a; intro a hF
            obtain ⟨t142, hct142, h⟩ := h
            refine RL.val  hF rfl rfl rfl (r_load hF rfl rfl Tryd.isAgg5 hct142) ?_; clear hF; clear a; intro a hF
            refine RL.val  hF rfl rfl rfl (r_xor hF rfl rfl rfl) ?_; clear hF; clear a; intro a hF
            obtain ⟨b144, p143, hb_, h0_, h1_, hp_, h⟩ := h
            refine RL.val (v := .pointer (some p143)) (w' := w136) hF rfl rfl rfl (by rw [hp_]; exact r_indexAddr hF rfl (lks rfl hb_) rfl Tryd.runUnderlying22 Tryd.sizeOf5 h0_ h1_) ?_; clear hF; clear a; intro a hF
            obtain ⟨u_, w145, hs1_, hs2_, hs3_, h⟩ := h
            refine RL.unit (w' := w145) hF rfl rfl (by rw [hs3_]; exact r_store hF rfl rfl rfl rfl Tryd.sizeOf5 hs1_ hs2_) ?_; clear hF; clear a; intro a hF
            refine RL.nil (hK139 _ _ ?_)
            clear hK139 K138
            refine seq_region fun K146 hK147 => ?_
            refine RL.val  hF rfl rfl rfl (r_move hF rfl rfl) ?_; clear hF; clear a; intro a hF
            obtain ⟨t148, hct148, h⟩ := h
            refine RL.val  hF rfl rfl rfl (r_loadA hF rfl rfl Tryd.isAgg26 Tryd.sizeOf26 hct148) ?_; clear hF; clear a; intro a hF
            refine RL.val  hF rfl rfl rfl (r_move hF rfl rfl) ?_; clear hF; clear a; intro a hF
            refine RL.val  hF rfl rfl rfl (r_move hF rfl rfl) ?_; clear hF; clear a; intro a hF
            refine RL.val  hF rfl rfl rfl (r_move hF rfl rfl) ?_; clear hF; clear a; intro a hF
            refine RL.call hF rfl rfl rfl (r_call (xs := [.pointer r6, .agg t148, .int .i64 (bitsZ .and .i64 a2 16777215), a1.v, t137.v]) hF rfl rfl Tryd.call8) (CallsV.mono h ?_)
            clear h; rintro _ w149 ⟨r150, r151, rfl, h⟩; clear hF; clear a; intro a hF
            refine RL.val  hF rfl rfl rfl (r_move hF rfl rfl) ?_; clear hF; clear a; intro a hF
            refine RL.val  hF rfl rfl rfl (r_extract hF rfl rfl rfl) ?_; clear hF; clear a; intro a hF
            refine RL.val  hF rfl rfl rfl (r_extract hF rfl rfl rfl) ?_; clear hF; clear a; intro a hF
            refine RL.val  hF rfl rfl rfl (r_assign hF rfl rfl) ?_; clear hF; clear a; intro a hF
            refine RL.val  hF rfl rfl rfl (r_assign hF rfl rfl) ?_; clear hF; clear a; intro a hF
            refine RL.nil (hK147 _ _ ?_)
            clear hK147 K146
            refine seq_region fun K152 hK153 => ?_
            refine RL.val  hF rfl rfl rfl (r_move hF rfl rfl) ?_; clear hF; clear a; intro a hF
            refine RL.val  hF rfl rfl rfl (r_neq hF rfl rfl rfl) ?_; clear hF; clear a; intro a hF
            refine RL.nil (hK153 _ _ ?_)
            clear hK153 K152
            obtain ⟨ht, hf⟩ := h
            refine cond_ hF rfl (fun hc => ?_) (fun hc => ?_)
            · replace h := ht hc; clear ht hf
              refine seq_region fun K154 hK155 => ?_
              refine RL.val  hF rfl rfl rfl (r_assign hF rfl rfl) ?_; clear hF; clear a; intro a hF
              refine RL.nil (hK155 _ _ ?_)
              clear hK155 K154
              refine wp_ret ?_
              exact ret_of hF (res1 hF rfl rfl) ⟨_, rfl, h⟩
            · replace h := hf hc; clear ht hf
              refine wp_skip ?_
              exact jn129 () _ _ (hF.sub rfl) h
          clear hJ
          refine seq_region fun K156 hK157 => ?_
          obtain ⟨J160, hJ, h⟩ := jn_open h
          have jn161 : ∀ (v158 : Bool) (w159 : World) a, Fr 203 a [(0, a0.v), (1, a1.v), (7, .pointer r6), (8, .pointer (some p19)), (9, .pointer (some p21)), (10, .int .i64 (bitsZ .and .i64 a2 16777215)), (11, r31.v), (21, .int .i64 s114), (136, .bool v158)] → J160 v158 w159 → K156 a w159 := by
            clear hF
            intro v158 w159 a hF h; replace h := hJ _ _ h; refine hK157 _ _ ?_; clear hJ hK157 K156
            obtain ⟨ht, hf⟩ := h
            refine cond_ hF rfl (fun hc => ?_) (fun hc => ?_)
            · replace h := ht hc; clear ht hf
              refine wp_skip ?_
              exact jn123 () _ _ (hF.sub rfl) h
            · replace h := hf hc; clear ht hf
              refine wp_exit ?_
              exact jn75 () _ _ (hF.sub rfl) h
          clear hJ hK157
          refine RL.val  hF rfl rfl rfl (r_move hF rfl rfl) ?_; clear hF; clear a; intro a hF
          refine RL.val  hF rfl rfl rfl (r_move hF rfl rfl) ?_; clear hF; clear a; intro a hF
          refine RL.val  hF rfl rfl rfl (r_len_slice hF rfl rfl Tryd.runUnderlying22) ?_; clear hF; clear a; intro a hF
          refine RL.val  hF rfl rfl rfl (r_lss hF rfl rfl rfl) ?_; clear hF; clear a; intro a hF
          refine RL.val  hF rfl rfl rfl (r_move hF rfl rfl) ?_; clear hF; clear a; intro a hF
          obtain ⟨ht, hf⟩ := h
          rcases bool_cases (decide (s114 < (r31.len : Int))) with hg162 | hg162
          · replace h := ht hg162; clear ht hf
            refine RL.gval  hF rfl rfl (lkb rfl hg162) rfl rfl (r_move hF rfl rfl) ?_; clear hF; clear a; intro a hF
            refine RL.gval  hF rfl rfl (lkb rfl hg162) rfl rfl (r_lss hF rfl rfl rfl) ?_; clear hF; clear a; intro a hF
            refine RL.val (v := .bool (decide (s114 < 40))) (w' := w115) hF rfl rfl rfl (r_pick hF rfl rfl rfl rfl (fun _ => rfl) (fun e => absurd (hg162.symm.trans e) (by decide))) ?_; clear hF; clear a; intro a hF
            refine RL.nil ?_
            exact jn161 (decide (s114 < 40)) _ _ (hF.sub rfl) h
          · replace h := hf hg162; clear ht hf
            refine RL.skip hF rfl rfl (lkb rfl hg162) (.inl rfl) rfl rfl ?_; clear hF; clear a; intro a hF
            refine RL.skip hF rfl rfl (lkb rfl hg162) (.inl rfl) rfl rfl ?_; clear hF; clear a; intro a hF
            refine RL.val (v := .bool false) (w' := w115) hF rfl rfl rfl (r_pick hF rfl rfl rfl rfl (fun e => absurd (hg162.symm.trans e) (by decide)) (fun _ => rfl)) ?_; clear hF; clear a; intro a hF
            refine RL.nil ?_
            exact jn161 false _ _ (hF.sub rfl) h
        clear hJ
        refine seq_region fun K163 hK164 => ?_
        obtain ⟨J167, hJ, h⟩ := jn_open h
        have jn168 : ∀ (v165 : Bool) (w166 : World) a, Fr 203 a [(0, a0.v), (1, a1.v), (7, .pointer r6), (8, .pointer (some p19)), (9, .pointer (some p21)), (10, .int .i64 (bitsZ .and .i64 a2 16777215)), (11, r31.v), (128, .bool v165)] → J167 v165 w166 → K163 a w166 := by
          clear hF
          intro v165 w166 a hF h; replace h := hJ _ _ h; refine hK164 _ _ ?_; clear hJ hK164 K163
          obtain ⟨ht, hf⟩ := h
          refine cond_ hF rfl (fun hc => ?_) (fun hc => ?_)
          · replace h := ht hc; clear ht hf
            refine seq_region fun K169 hK170 => ?_
            refine RL.val  hF rfl rfl rfl (r_assign hF rfl rfl) ?_; clear hF; clear a; intro a hF
            refine RL.nil (hK170 _ _ ?_)
            clear hK170 K169
            refine wp_ret ?_
            exact ret_of hF (res1 hF rfl rfl) ⟨_, rfl, h⟩
          · replace h := hf hc; clear ht hf
            refine wp_skip ?_
            exact jn69 () _ _ (hF.sub rfl) h
        clear hJ hK164
        refine RL.val  hF rfl rfl rfl (r_move hF rfl rfl) ?_; clear hF; clear a; intro a hF
        refine RL.val  hF rfl rfl rfl (r_neq hF rfl rfl rfl) ?_; clear hF; clear a; intro a hF
        refine RL.val  hF rfl rfl rfl (r_move hF rfl rfl) ?_; clear hF; clear a; intro a hF
        obtain ⟨ht, hf⟩ := h
        rcases bool_cases (r32 != 0) with hg171 | hg171
        · replace h := ht hg171; clear ht hf
          refine RL.skip hF rfl rfl (lkb rfl hg171) (.inl rfl) rfl rfl ?_; clear hF; clear a; intro a hF
          refine RL.skip hF rfl rfl (lkb rfl hg171) (.inl rfl) rfl rfl ?_; clear hF; clear a; intro a hF
          refine RL.val (v := .bool true) (w' := w61) hF rfl rfl rfl (r_pick hF rfl rfl rfl rfl (fun _ => rfl) (fun e => absurd (hg171.symm.trans e) (by decide))) ?_; clear hF; clear a; intro a hF
          refine RL.val  hF rfl rfl rfl (r_move hF rfl rfl) ?_; clear hF; clear a; intro a hF
          refine RL.skip hF rfl rfl rfl (.inl rfl) rfl rfl ?_; clear hF; clear a; intro a hF
          refine RL.skip hF rfl rfl rfl (.inl rfl) rfl rfl ?_; clear hF; clear a; intro a hF
          refine RL.skip hF rfl rfl rfl (.inl rfl) rfl rfl ?_; clear hF; clear a; intro a hF
          refine RL.skip hF rfl rfl rfl (.inl rfl) rfl rfl ?_; clear hF; clear a; intro a hF
          refine RL.skip hF rfl rfl rfl (.inl rfl) rfl rfl ?_; clear hF; clear a; intro a hF
          refine RL.val (v := .bool true) (w' := w61) hF rfl rfl rfl (r_pick hF rfl rfl rfl rfl (fun _ => rfl) (fun e => absurd e (by decide))) ?_; clear hF; clear a; intro a hF
          refine RL.val  hF rfl rfl rfl (r_move hF rfl rfl) ?_; clear hF; clear a; intro a hF
          refine RL.skip hF rfl rfl rfl (.inl rfl) rfl rfl ?_; clear hF; clear a; intro a hF
          refine RL.skip hF rfl rfl rfl (.inl rfl) rfl rfl ?_; clear hF; clear a; intro a hF
          refine RL.skip hF rfl rfl rfl (.inl rfl) rfl rfl ?_; clear hF; clear a; intro a hF
          refine RL.skip hF rfl rfl rfl (.inl rfl) rfl rfl ?_; clear hF; clear a; intro a hF
          refine RL.skip hF rfl rfl rfl (.inl rfl) rfl rfl ?_; clear hF; clear a; intro a hF
          refine RL.skip hF rfl rfl rfl (.inl rfl) rfl rfl ?_; clear hF; clear a; intro a hF
          refine RL.val (v := .bool true) (w' := w61) hF rfl rfl rfl (r_pick hF rfl rfl rfl rfl (fun _ => rfl) (fun e => absurd e (by decide))) ?_; clear hF; clear a; intro a hF
          refine RL.val  hF rfl rfl rfl (r_move hF rfl rfl) ?_; clear hF; clear a; intro a hF
          refine RL.skip hF rfl rfl rfl (.inl rfl) rfl rfl ?_; clear hF; clear a; intro a hF
          refine RL.skip hF rfl rfl rfl (.inl rfl) rfl rfl ?_; clear hF; clear a; intro a hF
          refine RL.val (v := .bool true) (w' := w61) hF rfl rfl rfl (r_pick hF rfl rfl rfl rfl (fun _ => rfl) (fun e => absurd e (by decide))) ?_; clear hF; clear a; intro a hF
          refine RL.val  hF rfl rfl rfl (r_move hF rfl rfl) ?_; clear hF; clear a; intro a hF
          refine RL.skip hF rfl rfl rfl (.inl rfl) rfl rfl ?_; clear hF; clear a; intro a hF
          refine RL.skip hF rfl rfl rfl (.inl rfl) rfl rfl ?_; clear hF; clear a; intro a hF
          refine RL.val (v := .bool true) (w' := w61) hF rfl rfl rfl (r_pick hF rfl rfl rfl rfl (fun _ => rfl) (fun e => absurd e (by decide))) ?_; clear hF; clear a; intro a hF
          refine RL.val  hF rfl rfl rfl (r_move hF rfl rfl) ?_; clear hF; clear a; intro a hF
          refine RL.skip hF rfl rfl rfl (.inl rfl) rfl rfl ?_; clear hF; clear a; intro a hF
          refine RL.skip hF rfl rfl rfl (.inl rfl) rfl rfl ?_; clear hF; clear a; intro a hF
          refine RL.val (v := .bool true) (w' := w61) hF rfl rfl rfl (r_pick hF rfl rfl rfl rfl (fun _ => rfl) (fun e => absurd e (by decide))) ?_; clear hF; clear a; intro a hF
          refine RL.nil ?_
          exact jn168 true _ _ (hF.sub rfl) h
        · replace h := hf hg171; clear ht hf
          refine RL.gval  hF rfl rfl (lkb rfl hg171) rfl rfl (r_move hF rfl rfl) ?_; clear hF; clear a; intro a hF
          refine RL.gval  hF rfl rfl (lkb rfl hg171) rfl rfl (r_neq hF rfl rfl rfl) ?_; clear hF; clear a; intro a hF
          refine RL.val (v := .bool (r44 != 0)) (w' := w61) hF rfl rfl rfl (r_pick hF rfl rfl rfl rfl (fun e => absurd (hg171.symm.trans e) (by decide)) (fun _ => rfl)) ?_; clear hF; clear a; intro a hF
          refine RL.val  hF rfl rfl rfl (r_move hF rfl rfl) ?_; clear hF; clear a; intro a hF
          obtain ⟨ht, hf⟩ := h
          rcases bool_cases (r44 != 0) with hg172 | hg172
          · replace h := ht hg172; clear ht hf
            refine RL.skip hF rfl rfl (lkb rfl hg172) (.inl rfl) rfl rfl ?_; clear hF; clear a; intro a hF
            refine RL.skip hF rfl rfl (lkb rfl hg172) (.inl rfl) rfl rfl ?_; clear hF; clear a; intro a hF
            refine RL.skip hF rfl rfl (lkb rfl hg172) (.inl rfl) rfl rfl ?_; clear hF; clear a; intro a hF
            refine RL.skip hF rfl rfl (lkb rfl hg172) (.inl rfl) rfl rfl ?_; clear hF; clear a; intro a hF
            refine RL.skip hF rfl rfl (lkb rfl hg172) (.inl rfl) rfl rfl ?_; clear hF; clear a; intro a hF
            refine RL.val (v := .bool true) (w' := w61) hF rfl rfl rfl (r_pick hF rfl rfl rfl rfl (fun _ => rfl) (fun e => absurd (hg172.symm.trans e) (by decide))) ?_; clear hF; clear a; intro a hF
            refine RL.val  hF rfl rfl rfl (r_move hF rfl rfl) ?_; clear hF; clear a; intro a hF
            refine RL.skip hF rfl rfl rfl (.inl rfl) rfl rfl ?_; clear hF; clear a; intro a hF
            refine RL.skip hF rfl rfl rfl (.inl rfl) rfl rfl ?_; clear hF; clear a; intro a hF
            refine RL.skip hF rfl rfl rfl (.inl rfl) rfl rfl ?_; clear hF; clear a; intro a hF
            refine RL.skip hF rfl rfl rfl (.inl rfl) rfl rfl ?_; clear hF; clear a; intro a hF
            refine RL.skip hF rfl rfl rfl (.inl rfl) rfl rfl ?_; clear hF; clear a; intro a hF
            refine RL.skip hF rfl rfl rfl (.inl rfl) rfl rfl ?_; clear hF; clear a; intro a hF
            refine RL.val (v := .bool true) (w' := w61) hF rfl rfl rfl (r_pick hF rfl rfl rfl rfl (fun _ => rfl) (fun e => absurd e (by decide))) ?_; clear hF; clear a; intro a hF
            refine RL.val  hF rfl rfl rfl (r_move hF rfl rfl) ?_; clear hF; clear a; intro a hF
            refine RL.skip hF rfl rfl rfl (.inl rfl) rfl rfl ?_; clear hF; clear a; intro a hF
            refine RL.skip hF rfl rfl rfl (.inl rfl) rfl rfl ?_; clear hF; clear a; intro a hF
            refine RL.val (v := .bool true) (w' := w61) hF rfl rfl rfl (r_pick hF rfl rfl rfl rfl (fun _ => rfl) (fun e => absurd e (by decide))) ?_; clear hF; clear a; intro a hF
            refine RL.val  hF rfl rfl rfl (r_move hF rfl rfl) ?_; clear hF; clear a; intro a hF
            refine RL.skip hF rfl rfl rfl (.inl rfl) rfl rfl ?_; clear hF; clear a; intro a hF
            refine RL.skip hF rfl rfl rfl (.inl rfl) rfl rfl ?_; clear hF; clear a; intro a hF
            refine RL.val (v := .bool true) (w' := w61) hF rfl rfl rfl (r_pick hF rfl rfl rfl rfl (fun _ => rfl) (fun e => absurd e (by decide))) ?_; clear hF; clear a; intro a hF
            refine RL.val  hF rfl rfl rfl (r_move hF rfl rfl) ?_; clear hF; clear a; intro a hF
            refine RL.skip hF rfl rfl rfl (.inl rfl) rfl rfl ?_; clear hF; clear a; intro a hF
            refine RL.skip hF rfl rfl rfl (.inl rfl) rfl rfl ?_; clear hF; clear a; intro a hF
            refine RL.val (v := .bool true) (w' := w61) hF rfl rfl rfl (r_pick hF rfl rfl rfl rfl (fun _ => rfl) (fun e => absurd e (by decide))) ?_; clear hF; clear a; intro a hF
            refine RL.nil ?_
            exact jn168 true _ _ (hF.sub rfl) h
          · replace h := hf hg172; clear ht hf
            refine RL.gval  hF rfl rfl (lkb rfl hg172) rfl rfl (r_move hF rfl rfl) ?_; clear hF; clear a; intro a hF
            obtain ⟨t173, hct173, h⟩ := h
            refine RL.gval  hF rfl rfl (lkb rfl hg172) rfl rfl (r_conv hF rfl rfl hct173) ?_; clear hF; clear a; intro a hF
            refine RL.gval  hF rfl rfl (lkb rfl hg172) rfl rfl (r_move hF rfl rfl) ?_; clear hF; clear a; intro a hF
            obtain ⟨t174, hct174, h⟩ := h
            refine RL.gval  hF rfl rfl (lkb rfl hg172) rfl rfl (r_conv hF rfl rfl hct174) ?_; clear hF; clear a; intro a hF
            refine RL.gval  hF rfl rfl (lkb rfl hg172) rfl rfl (r_strne hF rfl rfl rfl) ?_; clear hF; clear a; intro a hF
            refine RL.val (v := .bool (!(t173.toList == t174.toList))) (w' := w61) hF rfl rfl rfl (r_pick hF rfl rfl rfl rfl (fun e => absurd (hg172.symm.trans e) (by decide)) (fun _ => rfl)) ?_; clear hF; clear a; intro a hF
            refine RL.val  hF rfl rfl rfl (r_move hF rfl rfl) ?_; clear hF; clear a; intro a hF
            obtain ⟨ht, hf⟩ := h
            rcases bool_cases (!(t173.toList == t174.toList)) with hg175 | hg175
            · replace h := ht hg175; clear ht hf
              refine RL.skip hF rfl rfl (lkb rfl hg175) (.inl rfl) rfl rfl ?_; clear hF; clear a; intro a hF
              refine RL.skip hF rfl rfl (lkb rfl hg175) (.inl rfl) rfl rfl ?_; clear hF; clear a; intro a hF
              refine RL.skip hF rfl rfl (lkb rfl hg175) (.inl rfl) rfl rfl ?_; clear hF; clear a; intro a hF
              refine RL.skip hF rfl rfl (lkb rfl hg175) (.inl rfl) rfl rfl ?_; clear hF; clear a; intro a hF
              refine RL.skip hF rfl rfl (lkb rfl hg175) (.inl rfl) rfl rfl ?_; clear hF; clear a; intro a hF
              refine RL.skip hF rfl rfl (lkb rfl hg175) (.inl rfl) rfl rfl ?_; clear hF; clear a; intro a hF
              refine RL.val (v := .bool true) (w' := w61) hF rfl rfl rfl (r_pick hF rfl rfl rfl rfl (fun _ => rfl) (fun e => absurd (hg175.symm.trans e) (by decide))) ?_; clear hF; clear a; intro a hF
              refine RL.val  hF rfl rfl rfl (r_move hF rfl rfl) ?_; clear hF; clear a; intro a hF
              refine RL.skip hF rfl rfl rfl (.inl rfl) rfl rfl ?_; clear hF; clear a; intro a hF
              refine RL.skip hF rfl rfl rfl (.inl rfl) rfl rfl ?_; clear hF; clear a; intro a hF
              refine RL.val (v := .bool true) (w' := w61) hF rfl rfl rfl (r_pick hF rfl rfl rfl rfl (fun _ => rfl) (fun e => absurd e (by decide))) ?_; clear hF; clear a; intro a hF
              refine RL.val  hF rfl rfl rfl (r_move hF rfl rfl) ?_; clear hF; clear a; intro a hF
              refine RL.skip hF rfl rfl rfl (.inl rfl) rfl rfl ?_; clear hF; clear a; intro a hF
              refine RL.skip hF rfl rfl rfl (.inl rfl) rfl rfl ?_; clear hF; clear a; intro a hF
              refine RL.val (v := .bool true) (w' := w61) hF rfl rfl rfl (r_pick hF rfl rfl rfl rfl (fun _ => rfl) (fun e => absurd e (by decide))) ?_; clear hF; clear a; intro a hF
              refine RL.val  hF rfl rfl rfl (r_move hF rfl rfl) ?_; clear hF; clear a; intro a hF
              refine RL.skip hF rfl rfl rfl (.inl rfl) rfl rfl ?_; clear hF; clear a; intro a hF
              refine RL.skip hF rfl rfl rfl (.inl rfl) rfl rfl ?_; clear hF; clear a; intro a hF
              refine RL.val (v := .bool true) (w' := w61) hF rfl rfl rfl (r_pick hF rfl rfl rfl rfl (fun _ => rfl) (fun e => absurd e (by decide))) ?_; clear hF; clear a; intro a hF
              refine RL.nil ?_
              exact jn168 true _ _ (hF.sub rfl) h
            · replace h := hf hg175; clear ht hf
              refine RL.gval  hF rfl rfl (lkb rfl hg175) rfl rfl (r_move hF rfl rfl) ?_; clear hF; clear a; intro a hF
              refine RL.gval  hF rfl rfl (lkb rfl hg175) rfl rfl (r_len_slice hF rfl rfl Tryd.runUnderlying22) ?_; clear hF; clear a; intro a hF
              refine RL.gval  hF rfl rfl (lkb rfl hg175) rfl rfl (r_move hF rfl rfl) ?_; clear hF; clear a; intro a hF
              refine RL.gval  hF rfl rfl (lkb rfl hg175) rfl rfl (r_len_slice hF rfl rfl Tryd.runUnderlying22) ?_; clear hF; clear a; intro a hF
              refine RL.gval  hF rfl rfl (lkb rfl hg175) rfl rfl (r_add hF rfl rfl rfl) ?_; clear hF; clear a; intro a hF
              refine RL.gval  hF rfl rfl (lkb rfl hg175) rfl rfl (r_neq hF rfl rfl rfl) ?_; clear hF; clear a; intro a hF
              refine RL.val (v := .bool ((r31.len : Int) != (IntKind.i64.wrap ((a0.len : Int) + 16)))) (w' := w61) hF rfl rfl rfl (r_pick hF rfl rfl rfl rfl (fun e => absurd (hg175.symm.trans e) (by decide)) (fun _ => rfl)) ?_; clear hF; clear a; intro a hF
              refine RL.val  hF rfl rfl rfl (r_move hF rfl rfl) ?_; clear hF; clear a; intro a hF
              obtain ⟨ht, hf⟩ := h
              rcases bool_cases ((r31.len : Int) != (IntKind.i64.wrap ((a0.len : Int) + 16))) with hg176 | hg176
              · replace h := ht hg176; clear ht hf
                refine RL.skip hF rfl rfl (lkb rfl hg176) (.inl rfl) rfl rfl ?_; clear hF; clear a; intro a hF
                refine RL.skip hF rfl rfl (lkb rfl hg176) (.inl rfl) rfl rfl ?_; clear hF; clear a; intro a hF
                refine RL.val (v := .bool true) (w' := w61) hF rfl rfl rfl (r_pick hF rfl rfl rfl rfl (fun _ => rfl) (fun e => absurd (hg176.symm.trans e) (by decide))) ?_; clear hF; clear a; intro a hF
                refine RL.val  hF rfl rfl rfl (r_move hF rfl rfl) ?_; clear hF; clear a; intro a hF
                refine RL.skip hF rfl rfl rfl (.inl rfl) rfl rfl ?_; clear hF; clear a; intro a hF
                refine RL.skip hF rfl rfl rfl (.inl rfl) rfl rfl ?_; clear hF; clear a; intro a hF
                refine RL.val (v := .bool true) (w' := w61) hF rfl rfl rfl (r_pick hF rfl rfl rfl rfl (fun _ => rfl) (fun e => absurd e (by decide))) ?_; clear hF; clear a; intro a hF
                refine RL.val  hF rfl rfl rfl (r_move hF rfl rfl) ?_; clear hF; clear a; intro a hF
                refine RL.skip hF rfl rfl rfl (.inl rfl) rfl rfl ?_; clear hF; clear a; intro a hF
                refine RL.skip hF rfl rfl rfl (.inl rfl) rfl rfl ?_; clear hF; clear a; intro a hF
                refine RL.val (v := .bool true) (w' := w61) hF rfl rfl rfl (r_pick hF rfl rfl rfl rfl (fun _ => rfl) (fun e => absurd e (by decide))) ?_; clear hF; clear a; intro a hF
                refine RL.nil ?_
                exact jn168 true _ _ (hF.sub rfl) h
              · replace h := hf hg176; clear ht hf
                refine RL.gval  hF rfl rfl (lkb rfl hg176) rfl rfl (r_move hF rfl rfl) ?_; clear hF; clear a; intro a hF
                refine RL.gval  hF rfl rfl (lkb rfl hg176) rfl rfl (r_neq hF rfl rfl rfl) ?_; clear hF; clear a; intro a hF
                refine RL.val (v := .bool (r50 != 20)) (w' := w61) hF rfl rfl rfl (r_pick hF rfl rfl rfl rfl (fun e => absurd (hg176.symm.trans e) (by decide)) (fun _ => rfl)) ?_; clear hF; clear a; intro a hF
                refine RL.val  hF rfl rfl rfl (r_move hF rfl rfl) ?_; clear hF; clear a; intro a hF
                obtain ⟨ht, hf⟩ := h
                rcases bool_cases (r50 != 20) with hg177 | hg177
                · replace h := ht hg177; clear ht hf
                  refine RL.skip hF rfl rfl (lkb rfl hg177) (.inl rfl) rfl rfl ?_; clear hF; clear a; intro a hF
                  refine RL.skip hF rfl rfl (lkb rfl hg177) (.inl rfl) rfl rfl ?_; clear hF; clear a; intro a hF
                  refine RL.val (v := .bool true) (w' := w61) hF rfl rfl rfl (r_pick hF rfl rfl rfl rfl (fun _ => rfl) (fun e => absurd (hg177.symm.trans e) (by decide))) ?_; clear hF; clear a; intro a hF
                  refine RL.val  hF rfl rfl rfl (r_move hF rfl rfl) ?_; clear hF; clear a; intro a hF
                  refine RL.skip hF rfl rfl rfl (.inl rfl) rfl rfl ?_; clear hF; clear a; intro a hF
                  refine RL.skip hF rfl rfl rfl (.inl rfl) rfl rfl ?_; clear hF; clear a; intro a hF
                  refine RL.val (v := .bool true) (w' := w61) hF rfl rfl rfl (r_pick hF rfl rfl rfl rfl (fun _ => rfl) (fun e => absurd e (by decide))) ?_; clear hF; clear a; intro a hF
                  refine RL.nil ?_
                  exact jn168 true _ _ (hF.sub rfl) h
                · replace h := hf hg177; clear ht hf
                  refine RL.gval  hF rfl rfl (lkb rfl hg177) rfl rfl (r_move hF rfl rfl) ?_; clear hF; clear a; intro a hF
                  refine RL.gval  hF rfl rfl (lkb rfl hg177) rfl rfl (r_neq hF rfl rfl rfl) ?_; clear hF; clear a; intro a hF
                  refine RL.val (v := .bool (r56 != 20)) (w' := w61) hF rfl rfl rfl (r_pick hF rfl rfl rfl rfl (fun e => absurd (hg177.symm.trans e) (by decide)) (fun _ => rfl)) ?_; clear hF; clear a; intro a hF
                  refine RL.val  hF rfl rfl rfl (r_move hF rfl rfl) ?_; clear hF; clear a; intro a hF
                  obtain ⟨ht, hf⟩ := h
                  rcases bool_cases (r56 != 20) with hg178 | hg178
                  · replace h := ht hg178; clear ht hf
                    refine RL.skip hF rfl rfl (lkb rfl hg178) (.inl rfl) rfl rfl ?_; clear hF; clear a; intro a hF
                    refine RL.skip hF rfl rfl (lkb rfl hg178) (.inl rfl) rfl rfl ?_; clear hF; clear a; intro a hF
                    refine RL.val (v := .bool true) (w' := w61) hF rfl rfl rfl (r_pick hF rfl rfl rfl rfl (fun _ => rfl) (fun e => absurd (hg178.symm.trans e) (by decide))) ?_; clear hF; clear a; intro a hF
                    refine RL.nil ?_
                    exact jn168 true _ _ (hF.sub rfl) h
                  · replace h := hf hg178; clear ht hf
                    refine RL.gval  hF rfl rfl (lkb rfl hg178) rfl rfl (r_move hF rfl rfl) ?_; clear hF; clear a; intro a hF
                    refine RL.gval  hF rfl rfl (lkb rfl hg178) rfl rfl (r_neq hF rfl rfl rfl) ?_; clear hF; clear a; intro a hF
                    refine RL.val (v := .bool (v60 != 20)) (w' := w61) hF rfl rfl rfl (r_pick hF rfl rfl rfl rfl (fun e => absurd (hg178.symm.trans e) (by decide)) (fun _ => rfl)) ?_; clear hF; clear a; intro a hF
                    refine RL.nil ?_
                    exact jn168 (v60 != 20) _ _ (hF.sub rfl) h
      clear hJ hK58
      refine GL.val (v := .pointer r6) (i := 0) hF hS rfl rfl (by kernel_rfl) rfl rfl rfl rfl (fun x => r_move hF rfl rfl) ?_; clear hF; clear a; intro a hF
      obtain ⟨t179, hct179, h⟩ := h
      refine GL.read (v := .agg t179) (i := 1) hF (fun x => CellsAt x p19 16 t179) hS rfl rfl (by kernel_rfl) rfl rfl rfl rfl hct179 (fun x hx => r_loadA hF rfl rfl Tryd.isAgg26 Tryd.sizeOf26 hx) ?_; clear hF; clear a; intro a hF
      refine GL.val (v := .int .i64 (bitsZ .and .i64 a2 16777215)) (i := 2) hF hS rfl rfl (by kernel_rfl) rfl rfl rfl rfl (fun x => r_move hF rfl rfl) ?_; clear hF; clear a; intro a hF
      refine GL.val (v := a1.v) (i := 4) hF hS rfl rfl (by kernel_rfl) rfl rfl rfl rfl (fun x => r_move hF rfl rfl) ?_; clear hF; clear a; intro a hF
      refine GL.val (v := r31.v) (i := 8) hF hS rfl rfl (by kernel_rfl) rfl rfl rfl rfl (fun x => r_move hF rfl rfl) ?_; clear hF; clear a; intro a hF
      obtain ⟨hb180, hb181⟩ := h
      refine GL.act2 (i1 := 3) (pend1 := [(1, fun x => CellsAt x p19 16 t179)]) (i2 := 6) (pend2 := [(1, fun x => CellsAt x p19 16 t179)]) hS (by kernel_rfl) rfl rfl (by kernel_rfl) (by kernel_rfl) ?_ ?_
      · replace h := hb180; clear hb181
        obtain ⟨p183, w182, hp_, hw_, h⟩ := h
        obtain ⟨hk184, h⟩ := h
        refine op_val (v := (Slc.mk (some p183) 0 0).v) (w' := w182) hF rfl rfl rfl rfl (by rw [hp_, hw_]; exact r_buildSlice (xs := []) hF rfl rfl (by kernel_rfl)) ⟨hk184, trivial⟩ ?_; clear hF; clear a; intro a hF
        obtain ⟨hb185, hb186⟩ := h
        refine GL.act2 (i1 := 5) (pend1 := [(1, fun x => CellsAt x p19 16 t179)]) (i2 := 6) (pend2 := [(1, fun x => CellsAt x p19 16 t179)]) hS (by kernel_rfl) rfl rfl (by kernel_rfl) (by kernel_rfl) ?_ ?_
        · replace h := hb185; clear hb186
          obtain ⟨t188, w187, hc_, h⟩ := h
          obtain ⟨hk189, h⟩ := h
          refine op_val  hF rfl rfl rfl rfl (r_append (xs := [(Slc.mk (some p183) 0 0).v, a1.v]) hF rfl rfl hc_) ⟨hk189, trivial⟩ ?_; clear hF; clear a; intro a hF
          refine GL.act (i := 6) (pend' := [(1, fun x => CellsAt x p19 16 t179)]) hS (by kernel_rfl) rfl (by kernel_rfl) ?_
          obtain ⟨p191, w190, hp_, hw_, h⟩ := h
          obtain ⟨hk192, h⟩ := h
          refine op_val (v := (Slc.mk (some p191) 1 1).v) (w' := w190) hF rfl rfl rfl rfl (by rw [hp_, hw_]; exact r_buildSlice (xs := [(0, .int .u8 1)]) hF rfl rfl (by kernel_rfl)) ⟨hk192, trivial⟩ ?_; clear hF; clear a; intro a hF
          refine GL.act (i := 7) (pend' := [(1, fun x => CellsAt x p19 16 t179)]) hS (by kernel_rfl) rfl (by kernel_rfl) ?_
          obtain ⟨t194, w193, hc_, h⟩ := h
          obtain ⟨hk195, h⟩ := h
          refine op_val  hF rfl rfl rfl rfl (r_append (xs := [t188.v, (Slc.mk (some p191) 1 1).v]) hF rfl rfl hc_) ⟨hk195, trivial⟩ ?_; clear hF; clear a; intro a hF
          refine GL.act (i := 9) (pend' := []) hS (by kernel_rfl) rfl (by kernel_rfl) ?_
          refine op_call hF rfl rfl rfl rfl (r_call (xs := [.pointer r6, .agg t179, .int .i64 (bitsZ .and .i64 a2 16777215), t194.v, r31.v]) hF rfl rfl Tryd.call8) (CallsV.mono h ?_)
          clear h; rintro _ w196 ⟨r197, r198, rfl, h⟩
          refine ⟨trivial, ?_⟩; clear hF; clear a; intro a hF
          refine GL.val (v := .tuple #[r197.v, .int .i64 r198]) (i := 10) hF hS rfl rfl (by kernel_rfl) rfl rfl rfl rfl (fun x => r_move hF rfl rfl) ?_; clear hF; clear a; intro a hF
          refine GL.val (v := r197.v) (i := 11) hF hS rfl rfl (by kernel_rfl) rfl rfl rfl rfl (fun x => r_extract hF rfl rfl rfl) ?_; clear hF; clear a; intro a hF
          refine GL.val (v := .int .i64 r198) (i := 12) hF hS rfl rfl (by kernel_rfl) rfl rfl rfl rfl (fun x => r_extract hF rfl rfl rfl) ?_; clear hF; clear a; intro a hF
          refine GL.val (v := r197.v) (i := 13) hF hS rfl rfl (by kernel_rfl) rfl rfl rfl rfl (fun x => r_assign hF rfl rfl) ?_; clear hF; clear a; intro a hF
          refine GL.val (v := .int .i64 r198) (i := 14) hF hS rfl rfl (by kernel_rfl) rfl rfl rfl rfl (fun x => r_assign hF rfl rfl) ?_; clear hF; clear a; intro a hF
          refine GL.done (by kernel_rfl) ?_
          exact jn63 r198 _ _ (hF.sub rfl) h
        · replace h := hb186; clear hb185
          obtain ⟨p200, w199, hp_, hw_, h⟩ := h
          obtain ⟨hk201, h⟩ := h
          refine op_val (v := (Slc.mk (some p200) 1 1).v) (w' := w199) hF rfl rfl rfl rfl (by rw [hp_, hw_]; exact r_buildSlice (xs := [(0, .int .u8 1)]) hF rfl rfl (by kernel_rfl)) ⟨hk201, trivial⟩ ?_; clear hF; clear a; intro a hF
          refine GL.act (i := 5) (pend' := [(1, fun x => CellsAt x p19 16 t179)]) hS (by kernel_rfl) rfl (by kernel_rfl) ?_
          obtain ⟨t203, w202, hc_, h⟩ := h
          obtain ⟨hk204, h⟩ := h
          refine op_val  hF rfl rfl rfl rfl (r_append (xs := [(Slc.mk (some p183) 0 0).v, a1.v]) hF rfl rfl hc_) ⟨hk204, trivial⟩ ?_; clear hF; clear a; intro a hF
          refine GL.act (i := 7) (pend' := [(1, fun x => CellsAt x p19 16 t179)]) hS (by kernel_rfl) rfl (by kernel_rfl) ?_
          obtain ⟨t206, w205, hc_, h⟩ := h
          obtain ⟨hk207, h⟩ := h
          refine op_val  hF rfl rfl rfl rfl (r_append (xs := [t203.v, (Slc.mk (some p200) 1 1).v]) hF rfl rfl hc_) ⟨hk207, trivial⟩ ?_; clear hF; clear a; intro a hF
          refine GL.act (i := 9) (pend' := []) hS (by kernel_rfl) rfl (by kernel_rfl) ?_
          refine op_call hF rfl rfl rfl rfl (r_call (xs := [.pointer r6, .agg t179, .int .i64 (bitsZ .and .i64 a2 16777215), t206.v, r31.v]) hF rfl rfl Tryd.call8) (CallsV.mono h ?_)
          clear h; rintro _ w208 ⟨r209, r210, rfl, h⟩
          refine ⟨trivial, ?_⟩; clear hF; clear a; intro a hF
          refine GL.val (v := .tuple #[r209.v, .int .i64 r210]) (i := 10) hF hS rfl rfl (by kernel_rfl) rfl rfl rfl rfl (fun x => r_move hF rfl rfl) ?_; clear hF; clear a; intro a hF
          refine GL.val (v := r209.v) (i := 11) hF hS rfl rfl (by kernel_rfl) rfl rfl rfl rfl (fun x => r_extract hF rfl rfl rfl) ?_; clear hF; clear a; intro a hF
          refine GL.val (v := .int .i64 r210) (i := 12) hF hS rfl rfl (by kernel_rfl) rfl rfl rfl rfl (fun x => r_extract hF rfl rfl rfl) ?_; clear hF; clear a; intro a hF
          refine GL.val (v := r209.v) (i := 13) hF hS rfl rfl (by kernel_rfl) rfl rfl rfl rfl (fun x => r_assign hF rfl rfl) ?_; clear hF; clear a; intro a hF
          refine GL.val (v := .int .i64 r210) (i := 14) hF hS rfl rfl (by kernel_rfl) rfl rfl rfl rfl (fun x => r_assign hF rfl rfl) ?_; clear hF; clear a; intro a hF
          refine GL.done (by kernel_rfl) ?_
          exact jn63 r210 _ _ (hF.sub rfl) h
      · replace h := hb181; clear hb180
        obtain ⟨p212, w211, hp_, hw_, h⟩ := h
        obtain ⟨hk213, h⟩ := h
        refine op_val (v := (Slc.mk (some p212) 1 1).v) (w' := w211) hF rfl rfl rfl rfl (by rw [hp_, hw_]; exact r_buildSlice (xs := [(0, .int .u8 1)]) hF rfl rfl (by kernel_rfl)) ⟨hk213, trivial⟩ ?_; clear hF; clear a; intro a hF
        refine GL.act (i := 3) (pend' := [(1, fun x => CellsAt x p19 16 t179)]) hS (by kernel_rfl) rfl (by kernel_rfl) ?_
        obtain ⟨p215, w214, hp_, hw_, h⟩ := h
        obtain ⟨hk216, h⟩ := h
        refine op_val (v := (Slc.mk (some p215) 0 0).v) (w' := w214) hF rfl rfl rfl rfl (by rw [hp_, hw_]; exact r_buildSlice (xs := []) hF rfl rfl (by kernel_rfl)) ⟨hk216, trivial⟩ ?_; clear hF; clear a; intro a hF
        refine GL.act (i := 5) (pend' := [(1, fun x => CellsAt x p19 16 t179)]) hS (by kernel_rfl) rfl (by kernel_rfl) ?_
        obtain ⟨t218, w217, hc_, h⟩ := h
        obtain ⟨hk219, h⟩ := h
        refine op_val  hF rfl rfl rfl rfl (r_append (xs := [(Slc.mk (some p215) 0 0).v, a1.v]) hF rfl rfl hc_) ⟨hk219, trivial⟩ ?_; clear hF; clear a; intro a hF
        refine GL.act (i := 7) (pend' := [(1, fun x => CellsAt x p19 16 t179)]) hS (by kernel_rfl) rfl (by kernel_rfl) ?_
        obtain ⟨t221, w220, hc_, h⟩ := h
        obtain ⟨hk222, h⟩ := h
        refine op_val  hF rfl rfl rfl rfl (r_append (xs := [t218.v, (Slc.mk (some p212) 1 1).v]) hF rfl rfl hc_) ⟨hk222, trivial⟩ ?_; clear hF; clear a; intro a hF
        refine GL.act (i := 9) (pend' := []) hS (by kernel_rfl) rfl (by kernel_rfl) ?_
        refine op_call hF rfl rfl rfl rfl (r_call (xs := [.pointer r6, .agg t179, .int .i64 (bitsZ .and .i64 a2 16777215), t221.v, r31.v]) hF rfl rfl Tryd.call8) (CallsV.mono h ?_)
        clear h; rintro _ w223 ⟨r224, r225, rfl, h⟩
        refine ⟨trivial, ?_⟩; clear hF; clear a; intro a hF
        refine GL.val (v := .tuple #[r224.v, .int .i64 r225]) (i := 10) hF hS rfl rfl (by kernel_rfl) rfl rfl rfl rfl (fun x => r_move hF rfl rfl) ?_; clear hF; clear a; intro a hF
        refine GL.val (v := r224.v) (i := 11) hF hS rfl rfl (by kernel_rfl) rfl rfl rfl rfl (fun x => r_extract hF rfl rfl rfl) ?_; clear hF; clear a; intro a hF
        refine GL.val (v := .int .i64 r225) (i := 12) hF hS rfl rfl (by kernel_rfl) rfl rfl rfl rfl (fun x => r_extract hF rfl rfl rfl) ?_; clear hF; clear a; intro a hF
        refine GL.val (v := r224.v) (i := 13) hF hS rfl rfl (by kernel_rfl) rfl rfl rfl rfl (fun x => r_assign hF rfl rfl) ?_; clear hF; clear a; intro a hF
        refine GL.val (v := .int .i64 r225) (i := 14) hF hS rfl rfl (by kernel_rfl) rfl rfl rfl rfl (fun x => r_assign hF rfl rfl) ?_; clear hF; clear a; intro a hF
        refine GL.done (by kernel_rfl) ?_
        exact jn63 r225 _ _ (hF.sub rfl) h
    clear hJ
    refine seq_region fun K226 hK227 => ?_
    refine RL.val  hF rfl rfl rfl (r_move hF rfl rfl) ?_; clear hF; clear a; intro a hF
    refine RL.val  hF rfl rfl rfl (r_len_slice hF rfl rfl Tryd.runUnderlying22) ?_; clear hF; clear a; intro a hF
    refine RL.val  hF rfl rfl rfl (r_gtr hF rfl rfl rfl) ?_; clear hF; clear a; intro a hF
    refine RL.nil (hK227 _ _ ?_)
    clear hK227 K226
    obtain ⟨ht, hf⟩ := h
    refine cond_ hF rfl (fun hc => ?_) (fun hc => ?_)
    · replace h := ht hc; clear ht hf
      refine seq_region fun K228 hK229 => ?_
      obtain ⟨J232, hJ, h⟩ := jn_open h
      have jn233 : ∀ (v230 : Bool) (w231 : World) a, Fr 203 a [(6, .bool v230)] → J232 v230 w231 → K228 a w231 := by
        clear hF
        intro v230 w231 a hF h; replace h := hJ _ _ h; refine hK229 _ _ ?_; clear hJ hK229 K228
        refine wp_ret ?_
        exact ret_of hF (res1 hF rfl rfl) ⟨_, rfl, h⟩
      clear hJ hK229
      refine RL.val  hF rfl rfl rfl (r_move hF rfl rfl) ?_; clear hF; clear a; intro a hF
      refine RL.val  hF rfl rfl rfl (r_eql hF rfl rfl rfl) ?_; clear hF; clear a; intro a hF
      refine RL.val  hF rfl rfl rfl (r_move hF rfl rfl) ?_; clear hF; clear a; intro a hF
      obtain ⟨ht, hf⟩ := h
      rcases bool_cases (r32 == 3) with hg234 | hg234
      · replace h := ht hg234; clear ht hf
        refine RL.gval  hF rfl rfl (lkb rfl hg234) rfl rfl (r_move hF rfl rfl) ?_; clear hF; clear a; intro a hF
        refine RL.gval  hF rfl rfl (lkb rfl hg234) rfl rfl (r_len_slice hF rfl rfl Tryd.runUnderlying22) ?_; clear hF; clear a; intro a hF
        refine RL.gval  hF rfl rfl (lkb rfl hg234) rfl rfl (r_eql hF rfl rfl rfl) ?_; clear hF; clear a; intro a hF
        refine RL.val (v := .bool ((r31.len : Int) == 0)) (w' := w30) hF rfl rfl rfl (r_pick hF rfl rfl rfl rfl (fun _ => rfl) (fun e => absurd (hg234.symm.trans e) (by decide))) ?_; clear hF; clear a; intro a hF
        refine RL.val  hF rfl rfl rfl (r_assign hF rfl rfl) ?_; clear hF; clear a; intro a hF
        refine RL.nil ?_
        exact jn233 ((r31.len : Int) == 0) _ _ (hF.sub rfl) h
      · replace h := hf hg234; clear ht hf
        refine RL.skip hF rfl rfl (lkb rfl hg234) (.inl rfl) rfl rfl ?_; clear hF; clear a; intro a hF
        refine RL.skip hF rfl rfl (lkb rfl hg234) (.inl rfl) rfl rfl ?_; clear hF; clear a; intro a hF
        refine RL.skip hF rfl rfl (lkb rfl hg234) (.inl rfl) rfl rfl ?_; clear hF; clear a; intro a hF
        refine RL.val (v := .bool false) (w' := w30) hF rfl rfl rfl (r_pick hF rfl rfl rfl rfl (fun e => absurd (hg234.symm.trans e) (by decide)) (fun _ => rfl)) ?_; clear hF; clear a; intro a hF
        refine RL.val  hF rfl rfl rfl (r_assign hF rfl rfl) ?_; clear hF; clear a; intro a hF
        refine RL.nil ?_
        exact jn233 false _ _ (hF.sub rfl) h
    · replace h := hf hc; clear ht hf
      refine wp_skip ?_
      exact jn38 () _ _ (hF.sub rfl) h
  clear hJ
  refine seq_region fun K235 hK236 => ?_
  refine RL.val  hF rfl rfl rfl (r_move hF rfl rfl) ?_; clear hF; clear a; intro a hF
  refine RL.val  hF rfl rfl rfl (r_ptrnil hF rfl rfl rfl Tryd.runUnderlying23) ?_; clear hF; clear a; intro a hF
  refine RL.nil (hK236 _ _ ?_)
  clear hK236 K235
  obtain ⟨ht, hf⟩ := h
  refine cond_ hF rfl (fun hc => ?_) (fun hc => ?_)
  · replace h := ht hc; clear ht hf
    refine seq_region fun K237 hK238 => ?_
    refine RL.val  hF rfl rfl rfl (r_assign hF rfl rfl) ?_; clear hF; clear a; intro a hF
    refine RL.nil (hK238 _ _ ?_)
    clear hK238 K237
    refine wp_ret ?_
    exact ret_of hF (res1 hF rfl rfl) ⟨_, rfl, h⟩
  · replace h := hf hc; clear ht hf
    refine wp_skip ?_
    exact jn12 () _ _ (hF.sub rfl) h

set_option maxRecDepth 20000 in
theorem br53 {a0 : Option Addr} {a1 : Slc} {w : World} {K : World → Prop} (h : sh53 a0 a1 w K) : C53 a0 a1 w K := by
  unfold sh53 at h
  refine enter (n := 39) (l := [(0, .pointer a0), (1, a1.v)]) 37 Tryd.func53 rfl _ rfl rfl rfl fun a hF => ?_
  refine seq_region fun K1 hK2 => ?_
  refine RL.val  hF rfl rfl rfl (r_assign hF rfl rfl) ?_; clear hF; clear a; intro a hF
  refine RL.nil (hK2 _ _ ?_)
  clear hK2 K1
  refine wp_block ?_
  refine loop_ (fun (s3 : Int) => [(0, .pointer a0), (1, a1.v), (4, .int .i64 s3)]) (hF.sub rfl) h ?_
  clear hF h
  intro s3 w4 N5 KL hN6 h a hF
  refine seq_k fun K7 hK8 => ?_
  obtain ⟨J, hJ, h⟩ := jn_open h
  have jn12 : ∀ (v9 : Unit) (w10 : World) a, Fr 39 a [(0, .pointer a0), (1, a1.v), (4, .int .i64 s3)] → J v9 w10 → K7 a w10 := by
    intro v9 w10 a hF h
    replace h := hJ _ _ h
    clear hJ
    refine hK8 _ _ ?_
    refine seq_k fun K13 hK14 => ?_
    obtain ⟨J, hJ, h⟩ := jn_open h
    have jn18 : ∀ (v15 : Unit) (w16 : World) a, Fr 39 a [(0, .pointer a0), (1, a1.v), (4, .int .i64 s3)] → J v15 w16 → K13 a w16 := by
      intro v15 w16 a hF h
      replace h := hJ _ _ h
      clear hJ
      refine hK14 _ _ ?_
      refine end_region fun K19 hK20 => ?_
      refine RL.val  hF rfl rfl rfl (r_move hF rfl rfl) ?_; clear hF; clear a; intro a hF
      refine RL.val  hF rfl rfl rfl (r_add hF rfl rfl rfl) ?_; clear hF; clear a; intro a hF
      refine RL.val  hF rfl rfl rfl (r_assign hF rfl rfl) ?_; clear hF; clear a; intro a hF
      refine RL.nil (hK20 _ _ ?_)
      clear hK20 K19
      exact hN6 (IntKind.i64.wrap (s3 + 1)) _ _ (hF.sub rfl) h
    clear hJ
    refine wp_block ?_
    refine seq_draw 0 #[0, 1, 3, 7, 15, 31, 63, 0, 0, 0, 512, 1920, 3968, 8064, 16383, 32767, 65535, 65535, 131071, 524287] 20 mo rfl (by kernel_rfl) (by kernel_rfl) fun hS K21 hK22 => ?_
    obtain ⟨w23, hw, h⟩ := h; rw [← hw]; clear hw
    refine GL.val (v := .pointer a0) (i := 0) hF hS rfl rfl (by kernel_rfl) rfl rfl rfl rfl (fun x => r_move hF rfl rfl) ?_; clear hF; clear a; intro a hF
    obtain ⟨p24, hpp24, h⟩ := h
    refine GL.val (v := .pointer (some p24)) (i := 1) hF hS rfl rfl (by kernel_rfl) rfl rfl rfl rfl (fun x => r_nilCheck hF rfl (lkp rfl hpp24)) ?_; clear hF; clear a; intro a hF
    refine GL.val (v := .pointer (some p24)) (i := 2) hF hS rfl rfl (by kernel_rfl) rfl rfl rfl rfl (fun x => r_fieldAddr0 hF rfl rfl Tryd.runUnderlying62 rfl Tryd.sizeOf23 rfl) ?_; clear hF; clear a; intro a hF
    obtain ⟨t25, hct25, h⟩ := h
    refine GL.read (v := .pointer t25) (i := 3) hF (fun x => World.cell? x p24 = some (.pointer t25)) hS rfl rfl (by kernel_rfl) rfl rfl rfl rfl hct25 (fun x hx => r_load hF rfl rfl Tryd.isAgg23 hx) ?_; clear hF; clear a; intro a hF
    obtain ⟨p26, hpp26, h⟩ := h
    refine GL.val (v := .pointer (some p26)) (i := 4) hF hS rfl rfl (by kernel_rfl) rfl rfl rfl rfl (fun x => r_nilCheck hF rfl (lkp rfl hpp26)) ?_; clear hF; clear a; intro a hF
    refine GL.val (v := .pointer (some (p26.add 2))) (i := 5) hF hS rfl rfl (by kernel_rfl) rfl rfl rfl rfl (fun x => r_fieldAddr hF rfl rfl Tryd.runUnderlying52 rfl Tryd.sizeOf49 rfl) ?_; clear hF; clear a; intro a hF
    obtain ⟨t27, hct27, h⟩ := h
    refine GL.read (v := .map t27) (i := 6) hF (fun x => World.cell? x (p26.add 2) = some (.map t27)) hS rfl rfl (by kernel_rfl) rfl rfl rfl rfl hct27 (fun x hx => r_load hF rfl rfl Tryd.isAgg49 hx) ?_; clear hF; clear a; intro a hF
    refine GL.val (v := a1.v) (i := 7) hF hS rfl rfl (by kernel_rfl) rfl rfl rfl rfl (fun x => r_move hF rfl rfl) ?_; clear hF; clear a; intro a hF
    refine GL.val (v := .int .i64 s3) (i := 8) hF hS rfl rfl (by kernel_rfl) rfl rfl rfl rfl (fun x => r_move hF rfl rfl) ?_; clear hF; clear a; intro a hF
    refine GL.val (v := .int .i64 s3) (i := 9) hF hS rfl rfl (by kernel_rfl) rfl rfl rfl rfl (fun x => r_move hF rfl rfl) ?_; clear hF; clear a; intro a hF
    refine GL.val (v := .int .i64 (IntKind.i64.wrap (s3 + 16))) (i := 10) hF hS rfl rfl (by kernel_rfl) rfl rfl rfl rfl (fun x => r_add hF rfl rfl rfl) ?_; clear hF; clear a; intro a hF
    obtain ⟨hs28, hs29, hs30, h⟩ := h
    refine GL.val (v := (a1.sub 1 s3.toNat ((IntKind.i64.wrap (s3 + 16)).toNat) a1.cap).v) (i := 11) hF hS rfl rfl (by kernel_rfl) rfl rfl rfl rfl (fun x => r_slice (lo' := some (.int .i64 s3)) (hi' := some (.int .i64 (IntKind.i64.wrap (s3 + 16)))) (mx' := none) hF rfl rfl rfl rfl rfl (slc_at Tryd.runUnderlying22 Tryd.sizeOf5 (bounds11 hs28 hs29 hs30))) ?_; clear hF; clear a; intro a hF
    obtain ⟨h0_, h⟩ := h
    refine GL.val (v := .pointer ((a1.sub 1 s3.toNat ((IntKind.i64.wrap (s3 + 16)).toNat) a1.cap).a)) (i := 12) hF hS rfl rfl (by kernel_rfl) rfl rfl rfl rfl (fun x => r_s2ap hF rfl rfl Tryd.runUnderlying26 h0_) ?_; clear hF; clear a; intro a hF
    obtain ⟨p32, hpp32, h⟩ := h
    obtain ⟨t31, hct31, h⟩ := h
    refine GL.read (v := .agg t31) (i := 13) hF (fun x => CellsAt x p32 16 t31) hS rfl rfl (by kernel_rfl) rfl rfl rfl rfl hct31 (fun x hx => r_loadA hF rfl (lkp rfl hpp32) Tryd.isAgg26 Tryd.sizeOf26 hx) ?_; clear hF; clear a; intro a hF
    obtain ⟨t33, t34, hct33, h⟩ := h
    refine GL.read (v := .tuple #[.int .i64 t33, .bool t34]) (i := 14) hF (fun x => rn Tryd.prog (Instr.lookup 49 (.map t27) (.agg t31) true) (.tuple #[.int .i64 t33, .bool t34]) x x) hS rfl rfl (by kernel_rfl) rfl rfl rfl rfl hct33 (fun x hx => r_lookup hF rfl rfl rfl hx) ?_; clear hF; clear a; intro a hF
    refine GL.val (v := .tuple #[.int .i64 t33, .bool t34]) (i := 15) hF hS rfl rfl (by kernel_rfl) rfl rfl rfl rfl (fun x => r_move hF rfl rfl) ?_; clear hF; clear a; intro a hF
    refine GL.val (v := .int .i64 t33) (i := 16) hF hS rfl rfl (by kernel_rfl) rfl rfl rfl rfl (fun x => r_extract hF rfl rfl rfl) ?_; clear hF; clear a; intro a hF
    refine GL.val (v := .bool t34) (i := 17) hF hS rfl rfl (by kernel_rfl) rfl rfl rfl rfl (fun x => r_extract hF rfl rfl rfl) ?_; clear hF; clear a; intro a hF
    refine GL.val (v := .int .i64 t33) (i := 18) hF hS rfl rfl (by kernel_rfl) rfl rfl rfl rfl (fun x => r_assign hF rfl rfl) ?_; clear hF; clear a; intro a hF
    refine GL.val (v := .bool t34) (i := 19) hF hS rfl rfl (by kernel_rfl) rfl rfl rfl rfl (fun x => r_assign hF rfl rfl) ?_; clear hF; clear a; intro a hF
    refine GL.done (by kernel_rfl) (hK22 _ _ ?_)
    clear hK22 K21
    refine seq_region fun K35 hK36 => ?_
    refine RL.val  hF rfl rfl rfl (r_move hF rfl rfl) ?_; clear hF; clear a; intro a hF
    refine RL.nil (hK36 _ _ ?_)
    clear hK36 K35
    obtain ⟨ht, hf⟩ := h
    refine cond_ hF rfl (fun hc => ?_) (fun hc => ?_)
    · replace h := ht hc; clear ht hf
      refine end_region fun K37 hK38 => ?_
      refine RL.val  hF rfl rfl rfl (r_move hF rfl rfl) ?_; clear hF; clear a; intro a hF
      obtain ⟨p39, hpp39, h⟩ := h
      refine RL.val  hF rfl rfl rfl (r_nilCheck hF rfl (lkp rfl hpp39)) ?_; clear hF; clear a; intro a hF
      refine RL.val  hF rfl rfl rfl (r_fieldAddr hF rfl rfl Tryd.runUnderlying62 rfl Tryd.sizeOf60 rfl) ?_; clear hF; clear a; intro a hF
      obtain ⟨t40, hct40, h⟩ := h
      refine RL.val  hF rfl rfl rfl (r_load hF rfl rfl Tryd.isAgg60 hct40) ?_; clear hF; clear a; intro a hF
      refine RL.val  hF rfl rfl rfl (r_move hF rfl rfl) ?_; clear hF; clear a; intro a hF
      obtain ⟨b42, p41, hb_, h0_, h1_, hp_, h⟩ := h
      refine RL.val (v := .pointer (some p41)) (w' := w23) hF rfl rfl rfl (by rw [hp_]; exact r_indexAddr hF rfl (lks rfl hb_) rfl Tryd.runUnderlying60 Tryd.sizeOf4 h0_ h1_) ?_; clear hF; clear a; intro a hF
      obtain ⟨u_, w43, hs1_, hs2_, hs3_, h⟩ := h
      refine RL.unit (w' := w43) hF rfl rfl (by rw [hs3_]; exact r_store hF rfl rfl rfl rfl Tryd.sizeOf4 hs1_ hs2_) ?_; clear hF; clear a; intro a hF
      refine RL.nil (hK38 _ _ ?_)
      clear hK38 K37
      exact jn18 () _ _ (hF.sub rfl) h
    · replace h := hf hc; clear ht hf
      refine wp_skip ?_
      exact jn18 () _ _ (hF.sub rfl) h
  clear hJ
  refine seq_region fun K44 hK45 => ?_
  refine RL.val  hF rfl rfl rfl (r_move hF rfl rfl) ?_; clear hF; clear a; intro a hF
  refine RL.val  hF rfl rfl rfl (r_add hF rfl rfl rfl) ?_; clear hF; clear a; intro a hF
  refine RL.val  hF rfl rfl rfl (r_move hF rfl rfl) ?_; clear hF; clear a; intro a hF
  refine RL.val  hF rfl rfl rfl (r_len_slice hF rfl rfl Tryd.runUnderlying22) ?_; clear hF; clear a; intro a hF
  refine RL.val  hF rfl rfl rfl (r_leq hF rfl rfl rfl) ?_; clear hF; clear a; intro a hF
  refine RL.nil (hK45 _ _ ?_)
  clear hK45 K44
  obtain ⟨ht, hf⟩ := h
  refine cond_ hF rfl (fun hc => ?_) (fun hc => ?_)
  · replace h := ht hc; clear ht hf
    refine wp_skip ?_
    exact jn12 () _ _ (hF.sub rfl) h
  · replace h := hf hc; clear ht hf
    refine wp_exit ?_
    exact end_of hF (res0 rfl) ⟨rfl, h⟩

set_option maxRecDepth 20000 in
theorem br54 {a0 : Option Addr} {a1 : Array Value} {w : World} {K : Bool → World → Prop} (h : sh54 a0 a1 w K) : C54 a0 a1 w K := by
  unfold sh54 at h
  refine enter (n := 39) (l := [(0, .pointer a0), (1, .agg a1)]) 37 Tryd.func54 rfl _ rfl rfl rfl fun a hF => ?_
  refine seq_region fun K1 hK2 => ?_
  obtain ⟨p3, w4, hp_, hw_, h⟩ := h
  refine RL.val (v := .pointer (some p3)) (w' := w4) hF rfl rfl rfl (by rw [hp_, hw_]; exact r_box hF rfl rfl rfl) ?_; clear hF; clear a; intro a hF
  refine RL.val  hF rfl rfl rfl (r_assign hF rfl rfl) ?_; clear hF; clear a; intro a hF
  refine RL.nil (hK2 _ _ ?_)
  clear hK2 K1
  refine seq_k fun K5 hK6 => ?_
  obtain ⟨J, hJ, h⟩ := jn_open h
  have jn10 : ∀ (v7 : Unit) (w8 : World) a, Fr 39 a [] → J v7 w8 → K5 a w8 := by
    intro v7 w8 a hF h
    replace h := hJ _ _ h
    clear hJ
    refine hK6 _ _ ?_
    refine seq_region fun K11 hK12 => ?_
    refine RL.val  hF rfl rfl rfl (r_assign hF rfl rfl) ?_; clear hF; clear a; intro a hF
    refine RL.nil (hK12 _ _ ?_)
    clear hK12 K11
    refine wp_ret ?_
    exact ret_of hF (res1 hF rfl rfl) ⟨_, rfl, h⟩
  clear hJ
  refine seq_region fun K13 hK14 => ?_
  refine RL.val  hF rfl rfl rfl (r_fieldAddr0 hF rfl rfl Tryd.runUnderlying55 rfl Tryd.sizeOf3 rfl) ?_; clear hF; clear a; intro a hF
  obtain ⟨t15, hct15, h⟩ := h
  refine RL.val  hF rfl rfl rfl (r_load hF rfl rfl Tryd.isAgg3 hct15) ?_; clear hF; clear a; intro a hF
  refine RL.nil (hK14 _ _ ?_)
  clear hK14 K13
  refine wp_block ?_
  refine seq_k fun K16 hK17 => ?_
  obtain ⟨J, hJ, h⟩ := jn_open h
  have jn21 : ∀ (v18 : Bool) (w19 : World) a, Fr 39 a [(0, .pointer a0), (3, .pointer (some p3)), (6, .int .i64 t15), (7, .bool v18)] → J v18 w19 → K16 a w19 := by
    intro v18 w19 a hF h
    replace h := hJ _ _ h
    clear hJ
    refine hK17 _ _ ?_
    obtain ⟨ht, hf⟩ := h
    refine cond_ hF rfl (fun hc => ?_) (fun hc => ?_)
    · replace h := ht hc; clear ht hf
      refine seq_draw 0 #[0, 1, 3, 7, 0, 16, 63, 127, 255] 9 mo rfl (by kernel_rfl) (by kernel_rfl) fun hS K22 hK23 => ?_
      obtain ⟨w24, hw, h⟩ := h; rw [← hw]; clear hw
      refine GL.val (v := .pointer a0) (i := 0) hF hS rfl rfl (by kernel_rfl) rfl rfl rfl rfl (fun x => r_move hF rfl rfl) ?_; clear hF; clear a; intro a hF
      obtain ⟨p25, hpp25, h⟩ := h
      refine GL.val (v := .pointer (some p25)) (i := 1) hF hS rfl rfl (by kernel_rfl) rfl rfl rfl rfl (fun x => r_nilCheck hF rfl (lkp rfl hpp25)) ?_; clear hF; clear a; intro a hF
      refine GL.val (v := .pointer (some (p25.add 1))) (i := 2) hF hS rfl rfl (by kernel_rfl) rfl rfl rfl rfl (fun x => r_fieldAddr hF rfl rfl Tryd.runUnderlying62 rfl Tryd.sizeOf60 rfl) ?_; clear hF; clear a; intro a hF
      obtain ⟨t26, hct26, h⟩ := h
      refine GL.read (v := t26.v) (i := 3) hF (fun x => World.cell? x (p25.add 1) = some (t26.v)) hS rfl rfl (by kernel_rfl) rfl rfl rfl rfl hct26 (fun x hx => r_load hF rfl rfl Tryd.isAgg60 hx) ?_; clear hF; clear a; intro a hF
      refine GL.val (v := .pointer (some (p3.add 1))) (i := 4) hF hS rfl rfl (by kernel_rfl) rfl rfl rfl rfl (fun x => r_fieldAddr hF rfl rfl Tryd.runUnderlying55 rfl Tryd.sizeOf3 rfl) ?_; clear hF; clear a; intro a hF
      obtain ⟨t27, hct27, h⟩ := h
      refine GL.read (v := .int .i64 t27) (i := 5) hF (fun x => World.cell? x (p3.add 1) = some (.int .i64 t27)) hS rfl rfl (by kernel_rfl) rfl rfl rfl rfl hct27 (fun x hx => r_load hF rfl rfl Tryd.isAgg3 hx) ?_; clear hF; clear a; intro a hF
      obtain ⟨b29, p28, hb_, h0_, h1_, hp_, h⟩ := h
      refine GL.val (v := .pointer (some p28)) (i := 6) hF hS rfl rfl (by kernel_rfl) rfl rfl rfl rfl (fun x => by rw [hp_]; exact r_indexAddr hF rfl (lks rfl hb_) rfl Tryd.runUnderlying60 Tryd.sizeOf4 h0_ h1_) ?_; clear hF; clear a; intro a hF
      obtain ⟨t30, hct30, h⟩ := h
      refine GL.read (v := .bool t30) (i := 7) hF (fun x => World.cell? x p28 = some (.bool t30)) hS rfl rfl (by kernel_rfl) rfl rfl rfl rfl hct30 (fun x hx => r_load hF rfl rfl Tryd.isAgg4 hx) ?_; clear hF; clear a; intro a hF
      refine GL.val (v := .bool t30) (i := 8) hF hS rfl rfl (by kernel_rfl) rfl rfl rfl rfl (fun x => r_assign hF rfl rfl) ?_; clear hF; clear a; intro a hF
      refine GL.done (by kernel_rfl) (hK23 _ _ ?_)
      clear hK23 K22
      refine wp_ret ?_
      exact ret_of hF (res1 hF rfl rfl) ⟨_, rfl, h⟩
    · replace h := hf hc; clear ht hf
      refine seq_region fun K31 hK32 => ?_
      refine RL.val  hF rfl rfl rfl (r_eql hF rfl rfl rfl) ?_; clear hF; clear a; intro a hF
      refine RL.val  hF rfl rfl rfl (r_assign hF rfl rfl) ?_; clear hF; clear a; intro a hF
      refine RL.nil (hK32 _ _ ?_)
      clear hK32 K31
      obtain ⟨ht, hf⟩ := h
      refine cond_ hF rfl (fun hc => ?_) (fun hc => ?_)
      · replace h := ht hc; clear ht hf
        refine seq_draw 0 #[0, 1, 3, 7, 0, 16, 63, 127, 255, 511, 1023, 2047, 4095, 511, 8703, 32767, 65535, 131071, 262143] 19 mo rfl (by kernel_rfl) (by kernel_rfl) fun hS K33 hK34 => ?_
        obtain ⟨w35, hw, h⟩ := h; rw [← hw]; clear hw
        obtain ⟨J38, hJ, h⟩ := jn_open h
        have jn39 : ∀ (v36 : Bool) (w37 : World) a, Fr 39 a [(4, .bool v36)] → J38 v36 w37 → K33 a w37 := by
          clear hF
          intro v36 w37 a hF h; replace h := hJ _ _ h; refine hK34 _ _ ?_; clear hJ hK34 K33
          refine wp_ret ?_
          exact ret_of hF (res1 hF rfl rfl) ⟨_, rfl, h⟩
        clear hJ hK34
        refine GL.val (v := .pointer a0) (i := 0) hF hS rfl rfl (by kernel_rfl) rfl rfl rfl rfl (fun x => r_move hF rfl rfl) ?_; clear hF; clear a; intro a hF
        obtain ⟨p40, hpp40, h⟩ := h
        refine GL.val (v := .pointer (some p40)) (i := 1) hF hS rfl rfl (by kernel_rfl) rfl rfl rfl rfl (fun x => r_nilCheck hF rfl (lkp rfl hpp40)) ?_; clear hF; clear a; intro a hF
        refine GL.val (v := .pointer (some (p40.add 1))) (i := 2) hF hS rfl rfl (by kernel_rfl) rfl rfl rfl rfl (fun x => r_fieldAddr hF rfl rfl Tryd.runUnderlying62 rfl Tryd.sizeOf60 rfl) ?_; clear hF; clear a; intro a hF
        obtain ⟨t41, hct41, h⟩ := h
        refine GL.read (v := t41.v) (i := 3) hF (fun x => World.cell? x (p40.add 1) = some (t41.v)) hS rfl rfl (by kernel_rfl) rfl rfl rfl rfl hct41 (fun x hx => r_load hF rfl rfl Tryd.isAgg60 hx) ?_; clear hF; clear a; intro a hF
        refine GL.val (v := .pointer (some (p3.add 1))) (i := 4) hF hS rfl rfl (by kernel_rfl) rfl rfl rfl rfl (fun x => r_fieldAddr hF rfl rfl Tryd.runUnderlying55 rfl Tryd.sizeOf3 rfl) ?_; clear hF; clear a; intro a hF
        obtain ⟨t42, hct42, h⟩ := h
        refine GL.read (v := .int .i64 t42) (i := 5) hF (fun x => World.cell? x (p3.add 1) = some (.int .i64 t42)) hS rfl rfl (by kernel_rfl) rfl rfl rfl rfl hct42 (fun x hx => r_load hF rfl rfl Tryd.isAgg3 hx) ?_; clear hF; clear a; intro a hF
        obtain ⟨b44, p43, hb_, h0_, h1_, hp_, h⟩ := h
        refine GL.val (v := .pointer (some p43)) (i := 6) hF hS rfl rfl (by kernel_rfl) rfl rfl rfl rfl (fun x => by rw [hp_]; exact r_indexAddr hF rfl (lks rfl hb_) rfl Tryd.runUnderlying60 Tryd.sizeOf4 h0_ h1_) ?_; clear hF; clear a; intro a hF
        obtain ⟨t45, hct45, h⟩ := h
        refine GL.read (v := .bool t45) (i := 7) hF (fun x => World.cell? x p43 = some (.bool t45)) hS rfl rfl (by kernel_rfl) rfl rfl rfl rfl hct45 (fun x hx => r_load hF rfl rfl Tryd.isAgg4 hx) ?_; clear hF; clear a; intro a hF
        refine GL.val (v := .bool t45) (i := 8) hF hS rfl rfl (by kernel_rfl) rfl rfl rfl rfl (fun x => r_move hF rfl rfl) ?_; clear hF; clear a; intro a hF
        obtain ⟨ht, hf⟩ := h
        rcases bool_cases t45 with hg46 | hg46
        · replace h := ht hg46; clear ht hf
          refine GL.skip (i := 9) hF hS rfl rfl (by kernel_rfl) rfl rfl rfl (lkb rfl hg46) (.inl rfl) rfl rfl ?_; clear hF; clear a; intro a hF
          refine GL.skip (i := 10) hF hS rfl rfl (by kernel_rfl) rfl rfl rfl (lkb rfl hg46) (.inl rfl) rfl rfl ?_; clear hF; clear a; intro a hF
          refine GL.skip (i := 11) hF hS rfl rfl (by kernel_rfl) rfl rfl rfl (lkb rfl hg46) (.inl rfl) rfl rfl ?_; clear hF; clear a; intro a hF
          refine GL.skip (i := 12) hF hS rfl rfl (by kernel_rfl) rfl rfl rfl (lkb rfl hg46) (.inl rfl) rfl rfl ?_; clear hF; clear a; intro a hF
          refine GL.skip (i := 13) hF hS rfl rfl (by kernel_rfl) rfl rfl rfl (lkb rfl hg46) (.inl rfl) rfl rfl ?_; clear hF; clear a; intro a hF
          refine GL.skip (i := 14) hF hS rfl rfl (by kernel_rfl) rfl rfl rfl (lkb rfl hg46) (.inl rfl) rfl rfl ?_; clear hF; clear a; intro a hF
          refine GL.skip (i := 15) hF hS rfl rfl (by kernel_rfl) rfl rfl rfl (lkb rfl hg46) (.inl rfl) rfl rfl ?_; clear hF; clear a; intro a hF
          refine GL.skip (i := 16) hF hS rfl rfl (by kernel_rfl) rfl rfl rfl (lkb rfl hg46) (.inl rfl) rfl rfl ?_; clear hF; clear a; intro a hF
          refine GL.val (v := .bool true) (i := 17) hF hS rfl rfl (by kernel_rfl) rfl rfl rfl rfl (fun x => r_pick hF rfl rfl rfl rfl (fun _ => rfl) (fun e => absurd (hg46.symm.trans e) (by decide))) ?_; clear hF; clear a; intro a hF
          refine GL.val (v := .bool true) (i := 18) hF hS rfl rfl (by kernel_rfl) rfl rfl rfl rfl (fun x => r_assign hF rfl rfl) ?_; clear hF; clear a; intro a hF
          refine GL.done (by kernel_rfl) ?_
          exact jn39 true _ _ (hF.sub rfl) h
        · replace h := hf hg46; clear ht hf
          refine GL.gval (v := .pointer a0) (i := 9) hF hS rfl rfl (by kernel_rfl) rfl rfl rfl (lkb rfl hg46) rfl rfl (fun x => r_move hF rfl rfl) ?_; clear hF; clear a; intro a hF
          obtain ⟨p47, hpp47, h⟩ := h
          refine GL.gval (v := .pointer (some p47)) (i := 10) hF hS rfl rfl (by kernel_rfl) rfl rfl rfl (lkb rfl hg46) rfl rfl (fun x => r_nilCheck hF rfl (lkp rfl hpp47)) ?_; clear hF; clear a; intro a hF
          refine GL.gval (v := .pointer (some (p47.add 1))) (i := 11) hF hS rfl rfl (by kernel_rfl) rfl rfl rfl (lkb rfl hg46) rfl rfl (fun x => r_fieldAddr hF rfl rfl Tryd.runUnderlying62 rfl Tryd.sizeOf60 rfl) ?_; clear hF; clear a; intro a hF
          obtain ⟨t48, hct48, h⟩ := h
          refine GL.gread (v := t48.v) (i := 12) hF (fun x => World.cell? x (p47.add 1) = some (t48.v)) hS rfl rfl (by kernel_rfl) rfl rfl rfl (lkb rfl hg46) rfl rfl hct48 (fun x hx => r_load hF rfl rfl Tryd.isAgg60 hx) ?_; clear hF; clear a; intro a hF
          refine GL.gval (v := .pointer (some (p3.add 2))) (i := 13) hF hS rfl rfl (by kernel_rfl) rfl rfl rfl (lkb rfl hg46) rfl rfl (fun x => r_fieldAddr hF rfl rfl Tryd.runUnderlying55 rfl Tryd.sizeOf3 rfl) ?_; clear hF; clear a; intro a hF
          obtain ⟨t49, hct49, h⟩ := h
          refine GL.gread (v := .int .i64 t49) (i := 14) hF (fun x => World.cell? x (p3.add 2) = some (.int .i64 t49)) hS rfl rfl (by kernel_rfl) rfl rfl rfl (lkb rfl hg46) rfl rfl hct49 (fun x hx => r_load hF rfl rfl Tryd.isAgg3 hx) ?_; clear hF; clear a; intro a hF
          obtain ⟨b51, p50, hb_, h0_, h1_, hp_, h⟩ := h
          refine GL.gval (v := .pointer (some p50)) (i := 15) hF hS rfl rfl (by kernel_rfl) rfl rfl rfl (lkb rfl hg46) rfl rfl (fun x => by rw [hp_]; exact r_indexAddr hF rfl (lks rfl hb_) rfl Tryd.runUnderlying60 Tryd.sizeOf4 h0_ h1_) ?_; clear hF; clear a; intro a hF
          obtain ⟨t52, hct52, h⟩ := h
          refine GL.gread (v := .bool t52) (i := 16) hF (fun x => World.cell? x p50 = some (.bool t52)) hS rfl rfl (by kernel_rfl) rfl rfl rfl (lkb rfl hg46) rfl rfl hct52 (fun x hx => r_load hF rfl rfl Tryd.isAgg4 hx) ?_; clear hF; clear a; intro a hF
          refine GL.val (v := .bool t52) (i := 17) hF hS rfl rfl (by kernel_rfl) rfl rfl rfl rfl (fun x => r_pick hF rfl rfl rfl rfl (fun e => absurd (hg46.symm.trans e) (by decide)) (fun _ => rfl)) ?_; clear hF; clear a; intro a hF
          refine GL.val (v := .bool t52) (i := 18) hF hS rfl rfl (by kernel_rfl) rfl rfl rfl rfl (fun x => r_assign hF rfl rfl) ?_; clear hF; clear a; intro a hF
          refine GL.done (by kernel_rfl) ?_
          exact jn39 t52 _ _ (hF.sub rfl) h
      · replace h := hf hc; clear ht hf
        refine wp_skip ?_
        exact jn10 () _ _ (hF.sub rfl) h
  clear hJ
  refine seq_region fun K53 hK54 => ?_
  refine RL.val  hF rfl rfl rfl (r_eql hF rfl rfl rfl) ?_; clear hF; clear a; intro a hF
  refine RL.val  hF rfl rfl rfl (r_assign hF rfl rfl) ?_; clear hF; clear a; intro a hF
  refine RL.nil (hK54 _ _ ?_)
  clear hK54 K53
  obtain ⟨ht, hf⟩ := h
  refine cond_ hF rfl (fun hc => ?_) (fun hc => ?_)
  · replace h := ht hc; clear ht hf
    refine wp_skip ?_
    exact jn21 (t15 == 2) _ _ (hF.sub rfl) h
  · replace h := hf hc; clear ht hf
    refine seq_region fun K55 hK56 => ?_
    refine RL.val  hF rfl rfl rfl (r_eql hF rfl rfl rfl) ?_; clear hF; clear a; intro a hF
    refine RL.val  hF rfl rfl rfl (r_assign hF rfl rfl) ?_; clear hF; clear a; intro a hF
    refine RL.nil (hK56 _ _ ?_)
    clear hK56 K55
    obtain ⟨ht, hf⟩ := h
    refine cond_ hF rfl (fun hc => ?_) (fun hc => ?_)
    · replace h := ht hc; clear ht hf
      refine wp_skip ?_
      exact jn21 (t15 == 3) _ _ (hF.sub rfl) h
    · replace h := hf hc; clear ht hf
      refine end_region fun K57 hK58 => ?_
      refine RL.val  hF rfl rfl rfl (r_eql hF rfl rfl rfl) ?_; clear hF; clear a; intro a hF
      refine RL.val  hF rfl rfl rfl (r_assign hF rfl rfl) ?_; clear hF; clear a; intro a hF
      refine RL.nil (hK58 _ _ ?_)
      clear hK58 K57
      exact jn21 (t15 == 5) _ _ (hF.sub rfl) h

set_option maxRecDepth 20000 in
theorem br52 {c0 : Option Addr} {c1 : Option Addr} {c2 : Option Addr} {w : World} {K : Bool → World → Prop} (h : sh52 c0 c1 c2 w K) : C52 c0 c1 c2 w K := by
  unfold sh52 at h
  refine enter (n := 100) (l := [(0, .pointer c0), (1, .pointer c1), (2, .pointer c2)]) 97 Tryd.func52 rfl _ rfl rfl rfl fun a hF => ?_
  refine seq_region fun K1 hK2 => ?_
  refine RL.val  hF rfl rfl rfl (r_assign hF rfl rfl) ?_; clear hF; clear a; intro a hF
  refine RL.nil (hK2 _ _ ?_)
  clear hK2 K1
  refine seq_k fun K3 hK4 => ?_
  obtain ⟨J, hJ, h⟩ := jn_open h
  have jn8 : ∀ (v5 : Unit) (w6 : World) a, Fr 100 a [(0, .pointer c0), (1, .pointer c1), (2, .pointer c2)] → J v5 w6 → K3 a w6 := by
    intro v5 w6 a hF h
    replace h := hJ _ _ h
    clear hJ
    refine hK4 _ _ ?_
    refine seq_region fun K9 hK10 => ?_
    obtain ⟨p12, hpp12, h⟩ := h
    obtain ⟨t11, hct11, h⟩ := h
    refine RL.val  hF rfl rfl rfl (r_load hF rfl (lkp rfl hpp12) Tryd.isAgg58 hct11) ?_; clear hF; clear a; intro a hF
    obtain ⟨p13, hpp13, h⟩ := h
    refine RL.val  hF rfl rfl rfl (r_nilCheck hF rfl (lkp rfl hpp13)) ?_; clear hF; clear a; intro a hF
    refine RL.val  hF rfl rfl rfl (r_fieldAddr hF rfl rfl Tryd.runUnderlying62 rfl Tryd.sizeOf31 rfl) ?_; clear hF; clear a; intro a hF
    obtain ⟨u_, w14, hs1_, hs2_, hs3_, h⟩ := h
    refine RL.unit (w' := w14) hF rfl rfl (by rw [hs3_]; exact r_store hF rfl rfl rfl rfl Tryd.sizeOf31 hs1_ hs2_) ?_; clear hF; clear a; intro a hF
    refine RL.nil (hK10 _ _ ?_)
    clear hK10 K9
    refine seq_region fun K15 hK16 => ?_
    refine RL.val  hF rfl rfl rfl (r_assign hF rfl rfl) ?_; clear hF; clear a; intro a hF
    refine RL.nil (hK16 _ _ ?_)
    clear hK16 K15
    refine seq_k fun K17 hK18 => ?_
    obtain ⟨J, hJ, h⟩ := jn_open h
    have jn22 : ∀ (v19 : Bool) (w20 : World) a, Fr 100 a [(6, .bool v19)] → J v19 w20 → K17 a w20 := by
      intro v19 w20 a hF h
      replace h := hJ _ _ h
      clear hJ
      refine hK18 _ _ ?_
      refine seq_region fun K23 hK24 => ?_
      refine RL.val  hF rfl rfl rfl (r_move hF rfl rfl) ?_; clear hF; clear a; intro a hF
      refine RL.val  hF rfl rfl rfl (r_assign hF rfl rfl) ?_; clear hF; clear a; intro a hF
      refine RL.nil (hK24 _ _ ?_)
      clear hK24 K23
      refine wp_ret ?_
      exact ret_of hF (res1 hF rfl rfl) ⟨_, rfl, h⟩
    clear hJ
    refine seq_region fun K25 hK26 => ?_
    obtain ⟨p28, hpp28, h⟩ := h
    obtain ⟨t27, hct27, h⟩ := h
    refine RL.val  hF rfl rfl rfl (r_load hF rfl (lkp rfl hpp28) Tryd.isAgg23 hct27) ?_; clear hF; clear a; intro a hF
    obtain ⟨p29, hpp29, h⟩ := h
    refine RL.val  hF rfl rfl rfl (r_nilCheck hF rfl (lkp rfl hpp29)) ?_; clear hF; clear a; intro a hF
    refine RL.val  hF rfl rfl rfl (r_fieldAddr0 hF rfl rfl Tryd.runUnderlying52 rfl Tryd.sizeOf50 rfl) ?_; clear hF; clear a; intro a hF
    obtain ⟨t30, hct30, h⟩ := h
    refine RL.val  hF rfl rfl rfl (r_load hF rfl rfl Tryd.isAgg50 hct30) ?_; clear hF; clear a; intro a hF
    refine RL.val  hF rfl rfl rfl (r_len_slice hF rfl rfl Tryd.runUnderlying50) ?_; clear hF; clear a; intro a hF
    refine RL.val  hF rfl rfl rfl (r_move hF rfl rfl) ?_; clear hF; clear a; intro a hF
    refine RL.nil (hK26 _ _ ?_)
    clear hK26 K25
    refine wp_block ?_
    refine loop_ (fun (s31 : Bool × Int) => [(0, .pointer c0), (2, .pointer c2), (6, .bool s31.1), (28, t30.v), (29, .int .i64 (t30.len : Int)), (30, .int .i64 s31.2)]) (hF.sub rfl) h ?_
    clear hF h
    intro s31 w32 N33 KL hN34 h a hF
    refine seq_region fun K35 hK36 => ?_
    refine RL.val  hF rfl rfl rfl (r_lss hF rfl rfl rfl) ?_; clear hF; clear a; intro a hF
    refine RL.nil (hK36 _ _ ?_)
    clear hK36 K35
    refine seq_k fun K37 hK38 => ?_
    obtain ⟨J, hJ, h⟩ := jn_open h
    have jn42 : ∀ (v39 : Unit) (w40 : World) a, Fr 100 a [(0, .pointer c0), (2, .pointer c2), (6, .bool s31.1), (28, t30.v), (29, .int .i64 (t30.len : Int)), (30, .int .i64 s31.2)] → J v39 w40 → K37 a w40 := by
      intro v39 w40 a hF h
      replace h := hJ _ _ h
      clear hJ
      refine hK38 _ _ ?_
      refine seq_k fun K43 hK44 => ?_
      obtain ⟨J, hJ, h⟩ := jn_open h
      have jn48 : ∀ (v45 : Bool) (w46 : World) a, Fr 100 a [(0, .pointer c0), (2, .pointer c2), (6, .bool v45), (28, t30.v), (29, .int .i64 (t30.len : Int)), (30, .int .i64 s31.2)] → J v45 w46 → K43 a w46 := by
        intro v45 w46 a hF h
        replace h := hJ _ _ h
        clear hJ
        refine hK44 _ _ ?_
        refine end_region fun K49 hK50 => ?_
        refine RL.val  hF rfl rfl rfl (r_add hF rfl rfl rfl) ?_; clear hF; clear a; intro a hF
        refine RL.val  hF rfl rfl rfl (r_move hF rfl rfl) ?_; clear hF; clear a; intro a hF
        refine RL.nil (hK50 _ _ ?_)
        clear hK50 K49
        exact hN34 (v45, IntKind.i64.wrap (s31.2 + 1)) _ _ (hF.sub rfl) h
      clear hJ
      refine wp_block ?_
      refine seq_region fun K51 hK52 => ?_
      refine RL.val  hF rfl rfl rfl (r_move hF rfl rfl) ?_; clear hF; clear a; intro a hF
      obtain ⟨b54, p53, hb_, h0_, h1_, hp_, h⟩ := h
      refine RL.val (v := .pointer (some p53)) (w' := w40) hF rfl rfl rfl (by rw [hp_]; exact r_indexAddr hF rfl (lks rfl hb_) rfl Tryd.runUnderlying50 Tryd.sizeOf55 h0_ h1_) ?_; clear hF; clear a; intro a hF
      obtain ⟨t55, hct55, h⟩ := h
      refine RL.val  hF rfl rfl rfl (r_loadA hF rfl rfl Tryd.isAgg55 Tryd.sizeOf55 hct55) ?_; clear hF; clear a; intro a hF
      obtain ⟨p56, w57, hp_, hw_, h⟩ := h
      refine RL.val (v := .pointer (some p56)) (w' := w57) hF rfl rfl rfl (by rw [hp_, hw_]; exact r_alloc rfl Tryd.zeroValue55 rfl) ?_; clear hF; clear a; intro a hF
      refine RL.val  hF rfl rfl rfl (r_assign hF rfl rfl) ?_; clear hF; clear a; intro a hF
      obtain ⟨w58, hs1_, hs2_, hs3_, hs4_, h⟩ := h
      refine RL.unit (w' := w58) hF rfl rfl (by rw [hs4_]; exact r_storeA hF rfl rfl rfl Tryd.sizeOf55 hs1_ hs2_ hs3_) ?_; clear hF; clear a; intro a hF
      refine RL.nil (hK52 _ _ ?_)
      clear hK52 K51
      refine seq_k fun K59 hK60 => ?_
      obtain ⟨J, hJ, h⟩ := jn_open h
      have jn64 : ∀ (v61 : Bool) (w62 : World) a, Fr 100 a [(0, .pointer c0), (2, .pointer c2), (6, .bool v61), (7, .int .i64 s31.2), (8, .pointer (some p56)), (28, t30.v), (29, .int .i64 (t30.len : Int)), (30, .int .i64 s31.2)] → J v61 w62 → K59 a w62 := by
        intro v61 w62 a hF h
        replace h := hJ _ _ h
        clear hJ
        refine hK60 _ _ ?_
        refine seq_draw 0 #[0, 1, 3, 7, 15, 31, 63, 127, 15, 511, 1023, 2047, 4095, 8191, 16383, 32767, 65535, 8191, 139263, 524287, 1048575, 2097151, 4194303, 8388607, 8388607, 33554431, 67108863, 134217727, 268435455] 29 mo rfl (by kernel_rfl) (by kernel_rfl) fun hS K65 hK66 => ?_
        obtain ⟨w67, hw, h⟩ := h; rw [← hw]; clear hw
        obtain ⟨J70, hJ, h⟩ := jn_open h
        have jn71 : ∀ (v68 : Bool) (w69 : World) a, Fr 100 a [(0, .pointer c0), (2, .pointer c2), (6, .bool v61), (7, .int .i64 s31.2), (8, .pointer (some p56)), (28, t30.v), (29, .int .i64 (t30.len : Int)), (30, .int .i64 s31.2), (82, .bool v68)] → J70 v68 w69 → K65 a w69 := by
          clear hF
          intro v68 w69 a hF h; replace h := hJ _ _ h; refine hK66 _ _ ?_; clear hJ hK66 K65
          obtain ⟨ht, hf⟩ := h
          refine cond_ hF rfl (fun hc => ?_) (fun hc => ?_)
          · replace h := ht hc; clear ht hf
            refine seq_region fun K72 hK73 => ?_
            obtain ⟨p75, hpp75, h⟩ := h
            obtain ⟨t74, hct74, h⟩ := h
            refine RL.val  hF rfl rfl rfl (r_load hF rfl (lkp rfl hpp75) Tryd.isAgg60 hct74) ?_; clear hF; clear a; intro a hF
            refine RL.val  hF rfl rfl rfl (r_move hF rfl rfl) ?_; clear hF; clear a; intro a hF
            obtain ⟨b77, p76, hb_, h0_, h1_, hp_, h⟩ := h
            refine RL.val (v := .pointer (some p76)) (w' := w69) hF rfl rfl rfl (by rw [hp_]; exact r_indexAddr hF rfl (lks rfl hb_) rfl Tryd.runUnderlying60 Tryd.sizeOf4 h0_ h1_) ?_; clear hF; clear a; intro a hF
            obtain ⟨u_, w78, hs1_, hs2_, hs3_, h⟩ := h
            refine RL.unit (w' := w78) hF rfl rfl (by rw [hs3_]; exact r_store hF rfl rfl rfl rfl Tryd.sizeOf4 hs1_ hs2_) ?_; clear hF; clear a; intro a hF
            refine RL.val  hF rfl rfl rfl (r_assign hF rfl rfl) ?_; clear hF; clear a; intro a hF
            refine RL.nil (hK73 _ _ ?_)
            clear hK73 K72
            refine end_draw 4992 #[0, 0, 2, 6, 14, 0, 32, 96, 224, 510, 1023, 2047, 4095] 13 mo rfl (by kernel_rfl) (by kernel_rfl) fun hS K79 hK80 => ?_
            obtain ⟨w81, hw, h⟩ := h; rw [← hw]; clear hw
            obtain ⟨p83, hpp83, h⟩ := h
            obtain ⟨t82, hct82, h⟩ := h
            refine GL.read (v := .pointer t82) (i := 0) hF (fun x => World.cell? x p83 = some (.pointer t82)) hS rfl rfl (by kernel_rfl) rfl rfl rfl rfl hct82 (fun x hx => r_load hF rfl (lkp rfl hpp83) Tryd.isAgg58 hx) ?_; clear hF; clear a; intro a hF
            obtain ⟨p85, hpp85, h⟩ := h
            obtain ⟨t84, hct84, h⟩ := h
            refine GL.read (v := .pointer t84) (i := 1) hF (fun x => World.cell? x p85 = some (.pointer t84)) hS rfl rfl (by kernel_rfl) rfl rfl rfl rfl hct84 (fun x hx => r_load hF rfl (lkp rfl hpp85) Tryd.isAgg58 hx) ?_; clear hF; clear a; intro a hF
            obtain ⟨p86, hpp86, h⟩ := h
            refine GL.val (v := .pointer (some p86)) (i := 2) hF hS rfl rfl (by kernel_rfl) rfl rfl rfl rfl (fun x => r_nilCheck hF rfl (lkp rfl hpp86)) ?_; clear hF; clear a; intro a hF
            refine GL.val (v := .pointer (some (p86.add 2))) (i := 3) hF hS rfl rfl (by kernel_rfl) rfl rfl rfl rfl (fun x => r_fieldAddr hF rfl rfl Tryd.runUnderlying62 rfl Tryd.sizeOf31 rfl) ?_; clear hF; clear a; intro a hF
            obtain ⟨t87, hct87, h⟩ := h
            refine GL.read (v := t87.v) (i := 4) hF (fun x => World.cell? x (p86.add 2) = some (t87.v)) hS rfl rfl (by kernel_rfl) rfl rfl rfl rfl hct87 (fun x hx => r_load hF rfl rfl Tryd.isAgg31 hx) ?_; clear hF; clear a; intro a hF
            refine GL.val (v := .pointer (some (p56.add 6))) (i := 5) hF hS rfl rfl (by kernel_rfl) rfl rfl rfl rfl (fun x => r_fieldAddr hF rfl rfl Tryd.runUnderlying55 rfl Tryd.sizeOf9 rfl) ?_; clear hF; clear a; intro a hF
            obtain ⟨t88, hct88, h⟩ := h
            refine GL.read (v := .string t88) (i := 6) hF (fun x => World.cell? x (p56.add 6) = some (.string t88)) hS rfl rfl (by kernel_rfl) rfl rfl rfl rfl hct88 (fun x hx => r_load hF rfl rfl Tryd.isAgg9 hx) ?_; clear hF; clear a; intro a hF
            refine GL.act (i := 7) (pend' := [(4, fun x => World.cell? x (p86.add 2) = some (t87.v)), (1, fun x => World.cell? x p85 = some (.pointer t84)), (0, fun x => World.cell? x p83 = some (.pointer t82))]) hS (by kernel_rfl) rfl (by kernel_rfl) ?_
            obtain ⟨t89, w90, hc_, h⟩ := h
            obtain ⟨hk91, hk92, hk93, h⟩ := h
            refine op_val  hF rfl rfl rfl rfl (r_conv hF rfl rfl hc_) ⟨hk91, hk92, hk93, trivial⟩ ?_; clear hF; clear a; intro a hF
            refine GL.act (i := 8) (pend' := [(4, fun x => World.cell? x (p86.add 2) = some (t87.v)), (1, fun x => World.cell? x p85 = some (.pointer t84)), (0, fun x => World.cell? x p83 = some (.pointer t82))]) hS (by kernel_rfl) rfl (by kernel_rfl) ?_
            obtain ⟨p95, w94, hp_, hw_, h⟩ := h
            obtain ⟨hk96, hk97, hk98, h⟩ := h
            refine op_val (v := (Slc.mk (some p95) 1 1).v) (w' := w94) hF rfl rfl rfl rfl (by rw [hp_, hw_]; exact r_buildSlice (xs := [(0, t89.v)]) hF rfl rfl (by kernel_rfl)) ⟨hk96, hk97, hk98, trivial⟩ ?_; clear hF; clear a; intro a hF
            refine GL.act (i := 9) (pend' := [(0, fun x => World.cell? x p83 = some (.pointer t82))]) hS (by kernel_rfl) rfl (by kernel_rfl) ?_
            obtain ⟨t100, w99, hc_, h⟩ := h
            obtain ⟨hk101, h⟩ := h
            refine op_val  hF rfl rfl rfl rfl (r_append (xs := [t87.v, (Slc.mk (some p95) 1 1).v]) hF rfl rfl hc_) ⟨hk101, trivial⟩ ?_; clear hF; clear a; intro a hF
            obtain ⟨p102, hpp102, h⟩ := h
            refine GL.val (v := .pointer (some p102)) (i := 10) hF hS rfl rfl (by kernel_rfl) rfl rfl rfl rfl (fun x => r_nilCheck hF rfl (lkp rfl hpp102)) ?_; clear hF; clear a; intro a hF
            refine GL.val (v := .pointer (some (p102.add 2))) (i := 11) hF hS rfl rfl (by kernel_rfl) rfl rfl rfl rfl (fun x => r_fieldAddr hF rfl rfl Tryd.runUnderlying62 rfl Tryd.sizeOf31 rfl) ?_; clear hF; clear a; intro a hF
            refine GL.act (i := 12) (pend' := []) hS (by kernel_rfl) rfl (by kernel_rfl) ?_
            obtain ⟨u_, w103, hs1_, hs2_, hs3_, h⟩ := h
            refine op_unit (w' := w103) hF rfl rfl rfl (by rw [hs3_]; exact r_store hF rfl rfl rfl rfl Tryd.sizeOf31 hs1_ hs2_) trivial ?_; clear hF; clear a; intro a hF
            refine GL.done (by kernel_rfl) (hK80 _ _ ?_)
            clear hK80 K79
            exact jn48 true _ _ (hF.sub rfl) h
          · replace h := hf hc; clear ht hf
            refine wp_skip ?_
            exact jn48 v61 _ _ (hF.sub rfl) h
        clear hJ hK66
        refine GL.val (v := .pointer (some p56)) (i := 0) hF hS rfl rfl (by kernel_rfl) rfl rfl rfl rfl (fun x => r_fieldAddr0 hF rfl rfl Tryd.runUnderlying55 rfl Tryd.sizeOf3 rfl) ?_; clear hF; clear a; intro a hF
        obtain ⟨t104, hct104, h⟩ := h
        refine GL.read (v := .int .i64 t104) (i := 1) hF (fun x => World.cell? x p56 = some (.int .i64 t104)) hS rfl rfl (by kernel_rfl) rfl rfl rfl rfl hct104 (fun x hx => r_load hF rfl rfl Tryd.isAgg3 hx) ?_; clear hF; clear a; intro a hF
        refine GL.val (v := .bool (t104 == 6)) (i := 2) hF hS rfl rfl (by kernel_rfl) rfl rfl rfl rfl (fun x => r_eql hF rfl rfl rfl) ?_; clear hF; clear a; intro a hF
        refine GL.val (v := .bool (t104 == 6)) (i := 3) hF hS rfl rfl (by kernel_rfl) rfl rfl rfl rfl (fun x => r_move hF rfl rfl) ?_; clear hF; clear a; intro a hF
        obtain ⟨ht, hf⟩ := h
        rcases bool_cases (t104 == 6) with hg105 | hg105
        · replace h := ht hg105; clear ht hf
          obtain ⟨p107, hpp107, h⟩ := h
          obtain ⟨t106, hct106, h⟩ := h
          refine GL.gread (v := .pointer t106) (i := 4) hF (fun x => World.cell? x p107 = some (.pointer t106)) hS rfl rfl (by kernel_rfl) rfl rfl rfl (lkb rfl hg105) rfl rfl hct106 (fun x hx => r_load hF rfl (lkp rfl hpp107) Tryd.isAgg58 hx) ?_; clear hF; clear a; intro a hF
          obtain ⟨p108, hpp108, h⟩ := h
          refine GL.gval (v := .pointer (some p108)) (i := 5) hF hS rfl rfl (by kernel_rfl) rfl rfl rfl (lkb rfl hg105) rfl rfl (fun x => r_nilCheck hF rfl (lkp rfl hpp108)) ?_; clear hF; clear a; intro a hF
          refine GL.gval (v := .pointer (some (p108.add 1))) (i := 6) hF hS rfl rfl (by kernel_rfl) rfl rfl rfl (lkb rfl hg105) rfl rfl (fun x => r_fieldAddr hF rfl rfl Tryd.runUnderlying62 rfl Tryd.sizeOf60 rfl) ?_; clear hF; clear a; intro a hF
          obtain ⟨t109, hct109, h⟩ := h
          refine GL.gread (v := t109.v) (i := 7) hF (fun x => World.cell? x (p108.add 1) = some (t109.v)) hS rfl rfl (by kernel_rfl) rfl rfl rfl (lkb rfl hg105) rfl rfl hct109 (fun x hx => r_load hF rfl rfl Tryd.isAgg60 hx) ?_; clear hF; clear a; intro a hF
          refine GL.gval (v := .int .i64 s31.2) (i := 8) hF hS rfl rfl (by kernel_rfl) rfl rfl rfl (lkb rfl hg105) rfl rfl (fun x => r_move hF rfl rfl) ?_; clear hF; clear a; intro a hF
          obtain ⟨b111, p110, hb_, h0_, h1_, hp_, h⟩ := h
          refine GL.gval (v := .pointer (some p110)) (i := 9) hF hS rfl rfl (by kernel_rfl) rfl rfl rfl (lkb rfl hg105) rfl rfl (fun x => by rw [hp_]; exact r_indexAddr hF rfl (lks rfl hb_) rfl Tryd.runUnderlying60 Tryd.sizeOf4 h0_ h1_) ?_; clear hF; clear a; intro a hF
          obtain ⟨t112, hct112, h⟩ := h
          refine GL.gread (v := .bool t112) (i := 10) hF (fun x => World.cell? x p110 = some (.bool t112)) hS rfl rfl (by kernel_rfl) rfl rfl rfl (lkb rfl hg105) rfl rfl hct112 (fun x hx => r_load hF rfl rfl Tryd.isAgg4 hx) ?_; clear hF; clear a; intro a hF
          refine GL.val (v := .bool t112) (i := 11) hF hS rfl rfl (by kernel_rfl) rfl rfl rfl rfl (fun x => r_pick hF rfl rfl rfl rfl (fun _ => rfl) (fun e => absurd (hg105.symm.trans e) (by decide))) ?_; clear hF; clear a; intro a hF
          refine GL.val (v := .bool t112) (i := 12) hF hS rfl rfl (by kernel_rfl) rfl rfl rfl rfl (fun x => r_move hF rfl rfl) ?_; clear hF; clear a; intro a hF
          obtain ⟨ht, hf⟩ := h
          rcases bool_cases t112 with hg113 | hg113
          · replace h := ht hg113; clear ht hf
            obtain ⟨p115, hpp115, h⟩ := h
            obtain ⟨t114, hct114, h⟩ := h
            refine GL.gread (v := .pointer t114) (i := 13) hF (fun x => World.cell? x p115 = some (.pointer t114)) hS rfl rfl (by kernel_rfl) rfl rfl rfl (lkb rfl hg113) rfl rfl hct114 (fun x hx => r_load hF rfl (lkp rfl hpp115) Tryd.isAgg58 hx) ?_; clear hF; clear a; intro a hF
            obtain ⟨p116, hpp116, h⟩ := h
            refine GL.gval (v := .pointer (some p116)) (i := 14) hF hS rfl rfl (by kernel_rfl) rfl rfl rfl (lkb rfl hg113) rfl rfl (fun x => r_nilCheck hF rfl (lkp rfl hpp116)) ?_; clear hF; clear a; intro a hF
            refine GL.gval (v := .pointer (some (p116.add 1))) (i := 15) hF hS rfl rfl (by kernel_rfl) rfl rfl rfl (lkb rfl hg113) rfl rfl (fun x => r_fieldAddr hF rfl rfl Tryd.runUnderlying62 rfl Tryd.sizeOf60 rfl) ?_; clear hF; clear a; intro a hF
            obtain ⟨t117, hct117, h⟩ := h
            refine GL.gread (v := t117.v) (i := 16) hF (fun x => World.cell? x (p116.add 1) = some (t117.v)) hS rfl rfl (by kernel_rfl) rfl rfl rfl (lkb rfl hg113) rfl rfl hct117 (fun x hx => r_load hF rfl rfl Tryd.isAgg60 hx) ?_; clear hF; clear a; intro a hF
            refine GL.gval (v := .pointer (some (p56.add 1))) (i := 17) hF hS rfl rfl (by kernel_rfl) rfl rfl rfl (lkb rfl hg113) rfl rfl (fun x => r_fieldAddr hF rfl rfl Tryd.runUnderlying55 rfl Tryd.sizeOf3 rfl) ?_; clear hF; clear a; intro a hF
            obtain ⟨t118, hct118, h⟩ := h
            refine GL.gread (v := .int .i64 t118) (i := 18) hF (fun x => World.cell? x (p56.add 1) = some (.int .i64 t118)) hS rfl rfl (by kernel_rfl) rfl rfl rfl (lkb rfl hg113) rfl rfl hct118 (fun x hx => r_load hF rfl rfl Tryd.isAgg3 hx) ?_; clear hF; clear a; intro a hF
            obtain ⟨b120, p119, hb_, h0_, h1_, hp_, h⟩ := h
            refine GL.gval (v := .pointer (some p119)) (i := 19) hF hS rfl rfl (by kernel_rfl) rfl rfl rfl (lkb rfl hg113) rfl rfl (fun x => by rw [hp_]; exact r_indexAddr hF rfl (lks rfl hb_) rfl Tryd.runUnderlying60 Tryd.sizeOf4 h0_ h1_) ?_; clear hF; clear a; intro a hF
            obtain ⟨t121, hct121, h⟩ := h
            refine GL.gread (v := .bool t121) (i := 20) hF (fun x => World.cell? x p119 = some (.bool t121)) hS rfl rfl (by kernel_rfl) rfl rfl rfl (lkb rfl hg113) rfl rfl hct121 (fun x hx => r_load hF rfl rfl Tryd.isAgg4 hx) ?_; clear hF; clear a; intro a hF
            refine GL.val (v := .bool t121) (i := 21) hF hS rfl rfl (by kernel_rfl) rfl rfl rfl rfl (fun x => r_pick hF rfl rfl rfl rfl (fun _ => rfl) (fun e => absurd (hg113.symm.trans e) (by decide))) ?_; clear hF; clear a; intro a hF
            refine GL.val (v := .bool t121) (i := 22) hF hS rfl rfl (by kernel_rfl) rfl rfl rfl rfl (fun x => r_move hF rfl rfl) ?_; clear hF; clear a; intro a hF
            obtain ⟨ht, hf⟩ := h
            rcases bool_cases t121 with hg122 | hg122
            · replace h := ht hg122; clear ht hf
              obtain ⟨p124, hpp124, h⟩ := h
              obtain ⟨t123, hct123, h⟩ := h
              refine GL.gread (v := t123.v) (i := 23) hF (fun x => World.cell? x p124 = some (t123.v)) hS rfl rfl (by kernel_rfl) rfl rfl rfl (lkb rfl hg122) rfl rfl hct123 (fun x hx => r_load hF rfl (lkp rfl hpp124) Tryd.isAgg60 hx) ?_; clear hF; clear a; intro a hF
              refine GL.gval (v := .int .i64 s31.2) (i := 24) hF hS rfl rfl (by kernel_rfl) rfl rfl rfl (lkb rfl hg122) rfl rfl (fun x => r_move hF rfl rfl) ?_; clear hF; clear a; intro a hF
              obtain ⟨b126, p125, hb_, h0_, h1_, hp_, h⟩ := h
              refine GL.gval (v := .pointer (some p125)) (i := 25) hF hS rfl rfl (by kernel_rfl) rfl rfl rfl (lkb rfl hg122) rfl rfl (fun x => by rw [hp_]; exact r_indexAddr hF rfl (lks rfl hb_) rfl Tryd.runUnderlying60 Tryd.sizeOf4 h0_ h1_) ?_; clear hF; clear a; intro a hF
              obtain ⟨t127, hct127, h⟩ := h
              refine GL.gread (v := .bool t127) (i := 26) hF (fun x => World.cell? x p125 = some (.bool t127)) hS rfl rfl (by kernel_rfl) rfl rfl rfl (lkb rfl hg122) rfl rfl hct127 (fun x hx => r_load hF rfl rfl Tryd.isAgg4 hx) ?_; clear hF; clear a; intro a hF
              refine GL.gval (v := .bool (!t127)) (i := 27) hF hS rfl rfl (by kernel_rfl) rfl rfl rfl (lkb rfl hg122) rfl rfl (fun x => r_not hF rfl rfl) ?_; clear hF; clear a; intro a hF
              refine GL.val (v := .bool (!t127)) (i := 28) hF hS rfl rfl (by kernel_rfl) rfl rfl rfl rfl (fun x => r_pick hF rfl rfl rfl rfl (fun _ => rfl) (fun e => absurd (hg122.symm.trans e) (by decide))) ?_; clear hF; clear a; intro a hF
              refine GL.done (by kernel_rfl) ?_
              exact jn71 (!t127) _ _ (hF.sub rfl) h
            · replace h := hf hg122; clear ht hf
              refine GL.skip (i := 23) hF hS rfl rfl (by kernel_rfl) rfl rfl rfl (lkb rfl hg122) (.inl rfl) rfl rfl ?_; clear hF; clear a; intro a hF
              refine GL.skip (i := 24) hF hS rfl rfl (by kernel_rfl) rfl rfl rfl (lkb rfl hg122) (.inl rfl) rfl rfl ?_; clear hF; clear a; intro a hF
              refine GL.skip (i := 25) hF hS rfl rfl (by kernel_rfl) rfl rfl rfl (lkb rfl hg122) (.inl rfl) rfl rfl ?_; clear hF; clear a; intro a hF
              refine GL.skip (i := 26) hF hS rfl rfl (by kernel_rfl) rfl rfl rfl (lkb rfl hg122) (.inl rfl) rfl rfl ?_; clear hF; clear a; intro a hF
              refine GL.skip (i := 27) hF hS rfl rfl (by kernel_rfl) rfl rfl rfl (lkb rfl hg122) (.inl rfl) rfl rfl ?_; clear hF; clear a; intro a hF
              refine GL.val (v := .bool false) (i := 28) hF hS rfl rfl (by kernel_rfl) rfl rfl rfl rfl (fun x => r_pick hF rfl rfl rfl rfl (fun e => absurd (hg122.symm.trans e) (by decide)) (fun _ => rfl)) ?_; clear hF; clear a; intro a hF
              refine GL.done (by kernel_rfl) ?_
              exact jn71 false _ _ (hF.sub rfl) h
          · replace h := hf hg113; clear ht hf
            refine GL.skip (i := 13) hF hS rfl rfl (by kernel_rfl) rfl rfl rfl (lkb rfl hg113) (.inl rfl) rfl rfl ?_; clear hF; clear a; intro a hF
            refine GL.skip (i := 14) hF hS rfl rfl (by kernel_rfl) rfl rfl rfl (lkb rfl hg113) (.inl rfl) rfl rfl ?_; clear hF; clear a; intro a hF
            refine GL.skip (i := 15) hF hS rfl rfl (by kernel_rfl) rfl rfl rfl (lkb rfl hg113) (.inl rfl) rfl rfl ?_; clear hF; clear a; intro a hF
            refine GL.skip (i := 16) hF hS rfl rfl (by kernel_rfl) rfl rfl rfl (lkb rfl hg113) (.inl rfl) rfl rfl ?_; clear hF; clear a; intro a hF
            refine GL.skip (i := 17) hF hS rfl rfl (by kernel_rfl) rfl rfl rfl (lkb rfl hg113) (.inl rfl) rfl rfl ?_; clear hF; clear a; intro a hF
            refine GL.skip (i := 18) hF hS rfl rfl (by kernel_rfl) rfl rfl rfl (lkb rfl hg113) (.inl rfl) rfl rfl ?_; clear hF; clear a; intro a hF
            refine GL.skip (i := 19) hF hS rfl rfl (by kernel_rfl) rfl rfl rfl (lkb rfl hg113) (.inl rfl) rfl rfl ?_; clear hF; clear a; intro a hF
            refine GL.skip (i := 20) hF hS rfl rfl (by kernel_rfl) rfl rfl rfl (lkb rfl hg113) (.inl rfl) rfl rfl ?_; clear hF; clear a; intro a hF
            refine GL.val (v := .bool false) (i := 21) hF hS rfl rfl (by kernel_rfl) rfl rfl rfl rfl (fun x => r_pick hF rfl rfl rfl rfl (fun e => absurd (hg113.symm.trans e) (by decide)) (fun _ => rfl)) ?_; clear hF; clear a; intro a hF
            refine GL.val (v := .bool false) (i := 22) hF hS rfl rfl (by kernel_rfl) rfl rfl rfl rfl (fun x => r_move hF rfl rfl) ?_; clear hF; clear a; intro a hF
            refine GL.skip (i := 23) hF hS rfl rfl (by kernel_rfl) rfl rfl rfl rfl (.inl rfl) rfl rfl ?_; clear hF; clear a; intro a hF
            refine GL.skip (i := 24) hF hS rfl rfl (by kernel_rfl) rfl rfl rfl rfl (.inl rfl) rfl rfl ?_; clear hF; clear a; intro a hF
            refine GL.skip (i := 25) hF hS rfl rfl (by kernel_rfl) rfl rfl rfl rfl (.inl rfl) rfl rfl ?_; clear hF; clear a; intro a hF
            refine GL.skip (i := 26) hF hS rfl rfl (by kernel_rfl) rfl rfl rfl rfl (.inl rfl) rfl rfl ?_; clear hF; clear a; intro a hF
            refine GL.skip (i := 27) hF hS rfl rfl (by kernel_rfl) rfl rfl rfl rfl (.inl rfl) rfl rfl ?_; clear hF; clear a; intro a hF
            refine GL.val (v := .bool false) (i := 28) hF hS rfl rfl (by kernel_rfl) rfl rfl rfl rfl (fun x => r_pick hF rfl rfl rfl rfl (fun e => absurd e (by decide)) (fun _ => rfl)) ?_; clear hF; clear a; intro a hF
            refine GL.done (by kernel_rfl) ?_
            exact jn71 false _ _ (hF.sub rfl) h
        · replace h := hf hg105; clear ht hf
          refine GL.skip (i := 4) hF hS rfl rfl (by kernel_rfl) rfl rfl rfl (lkb rfl hg105) (.inl rfl) rfl rfl ?_; clear hF; clear a; intro a hF
          refine GL.skip (i := 5) hF hS rfl rfl (by kernel_rfl) rfl rfl rfl (lkb rfl hg105) (.inl rfl) rfl rfl ?_; clear hF; clear a; intro a hF
          refine GL.skip (i := 6) hF hS rfl rfl (by kernel_rfl) rfl rfl rfl (lkb rfl hg105) (.inl rfl) rfl rfl ?_; clear hF; clear a; intro a hF
          refine GL.skip (i := 7) hF hS rfl rfl (by kernel_rfl) rfl rfl rfl (lkb rfl hg105) (.inl rfl) rfl rfl ?_; clear hF; clear a; intro a hF
          refine GL.skip (i := 8) hF hS rfl rfl (by kernel_rfl) rfl rfl rfl (lkb rfl hg105) (.inl rfl) rfl rfl ?_; clear hF; clear a; intro a hF
          refine GL.skip (i := 9) hF hS rfl rfl (by kernel_rfl) rfl rfl rfl (lkb rfl hg105) (.inl rfl) rfl rfl ?_; clear hF; clear a; intro a hF
          refine GL.skip (i := 10) hF hS rfl rfl (by kernel_rfl) rfl rfl rfl (lkb rfl hg105) (.inl rfl) rfl rfl ?_; clear hF; clear a; intro a hF
          refine GL.val (v := .bool false) (i := 11) hF hS rfl rfl (by kernel_rfl) rfl rfl rfl rfl (fun x => r_pick hF rfl rfl rfl rfl (fun e => absurd (hg105.symm.trans e) (by decide)) (fun _ => rfl)) ?_; clear hF; clear a; intro a hF
          refine GL.val (v := .bool false) (i := 12) hF hS rfl rfl (by kernel_rfl) rfl rfl rfl rfl (fun x => r_move hF rfl rfl) ?_; clear hF; clear a; intro a hF
          refine GL.skip (i := 13) hF hS rfl rfl (by kernel_rfl) rfl rfl rfl rfl (.inl rfl) rfl rfl ?_; clear hF; clear a; intro a hF
          refine GL.skip (i := 14) hF hS rfl rfl (by kernel_rfl) rfl rfl rfl rfl (.inl rfl) rfl rfl ?_; clear hF; clear a; intro a hF
          refine GL.skip (i := 15) hF hS rfl rfl (by kernel_rfl) rfl rfl rfl rfl (.inl rfl) rfl rfl ?_; clear hF; clear a; intro a hF
          refine GL.skip (i := 16) hF hS rfl rfl (by kernel_rfl) rfl rfl rfl rfl (.inl rfl) rfl rfl ?_; clear hF; clear a; intro a hF
          refine GL.skip (i := 17) hF hS rfl rfl (by kernel_rfl) rfl rfl rfl rfl (.inl rfl) rfl rfl ?_; clear hF; clear a; intro a hF
          refine GL.skip (i := 18) hF hS rfl rfl (by kernel_rfl) rfl rfl rfl rfl (.inl rfl) rfl rfl ?_; clear hF; clear a; intro a hF
          refine GL.skip (i := 19) hF hS rfl rfl (by kernel_rfl) rfl rfl rfl rfl (.inl rfl) rfl rfl ?_; clear hF; clear a; intro a hF
          refine GL.skip (i := 20) hF hS rfl rfl (by kernel_rfl) rfl rfl rfl rfl (.inl rfl) rfl rfl ?_; clear hF; clear a; intro a hF
          refine GL.val (v := .bool false) (i := 21) hF hS rfl rfl (by kernel_rfl) rfl rfl rfl rfl (fun x => r_pick hF rfl rfl rfl rfl (fun e => absurd e (by decide)) (fun _ => rfl)) ?_; clear hF; clear a; intro a hF
          refine GL.val (v := .bool false) (i := 22) hF hS rfl rfl (by kernel_rfl) rfl rfl rfl rfl (fun x => r_move hF rfl rfl) ?_; clear hF; clear a; intro a hF
          refine GL.skip (i := 23) hF hS rfl rfl (by kernel_rfl) rfl rfl rfl rfl (.inl rfl) rfl rfl ?_; clear hF; clear a; intro a hF
          refine GL.skip (i := 24) hF hS rfl rfl (by kernel_rfl) rfl rfl rfl rfl (.inl rfl) rfl rfl ?_; clear hF; clear a; intro a hF
          refine GL.skip (i := 25) hF hS rfl rfl (by kernel_rfl) rfl rfl rfl rfl (.inl rfl) rfl rfl ?_; clear hF; clear a; intro a hF
          refine GL.skip (i := 26) hF hS rfl rfl (by kernel_rfl) rfl rfl rfl rfl (.inl rfl) rfl rfl ?_; clear hF; clear a; intro a hF
          refine GL.skip (i := 27) hF hS rfl rfl (by kernel_rfl) rfl rfl rfl rfl (.inl rfl) rfl rfl ?_; clear hF; clear a; intro a hF
          refine GL.val (v := .bool false) (i := 28) hF hS rfl rfl (by kernel_rfl) rfl rfl rfl rfl (fun x => r_pick hF rfl rfl rfl rfl (fun e => absurd e (by decide)) (fun _ => rfl)) ?_; clear hF; clear a; intro a hF
          refine GL.done (by kernel_rfl) ?_
          exact jn71 false _ _ (hF.sub rfl) h
      clear hJ
      refine seq_region fun K128 hK129 => ?_
      obtain ⟨J132, hJ, h⟩ := jn_open h
      have jn133 : ∀ (v130 : Bool) (w131 : World) a, Fr 100 a [(0, .pointer c0), (2, .pointer c2), (6, .bool s31.1), (7, .int .i64 s31.2), (8, .pointer (some p56)), (28, t30.v), (29, .int .i64 (t30.len : Int)), (30, .int .i64 s31.2), (47, .bool v130)] → J132 v130 w131 → K128 a w131 := by
        clear hF
        intro v130 w131 a hF h; replace h := hJ _ _ h; refine hK129 _ _ ?_; clear hJ hK129 K128
        obtain ⟨ht, hf⟩ := h
        refine cond_ hF rfl (fun hc => ?_) (fun hc => ?_)
        · replace h := ht hc; clear ht hf
          refine end_region fun K134 hK135 => ?_
          obtain ⟨p137, hpp137, h⟩ := h
          obtain ⟨t136, hct136, h⟩ := h
          refine RL.val  hF rfl rfl rfl (r_load hF rfl (lkp rfl hpp137) Tryd.isAgg58 hct136) ?_; clear hF; clear a; intro a hF
          obtain ⟨p138, hpp138, h⟩ := h
          refine RL.val  hF rfl rfl rfl (r_nilCheck hF rfl (lkp rfl hpp138)) ?_; clear hF; clear a; intro a hF
          refine RL.val  hF rfl rfl rfl (r_fieldAddr hF rfl rfl Tryd.runUnderlying62 rfl Tryd.sizeOf60 rfl) ?_; clear hF; clear a; intro a hF
          obtain ⟨t139, hct139, h⟩ := h
          refine RL.val  hF rfl rfl rfl (r_load hF rfl rfl Tryd.isAgg60 hct139) ?_; clear hF; clear a; intro a hF
          refine RL.val  hF rfl rfl rfl (r_move hF rfl rfl) ?_; clear hF; clear a; intro a hF
          obtain ⟨b141, p140, hb_, h0_, h1_, hp_, h⟩ := h
          refine RL.val (v := .pointer (some p140)) (w' := w131) hF rfl rfl rfl (by rw [hp_]; exact r_indexAddr hF rfl (lks rfl hb_) rfl Tryd.runUnderlying60 Tryd.sizeOf4 h0_ h1_) ?_; clear hF; clear a; intro a hF
          obtain ⟨u_, w142, hs1_, hs2_, hs3_, h⟩ := h
          refine RL.unit (w' := w142) hF rfl rfl (by rw [hs3_]; exact r_store hF rfl rfl rfl rfl Tryd.sizeOf4 hs1_ hs2_) ?_; clear hF; clear a; intro a hF
          refine RL.val  hF rfl rfl rfl (r_assign hF rfl rfl) ?_; clear hF; clear a; intro a hF
          refine RL.nil (hK135 _ _ ?_)
          clear hK135 K134
          exact jn64 true _ _ (hF.sub rfl) h
        · replace h := hf hc; clear ht hf
          refine wp_skip ?_
          exact jn64 s31.1 _ _ (hF.sub rfl) h
      clear hJ hK129
      obtain ⟨p144, hpp144, h⟩ := h
      obtain ⟨t143, hct143, h⟩ := h
      refine RL.val  hF rfl rfl rfl (r_load hF rfl (lkp rfl hpp144) Tryd.isAgg58 hct143) ?_; clear hF; clear a; intro a hF
      obtain ⟨p145, hpp145, h⟩ := h
      refine RL.val  hF rfl rfl rfl (r_nilCheck hF rfl (lkp rfl hpp145)) ?_; clear hF; clear a; intro a hF
      refine RL.val  hF rfl rfl rfl (r_fieldAddr hF rfl rfl Tryd.runUnderlying62 rfl Tryd.sizeOf60 rfl) ?_; clear hF; clear a; intro a hF
      obtain ⟨t146, hct146, h⟩ := h
      refine RL.val  hF rfl rfl rfl (r_load hF rfl rfl Tryd.isAgg60 hct146) ?_; clear hF; clear a; intro a hF
      refine RL.val  hF rfl rfl rfl (r_move hF rfl rfl) ?_; clear hF; clear a; intro a hF
      obtain ⟨b148, p147, hb_, h0_, h1_, hp_, h⟩ := h
      refine RL.val (v := .pointer (some p147)) (w' := w58) hF rfl rfl rfl (by rw [hp_]; exact r_indexAddr hF rfl (lks rfl hb_) rfl Tryd.runUnderlying60 Tryd.sizeOf4 h0_ h1_) ?_; clear hF; clear a; intro a hF
      obtain ⟨t149, hct149, h⟩ := h
      refine RL.val  hF rfl rfl rfl (r_load hF rfl rfl Tryd.isAgg4 hct149) ?_; clear hF; clear a; intro a hF
      refine RL.val  hF rfl rfl rfl (r_not hF rfl rfl) ?_; clear hF; clear a; intro a hF
      refine RL.val  hF rfl rfl rfl (r_move hF rfl rfl) ?_; clear hF; clear a; intro a hF
      obtain ⟨ht, hf⟩ := h
      rcases bool_cases (!t149) with hg150 | hg150
      · replace h := ht hg150; clear ht hf
        obtain ⟨p152, hpp152, h⟩ := h
        obtain ⟨t151, hct151, h⟩ := h
        refine RL.gval  hF rfl rfl (lkb rfl hg150) rfl rfl (r_load hF rfl (lkp rfl hpp152) Tryd.isAgg58 hct151) ?_; clear hF; clear a; intro a hF
        obtain ⟨t153, hct153, h⟩ := h
        refine RL.gval  hF rfl rfl (lkb rfl hg150) rfl rfl (r_loadA hF rfl rfl Tryd.isAgg55 Tryd.sizeOf55 hct153) ?_; clear hF; clear a; intro a hF
        refine RL.gcall hF rfl rfl (lkb rfl hg150) rfl rfl (r_call (xs := [.pointer t151, .agg t153]) hF rfl rfl Tryd.call54) (CallsV.mono h ?_)
        clear h; rintro _ w154 ⟨r155, rfl, h⟩; clear hF; clear a; intro a hF
        refine RL.val (v := .bool r155) (w' := w154) hF rfl rfl rfl (r_pick hF rfl rfl rfl rfl (fun _ => rfl) (fun e => absurd (hg150.symm.trans e) (by decide))) ?_; clear hF; clear a; intro a hF
        refine RL.nil ?_
        exact jn133 r155 _ _ (hF.sub rfl) h
      · replace h := hf hg150; clear ht hf
        refine RL.skip hF rfl rfl (lkb rfl hg150) (.inl rfl) rfl rfl ?_; clear hF; clear a; intro a hF
        refine RL.skip hF rfl rfl (lkb rfl hg150) (.inl rfl) rfl rfl ?_; clear hF; clear a; intro a hF
        refine RL.skip hF rfl rfl (lkb rfl hg150) (.inl rfl) rfl rfl ?_; clear hF; clear a; intro a hF
        refine RL.val (v := .bool false) (w' := w58) hF rfl rfl rfl (r_pick hF rfl rfl rfl rfl (fun e => absurd (hg150.symm.trans e) (by decide)) (fun _ => rfl)) ?_; clear hF; clear a; intro a hF
        refine RL.nil ?_
        exact jn133 false _ _ (hF.sub rfl) h
    clear hJ
    obtain ⟨ht, hf⟩ := h
    refine cond_ hF rfl (fun hc => ?_) (fun hc => ?_)
    · replace h := ht hc; clear ht hf
      refine wp_skip ?_
      exact jn42 () _ _ (hF.sub rfl) h
    · replace h := hf hc; clear ht hf
      refine wp_exit ?_
      exact jn22 s31.1 _ _ (hF.sub rfl) h
  clear hJ
  refine seq_region fun K156 hK157 => ?_
  obtain ⟨p159, hpp159, h⟩ := h
  obtain ⟨t158, hct158, h⟩ := h
  refine RL.val  hF rfl rfl rfl (r_load hF rfl (lkp rfl hpp159) Tryd.isAgg58 hct158) ?_; clear hF; clear a; intro a hF
  obtain ⟨p160, hpp160, h⟩ := h
  refine RL.val  hF rfl rfl rfl (r_nilCheck hF rfl (lkp rfl hpp160)) ?_; clear hF; clear a; intro a hF
  refine RL.val  hF rfl rfl rfl (r_fieldAddr hF rfl rfl Tryd.runUnderlying62 rfl Tryd.sizeOf31 rfl) ?_; clear hF; clear a; intro a hF
  obtain ⟨t161, hct161, h⟩ := h
  refine RL.val  hF rfl rfl rfl (r_load hF rfl rfl Tryd.isAgg31 hct161) ?_; clear hF; clear a; intro a hF
  refine RL.val  hF rfl rfl rfl (r_len_slice hF rfl rfl Tryd.runUnderlying31) ?_; clear hF; clear a; intro a hF
  refine RL.val  hF rfl rfl rfl (r_move hF rfl rfl) ?_; clear hF; clear a; intro a hF
  refine RL.nil (hK157 _ _ ?_)
  clear hK157 K156
  refine wp_block ?_
  refine loop_ (fun (s162 : Int) => [(0, .pointer c0), (1, .pointer c1), (2, .pointer c2), (12, t161.v), (13, .int .i64 (t161.len : Int)), (14, .int .i64 s162)]) (hF.sub rfl) h ?_
  clear hF h
  intro s162 w163 N164 KL hN165 h a hF
  refine seq_region fun K166 hK167 => ?_
  refine RL.val  hF rfl rfl rfl (r_lss hF rfl rfl rfl) ?_; clear hF; clear a; intro a hF
  refine RL.nil (hK167 _ _ ?_)
  clear hK167 K166
  refine seq_k fun K168 hK169 => ?_
  obtain ⟨J, hJ, h⟩ := jn_open h
  have jn173 : ∀ (v170 : Unit) (w171 : World) a, Fr 100 a [(0, .pointer c0), (1, .pointer c1), (2, .pointer c2), (12, t161.v), (13, .int .i64 (t161.len : Int)), (14, .int .i64 s162)] → J v170 w171 → K168 a w171 := by
    intro v170 w171 a hF h
    replace h := hJ _ _ h
    clear hJ
    refine hK169 _ _ ?_
    refine seq_k fun K174 hK175 => ?_
    obtain ⟨J, hJ, h⟩ := jn_open h
    have jn179 : ∀ (v176 : Unit) (w177 : World) a, Fr 100 a [(0, .pointer c0), (1, .pointer c1), (2, .pointer c2), (12, t161.v), (13, .int .i64 (t161.len : Int)), (14, .int .i64 s162)] → J v176 w177 → K174 a w177 := by
      intro v176 w177 a hF h
      replace h := hJ _ _ h
      clear hJ
      refine hK175 _ _ ?_
      refine end_region fun K180 hK181 => ?_
      refine RL.val  hF rfl rfl rfl (r_add hF rfl rfl rfl) ?_; clear hF; clear a; intro a hF
      refine RL.val  hF rfl rfl rfl (r_move hF rfl rfl) ?_; clear hF; clear a; intro a hF
      refine RL.nil (hK181 _ _ ?_)
      clear hK181 K180
      exact hN165 (IntKind.i64.wrap (s162 + 1)) _ _ (hF.sub rfl) h
    clear hJ
    refine wp_block ?_
    refine seq_region fun K182 hK183 => ?_
    obtain ⟨b185, p184, hb_, h0_, h1_, hp_, h⟩ := h
    refine RL.val (v := .pointer (some p184)) (w' := w171) hF rfl rfl rfl (by rw [hp_]; exact r_indexAddr hF rfl (lks rfl hb_) rfl Tryd.runUnderlying31 Tryd.sizeOf22 h0_ h1_) ?_; clear hF; clear a; intro a hF
    obtain ⟨t186, hct186, h⟩ := h
    refine RL.val  hF rfl rfl rfl (r_load hF rfl rfl Tryd.isAgg22 hct186) ?_; clear hF; clear a; intro a hF
    refine RL.val  hF rfl rfl rfl (r_assign hF rfl rfl) ?_; clear hF; clear a; intro a hF
    refine RL.nil (hK183 _ _ ?_)
    clear hK183 K182
    refine end_region fun K187 hK188 => ?_
    obtain ⟨p190, hpp190, h⟩ := h
    obtain ⟨t189, hct189, h⟩ := h
    refine RL.val  hF rfl rfl rfl (r_load hF rfl (lkp rfl hpp190) Tryd.isAgg58 hct189) ?_; clear hF; clear a; intro a hF
    refine RL.val  hF rfl rfl rfl (r_move hF rfl rfl) ?_; clear hF; clear a; intro a hF
    refine RL.call hF rfl rfl rfl (r_call (xs := [.pointer t189, t186.v]) hF rfl rfl Tryd.call53) (CallsV.mono h ?_)
    clear h; rintro _ w191 ⟨rfl, h⟩; clear hF; clear a; intro a hF
    refine RL.nil (hK188 _ _ ?_)
    clear hK188 K187
    exact jn179 () _ _ (hF.sub rfl) h
  clear hJ
  obtain ⟨ht, hf⟩ := h
  refine cond_ hF rfl (fun hc => ?_) (fun hc => ?_)
  · replace h := ht hc; clear ht hf
    refine wp_skip ?_
    exact jn173 () _ _ (hF.sub rfl) h
  · replace h := hf hc; clear ht hf
    refine wp_exit ?_
    exact jn8 () _ _ (hF.sub rfl) h

end Go.Proofs.YtkehoneadedmhaaDoor
