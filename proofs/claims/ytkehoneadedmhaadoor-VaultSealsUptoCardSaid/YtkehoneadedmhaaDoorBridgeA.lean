/-
  Printed by a program: the plain texts of the functions, and their ties to the code.
-/
import Derived.Test.YtkehoneadedmhaaDoorPlain
namespace Go.Proofs.YtkehoneadedmhaaDoor
open Go Go.Sh
set_option linter.unusedVariables false
set_option linter.unusedSimpArgs false
set_option maxRecDepth 20000 in
theorem br56 {a0 : Int} {w : World} {K : Int → World → Prop} (h : sh56 a0 w K) : C56 a0 w K := by
  unfold sh56 at h
  refine enter (n := 21) (l := [(0, .int .u64 a0)]) 20 Tryd.func56 rfl _ rfl rfl rfl fun a hF => ?_
  refine seq_region fun K1 hK2 => ?_
  refine RL.val  hF rfl rfl rfl (r_assign hF rfl rfl) ?_; clear hF; clear a; intro a hF
  refine RL.nil (hK2 _ _ ?_)
  clear hK2 K1
  refine seq_region fun K3 hK4 => ?_
  refine RL.val  hF rfl rfl rfl (r_move hF rfl rfl) ?_; clear hF; clear a; intro a hF
  refine RL.val  hF rfl rfl rfl (r_add hF rfl rfl rfl) ?_; clear hF; clear a; intro a hF
  refine RL.val  hF rfl rfl rfl (r_mul hF rfl rfl rfl) ?_; clear hF; clear a; intro a hF
  refine RL.val  hF rfl rfl rfl (r_assign hF rfl rfl) ?_; clear hF; clear a; intro a hF
  refine RL.nil (hK4 _ _ ?_)
  clear hK4 K3
  refine seq_region fun K5 hK6 => ?_
  refine RL.val  hF rfl rfl rfl (r_move hF rfl rfl) ?_; clear hF; clear a; intro a hF
  refine RL.val  hF rfl rfl rfl (r_move hF rfl rfl) ?_; clear hF; clear a; intro a hF
  refine RL.val (v := .int .u64 (shrZ .u64 (IntKind.u64.wrap ((IntKind.u64.wrap (a0 + 1)) * 11400714819323198485)) 30)) (w' := w) hF rfl rfl rfl (r_shr hF rfl rfl rfl (by decide)) ?_; clear hF; clear a; intro a hF
  refine RL.val  hF rfl rfl rfl (r_xor hF rfl rfl rfl) ?_; clear hF; clear a; intro a hF
  refine RL.val  hF rfl rfl rfl (r_mul hF rfl rfl rfl) ?_; clear hF; clear a; intro a hF
  refine RL.val  hF rfl rfl rfl (r_assign hF rfl rfl) ?_; clear hF; clear a; intro a hF
  refine RL.nil (hK6 _ _ ?_)
  clear hK6 K5
  refine seq_region fun K7 hK8 => ?_
  refine RL.val  hF rfl rfl rfl (r_move hF rfl rfl) ?_; clear hF; clear a; intro a hF
  refine RL.val  hF rfl rfl rfl (r_move hF rfl rfl) ?_; clear hF; clear a; intro a hF
  refine RL.val (v := .int .u64 (shrZ .u64 (IntKind.u64.wrap ((bitsZ .xor .u64 (IntKind.u64.wrap ((IntKind.u64.wrap (a0 + 1)) * 11400714819323198485)) (shrZ .u64 (IntKind.u64.wrap ((IntKind.u64.wrap (a0 + 1)) * 11400714819323198485)) 30)) * 13787848793156543929)) 27)) (w' := w) hF rfl rfl rfl (r_shr hF rfl rfl rfl (by decide)) ?_; clear hF; clear a; intro a hF
  refine RL.val  hF rfl rfl rfl (r_xor hF rfl rfl rfl) ?_; clear hF; clear a; intro a hF
  refine RL.val  hF rfl rfl rfl (r_mul hF rfl rfl rfl) ?_; clear hF; clear a; intro a hF
  refine RL.val  hF rfl rfl rfl (r_assign hF rfl rfl) ?_; clear hF; clear a; intro a hF
  refine RL.nil (hK8 _ _ ?_)
  clear hK8 K7
  refine seq_region fun K9 hK10 => ?_
  refine RL.val  hF rfl rfl rfl (r_move hF rfl rfl) ?_; clear hF; clear a; intro a hF
  refine RL.val  hF rfl rfl rfl (r_move hF rfl rfl) ?_; clear hF; clear a; intro a hF
  refine RL.val (v := .int .u64 (shrZ .u64 (IntKind.u64.wrap ((bitsZ .xor .u64 (IntKind.u64.wrap ((bitsZ .xor .u64 (IntKind.u64.wrap ((IntKind.u64.wrap (a0 + 1)) * 11400714819323198485)) (shrZ .u64 (IntKind.u64.wrap ((IntKind.u64.wrap (a0 + 1)) * 11400714819323198485)) 30)) * 13787848793156543929)) (shrZ .u64 (IntKind.u64.wrap ((bitsZ .xor .u64 (IntKind.u64.wrap ((IntKind.u64.wrap (a0 + 1)) * 11400714819323198485)) (shrZ .u64 (IntKind.u64.wrap ((IntKind.u64.wrap (a0 + 1)) * 11400714819323198485)) 30)) * 13787848793156543929)) 27)) * 10723151780598845931)) 31)) (w' := w) hF rfl rfl rfl (r_shr hF rfl rfl rfl (by decide)) ?_; clear hF; clear a; intro a hF
  refine RL.val  hF rfl rfl rfl (r_xor hF rfl rfl rfl) ?_; clear hF; clear a; intro a hF
  refine RL.val  hF rfl rfl rfl (r_assign hF rfl rfl) ?_; clear hF; clear a; intro a hF
  refine RL.nil (hK10 _ _ ?_)
  clear hK10 K9
  refine wp_ret ?_
  exact ret_of hF (res1 hF rfl rfl) ⟨_, rfl, h⟩

set_option maxRecDepth 20000 in
theorem br21 {a0 : Int} {w : World} {K : Array Value → World → Prop} (h : sh21 a0 w K) : C21 a0 w K := by
  unfold sh21 at h
  refine enter (n := 32) (l := [(0, .int .i64 a0)]) 31 Tryd.func21 rfl _ rfl rfl rfl fun a hF => ?_
  refine seq_region fun K1 hK2 => ?_
  obtain ⟨p3, w4, hp_, hw_, h⟩ := h
  refine RL.val (v := .pointer (some p3)) (w' := w4) hF rfl rfl rfl (by rw [hp_, hw_]; exact r_alloc rfl Tryd.zeroValue26 rfl) ?_; clear hF; clear a; intro a hF
  refine RL.nil (hK2 _ _ ?_)
  clear hK2 K1
  refine seq_k fun K5 hK6 => ?_
  obtain ⟨J, hJ, h⟩ := jn_open h
  have jn10 : ∀ (v7 : Unit) (w8 : World) a, Fr 32 a [(2, .pointer (some p3))] → J v7 w8 → K5 a w8 := by
    intro v7 w8 a hF h
    replace h := hJ _ _ h
    clear hJ
    refine hK6 _ _ ?_
    refine seq_region fun K11 hK12 => ?_
    obtain ⟨t13, hct13, h⟩ := h
    refine RL.val  hF rfl rfl rfl (r_loadA hF rfl rfl Tryd.isAgg26 Tryd.sizeOf26 hct13) ?_; clear hF; clear a; intro a hF
    obtain ⟨w14, hs1_, hs2_, hs3_, hs4_, h⟩ := h
    refine RL.unit (w' := w14) hF rfl rfl (by rw [hs4_]; exact r_storeA hF rfl rfl rfl Tryd.sizeOf26 hs1_ hs2_ hs3_) ?_; clear hF; clear a; intro a hF
    refine RL.nil (hK12 _ _ ?_)
    clear hK12 K11
    refine wp_ret ?_
    obtain ⟨t15, hct15, h⟩ := h
    exact ret_of hF (res1 hF rfl ⟨_, rfl, ldAg Tryd.isAgg26 Tryd.sizeOf26 hct15⟩) ⟨_, rfl, h⟩
  clear hJ
  refine seq_region fun K16 hK17 => ?_
  refine RL.val  hF rfl rfl rfl (r_move hF rfl rfl) ?_; clear hF; clear a; intro a hF
  refine RL.nil (hK17 _ _ ?_)
  clear hK17 K16
  refine wp_block ?_
  refine loop_ (fun (s18 : Int) => [(0, .int .i64 a0), (2, .pointer (some p3)), (6, .int .i64 s18)]) (hF.sub rfl) h ?_
  clear hF h
  intro s18 w19 N20 KL hN21 h a hF
  refine seq_region fun K22 hK23 => ?_
  refine RL.val  hF rfl rfl rfl (r_lss hF rfl rfl rfl) ?_; clear hF; clear a; intro a hF
  refine RL.nil (hK23 _ _ ?_)
  clear hK23 K22
  refine seq_k fun K24 hK25 => ?_
  obtain ⟨J, hJ, h⟩ := jn_open h
  have jn29 : ∀ (v26 : Unit) (w27 : World) a, Fr 32 a [(0, .int .i64 a0), (2, .pointer (some p3)), (6, .int .i64 s18)] → J v26 w27 → K24 a w27 := by
    intro v26 w27 a hF h
    replace h := hJ _ _ h
    clear hJ
    refine hK25 _ _ ?_
    refine seq_k fun K30 hK31 => ?_
    obtain ⟨J, hJ, h⟩ := jn_open h
    have jn35 : ∀ (v32 : Unit) (w33 : World) a, Fr 32 a [(0, .int .i64 a0), (2, .pointer (some p3)), (6, .int .i64 s18)] → J v32 w33 → K30 a w33 := by
      intro v32 w33 a hF h
      replace h := hJ _ _ h
      clear hJ
      refine hK31 _ _ ?_
      refine end_region fun K36 hK37 => ?_
      refine RL.val  hF rfl rfl rfl (r_add hF rfl rfl rfl) ?_; clear hF; clear a; intro a hF
      refine RL.val  hF rfl rfl rfl (r_move hF rfl rfl) ?_; clear hF; clear a; intro a hF
      refine RL.nil (hK37 _ _ ?_)
      clear hK37 K36
      exact hN21 (IntKind.i64.wrap (s18 + 1)) _ _ (hF.sub rfl) h
    clear hJ
    refine wp_block ?_
    refine seq_region fun K38 hK39 => ?_
    refine RL.val  hF rfl rfl rfl (r_move hF rfl rfl) ?_; clear hF; clear a; intro a hF
    refine RL.val  hF rfl rfl rfl (r_assign hF rfl rfl) ?_; clear hF; clear a; intro a hF
    refine RL.nil (hK39 _ _ ?_)
    clear hK39 K38
    refine seq_region fun K40 hK41 => ?_
    refine RL.val  hF rfl rfl rfl (r_move hF rfl rfl) ?_; clear hF; clear a; intro a hF
    refine RL.val  hF rfl rfl rfl (r_mul hF rfl rfl rfl) ?_; clear hF; clear a; intro a hF
    refine RL.val  hF rfl rfl rfl (r_move hF rfl rfl) ?_; clear hF; clear a; intro a hF
    refine RL.val  hF rfl rfl rfl (r_add hF rfl rfl rfl) ?_; clear hF; clear a; intro a hF
    refine RL.val  hF rfl rfl rfl (r_convInt hF rfl rfl Tryd.runUnderlying3 Tryd.runUnderlying70) ?_; clear hF; clear a; intro a hF
    refine RL.call hF rfl rfl rfl (r_call (xs := [.int .u64 (IntKind.u64.wrap (IntKind.i64.wrap ((IntKind.i64.wrap (2 * a0)) + s18)))]) hF rfl rfl Tryd.call56) (CallsV.mono h ?_)
    clear h; rintro _ w42 ⟨r43, rfl, h⟩; clear hF; clear a; intro a hF
    refine RL.val  hF rfl rfl rfl (r_assign hF rfl rfl) ?_; clear hF; clear a; intro a hF
    refine RL.nil (hK41 _ _ ?_)
    clear hK41 K40
    refine seq_region fun K44 hK45 => ?_
    refine RL.val  hF rfl rfl rfl (r_move hF rfl rfl) ?_; clear hF; clear a; intro a hF
    refine RL.nil (hK45 _ _ ?_)
    clear hK45 K44
    refine wp_block ?_
    refine loop_ (fun (s46 : Int) => [(0, .int .i64 a0), (2, .pointer (some p3)), (3, .int .i64 s18), (4, .int .u64 r43), (6, .int .i64 s18), (15, .int .i64 s46)]) (hF.sub rfl) h ?_
    clear hF h
    intro s46 w47 N48 KL hN49 h a hF
    refine seq_region fun K50 hK51 => ?_
    refine RL.val  hF rfl rfl rfl (r_lss hF rfl rfl rfl) ?_; clear hF; clear a; intro a hF
    refine RL.nil (hK51 _ _ ?_)
    clear hK51 K50
    refine seq_k fun K52 hK53 => ?_
    obtain ⟨J, hJ, h⟩ := jn_open h
    have jn57 : ∀ (v54 : Unit) (w55 : World) a, Fr 32 a [(0, .int .i64 a0), (2, .pointer (some p3)), (3, .int .i64 s18), (4, .int .u64 r43), (6, .int .i64 s18), (15, .int .i64 s46)] → J v54 w55 → K52 a w55 := by
      intro v54 w55 a hF h
      replace h := hJ _ _ h
      clear hJ
      refine hK53 _ _ ?_
      refine seq_k fun K58 hK59 => ?_
      obtain ⟨J, hJ, h⟩ := jn_open h
      have jn63 : ∀ (v60 : Unit) (w61 : World) a, Fr 32 a [(0, .int .i64 a0), (2, .pointer (some p3)), (3, .int .i64 s18), (4, .int .u64 r43), (6, .int .i64 s18), (15, .int .i64 s46)] → J v60 w61 → K58 a w61 := by
        intro v60 w61 a hF h
        replace h := hJ _ _ h
        clear hJ
        refine hK59 _ _ ?_
        refine end_region fun K64 hK65 => ?_
        refine RL.val  hF rfl rfl rfl (r_add hF rfl rfl rfl) ?_; clear hF; clear a; intro a hF
        refine RL.val  hF rfl rfl rfl (r_move hF rfl rfl) ?_; clear hF; clear a; intro a hF
        refine RL.nil (hK65 _ _ ?_)
        clear hK65 K64
        exact hN49 (IntKind.i64.wrap (s46 + 1)) _ _ (hF.sub rfl) h
      clear hJ
      refine wp_block ?_
      refine seq_region fun K66 hK67 => ?_
      refine RL.val  hF rfl rfl rfl (r_move hF rfl rfl) ?_; clear hF; clear a; intro a hF
      refine RL.val  hF rfl rfl rfl (r_assign hF rfl rfl) ?_; clear hF; clear a; intro a hF
      refine RL.nil (hK67 _ _ ?_)
      clear hK67 K66
      refine end_region fun K68 hK69 => ?_
      refine RL.val  hF rfl rfl rfl (r_move hF rfl rfl) ?_; clear hF; clear a; intro a hF
      refine RL.val  hF rfl rfl rfl (r_mul hF rfl rfl rfl) ?_; clear hF; clear a; intro a hF
      refine RL.val  hF rfl rfl rfl (r_move hF rfl rfl) ?_; clear hF; clear a; intro a hF
      refine RL.val  hF rfl rfl rfl (r_add hF rfl rfl rfl) ?_; clear hF; clear a; intro a hF
      refine RL.val  hF rfl rfl rfl (r_move hF rfl rfl) ?_; clear hF; clear a; intro a hF
      refine RL.val  hF rfl rfl rfl (r_move hF rfl rfl) ?_; clear hF; clear a; intro a hF
      refine RL.val  hF rfl rfl rfl (r_mul hF rfl rfl rfl) ?_; clear hF; clear a; intro a hF
      refine RL.val  hF rfl rfl rfl (r_sub hF rfl rfl rfl) ?_; clear hF; clear a; intro a hF
      obtain ⟨h0_, h⟩ := h
      refine RL.val  hF rfl rfl rfl (r_shr hF rfl rfl rfl h0_) ?_; clear hF; clear a; intro a hF
      refine RL.val  hF rfl rfl rfl (r_convInt hF rfl rfl Tryd.runUnderlying70 Tryd.runUnderlying5) ?_; clear hF; clear a; intro a hF
      obtain ⟨p70, h0_, h1_, hp_, h⟩ := h
      refine RL.val (v := .pointer (some p70)) (w' := w55) hF rfl rfl rfl (by rw [hp_]; exact r_indexAddrA hF rfl rfl rfl Tryd.runUnderlying26 Tryd.sizeOf5 h0_ h1_) ?_; clear hF; clear a; intro a hF
      obtain ⟨u_, w71, hs1_, hs2_, hs3_, h⟩ := h
      refine RL.unit (w' := w71) hF rfl rfl (by rw [hs3_]; exact r_store hF rfl rfl rfl rfl Tryd.sizeOf5 hs1_ hs2_) ?_; clear hF; clear a; intro a hF
      refine RL.nil (hK69 _ _ ?_)
      clear hK69 K68
      exact jn63 () _ _ (hF.sub rfl) h
    clear hJ
    obtain ⟨ht, hf⟩ := h
    refine cond_ hF rfl (fun hc => ?_) (fun hc => ?_)
    · replace h := ht hc; clear ht hf
      refine wp_skip ?_
      exact jn57 () _ _ (hF.sub rfl) h
    · replace h := hf hc; clear ht hf
      refine wp_exit ?_
      exact jn35 () _ _ (hF.sub rfl) h
  clear hJ
  obtain ⟨ht, hf⟩ := h
  refine cond_ hF rfl (fun hc => ?_) (fun hc => ?_)
  · replace h := ht hc; clear ht hf
    refine wp_skip ?_
    exact jn29 () _ _ (hF.sub rfl) h
  · replace h := hf hc; clear ht hf
    refine wp_exit ?_
    exact jn10 () _ _ (hF.sub rfl) h

set_option maxRecDepth 20000 in
theorem br16 {a0 : Option Addr} {a1 : Array Value} {w : World} {K : Array Value → World → Prop} (h : sh16 a0 a1 w K) : C16 a0 a1 w K := by
  unfold sh16 at h
  refine enter (n := 55) (l := [(0, .pointer a0), (1, .agg a1)]) 53 Tryd.func16 rfl _ rfl rfl rfl fun a hF => ?_
  refine seq_region fun K1 hK2 => ?_
  obtain ⟨p3, w4, hp_, hw_, h⟩ := h
  refine RL.val (v := .pointer (some p3)) (w' := w4) hF rfl rfl rfl (by rw [hp_, hw_]; exact r_box hF rfl rfl rfl) ?_; clear hF; clear a; intro a hF
  obtain ⟨p5, w6, hp_, hw_, h⟩ := h
  refine RL.val (v := .pointer (some p5)) (w' := w6) hF rfl rfl rfl (by rw [hp_, hw_]; exact r_alloc rfl Tryd.zeroValue26 rfl) ?_; clear hF; clear a; intro a hF
  refine RL.nil (hK2 _ _ ?_)
  clear hK2 K1
  refine seq_k fun K7 hK8 => ?_
  obtain ⟨J, hJ, h⟩ := jn_open h
  have jn12 : ∀ (v9 : Unit) (w10 : World) a, Fr 55 a [(0, .pointer a0), (3, .pointer (some p3)), (4, .pointer (some p5))] → J v9 w10 → K7 a w10 := by
    intro v9 w10 a hF h
    replace h := hJ _ _ h
    clear hJ
    refine hK8 _ _ ?_
    refine seq_region fun K13 hK14 => ?_
    refine RL.val  hF rfl rfl rfl (r_move hF rfl rfl) ?_; clear hF; clear a; intro a hF
    obtain ⟨p15, hpp15, h⟩ := h
    refine RL.val  hF rfl rfl rfl (r_nilCheck hF rfl (lkp rfl hpp15)) ?_; clear hF; clear a; intro a hF
    refine RL.val  hF rfl rfl rfl (r_fieldAddr0 hF rfl rfl Tryd.runUnderlying52 rfl Tryd.sizeOf50 rfl) ?_; clear hF; clear a; intro a hF
    obtain ⟨t16, hct16, h⟩ := h
    refine RL.val  hF rfl rfl rfl (r_load hF rfl rfl Tryd.isAgg50 hct16) ?_; clear hF; clear a; intro a hF
    refine RL.val  hF rfl rfl rfl (r_len_slice hF rfl rfl Tryd.runUnderlying50) ?_; clear hF; clear a; intro a hF
    refine RL.val  hF rfl rfl rfl (r_assign hF rfl rfl) ?_; clear hF; clear a; intro a hF
    refine RL.nil (hK14 _ _ ?_)
    clear hK14 K13
    refine seq_draw 1216 #[0, 0, 2, 6, 14, 0, 32, 126, 255, 511, 1023] 11 mo rfl (by kernel_rfl) (by kernel_rfl) fun hS K17 hK18 => ?_
    obtain ⟨w19, hw, h⟩ := h; rw [← hw]; clear hw
    refine GL.val (v := .pointer a0) (i := 0) hF hS rfl rfl (by kernel_rfl) rfl rfl rfl rfl (fun x => r_move hF rfl rfl) ?_; clear hF; clear a; intro a hF
    refine GL.val (v := .pointer a0) (i := 1) hF hS rfl rfl (by kernel_rfl) rfl rfl rfl rfl (fun x => r_move hF rfl rfl) ?_; clear hF; clear a; intro a hF
    obtain ⟨p20, hpp20, h⟩ := h
    refine GL.val (v := .pointer (some p20)) (i := 2) hF hS rfl rfl (by kernel_rfl) rfl rfl rfl rfl (fun x => r_nilCheck hF rfl (lkp rfl hpp20)) ?_; clear hF; clear a; intro a hF
    refine GL.val (v := .pointer (some p20)) (i := 3) hF hS rfl rfl (by kernel_rfl) rfl rfl rfl rfl (fun x => r_fieldAddr0 hF rfl rfl Tryd.runUnderlying52 rfl Tryd.sizeOf50 rfl) ?_; clear hF; clear a; intro a hF
    obtain ⟨t21, hct21, h⟩ := h
    refine GL.read (v := t21.v) (i := 4) hF (fun x => World.cell? x p20 = some (t21.v)) hS rfl rfl (by kernel_rfl) rfl rfl rfl rfl hct21 (fun x hx => r_load hF rfl rfl Tryd.isAgg50 hx) ?_; clear hF; clear a; intro a hF
    obtain ⟨t22, hct22, h⟩ := h
    refine GL.read (v := .agg t22) (i := 5) hF (fun x => CellsAt x p3 7 t22) hS rfl rfl (by kernel_rfl) rfl rfl rfl rfl hct22 (fun x hx => r_loadA hF rfl rfl Tryd.isAgg55 Tryd.sizeOf55 hx) ?_; clear hF; clear a; intro a hF
    refine GL.act (i := 6) (pend' := [(4, fun x => World.cell? x p20 = some (t21.v))]) hS (by kernel_rfl) rfl (by kernel_rfl) ?_
    obtain ⟨t24, w23, hc_, h⟩ := h
    obtain ⟨hk25, h⟩ := h
    refine op_val  hF rfl rfl rfl rfl (r_buildSlice (xs := [(0, .agg t22)]) hF rfl rfl hc_) ⟨hk25, trivial⟩ ?_; clear hF; clear a; intro a hF
    refine GL.act (i := 7) (pend' := []) hS (by kernel_rfl) rfl (by kernel_rfl) ?_
    obtain ⟨t27, w26, hc_, h⟩ := h
    refine op_val  hF rfl rfl rfl rfl (r_append (xs := [t21.v, t24.v]) hF rfl rfl hc_) trivial ?_; clear hF; clear a; intro a hF
    obtain ⟨p28, hpp28, h⟩ := h
    refine GL.val (v := .pointer (some p28)) (i := 8) hF hS rfl rfl (by kernel_rfl) rfl rfl rfl rfl (fun x => r_nilCheck hF rfl (lkp rfl hpp28)) ?_; clear hF; clear a; intro a hF
    refine GL.val (v := .pointer (some p28)) (i := 9) hF hS rfl rfl (by kernel_rfl) rfl rfl rfl rfl (fun x => r_fieldAddr0 hF rfl rfl Tryd.runUnderlying52 rfl Tryd.sizeOf50 rfl) ?_; clear hF; clear a; intro a hF
    refine GL.act (i := 10) (pend' := []) hS (by kernel_rfl) rfl (by kernel_rfl) ?_
    obtain ⟨u_, w29, hs1_, hs2_, hs3_, h⟩ := h
    refine op_unit (w' := w29) hF rfl rfl rfl (by rw [hs3_]; exact r_store hF rfl rfl rfl rfl Tryd.sizeOf50 hs1_ hs2_) trivial ?_; clear hF; clear a; intro a hF
    refine GL.done (by kernel_rfl) (hK18 _ _ ?_)
    clear hK18 K17
    refine seq_draw 64 #[0, 1, 3, 7, 0, 0, 63] 7 mo rfl (by kernel_rfl) (by kernel_rfl) fun hS K30 hK31 => ?_
    obtain ⟨w32, hw, h⟩ := h; rw [← hw]; clear hw
    refine GL.val (v := .pointer a0) (i := 0) hF hS rfl rfl (by kernel_rfl) rfl rfl rfl rfl (fun x => r_move hF rfl rfl) ?_; clear hF; clear a; intro a hF
    obtain ⟨p33, hpp33, h⟩ := h
    refine GL.val (v := .pointer (some p33)) (i := 1) hF hS rfl rfl (by kernel_rfl) rfl rfl rfl rfl (fun x => r_nilCheck hF rfl (lkp rfl hpp33)) ?_; clear hF; clear a; intro a hF
    refine GL.val (v := .pointer (some (p33.add 1))) (i := 2) hF hS rfl rfl (by kernel_rfl) rfl rfl rfl rfl (fun x => r_fieldAddr hF rfl rfl Tryd.runUnderlying52 rfl Tryd.sizeOf48 rfl) ?_; clear hF; clear a; intro a hF
    obtain ⟨t34, hct34, h⟩ := h
    refine GL.read (v := .map t34) (i := 3) hF (fun x => World.cell? x (p33.add 1) = some (.map t34)) hS rfl rfl (by kernel_rfl) rfl rfl rfl rfl hct34 (fun x hx => r_load hF rfl rfl Tryd.isAgg48 hx) ?_; clear hF; clear a; intro a hF
    obtain ⟨t35, hct35, h⟩ := h
    refine GL.read (v := .agg t35) (i := 4) hF (fun x => CellsAt x p3 7 t35) hS rfl rfl (by kernel_rfl) rfl rfl rfl rfl hct35 (fun x hx => r_loadA hF rfl rfl Tryd.isAgg55 Tryd.sizeOf55 hx) ?_; clear hF; clear a; intro a hF
    refine GL.val (v := .int .i64 (t16.len : Int)) (i := 5) hF hS rfl rfl (by kernel_rfl) rfl rfl rfl rfl (fun x => r_move hF rfl rfl) ?_; clear hF; clear a; intro a hF
    refine GL.act (i := 6) (pend' := []) hS (by kernel_rfl) rfl (by kernel_rfl) ?_
    obtain ⟨w36, hc_, h⟩ := h
    refine op_unit  hF rfl rfl rfl (r_mapUpdate hF rfl rfl rfl rfl hc_) trivial ?_; clear hF; clear a; intro a hF
    refine GL.done (by kernel_rfl) (hK31 _ _ ?_)
    clear hK31 K30
    refine seq_draw 160 #[0, 1, 3, 7, 0, 16, 0, 127] 8 mo rfl (by kernel_rfl) (by kernel_rfl) fun hS K37 hK38 => ?_
    obtain ⟨w39, hw, h⟩ := h; rw [← hw]; clear hw
    refine GL.val (v := .pointer a0) (i := 0) hF hS rfl rfl (by kernel_rfl) rfl rfl rfl rfl (fun x => r_move hF rfl rfl) ?_; clear hF; clear a; intro a hF
    obtain ⟨p40, hpp40, h⟩ := h
    refine GL.val (v := .pointer (some p40)) (i := 1) hF hS rfl rfl (by kernel_rfl) rfl rfl rfl rfl (fun x => r_nilCheck hF rfl (lkp rfl hpp40)) ?_; clear hF; clear a; intro a hF
    refine GL.val (v := .pointer (some (p40.add 2))) (i := 2) hF hS rfl rfl (by kernel_rfl) rfl rfl rfl rfl (fun x => r_fieldAddr hF rfl rfl Tryd.runUnderlying52 rfl Tryd.sizeOf49 rfl) ?_; clear hF; clear a; intro a hF
    obtain ⟨t41, hct41, h⟩ := h
    refine GL.read (v := .map t41) (i := 3) hF (fun x => World.cell? x (p40.add 2) = some (.map t41)) hS rfl rfl (by kernel_rfl) rfl rfl rfl rfl hct41 (fun x hx => r_load hF rfl rfl Tryd.isAgg49 hx) ?_; clear hF; clear a; intro a hF
    refine GL.val (v := .int .i64 (t16.len : Int)) (i := 4) hF hS rfl rfl (by kernel_rfl) rfl rfl rfl rfl (fun x => r_move hF rfl rfl) ?_; clear hF; clear a; intro a hF
    refine GL.val (v := .int .i64 (t16.len : Int)) (i := 6) hF hS rfl rfl (by kernel_rfl) rfl rfl rfl rfl (fun x => r_move hF rfl rfl) ?_; clear hF; clear a; intro a hF
    refine GL.act (i := 5) (pend' := [(3, fun x => World.cell? x (p40.add 2) = some (.map t41))]) hS (by kernel_rfl) rfl (by kernel_rfl) ?_
    refine op_call hF rfl rfl rfl rfl (r_call (xs := [.int .i64 (t16.len : Int)]) hF rfl rfl Tryd.call21) (CallsV.mono h ?_)
    clear h; rintro _ w42 ⟨r43, rfl, h⟩
    obtain ⟨hk44, h⟩ := h
    refine ⟨⟨hk44, trivial⟩, ?_⟩; clear hF; clear a; intro a hF
    refine GL.act (i := 7) (pend' := []) hS (by kernel_rfl) rfl (by kernel_rfl) ?_
    obtain ⟨w45, hc_, h⟩ := h
    refine op_unit  hF rfl rfl rfl (r_mapUpdate hF rfl rfl rfl rfl hc_) trivial ?_; clear hF; clear a; intro a hF
    refine GL.done (by kernel_rfl) (hK38 _ _ ?_)
    clear hK38 K37
    refine seq_region fun K46 hK47 => ?_
    refine RL.val  hF rfl rfl rfl (r_move hF rfl rfl) ?_; clear hF; clear a; intro a hF
    refine RL.call hF rfl rfl rfl (r_call (xs := [.int .i64 (t16.len : Int)]) hF rfl rfl Tryd.call21) (CallsV.mono h ?_)
    clear h; rintro _ w48 ⟨r49, rfl, h⟩; clear hF; clear a; intro a hF
    obtain ⟨w50, hs1_, hs2_, hs3_, hs4_, h⟩ := h
    refine RL.unit (w' := w50) hF rfl rfl (by rw [hs4_]; exact r_storeA hF rfl rfl rfl Tryd.sizeOf26 hs1_ hs2_ hs3_) ?_; clear hF; clear a; intro a hF
    refine RL.nil (hK47 _ _ ?_)
    clear hK47 K46
    refine wp_ret ?_
    obtain ⟨t51, hct51, h⟩ := h
    exact ret_of hF (res1 hF rfl ⟨_, rfl, ldAg Tryd.isAgg26 Tryd.sizeOf26 hct51⟩) ⟨_, rfl, h⟩
  clear hJ
  refine seq_draw 0 #[0, 1, 3, 7, 0, 31, 63, 127, 127, 255, 1023] 11 mo rfl (by kernel_rfl) (by kernel_rfl) fun hS K52 hK53 => ?_
  obtain ⟨w54, hw, h⟩ := h; rw [← hw]; clear hw
  refine GL.val (v := .pointer a0) (i := 0) hF hS rfl rfl (by kernel_rfl) rfl rfl rfl rfl (fun x => r_move hF rfl rfl) ?_; clear hF; clear a; intro a hF
  obtain ⟨p55, hpp55, h⟩ := h
  refine GL.val (v := .pointer (some p55)) (i := 1) hF hS rfl rfl (by kernel_rfl) rfl rfl rfl rfl (fun x => r_nilCheck hF rfl (lkp rfl hpp55)) ?_; clear hF; clear a; intro a hF
  refine GL.val (v := .pointer (some (p55.add 1))) (i := 2) hF hS rfl rfl (by kernel_rfl) rfl rfl rfl rfl (fun x => r_fieldAddr hF rfl rfl Tryd.runUnderlying52 rfl Tryd.sizeOf48 rfl) ?_; clear hF; clear a; intro a hF
  obtain ⟨t56, hct56, h⟩ := h
  refine GL.read (v := .map t56) (i := 3) hF (fun x => World.cell? x (p55.add 1) = some (.map t56)) hS rfl rfl (by kernel_rfl) rfl rfl rfl rfl hct56 (fun x hx => r_load hF rfl rfl Tryd.isAgg48 hx) ?_; clear hF; clear a; intro a hF
  obtain ⟨t57, hct57, h⟩ := h
  refine GL.read (v := .agg t57) (i := 4) hF (fun x => CellsAt x p3 7 t57) hS rfl rfl (by kernel_rfl) rfl rfl rfl rfl hct57 (fun x hx => r_loadA hF rfl rfl Tryd.isAgg55 Tryd.sizeOf55 hx) ?_; clear hF; clear a; intro a hF
  obtain ⟨t58, t59, hct58, h⟩ := h
  refine GL.read (v := .tuple #[.int .i64 t58, .bool t59]) (i := 5) hF (fun x => rn Tryd.prog (Instr.lookup 48 (.map t56) (.agg t57) true) (.tuple #[.int .i64 t58, .bool t59]) x x) hS rfl rfl (by kernel_rfl) rfl rfl rfl rfl hct58 (fun x hx => r_lookup hF rfl rfl rfl hx) ?_; clear hF; clear a; intro a hF
  refine GL.val (v := .tuple #[.int .i64 t58, .bool t59]) (i := 6) hF hS rfl rfl (by kernel_rfl) rfl rfl rfl rfl (fun x => r_move hF rfl rfl) ?_; clear hF; clear a; intro a hF
  refine GL.val (v := .int .i64 t58) (i := 7) hF hS rfl rfl (by kernel_rfl) rfl rfl rfl rfl (fun x => r_extract hF rfl rfl rfl) ?_; clear hF; clear a; intro a hF
  refine GL.val (v := .bool t59) (i := 8) hF hS rfl rfl (by kernel_rfl) rfl rfl rfl rfl (fun x => r_extract hF rfl rfl rfl) ?_; clear hF; clear a; intro a hF
  refine GL.val (v := .int .i64 t58) (i := 9) hF hS rfl rfl (by kernel_rfl) rfl rfl rfl rfl (fun x => r_assign hF rfl rfl) ?_; clear hF; clear a; intro a hF
  refine GL.val (v := .bool t59) (i := 10) hF hS rfl rfl (by kernel_rfl) rfl rfl rfl rfl (fun x => r_assign hF rfl rfl) ?_; clear hF; clear a; intro a hF
  refine GL.done (by kernel_rfl) (hK53 _ _ ?_)
  clear hK53 K52
  refine seq_region fun K60 hK61 => ?_
  obtain ⟨J64, hJ, h⟩ := jn_open h
  have jn65 : ∀ (v62 : Bool) (w63 : World) a, Fr 55 a [(0, .pointer a0), (3, .pointer (some p3)), (4, .pointer (some p5)), (5, .int .i64 t58), (22, .bool v62)] → J64 v62 w63 → K60 a w63 := by
    clear hF
    intro v62 w63 a hF h; replace h := hJ _ _ h; refine hK61 _ _ ?_; clear hJ hK61 K60
    obtain ⟨ht, hf⟩ := h
    refine cond_ hF rfl (fun hc => ?_) (fun hc => ?_)
    · replace h := ht hc; clear ht hf
      refine seq_region fun K66 hK67 => ?_
      refine RL.val  hF rfl rfl rfl (r_move hF rfl rfl) ?_; clear hF; clear a; intro a hF
      refine RL.call hF rfl rfl rfl (r_call (xs := [.int .i64 t58]) hF rfl rfl Tryd.call21) (CallsV.mono h ?_)
      clear h; rintro _ w68 ⟨r69, rfl, h⟩; clear hF; clear a; intro a hF
      obtain ⟨w70, hs1_, hs2_, hs3_, hs4_, h⟩ := h
      refine RL.unit (w' := w70) hF rfl rfl (by rw [hs4_]; exact r_storeA hF rfl rfl rfl Tryd.sizeOf26 hs1_ hs2_ hs3_) ?_; clear hF; clear a; intro a hF
      refine RL.nil (hK67 _ _ ?_)
      clear hK67 K66
      refine wp_ret ?_
      obtain ⟨t71, hct71, h⟩ := h
      exact ret_of hF (res1 hF rfl ⟨_, rfl, ldAg Tryd.isAgg26 Tryd.sizeOf26 hct71⟩) ⟨_, rfl, h⟩
    · replace h := hf hc; clear ht hf
      refine wp_skip ?_
      exact jn12 () _ _ (hF.sub rfl) h
  clear hJ hK61
  refine RL.val  hF rfl rfl rfl (r_move hF rfl rfl) ?_; clear hF; clear a; intro a hF
  refine RL.val  hF rfl rfl rfl (r_move hF rfl rfl) ?_; clear hF; clear a; intro a hF
  obtain ⟨ht, hf⟩ := h
  rcases bool_cases t59 with hg72 | hg72
  · replace h := ht hg72; clear ht hf
    refine RL.gval  hF rfl rfl (lkb rfl hg72) rfl rfl (r_fieldAddr0 hF rfl rfl Tryd.runUnderlying55 rfl Tryd.sizeOf3 rfl) ?_; clear hF; clear a; intro a hF
    obtain ⟨t73, hct73, h⟩ := h
    refine RL.gval  hF rfl rfl (lkb rfl hg72) rfl rfl (r_load hF rfl rfl Tryd.isAgg3 hct73) ?_; clear hF; clear a; intro a hF
    refine RL.gval  hF rfl rfl (lkb rfl hg72) rfl rfl (r_neq hF rfl rfl rfl) ?_; clear hF; clear a; intro a hF
    refine RL.val (v := .bool (t73 != 1)) (w' := w54) hF rfl rfl rfl (r_pick hF rfl rfl rfl rfl (fun _ => rfl) (fun e => absurd (hg72.symm.trans e) (by decide))) ?_; clear hF; clear a; intro a hF
    refine RL.nil ?_
    exact jn65 (t73 != 1) _ _ (hF.sub rfl) h
  · replace h := hf hg72; clear ht hf
    refine RL.skip hF rfl rfl (lkb rfl hg72) (.inl rfl) rfl rfl ?_; clear hF; clear a; intro a hF
    refine RL.skip hF rfl rfl (lkb rfl hg72) (.inl rfl) rfl rfl ?_; clear hF; clear a; intro a hF
    refine RL.skip hF rfl rfl (lkb rfl hg72) (.inl rfl) rfl rfl ?_; clear hF; clear a; intro a hF
    refine RL.val (v := .bool false) (w' := w54) hF rfl rfl rfl (r_pick hF rfl rfl rfl rfl (fun e => absurd (hg72.symm.trans e) (by decide)) (fun _ => rfl)) ?_; clear hF; clear a; intro a hF
    refine RL.nil ?_
    exact jn65 false _ _ (hF.sub rfl) h

set_option maxRecDepth 20000 in
theorem br5 {w : World} {K : Option Addr → World → Prop} (h : sh5 w K) : C5 w K := by
  unfold sh5 at h
  refine enter (n := 10) (l := []) 10 Tryd.func5 rfl _ rfl rfl rfl fun a hF => ?_
  refine seq_region fun K1 hK2 => ?_
  refine RL.val  hF rfl rfl rfl (r_assign hF rfl rfl) ?_; clear hF; clear a; intro a hF
  refine RL.nil (hK2 _ _ ?_)
  clear hK2 K1
  refine seq_region fun K3 hK4 => ?_
  obtain ⟨m5, w6, hp_, hw_, h⟩ := h
  refine RL.val (v := .map m5) (w' := w6) hF rfl rfl rfl (by rw [hp_, hw_]; exact r_makeMap rfl) ?_; clear hF; clear a; intro a hF
  obtain ⟨m7, w8, hp_, hw_, h⟩ := h
  refine RL.val (v := .map m7) (w' := w8) hF rfl rfl rfl (by rw [hp_, hw_]; exact r_makeMap rfl) ?_; clear hF; clear a; intro a hF
  refine RL.val (v := .agg (#[Slc.nil.v, .map m5, .map m7])) (w' := w8) hF rfl rfl rfl (r_build (xs := [(1, .map m5), (2, .map m7)]) hF rfl rfl (by kernel_rfl)) ?_; clear hF; clear a; intro a hF
  obtain ⟨p9, w10, hp_, hw_, h⟩ := h
  refine RL.val (v := .pointer (some p9)) (w' := w10) hF rfl rfl rfl (by rw [hp_, hw_]; exact r_box hF rfl rfl rfl) ?_; clear hF; clear a; intro a hF
  refine RL.val  hF rfl rfl rfl (r_assign hF rfl rfl) ?_; clear hF; clear a; intro a hF
  refine RL.nil (hK4 _ _ ?_)
  clear hK4 K3
  refine seq_region fun K11 hK12 => ?_
  refine RL.val  hF rfl rfl rfl (r_move hF rfl rfl) ?_; clear hF; clear a; intro a hF
  refine RL.val (v := .agg (#[.int .i64 0, .int .i64 0, .int .i64 0, .int .i64 0, .string (⟨#[]⟩ : ByteArray), .string (⟨#[]⟩ : ByteArray), .string (⟨#[]⟩ : ByteArray)])) (w' := w10) hF rfl rfl rfl (r_build (xs := [(0, .int .i64 0)]) hF rfl rfl (by kernel_rfl)) ?_; clear hF; clear a; intro a hF
  refine RL.call hF rfl rfl rfl (r_call (xs := [.pointer (some p9), .agg (#[.int .i64 0, .int .i64 0, .int .i64 0, .int .i64 0, .string (⟨#[]⟩ : ByteArray), .string (⟨#[]⟩ : ByteArray), .string (⟨#[]⟩ : ByteArray)])]) hF rfl rfl Tryd.call16) (CallsV.mono h ?_)
  clear h; rintro _ w13 ⟨r14, rfl, h⟩; clear hF; clear a; intro a hF
  refine RL.nil (hK12 _ _ ?_)
  clear hK12 K11
  refine seq_region fun K15 hK16 => ?_
  refine RL.val  hF rfl rfl rfl (r_move hF rfl rfl) ?_; clear hF; clear a; intro a hF
  refine RL.val  hF rfl rfl rfl (r_assign hF rfl rfl) ?_; clear hF; clear a; intro a hF
  refine RL.nil (hK16 _ _ ?_)
  clear hK16 K15
  refine wp_ret ?_
  exact ret_of hF (res1 hF rfl rfl) ⟨_, rfl, h⟩

set_option maxRecDepth 20000 in
theorem br17 {a0 : Option Addr} {w : World} {K : Bool → World → Prop} (h : sh17 a0 w K) : C17 a0 w K := by
  unfold sh17 at h
  refine enter (n := 12) (l := [(0, .pointer a0)]) 11 Tryd.func17 rfl _ rfl rfl rfl fun a hF => ?_
  refine seq_region fun K1 hK2 => ?_
  refine RL.val  hF rfl rfl rfl (r_assign hF rfl rfl) ?_; clear hF; clear a; intro a hF
  refine RL.nil (hK2 _ _ ?_)
  clear hK2 K1
  refine seq_region fun K3 hK4 => ?_
  obtain ⟨J7, hJ, h⟩ := jn_open h
  have jn8 : ∀ (v5 : Bool) (w6 : World) a, Fr 12 a [(2, .bool v5)] → J7 v5 w6 → K3 a w6 := by
    clear hF
    intro v5 w6 a hF h; replace h := hJ _ _ h; refine hK4 _ _ ?_; clear hJ hK4 K3
    refine wp_ret ?_
    exact ret_of hF (res1 hF rfl rfl) ⟨_, rfl, h⟩
  clear hJ hK4
  refine RL.val  hF rfl rfl rfl (r_move hF rfl rfl) ?_; clear hF; clear a; intro a hF
  refine RL.val  hF rfl rfl rfl (r_ptrnil hF rfl rfl rfl Tryd.runUnderlying23) ?_; clear hF; clear a; intro a hF
  refine RL.val  hF rfl rfl rfl (r_move hF rfl rfl) ?_; clear hF; clear a; intro a hF
  obtain ⟨ht, hf⟩ := h
  rcases bool_cases a0.isNone with hg9 | hg9
  · replace h := ht hg9; clear ht hf
    refine RL.skip hF rfl rfl (lkb rfl hg9) (.inl rfl) rfl rfl ?_; clear hF; clear a; intro a hF
    refine RL.skip hF rfl rfl (lkb rfl hg9) (.inl rfl) rfl rfl ?_; clear hF; clear a; intro a hF
    refine RL.skip hF rfl rfl (lkb rfl hg9) (.inl rfl) rfl rfl ?_; clear hF; clear a; intro a hF
    refine RL.skip hF rfl rfl (lkb rfl hg9) (.inl rfl) rfl rfl ?_; clear hF; clear a; intro a hF
    refine RL.skip hF rfl rfl (lkb rfl hg9) (.inl rfl) rfl rfl ?_; clear hF; clear a; intro a hF
    refine RL.val (v := .bool true) (w' := w) hF rfl rfl rfl (r_pick hF rfl rfl rfl rfl (fun _ => rfl) (fun e => absurd (hg9.symm.trans e) (by decide))) ?_; clear hF; clear a; intro a hF
    refine RL.val  hF rfl rfl rfl (r_assign hF rfl rfl) ?_; clear hF; clear a; intro a hF
    refine RL.nil ?_
    exact jn8 true _ _ (hF.sub rfl) h
  · replace h := hf hg9; clear ht hf
    refine RL.gval  hF rfl rfl (lkb rfl hg9) rfl rfl (r_move hF rfl rfl) ?_; clear hF; clear a; intro a hF
    obtain ⟨p10, hpp10, h⟩ := h
    refine RL.gval  hF rfl rfl (lkb rfl hg9) rfl rfl (r_nilCheck hF rfl (lkp rfl hpp10)) ?_; clear hF; clear a; intro a hF
    refine RL.gval  hF rfl rfl (lkb rfl hg9) rfl rfl (r_fieldAddr hF rfl rfl Tryd.runUnderlying52 rfl Tryd.sizeOf49 rfl) ?_; clear hF; clear a; intro a hF
    obtain ⟨t11, hct11, h⟩ := h
    refine RL.gval  hF rfl rfl (lkb rfl hg9) rfl rfl (r_load hF rfl rfl Tryd.isAgg49 hct11) ?_; clear hF; clear a; intro a hF
    refine RL.gval  hF rfl rfl (lkb rfl hg9) rfl rfl (r_mapnil hF rfl rfl rfl Tryd.runUnderlying49) ?_; clear hF; clear a; intro a hF
    refine RL.val (v := .bool t11.isNone) (w' := w) hF rfl rfl rfl (r_pick hF rfl rfl rfl rfl (fun e => absurd (hg9.symm.trans e) (by decide)) (fun _ => rfl)) ?_; clear hF; clear a; intro a hF
    refine RL.val  hF rfl rfl rfl (r_assign hF rfl rfl) ?_; clear hF; clear a; intro a hF
    refine RL.nil ?_
    exact jn8 t11.isNone _ _ (hF.sub rfl) h

set_option maxRecDepth 20000 in
theorem br6 {a0 : Option Addr} {w : World} {K : Array Value → World → Prop} (h : sh6 a0 w K) : C6 a0 w K := by
  unfold sh6 at h
  refine enter (n := 9) (l := [(0, .pointer a0)]) 8 Tryd.func6 rfl _ rfl rfl rfl fun a hF => ?_
  refine seq_region fun K1 hK2 => ?_
  obtain ⟨p3, w4, hp_, hw_, h⟩ := h
  refine RL.val (v := .pointer (some p3)) (w' := w4) hF rfl rfl rfl (by rw [hp_, hw_]; exact r_alloc rfl Tryd.zeroValue26 rfl) ?_; clear hF; clear a; intro a hF
  refine RL.nil (hK2 _ _ ?_)
  clear hK2 K1
  refine seq_k fun K5 hK6 => ?_
  obtain ⟨J, hJ, h⟩ := jn_open h
  have jn10 : ∀ (v7 : Unit) (w8 : World) a, Fr 9 a [(0, .pointer a0), (2, .pointer (some p3))] → J v7 w8 → K5 a w8 := by
    intro v7 w8 a hF h
    replace h := hJ _ _ h
    clear hJ
    refine hK6 _ _ ?_
    refine seq_region fun K11 hK12 => ?_
    refine RL.val  hF rfl rfl rfl (r_move hF rfl rfl) ?_; clear hF; clear a; intro a hF
    refine RL.val (v := .agg (#[.int .i64 1, .int .i64 0, .int .i64 0, .int .i64 0, .string (⟨#[]⟩ : ByteArray), .string (⟨#[]⟩ : ByteArray), .string (⟨#[]⟩ : ByteArray)])) (w' := w8) hF rfl rfl rfl (r_build (xs := [(0, .int .i64 1)]) hF rfl rfl (by kernel_rfl)) ?_; clear hF; clear a; intro a hF
    refine RL.call hF rfl rfl rfl (r_call (xs := [.pointer a0, .agg (#[.int .i64 1, .int .i64 0, .int .i64 0, .int .i64 0, .string (⟨#[]⟩ : ByteArray), .string (⟨#[]⟩ : ByteArray), .string (⟨#[]⟩ : ByteArray)])]) hF rfl rfl Tryd.call16) (CallsV.mono h ?_)
    clear h; rintro _ w13 ⟨r14, rfl, h⟩; clear hF; clear a; intro a hF
    obtain ⟨w15, hs1_, hs2_, hs3_, hs4_, h⟩ := h
    refine RL.unit (w' := w15) hF rfl rfl (by rw [hs4_]; exact r_storeA hF rfl rfl rfl Tryd.sizeOf26 hs1_ hs2_ hs3_) ?_; clear hF; clear a; intro a hF
    refine RL.nil (hK12 _ _ ?_)
    clear hK12 K11
    refine wp_ret ?_
    obtain ⟨t16, hct16, h⟩ := h
    exact ret_of hF (res1 hF rfl ⟨_, rfl, ldAg Tryd.isAgg26 Tryd.sizeOf26 hct16⟩) ⟨_, rfl, h⟩
  clear hJ
  refine seq_region fun K17 hK18 => ?_
  refine RL.val  hF rfl rfl rfl (r_move hF rfl rfl) ?_; clear hF; clear a; intro a hF
  refine RL.call hF rfl rfl rfl (r_call (xs := [.pointer a0]) hF rfl rfl Tryd.call17) (CallsV.mono h ?_)
  clear h; rintro _ w19 ⟨r20, rfl, h⟩; clear hF; clear a; intro a hF
  refine RL.nil (hK18 _ _ ?_)
  clear hK18 K17
  obtain ⟨ht, hf⟩ := h
  refine cond_ hF rfl (fun hc => ?_) (fun hc => ?_)
  · replace h := ht hc; clear ht hf
    refine seq_region fun K21 hK22 => ?_
    refine RL.val (v := .agg (#[.int .u8 0, .int .u8 0, .int .u8 0, .int .u8 0, .int .u8 0, .int .u8 0, .int .u8 0, .int .u8 0, .int .u8 0, .int .u8 0, .int .u8 0, .int .u8 0, .int .u8 0, .int .u8 0, .int .u8 0, .int .u8 0])) (w' := w19) hF rfl rfl rfl (r_build (xs := []) hF rfl rfl (by kernel_rfl)) ?_; clear hF; clear a; intro a hF
    obtain ⟨w23, hs1_, hs2_, hs3_, hs4_, h⟩ := h
    refine RL.unit (w' := w23) hF rfl rfl (by rw [hs4_]; exact r_storeA hF rfl rfl rfl Tryd.sizeOf26 hs1_ hs2_ hs3_) ?_; clear hF; clear a; intro a hF
    refine RL.nil (hK22 _ _ ?_)
    clear hK22 K21
    refine wp_ret ?_
    obtain ⟨t24, hct24, h⟩ := h
    exact ret_of hF (res1 hF rfl ⟨_, rfl, ldAg Tryd.isAgg26 Tryd.sizeOf26 hct24⟩) ⟨_, rfl, h⟩
  · replace h := hf hc; clear ht hf
    refine wp_skip ?_
    exact jn10 () _ _ (hF.sub rfl) h

set_option maxRecDepth 20000 in
theorem br7 {a0 : Option Addr} {a1 : Array Value} {a2 : Int} {a3 : Slc} {a4 : Slc} {w : World} {K : Slc → Int → World → Prop} (h : sh7 a0 a1 a2 a3 a4 w K) : C7 a0 a1 a2 a3 a4 w K := by
  unfold sh7 at h
  refine enter (n := 50) (l := [(0, .pointer a0), (1, .agg a1), (2, .int .i64 a2), (3, a3.v), (4, a4.v)]) 45 Tryd.func7 rfl _ rfl rfl rfl fun a hF => ?_
  refine seq_region fun K1 hK2 => ?_
  obtain ⟨p3, w4, hp_, hw_, h⟩ := h
  refine RL.val (v := .pointer (some p3)) (w' := w4) hF rfl rfl rfl (by rw [hp_, hw_]; exact r_box hF rfl rfl rfl) ?_; clear hF; clear a; intro a hF
  refine RL.val  hF rfl rfl rfl (r_assign hF rfl rfl) ?_; clear hF; clear a; intro a hF
  refine RL.val  hF rfl rfl rfl (r_assign hF rfl rfl) ?_; clear hF; clear a; intro a hF
  refine RL.nil (hK2 _ _ ?_)
  clear hK2 K1
  refine seq_k fun K5 hK6 => ?_
  obtain ⟨J, hJ, h⟩ := jn_open h
  have jn10 : ∀ (v7 : Unit) (w8 : World) a, Fr 50 a [(0, .pointer a0), (2, .int .i64 a2), (3, a3.v), (4, a4.v), (6, .pointer (some p3))] → J v7 w8 → K5 a w8 := by
    intro v7 w8 a hF h
    replace h := hJ _ _ h
    clear hJ
    refine hK6 _ _ ?_
    refine seq_draw 0 #[0, 1, 3, 7, 0, 31, 63, 127, 127, 255, 1023] 11 mo rfl (by kernel_rfl) (by kernel_rfl) fun hS K11 hK12 => ?_
    obtain ⟨w13, hw, h⟩ := h; rw [← hw]; clear hw
    refine GL.val (v := .pointer a0) (i := 0) hF hS rfl rfl (by kernel_rfl) rfl rfl rfl rfl (fun x => r_move hF rfl rfl) ?_; clear hF; clear a; intro a hF
    obtain ⟨p14, hpp14, h⟩ := h
    refine GL.val (v := .pointer (some p14)) (i := 1) hF hS rfl rfl (by kernel_rfl) rfl rfl rfl rfl (fun x => r_nilCheck hF rfl (lkp rfl hpp14)) ?_; clear hF; clear a; intro a hF
    refine GL.val (v := .pointer (some (p14.add 2))) (i := 2) hF hS rfl rfl (by kernel_rfl) rfl rfl rfl rfl (fun x => r_fieldAddr hF rfl rfl Tryd.runUnderlying52 rfl Tryd.sizeOf49 rfl) ?_; clear hF; clear a; intro a hF
    obtain ⟨t15, hct15, h⟩ := h
    refine GL.read (v := .map t15) (i := 3) hF (fun x => World.cell? x (p14.add 2) = some (.map t15)) hS rfl rfl (by kernel_rfl) rfl rfl rfl rfl hct15 (fun x hx => r_load hF rfl rfl Tryd.isAgg49 hx) ?_; clear hF; clear a; intro a hF
    obtain ⟨t16, hct16, h⟩ := h
    refine GL.read (v := .agg t16) (i := 4) hF (fun x => CellsAt x p3 16 t16) hS rfl rfl (by kernel_rfl) rfl rfl rfl rfl hct16 (fun x hx => r_loadA hF rfl rfl Tryd.isAgg26 Tryd.sizeOf26 hx) ?_; clear hF; clear a; intro a hF
    obtain ⟨t17, t18, hct17, h⟩ := h
    refine GL.read (v := .tuple #[.int .i64 t17, .bool t18]) (i := 5) hF (fun x => rn Tryd.prog (Instr.lookup 49 (.map t15) (.agg t16) true) (.tuple #[.int .i64 t17, .bool t18]) x x) hS rfl rfl (by kernel_rfl) rfl rfl rfl rfl hct17 (fun x hx => r_lookup hF rfl rfl rfl hx) ?_; clear hF; clear a; intro a hF
    refine GL.val (v := .tuple #[.int .i64 t17, .bool t18]) (i := 6) hF hS rfl rfl (by kernel_rfl) rfl rfl rfl rfl (fun x => r_move hF rfl rfl) ?_; clear hF; clear a; intro a hF
    refine GL.val (v := .int .i64 t17) (i := 7) hF hS rfl rfl (by kernel_rfl) rfl rfl rfl rfl (fun x => r_extract hF rfl rfl rfl) ?_; clear hF; clear a; intro a hF
    refine GL.val (v := .bool t18) (i := 8) hF hS rfl rfl (by kernel_rfl) rfl rfl rfl rfl (fun x => r_extract hF rfl rfl rfl) ?_; clear hF; clear a; intro a hF
    refine GL.val (v := .int .i64 t17) (i := 9) hF hS rfl rfl (by kernel_rfl) rfl rfl rfl rfl (fun x => r_assign hF rfl rfl) ?_; clear hF; clear a; intro a hF
    refine GL.val (v := .bool t18) (i := 10) hF hS rfl rfl (by kernel_rfl) rfl rfl rfl rfl (fun x => r_assign hF rfl rfl) ?_; clear hF; clear a; intro a hF
    refine GL.done (by kernel_rfl) (hK12 _ _ ?_)
    clear hK12 K11
    refine seq_k fun K19 hK20 => ?_
    obtain ⟨J, hJ, h⟩ := jn_open h
    have jn24 : ∀ (v21 : Unit) (w22 : World) a, Fr 50 a [(0, .pointer a0), (2, .int .i64 a2), (3, a3.v), (4, a4.v), (12, .int .i64 t17)] → J v21 w22 → K19 a w22 := by
      intro v21 w22 a hF h
      replace h := hJ _ _ h
      clear hJ
      refine hK20 _ _ ?_
      refine seq_region fun K25 hK26 => ?_
      refine RL.val  hF rfl rfl rfl (r_move hF rfl rfl) ?_; clear hF; clear a; intro a hF
      refine RL.val  hF rfl rfl rfl (r_move hF rfl rfl) ?_; clear hF; clear a; intro a hF
      refine RL.val  hF rfl rfl rfl (r_move hF rfl rfl) ?_; clear hF; clear a; intro a hF
      refine RL.val  hF rfl rfl rfl (r_move hF rfl rfl) ?_; clear hF; clear a; intro a hF
      obtain ⟨t27, hct27, h⟩ := h
      refine RL.val  hF rfl rfl rfl (r_conv hF rfl rfl hct27) ?_; clear hF; clear a; intro a hF
      refine RL.val  hF rfl rfl rfl (r_move hF rfl rfl) ?_; clear hF; clear a; intro a hF
      obtain ⟨t28, hct28, h⟩ := h
      refine RL.val  hF rfl rfl rfl (r_conv hF rfl rfl hct28) ?_; clear hF; clear a; intro a hF
      refine RL.val (v := .agg (#[.int .i64 6, .int .i64 t17, .int .i64 0, .int .i64 a2, .string (⟨#[]⟩ : ByteArray), .string t27, .string t28])) (w' := w22) hF rfl rfl rfl (r_build (xs := [(0, .int .i64 6), (1, .int .i64 t17), (3, .int .i64 a2), (5, .string t27), (6, .string t28)]) hF rfl rfl (by kernel_rfl)) ?_; clear hF; clear a; intro a hF
      refine RL.call hF rfl rfl rfl (r_call (xs := [.pointer a0, .agg (#[.int .i64 6, .int .i64 t17, .int .i64 0, .int .i64 a2, .string (⟨#[]⟩ : ByteArray), .string t27, .string t28])]) hF rfl rfl Tryd.call16) (CallsV.mono h ?_)
      clear h; rintro _ w29 ⟨r30, rfl, h⟩; clear hF; clear a; intro a hF
      obtain ⟨p31, w32, hp_, hw_, h⟩ := h
      refine RL.val (v := .pointer (some p31)) (w' := w32) hF rfl rfl rfl (by rw [hp_, hw_]; exact r_alloc rfl Tryd.zeroValue26 rfl) ?_; clear hF; clear a; intro a hF
      obtain ⟨w33, hs1_, hs2_, hs3_, hs4_, h⟩ := h
      refine RL.unit (w' := w33) hF rfl rfl (by rw [hs4_]; exact r_storeA hF rfl rfl rfl Tryd.sizeOf26 hs1_ hs2_ hs3_) ?_; clear hF; clear a; intro a hF
      refine RL.nil (hK26 _ _ ?_)
      clear hK26 K25
      refine seq_draw 20 #[0, 1, 3, 0, 15, 31, 63] 7 mo rfl (by kernel_rfl) (by kernel_rfl) fun hS K34 hK35 => ?_
      obtain ⟨w36, hw, h⟩ := h; rw [← hw]; clear hw
      refine GL.val (v := a4.v) (i := 0) hF hS rfl rfl (by kernel_rfl) rfl rfl rfl rfl (fun x => r_move hF rfl rfl) ?_; clear hF; clear a; intro a hF
      refine GL.val (v := .int .i64 (a4.len : Int)) (i := 1) hF hS rfl rfl (by kernel_rfl) rfl rfl rfl rfl (fun x => r_len_slice hF rfl rfl Tryd.runUnderlying22) ?_; clear hF; clear a; intro a hF
      refine GL.val (v := (Slc.sub ⟨some p31, 16, 16⟩ 1 0 16 16).v) (i := 3) hF hS rfl rfl (by kernel_rfl) rfl rfl rfl rfl (fun x => r_slice (lo' := none) (hi' := none) (mx' := none) hF rfl rfl rfl rfl rfl (arr_at Tryd.runUnderlying26 Tryd.sizeOf5 (bounds00 ))) ?_; clear hF; clear a; intro a hF
      refine GL.act (i := 2) (pend' := []) hS (by kernel_rfl) rfl (by kernel_rfl) ?_
      obtain ⟨t37, w38, hc_, h⟩ := h
      refine op_val  hF rfl rfl rfl rfl (r_makeSlice hF rfl rfl rfl hc_) trivial ?_; clear hF; clear a; intro a hF
      refine GL.act (i := 4) (pend' := []) hS (by kernel_rfl) rfl (by kernel_rfl) ?_
      obtain ⟨t40, w39, hc_, h⟩ := h
      refine op_val  hF rfl rfl rfl rfl (r_append (xs := [t37.v, (Slc.sub ⟨some p31, 16, 16⟩ 1 0 16 16).v]) hF rfl rfl hc_) trivial ?_; clear hF; clear a; intro a hF
      refine GL.val (v := t40.v) (i := 5) hF hS rfl rfl (by kernel_rfl) rfl rfl rfl rfl (fun x => r_assign hF rfl rfl) ?_; clear hF; clear a; intro a hF
      refine GL.val (v := .int .i64 0) (i := 6) hF hS rfl rfl (by kernel_rfl) rfl rfl rfl rfl (fun x => r_assign hF rfl rfl) ?_; clear hF; clear a; intro a hF
      refine GL.done (by kernel_rfl) (hK35 _ _ ?_)
      clear hK35 K34
      refine wp_ret ?_
      exact ret_of hF (res2 hF rfl rfl rfl) ⟨_, _, rfl, h⟩
    clear hJ
    refine wp_block ?_
    refine seq_region fun K41 hK42 => ?_
    refine RL.val  hF rfl rfl rfl (r_move hF rfl rfl) ?_; clear hF; clear a; intro a hF
    refine RL.val  hF rfl rfl rfl (r_not hF rfl rfl) ?_; clear hF; clear a; intro a hF
    refine RL.val  hF rfl rfl rfl (r_assign hF rfl rfl) ?_; clear hF; clear a; intro a hF
    refine RL.nil (hK42 _ _ ?_)
    clear hK42 K41
    obtain ⟨ht, hf⟩ := h
    refine cond_ hF rfl (fun hc => ?_) (fun hc => ?_)
    · replace h := ht hc; clear ht hf
      refine seq_region fun K43 hK44 => ?_
      refine RL.val  hF rfl rfl rfl (r_assign hF rfl rfl) ?_; clear hF; clear a; intro a hF
      refine RL.val  hF rfl rfl rfl (r_assign hF rfl rfl) ?_; clear hF; clear a; intro a hF
      refine RL.nil (hK44 _ _ ?_)
      clear hK44 K43
      refine wp_ret ?_
      exact ret_of hF (res2 hF rfl rfl rfl) ⟨_, _, rfl, h⟩
    · replace h := hf hc; clear ht hf
      refine seq_region fun K45 hK46 => ?_
      refine RL.val  hF rfl rfl rfl (r_move hF rfl rfl) ?_; clear hF; clear a; intro a hF
      refine RL.val  hF rfl rfl rfl (r_lss hF rfl rfl rfl) ?_; clear hF; clear a; intro a hF
      refine RL.val  hF rfl rfl rfl (r_assign hF rfl rfl) ?_; clear hF; clear a; intro a hF
      refine RL.nil (hK46 _ _ ?_)
      clear hK46 K45
      obtain ⟨ht, hf⟩ := h
      refine cond_ hF rfl (fun hc => ?_) (fun hc => ?_)
      · replace h := ht hc; clear ht hf
        refine seq_region fun K47 hK48 => ?_
        refine RL.val  hF rfl rfl rfl (r_assign hF rfl rfl) ?_; clear hF; clear a; intro a hF
        refine RL.val  hF rfl rfl rfl (r_assign hF rfl rfl) ?_; clear hF; clear a; intro a hF
        refine RL.nil (hK48 _ _ ?_)
        clear hK48 K47
        refine wp_ret ?_
        exact ret_of hF (res2 hF rfl rfl rfl) ⟨_, _, rfl, h⟩
      · replace h := hf hc; clear ht hf
        refine seq_region fun K49 hK50 => ?_
        refine RL.val  hF rfl rfl rfl (r_move hF rfl rfl) ?_; clear hF; clear a; intro a hF
        refine RL.val  hF rfl rfl rfl (r_len_slice hF rfl rfl Tryd.runUnderlying22) ?_; clear hF; clear a; intro a hF
        refine RL.val  hF rfl rfl rfl (r_gtr hF rfl rfl rfl) ?_; clear hF; clear a; intro a hF
        refine RL.val  hF rfl rfl rfl (r_assign hF rfl rfl) ?_; clear hF; clear a; intro a hF
        refine RL.nil (hK50 _ _ ?_)
        clear hK50 K49
        obtain ⟨ht, hf⟩ := h
        refine cond_ hF rfl (fun hc => ?_) (fun hc => ?_)
        · replace h := ht hc; clear ht hf
          refine seq_region fun K51 hK52 => ?_
          refine RL.val  hF rfl rfl rfl (r_assign hF rfl rfl) ?_; clear hF; clear a; intro a hF
          refine RL.val  hF rfl rfl rfl (r_assign hF rfl rfl) ?_; clear hF; clear a; intro a hF
          refine RL.nil (hK52 _ _ ?_)
          clear hK52 K51
          refine wp_ret ?_
          exact ret_of hF (res2 hF rfl rfl rfl) ⟨_, _, rfl, h⟩
        · replace h := hf hc; clear ht hf
          refine wp_skip ?_
          exact jn24 () _ _ (hF.sub rfl) h
  clear hJ
  refine seq_region fun K53 hK54 => ?_
  refine RL.val  hF rfl rfl rfl (r_move hF rfl rfl) ?_; clear hF; clear a; intro a hF
  refine RL.call hF rfl rfl rfl (r_call (xs := [.pointer a0]) hF rfl rfl Tryd.call17) (CallsV.mono h ?_)
  clear h; rintro _ w55 ⟨r56, rfl, h⟩; clear hF; clear a; intro a hF
  refine RL.nil (hK54 _ _ ?_)
  clear hK54 K53
  obtain ⟨ht, hf⟩ := h
  refine cond_ hF rfl (fun hc => ?_) (fun hc => ?_)
  · replace h := ht hc; clear ht hf
    refine seq_region fun K57 hK58 => ?_
    refine RL.val  hF rfl rfl rfl (r_assign hF rfl rfl) ?_; clear hF; clear a; intro a hF
    refine RL.val  hF rfl rfl rfl (r_assign hF rfl rfl) ?_; clear hF; clear a; intro a hF
    refine RL.nil (hK58 _ _ ?_)
    clear hK58 K57
    refine wp_ret ?_
    exact ret_of hF (res2 hF rfl rfl rfl) ⟨_, _, rfl, h⟩
  · replace h := hf hc; clear ht hf
    refine wp_skip ?_
    exact jn10 () _ _ (hF.sub rfl) h

set_option maxRecDepth 20000 in
theorem br45 {a0 : Slc} {a1 : Int} {w : World} {K : Slc → World → Prop} (h : sh45 a0 a1 w K) : C45 a0 a1 w K := by
  unfold sh45 at h
  refine enter (n := 24) (l := [(0, a0.v), (1, .int .u8 a1)]) 22 Tryd.func45 rfl _ rfl rfl rfl fun a hF => ?_
  refine seq_region fun K1 hK2 => ?_
  refine RL.val  hF rfl rfl rfl (r_assign hF rfl rfl) ?_; clear hF; clear a; intro a hF
  refine RL.nil (hK2 _ _ ?_)
  clear hK2 K1
  refine seq_k fun K3 hK4 => ?_
  obtain ⟨J, hJ, h⟩ := jn_open h
  have jn8 : ∀ (v5 : Slc) (w6 : World) a, Fr 24 a [(0, v5.v)] → J v5 w6 → K3 a w6 := by
    intro v5 w6 a hF h
    replace h := hJ _ _ h
    clear hJ
    refine hK4 _ _ ?_
    refine seq_region fun K9 hK10 => ?_
    refine RL.val  hF rfl rfl rfl (r_move hF rfl rfl) ?_; clear hF; clear a; intro a hF
    refine RL.val  hF rfl rfl rfl (r_assign hF rfl rfl) ?_; clear hF; clear a; intro a hF
    refine RL.nil (hK10 _ _ ?_)
    clear hK10 K9
    refine wp_ret ?_
    exact ret_of hF (res1 hF rfl rfl) ⟨_, rfl, h⟩
  clear hJ
  refine wp_block ?_
  refine loop_ (fun (s11 : Slc) => [(0, s11.v), (1, .int .u8 a1)]) (hF.sub rfl) h ?_
  clear hF h
  intro s11 w12 N13 KL hN14 h a hF
  refine seq_k fun K15 hK16 => ?_
  obtain ⟨J, hJ, h⟩ := jn_open h
  have jn20 : ∀ (v17 : Unit) (w18 : World) a, Fr 24 a [(0, s11.v), (1, .int .u8 a1)] → J v17 w18 → K15 a w18 := by
    intro v17 w18 a hF h
    replace h := hJ _ _ h
    clear hJ
    refine hK16 _ _ ?_
    refine wp_block ?_
    refine end_region fun K21 hK22 => ?_
    refine RL.val  hF rfl rfl rfl (r_move hF rfl rfl) ?_; clear hF; clear a; intro a hF
    refine RL.val  hF rfl rfl rfl (r_move hF rfl rfl) ?_; clear hF; clear a; intro a hF
    refine RL.val  hF rfl rfl rfl (r_len_slice hF rfl rfl Tryd.runUnderlying22) ?_; clear hF; clear a; intro a hF
    refine RL.val  hF rfl rfl rfl (r_sub hF rfl rfl rfl) ?_; clear hF; clear a; intro a hF
    obtain ⟨hs23, hs24, h⟩ := h
    refine RL.val  hF rfl rfl rfl (r_slice (lo' := none) (hi' := some (.int .i64 (IntKind.i64.wrap ((s11.len : Int) - 1)))) (mx' := none) hF rfl rfl rfl rfl rfl (slc_at Tryd.runUnderlying22 Tryd.sizeOf5 (bounds01 hs23 hs24))) ?_; clear hF; clear a; intro a hF
    refine RL.val  hF rfl rfl rfl (r_assign hF rfl rfl) ?_; clear hF; clear a; intro a hF
    refine RL.nil (hK22 _ _ ?_)
    clear hK22 K21
    exact hN14 (s11.sub 1 0 ((IntKind.i64.wrap ((s11.len : Int) - 1)).toNat) s11.cap) _ _ (hF.sub rfl) h
  clear hJ
  refine seq_region fun K25 hK26 => ?_
  obtain ⟨J29, hJ, h⟩ := jn_open h
  have jn30 : ∀ (v27 : Bool) (w28 : World) a, Fr 24 a [(0, s11.v), (1, .int .u8 a1), (17, .bool v27)] → J29 v27 w28 → K25 a w28 := by
    clear hF
    intro v27 w28 a hF h; replace h := hJ _ _ h; refine hK26 _ _ ?_; clear hJ hK26 K25
    obtain ⟨ht, hf⟩ := h
    refine cond_ hF rfl (fun hc => ?_) (fun hc => ?_)
    · replace h := ht hc; clear ht hf
      refine wp_skip ?_
      exact jn20 () _ _ (hF.sub rfl) h
    · replace h := hf hc; clear ht hf
      refine wp_exit ?_
      exact jn8 s11 _ _ (hF.sub rfl) h
  clear hJ hK26
  refine RL.val  hF rfl rfl rfl (r_move hF rfl rfl) ?_; clear hF; clear a; intro a hF
  refine RL.val  hF rfl rfl rfl (r_len_slice hF rfl rfl Tryd.runUnderlying22) ?_; clear hF; clear a; intro a hF
  refine RL.val  hF rfl rfl rfl (r_gtr hF rfl rfl rfl) ?_; clear hF; clear a; intro a hF
  refine RL.val  hF rfl rfl rfl (r_move hF rfl rfl) ?_; clear hF; clear a; intro a hF
  obtain ⟨ht, hf⟩ := h
  rcases bool_cases (decide ((s11.len : Int) > 0)) with hg31 | hg31
  · replace h := ht hg31; clear ht hf
    refine RL.gval  hF rfl rfl (lkb rfl hg31) rfl rfl (r_move hF rfl rfl) ?_; clear hF; clear a; intro a hF
    refine RL.gval  hF rfl rfl (lkb rfl hg31) rfl rfl (r_move hF rfl rfl) ?_; clear hF; clear a; intro a hF
    refine RL.gval  hF rfl rfl (lkb rfl hg31) rfl rfl (r_len_slice hF rfl rfl Tryd.runUnderlying22) ?_; clear hF; clear a; intro a hF
    refine RL.gval  hF rfl rfl (lkb rfl hg31) rfl rfl (r_sub hF rfl rfl rfl) ?_; clear hF; clear a; intro a hF
    obtain ⟨b33, p32, hb_, h0_, h1_, hp_, h⟩ := h
    refine RL.gval (v := .pointer (some p32)) (w' := w12) hF rfl rfl (lkb rfl hg31) rfl rfl (by rw [hp_]; exact r_indexAddr hF rfl (lks rfl hb_) rfl Tryd.runUnderlying22 Tryd.sizeOf5 h0_ h1_) ?_; clear hF; clear a; intro a hF
    obtain ⟨t34, hct34, h⟩ := h
    refine RL.gval  hF rfl rfl (lkb rfl hg31) rfl rfl (r_load hF rfl rfl Tryd.isAgg5 hct34) ?_; clear hF; clear a; intro a hF
    refine RL.gval  hF rfl rfl (lkb rfl hg31) rfl rfl (r_move hF rfl rfl) ?_; clear hF; clear a; intro a hF
    refine RL.gval  hF rfl rfl (lkb rfl hg31) rfl rfl (r_eql hF rfl rfl rfl) ?_; clear hF; clear a; intro a hF
    refine RL.val (v := .bool (t34 == a1)) (w' := w12) hF rfl rfl rfl (r_pick hF rfl rfl rfl rfl (fun _ => rfl) (fun e => absurd (hg31.symm.trans e) (by decide))) ?_; clear hF; clear a; intro a hF
    refine RL.nil ?_
    exact jn30 (t34 == a1) _ _ (hF.sub rfl) h
  · replace h := hf hg31; clear ht hf
    refine RL.skip hF rfl rfl (lkb rfl hg31) (.inl rfl) rfl rfl ?_; clear hF; clear a; intro a hF
    refine RL.skip hF rfl rfl (lkb rfl hg31) (.inl rfl) rfl rfl ?_; clear hF; clear a; intro a hF
    refine RL.skip hF rfl rfl (lkb rfl hg31) (.inl rfl) rfl rfl ?_; clear hF; clear a; intro a hF
    refine RL.skip hF rfl rfl (lkb rfl hg31) (.inl rfl) rfl rfl ?_; clear hF; clear a; intro a hF
    refine RL.skip hF rfl rfl (lkb rfl hg31) (.inl rfl) rfl rfl ?_; clear hF; clear a; intro a hF
    refine RL.skip hF rfl rfl (lkb rfl hg31) (.inl rfl) rfl rfl ?_; clear hF; clear a; intro a hF
    refine RL.skip hF rfl rfl (lkb rfl hg31) (.inl rfl) rfl rfl ?_; clear hF; clear a; intro a hF
    refine RL.skip hF rfl rfl (lkb rfl hg31) (.inl rfl) rfl rfl ?_; clear hF; clear a; intro a hF
    refine RL.val (v := .bool false) (w' := w12) hF rfl rfl rfl (r_pick hF rfl rfl rfl rfl (fun e => absurd (hg31.symm.trans e) (by decide)) (fun _ => rfl)) ?_; clear hF; clear a; intro a hF
    refine RL.nil ?_
    exact jn30 false _ _ (hF.sub rfl) h

set_option maxRecDepth 20000 in
theorem br44 {a0 : Slc} {a1 : Int} {w : World} {K : Slc → World → Prop} (h : sh44 a0 a1 w K) : C44 a0 a1 w K := by
  unfold sh44 at h
  refine enter (n := 21) (l := [(0, a0.v), (1, .int .u8 a1)]) 19 Tryd.func44 rfl _ rfl rfl rfl fun a hF => ?_
  refine seq_region fun K1 hK2 => ?_
  refine RL.val  hF rfl rfl rfl (r_assign hF rfl rfl) ?_; clear hF; clear a; intro a hF
  refine RL.nil (hK2 _ _ ?_)
  clear hK2 K1
  refine seq_k fun K3 hK4 => ?_
  obtain ⟨J, hJ, h⟩ := jn_open h
  have jn8 : ∀ (v5 : Slc) (w6 : World) a, Fr 21 a [(0, v5.v)] → J v5 w6 → K3 a w6 := by
    intro v5 w6 a hF h
    replace h := hJ _ _ h
    clear hJ
    refine hK4 _ _ ?_
    refine seq_k fun K9 hK10 => ?_
    obtain ⟨J, hJ, h⟩ := jn_open h
    have jn14 : ∀ (v11 : Unit) (w12 : World) a, Fr 21 a [(0, v5.v)] → J v11 w12 → K9 a w12 := by
      intro v11 w12 a hF h
      replace h := hJ _ _ h
      clear hJ
      refine hK10 _ _ ?_
      refine seq_region fun K15 hK16 => ?_
      refine RL.val  hF rfl rfl rfl (r_move hF rfl rfl) ?_; clear hF; clear a; intro a hF
      refine RL.val  hF rfl rfl rfl (r_assign hF rfl rfl) ?_; clear hF; clear a; intro a hF
      refine RL.nil (hK16 _ _ ?_)
      clear hK16 K15
      refine wp_ret ?_
      exact ret_of hF (res1 hF rfl rfl) ⟨_, rfl, h⟩
    clear hJ
    refine seq_region fun K17 hK18 => ?_
    refine RL.val  hF rfl rfl rfl (r_move hF rfl rfl) ?_; clear hF; clear a; intro a hF
    refine RL.val  hF rfl rfl rfl (r_len_slice hF rfl rfl Tryd.runUnderlying22) ?_; clear hF; clear a; intro a hF
    refine RL.val  hF rfl rfl rfl (r_eql hF rfl rfl rfl) ?_; clear hF; clear a; intro a hF
    refine RL.nil (hK18 _ _ ?_)
    clear hK18 K17
    obtain ⟨ht, hf⟩ := h
    refine cond_ hF rfl (fun hc => ?_) (fun hc => ?_)
    · replace h := ht hc; clear ht hf
      refine seq_region fun K19 hK20 => ?_
      refine RL.val  hF rfl rfl rfl (r_assign hF rfl rfl) ?_; clear hF; clear a; intro a hF
      refine RL.nil (hK20 _ _ ?_)
      clear hK20 K19
      refine wp_ret ?_
      exact ret_of hF (res1 hF rfl rfl) ⟨_, rfl, h⟩
    · replace h := hf hc; clear ht hf
      refine wp_skip ?_
      exact jn14 () _ _ (hF.sub rfl) h
  clear hJ
  refine wp_block ?_
  refine loop_ (fun (s21 : Slc) => [(0, s21.v), (1, .int .u8 a1)]) (hF.sub rfl) h ?_
  clear hF h
  intro s21 w22 N23 KL hN24 h a hF
  refine seq_k fun K25 hK26 => ?_
  obtain ⟨J, hJ, h⟩ := jn_open h
  have jn30 : ∀ (v27 : Unit) (w28 : World) a, Fr 21 a [(0, s21.v), (1, .int .u8 a1)] → J v27 w28 → K25 a w28 := by
    intro v27 w28 a hF h
    replace h := hJ _ _ h
    clear hJ
    refine hK26 _ _ ?_
    refine wp_block ?_
    refine end_region fun K31 hK32 => ?_
    refine RL.val  hF rfl rfl rfl (r_move hF rfl rfl) ?_; clear hF; clear a; intro a hF
    obtain ⟨hs33, hs34, h⟩ := h
    refine RL.val  hF rfl rfl rfl (r_slice (lo' := some (.int .i64 1)) (hi' := none) (mx' := none) hF rfl rfl rfl rfl rfl (slc_at Tryd.runUnderlying22 Tryd.sizeOf5 (bounds10 hs33 hs34))) ?_; clear hF; clear a; intro a hF
    refine RL.val  hF rfl rfl rfl (r_assign hF rfl rfl) ?_; clear hF; clear a; intro a hF
    refine RL.nil (hK32 _ _ ?_)
    clear hK32 K31
    exact hN24 (s21.sub 1 1 s21.len s21.cap) _ _ (hF.sub rfl) h
  clear hJ
  refine seq_region fun K35 hK36 => ?_
  obtain ⟨J39, hJ, h⟩ := jn_open h
  have jn40 : ∀ (v37 : Bool) (w38 : World) a, Fr 21 a [(0, s21.v), (1, .int .u8 a1), (14, .bool v37)] → J39 v37 w38 → K35 a w38 := by
    clear hF
    intro v37 w38 a hF h; replace h := hJ _ _ h; refine hK36 _ _ ?_; clear hJ hK36 K35
    obtain ⟨ht, hf⟩ := h
    refine cond_ hF rfl (fun hc => ?_) (fun hc => ?_)
    · replace h := ht hc; clear ht hf
      refine wp_skip ?_
      exact jn30 () _ _ (hF.sub rfl) h
    · replace h := hf hc; clear ht hf
      refine wp_exit ?_
      exact jn8 s21 _ _ (hF.sub rfl) h
  clear hJ hK36
  refine RL.val  hF rfl rfl rfl (r_move hF rfl rfl) ?_; clear hF; clear a; intro a hF
  refine RL.val  hF rfl rfl rfl (r_len_slice hF rfl rfl Tryd.runUnderlying22) ?_; clear hF; clear a; intro a hF
  refine RL.val  hF rfl rfl rfl (r_gtr hF rfl rfl rfl) ?_; clear hF; clear a; intro a hF
  refine RL.val  hF rfl rfl rfl (r_move hF rfl rfl) ?_; clear hF; clear a; intro a hF
  obtain ⟨ht, hf⟩ := h
  rcases bool_cases (decide ((s21.len : Int) > 0)) with hg41 | hg41
  · replace h := ht hg41; clear ht hf
    refine RL.gval  hF rfl rfl (lkb rfl hg41) rfl rfl (r_move hF rfl rfl) ?_; clear hF; clear a; intro a hF
    obtain ⟨b43, p42, hb_, h0_, h1_, hp_, h⟩ := h
    refine RL.gval (v := .pointer (some p42)) (w' := w22) hF rfl rfl (lkb rfl hg41) rfl rfl (by rw [hp_]; exact r_indexAddr hF rfl (lks rfl hb_) rfl Tryd.runUnderlying22 Tryd.sizeOf5 h0_ h1_) ?_; clear hF; clear a; intro a hF
    obtain ⟨t44, hct44, h⟩ := h
    refine RL.gval  hF rfl rfl (lkb rfl hg41) rfl rfl (r_load hF rfl rfl Tryd.isAgg5 hct44) ?_; clear hF; clear a; intro a hF
    refine RL.gval  hF rfl rfl (lkb rfl hg41) rfl rfl (r_move hF rfl rfl) ?_; clear hF; clear a; intro a hF
    refine RL.gval  hF rfl rfl (lkb rfl hg41) rfl rfl (r_eql hF rfl rfl rfl) ?_; clear hF; clear a; intro a hF
    refine RL.val (v := .bool (t44 == a1)) (w' := w22) hF rfl rfl rfl (r_pick hF rfl rfl rfl rfl (fun _ => rfl) (fun e => absurd (hg41.symm.trans e) (by decide))) ?_; clear hF; clear a; intro a hF
    refine RL.nil ?_
    exact jn40 (t44 == a1) _ _ (hF.sub rfl) h
  · replace h := hf hg41; clear ht hf
    refine RL.skip hF rfl rfl (lkb rfl hg41) (.inl rfl) rfl rfl ?_; clear hF; clear a; intro a hF
    refine RL.skip hF rfl rfl (lkb rfl hg41) (.inl rfl) rfl rfl ?_; clear hF; clear a; intro a hF
    refine RL.skip hF rfl rfl (lkb rfl hg41) (.inl rfl) rfl rfl ?_; clear hF; clear a; intro a hF
    refine RL.skip hF rfl rfl (lkb rfl hg41) (.inl rfl) rfl rfl ?_; clear hF; clear a; intro a hF
    refine RL.skip hF rfl rfl (lkb rfl hg41) (.inl rfl) rfl rfl ?_; clear hF; clear a; intro a hF
    refine RL.val (v := .bool false) (w' := w22) hF rfl rfl rfl (r_pick hF rfl rfl rfl rfl (fun e => absurd (hg41.symm.trans e) (by decide)) (fun _ => rfl)) ?_; clear hF; clear a; intro a hF
    refine RL.nil ?_
    exact jn40 false _ _ (hF.sub rfl) h

set_option maxRecDepth 20000 in
theorem br18 {a0 : Slc} {a1 : ByteArray} {w : World} {K : Slc → World → Prop} (h : sh18 a0 a1 w K) : C18 a0 a1 w K := by
  unfold sh18 at h
  refine enter (n := 42) (l := [(0, a0.v), (1, .string a1)]) 40 Tryd.func18 rfl _ rfl rfl rfl fun a hF => ?_
  refine seq_region fun K1 hK2 => ?_
  refine RL.val  hF rfl rfl rfl (r_assign hF rfl rfl) ?_; clear hF; clear a; intro a hF
  refine RL.nil (hK2 _ _ ?_)
  clear hK2 K1
  refine seq_k fun K3 hK4 => ?_
  obtain ⟨J, hJ, h⟩ := jn_open h
  have jn8 : ∀ (v5 : Unit) (w6 : World) a, Fr 42 a [(0, a0.v), (1, .string a1)] → J v5 w6 → K3 a w6 := by
    intro v5 w6 a hF h
    replace h := hJ _ _ h
    clear hJ
    refine hK4 _ _ ?_
    refine seq_k fun K9 hK10 => ?_
    obtain ⟨J, hJ, h⟩ := jn_open h
    have jn14 : ∀ (v11 : Unit) (w12 : World) a, Fr 42 a [(0, a0.v), (1, .string a1)] → J v11 w12 → K9 a w12 := by
      intro v11 w12 a hF h
      replace h := hJ _ _ h
      clear hJ
      refine hK10 _ _ ?_
      refine seq_k fun K15 hK16 => ?_
      obtain ⟨J, hJ, h⟩ := jn_open h
      have jn20 : ∀ (v17 : Unit) (w18 : World) a, Fr 42 a [(0, a0.v), (1, .string a1)] → J v17 w18 → K15 a w18 := by
        intro v17 w18 a hF h
        replace h := hJ _ _ h
        clear hJ
        refine hK16 _ _ ?_
        refine seq_k fun K21 hK22 => ?_
        obtain ⟨J, hJ, h⟩ := jn_open h
        have jn26 : ∀ (v23 : Unit) (w24 : World) a, Fr 42 a [(0, a0.v), (1, .string a1)] → J v23 w24 → K21 a w24 := by
          intro v23 w24 a hF h
          replace h := hJ _ _ h
          clear hJ
          refine hK22 _ _ ?_
          refine seq_region fun K27 hK28 => ?_
          refine RL.val  hF rfl rfl rfl (r_move hF rfl rfl) ?_; clear hF; clear a; intro a hF
          refine RL.val  hF rfl rfl rfl (r_move hF rfl rfl) ?_; clear hF; clear a; intro a hF
          refine RL.call hF rfl rfl rfl (r_call (xs := [a0.v, .string a1]) hF rfl rfl Tryd.call50) (CallsV.mono h ?_)
          clear h; rintro _ w29 ⟨r30, rfl, h⟩; clear hF; clear a; intro a hF
          refine RL.val  hF rfl rfl rfl (r_move hF rfl rfl) ?_; clear hF; clear a; intro a hF
          refine RL.call hF rfl rfl rfl (r_call (xs := [r30.v, .string a1]) hF rfl rfl Tryd.call49) (CallsV.mono h ?_)
          clear h; rintro _ w31 ⟨r32, rfl, h⟩; clear hF; clear a; intro a hF
          refine RL.val  hF rfl rfl rfl (r_assign hF rfl rfl) ?_; clear hF; clear a; intro a hF
          refine RL.nil (hK28 _ _ ?_)
          clear hK28 K27
          refine wp_ret ?_
          exact ret_of hF (res1 hF rfl rfl) ⟨_, rfl, h⟩
        clear hJ
        refine seq_region fun K33 hK34 => ?_
        refine RL.val  hF rfl rfl rfl (r_move hF rfl rfl) ?_; clear hF; clear a; intro a hF
        refine RL.call hF rfl rfl rfl (r_call (xs := [.string a1]) hF rfl rfl Tryd.call46) (CallsV.mono h ?_)
        clear h; rintro _ w35 ⟨r36, r37, rfl, h⟩; clear hF; clear a; intro a hF
        refine RL.val  hF rfl rfl rfl (r_move hF rfl rfl) ?_; clear hF; clear a; intro a hF
        refine RL.val  hF rfl rfl rfl (r_extract hF rfl rfl rfl) ?_; clear hF; clear a; intro a hF
        refine RL.val  hF rfl rfl rfl (r_extract hF rfl rfl rfl) ?_; clear hF; clear a; intro a hF
        obtain ⟨p38, w39, hp_, hw_, h⟩ := h
        refine RL.val (v := .pointer (some p38)) (w' := w39) hF rfl rfl rfl (by rw [hp_, hw_]; exact r_alloc rfl zeroV94 rfl) ?_; clear hF; clear a; intro a hF
        obtain ⟨w40, hs1_, hs2_, hs3_, hs4_, h⟩ := h
        refine RL.unit (w' := w40) hF rfl rfl (by rw [hs4_]; exact r_storeA hF rfl rfl rfl Tryd.sizeOf94 hs1_ hs2_ hs3_) ?_; clear hF; clear a; intro a hF
        refine RL.val  hF rfl rfl rfl (r_assign hF rfl rfl) ?_; clear hF; clear a; intro a hF
        refine RL.nil (hK34 _ _ ?_)
        clear hK34 K33
        refine seq_region fun K41 hK42 => ?_
        refine RL.val  hF rfl rfl rfl (r_move hF rfl rfl) ?_; clear hF; clear a; intro a hF
        refine RL.nil (hK42 _ _ ?_)
        clear hK42 K41
        obtain ⟨ht, hf⟩ := h
        refine cond_ hF rfl (fun hc => ?_) (fun hc => ?_)
        · replace h := ht hc; clear ht hf
          refine seq_region fun K43 hK44 => ?_
          refine RL.val  hF rfl rfl rfl (r_move hF rfl rfl) ?_; clear hF; clear a; intro a hF
          refine RL.call hF rfl rfl rfl (r_call (xs := [a0.v, .pointer (some p38)]) hF rfl rfl Tryd.call48) (CallsV.mono h ?_)
          clear h; rintro _ w45 ⟨r46, rfl, h⟩; clear hF; clear a; intro a hF
          refine RL.call hF rfl rfl rfl (r_call (xs := [r46.v, .pointer (some p38)]) hF rfl rfl Tryd.call47) (CallsV.mono h ?_)
          clear h; rintro _ w47 ⟨r48, rfl, h⟩; clear hF; clear a; intro a hF
          refine RL.val  hF rfl rfl rfl (r_assign hF rfl rfl) ?_; clear hF; clear a; intro a hF
          refine RL.nil (hK44 _ _ ?_)
          clear hK44 K43
          refine wp_ret ?_
          exact ret_of hF (res1 hF rfl rfl) ⟨_, rfl, h⟩
        · replace h := hf hc; clear ht hf
          refine wp_skip ?_
          exact jn26 () _ _ (hF.sub rfl) h
      clear hJ
      refine seq_region fun K49 hK50 => ?_
      obtain ⟨J53, hJ, h⟩ := jn_open h
      have jn54 : ∀ (v51 : Bool) (w52 : World) a, Fr 42 a [(0, a0.v), (1, .string a1), (20, .bool v51)] → J53 v51 w52 → K49 a w52 := by
        clear hF
        intro v51 w52 a hF h; replace h := hJ _ _ h; refine hK50 _ _ ?_; clear hJ hK50 K49
        obtain ⟨ht, hf⟩ := h
        refine cond_ hF rfl (fun hc => ?_) (fun hc => ?_)
        · replace h := ht hc; clear ht hf
          refine seq_draw 72 #[0, 0, 2, 7, 0, 16, 63, 127] 8 mo rfl (by kernel_rfl) (by kernel_rfl) fun hS K55 hK56 => ?_
          obtain ⟨w57, hw, h⟩ := h; rw [← hw]; clear hw
          refine GL.val (v := a0.v) (i := 0) hF hS rfl rfl (by kernel_rfl) rfl rfl rfl rfl (fun x => r_move hF rfl rfl) ?_; clear hF; clear a; intro a hF
          refine GL.val (v := .string a1) (i := 1) hF hS rfl rfl (by kernel_rfl) rfl rfl rfl rfl (fun x => r_move hF rfl rfl) ?_; clear hF; clear a; intro a hF
          obtain ⟨h0_, hi_, t58, ht_, h⟩ := h
          refine GL.val (v := .int .u8 t58) (i := 2) hF hS rfl rfl (by kernel_rfl) rfl rfl rfl rfl (fun x => by rw [ht_]; exact r_indexS hF rfl rfl rfl Tryd.runUnderlying9 h0_ hi_) ?_; clear hF; clear a; intro a hF
          refine GL.val (v := .string a1) (i := 4) hF hS rfl rfl (by kernel_rfl) rfl rfl rfl rfl (fun x => r_move hF rfl rfl) ?_; clear hF; clear a; intro a hF
          obtain ⟨h0_, hi_, t59, ht_, h⟩ := h
          refine GL.val (v := .int .u8 t59) (i := 5) hF hS rfl rfl (by kernel_rfl) rfl rfl rfl rfl (fun x => by rw [ht_]; exact r_indexS hF rfl rfl rfl Tryd.runUnderlying9 h0_ hi_) ?_; clear hF; clear a; intro a hF
          refine GL.act (i := 3) (pend' := []) hS (by kernel_rfl) rfl (by kernel_rfl) ?_
          refine op_call hF rfl rfl rfl rfl (r_call (xs := [a0.v, .int .u8 t58]) hF rfl rfl Tryd.call45) (CallsV.mono h ?_)
          clear h; rintro _ w60 ⟨r61, rfl, h⟩
          refine ⟨trivial, ?_⟩; clear hF; clear a; intro a hF
          refine GL.act (i := 6) (pend' := []) hS (by kernel_rfl) rfl (by kernel_rfl) ?_
          refine op_call hF rfl rfl rfl rfl (r_call (xs := [r61.v, .int .u8 t59]) hF rfl rfl Tryd.call44) (CallsV.mono h ?_)
          clear h; rintro _ w62 ⟨r63, rfl, h⟩
          refine ⟨trivial, ?_⟩; clear hF; clear a; intro a hF
          refine GL.val (v := r63.v) (i := 7) hF hS rfl rfl (by kernel_rfl) rfl rfl rfl rfl (fun x => r_assign hF rfl rfl) ?_; clear hF; clear a; intro a hF
          refine GL.done (by kernel_rfl) (hK56 _ _ ?_)
          clear hK56 K55
          refine wp_ret ?_
          exact ret_of hF (res1 hF rfl rfl) ⟨_, rfl, h⟩
        · replace h := hf hc; clear ht hf
          refine wp_skip ?_
          exact jn20 () _ _ (hF.sub rfl) h
      clear hJ hK50
      refine RL.val  hF rfl rfl rfl (r_move hF rfl rfl) ?_; clear hF; clear a; intro a hF
      refine RL.val  hF rfl rfl rfl (r_len_str hF rfl rfl Tryd.runUnderlying9) ?_; clear hF; clear a; intro a hF
      refine RL.val  hF rfl rfl rfl (r_eql hF rfl rfl rfl) ?_; clear hF; clear a; intro a hF
      refine RL.val  hF rfl rfl rfl (r_move hF rfl rfl) ?_; clear hF; clear a; intro a hF
      obtain ⟨ht, hf⟩ := h
      rcases bool_cases ((a1.size : Int) == 1) with hg64 | hg64
      · replace h := ht hg64; clear ht hf
        refine RL.gval  hF rfl rfl (lkb rfl hg64) rfl rfl (r_move hF rfl rfl) ?_; clear hF; clear a; intro a hF
        obtain ⟨h0_, hi_, t65, ht_, h⟩ := h
        refine RL.gval (v := .int .u8 t65) (w' := w12) hF rfl rfl (lkb rfl hg64) rfl rfl (by rw [ht_]; exact r_indexS hF rfl rfl rfl Tryd.runUnderlying9 h0_ hi_) ?_; clear hF; clear a; intro a hF
        refine RL.gval  hF rfl rfl (lkb rfl hg64) rfl rfl (r_lss hF rfl rfl rfl) ?_; clear hF; clear a; intro a hF
        refine RL.val (v := .bool (decide (t65 < 128))) (w' := w12) hF rfl rfl rfl (r_pick hF rfl rfl rfl rfl (fun _ => rfl) (fun e => absurd (hg64.symm.trans e) (by decide))) ?_; clear hF; clear a; intro a hF
        refine RL.nil ?_
        exact jn54 (decide (t65 < 128)) _ _ (hF.sub rfl) h
      · replace h := hf hg64; clear ht hf
        refine RL.skip hF rfl rfl (lkb rfl hg64) (.inl rfl) rfl rfl ?_; clear hF; clear a; intro a hF
        refine RL.skip hF rfl rfl (lkb rfl hg64) (.inl rfl) rfl rfl ?_; clear hF; clear a; intro a hF
        refine RL.skip hF rfl rfl (lkb rfl hg64) (.inl rfl) rfl rfl ?_; clear hF; clear a; intro a hF
        refine RL.val (v := .bool false) (w' := w12) hF rfl rfl rfl (r_pick hF rfl rfl rfl rfl (fun e => absurd (hg64.symm.trans e) (by decide)) (fun _ => rfl)) ?_; clear hF; clear a; intro a hF
        refine RL.nil ?_
        exact jn54 false _ _ (hF.sub rfl) h
    clear hJ
    refine seq_region fun K66 hK67 => ?_
    refine RL.val  hF rfl rfl rfl (r_move hF rfl rfl) ?_; clear hF; clear a; intro a hF
    refine RL.val  hF rfl rfl rfl (r_streq hF rfl rfl rfl) ?_; clear hF; clear a; intro a hF
    refine RL.nil (hK67 _ _ ?_)
    clear hK67 K66
    obtain ⟨ht, hf⟩ := h
    refine cond_ hF rfl (fun hc => ?_) (fun hc => ?_)
    · replace h := ht hc; clear ht hf
      refine seq_region fun K68 hK69 => ?_
      refine RL.val  hF rfl rfl rfl (r_move hF rfl rfl) ?_; clear hF; clear a; intro a hF
      refine RL.val  hF rfl rfl rfl (r_assign hF rfl rfl) ?_; clear hF; clear a; intro a hF
      refine RL.nil (hK69 _ _ ?_)
      clear hK69 K68
      refine wp_ret ?_
      exact ret_of hF (res1 hF rfl rfl) ⟨_, rfl, h⟩
    · replace h := hf hc; clear ht hf
      refine wp_skip ?_
      exact jn14 () _ _ (hF.sub rfl) h
  clear hJ
  refine seq_region fun K70 hK71 => ?_
  refine RL.val  hF rfl rfl rfl (r_move hF rfl rfl) ?_; clear hF; clear a; intro a hF
  refine RL.val  hF rfl rfl rfl (r_len_slice hF rfl rfl Tryd.runUnderlying22) ?_; clear hF; clear a; intro a hF
  refine RL.val  hF rfl rfl rfl (r_eql hF rfl rfl rfl) ?_; clear hF; clear a; intro a hF
  refine RL.nil (hK71 _ _ ?_)
  clear hK71 K70
  obtain ⟨ht, hf⟩ := h
  refine cond_ hF rfl (fun hc => ?_) (fun hc => ?_)
  · replace h := ht hc; clear ht hf
    refine seq_region fun K72 hK73 => ?_
    refine RL.val  hF rfl rfl rfl (r_assign hF rfl rfl) ?_; clear hF; clear a; intro a hF
    refine RL.nil (hK73 _ _ ?_)
    clear hK73 K72
    refine wp_ret ?_
    exact ret_of hF (res1 hF rfl rfl) ⟨_, rfl, h⟩
  · replace h := hf hc; clear ht hf
    refine wp_skip ?_
    exact jn8 () _ _ (hF.sub rfl) h

set_option maxRecDepth 20000 in
theorem br8 {a0 : Option Addr} {a1 : Array Value} {a2 : Int} {a3 : Slc} {a4 : Slc} {w : World} {K : Slc → Int → World → Prop} (h : sh8 a0 a1 a2 a3 a4 w K) : C8 a0 a1 a2 a3 a4 w K := by
  unfold sh8 at h
  refine enter (n := 91) (l := [(0, .pointer a0), (1, .agg a1), (2, .int .i64 a2), (3, a3.v), (4, a4.v)]) 86 Tryd.func8 rfl _ rfl rfl rfl fun a hF => ?_
  refine seq_region fun K1 hK2 => ?_
  obtain ⟨p3, w4, hp_, hw_, h⟩ := h
  refine RL.val (v := .pointer (some p3)) (w' := w4) hF rfl rfl rfl (by rw [hp_, hw_]; exact r_box hF rfl rfl rfl) ?_; clear hF; clear a; intro a hF
  refine RL.val  hF rfl rfl rfl (r_assign hF rfl rfl) ?_; clear hF; clear a; intro a hF
  refine RL.val  hF rfl rfl rfl (r_assign hF rfl rfl) ?_; clear hF; clear a; intro a hF
  refine RL.nil (hK2 _ _ ?_)
  clear hK2 K1
  refine seq_k fun K5 hK6 => ?_
  obtain ⟨J, hJ, h⟩ := jn_open h
  have jn10 : ∀ (v7 : Unit) (w8 : World) a, Fr 91 a [(0, .pointer a0), (2, .int .i64 a2), (3, a3.v), (4, a4.v), (6, .pointer (some p3))] → J v7 w8 → K5 a w8 := by
    intro v7 w8 a hF h
    replace h := hJ _ _ h
    clear hJ
    refine hK6 _ _ ?_
    refine seq_draw 0 #[0, 1, 3, 7, 0, 31, 63, 127, 127, 255, 1023] 11 mo rfl (by kernel_rfl) (by kernel_rfl) fun hS K11 hK12 => ?_
    obtain ⟨w13, hw, h⟩ := h; rw [← hw]; clear hw
    refine GL.val (v := .pointer a0) (i := 0) hF hS rfl rfl (by kernel_rfl) rfl rfl rfl rfl (fun x => r_move hF rfl rfl) ?_; clear hF; clear a; intro a hF
    obtain ⟨p14, hpp14, h⟩ := h
    refine GL.val (v := .pointer (some p14)) (i := 1) hF hS rfl rfl (by kernel_rfl) rfl rfl rfl rfl (fun x => r_nilCheck hF rfl (lkp rfl hpp14)) ?_; clear hF; clear a; intro a hF
    refine GL.val (v := .pointer (some (p14.add 2))) (i := 2) hF hS rfl rfl (by kernel_rfl) rfl rfl rfl rfl (fun x => r_fieldAddr hF rfl rfl Tryd.runUnderlying52 rfl Tryd.sizeOf49 rfl) ?_; clear hF; clear a; intro a hF
    obtain ⟨t15, hct15, h⟩ := h
    refine GL.read (v := .map t15) (i := 3) hF (fun x => World.cell? x (p14.add 2) = some (.map t15)) hS rfl rfl (by kernel_rfl) rfl rfl rfl rfl hct15 (fun x hx => r_load hF rfl rfl Tryd.isAgg49 hx) ?_; clear hF; clear a; intro a hF
    obtain ⟨t16, hct16, h⟩ := h
    refine GL.read (v := .agg t16) (i := 4) hF (fun x => CellsAt x p3 16 t16) hS rfl rfl (by kernel_rfl) rfl rfl rfl rfl hct16 (fun x hx => r_loadA hF rfl rfl Tryd.isAgg26 Tryd.sizeOf26 hx) ?_; clear hF; clear a; intro a hF
    obtain ⟨t17, t18, hct17, h⟩ := h
    refine GL.read (v := .tuple #[.int .i64 t17, .bool t18]) (i := 5) hF (fun x => rn Tryd.prog (Instr.lookup 49 (.map t15) (.agg t16) true) (.tuple #[.int .i64 t17, .bool t18]) x x) hS rfl rfl (by kernel_rfl) rfl rfl rfl rfl hct17 (fun x hx => r_lookup hF rfl rfl rfl hx) ?_; clear hF; clear a; intro a hF
    refine GL.val (v := .tuple #[.int .i64 t17, .bool t18]) (i := 6) hF hS rfl rfl (by kernel_rfl) rfl rfl rfl rfl (fun x => r_move hF rfl rfl) ?_; clear hF; clear a; intro a hF
    refine GL.val (v := .int .i64 t17) (i := 7) hF hS rfl rfl (by kernel_rfl) rfl rfl rfl rfl (fun x => r_extract hF rfl rfl rfl) ?_; clear hF; clear a; intro a hF
    refine GL.val (v := .bool t18) (i := 8) hF hS rfl rfl (by kernel_rfl) rfl rfl rfl rfl (fun x => r_extract hF rfl rfl rfl) ?_; clear hF; clear a; intro a hF
    refine GL.val (v := .int .i64 t17) (i := 9) hF hS rfl rfl (by kernel_rfl) rfl rfl rfl rfl (fun x => r_assign hF rfl rfl) ?_; clear hF; clear a; intro a hF
    refine GL.val (v := .bool t18) (i := 10) hF hS rfl rfl (by kernel_rfl) rfl rfl rfl rfl (fun x => r_assign hF rfl rfl) ?_; clear hF; clear a; intro a hF
    refine GL.done (by kernel_rfl) (hK12 _ _ ?_)
    clear hK12 K11
    refine seq_region fun K19 hK20 => ?_
    refine RL.val  hF rfl rfl rfl (r_move hF rfl rfl) ?_; clear hF; clear a; intro a hF
    refine RL.val  hF rfl rfl rfl (r_len_slice hF rfl rfl Tryd.runUnderlying22) ?_; clear hF; clear a; intro a hF
    refine RL.val  hF rfl rfl rfl (r_sub hF rfl rfl rfl) ?_; clear hF; clear a; intro a hF
    refine RL.val  hF rfl rfl rfl (r_assign hF rfl rfl) ?_; clear hF; clear a; intro a hF
    refine RL.nil (hK20 _ _ ?_)
    clear hK20 K19
    refine seq_k fun K21 hK22 => ?_
    obtain ⟨J, hJ, h⟩ := jn_open h
    have jn26 : ∀ (v23 : Unit) (w24 : World) a, Fr 91 a [(0, .pointer a0), (2, .int .i64 a2), (3, a3.v), (4, a4.v), (12, .int .i64 t17), (14, .int .i64 (IntKind.i64.wrap ((a4.len : Int) - 16)))] → J v23 w24 → K21 a w24 := by
      intro v23 w24 a hF h
      replace h := hJ _ _ h
      clear hJ
      refine hK22 _ _ ?_
      refine seq_draw 0 #[0, 1, 3, 7, 0, 0, 48, 112, 240, 511, 1023, 2047, 2047, 4095, 16383] 15 mo rfl (by kernel_rfl) (by kernel_rfl) fun hS K27 hK28 => ?_
      obtain ⟨w29, hw, h⟩ := h; rw [← hw]; clear hw
      refine GL.val (v := .pointer a0) (i := 0) hF hS rfl rfl (by kernel_rfl) rfl rfl rfl rfl (fun x => r_move hF rfl rfl) ?_; clear hF; clear a; intro a hF
      obtain ⟨p30, hpp30, h⟩ := h
      refine GL.val (v := .pointer (some p30)) (i := 1) hF hS rfl rfl (by kernel_rfl) rfl rfl rfl rfl (fun x => r_nilCheck hF rfl (lkp rfl hpp30)) ?_; clear hF; clear a; intro a hF
      refine GL.val (v := .pointer (some (p30.add 2))) (i := 2) hF hS rfl rfl (by kernel_rfl) rfl rfl rfl rfl (fun x => r_fieldAddr hF rfl rfl Tryd.runUnderlying52 rfl Tryd.sizeOf49 rfl) ?_; clear hF; clear a; intro a hF
      obtain ⟨t31, hct31, h⟩ := h
      refine GL.read (v := .map t31) (i := 3) hF (fun x => World.cell? x (p30.add 2) = some (.map t31)) hS rfl rfl (by kernel_rfl) rfl rfl rfl rfl hct31 (fun x hx => r_load hF rfl rfl Tryd.isAgg49 hx) ?_; clear hF; clear a; intro a hF
      refine GL.val (v := a4.v) (i := 4) hF hS rfl rfl (by kernel_rfl) rfl rfl rfl rfl (fun x => r_move hF rfl rfl) ?_; clear hF; clear a; intro a hF
      refine GL.val (v := .int .i64 (IntKind.i64.wrap ((a4.len : Int) - 16))) (i := 5) hF hS rfl rfl (by kernel_rfl) rfl rfl rfl rfl (fun x => r_move hF rfl rfl) ?_; clear hF; clear a; intro a hF
      obtain ⟨hs32, hs33, h⟩ := h
      refine GL.val (v := (a4.sub 1 ((IntKind.i64.wrap ((a4.len : Int) - 16)).toNat) a4.len a4.cap).v) (i := 6) hF hS rfl rfl (by kernel_rfl) rfl rfl rfl rfl (fun x => r_slice (lo' := some (.int .i64 (IntKind.i64.wrap ((a4.len : Int) - 16)))) (hi' := none) (mx' := none) hF rfl rfl rfl rfl rfl (slc_at Tryd.runUnderlying22 Tryd.sizeOf5 (bounds10 hs32 hs33))) ?_; clear hF; clear a; intro a hF
      obtain ⟨h0_, h⟩ := h
      refine GL.val (v := .pointer ((a4.sub 1 ((IntKind.i64.wrap ((a4.len : Int) - 16)).toNat) a4.len a4.cap).a)) (i := 7) hF hS rfl rfl (by kernel_rfl) rfl rfl rfl rfl (fun x => r_s2ap hF rfl rfl Tryd.runUnderlying26 h0_) ?_; clear hF; clear a; intro a hF
      obtain ⟨p35, hpp35, h⟩ := h
      obtain ⟨t34, hct34, h⟩ := h
      refine GL.read (v := .agg t34) (i := 8) hF (fun x => CellsAt x p35 16 t34) hS rfl rfl (by kernel_rfl) rfl rfl rfl rfl hct34 (fun x hx => r_loadA hF rfl (lkp rfl hpp35) Tryd.isAgg26 Tryd.sizeOf26 hx) ?_; clear hF; clear a; intro a hF
      obtain ⟨t36, t37, hct36, h⟩ := h
      refine GL.read (v := .tuple #[.int .i64 t36, .bool t37]) (i := 9) hF (fun x => rn Tryd.prog (Instr.lookup 49 (.map t31) (.agg t34) true) (.tuple #[.int .i64 t36, .bool t37]) x x) hS rfl rfl (by kernel_rfl) rfl rfl rfl rfl hct36 (fun x hx => r_lookup hF rfl rfl rfl hx) ?_; clear hF; clear a; intro a hF
      refine GL.val (v := .tuple #[.int .i64 t36, .bool t37]) (i := 10) hF hS rfl rfl (by kernel_rfl) rfl rfl rfl rfl (fun x => r_move hF rfl rfl) ?_; clear hF; clear a; intro a hF
      refine GL.val (v := .int .i64 t36) (i := 11) hF hS rfl rfl (by kernel_rfl) rfl rfl rfl rfl (fun x => r_extract hF rfl rfl rfl) ?_; clear hF; clear a; intro a hF
      refine GL.val (v := .bool t37) (i := 12) hF hS rfl rfl (by kernel_rfl) rfl rfl rfl rfl (fun x => r_extract hF rfl rfl rfl) ?_; clear hF; clear a; intro a hF
      refine GL.val (v := .int .i64 t36) (i := 13) hF hS rfl rfl (by kernel_rfl) rfl rfl rfl rfl (fun x => r_assign hF rfl rfl) ?_; clear hF; clear a; intro a hF
      refine GL.val (v := .bool t37) (i := 14) hF hS rfl rfl (by kernel_rfl) rfl rfl rfl rfl (fun x => r_assign hF rfl rfl) ?_; clear hF; clear a; intro a hF
      refine GL.done (by kernel_rfl) (hK28 _ _ ?_)
      clear hK28 K27
      refine seq_k fun K38 hK39 => ?_
      obtain ⟨J, hJ, h⟩ := jn_open h
      have jn43 : ∀ (v40 : Unit) (w41 : World) a, Fr 91 a [(0, .pointer a0), (2, .int .i64 a2), (3, a3.v), (4, a4.v), (12, .int .i64 t17), (14, .int .i64 (IntKind.i64.wrap ((a4.len : Int) - 16))), (15, .int .i64 t36)] → J v40 w41 → K38 a w41 := by
        intro v40 w41 a hF h
        replace h := hJ _ _ h
        clear hJ
        refine hK39 _ _ ?_
        refine seq_region fun K44 hK45 => ?_
        refine RL.val  hF rfl rfl rfl (r_move hF rfl rfl) ?_; clear hF; clear a; intro a hF
        obtain ⟨p46, hpp46, h⟩ := h
        refine RL.val  hF rfl rfl rfl (r_nilCheck hF rfl (lkp rfl hpp46)) ?_; clear hF; clear a; intro a hF
        refine RL.val  hF rfl rfl rfl (r_fieldAddr0 hF rfl rfl Tryd.runUnderlying52 rfl Tryd.sizeOf50 rfl) ?_; clear hF; clear a; intro a hF
        obtain ⟨t47, hct47, h⟩ := h
        refine RL.val  hF rfl rfl rfl (r_load hF rfl rfl Tryd.isAgg50 hct47) ?_; clear hF; clear a; intro a hF
        refine RL.val  hF rfl rfl rfl (r_move hF rfl rfl) ?_; clear hF; clear a; intro a hF
        obtain ⟨b49, p48, hb_, h0_, h1_, hp_, h⟩ := h
        refine RL.val (v := .pointer (some p48)) (w' := w41) hF rfl rfl rfl (by rw [hp_]; exact r_indexAddr hF rfl (lks rfl hb_) rfl Tryd.runUnderlying50 Tryd.sizeOf55 h0_ h1_) ?_; clear hF; clear a; intro a hF
        obtain ⟨t50, hct50, h⟩ := h
        refine RL.val  hF rfl rfl rfl (r_loadA hF rfl rfl Tryd.isAgg55 Tryd.sizeOf55 hct50) ?_; clear hF; clear a; intro a hF
        obtain ⟨p51, w52, hp_, hw_, h⟩ := h
        refine RL.val (v := .pointer (some p51)) (w' := w52) hF rfl rfl rfl (by rw [hp_, hw_]; exact r_alloc rfl Tryd.zeroValue55 rfl) ?_; clear hF; clear a; intro a hF
        obtain ⟨w53, hs1_, hs2_, hs3_, hs4_, h⟩ := h
        refine RL.unit (w' := w53) hF rfl rfl (by rw [hs4_]; exact r_storeA hF rfl rfl rfl Tryd.sizeOf55 hs1_ hs2_ hs3_) ?_; clear hF; clear a; intro a hF
        refine RL.nil (hK45 _ _ ?_)
        clear hK45 K44
        refine seq_region fun K54 hK55 => ?_
        refine RL.val  hF rfl rfl rfl (r_move hF rfl rfl) ?_; clear hF; clear a; intro a hF
        refine RL.val  hF rfl rfl rfl (r_move hF rfl rfl) ?_; clear hF; clear a; intro a hF
        refine RL.val  hF rfl rfl rfl (r_move hF rfl rfl) ?_; clear hF; clear a; intro a hF
        obtain ⟨t56, hct56, h⟩ := h
        refine RL.val  hF rfl rfl rfl (r_conv hF rfl rfl hct56) ?_; clear hF; clear a; intro a hF
        refine RL.val  hF rfl rfl rfl (r_fieldAddr hF rfl rfl Tryd.runUnderlying55 rfl Tryd.sizeOf9 rfl) ?_; clear hF; clear a; intro a hF
        obtain ⟨t57, hct57, h⟩ := h
        refine RL.val  hF rfl rfl rfl (r_load hF rfl rfl Tryd.isAgg9 hct57) ?_; clear hF; clear a; intro a hF
        refine RL.val (v := .agg (#[.int .i64 6, .int .i64 t17, .int .i64 0, .int .i64 a2, .string (⟨#[]⟩ : ByteArray), .string t56, .string t57])) (w' := w53) hF rfl rfl rfl (r_build (xs := [(0, .int .i64 6), (1, .int .i64 t17), (3, .int .i64 a2), (5, .string t56), (6, .string t57)]) hF rfl rfl (by kernel_rfl)) ?_; clear hF; clear a; intro a hF
        obtain ⟨p58, w59, hp_, hw_, h⟩ := h
        refine RL.val (v := .pointer (some p58)) (w' := w59) hF rfl rfl rfl (by rw [hp_, hw_]; exact r_alloc rfl Tryd.zeroValue55 rfl) ?_; clear hF; clear a; intro a hF
        obtain ⟨w60, hs1_, hs2_, hs3_, hs4_, h⟩ := h
        refine RL.unit (w' := w60) hF rfl rfl (by rw [hs4_]; exact r_storeA hF rfl rfl rfl Tryd.sizeOf55 hs1_ hs2_ hs3_) ?_; clear hF; clear a; intro a hF
        refine RL.nil (hK55 _ _ ?_)
        clear hK55 K54
        refine seq_k fun K61 hK62 => ?_
        obtain ⟨J, hJ, h⟩ := jn_open h
        have jn66 : ∀ (v63 : Unit) (w64 : World) a, Fr 91 a [(16, .pointer (some p51))] → J v63 w64 → K61 a w64 := by
          intro v63 w64 a hF h
          replace h := hJ _ _ h
          clear hJ
          refine hK62 _ _ ?_
          refine seq_region fun K67 hK68 => ?_
          refine RL.val  hF rfl rfl rfl (r_fieldAddr hF rfl rfl Tryd.runUnderlying55 rfl Tryd.sizeOf9 rfl) ?_; clear hF; clear a; intro a hF
          obtain ⟨t69, hct69, h⟩ := h
          refine RL.val  hF rfl rfl rfl (r_load hF rfl rfl Tryd.isAgg9 hct69) ?_; clear hF; clear a; intro a hF
          obtain ⟨t70, w71, hc_, h⟩ := h
          refine RL.val  hF rfl rfl rfl (r_conv hF rfl rfl hc_) ?_; clear hF; clear a; intro a hF
          refine RL.val  hF rfl rfl rfl (r_assign hF rfl rfl) ?_; clear hF; clear a; intro a hF
          refine RL.val  hF rfl rfl rfl (r_assign hF rfl rfl) ?_; clear hF; clear a; intro a hF
          refine RL.nil (hK68 _ _ ?_)
          clear hK68 K67
          refine wp_ret ?_
          exact ret_of hF (res2 hF rfl rfl rfl) ⟨_, _, rfl, h⟩
        clear hJ
        refine seq_region fun K72 hK73 => ?_
        obtain ⟨J76, hJ, h⟩ := jn_open h
        have jn77 : ∀ (v74 : Bool) (w75 : World) a, Fr 91 a [(16, .pointer (some p51)), (87, .bool v74)] → J76 v74 w75 → K72 a w75 := by
          clear hF
          intro v74 w75 a hF h; replace h := hJ _ _ h; refine hK73 _ _ ?_; clear hJ hK73 K72
          obtain ⟨ht, hf⟩ := h
          refine cond_ hF rfl (fun hc => ?_) (fun hc => ?_)
          · replace h := ht hc; clear ht hf
            refine seq_region fun K78 hK79 => ?_
            refine RL.val  hF rfl rfl rfl (r_assign hF rfl rfl) ?_; clear hF; clear a; intro a hF
            refine RL.val  hF rfl rfl rfl (r_assign hF rfl rfl) ?_; clear hF; clear a; intro a hF
            refine RL.nil (hK79 _ _ ?_)
            clear hK79 K78
            refine wp_ret ?_
            exact ret_of hF (res2 hF rfl rfl rfl) ⟨_, _, rfl, h⟩
          · replace h := hf hc; clear ht hf
            refine wp_skip ?_
            exact jn66 () _ _ (hF.sub rfl) h
        clear hJ hK73
        obtain ⟨t80, hct80, h⟩ := h
        refine RL.val  hF rfl rfl rfl (r_loadA hF rfl rfl Tryd.isAgg55 Tryd.sizeOf55 hct80) ?_; clear hF; clear a; intro a hF
        obtain ⟨t81, hct81, h⟩ := h
        refine RL.val  hF rfl rfl rfl (r_loadA hF rfl rfl Tryd.isAgg55 Tryd.sizeOf55 hct81) ?_; clear hF; clear a; intro a hF
        obtain ⟨t82, hc_, h⟩ := h
        refine RL.val  hF rfl rfl rfl (r_aggne hF rfl rfl rfl Tryd.eqGuardType55 (hc_ _)) ?_; clear hF; clear a; intro a hF
        refine RL.val  hF rfl rfl rfl (r_move hF rfl rfl) ?_; clear hF; clear a; intro a hF
        obtain ⟨ht, hf⟩ := h
        rcases bool_cases (!t82) with hg83 | hg83
        · replace h := ht hg83; clear ht hf
          refine RL.skip hF rfl rfl (lkb rfl hg83) (.inl rfl) rfl rfl ?_; clear hF; clear a; intro a hF
          refine RL.skip hF rfl rfl (lkb rfl hg83) (.inl rfl) rfl rfl ?_; clear hF; clear a; intro a hF
          refine RL.skip hF rfl rfl (lkb rfl hg83) (.inl rfl) rfl rfl ?_; clear hF; clear a; intro a hF
          refine RL.skip hF rfl rfl (lkb rfl hg83) (.inl rfl) rfl rfl ?_; clear hF; clear a; intro a hF
          refine RL.skip hF rfl rfl (lkb rfl hg83) (.inl rfl) rfl rfl ?_; clear hF; clear a; intro a hF
          refine RL.val (v := .bool true) (w' := w60) hF rfl rfl rfl (r_pick hF rfl rfl rfl rfl (fun _ => rfl) (fun e => absurd (hg83.symm.trans e) (by decide))) ?_; clear hF; clear a; intro a hF
          refine RL.val  hF rfl rfl rfl (r_move hF rfl rfl) ?_; clear hF; clear a; intro a hF
          refine RL.skip hF rfl rfl rfl (.inl rfl) rfl rfl ?_; clear hF; clear a; intro a hF
          refine RL.skip hF rfl rfl rfl (.inl rfl) rfl rfl ?_; clear hF; clear a; intro a hF
          refine RL.skip hF rfl rfl rfl (.inl rfl) rfl rfl ?_; clear hF; clear a; intro a hF
          refine RL.skip hF rfl rfl rfl (.inl rfl) rfl rfl ?_; clear hF; clear a; intro a hF
          refine RL.skip hF rfl rfl rfl (.inl rfl) rfl rfl ?_; clear hF; clear a; intro a hF
          refine RL.skip hF rfl rfl rfl (.inl rfl) rfl rfl ?_; clear hF; clear a; intro a hF
          refine RL.val (v := .bool true) (w' := w60) hF rfl rfl rfl (r_pick hF rfl rfl rfl rfl (fun _ => rfl) (fun e => absurd e (by decide))) ?_; clear hF; clear a; intro a hF
          refine RL.nil ?_
          exact jn77 true _ _ (hF.sub rfl) h
        · replace h := hf hg83; clear ht hf
          refine RL.gval  hF rfl rfl (lkb rfl hg83) rfl rfl (r_fieldAddr hF rfl rfl Tryd.runUnderlying55 rfl Tryd.sizeOf9 rfl) ?_; clear hF; clear a; intro a hF
          obtain ⟨t84, hct84, h⟩ := h
          refine RL.gval  hF rfl rfl (lkb rfl hg83) rfl rfl (r_load hF rfl rfl Tryd.isAgg9 hct84) ?_; clear hF; clear a; intro a hF
          refine RL.gval  hF rfl rfl (lkb rfl hg83) rfl rfl (r_len_str hF rfl rfl Tryd.runUnderlying9) ?_; clear hF; clear a; intro a hF
          refine RL.gval  hF rfl rfl (lkb rfl hg83) rfl rfl (r_move hF rfl rfl) ?_; clear hF; clear a; intro a hF
          refine RL.gval  hF rfl rfl (lkb rfl hg83) rfl rfl (r_neq hF rfl rfl rfl) ?_; clear hF; clear a; intro a hF
          refine RL.val (v := .bool ((t84.size : Int) != (IntKind.i64.wrap ((a4.len : Int) - 16)))) (w' := w60) hF rfl rfl rfl (r_pick hF rfl rfl rfl rfl (fun e => absurd (hg83.symm.trans e) (by decide)) (fun _ => rfl)) ?_; clear hF; clear a; intro a hF
          refine RL.val  hF rfl rfl rfl (r_move hF rfl rfl) ?_; clear hF; clear a; intro a hF
          obtain ⟨ht, hf⟩ := h
          rcases bool_cases ((t84.size : Int) != (IntKind.i64.wrap ((a4.len : Int) - 16))) with hg85 | hg85
          · replace h := ht hg85; clear ht hf
            refine RL.skip hF rfl rfl (lkb rfl hg85) (.inl rfl) rfl rfl ?_; clear hF; clear a; intro a hF
            refine RL.skip hF rfl rfl (lkb rfl hg85) (.inl rfl) rfl rfl ?_; clear hF; clear a; intro a hF
            refine RL.skip hF rfl rfl (lkb rfl hg85) (.inl rfl) rfl rfl ?_; clear hF; clear a; intro a hF
            refine RL.skip hF rfl rfl (lkb rfl hg85) (.inl rfl) rfl rfl ?_; clear hF; clear a; intro a hF
            refine RL.skip hF rfl rfl (lkb rfl hg85) (.inl rfl) rfl rfl ?_; clear hF; clear a; intro a hF
            refine RL.skip hF rfl rfl (lkb rfl hg85) (.inl rfl) rfl rfl ?_; clear hF; clear a; intro a hF
            refine RL.val (v := .bool true) (w' := w60) hF rfl rfl rfl (r_pick hF rfl rfl rfl rfl (fun _ => rfl) (fun e => absurd (hg85.symm.trans e) (by decide))) ?_; clear hF; clear a; intro a hF
            refine RL.nil ?_
            exact jn77 true _ _ (hF.sub rfl) h
          · replace h := hf hg85; clear ht hf
            refine RL.gval  hF rfl rfl (lkb rfl hg85) rfl rfl (r_move hF rfl rfl) ?_; clear hF; clear a; intro a hF
            refine RL.gval  hF rfl rfl (lkb rfl hg85) rfl rfl (r_move hF rfl rfl) ?_; clear hF; clear a; intro a hF
            obtain ⟨hs86, hs87, h⟩ := h
            refine RL.gval  hF rfl rfl (lkb rfl hg85) rfl rfl (r_slice (lo' := none) (hi' := some (.int .i64 (IntKind.i64.wrap ((a4.len : Int) - 16)))) (mx' := none) hF rfl rfl rfl rfl rfl (slc_at Tryd.runUnderlying22 Tryd.sizeOf5 (bounds01 hs86 hs87))) ?_; clear hF; clear a; intro a hF
            refine RL.gcall hF rfl rfl (lkb rfl hg85) rfl rfl (r_call (xs := [(a4.sub 1 0 ((IntKind.i64.wrap ((a4.len : Int) - 16)).toNat) a4.cap).v, .string (⟨#[0]⟩ : ByteArray)]) hF rfl rfl Tryd.call18) (CallsV.mono h ?_)
            clear h; rintro _ w88 ⟨r89, rfl, h⟩; clear hF; clear a; intro a hF
            refine RL.gval  hF rfl rfl (lkb rfl hg85) rfl rfl (r_len_slice hF rfl rfl Tryd.runUnderlying22) ?_; clear hF; clear a; intro a hF
            refine RL.gval  hF rfl rfl (lkb rfl hg85) rfl rfl (r_gtr hF rfl rfl rfl) ?_; clear hF; clear a; intro a hF
            refine RL.val (v := .bool (decide ((r89.len : Int) > 0))) (w' := w88) hF rfl rfl rfl (r_pick hF rfl rfl rfl rfl (fun e => absurd (hg85.symm.trans e) (by decide)) (fun _ => rfl)) ?_; clear hF; clear a; intro a hF
            refine RL.nil ?_
            exact jn77 (decide ((r89.len : Int) > 0)) _ _ (hF.sub rfl) h
      clear hJ
      refine seq_region fun K90 hK91 => ?_
      refine RL.val  hF rfl rfl rfl (r_move hF rfl rfl) ?_; clear hF; clear a; intro a hF
      refine RL.val  hF rfl rfl rfl (r_not hF rfl rfl) ?_; clear hF; clear a; intro a hF
      refine RL.nil (hK91 _ _ ?_)
      clear hK91 K90
      obtain ⟨ht, hf⟩ := h
      refine cond_ hF rfl (fun hc => ?_) (fun hc => ?_)
      · replace h := ht hc; clear ht hf
        refine seq_region fun K92 hK93 => ?_
        refine RL.val  hF rfl rfl rfl (r_assign hF rfl rfl) ?_; clear hF; clear a; intro a hF
        refine RL.val  hF rfl rfl rfl (r_assign hF rfl rfl) ?_; clear hF; clear a; intro a hF
        refine RL.nil (hK93 _ _ ?_)
        clear hK93 K92
        refine wp_ret ?_
        exact ret_of hF (res2 hF rfl rfl rfl) ⟨_, _, rfl, h⟩
      · replace h := hf hc; clear ht hf
        refine wp_skip ?_
        exact jn43 () _ _ (hF.sub rfl) h
    clear hJ
    refine wp_block ?_
    refine seq_region fun K94 hK95 => ?_
    refine RL.val  hF rfl rfl rfl (r_move hF rfl rfl) ?_; clear hF; clear a; intro a hF
    refine RL.val  hF rfl rfl rfl (r_not hF rfl rfl) ?_; clear hF; clear a; intro a hF
    refine RL.val  hF rfl rfl rfl (r_assign hF rfl rfl) ?_; clear hF; clear a; intro a hF
    refine RL.nil (hK95 _ _ ?_)
    clear hK95 K94
    obtain ⟨ht, hf⟩ := h
    refine cond_ hF rfl (fun hc => ?_) (fun hc => ?_)
    · replace h := ht hc; clear ht hf
      refine seq_region fun K96 hK97 => ?_
      refine RL.val  hF rfl rfl rfl (r_assign hF rfl rfl) ?_; clear hF; clear a; intro a hF
      refine RL.val  hF rfl rfl rfl (r_assign hF rfl rfl) ?_; clear hF; clear a; intro a hF
      refine RL.nil (hK97 _ _ ?_)
      clear hK97 K96
      refine wp_ret ?_
      exact ret_of hF (res2 hF rfl rfl rfl) ⟨_, _, rfl, h⟩
    · replace h := hf hc; clear ht hf
      refine seq_region fun K98 hK99 => ?_
      refine RL.val  hF rfl rfl rfl (r_move hF rfl rfl) ?_; clear hF; clear a; intro a hF
      refine RL.val  hF rfl rfl rfl (r_lss hF rfl rfl rfl) ?_; clear hF; clear a; intro a hF
      refine RL.val  hF rfl rfl rfl (r_assign hF rfl rfl) ?_; clear hF; clear a; intro a hF
      refine RL.nil (hK99 _ _ ?_)
      clear hK99 K98
      obtain ⟨ht, hf⟩ := h
      refine cond_ hF rfl (fun hc => ?_) (fun hc => ?_)
      · replace h := ht hc; clear ht hf
        refine seq_region fun K100 hK101 => ?_
        refine RL.val  hF rfl rfl rfl (r_assign hF rfl rfl) ?_; clear hF; clear a; intro a hF
        refine RL.val  hF rfl rfl rfl (r_assign hF rfl rfl) ?_; clear hF; clear a; intro a hF
        refine RL.nil (hK101 _ _ ?_)
        clear hK101 K100
        refine wp_ret ?_
        exact ret_of hF (res2 hF rfl rfl rfl) ⟨_, _, rfl, h⟩
      · replace h := hf hc; clear ht hf
        refine seq_region fun K102 hK103 => ?_
        refine RL.val  hF rfl rfl rfl (r_move hF rfl rfl) ?_; clear hF; clear a; intro a hF
        refine RL.val  hF rfl rfl rfl (r_lss hF rfl rfl rfl) ?_; clear hF; clear a; intro a hF
        refine RL.val  hF rfl rfl rfl (r_assign hF rfl rfl) ?_; clear hF; clear a; intro a hF
        refine RL.nil (hK103 _ _ ?_)
        clear hK103 K102
        obtain ⟨ht, hf⟩ := h
        refine cond_ hF rfl (fun hc => ?_) (fun hc => ?_)
        · replace h := ht hc; clear ht hf
          refine seq_region fun K104 hK105 => ?_
          refine RL.val  hF rfl rfl rfl (r_assign hF rfl rfl) ?_; clear hF; clear a; intro a hF
          refine RL.val  hF rfl rfl rfl (r_assign hF rfl rfl) ?_; clear hF; clear a; intro a hF
          refine RL.nil (hK105 _ _ ?_)
          clear hK105 K104
          refine wp_ret ?_
          exact ret_of hF (res2 hF rfl rfl rfl) ⟨_, _, rfl, h⟩
        · replace h := hf hc; clear ht hf
          refine wp_skip ?_
          exact jn26 () _ _ (hF.sub rfl) h
  clear hJ
  refine seq_region fun K106 hK107 => ?_
  refine RL.val  hF rfl rfl rfl (r_move hF rfl rfl) ?_; clear hF; clear a; intro a hF
  refine RL.call hF rfl rfl rfl (r_call (xs := [.pointer a0]) hF rfl rfl Tryd.call17) (CallsV.mono h ?_)
  clear h; rintro _ w108 ⟨r109, rfl, h⟩; clear hF; clear a; intro a hF
  refine RL.nil (hK107 _ _ ?_)
  clear hK107 K106
  obtain ⟨ht, hf⟩ := h
  refine cond_ hF rfl (fun hc => ?_) (fun hc => ?_)
  · replace h := ht hc; clear ht hf
    refine seq_region fun K110 hK111 => ?_
    refine RL.val  hF rfl rfl rfl (r_assign hF rfl rfl) ?_; clear hF; clear a; intro a hF
    refine RL.val  hF rfl rfl rfl (r_assign hF rfl rfl) ?_; clear hF; clear a; intro a hF
    refine RL.nil (hK111 _ _ ?_)
    clear hK111 K110
    refine wp_ret ?_
    exact ret_of hF (res2 hF rfl rfl rfl) ⟨_, _, rfl, h⟩
  · replace h := hf hc; clear ht hf
    refine wp_skip ?_
    exact jn10 () _ _ (hF.sub rfl) h

set_option maxRecDepth 20000 in
theorem br51 {a0 : Slc} {w : World} {K : Slc → World → Prop} (h : sh51 a0 w K) : C51 a0 w K := by
  unfold sh51 at h
  refine enter (n := 8) (l := [(0, a0.v)]) 7 Tryd.func51 rfl _ rfl rfl rfl fun a hF => ?_
  refine seq_region fun K1 hK2 => ?_
  refine RL.val  hF rfl rfl rfl (r_assign hF rfl rfl) ?_; clear hF; clear a; intro a hF
  refine RL.nil (hK2 _ _ ?_)
  clear hK2 K1
  refine seq_k fun K3 hK4 => ?_
  obtain ⟨J, hJ, h⟩ := jn_open h
  have jn8 : ∀ (v5 : Unit) (w6 : World) a, Fr 8 a [(0, a0.v)] → J v5 w6 → K3 a w6 := by
    intro v5 w6 a hF h
    replace h := hJ _ _ h
    clear hJ
    refine hK4 _ _ ?_
    refine seq_region fun K9 hK10 => ?_
    obtain ⟨p12, w11, hp_, hw_, h⟩ := h
    refine RL.val (v := (Slc.mk (some p12) 0 0).v) (w' := w11) hF rfl rfl rfl (by rw [hp_, hw_]; exact r_buildSlice (xs := []) hF rfl rfl (by kernel_rfl)) ?_; clear hF; clear a; intro a hF
    refine RL.val  hF rfl rfl rfl (r_move hF rfl rfl) ?_; clear hF; clear a; intro a hF
    obtain ⟨t14, w13, hc_, h⟩ := h
    refine RL.val  hF rfl rfl rfl (r_append (xs := [(Slc.mk (some p12) 0 0).v, a0.v]) hF rfl rfl hc_) ?_; clear hF; clear a; intro a hF
    refine RL.val  hF rfl rfl rfl (r_assign hF rfl rfl) ?_; clear hF; clear a; intro a hF
    refine RL.nil (hK10 _ _ ?_)
    clear hK10 K9
    refine wp_ret ?_
    exact ret_of hF (res1 hF rfl rfl) ⟨_, rfl, h⟩
  clear hJ
  refine seq_region fun K15 hK16 => ?_
  refine RL.val  hF rfl rfl rfl (r_move hF rfl rfl) ?_; clear hF; clear a; intro a hF
  refine RL.val  hF rfl rfl rfl (r_slcnil hF rfl rfl rfl Tryd.runUnderlying31) ?_; clear hF; clear a; intro a hF
  refine RL.nil (hK16 _ _ ?_)
  clear hK16 K15
  obtain ⟨ht, hf⟩ := h
  refine cond_ hF rfl (fun hc => ?_) (fun hc => ?_)
  · replace h := ht hc; clear ht hf
    refine seq_region fun K17 hK18 => ?_
    refine RL.val  hF rfl rfl rfl (r_assign hF rfl rfl) ?_; clear hF; clear a; intro a hF
    refine RL.nil (hK18 _ _ ?_)
    clear hK18 K17
    refine wp_ret ?_
    exact ret_of hF (res1 hF rfl rfl) ⟨_, rfl, h⟩
  · replace h := hf hc; clear ht hf
    refine wp_skip ?_
    exact jn8 () _ _ (hF.sub rfl) h

set_option maxRecDepth 20000 in
theorem br19 {a0 : Option Addr} {a1 : Slc} {w : World} {K : Option Addr → World → Prop} (h : sh19 a0 a1 w K) : C19 a0 a1 w K := by
  unfold sh19 at h
  refine enter (n := 34) (l := [(0, .pointer a0), (1, a1.v)]) 32 Tryd.func19 rfl _ rfl rfl rfl fun a hF => ?_
  refine seq_region fun K1 hK2 => ?_
  obtain ⟨p3, w4, hp_, hw_, h⟩ := h
  refine RL.val (v := .pointer (some p3)) (w' := w4) hF rfl rfl rfl (by rw [hp_, hw_]; exact r_box hF rfl rfl rfl) ?_; clear hF; clear a; intro a hF
  refine RL.val  hF rfl rfl rfl (r_assign hF rfl rfl) ?_; clear hF; clear a; intro a hF
  refine RL.nil (hK2 _ _ ?_)
  clear hK2 K1
  refine seq_draw 7488 #[0, 0, 2, 6, 14, 30, 62, 0, 128, 511, 1023, 0, 4095] 13 mo rfl (by kernel_rfl) (by kernel_rfl) fun hS K5 hK6 => ?_
  obtain ⟨w7, hw, h⟩ := h; rw [← hw]; clear hw
  obtain ⟨J10, hJ, h⟩ := jn_open h
  have jn11 : ∀ (v8 : Option Addr) (w9 : World) a, Fr 34 a [(2, .pointer (some p3)), (5, .pointer v8)] → J10 v8 w9 → K5 a w9 := by
    clear hF
    intro v8 w9 a hF h; replace h := hJ _ _ h; refine hK6 _ _ ?_; clear hJ hK6 K5
    refine seq_region fun K12 hK13 => ?_
    obtain ⟨p15, hpp15, h⟩ := h
    obtain ⟨t14, hct14, h⟩ := h
    refine RL.val  hF rfl rfl rfl (r_load hF rfl (lkp rfl hpp15) Tryd.isAgg58 hct14) ?_; clear hF; clear a; intro a hF
    obtain ⟨p16, hpp16, h⟩ := h
    refine RL.val  hF rfl rfl rfl (r_nilCheck hF rfl (lkp rfl hpp16)) ?_; clear hF; clear a; intro a hF
    refine RL.val  hF rfl rfl rfl (r_fieldAddr hF rfl rfl Tryd.runUnderlying62 rfl Tryd.sizeOf60 rfl) ?_; clear hF; clear a; intro a hF
    obtain ⟨t17, hct17, h⟩ := h
    refine RL.val  hF rfl rfl rfl (r_load hF rfl rfl Tryd.isAgg60 hct17) ?_; clear hF; clear a; intro a hF
    obtain ⟨b19, p18, hb_, h0_, h1_, hp_, h⟩ := h
    refine RL.val (v := .pointer (some p18)) (w' := w9) hF rfl rfl rfl (by rw [hp_]; exact r_indexAddr hF rfl (lks rfl hb_) rfl Tryd.runUnderlying60 Tryd.sizeOf4 h0_ h1_) ?_; clear hF; clear a; intro a hF
    obtain ⟨u_, w20, hs1_, hs2_, hs3_, h⟩ := h
    refine RL.unit (w' := w20) hF rfl rfl (by rw [hs3_]; exact r_store hF rfl rfl rfl rfl Tryd.sizeOf4 hs1_ hs2_) ?_; clear hF; clear a; intro a hF
    refine RL.nil (hK13 _ _ ?_)
    clear hK13 K12
    refine seq_region fun K21 hK22 => ?_
    obtain ⟨t23, hct23, h⟩ := h
    refine RL.val  hF rfl rfl rfl (r_load hF rfl rfl Tryd.isAgg23 hct23) ?_; clear hF; clear a; intro a hF
    obtain ⟨p24, hpp24, h⟩ := h
    refine RL.val  hF rfl rfl rfl (r_nilCheck hF rfl (lkp rfl hpp24)) ?_; clear hF; clear a; intro a hF
    refine RL.val  hF rfl rfl rfl (r_fieldAddr0 hF rfl rfl Tryd.runUnderlying52 rfl Tryd.sizeOf50 rfl) ?_; clear hF; clear a; intro a hF
    obtain ⟨t25, hct25, h⟩ := h
    refine RL.val  hF rfl rfl rfl (r_load hF rfl rfl Tryd.isAgg50 hct25) ?_; clear hF; clear a; intro a hF
    refine RL.val  hF rfl rfl rfl (r_len_slice hF rfl rfl Tryd.runUnderlying50) ?_; clear hF; clear a; intro a hF
    obtain ⟨t26, w27, hc_, h⟩ := h
    refine RL.val  hF rfl rfl rfl (r_makeSlice hF rfl rfl rfl hc_) ?_; clear hF; clear a; intro a hF
    obtain ⟨p28, w29, hp_, hw_, h⟩ := h
    refine RL.val (v := .pointer (some p28)) (w' := w29) hF rfl rfl rfl (by rw [hp_, hw_]; exact r_alloc rfl Tryd.zeroValue60 rfl) ?_; clear hF; clear a; intro a hF
    obtain ⟨u_, w30, hs1_, hs2_, hs3_, h⟩ := h
    refine RL.unit (w' := w30) hF rfl rfl (by rw [hs3_]; exact r_store hF rfl rfl rfl rfl Tryd.sizeOf60 hs1_ hs2_) ?_; clear hF; clear a; intro a hF
    refine RL.nil (hK22 _ _ ?_)
    clear hK22 K21
    refine seq_region fun K31 hK32 => ?_
    refine RL.val  hF rfl rfl rfl (r_makeFunc (xs := []) (ys := [.pointer v8, .pointer (some p3), .pointer (some p28)]) hF rfl rfl rfl) ?_; clear hF; clear a; intro a hF
    refine RL.val  hF rfl rfl rfl (r_assign hF rfl rfl) ?_; clear hF; clear a; intro a hF
    refine RL.nil (hK32 _ _ ?_)
    clear hK32 K31
    refine seq_k fun K33 hK34 => ?_
    obtain ⟨J, hJ, h⟩ := jn_open h
    have jn38 : ∀ (v35 : Unit) (w36 : World) a, Fr 34 a [(5, .pointer v8)] → J v35 w36 → K33 a w36 := by
      intro v35 w36 a hF h
      replace h := hJ _ _ h
      clear hJ
      refine hK34 _ _ ?_
      refine seq_region fun K39 hK40 => ?_
      obtain ⟨p42, hpp42, h⟩ := h
      obtain ⟨t41, hct41, h⟩ := h
      refine RL.val  hF rfl rfl rfl (r_load hF rfl (lkp rfl hpp42) Tryd.isAgg58 hct41) ?_; clear hF; clear a; intro a hF
      refine RL.val  hF rfl rfl rfl (r_assign hF rfl rfl) ?_; clear hF; clear a; intro a hF
      refine RL.nil (hK40 _ _ ?_)
      clear hK40 K39
      refine wp_ret ?_
      exact ret_of hF (res1 hF rfl rfl) ⟨_, rfl, h⟩
    clear hJ
    refine wp_block ?_
    refine loop_ (fun (s43 : Unit) => [(5, .pointer v8), (7, (Value.func (Fn.func 52) #[] #[.pointer v8, .pointer (some p3), .pointer (some p28)]))]) (hF.sub rfl) h ?_
    clear hF h
    intro s43 w44 N45 KL hN46 h a hF
    refine seq_k fun K47 hK48 => ?_
    obtain ⟨J, hJ, h⟩ := jn_open h
    have jn52 : ∀ (v49 : Unit) (w50 : World) a, Fr 34 a [(5, .pointer v8), (7, (Value.func (Fn.func 52) #[] #[.pointer v8, .pointer (some p3), .pointer (some p28)]))] → J v49 w50 → K47 a w50 := by
      intro v49 w50 a hF h
      replace h := hJ _ _ h
      clear hJ
      refine hK48 _ _ ?_
      refine wp_block ?_
      refine wp_skip ?_
      exact hN46 () _ _ (hF.sub rfl) h
    clear hJ
    refine seq_region fun K53 hK54 => ?_
    refine RL.val  hF rfl rfl rfl (r_move hF rfl rfl) ?_; clear hF; clear a; intro a hF
    obtain ⟨f57, x58, y59, hf_, hg_, h⟩ := h
    refine RL.call hF rfl rfl rfl (r_callV (xs := []) hF rfl (by rw [← hf_]; rfl) rfl hg_) (CallsV.mono h ?_)
    clear h; rintro _ w55 ⟨r56, rfl, h⟩; clear hF; clear a; intro a hF
    refine RL.nil (hK54 _ _ ?_)
    clear hK54 K53
    obtain ⟨ht, hf⟩ := h
    refine cond_ hF rfl (fun hc => ?_) (fun hc => ?_)
    · replace h := ht hc; clear ht hf
      refine wp_skip ?_
      exact jn52 () _ _ (hF.sub rfl) h
    · replace h := hf hc; clear ht hf
      refine wp_exit ?_
      exact jn38 () _ _ (hF.sub rfl) h
  clear hJ hK6
  obtain ⟨t60, hct60, h⟩ := h
  refine GL.read (v := .pointer t60) (i := 0) hF (fun x => World.cell? x p3 = some (.pointer t60)) hS rfl rfl (by kernel_rfl) rfl rfl rfl rfl hct60 (fun x hx => r_load hF rfl rfl Tryd.isAgg23 hx) ?_; clear hF; clear a; intro a hF
  obtain ⟨t61, hct61, h⟩ := h
  refine GL.read (v := .pointer t61) (i := 1) hF (fun x => World.cell? x p3 = some (.pointer t61)) hS rfl rfl (by kernel_rfl) rfl rfl rfl rfl hct61 (fun x hx => r_load hF rfl rfl Tryd.isAgg23 hx) ?_; clear hF; clear a; intro a hF
  obtain ⟨p62, hpp62, h⟩ := h
  refine GL.val (v := .pointer (some p62)) (i := 2) hF hS rfl rfl (by kernel_rfl) rfl rfl rfl rfl (fun x => r_nilCheck hF rfl (lkp rfl hpp62)) ?_; clear hF; clear a; intro a hF
  refine GL.val (v := .pointer (some p62)) (i := 3) hF hS rfl rfl (by kernel_rfl) rfl rfl rfl rfl (fun x => r_fieldAddr0 hF rfl rfl Tryd.runUnderlying52 rfl Tryd.sizeOf50 rfl) ?_; clear hF; clear a; intro a hF
  obtain ⟨t63, hct63, h⟩ := h
  refine GL.read (v := t63.v) (i := 4) hF (fun x => World.cell? x p62 = some (t63.v)) hS rfl rfl (by kernel_rfl) rfl rfl rfl rfl hct63 (fun x hx => r_load hF rfl rfl Tryd.isAgg50 hx) ?_; clear hF; clear a; intro a hF
  refine GL.val (v := .int .i64 (t63.len : Int)) (i := 5) hF hS rfl rfl (by kernel_rfl) rfl rfl rfl rfl (fun x => r_len_slice hF rfl rfl Tryd.runUnderlying50) ?_; clear hF; clear a; intro a hF
  refine GL.val (v := a1.v) (i := 7) hF hS rfl rfl (by kernel_rfl) rfl rfl rfl rfl (fun x => r_move hF rfl rfl) ?_; clear hF; clear a; intro a hF
  obtain ⟨hb64, hb65, hb66⟩ := h
  refine GL.act3 (i1 := 6) (pend1 := [(0, fun x => World.cell? x p3 = some (.pointer t60))]) (i2 := 8) (pend2 := [(4, fun x => World.cell? x p62 = some (t63.v)), (1, fun x => World.cell? x p3 = some (.pointer t61)), (0, fun x => World.cell? x p3 = some (.pointer t60))]) (i3 := 11) (pend3 := [(4, fun x => World.cell? x p62 = some (t63.v)), (1, fun x => World.cell? x p3 = some (.pointer t61)), (0, fun x => World.cell? x p3 = some (.pointer t60))]) hS (by kernel_rfl) rfl rfl rfl (by kernel_rfl) (by kernel_rfl) (by kernel_rfl) ?_ ?_ ?_
  · replace h := hb64; clear hb65 hb66
    obtain ⟨t67, w68, hc_, h⟩ := h
    obtain ⟨hk69, h⟩ := h
    refine op_val  hF rfl rfl rfl rfl (r_makeSlice hF rfl rfl rfl hc_) ⟨hk69, trivial⟩ ?_; clear hF; clear a; intro a hF
    obtain ⟨hb70, hb71⟩ := h
    refine GL.act2 (i1 := 8) (pend1 := [(0, fun x => World.cell? x p3 = some (.pointer t60))]) (i2 := 11) (pend2 := [(0, fun x => World.cell? x p3 = some (.pointer t60))]) hS (by kernel_rfl) rfl rfl (by kernel_rfl) (by kernel_rfl) ?_ ?_
    · replace h := hb70; clear hb71
      refine op_call hF rfl rfl rfl rfl (r_call (xs := [a1.v]) hF rfl rfl Tryd.call51) (CallsV.mono h ?_)
      clear h; rintro _ w72 ⟨r73, rfl, h⟩
      obtain ⟨hk74, h⟩ := h
      refine ⟨⟨hk74, trivial⟩, ?_⟩; clear hF; clear a; intro a hF
      refine GL.val (v := .agg (#[.pointer t60, t67.v, r73.v])) (i := 9) hF hS rfl rfl (by kernel_rfl) rfl rfl rfl rfl (fun x => r_build (xs := [(0, .pointer t60), (1, t67.v), (2, r73.v)]) hF rfl rfl (by kernel_rfl)) ?_; clear hF; clear a; intro a hF
      obtain ⟨hb75, hb76⟩ := h
      refine GL.act2 (i1 := 10) (pend1 := []) (i2 := 11) (pend2 := [(0, fun x => World.cell? x p3 = some (.pointer t60))]) hS (by kernel_rfl) rfl rfl (by kernel_rfl) (by kernel_rfl) ?_ ?_
      · replace h := hb75; clear hb76
        obtain ⟨p77, w78, hp_, hw_, h⟩ := h
        refine op_val (v := .pointer (some p77)) (w' := w78) hF rfl rfl rfl rfl (by rw [hp_, hw_]; exact r_box hF rfl rfl rfl) trivial ?_; clear hF; clear a; intro a hF
        refine GL.act (i := 11) (pend' := []) hS (by kernel_rfl) rfl (by kernel_rfl) ?_
        obtain ⟨p79, w80, hp_, hw_, h⟩ := h
        refine op_val (v := .pointer (some p79)) (w' := w80) hF rfl rfl rfl rfl (by rw [hp_, hw_]; exact r_alloc rfl Tryd.zeroValue58 rfl) trivial ?_; clear hF; clear a; intro a hF
        refine GL.act (i := 12) (pend' := []) hS (by kernel_rfl) rfl (by kernel_rfl) ?_
        obtain ⟨u_, w81, hs1_, hs2_, hs3_, h⟩ := h
        refine op_unit (w' := w81) hF rfl rfl rfl (by rw [hs3_]; exact r_store hF rfl rfl rfl rfl Tryd.sizeOf58 hs1_ hs2_) trivial ?_; clear hF; clear a; intro a hF
        refine GL.done (by kernel_rfl) ?_
        exact jn11 (some p79) _ _ (hF.sub rfl) h
      · replace h := hb76; clear hb75
        obtain ⟨p82, w83, hp_, hw_, h⟩ := h
        obtain ⟨hk84, h⟩ := h
        refine op_val (v := .pointer (some p82)) (w' := w83) hF rfl rfl rfl rfl (by rw [hp_, hw_]; exact r_alloc rfl Tryd.zeroValue58 rfl) ⟨hk84, trivial⟩ ?_; clear hF; clear a; intro a hF
        refine GL.act (i := 10) (pend' := []) hS (by kernel_rfl) rfl (by kernel_rfl) ?_
        obtain ⟨p85, w86, hp_, hw_, h⟩ := h
        refine op_val (v := .pointer (some p85)) (w' := w86) hF rfl rfl rfl rfl (by rw [hp_, hw_]; exact r_box hF rfl rfl rfl) trivial ?_; clear hF; clear a; intro a hF
        refine GL.act (i := 12) (pend' := []) hS (by kernel_rfl) rfl (by kernel_rfl) ?_
        obtain ⟨u_, w87, hs1_, hs2_, hs3_, h⟩ := h
        refine op_unit (w' := w87) hF rfl rfl rfl (by rw [hs3_]; exact r_store hF rfl rfl rfl rfl Tryd.sizeOf58 hs1_ hs2_) trivial ?_; clear hF; clear a; intro a hF
        refine GL.done (by kernel_rfl) ?_
        exact jn11 (some p82) _ _ (hF.sub rfl) h
    · replace h := hb71; clear hb70
      obtain ⟨p88, w89, hp_, hw_, h⟩ := h
      obtain ⟨hk90, h⟩ := h
      refine op_val (v := .pointer (some p88)) (w' := w89) hF rfl rfl rfl rfl (by rw [hp_, hw_]; exact r_alloc rfl Tryd.zeroValue58 rfl) ⟨hk90, trivial⟩ ?_; clear hF; clear a; intro a hF
      refine GL.act (i := 8) (pend' := [(0, fun x => World.cell? x p3 = some (.pointer t60))]) hS (by kernel_rfl) rfl (by kernel_rfl) ?_
      refine op_call hF rfl rfl rfl rfl (r_call (xs := [a1.v]) hF rfl rfl Tryd.call51) (CallsV.mono h ?_)
      clear h; rintro _ w91 ⟨r92, rfl, h⟩
      obtain ⟨hk93, h⟩ := h
      refine ⟨⟨hk93, trivial⟩, ?_⟩; clear hF; clear a; intro a hF
      refine GL.val (v := .agg (#[.pointer t60, t67.v, r92.v])) (i := 9) hF hS rfl rfl (by kernel_rfl) rfl rfl rfl rfl (fun x => r_build (xs := [(0, .pointer t60), (1, t67.v), (2, r92.v)]) hF rfl rfl (by kernel_rfl)) ?_; clear hF; clear a; intro a hF
      refine GL.act (i := 10) (pend' := []) hS (by kernel_rfl) rfl (by kernel_rfl) ?_
      obtain ⟨p94, w95, hp_, hw_, h⟩ := h
      refine op_val (v := .pointer (some p94)) (w' := w95) hF rfl rfl rfl rfl (by rw [hp_, hw_]; exact r_box hF rfl rfl rfl) trivial ?_; clear hF; clear a; intro a hF
      refine GL.act (i := 12) (pend' := []) hS (by kernel_rfl) rfl (by kernel_rfl) ?_
      obtain ⟨u_, w96, hs1_, hs2_, hs3_, h⟩ := h
      refine op_unit (w' := w96) hF rfl rfl rfl (by rw [hs3_]; exact r_store hF rfl rfl rfl rfl Tryd.sizeOf58 hs1_ hs2_) trivial ?_; clear hF; clear a; intro a hF
      refine GL.done (by kernel_rfl) ?_
      exact jn11 (some p88) _ _ (hF.sub rfl) h
  · replace h := hb65; clear hb64 hb66
    refine op_call hF rfl rfl rfl rfl (r_call (xs := [a1.v]) hF rfl rfl Tryd.call51) (CallsV.mono h ?_)
    clear h; rintro _ w97 ⟨r98, rfl, h⟩
    obtain ⟨hk99, hk100, hk101, h⟩ := h
    refine ⟨⟨hk99, hk100, hk101, trivial⟩, ?_⟩; clear hF; clear a; intro a hF
    obtain ⟨hb102, hb103⟩ := h
    refine GL.act2 (i1 := 6) (pend1 := [(0, fun x => World.cell? x p3 = some (.pointer t60))]) (i2 := 11) (pend2 := [(4, fun x => World.cell? x p62 = some (t63.v)), (1, fun x => World.cell? x p3 = some (.pointer t61)), (0, fun x => World.cell? x p3 = some (.pointer t60))]) hS (by kernel_rfl) rfl rfl (by kernel_rfl) (by kernel_rfl) ?_ ?_
    · replace h := hb102; clear hb103
      obtain ⟨t104, w105, hc_, h⟩ := h
      obtain ⟨hk106, h⟩ := h
      refine op_val  hF rfl rfl rfl rfl (r_makeSlice hF rfl rfl rfl hc_) ⟨hk106, trivial⟩ ?_; clear hF; clear a; intro a hF
      refine GL.val (v := .agg (#[.pointer t60, t104.v, r98.v])) (i := 9) hF hS rfl rfl (by kernel_rfl) rfl rfl rfl rfl (fun x => r_build (xs := [(0, .pointer t60), (1, t104.v), (2, r98.v)]) hF rfl rfl (by kernel_rfl)) ?_; clear hF; clear a; intro a hF
      obtain ⟨hb107, hb108⟩ := h
      refine GL.act2 (i1 := 10) (pend1 := []) (i2 := 11) (pend2 := [(0, fun x => World.cell? x p3 = some (.pointer t60))]) hS (by kernel_rfl) rfl rfl (by kernel_rfl) (by kernel_rfl) ?_ ?_
      · replace h := hb107; clear hb108
        obtain ⟨p109, w110, hp_, hw_, h⟩ := h
        refine op_val (v := .pointer (some p109)) (w' := w110) hF rfl rfl rfl rfl (by rw [hp_, hw_]; exact r_box hF rfl rfl rfl) trivial ?_; clear hF; clear a; intro a hF
        refine GL.act (i := 11) (pend' := []) hS (by kernel_rfl) rfl (by kernel_rfl) ?_
        obtain ⟨p111, w112, hp_, hw_, h⟩ := h
        refine op_val (v := .pointer (some p111)) (w' := w112) hF rfl rfl rfl rfl (by rw [hp_, hw_]; exact r_alloc rfl Tryd.zeroValue58 rfl) trivial ?_; clear hF; clear a; intro a hF
        refine GL.act (i := 12) (pend' := []) hS (by kernel_rfl) rfl (by kernel_rfl) ?_
        obtain ⟨u_, w113, hs1_, hs2_, hs3_, h⟩ := h
        refine op_unit (w' := w113) hF rfl rfl rfl (by rw [hs3_]; exact r_store hF rfl rfl rfl rfl Tryd.sizeOf58 hs1_ hs2_) trivial ?_; clear hF; clear a; intro a hF
        refine GL.done (by kernel_rfl) ?_
        exact jn11 (some p111) _ _ (hF.sub rfl) h
      · replace h := hb108; clear hb107
        obtain ⟨p114, w115, hp_, hw_, h⟩ := h
        obtain ⟨hk116, h⟩ := h
        refine op_val (v := .pointer (some p114)) (w' := w115) hF rfl rfl rfl rfl (by rw [hp_, hw_]; exact r_alloc rfl Tryd.zeroValue58 rfl) ⟨hk116, trivial⟩ ?_; clear hF; clear a; intro a hF
        refine GL.act (i := 10) (pend' := []) hS (by kernel_rfl) rfl (by kernel_rfl) ?_
        obtain ⟨p117, w118, hp_, hw_, h⟩ := h
        refine op_val (v := .pointer (some p117)) (w' := w118) hF rfl rfl rfl rfl (by rw [hp_, hw_]; exact r_box hF rfl rfl rfl) trivial ?_; clear hF; clear a; intro a hF
        refine GL.act (i := 12) (pend' := []) hS (by kernel_rfl) rfl (by kernel_rfl) ?_
        obtain ⟨u_, w119, hs1_, hs2_, hs3_, h⟩ := h
        refine op_unit (w' := w119) hF rfl rfl rfl (by rw [hs3_]; exact r_store hF rfl rfl rfl rfl Tryd.sizeOf58 hs1_ hs2_) trivial ?_; clear hF; clear a; intro a hF
        refine GL.done (by kernel_rfl) ?_
        exact jn11 (some p114) _ _ (hF.sub rfl) h
    · replace h := hb103; clear hb102
      obtain ⟨p120, w121, hp_, hw_, h⟩ := h
      obtain ⟨hk122, hk123, hk124, h⟩ := h
      refine op_val (v := .pointer (some p120)) (w' := w121) hF rfl rfl rfl rfl (by rw [hp_, hw_]; exact r_alloc rfl Tryd.zeroValue58 rfl) ⟨hk122, hk123, hk124, trivial⟩ ?_; clear hF; clear a; intro a hF
      refine GL.act (i := 6) (pend' := [(0, fun x => World.cell? x p3 = some (.pointer t60))]) hS (by kernel_rfl) rfl (by kernel_rfl) ?_
      obtain ⟨t125, w126, hc_, h⟩ := h
      obtain ⟨hk127, h⟩ := h
      refine op_val  hF rfl rfl rfl rfl (r_makeSlice hF rfl rfl rfl hc_) ⟨hk127, trivial⟩ ?_; clear hF; clear a; intro a hF
      refine GL.val (v := .agg (#[.pointer t60, t125.v, r98.v])) (i := 9) hF hS rfl rfl (by kernel_rfl) rfl rfl rfl rfl (fun x => r_build (xs := [(0, .pointer t60), (1, t125.v), (2, r98.v)]) hF rfl rfl (by kernel_rfl)) ?_; clear hF; clear a; intro a hF
      refine GL.act (i := 10) (pend' := []) hS (by kernel_rfl) rfl (by kernel_rfl) ?_
      obtain ⟨p128, w129, hp_, hw_, h⟩ := h
      refine op_val (v := .pointer (some p128)) (w' := w129) hF rfl rfl rfl rfl (by rw [hp_, hw_]; exact r_box hF rfl rfl rfl) trivial ?_; clear hF; clear a; intro a hF
      refine GL.act (i := 12) (pend' := []) hS (by kernel_rfl) rfl (by kernel_rfl) ?_
      obtain ⟨u_, w130, hs1_, hs2_, hs3_, h⟩ := h
      refine op_unit (w' := w130) hF rfl rfl rfl (by rw [hs3_]; exact r_store hF rfl rfl rfl rfl Tryd.sizeOf58 hs1_ hs2_) trivial ?_; clear hF; clear a; intro a hF
      refine GL.done (by kernel_rfl) ?_
      exact jn11 (some p120) _ _ (hF.sub rfl) h
  · replace h := hb66; clear hb64 hb65
    obtain ⟨p131, w132, hp_, hw_, h⟩ := h
    obtain ⟨hk133, hk134, hk135, h⟩ := h
    refine op_val (v := .pointer (some p131)) (w' := w132) hF rfl rfl rfl rfl (by rw [hp_, hw_]; exact r_alloc rfl Tryd.zeroValue58 rfl) ⟨hk133, hk134, hk135, trivial⟩ ?_; clear hF; clear a; intro a hF
    obtain ⟨hb136, hb137⟩ := h
    refine GL.act2 (i1 := 6) (pend1 := [(0, fun x => World.cell? x p3 = some (.pointer t60))]) (i2 := 8) (pend2 := [(4, fun x => World.cell? x p62 = some (t63.v)), (1, fun x => World.cell? x p3 = some (.pointer t61)), (0, fun x => World.cell? x p3 = some (.pointer t60))]) hS (by kernel_rfl) rfl rfl (by kernel_rfl) (by kernel_rfl) ?_ ?_
    · replace h := hb136; clear hb137
      obtain ⟨t138, w139, hc_, h⟩ := h
      obtain ⟨hk140, h⟩ := h
      refine op_val  hF rfl rfl rfl rfl (r_makeSlice hF rfl rfl rfl hc_) ⟨hk140, trivial⟩ ?_; clear hF; clear a; intro a hF
      refine GL.act (i := 8) (pend' := [(0, fun x => World.cell? x p3 = some (.pointer t60))]) hS (by kernel_rfl) rfl (by kernel_rfl) ?_
      refine op_call hF rfl rfl rfl rfl (r_call (xs := [a1.v]) hF rfl rfl Tryd.call51) (CallsV.mono h ?_)
      clear h; rintro _ w141 ⟨r142, rfl, h⟩
      obtain ⟨hk143, h⟩ := h
      refine ⟨⟨hk143, trivial⟩, ?_⟩; clear hF; clear a; intro a hF
      refine GL.val (v := .agg (#[.pointer t60, t138.v, r142.v])) (i := 9) hF hS rfl rfl (by kernel_rfl) rfl rfl rfl rfl (fun x => r_build (xs := [(0, .pointer t60), (1, t138.v), (2, r142.v)]) hF rfl rfl (by kernel_rfl)) ?_; clear hF; clear a; intro a hF
      refine GL.act (i := 10) (pend' := []) hS (by kernel_rfl) rfl (by kernel_rfl) ?_
      obtain ⟨p144, w145, hp_, hw_, h⟩ := h
      refine op_val (v := .pointer (some p144)) (w' := w145) hF rfl rfl rfl rfl (by rw [hp_, hw_]; exact r_box hF rfl rfl rfl) trivial ?_; clear hF; clear a; intro a hF
      refine GL.act (i := 12) (pend' := []) hS (by kernel_rfl) rfl (by kernel_rfl) ?_
      obtain ⟨u_, w146, hs1_, hs2_, hs3_, h⟩ := h
      refine op_unit (w' := w146) hF rfl rfl rfl (by rw [hs3_]; exact r_store hF rfl rfl rfl rfl Tryd.sizeOf58 hs1_ hs2_) trivial ?_; clear hF; clear a; intro a hF
      refine GL.done (by kernel_rfl) ?_
      exact jn11 (some p131) _ _ (hF.sub rfl) h
    · replace h := hb137; clear hb136
      refine op_call hF rfl rfl rfl rfl (r_call (xs := [a1.v]) hF rfl rfl Tryd.call51) (CallsV.mono h ?_)
      clear h; rintro _ w147 ⟨r148, rfl, h⟩
      obtain ⟨hk149, hk150, hk151, h⟩ := h
      refine ⟨⟨hk149, hk150, hk151, trivial⟩, ?_⟩; clear hF; clear a; intro a hF
      refine GL.act (i := 6) (pend' := [(0, fun x => World.cell? x p3 = some (.pointer t60))]) hS (by kernel_rfl) rfl (by kernel_rfl) ?_
      obtain ⟨t152, w153, hc_, h⟩ := h
      obtain ⟨hk154, h⟩ := h
      refine op_val  hF rfl rfl rfl rfl (r_makeSlice hF rfl rfl rfl hc_) ⟨hk154, trivial⟩ ?_; clear hF; clear a; intro a hF
      refine GL.val (v := .agg (#[.pointer t60, t152.v, r148.v])) (i := 9) hF hS rfl rfl (by kernel_rfl) rfl rfl rfl rfl (fun x => r_build (xs := [(0, .pointer t60), (1, t152.v), (2, r148.v)]) hF rfl rfl (by kernel_rfl)) ?_; clear hF; clear a; intro a hF
      refine GL.act (i := 10) (pend' := []) hS (by kernel_rfl) rfl (by kernel_rfl) ?_
      obtain ⟨p155, w156, hp_, hw_, h⟩ := h
      refine op_val (v := .pointer (some p155)) (w' := w156) hF rfl rfl rfl rfl (by rw [hp_, hw_]; exact r_box hF rfl rfl rfl) trivial ?_; clear hF; clear a; intro a hF
      refine GL.act (i := 12) (pend' := []) hS (by kernel_rfl) rfl (by kernel_rfl) ?_
      obtain ⟨u_, w157, hs1_, hs2_, hs3_, h⟩ := h
      refine op_unit (w' := w157) hF rfl rfl rfl (by rw [hs3_]; exact r_store hF rfl rfl rfl rfl Tryd.sizeOf58 hs1_ hs2_) trivial ?_; clear hF; clear a; intro a hF
      refine GL.done (by kernel_rfl) ?_
      exact jn11 (some p131) _ _ (hF.sub rfl) h

set_option maxRecDepth 20000 in
theorem br9 {a0 : Option Addr} {a1 : Slc} {w : World} {K : Slc → World → Prop} (h : sh9 a0 a1 w K) : C9 a0 a1 w K := by
  unfold sh9 at h
  refine enter (n := 54) (l := [(0, .pointer a0), (1, a1.v)]) 52 Tryd.func9 rfl _ rfl rfl rfl fun a hF => ?_
  refine seq_region fun K1 hK2 => ?_
  refine RL.val  hF rfl rfl rfl (r_assign hF rfl rfl) ?_; clear hF; clear a; intro a hF
  refine RL.nil (hK2 _ _ ?_)
  clear hK2 K1
  refine seq_k fun K3 hK4 => ?_
  obtain ⟨J, hJ, h⟩ := jn_open h
  have jn8 : ∀ (v5 : Unit) (w6 : World) a, Fr 54 a [(0, .pointer a0), (1, a1.v)] → J v5 w6 → K3 a w6 := by
    intro v5 w6 a hF h
    replace h := hJ _ _ h
    clear hJ
    refine hK4 _ _ ?_
    refine seq_region fun K9 hK10 => ?_
    refine RL.val  hF rfl rfl rfl (r_move hF rfl rfl) ?_; clear hF; clear a; intro a hF
    refine RL.val  hF rfl rfl rfl (r_move hF rfl rfl) ?_; clear hF; clear a; intro a hF
    refine RL.call hF rfl rfl rfl (r_call (xs := [.pointer a0, a1.v]) hF rfl rfl Tryd.call19) (CallsV.mono h ?_)
    clear h; rintro _ w11 ⟨r12, rfl, h⟩; clear hF; clear a; intro a hF
    refine RL.val  hF rfl rfl rfl (r_assign hF rfl rfl) ?_; clear hF; clear a; intro a hF
    refine RL.nil (hK10 _ _ ?_)
    clear hK10 K9
    refine seq_region fun K13 hK14 => ?_
    refine RL.val  hF rfl rfl rfl (r_assign hF rfl rfl) ?_; clear hF; clear a; intro a hF
    refine RL.nil (hK14 _ _ ?_)
    clear hK14 K13
    refine seq_k fun K15 hK16 => ?_
    obtain ⟨J, hJ, h⟩ := jn_open h
    have jn20 : ∀ (v17 : Slc) (w18 : World) a, Fr 54 a [(6, v17.v)] → J v17 w18 → K15 a w18 := by
      intro v17 w18 a hF h
      replace h := hJ _ _ h
      clear hJ
      refine hK16 _ _ ?_
      refine seq_region fun K21 hK22 => ?_
      refine RL.val  hF rfl rfl rfl (r_move hF rfl rfl) ?_; clear hF; clear a; intro a hF
      refine RL.val  hF rfl rfl rfl (r_assign hF rfl rfl) ?_; clear hF; clear a; intro a hF
      refine RL.nil (hK22 _ _ ?_)
      clear hK22 K21
      refine wp_ret ?_
      exact ret_of hF (res1 hF rfl rfl) ⟨_, rfl, h⟩
    clear hJ
    refine seq_region fun K23 hK24 => ?_
    refine RL.val  hF rfl rfl rfl (r_move hF rfl rfl) ?_; clear hF; clear a; intro a hF
    obtain ⟨p25, hpp25, h⟩ := h
    refine RL.val  hF rfl rfl rfl (r_nilCheck hF rfl (lkp rfl hpp25)) ?_; clear hF; clear a; intro a hF
    refine RL.val  hF rfl rfl rfl (r_fieldAddr0 hF rfl rfl Tryd.runUnderlying52 rfl Tryd.sizeOf50 rfl) ?_; clear hF; clear a; intro a hF
    obtain ⟨t26, hct26, h⟩ := h
    refine RL.val  hF rfl rfl rfl (r_load hF rfl rfl Tryd.isAgg50 hct26) ?_; clear hF; clear a; intro a hF
    refine RL.val  hF rfl rfl rfl (r_len_slice hF rfl rfl Tryd.runUnderlying50) ?_; clear hF; clear a; intro a hF
    refine RL.val  hF rfl rfl rfl (r_move hF rfl rfl) ?_; clear hF; clear a; intro a hF
    refine RL.nil (hK24 _ _ ?_)
    clear hK24 K23
    refine wp_block ?_
    refine loop_ (fun (s27 : Slc × Int) => [(5, .pointer r12), (6, s27.1.v), (17, t26.v), (18, .int .i64 (t26.len : Int)), (19, .int .i64 s27.2)]) (hF.sub rfl) h ?_
    clear hF h
    intro s27 w28 N29 KL hN30 h a hF
    refine seq_region fun K31 hK32 => ?_
    refine RL.val  hF rfl rfl rfl (r_lss hF rfl rfl rfl) ?_; clear hF; clear a; intro a hF
    refine RL.nil (hK32 _ _ ?_)
    clear hK32 K31
    refine seq_k fun K33 hK34 => ?_
    obtain ⟨J, hJ, h⟩ := jn_open h
    have jn38 : ∀ (v35 : Unit) (w36 : World) a, Fr 54 a [(5, .pointer r12), (6, s27.1.v), (17, t26.v), (18, .int .i64 (t26.len : Int)), (19, .int .i64 s27.2)] → J v35 w36 → K33 a w36 := by
      intro v35 w36 a hF h
      replace h := hJ _ _ h
      clear hJ
      refine hK34 _ _ ?_
      refine seq_k fun K39 hK40 => ?_
      obtain ⟨J, hJ, h⟩ := jn_open h
      have jn44 : ∀ (v41 : Slc) (w42 : World) a, Fr 54 a [(5, .pointer r12), (6, v41.v), (17, t26.v), (18, .int .i64 (t26.len : Int)), (19, .int .i64 s27.2)] → J v41 w42 → K39 a w42 := by
        intro v41 w42 a hF h
        replace h := hJ _ _ h
        clear hJ
        refine hK40 _ _ ?_
        refine end_region fun K45 hK46 => ?_
        refine RL.val  hF rfl rfl rfl (r_add hF rfl rfl rfl) ?_; clear hF; clear a; intro a hF
        refine RL.val  hF rfl rfl rfl (r_move hF rfl rfl) ?_; clear hF; clear a; intro a hF
        refine RL.nil (hK46 _ _ ?_)
        clear hK46 K45
        exact hN30 (v41, IntKind.i64.wrap (s27.2 + 1)) _ _ (hF.sub rfl) h
      clear hJ
      refine wp_block ?_
      refine seq_region fun K47 hK48 => ?_
      refine RL.val  hF rfl rfl rfl (r_move hF rfl rfl) ?_; clear hF; clear a; intro a hF
      obtain ⟨b50, p49, hb_, h0_, h1_, hp_, h⟩ := h
      refine RL.val (v := .pointer (some p49)) (w' := w36) hF rfl rfl rfl (by rw [hp_]; exact r_indexAddr hF rfl (lks rfl hb_) rfl Tryd.runUnderlying50 Tryd.sizeOf55 h0_ h1_) ?_; clear hF; clear a; intro a hF
      obtain ⟨t51, hct51, h⟩ := h
      refine RL.val  hF rfl rfl rfl (r_loadA hF rfl rfl Tryd.isAgg55 Tryd.sizeOf55 hct51) ?_; clear hF; clear a; intro a hF
      obtain ⟨p52, w53, hp_, hw_, h⟩ := h
      refine RL.val (v := .pointer (some p52)) (w' := w53) hF rfl rfl rfl (by rw [hp_, hw_]; exact r_alloc rfl Tryd.zeroValue55 rfl) ?_; clear hF; clear a; intro a hF
      refine RL.val  hF rfl rfl rfl (r_assign hF rfl rfl) ?_; clear hF; clear a; intro a hF
      obtain ⟨w54, hs1_, hs2_, hs3_, hs4_, h⟩ := h
      refine RL.unit (w' := w54) hF rfl rfl (by rw [hs4_]; exact r_storeA hF rfl rfl rfl Tryd.sizeOf55 hs1_ hs2_ hs3_) ?_; clear hF; clear a; intro a hF
      refine RL.nil (hK48 _ _ ?_)
      clear hK48 K47
      refine seq_draw 0 #[0, 1, 3, 7, 15, 31, 63, 127, 15, 511, 1023, 2047, 4095, 8191, 16383, 32767, 65535, 8191, 139263, 524287, 1048575, 2097151] 22 mo rfl (by kernel_rfl) (by kernel_rfl) fun hS K55 hK56 => ?_
      obtain ⟨w57, hw, h⟩ := h; rw [← hw]; clear hw
      obtain ⟨J60, hJ, h⟩ := jn_open h
      have jn61 : ∀ (v58 : Bool) (w59 : World) a, Fr 54 a [(5, .pointer r12), (6, s27.1.v), (8, .pointer (some p52)), (17, t26.v), (18, .int .i64 (t26.len : Int)), (19, .int .i64 s27.2), (45, .bool v58)] → J60 v58 w59 → K55 a w59 := by
        clear hF
        intro v58 w59 a hF h; replace h := hJ _ _ h; refine hK56 _ _ ?_; clear hJ hK56 K55
        obtain ⟨ht, hf⟩ := h
        refine cond_ hF rfl (fun hc => ?_) (fun hc => ?_)
        · replace h := ht hc; clear ht hf
          refine end_region fun K62 hK63 => ?_
          refine RL.val  hF rfl rfl rfl (r_move hF rfl rfl) ?_; clear hF; clear a; intro a hF
          refine RL.val  hF rfl rfl rfl (r_fieldAddr hF rfl rfl Tryd.runUnderlying55 rfl Tryd.sizeOf9 rfl) ?_; clear hF; clear a; intro a hF
          obtain ⟨t64, hct64, h⟩ := h
          refine RL.val  hF rfl rfl rfl (r_load hF rfl rfl Tryd.isAgg9 hct64) ?_; clear hF; clear a; intro a hF
          obtain ⟨t65, w66, hc_, h⟩ := h
          refine RL.val  hF rfl rfl rfl (r_conv hF rfl rfl hc_) ?_; clear hF; clear a; intro a hF
          obtain ⟨p68, w67, hp_, hw_, h⟩ := h
          refine RL.val (v := (Slc.mk (some p68) 1 1).v) (w' := w67) hF rfl rfl rfl (by rw [hp_, hw_]; exact r_buildSlice (xs := [(0, t65.v)]) hF rfl rfl (by kernel_rfl)) ?_; clear hF; clear a; intro a hF
          obtain ⟨t70, w69, hc_, h⟩ := h
          refine RL.val  hF rfl rfl rfl (r_append (xs := [s27.1.v, (Slc.mk (some p68) 1 1).v]) hF rfl rfl hc_) ?_; clear hF; clear a; intro a hF
          refine RL.val  hF rfl rfl rfl (r_assign hF rfl rfl) ?_; clear hF; clear a; intro a hF
          refine RL.nil (hK63 _ _ ?_)
          clear hK63 K62
          exact jn44 t70 _ _ (hF.sub rfl) h
        · replace h := hf hc; clear ht hf
          refine wp_skip ?_
          exact jn44 s27.1 _ _ (hF.sub rfl) h
      clear hJ hK56
      refine GL.val (v := .pointer (some p52)) (i := 0) hF hS rfl rfl (by kernel_rfl) rfl rfl rfl rfl (fun x => r_fieldAddr0 hF rfl rfl Tryd.runUnderlying55 rfl Tryd.sizeOf3 rfl) ?_; clear hF; clear a; intro a hF
      obtain ⟨t71, hct71, h⟩ := h
      refine GL.read (v := .int .i64 t71) (i := 1) hF (fun x => World.cell? x p52 = some (.int .i64 t71)) hS rfl rfl (by kernel_rfl) rfl rfl rfl rfl hct71 (fun x hx => r_load hF rfl rfl Tryd.isAgg3 hx) ?_; clear hF; clear a; intro a hF
      refine GL.val (v := .bool (t71 == 6)) (i := 2) hF hS rfl rfl (by kernel_rfl) rfl rfl rfl rfl (fun x => r_eql hF rfl rfl rfl) ?_; clear hF; clear a; intro a hF
      refine GL.val (v := .bool (t71 == 6)) (i := 3) hF hS rfl rfl (by kernel_rfl) rfl rfl rfl rfl (fun x => r_move hF rfl rfl) ?_; clear hF; clear a; intro a hF
      obtain ⟨ht, hf⟩ := h
      rcases bool_cases (t71 == 6) with hg72 | hg72
      · replace h := ht hg72; clear ht hf
        refine GL.gval (v := .pointer r12) (i := 4) hF hS rfl rfl (by kernel_rfl) rfl rfl rfl (lkb rfl hg72) rfl rfl (fun x => r_move hF rfl rfl) ?_; clear hF; clear a; intro a hF
        obtain ⟨p73, hpp73, h⟩ := h
        refine GL.gval (v := .pointer (some p73)) (i := 5) hF hS rfl rfl (by kernel_rfl) rfl rfl rfl (lkb rfl hg72) rfl rfl (fun x => r_nilCheck hF rfl (lkp rfl hpp73)) ?_; clear hF; clear a; intro a hF
        refine GL.gval (v := .pointer (some (p73.add 1))) (i := 6) hF hS rfl rfl (by kernel_rfl) rfl rfl rfl (lkb rfl hg72) rfl rfl (fun x => r_fieldAddr hF rfl rfl Tryd.runUnderlying62 rfl Tryd.sizeOf60 rfl) ?_; clear hF; clear a; intro a hF
        obtain ⟨t74, hct74, h⟩ := h
        refine GL.gread (v := t74.v) (i := 7) hF (fun x => World.cell? x (p73.add 1) = some (t74.v)) hS rfl rfl (by kernel_rfl) rfl rfl rfl (lkb rfl hg72) rfl rfl hct74 (fun x hx => r_load hF rfl rfl Tryd.isAgg60 hx) ?_; clear hF; clear a; intro a hF
        refine GL.gval (v := .int .i64 s27.2) (i := 8) hF hS rfl rfl (by kernel_rfl) rfl rfl rfl (lkb rfl hg72) rfl rfl (fun x => r_move hF rfl rfl) ?_; clear hF; clear a; intro a hF
        obtain ⟨b76, p75, hb_, h0_, h1_, hp_, h⟩ := h
        refine GL.gval (v := .pointer (some p75)) (i := 9) hF hS rfl rfl (by kernel_rfl) rfl rfl rfl (lkb rfl hg72) rfl rfl (fun x => by rw [hp_]; exact r_indexAddr hF rfl (lks rfl hb_) rfl Tryd.runUnderlying60 Tryd.sizeOf4 h0_ h1_) ?_; clear hF; clear a; intro a hF
        obtain ⟨t77, hct77, h⟩ := h
        refine GL.gread (v := .bool t77) (i := 10) hF (fun x => World.cell? x p75 = some (.bool t77)) hS rfl rfl (by kernel_rfl) rfl rfl rfl (lkb rfl hg72) rfl rfl hct77 (fun x hx => r_load hF rfl rfl Tryd.isAgg4 hx) ?_; clear hF; clear a; intro a hF
        refine GL.val (v := .bool t77) (i := 11) hF hS rfl rfl (by kernel_rfl) rfl rfl rfl rfl (fun x => r_pick hF rfl rfl rfl rfl (fun _ => rfl) (fun e => absurd (hg72.symm.trans e) (by decide))) ?_; clear hF; clear a; intro a hF
        refine GL.val (v := .bool t77) (i := 12) hF hS rfl rfl (by kernel_rfl) rfl rfl rfl rfl (fun x => r_move hF rfl rfl) ?_; clear hF; clear a; intro a hF
        obtain ⟨ht, hf⟩ := h
        rcases bool_cases t77 with hg78 | hg78
        · replace h := ht hg78; clear ht hf
          refine GL.gval (v := .pointer r12) (i := 13) hF hS rfl rfl (by kernel_rfl) rfl rfl rfl (lkb rfl hg78) rfl rfl (fun x => r_move hF rfl rfl) ?_; clear hF; clear a; intro a hF
          obtain ⟨p79, hpp79, h⟩ := h
          refine GL.gval (v := .pointer (some p79)) (i := 14) hF hS rfl rfl (by kernel_rfl) rfl rfl rfl (lkb rfl hg78) rfl rfl (fun x => r_nilCheck hF rfl (lkp rfl hpp79)) ?_; clear hF; clear a; intro a hF
          refine GL.gval (v := .pointer (some (p79.add 1))) (i := 15) hF hS rfl rfl (by kernel_rfl) rfl rfl rfl (lkb rfl hg78) rfl rfl (fun x => r_fieldAddr hF rfl rfl Tryd.runUnderlying62 rfl Tryd.sizeOf60 rfl) ?_; clear hF; clear a; intro a hF
          obtain ⟨t80, hct80, h⟩ := h
          refine GL.gread (v := t80.v) (i := 16) hF (fun x => World.cell? x (p79.add 1) = some (t80.v)) hS rfl rfl (by kernel_rfl) rfl rfl rfl (lkb rfl hg78) rfl rfl hct80 (fun x hx => r_load hF rfl rfl Tryd.isAgg60 hx) ?_; clear hF; clear a; intro a hF
          refine GL.gval (v := .pointer (some (p52.add 1))) (i := 17) hF hS rfl rfl (by kernel_rfl) rfl rfl rfl (lkb rfl hg78) rfl rfl (fun x => r_fieldAddr hF rfl rfl Tryd.runUnderlying55 rfl Tryd.sizeOf3 rfl) ?_; clear hF; clear a; intro a hF
          obtain ⟨t81, hct81, h⟩ := h
          refine GL.gread (v := .int .i64 t81) (i := 18) hF (fun x => World.cell? x (p52.add 1) = some (.int .i64 t81)) hS rfl rfl (by kernel_rfl) rfl rfl rfl (lkb rfl hg78) rfl rfl hct81 (fun x hx => r_load hF rfl rfl Tryd.isAgg3 hx) ?_; clear hF; clear a; intro a hF
          obtain ⟨b83, p82, hb_, h0_, h1_, hp_, h⟩ := h
          refine GL.gval (v := .pointer (some p82)) (i := 19) hF hS rfl rfl (by kernel_rfl) rfl rfl rfl (lkb rfl hg78) rfl rfl (fun x => by rw [hp_]; exact r_indexAddr hF rfl (lks rfl hb_) rfl Tryd.runUnderlying60 Tryd.sizeOf4 h0_ h1_) ?_; clear hF; clear a; intro a hF
          obtain ⟨t84, hct84, h⟩ := h
          refine GL.gread (v := .bool t84) (i := 20) hF (fun x => World.cell? x p82 = some (.bool t84)) hS rfl rfl (by kernel_rfl) rfl rfl rfl (lkb rfl hg78) rfl rfl hct84 (fun x hx => r_load hF rfl rfl Tryd.isAgg4 hx) ?_; clear hF; clear a; intro a hF
          refine GL.val (v := .bool t84) (i := 21) hF hS rfl rfl (by kernel_rfl) rfl rfl rfl rfl (fun x => r_pick hF rfl rfl rfl rfl (fun _ => rfl) (fun e => absurd (hg78.symm.trans e) (by decide))) ?_; clear hF; clear a; intro a hF
          refine GL.done (by kernel_rfl) ?_
          exact jn61 t84 _ _ (hF.sub rfl) h
        · replace h := hf hg78; clear ht hf
          refine GL.skip (i := 13) hF hS rfl rfl (by kernel_rfl) rfl rfl rfl (lkb rfl hg78) (.inl rfl) rfl rfl ?_; clear hF; clear a; intro a hF
          refine GL.skip (i := 14) hF hS rfl rfl (by kernel_rfl) rfl rfl rfl (lkb rfl hg78) (.inl rfl) rfl rfl ?_; clear hF; clear a; intro a hF
          refine GL.skip (i := 15) hF hS rfl rfl (by kernel_rfl) rfl rfl rfl (lkb rfl hg78) (.inl rfl) rfl rfl ?_; clear hF; clear a; intro a hF
          refine GL.skip (i := 16) hF hS rfl rfl (by kernel_rfl) rfl rfl rfl (lkb rfl hg78) (.inl rfl) rfl rfl ?_; clear hF; clear a; intro a hF
          refine GL.skip (i := 17) hF hS rfl rfl (by kernel_rfl) rfl rfl rfl (lkb rfl hg78) (.inl rfl) rfl rfl ?_; clear hF; clear a; intro a hF
          refine GL.skip (i := 18) hF hS rfl rfl (by kernel_rfl) rfl rfl rfl (lkb rfl hg78) (.inl rfl) rfl rfl ?_; clear hF; clear a; intro a hF
          refine GL.skip (i := 19) hF hS rfl rfl (by kernel_rfl) rfl rfl rfl (lkb rfl hg78) (.inl rfl) rfl rfl ?_; clear hF; clear a; intro a hF
          refine GL.skip (i := 20) hF hS rfl rfl (by kernel_rfl) rfl rfl rfl (lkb rfl hg78) (.inl rfl) rfl rfl ?_; clear hF; clear a; intro a hF
          refine GL.val (v := .bool false) (i := 21) hF hS rfl rfl (by kernel_rfl) rfl rfl rfl rfl (fun x => r_pick hF rfl rfl rfl rfl (fun e => absurd (hg78.symm.trans e) (by decide)) (fun _ => rfl)) ?_; clear hF; clear a; intro a hF
          refine GL.done (by kernel_rfl) ?_
          exact jn61 false _ _ (hF.sub rfl) h
      · replace h := hf hg72; clear ht hf
        refine GL.skip (i := 4) hF hS rfl rfl (by kernel_rfl) rfl rfl rfl (lkb rfl hg72) (.inl rfl) rfl rfl ?_; clear hF; clear a; intro a hF
        refine GL.skip (i := 5) hF hS rfl rfl (by kernel_rfl) rfl rfl rfl (lkb rfl hg72) (.inl rfl) rfl rfl ?_; clear hF; clear a; intro a hF
        refine GL.skip (i := 6) hF hS rfl rfl (by kernel_rfl) rfl rfl rfl (lkb rfl hg72) (.inl rfl) rfl rfl ?_; clear hF; clear a; intro a hF
        refine GL.skip (i := 7) hF hS rfl rfl (by kernel_rfl) rfl rfl rfl (lkb rfl hg72) (.inl rfl) rfl rfl ?_; clear hF; clear a; intro a hF
        refine GL.skip (i := 8) hF hS rfl rfl (by kernel_rfl) rfl rfl rfl (lkb rfl hg72) (.inl rfl) rfl rfl ?_; clear hF; clear a; intro a hF
        refine GL.skip (i := 9) hF hS rfl rfl (by kernel_rfl) rfl rfl rfl (lkb rfl hg72) (.inl rfl) rfl rfl ?_; clear hF; clear a; intro a hF
        refine GL.skip (i := 10) hF hS rfl rfl (by kernel_rfl) rfl rfl rfl (lkb rfl hg72) (.inl rfl) rfl rfl ?_; clear hF; clear a; intro a hF
        refine GL.val (v := .bool false) (i := 11) hF hS rfl rfl (by kernel_rfl) rfl rfl rfl rfl (fun x => r_pick hF rfl rfl rfl rfl (fun e => absurd (hg72.symm.trans e) (by decide)) (fun _ => rfl)) ?_; clear hF; clear a; intro a hF
        refine GL.val (v := .bool false) (i := 12) hF hS rfl rfl (by kernel_rfl) rfl rfl rfl rfl (fun x => r_move hF rfl rfl) ?_; clear hF; clear a; intro a hF
        refine GL.skip (i := 13) hF hS rfl rfl (by kernel_rfl) rfl rfl rfl rfl (.inl rfl) rfl rfl ?_; clear hF; clear a; intro a hF
        refine GL.skip (i := 14) hF hS rfl rfl (by kernel_rfl) rfl rfl rfl rfl (.inl rfl) rfl rfl ?_; clear hF; clear a; intro a hF
        refine GL.skip (i := 15) hF hS rfl rfl (by kernel_rfl) rfl rfl rfl rfl (.inl rfl) rfl rfl ?_; clear hF; clear a; intro a hF
        refine GL.skip (i := 16) hF hS rfl rfl (by kernel_rfl) rfl rfl rfl rfl (.inl rfl) rfl rfl ?_; clear hF; clear a; intro a hF
        refine GL.skip (i := 17) hF hS rfl rfl (by kernel_rfl) rfl rfl rfl rfl (.inl rfl) rfl rfl ?_; clear hF; clear a; intro a hF
        refine GL.skip (i := 18) hF hS rfl rfl (by kernel_rfl) rfl rfl rfl rfl (.inl rfl) rfl rfl ?_; clear hF; clear a; intro a hF
        refine GL.skip (i := 19) hF hS rfl rfl (by kernel_rfl) rfl rfl rfl rfl (.inl rfl) rfl rfl ?_; clear hF; clear a; intro a hF
        refine GL.skip (i := 20) hF hS rfl rfl (by kernel_rfl) rfl rfl rfl rfl (.inl rfl) rfl rfl ?_; clear hF; clear a; intro a hF
        refine GL.val (v := .bool false) (i := 21) hF hS rfl rfl (by kernel_rfl) rfl rfl rfl rfl (fun x => r_pick hF rfl rfl rfl rfl (fun e => absurd e (by decide)) (fun _ => rfl)) ?_; clear hF; clear a; intro a hF
        refine GL.done (by kernel_rfl) ?_
        exact jn61 false _ _ (hF.sub rfl) h
    clear hJ
    obtain ⟨ht, hf⟩ := h
    refine cond_ hF rfl (fun hc => ?_) (fun hc => ?_)
    · replace h := ht hc; clear ht hf
      refine wp_skip ?_
      exact jn38 () _ _ (hF.sub rfl) h
    · replace h := hf hc; clear ht hf
      refine wp_exit ?_
      exact jn20 s27.1 _ _ (hF.sub rfl) h
  clear hJ
  refine seq_region fun K85 hK86 => ?_
  refine RL.val  hF rfl rfl rfl (r_move hF rfl rfl) ?_; clear hF; clear a; intro a hF
  refine RL.call hF rfl rfl rfl (r_call (xs := [.pointer a0]) hF rfl rfl Tryd.call17) (CallsV.mono h ?_)
  clear h; rintro _ w87 ⟨r88, rfl, h⟩; clear hF; clear a; intro a hF
  refine RL.nil (hK86 _ _ ?_)
  clear hK86 K85
  obtain ⟨ht, hf⟩ := h
  refine cond_ hF rfl (fun hc => ?_) (fun hc => ?_)
  · replace h := ht hc; clear ht hf
    refine seq_region fun K89 hK90 => ?_
    refine RL.val  hF rfl rfl rfl (r_assign hF rfl rfl) ?_; clear hF; clear a; intro a hF
    refine RL.nil (hK90 _ _ ?_)
    clear hK90 K89
    refine wp_ret ?_
    exact ret_of hF (res1 hF rfl rfl) ⟨_, rfl, h⟩
  · replace h := hf hc; clear ht hf
    refine wp_skip ?_
    exact jn8 () _ _ (hF.sub rfl) h

set_option maxRecDepth 20000 in
theorem br55 {a0 : Int} {w : World} {K : Int → World → Prop} (h : sh55 a0 w K) : C55 a0 w K := by
  unfold sh55 at h
  refine enter (n := 28) (l := [(0, .int .u64 a0)]) 27 Tryd.func55 rfl _ rfl rfl rfl fun a hF => ?_
  refine seq_region fun K1 hK2 => ?_
  refine RL.val  hF rfl rfl rfl (r_assign hF rfl rfl) ?_; clear hF; clear a; intro a hF
  refine RL.nil (hK2 _ _ ?_)
  clear hK2 K1
  refine seq_region fun K3 hK4 => ?_
  refine RL.val  hF rfl rfl rfl (r_move hF rfl rfl) ?_; clear hF; clear a; intro a hF
  refine RL.val  hF rfl rfl rfl (r_move hF rfl rfl) ?_; clear hF; clear a; intro a hF
  refine RL.val (v := .int .u64 (shrZ .u64 a0 31)) (w' := w) hF rfl rfl rfl (r_shr hF rfl rfl rfl (by decide)) ?_; clear hF; clear a; intro a hF
  refine RL.val  hF rfl rfl rfl (r_xor hF rfl rfl rfl) ?_; clear hF; clear a; intro a hF
  refine RL.val  hF rfl rfl rfl (r_move hF rfl rfl) ?_; clear hF; clear a; intro a hF
  refine RL.val (v := .int .u64 (shrZ .u64 a0 62)) (w' := w) hF rfl rfl rfl (r_shr hF rfl rfl rfl (by decide)) ?_; clear hF; clear a; intro a hF
  refine RL.val  hF rfl rfl rfl (r_xor hF rfl rfl rfl) ?_; clear hF; clear a; intro a hF
  refine RL.val  hF rfl rfl rfl (r_mul hF rfl rfl rfl) ?_; clear hF; clear a; intro a hF
  refine RL.val  hF rfl rfl rfl (r_assign hF rfl rfl) ?_; clear hF; clear a; intro a hF
  refine RL.nil (hK4 _ _ ?_)
  clear hK4 K3
  refine seq_region fun K5 hK6 => ?_
  refine RL.val  hF rfl rfl rfl (r_move hF rfl rfl) ?_; clear hF; clear a; intro a hF
  refine RL.val  hF rfl rfl rfl (r_move hF rfl rfl) ?_; clear hF; clear a; intro a hF
  refine RL.val (v := .int .u64 (shrZ .u64 (IntKind.u64.wrap ((bitsZ .xor .u64 (bitsZ .xor .u64 a0 (shrZ .u64 a0 31)) (shrZ .u64 a0 62)) * 3573116690164977347)) 27)) (w' := w) hF rfl rfl rfl (r_shr hF rfl rfl rfl (by decide)) ?_; clear hF; clear a; intro a hF
  refine RL.val  hF rfl rfl rfl (r_xor hF rfl rfl rfl) ?_; clear hF; clear a; intro a hF
  refine RL.val  hF rfl rfl rfl (r_move hF rfl rfl) ?_; clear hF; clear a; intro a hF
  refine RL.val (v := .int .u64 (shrZ .u64 (IntKind.u64.wrap ((bitsZ .xor .u64 (bitsZ .xor .u64 a0 (shrZ .u64 a0 31)) (shrZ .u64 a0 62)) * 3573116690164977347)) 54)) (w' := w) hF rfl rfl rfl (r_shr hF rfl rfl rfl (by decide)) ?_; clear hF; clear a; intro a hF
  refine RL.val  hF rfl rfl rfl (r_xor hF rfl rfl rfl) ?_; clear hF; clear a; intro a hF
  refine RL.val  hF rfl rfl rfl (r_mul hF rfl rfl rfl) ?_; clear hF; clear a; intro a hF
  refine RL.val  hF rfl rfl rfl (r_assign hF rfl rfl) ?_; clear hF; clear a; intro a hF
  refine RL.nil (hK6 _ _ ?_)
  clear hK6 K5
  refine seq_region fun K7 hK8 => ?_
  refine RL.val  hF rfl rfl rfl (r_move hF rfl rfl) ?_; clear hF; clear a; intro a hF
  refine RL.val  hF rfl rfl rfl (r_move hF rfl rfl) ?_; clear hF; clear a; intro a hF
  refine RL.val (v := .int .u64 (shrZ .u64 (IntKind.u64.wrap ((bitsZ .xor .u64 (bitsZ .xor .u64 (IntKind.u64.wrap ((bitsZ .xor .u64 (bitsZ .xor .u64 a0 (shrZ .u64 a0 31)) (shrZ .u64 a0 62)) * 3573116690164977347)) (shrZ .u64 (IntKind.u64.wrap ((bitsZ .xor .u64 (bitsZ .xor .u64 a0 (shrZ .u64 a0 31)) (shrZ .u64 a0 62)) * 3573116690164977347)) 27)) (shrZ .u64 (IntKind.u64.wrap ((bitsZ .xor .u64 (bitsZ .xor .u64 a0 (shrZ .u64 a0 31)) (shrZ .u64 a0 62)) * 3573116690164977347)) 54)) * 10871156337175269513)) 30)) (w' := w) hF rfl rfl rfl (r_shr hF rfl rfl rfl (by decide)) ?_; clear hF; clear a; intro a hF
  refine RL.val  hF rfl rfl rfl (r_xor hF rfl rfl rfl) ?_; clear hF; clear a; intro a hF
  refine RL.val  hF rfl rfl rfl (r_move hF rfl rfl) ?_; clear hF; clear a; intro a hF
  refine RL.val (v := .int .u64 (shrZ .u64 (IntKind.u64.wrap ((bitsZ .xor .u64 (bitsZ .xor .u64 (IntKind.u64.wrap ((bitsZ .xor .u64 (bitsZ .xor .u64 a0 (shrZ .u64 a0 31)) (shrZ .u64 a0 62)) * 3573116690164977347)) (shrZ .u64 (IntKind.u64.wrap ((bitsZ .xor .u64 (bitsZ .xor .u64 a0 (shrZ .u64 a0 31)) (shrZ .u64 a0 62)) * 3573116690164977347)) 27)) (shrZ .u64 (IntKind.u64.wrap ((bitsZ .xor .u64 (bitsZ .xor .u64 a0 (shrZ .u64 a0 31)) (shrZ .u64 a0 62)) * 3573116690164977347)) 54)) * 10871156337175269513)) 60)) (w' := w) hF rfl rfl rfl (r_shr hF rfl rfl rfl (by decide)) ?_; clear hF; clear a; intro a hF
  refine RL.val  hF rfl rfl rfl (r_xor hF rfl rfl rfl) ?_; clear hF; clear a; intro a hF
  refine RL.val  hF rfl rfl rfl (r_mul hF rfl rfl rfl) ?_; clear hF; clear a; intro a hF
  refine RL.val  hF rfl rfl rfl (r_sub hF rfl rfl rfl) ?_; clear hF; clear a; intro a hF
  refine RL.val  hF rfl rfl rfl (r_assign hF rfl rfl) ?_; clear hF; clear a; intro a hF
  refine RL.nil (hK8 _ _ ?_)
  clear hK8 K7
  refine wp_ret ?_
  exact ret_of hF (res1 hF rfl rfl) ⟨_, rfl, h⟩

set_option maxRecDepth 20000 in
theorem br20 {a0 : Array Value} {w : World} {K : Bool → World → Prop} (h : sh20 a0 w K) : C20 a0 w K := by
  unfold sh20 at h
  refine enter (n := 38) (l := [(0, .agg a0)]) 37 Tryd.func20 rfl _ rfl rfl rfl fun a hF => ?_
  refine seq_region fun K1 hK2 => ?_
  obtain ⟨p3, w4, hp_, hw_, h⟩ := h
  refine RL.val (v := .pointer (some p3)) (w' := w4) hF rfl rfl rfl (by rw [hp_, hw_]; exact r_box hF rfl rfl rfl) ?_; clear hF; clear a; intro a hF
  refine RL.val  hF rfl rfl rfl (r_assign hF rfl rfl) ?_; clear hF; clear a; intro a hF
  refine RL.nil (hK2 _ _ ?_)
  clear hK2 K1
  refine seq_region fun K5 hK6 => ?_
  obtain ⟨p7, w8, hp_, hw_, h⟩ := h
  refine RL.val (v := .pointer (some p7)) (w' := w8) hF rfl rfl rfl (by rw [hp_, hw_]; exact r_alloc rfl Tryd.zeroValue101 rfl) ?_; clear hF; clear a; intro a hF
  refine RL.nil (hK6 _ _ ?_)
  clear hK6 K5
  refine seq_k fun K9 hK10 => ?_
  obtain ⟨J, hJ, h⟩ := jn_open h
  have jn14 : ∀ (v11 : Unit) (w12 : World) a, Fr 38 a [(3, .pointer (some p7))] → J v11 w12 → K9 a w12 := by
    intro v11 w12 a hF h
    replace h := hJ _ _ h
    clear hJ
    refine hK10 _ _ ?_
    refine seq_region fun K15 hK16 => ?_
    obtain ⟨p17, h0_, h1_, hp_, h⟩ := h
    refine RL.val (v := .pointer (some p17)) (w' := w12) hF rfl rfl rfl (by rw [hp_]; exact r_indexAddrA hF rfl rfl rfl Tryd.runUnderlying101 Tryd.sizeOf70 h0_ h1_) ?_; clear hF; clear a; intro a hF
    obtain ⟨t18, hct18, h⟩ := h
    refine RL.val  hF rfl rfl rfl (r_load hF rfl rfl Tryd.isAgg70 hct18) ?_; clear hF; clear a; intro a hF
    refine RL.call hF rfl rfl rfl (r_call (xs := [.int .u64 t18]) hF rfl rfl Tryd.call55) (CallsV.mono h ?_)
    clear h; rintro _ w19 ⟨r20, rfl, h⟩; clear hF; clear a; intro a hF
    refine RL.val  hF rfl rfl rfl (r_assign hF rfl rfl) ?_; clear hF; clear a; intro a hF
    refine RL.nil (hK16 _ _ ?_)
    clear hK16 K15
    refine seq_draw 64 #[0, 1, 3, 7, 15, 31, 63, 15, 143, 511, 1023, 2047] 12 mo rfl (by kernel_rfl) (by kernel_rfl) fun hS K21 hK22 => ?_
    obtain ⟨w23, hw, h⟩ := h; rw [← hw]; clear hw
    obtain ⟨J26, hJ, h⟩ := jn_open h
    have jn27 : ∀ (v24 : Bool) (w25 : World) a, Fr 38 a [(2, .bool v24)] → J26 v24 w25 → K21 a w25 := by
      clear hF
      intro v24 w25 a hF h; replace h := hJ _ _ h; refine hK22 _ _ ?_; clear hJ hK22 K21
      refine wp_ret ?_
      exact ret_of hF (res1 hF rfl rfl) ⟨_, rfl, h⟩
    clear hJ hK22
    refine GL.val (v := .int .u64 r20) (i := 0) hF hS rfl rfl (by kernel_rfl) rfl rfl rfl rfl (fun x => r_move hF rfl rfl) ?_; clear hF; clear a; intro a hF
    refine GL.val (v := .int .u64 (r20.tmod 2)) (i := 1) hF hS rfl rfl (by kernel_rfl) rfl rfl rfl rfl (fun x => r_rem hF rfl rfl rfl (by decide)) ?_; clear hF; clear a; intro a hF
    refine GL.val (v := .bool ((r20.tmod 2) == 0)) (i := 2) hF hS rfl rfl (by kernel_rfl) rfl rfl rfl rfl (fun x => r_eql hF rfl rfl rfl) ?_; clear hF; clear a; intro a hF
    refine GL.val (v := .bool ((r20.tmod 2) == 0)) (i := 3) hF hS rfl rfl (by kernel_rfl) rfl rfl rfl rfl (fun x => r_move hF rfl rfl) ?_; clear hF; clear a; intro a hF
    obtain ⟨ht, hf⟩ := h
    rcases bool_cases ((r20.tmod 2) == 0) with hg28 | hg28
    · replace h := ht hg28; clear ht hf
      refine GL.gval (v := .int .u64 r20) (i := 4) hF hS rfl rfl (by kernel_rfl) rfl rfl rfl (lkb rfl hg28) rfl rfl (fun x => r_move hF rfl rfl) ?_; clear hF; clear a; intro a hF
      refine GL.gval (v := .int .u64 (IntKind.u64.wrap (r20 + 1))) (i := 5) hF hS rfl rfl (by kernel_rfl) rfl rfl rfl (lkb rfl hg28) rfl rfl (fun x => r_add hF rfl rfl rfl) ?_; clear hF; clear a; intro a hF
      obtain ⟨p29, h0_, h1_, hp_, h⟩ := h
      refine GL.gval (v := .pointer (some p29)) (i := 7) hF hS rfl rfl (by kernel_rfl) rfl rfl rfl (lkb rfl hg28) rfl rfl (fun x => by rw [hp_]; exact r_indexAddrA hF rfl rfl rfl Tryd.runUnderlying101 Tryd.sizeOf70 h0_ h1_) ?_; clear hF; clear a; intro a hF
      obtain ⟨t30, hct30, h⟩ := h
      refine GL.gread (v := .int .u64 t30) (i := 8) hF (fun x => World.cell? x p29 = some (.int .u64 t30)) hS rfl rfl (by kernel_rfl) rfl rfl rfl (lkb rfl hg28) rfl rfl hct30 (fun x hx => r_load hF rfl rfl Tryd.isAgg70 hx) ?_; clear hF; clear a; intro a hF
      refine GL.act (i := 6) (pend' := [(8, fun x => World.cell? x p29 = some (.int .u64 t30))]) hS (by kernel_rfl) rfl (by kernel_rfl) ?_
      refine op_gcall hF rfl rfl rfl (lkb rfl hg28) rfl rfl (r_call (xs := [.int .u64 (IntKind.u64.wrap (r20 + 1))]) hF rfl rfl Tryd.call56) (CallsV.mono h ?_)
      clear h; rintro _ w31 ⟨r32, rfl, h⟩
      obtain ⟨hk33, h⟩ := h
      refine ⟨⟨hk33, trivial⟩, ?_⟩; clear hF; clear a; intro a hF
      refine GL.gval (v := .bool (r32 == t30)) (i := 9) hF hS rfl rfl (by kernel_rfl) rfl rfl rfl (lkb rfl hg28) rfl rfl (fun x => r_eql hF rfl rfl rfl) ?_; clear hF; clear a; intro a hF
      refine GL.val (v := .bool (r32 == t30)) (i := 10) hF hS rfl rfl (by kernel_rfl) rfl rfl rfl rfl (fun x => r_pick hF rfl rfl rfl rfl (fun _ => rfl) (fun e => absurd (hg28.symm.trans e) (by decide))) ?_; clear hF; clear a; intro a hF
      refine GL.val (v := .bool (r32 == t30)) (i := 11) hF hS rfl rfl (by kernel_rfl) rfl rfl rfl rfl (fun x => r_assign hF rfl rfl) ?_; clear hF; clear a; intro a hF
      refine GL.done (by kernel_rfl) ?_
      exact jn27 (r32 == t30) _ _ (hF.sub rfl) h
    · replace h := hf hg28; clear ht hf
      refine GL.skip (i := 4) hF hS rfl rfl (by kernel_rfl) rfl rfl rfl (lkb rfl hg28) (.inl rfl) rfl rfl ?_; clear hF; clear a; intro a hF
      refine GL.skip (i := 5) hF hS rfl rfl (by kernel_rfl) rfl rfl rfl (lkb rfl hg28) (.inl rfl) rfl rfl ?_; clear hF; clear a; intro a hF
      refine GL.skip (i := 7) hF hS rfl rfl (by kernel_rfl) rfl rfl rfl (lkb rfl hg28) (.inl rfl) rfl rfl ?_; clear hF; clear a; intro a hF
      refine GL.skip (i := 8) hF hS rfl rfl (by kernel_rfl) rfl rfl rfl (lkb rfl hg28) (.inl rfl) rfl rfl ?_; clear hF; clear a; intro a hF
      refine GL.actSkip (i := 6) (pend' := []) hF hS (by kernel_rfl) rfl (by kernel_rfl) rfl rfl rfl (lkb rfl hg28) (.inl rfl) rfl rfl ?_; clear hF; clear a; intro a hF
      refine GL.skip (i := 9) hF hS rfl rfl (by kernel_rfl) rfl rfl rfl (lkb rfl hg28) (.inl rfl) rfl rfl ?_; clear hF; clear a; intro a hF
      refine GL.val (v := .bool false) (i := 10) hF hS rfl rfl (by kernel_rfl) rfl rfl rfl rfl (fun x => r_pick hF rfl rfl rfl rfl (fun e => absurd (hg28.symm.trans e) (by decide)) (fun _ => rfl)) ?_; clear hF; clear a; intro a hF
      refine GL.val (v := .bool false) (i := 11) hF hS rfl rfl (by kernel_rfl) rfl rfl rfl rfl (fun x => r_assign hF rfl rfl) ?_; clear hF; clear a; intro a hF
      refine GL.done (by kernel_rfl) ?_
      exact jn27 false _ _ (hF.sub rfl) h
  clear hJ
  refine seq_region fun K34 hK35 => ?_
  obtain ⟨t36, hct36, h⟩ := h
  refine RL.val  hF rfl rfl rfl (r_loadA hF rfl rfl Tryd.isAgg26 Tryd.sizeOf26 hct36) ?_; clear hF; clear a; intro a hF
  refine RL.val  hF rfl rfl rfl (r_move hF rfl rfl) ?_; clear hF; clear a; intro a hF
  refine RL.nil (hK35 _ _ ?_)
  clear hK35 K34
  refine wp_block ?_
  refine loop_ (fun (s37 : Int) => [(3, .pointer (some p7)), (7, .agg t36), (8, .int .i64 s37)]) (hF.sub rfl) h ?_
  clear hF h
  intro s37 w38 N39 KL hN40 h a hF
  refine seq_region fun K41 hK42 => ?_
  refine RL.val  hF rfl rfl rfl (r_lss hF rfl rfl rfl) ?_; clear hF; clear a; intro a hF
  refine RL.nil (hK42 _ _ ?_)
  clear hK42 K41
  refine seq_k fun K43 hK44 => ?_
  obtain ⟨J, hJ, h⟩ := jn_open h
  have jn48 : ∀ (v45 : Unit) (w46 : World) a, Fr 38 a [(3, .pointer (some p7)), (7, .agg t36), (8, .int .i64 s37)] → J v45 w46 → K43 a w46 := by
    intro v45 w46 a hF h
    replace h := hJ _ _ h
    clear hJ
    refine hK44 _ _ ?_
    refine seq_k fun K49 hK50 => ?_
    obtain ⟨J, hJ, h⟩ := jn_open h
    have jn54 : ∀ (v51 : Unit) (w52 : World) a, Fr 38 a [(3, .pointer (some p7)), (7, .agg t36), (8, .int .i64 s37)] → J v51 w52 → K49 a w52 := by
      intro v51 w52 a hF h
      replace h := hJ _ _ h
      clear hJ
      refine hK50 _ _ ?_
      refine end_region fun K55 hK56 => ?_
      refine RL.val  hF rfl rfl rfl (r_add hF rfl rfl rfl) ?_; clear hF; clear a; intro a hF
      refine RL.val  hF rfl rfl rfl (r_move hF rfl rfl) ?_; clear hF; clear a; intro a hF
      refine RL.nil (hK56 _ _ ?_)
      clear hK56 K55
      exact hN40 (IntKind.i64.wrap (s37 + 1)) _ _ (hF.sub rfl) h
    clear hJ
    refine wp_block ?_
    refine seq_region fun K57 hK58 => ?_
    refine RL.val  hF rfl rfl rfl (r_move hF rfl rfl) ?_; clear hF; clear a; intro a hF
    obtain ⟨h0_, h1_, h⟩ := h
    obtain ⟨t59, hct59, h⟩ := h
    refine RL.val  hF rfl rfl rfl (r_index hF rfl rfl rfl Tryd.runUnderlying26 Tryd.sizeOf5 h0_ h1_ (part1 Tryd.isAgg5 hct59)) ?_; clear hF; clear a; intro a hF
    refine RL.val  hF rfl rfl rfl (r_assign hF rfl rfl) ?_; clear hF; clear a; intro a hF
    refine RL.val  hF rfl rfl rfl (r_assign hF rfl rfl) ?_; clear hF; clear a; intro a hF
    refine RL.nil (hK58 _ _ ?_)
    clear hK58 K57
    refine end_region fun K60 hK61 => ?_
    refine RL.val  hF rfl rfl rfl (r_move hF rfl rfl) ?_; clear hF; clear a; intro a hF
    refine RL.val (v := .int .i64 (IntKind.i64.wrap (s37.tdiv 8))) (w' := w46) hF rfl rfl rfl (r_quo hF rfl rfl rfl (by decide)) ?_; clear hF; clear a; intro a hF
    refine RL.val  hF rfl rfl rfl (r_move hF rfl rfl) ?_; clear hF; clear a; intro a hF
    refine RL.val (v := .int .i64 (IntKind.i64.wrap (s37.tdiv 8))) (w' := w46) hF rfl rfl rfl (r_quo hF rfl rfl rfl (by decide)) ?_; clear hF; clear a; intro a hF
    obtain ⟨p62, h0_, h1_, hp_, h⟩ := h
    refine RL.val (v := .pointer (some p62)) (w' := w46) hF rfl rfl rfl (by rw [hp_]; exact r_indexAddrA hF rfl rfl rfl Tryd.runUnderlying101 Tryd.sizeOf70 h0_ h1_) ?_; clear hF; clear a; intro a hF
    obtain ⟨t63, hct63, h⟩ := h
    refine RL.val  hF rfl rfl rfl (r_load hF rfl rfl Tryd.isAgg70 hct63) ?_; clear hF; clear a; intro a hF
    refine RL.val (v := .int .u64 (shlZ .u64 t63 8)) (w' := w46) hF rfl rfl rfl (r_shl hF rfl rfl rfl (by decide)) ?_; clear hF; clear a; intro a hF
    refine RL.val  hF rfl rfl rfl (r_move hF rfl rfl) ?_; clear hF; clear a; intro a hF
    refine RL.val  hF rfl rfl rfl (r_convInt hF rfl rfl Tryd.runUnderlying5 Tryd.runUnderlying70) ?_; clear hF; clear a; intro a hF
    refine RL.val  hF rfl rfl rfl (r_or hF rfl rfl rfl) ?_; clear hF; clear a; intro a hF
    obtain ⟨p64, h0_, h1_, hp_, h⟩ := h
    refine RL.val (v := .pointer (some p64)) (w' := w46) hF rfl rfl rfl (by rw [hp_]; exact r_indexAddrA hF rfl rfl rfl Tryd.runUnderlying101 Tryd.sizeOf70 h0_ h1_) ?_; clear hF; clear a; intro a hF
    obtain ⟨u_, w65, hs1_, hs2_, hs3_, h⟩ := h
    refine RL.unit (w' := w65) hF rfl rfl (by rw [hs3_]; exact r_store hF rfl rfl rfl rfl Tryd.sizeOf70 hs1_ hs2_) ?_; clear hF; clear a; intro a hF
    refine RL.nil (hK61 _ _ ?_)
    clear hK61 K60
    exact jn54 () _ _ (hF.sub rfl) h
  clear hJ
  obtain ⟨ht, hf⟩ := h
  refine cond_ hF rfl (fun hc => ?_) (fun hc => ?_)
  · replace h := ht hc; clear ht hf
    refine wp_skip ?_
    exact jn48 () _ _ (hF.sub rfl) h
  · replace h := hf hc; clear ht hf
    refine wp_exit ?_
    exact jn14 () _ _ (hF.sub rfl) h

set_option maxRecDepth 20000 in
theorem br10 {a0 : Option Addr} {a1 : Slc} {a2 : Slc} {w : World} {K : Bool → World → Prop} (h : sh10 a0 a1 a2 w K) : C10 a0 a1 a2 w K := by
  unfold sh10 at h
  refine enter (n := 59) (l := [(0, .pointer a0), (1, a1.v), (2, a2.v)]) 56 Tryd.func10 rfl _ rfl rfl rfl fun a hF => ?_
  refine seq_region fun K1 hK2 => ?_
  refine RL.val  hF rfl rfl rfl (r_assign hF rfl rfl) ?_; clear hF; clear a; intro a hF
  refine RL.nil (hK2 _ _ ?_)
  clear hK2 K1
  refine seq_k fun K3 hK4 => ?_
  obtain ⟨J, hJ, h⟩ := jn_open h
  have jn8 : ∀ (v5 : Unit) (w6 : World) a, Fr 59 a [(0, .pointer a0), (1, a1.v), (2, a2.v)] → J v5 w6 → K3 a w6 := by
    intro v5 w6 a hF h
    replace h := hJ _ _ h
    clear hJ
    refine hK4 _ _ ?_
    refine seq_region fun K9 hK10 => ?_
    refine RL.val  hF rfl rfl rfl (r_move hF rfl rfl) ?_; clear hF; clear a; intro a hF
    refine RL.val  hF rfl rfl rfl (r_move hF rfl rfl) ?_; clear hF; clear a; intro a hF
    refine RL.call hF rfl rfl rfl (r_call (xs := [.pointer a0, a2.v]) hF rfl rfl Tryd.call19) (CallsV.mono h ?_)
    clear h; rintro _ w11 ⟨r12, rfl, h⟩; clear hF; clear a; intro a hF
    refine RL.val  hF rfl rfl rfl (r_assign hF rfl rfl) ?_; clear hF; clear a; intro a hF
    refine RL.nil (hK10 _ _ ?_)
    clear hK10 K9
    refine seq_k fun K13 hK14 => ?_
    obtain ⟨J, hJ, h⟩ := jn_open h
    have jn18 : ∀ (v15 : Unit) (w16 : World) a, Fr 59 a [] → J v15 w16 → K13 a w16 := by
      intro v15 w16 a hF h
      replace h := hJ _ _ h
      clear hJ
      refine hK14 _ _ ?_
      refine seq_region fun K19 hK20 => ?_
      refine RL.val  hF rfl rfl rfl (r_assign hF rfl rfl) ?_; clear hF; clear a; intro a hF
      refine RL.nil (hK20 _ _ ?_)
      clear hK20 K19
      refine wp_ret ?_
      exact ret_of hF (res1 hF rfl rfl) ⟨_, rfl, h⟩
    clear hJ
    refine seq_region fun K21 hK22 => ?_
    refine RL.val  hF rfl rfl rfl (r_assign hF rfl rfl) ?_; clear hF; clear a; intro a hF
    refine RL.nil (hK22 _ _ ?_)
    clear hK22 K21
    refine wp_block ?_
    refine loop_ (fun (s23 : Int) => [(0, .pointer a0), (1, a1.v), (7, .pointer r12), (8, .int .i64 s23)]) (hF.sub rfl) h ?_
    clear hF h
    intro s23 w24 N25 KL hN26 h a hF
    refine seq_k fun K27 hK28 => ?_
    obtain ⟨J, hJ, h⟩ := jn_open h
    have jn32 : ∀ (v29 : Unit) (w30 : World) a, Fr 59 a [(0, .pointer a0), (1, a1.v), (7, .pointer r12), (8, .int .i64 s23)] → J v29 w30 → K27 a w30 := by
      intro v29 w30 a hF h
      replace h := hJ _ _ h
      clear hJ
      refine hK28 _ _ ?_
      refine seq_k fun K33 hK34 => ?_
      obtain ⟨J, hJ, h⟩ := jn_open h
      have jn38 : ∀ (v35 : Unit) (w36 : World) a, Fr 59 a [(0, .pointer a0), (1, a1.v), (7, .pointer r12), (8, .int .i64 s23)] → J v35 w36 → K33 a w36 := by
        intro v35 w36 a hF h
        replace h := hJ _ _ h
        clear hJ
        refine hK34 _ _ ?_
        refine end_region fun K39 hK40 => ?_
        refine RL.val  hF rfl rfl rfl (r_move hF rfl rfl) ?_; clear hF; clear a; intro a hF
        refine RL.val  hF rfl rfl rfl (r_add hF rfl rfl rfl) ?_; clear hF; clear a; intro a hF
        refine RL.val  hF rfl rfl rfl (r_assign hF rfl rfl) ?_; clear hF; clear a; intro a hF
        refine RL.nil (hK40 _ _ ?_)
        clear hK40 K39
        exact hN26 (IntKind.i64.wrap (s23 + 1)) _ _ (hF.sub rfl) h
      clear hJ
      refine wp_block ?_
      refine seq_region fun K41 hK42 => ?_
      refine RL.val  hF rfl rfl rfl (r_move hF rfl rfl) ?_; clear hF; clear a; intro a hF
      refine RL.val  hF rfl rfl rfl (r_move hF rfl rfl) ?_; clear hF; clear a; intro a hF
      refine RL.val  hF rfl rfl rfl (r_move hF rfl rfl) ?_; clear hF; clear a; intro a hF
      refine RL.val  hF rfl rfl rfl (r_add hF rfl rfl rfl) ?_; clear hF; clear a; intro a hF
      obtain ⟨hs43, hs44, hs45, h⟩ := h
      refine RL.val  hF rfl rfl rfl (r_slice (lo' := some (.int .i64 s23)) (hi' := some (.int .i64 (IntKind.i64.wrap (s23 + 16)))) (mx' := none) hF rfl rfl rfl rfl rfl (slc_at Tryd.runUnderlying22 Tryd.sizeOf5 (bounds11 hs43 hs44 hs45))) ?_; clear hF; clear a; intro a hF
      obtain ⟨h0_, h⟩ := h
      refine RL.val  hF rfl rfl rfl (r_s2ap hF rfl rfl Tryd.runUnderlying26 h0_) ?_; clear hF; clear a; intro a hF
      obtain ⟨p47, hpp47, h⟩ := h
      obtain ⟨t46, hct46, h⟩ := h
      refine RL.val  hF rfl rfl rfl (r_loadA hF rfl (lkp rfl hpp47) Tryd.isAgg26 Tryd.sizeOf26 hct46) ?_; clear hF; clear a; intro a hF
      obtain ⟨p48, w49, hp_, hw_, h⟩ := h
      refine RL.val (v := .pointer (some p48)) (w' := w49) hF rfl rfl rfl (by rw [hp_, hw_]; exact r_alloc rfl Tryd.zeroValue26 rfl) ?_; clear hF; clear a; intro a hF
      obtain ⟨w50, hs1_, hs2_, hs3_, hs4_, h⟩ := h
      refine RL.unit (w' := w50) hF rfl rfl (by rw [hs4_]; exact r_storeA hF rfl rfl rfl Tryd.sizeOf26 hs1_ hs2_ hs3_) ?_; clear hF; clear a; intro a hF
      refine RL.nil (hK42 _ _ ?_)
      clear hK42 K41
      refine seq_draw 0 #[0, 1, 3, 7, 0, 31, 63, 127, 127, 255, 1023] 11 mo rfl (by kernel_rfl) (by kernel_rfl) fun hS K51 hK52 => ?_
      obtain ⟨w53, hw, h⟩ := h; rw [← hw]; clear hw
      refine GL.val (v := .pointer a0) (i := 0) hF hS rfl rfl (by kernel_rfl) rfl rfl rfl rfl (fun x => r_move hF rfl rfl) ?_; clear hF; clear a; intro a hF
      obtain ⟨p54, hpp54, h⟩ := h
      refine GL.val (v := .pointer (some p54)) (i := 1) hF hS rfl rfl (by kernel_rfl) rfl rfl rfl rfl (fun x => r_nilCheck hF rfl (lkp rfl hpp54)) ?_; clear hF; clear a; intro a hF
      refine GL.val (v := .pointer (some (p54.add 2))) (i := 2) hF hS rfl rfl (by kernel_rfl) rfl rfl rfl rfl (fun x => r_fieldAddr hF rfl rfl Tryd.runUnderlying52 rfl Tryd.sizeOf49 rfl) ?_; clear hF; clear a; intro a hF
      obtain ⟨t55, hct55, h⟩ := h
      refine GL.read (v := .map t55) (i := 3) hF (fun x => World.cell? x (p54.add 2) = some (.map t55)) hS rfl rfl (by kernel_rfl) rfl rfl rfl rfl hct55 (fun x hx => r_load hF rfl rfl Tryd.isAgg49 hx) ?_; clear hF; clear a; intro a hF
      obtain ⟨t56, hct56, h⟩ := h
      refine GL.read (v := .agg t56) (i := 4) hF (fun x => CellsAt x p48 16 t56) hS rfl rfl (by kernel_rfl) rfl rfl rfl rfl hct56 (fun x hx => r_loadA hF rfl rfl Tryd.isAgg26 Tryd.sizeOf26 hx) ?_; clear hF; clear a; intro a hF
      obtain ⟨t57, t58, hct57, h⟩ := h
      refine GL.read (v := .tuple #[.int .i64 t57, .bool t58]) (i := 5) hF (fun x => rn Tryd.prog (Instr.lookup 49 (.map t55) (.agg t56) true) (.tuple #[.int .i64 t57, .bool t58]) x x) hS rfl rfl (by kernel_rfl) rfl rfl rfl rfl hct57 (fun x hx => r_lookup hF rfl rfl rfl hx) ?_; clear hF; clear a; intro a hF
      refine GL.val (v := .tuple #[.int .i64 t57, .bool t58]) (i := 6) hF hS rfl rfl (by kernel_rfl) rfl rfl rfl rfl (fun x => r_move hF rfl rfl) ?_; clear hF; clear a; intro a hF
      refine GL.val (v := .int .i64 t57) (i := 7) hF hS rfl rfl (by kernel_rfl) rfl rfl rfl rfl (fun x => r_extract hF rfl rfl rfl) ?_; clear hF; clear a; intro a hF
      refine GL.val (v := .bool t58) (i := 8) hF hS rfl rfl (by kernel_rfl) rfl rfl rfl rfl (fun x => r_extract hF rfl rfl rfl) ?_; clear hF; clear a; intro a hF
      refine GL.val (v := .int .i64 t57) (i := 9) hF hS rfl rfl (by kernel_rfl) rfl rfl rfl rfl (fun x => r_assign hF rfl rfl) ?_; clear hF; clear a; intro a hF
      refine GL.val (v := .bool t58) (i := 10) hF hS rfl rfl (by kernel_rfl) rfl rfl rfl rfl (fun x => r_assign hF rfl rfl) ?_; clear hF; clear a; intro a hF
      refine GL.done (by kernel_rfl) (hK52 _ _ ?_)
      clear hK52 K51
      refine seq_region fun K59 hK60 => ?_
      obtain ⟨J63, hJ, h⟩ := jn_open h
      have jn64 : ∀ (v61 : Bool) (w62 : World) a, Fr 59 a [(0, .pointer a0), (1, a1.v), (7, .pointer r12), (8, .int .i64 s23), (58, .bool v61)] → J63 v61 w62 → K59 a w62 := by
        clear hF
        intro v61 w62 a hF h; replace h := hJ _ _ h; refine hK60 _ _ ?_; clear hJ hK60 K59
        obtain ⟨ht, hf⟩ := h
        refine cond_ hF rfl (fun hc => ?_) (fun hc => ?_)
        · replace h := ht hc; clear ht hf
          refine seq_region fun K65 hK66 => ?_
          refine RL.val  hF rfl rfl rfl (r_assign hF rfl rfl) ?_; clear hF; clear a; intro a hF
          refine RL.nil (hK66 _ _ ?_)
          clear hK66 K65
          refine wp_ret ?_
          exact ret_of hF (res1 hF rfl rfl) ⟨_, rfl, h⟩
        · replace h := hf hc; clear ht hf
          refine wp_skip ?_
          exact jn38 () _ _ (hF.sub rfl) h
      clear hJ hK60
      refine RL.val  hF rfl rfl rfl (r_move hF rfl rfl) ?_; clear hF; clear a; intro a hF
      refine RL.val  hF rfl rfl rfl (r_move hF rfl rfl) ?_; clear hF; clear a; intro a hF
      obtain ⟨ht, hf⟩ := h
      rcases bool_cases t58 with hg67 | hg67
      · replace h := ht hg67; clear ht hf
        refine RL.gval  hF rfl rfl (lkb rfl hg67) rfl rfl (r_move hF rfl rfl) ?_; clear hF; clear a; intro a hF
        obtain ⟨p68, hpp68, h⟩ := h
        refine RL.gval  hF rfl rfl (lkb rfl hg67) rfl rfl (r_nilCheck hF rfl (lkp rfl hpp68)) ?_; clear hF; clear a; intro a hF
        refine RL.gval  hF rfl rfl (lkb rfl hg67) rfl rfl (r_fieldAddr hF rfl rfl Tryd.runUnderlying62 rfl Tryd.sizeOf60 rfl) ?_; clear hF; clear a; intro a hF
        obtain ⟨t69, hct69, h⟩ := h
        refine RL.gval  hF rfl rfl (lkb rfl hg67) rfl rfl (r_load hF rfl rfl Tryd.isAgg60 hct69) ?_; clear hF; clear a; intro a hF
        refine RL.gval  hF rfl rfl (lkb rfl hg67) rfl rfl (r_move hF rfl rfl) ?_; clear hF; clear a; intro a hF
        obtain ⟨b71, p70, hb_, h0_, h1_, hp_, h⟩ := h
        refine RL.gval (v := .pointer (some p70)) (w' := w53) hF rfl rfl (lkb rfl hg67) rfl rfl (by rw [hp_]; exact r_indexAddr hF rfl (lks rfl hb_) rfl Tryd.runUnderlying60 Tryd.sizeOf4 h0_ h1_) ?_; clear hF; clear a; intro a hF
        obtain ⟨t72, hct72, h⟩ := h
        refine RL.gval  hF rfl rfl (lkb rfl hg67) rfl rfl (r_load hF rfl rfl Tryd.isAgg4 hct72) ?_; clear hF; clear a; intro a hF
        refine RL.gval  hF rfl rfl (lkb rfl hg67) rfl rfl (r_not hF rfl rfl) ?_; clear hF; clear a; intro a hF
        refine RL.val (v := .bool (!t72)) (w' := w53) hF rfl rfl rfl (r_pick hF rfl rfl rfl rfl (fun _ => rfl) (fun e => absurd (hg67.symm.trans e) (by decide))) ?_; clear hF; clear a; intro a hF
        refine RL.val  hF rfl rfl rfl (r_move hF rfl rfl) ?_; clear hF; clear a; intro a hF
        obtain ⟨ht, hf⟩ := h
        rcases bool_cases (!t72) with hg73 | hg73
        · replace h := ht hg73; clear ht hf
          refine RL.skip hF rfl rfl (lkb rfl hg73) (.inl rfl) rfl rfl ?_; clear hF; clear a; intro a hF
          refine RL.skip hF rfl rfl (lkb rfl hg73) (.inl rfl) rfl rfl ?_; clear hF; clear a; intro a hF
          refine RL.skip hF rfl rfl (lkb rfl hg73) (.inl rfl) rfl rfl ?_; clear hF; clear a; intro a hF
          refine RL.skip hF rfl rfl rfl (.inr rfl) rfl rfl ?_; clear hF; clear a; intro a hF
          refine RL.skip hF rfl rfl rfl (.inr rfl) rfl rfl ?_; clear hF; clear a; intro a hF
          refine RL.skip hF rfl rfl (lkb rfl hg73) (.inl rfl) rfl rfl ?_; clear hF; clear a; intro a hF
          refine RL.val (v := .bool true) (w' := w53) hF rfl rfl rfl (r_pick hF rfl rfl rfl rfl (fun _ => rfl) (fun e => absurd (hg73.symm.trans e) (by decide))) ?_; clear hF; clear a; intro a hF
          refine RL.nil ?_
          exact jn64 true _ _ (hF.sub rfl) h
        · replace h := hf hg73; clear ht hf
          refine RL.gval  hF rfl rfl (lkb rfl hg73) rfl rfl (r_move hF rfl rfl) ?_; clear hF; clear a; intro a hF
          refine RL.gval  hF rfl rfl (lkb rfl hg73) rfl rfl (r_not hF rfl rfl) ?_; clear hF; clear a; intro a hF
          refine RL.gval  hF rfl rfl (lkb rfl hg73) rfl rfl (r_move hF rfl rfl) ?_; clear hF; clear a; intro a hF
          obtain ⟨ht, hf⟩ := h
          rcases bool_cases (!t58) with hg74 | hg74
          · replace h := ht hg74; clear ht hf
            obtain ⟨t75, hct75, h⟩ := h
            refine RL.gval  hF rfl rfl (lkb rfl hg74) rfl rfl (r_loadA hF rfl rfl Tryd.isAgg26 Tryd.sizeOf26 hct75) ?_; clear hF; clear a; intro a hF
            refine RL.gcall hF rfl rfl (lkb rfl hg74) rfl rfl (r_call (xs := [.agg t75]) hF rfl rfl Tryd.call20) (CallsV.mono h ?_)
            clear h; rintro _ w76 ⟨r77, rfl, h⟩; clear hF; clear a; intro a hF
            refine RL.gval (v := .bool r77) (w' := w76) hF rfl rfl (lkb rfl hg73) rfl rfl (r_pick hF rfl rfl rfl rfl (fun _ => rfl) (fun e => absurd (hg74.symm.trans e) (by decide))) ?_; clear hF; clear a; intro a hF
            refine RL.val (v := .bool r77) (w' := w76) hF rfl rfl rfl (r_pick hF rfl rfl rfl rfl (fun e => absurd (hg73.symm.trans e) (by decide)) (fun _ => rfl)) ?_; clear hF; clear a; intro a hF
            refine RL.nil ?_
            exact jn64 r77 _ _ (hF.sub rfl) h
          · replace h := hf hg74; clear ht hf
            refine RL.skip hF rfl rfl (lkb rfl hg74) (.inl rfl) rfl rfl ?_; clear hF; clear a; intro a hF
            refine RL.skip hF rfl rfl (lkb rfl hg74) (.inl rfl) rfl rfl ?_; clear hF; clear a; intro a hF
            refine RL.gval (v := .bool false) (w' := w53) hF rfl rfl (lkb rfl hg73) rfl rfl (r_pick hF rfl rfl rfl rfl (fun e => absurd (hg74.symm.trans e) (by decide)) (fun _ => rfl)) ?_; clear hF; clear a; intro a hF
            refine RL.val (v := .bool false) (w' := w53) hF rfl rfl rfl (r_pick hF rfl rfl rfl rfl (fun e => absurd (hg73.symm.trans e) (by decide)) (fun _ => rfl)) ?_; clear hF; clear a; intro a hF
            refine RL.nil ?_
            exact jn64 false _ _ (hF.sub rfl) h
      · replace h := hf hg67; clear ht hf
        refine RL.skip hF rfl rfl (lkb rfl hg67) (.inl rfl) rfl rfl ?_; clear hF; clear a; intro a hF
        refine RL.skip hF rfl rfl (lkb rfl hg67) (.inl rfl) rfl rfl ?_; clear hF; clear a; intro a hF
        refine RL.skip hF rfl rfl (lkb rfl hg67) (.inl rfl) rfl rfl ?_; clear hF; clear a; intro a hF
        refine RL.skip hF rfl rfl (lkb rfl hg67) (.inl rfl) rfl rfl ?_; clear hF; clear a; intro a hF
        refine RL.skip hF rfl rfl (lkb rfl hg67) (.inl rfl) rfl rfl ?_; clear hF; clear a; intro a hF
        refine RL.skip hF rfl rfl (lkb rfl hg67) (.inl rfl) rfl rfl ?_; clear hF; clear a; intro a hF
        refine RL.skip hF rfl rfl (lkb rfl hg67) (.inl rfl) rfl rfl ?_; clear hF; clear a; intro a hF
        refine RL.skip hF rfl rfl (lkb rfl hg67) (.inl rfl) rfl rfl ?_; clear hF; clear a; intro a hF
        refine RL.val (v := .bool false) (w' := w53) hF rfl rfl rfl (r_pick hF rfl rfl rfl rfl (fun e => absurd (hg67.symm.trans e) (by decide)) (fun _ => rfl)) ?_; clear hF; clear a; intro a hF
        refine RL.val  hF rfl rfl rfl (r_move hF rfl rfl) ?_; clear hF; clear a; intro a hF
        refine RL.gval  hF rfl rfl rfl rfl rfl (r_move hF rfl rfl) ?_; clear hF; clear a; intro a hF
        refine RL.gval  hF rfl rfl rfl rfl rfl (r_not hF rfl rfl) ?_; clear hF; clear a; intro a hF
        refine RL.gval  hF rfl rfl rfl rfl rfl (r_move hF rfl rfl) ?_; clear hF; clear a; intro a hF
        obtain ⟨ht, hf⟩ := h
        rcases bool_cases (!t58) with hg78 | hg78
        · replace h := ht hg78; clear ht hf
          obtain ⟨t79, hct79, h⟩ := h
          refine RL.gval  hF rfl rfl (lkb rfl hg78) rfl rfl (r_loadA hF rfl rfl Tryd.isAgg26 Tryd.sizeOf26 hct79) ?_; clear hF; clear a; intro a hF
          refine RL.gcall hF rfl rfl (lkb rfl hg78) rfl rfl (r_call (xs := [.agg t79]) hF rfl rfl Tryd.call20) (CallsV.mono h ?_)
          clear h; rintro _ w80 ⟨r81, rfl, h⟩; clear hF; clear a; intro a hF
          refine RL.gval (v := .bool r81) (w' := w80) hF rfl rfl rfl rfl rfl (r_pick hF rfl rfl rfl rfl (fun _ => rfl) (fun e => absurd (hg78.symm.trans e) (by decide))) ?_; clear hF; clear a; intro a hF
          refine RL.val (v := .bool r81) (w' := w80) hF rfl rfl rfl (r_pick hF rfl rfl rfl rfl (fun e => absurd e (by decide)) (fun _ => rfl)) ?_; clear hF; clear a; intro a hF
          refine RL.nil ?_
          exact jn64 r81 _ _ (hF.sub rfl) h
        · replace h := hf hg78; clear ht hf
          refine RL.skip hF rfl rfl (lkb rfl hg78) (.inl rfl) rfl rfl ?_; clear hF; clear a; intro a hF
          refine RL.skip hF rfl rfl (lkb rfl hg78) (.inl rfl) rfl rfl ?_; clear hF; clear a; intro a hF
          refine RL.gval (v := .bool false) (w' := w53) hF rfl rfl rfl rfl rfl (r_pick hF rfl rfl rfl rfl (fun e => absurd (hg78.symm.trans e) (by decide)) (fun _ => rfl)) ?_; clear hF; clear a; intro a hF
          refine RL.val (v := .bool false) (w' := w53) hF rfl rfl rfl (r_pick hF rfl rfl rfl rfl (fun e => absurd e (by decide)) (fun _ => rfl)) ?_; clear hF; clear a; intro a hF
          refine RL.nil ?_
          exact jn64 false _ _ (hF.sub rfl) h
    clear hJ
    refine seq_region fun K82 hK83 => ?_
    refine RL.val  hF rfl rfl rfl (r_move hF rfl rfl) ?_; clear hF; clear a; intro a hF
    refine RL.val  hF rfl rfl rfl (r_add hF rfl rfl rfl) ?_; clear hF; clear a; intro a hF
    refine RL.val  hF rfl rfl rfl (r_move hF rfl rfl) ?_; clear hF; clear a; intro a hF
    refine RL.val  hF rfl rfl rfl (r_len_slice hF rfl rfl Tryd.runUnderlying22) ?_; clear hF; clear a; intro a hF
    refine RL.val  hF rfl rfl rfl (r_leq hF rfl rfl rfl) ?_; clear hF; clear a; intro a hF
    refine RL.nil (hK83 _ _ ?_)
    clear hK83 K82
    obtain ⟨ht, hf⟩ := h
    refine cond_ hF rfl (fun hc => ?_) (fun hc => ?_)
    · replace h := ht hc; clear ht hf
      refine wp_skip ?_
      exact jn32 () _ _ (hF.sub rfl) h
    · replace h := hf hc; clear ht hf
      refine wp_exit ?_
      exact jn18 () _ _ (hF.sub rfl) h
  clear hJ
  refine seq_region fun K84 hK85 => ?_
  refine RL.val  hF rfl rfl rfl (r_move hF rfl rfl) ?_; clear hF; clear a; intro a hF
  refine RL.call hF rfl rfl rfl (r_call (xs := [.pointer a0]) hF rfl rfl Tryd.call17) (CallsV.mono h ?_)
  clear h; rintro _ w86 ⟨r87, rfl, h⟩; clear hF; clear a; intro a hF
  refine RL.nil (hK85 _ _ ?_)
  clear hK85 K84
  obtain ⟨ht, hf⟩ := h
  refine cond_ hF rfl (fun hc => ?_) (fun hc => ?_)
  · replace h := ht hc; clear ht hf
    refine seq_region fun K88 hK89 => ?_
    refine RL.val  hF rfl rfl rfl (r_assign hF rfl rfl) ?_; clear hF; clear a; intro a hF
    refine RL.nil (hK89 _ _ ?_)
    clear hK89 K88
    refine wp_ret ?_
    exact ret_of hF (res1 hF rfl rfl) ⟨_, rfl, h⟩
  · replace h := hf hc; clear ht hf
    refine wp_skip ?_
    exact jn8 () _ _ (hF.sub rfl) h


end Go.Proofs.YtkehoneadedmhaaDoor
