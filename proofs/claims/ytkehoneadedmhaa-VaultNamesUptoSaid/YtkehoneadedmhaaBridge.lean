/-
  Printed by a program: the plain texts of the functions, and their ties to the code.
-/
import Derived.Test.YtkehoneadedmhaaPlain
namespace Go.Proofs.Ytkehoneadedmhaa
open Go Go.Sh
set_option linter.unusedVariables false
set_option linter.unusedSimpArgs false
set_option maxRecDepth 20000 in
theorem br19 {a0 : Int} {w : World} {K : Int → World → Prop} (h : sh19 a0 w K) : C19 a0 w K := by
  unfold sh19 at h
  refine enter (n := 21) (l := [(0, .int .u64 a0)]) 20 Try.func19 rfl _ rfl rfl rfl fun a hF => ?_
  refine seq_region fun K1 hK2 => ?_
  refine RL.val  hF rfl rfl rfl (r_assign hF rfl rfl) ?_; clear hF; clear a; intro a hF
  refine RL.nil (hK2 _ _ ?_)
  clear hK2 K1
  refine seq_region fun K3 hK4 => ?_
  refine RL.val  hF rfl rfl rfl (r_move hF rfl rfl) ?_; clear hF; clear a; intro a hF
  refine RL.val  hF rfl rfl rfl (r_add hF rfl rfl rfl) ?_; clear hF; clear a; intro a hF
  refine RL.val  hF rfl rfl rfl (r_mul hF rfl rfl rfl) ?_; clear hF; clear a; intro a hF
  refine RL.val  hF rfl rfl rfl (r_assign hF rfl rfl) ?_; clear hF; clear a; intro a hF
  refine RL.nil (hK4 _ _ ?_)
  clear hK4 K3
  refine seq_region fun K5 hK6 => ?_
  refine RL.val  hF rfl rfl rfl (r_move hF rfl rfl) ?_; clear hF; clear a; intro a hF
  refine RL.val  hF rfl rfl rfl (r_move hF rfl rfl) ?_; clear hF; clear a; intro a hF
  refine RL.val (v := .int .u64 (shrZ .u64 (IntKind.u64.wrap ((IntKind.u64.wrap (a0 + 1)) * 11400714819323198485)) 30)) (w' := w) hF rfl rfl rfl (r_shr hF rfl rfl rfl (by decide)) ?_; clear hF; clear a; intro a hF
  refine RL.val  hF rfl rfl rfl (r_xor hF rfl rfl rfl) ?_; clear hF; clear a; intro a hF
  refine RL.val  hF rfl rfl rfl (r_mul hF rfl rfl rfl) ?_; clear hF; clear a; intro a hF
  refine RL.val  hF rfl rfl rfl (r_assign hF rfl rfl) ?_; clear hF; clear a; intro a hF
  refine RL.nil (hK6 _ _ ?_)
  clear hK6 K5
  refine seq_region fun K7 hK8 => ?_
  refine RL.val  hF rfl rfl rfl (r_move hF rfl rfl) ?_; clear hF; clear a; intro a hF
  refine RL.val  hF rfl rfl rfl (r_move hF rfl rfl) ?_; clear hF; clear a; intro a hF
  refine RL.val (v := .int .u64 (shrZ .u64 (IntKind.u64.wrap ((bitsZ .xor .u64 (IntKind.u64.wrap ((IntKind.u64.wrap (a0 + 1)) * 11400714819323198485)) (shrZ .u64 (IntKind.u64.wrap ((IntKind.u64.wrap (a0 + 1)) * 11400714819323198485)) 30)) * 13787848793156543929)) 27)) (w' := w) hF rfl rfl rfl (r_shr hF rfl rfl rfl (by decide)) ?_; clear hF; clear a; intro a hF
  refine RL.val  hF rfl rfl rfl (r_xor hF rfl rfl rfl) ?_; clear hF; clear a; intro a hF
  refine RL.val  hF rfl rfl rfl (r_mul hF rfl rfl rfl) ?_; clear hF; clear a; intro a hF
  refine RL.val  hF rfl rfl rfl (r_assign hF rfl rfl) ?_; clear hF; clear a; intro a hF
  refine RL.nil (hK8 _ _ ?_)
  clear hK8 K7
  refine seq_region fun K9 hK10 => ?_
  refine RL.val  hF rfl rfl rfl (r_move hF rfl rfl) ?_; clear hF; clear a; intro a hF
  refine RL.val  hF rfl rfl rfl (r_move hF rfl rfl) ?_; clear hF; clear a; intro a hF
  refine RL.val (v := .int .u64 (shrZ .u64 (IntKind.u64.wrap ((bitsZ .xor .u64 (IntKind.u64.wrap ((bitsZ .xor .u64 (IntKind.u64.wrap ((IntKind.u64.wrap (a0 + 1)) * 11400714819323198485)) (shrZ .u64 (IntKind.u64.wrap ((IntKind.u64.wrap (a0 + 1)) * 11400714819323198485)) 30)) * 13787848793156543929)) (shrZ .u64 (IntKind.u64.wrap ((bitsZ .xor .u64 (IntKind.u64.wrap ((IntKind.u64.wrap (a0 + 1)) * 11400714819323198485)) (shrZ .u64 (IntKind.u64.wrap ((IntKind.u64.wrap (a0 + 1)) * 11400714819323198485)) 30)) * 13787848793156543929)) 27)) * 10723151780598845931)) 31)) (w' := w) hF rfl rfl rfl (r_shr hF rfl rfl rfl (by decide)) ?_; clear hF; clear a; intro a hF
  refine RL.val  hF rfl rfl rfl (r_xor hF rfl rfl rfl) ?_; clear hF; clear a; intro a hF
  refine RL.val  hF rfl rfl rfl (r_assign hF rfl rfl) ?_; clear hF; clear a; intro a hF
  refine RL.nil (hK10 _ _ ?_)
  clear hK10 K9
  refine wp_ret ?_
  exact ret_of hF (res1 hF rfl rfl) ⟨_, rfl, h⟩

set_option maxRecDepth 20000 in
theorem br13 {a0 : Int} {w : World} {K : Array Value → World → Prop} (h : sh13 a0 w K) : C13 a0 w K := by
  unfold sh13 at h
  refine enter (n := 32) (l := [(0, .int .i64 a0)]) 31 Try.func13 rfl _ rfl rfl rfl fun a hF => ?_
  refine seq_region fun K1 hK2 => ?_
  obtain ⟨p3, w4, hp_, hw_, h⟩ := h
  refine RL.val (v := .pointer (some p3)) (w' := w4) hF rfl rfl rfl (by rw [hp_, hw_]; exact r_alloc rfl Try.zeroValue27 rfl) ?_; clear hF; clear a; intro a hF
  refine RL.nil (hK2 _ _ ?_)
  clear hK2 K1
  refine seq_k fun K5 hK6 => ?_
  obtain ⟨J, hJ, h⟩ := jn_open h
  have jn10 : ∀ (v7 : Unit) (w8 : World) a, Fr 32 a [(2, .pointer (some p3))] → J v7 w8 → K5 a w8 := by
    intro v7 w8 a hF h
    replace h := hJ _ _ h
    clear hJ
    refine hK6 _ _ ?_
    refine seq_region fun K11 hK12 => ?_
    obtain ⟨t13, hct13, h⟩ := h
    refine RL.val  hF rfl rfl rfl (r_loadA hF rfl rfl Try.isAgg27 Try.sizeOf27 hct13) ?_; clear hF; clear a; intro a hF
    obtain ⟨w14, hs1_, hs2_, hs3_, hs4_, h⟩ := h
    refine RL.unit (w' := w14) hF rfl rfl (by rw [hs4_]; exact r_storeA hF rfl rfl rfl Try.sizeOf27 hs1_ hs2_ hs3_) ?_; clear hF; clear a; intro a hF
    refine RL.nil (hK12 _ _ ?_)
    clear hK12 K11
    refine wp_ret ?_
    obtain ⟨t15, hct15, h⟩ := h
    exact ret_of hF (res1 hF rfl ⟨_, rfl, ldAg Try.isAgg27 Try.sizeOf27 hct15⟩) ⟨_, rfl, h⟩
  clear hJ
  refine seq_region fun K16 hK17 => ?_
  refine RL.val  hF rfl rfl rfl (r_move hF rfl rfl) ?_; clear hF; clear a; intro a hF
  refine RL.nil (hK17 _ _ ?_)
  clear hK17 K16
  refine wp_block ?_
  refine loop_ (fun (s18 : Int) => [(0, .int .i64 a0), (2, .pointer (some p3)), (6, .int .i64 s18)]) (hF.sub rfl) h ?_
  clear hF h
  intro s18 w19 N20 KL hN21 h a hF
  refine seq_region fun K22 hK23 => ?_
  refine RL.val  hF rfl rfl rfl (r_lss hF rfl rfl rfl) ?_; clear hF; clear a; intro a hF
  refine RL.nil (hK23 _ _ ?_)
  clear hK23 K22
  refine seq_k fun K24 hK25 => ?_
  obtain ⟨J, hJ, h⟩ := jn_open h
  have jn29 : ∀ (v26 : Unit) (w27 : World) a, Fr 32 a [(0, .int .i64 a0), (2, .pointer (some p3)), (6, .int .i64 s18)] → J v26 w27 → K24 a w27 := by
    intro v26 w27 a hF h
    replace h := hJ _ _ h
    clear hJ
    refine hK25 _ _ ?_
    refine seq_k fun K30 hK31 => ?_
    obtain ⟨J, hJ, h⟩ := jn_open h
    have jn35 : ∀ (v32 : Unit) (w33 : World) a, Fr 32 a [(0, .int .i64 a0), (2, .pointer (some p3)), (6, .int .i64 s18)] → J v32 w33 → K30 a w33 := by
      intro v32 w33 a hF h
      replace h := hJ _ _ h
      clear hJ
      refine hK31 _ _ ?_
      refine end_region fun K36 hK37 => ?_
      refine RL.val  hF rfl rfl rfl (r_add hF rfl rfl rfl) ?_; clear hF; clear a; intro a hF
      refine RL.val  hF rfl rfl rfl (r_move hF rfl rfl) ?_; clear hF; clear a; intro a hF
      refine RL.nil (hK37 _ _ ?_)
      clear hK37 K36
      exact hN21 (IntKind.i64.wrap (s18 + 1)) _ _ (hF.sub rfl) h
    clear hJ
    refine wp_block ?_
    refine seq_region fun K38 hK39 => ?_
    refine RL.val  hF rfl rfl rfl (r_move hF rfl rfl) ?_; clear hF; clear a; intro a hF
    refine RL.val  hF rfl rfl rfl (r_assign hF rfl rfl) ?_; clear hF; clear a; intro a hF
    refine RL.nil (hK39 _ _ ?_)
    clear hK39 K38
    refine seq_region fun K40 hK41 => ?_
    refine RL.val  hF rfl rfl rfl (r_move hF rfl rfl) ?_; clear hF; clear a; intro a hF
    refine RL.val  hF rfl rfl rfl (r_mul hF rfl rfl rfl) ?_; clear hF; clear a; intro a hF
    refine RL.val  hF rfl rfl rfl (r_move hF rfl rfl) ?_; clear hF; clear a; intro a hF
    refine RL.val  hF rfl rfl rfl (r_add hF rfl rfl rfl) ?_; clear hF; clear a; intro a hF
    refine RL.val  hF rfl rfl rfl (r_convInt hF rfl rfl Try.runUnderlying3 Try.runUnderlying55) ?_; clear hF; clear a; intro a hF
    refine RL.call hF rfl rfl rfl (r_call (xs := [.int .u64 (IntKind.u64.wrap (IntKind.i64.wrap ((IntKind.i64.wrap (2 * a0)) + s18)))]) hF rfl rfl Try.call19) (CallsV.mono h ?_)
    clear h; rintro _ w42 ⟨r43, rfl, h⟩; clear hF; clear a; intro a hF
    refine RL.val  hF rfl rfl rfl (r_assign hF rfl rfl) ?_; clear hF; clear a; intro a hF
    refine RL.nil (hK41 _ _ ?_)
    clear hK41 K40
    refine seq_region fun K44 hK45 => ?_
    refine RL.val  hF rfl rfl rfl (r_move hF rfl rfl) ?_; clear hF; clear a; intro a hF
    refine RL.nil (hK45 _ _ ?_)
    clear hK45 K44
    refine wp_block ?_
    refine loop_ (fun (s46 : Int) => [(0, .int .i64 a0), (2, .pointer (some p3)), (3, .int .i64 s18), (4, .int .u64 r43), (6, .int .i64 s18), (15, .int .i64 s46)]) (hF.sub rfl) h ?_
    clear hF h
    intro s46 w47 N48 KL hN49 h a hF
    refine seq_region fun K50 hK51 => ?_
    refine RL.val  hF rfl rfl rfl (r_lss hF rfl rfl rfl) ?_; clear hF; clear a; intro a hF
    refine RL.nil (hK51 _ _ ?_)
    clear hK51 K50
    refine seq_k fun K52 hK53 => ?_
    obtain ⟨J, hJ, h⟩ := jn_open h
    have jn57 : ∀ (v54 : Unit) (w55 : World) a, Fr 32 a [(0, .int .i64 a0), (2, .pointer (some p3)), (3, .int .i64 s18), (4, .int .u64 r43), (6, .int .i64 s18), (15, .int .i64 s46)] → J v54 w55 → K52 a w55 := by
      intro v54 w55 a hF h
      replace h := hJ _ _ h
      clear hJ
      refine hK53 _ _ ?_
      refine seq_k fun K58 hK59 => ?_
      obtain ⟨J, hJ, h⟩ := jn_open h
      have jn63 : ∀ (v60 : Unit) (w61 : World) a, Fr 32 a [(0, .int .i64 a0), (2, .pointer (some p3)), (3, .int .i64 s18), (4, .int .u64 r43), (6, .int .i64 s18), (15, .int .i64 s46)] → J v60 w61 → K58 a w61 := by
        intro v60 w61 a hF h
        replace h := hJ _ _ h
        clear hJ
        refine hK59 _ _ ?_
        refine end_region fun K64 hK65 => ?_
        refine RL.val  hF rfl rfl rfl (r_add hF rfl rfl rfl) ?_; clear hF; clear a; intro a hF
        refine RL.val  hF rfl rfl rfl (r_move hF rfl rfl) ?_; clear hF; clear a; intro a hF
        refine RL.nil (hK65 _ _ ?_)
        clear hK65 K64
        exact hN49 (IntKind.i64.wrap (s46 + 1)) _ _ (hF.sub rfl) h
      clear hJ
      refine wp_block ?_
      refine seq_region fun K66 hK67 => ?_
      refine RL.val  hF rfl rfl rfl (r_move hF rfl rfl) ?_; clear hF; clear a; intro a hF
      refine RL.val  hF rfl rfl rfl (r_assign hF rfl rfl) ?_; clear hF; clear a; intro a hF
      refine RL.nil (hK67 _ _ ?_)
      clear hK67 K66
      refine end_region fun K68 hK69 => ?_
      refine RL.val  hF rfl rfl rfl (r_move hF rfl rfl) ?_; clear hF; clear a; intro a hF
      refine RL.val  hF rfl rfl rfl (r_mul hF rfl rfl rfl) ?_; clear hF; clear a; intro a hF
      refine RL.val  hF rfl rfl rfl (r_move hF rfl rfl) ?_; clear hF; clear a; intro a hF
      refine RL.val  hF rfl rfl rfl (r_add hF rfl rfl rfl) ?_; clear hF; clear a; intro a hF
      refine RL.val  hF rfl rfl rfl (r_move hF rfl rfl) ?_; clear hF; clear a; intro a hF
      refine RL.val  hF rfl rfl rfl (r_move hF rfl rfl) ?_; clear hF; clear a; intro a hF
      refine RL.val  hF rfl rfl rfl (r_mul hF rfl rfl rfl) ?_; clear hF; clear a; intro a hF
      refine RL.val  hF rfl rfl rfl (r_sub hF rfl rfl rfl) ?_; clear hF; clear a; intro a hF
      obtain ⟨h0_, h⟩ := h
      refine RL.val  hF rfl rfl rfl (r_shr hF rfl rfl rfl h0_) ?_; clear hF; clear a; intro a hF
      refine RL.val  hF rfl rfl rfl (r_convInt hF rfl rfl Try.runUnderlying55 Try.runUnderlying5) ?_; clear hF; clear a; intro a hF
      obtain ⟨p70, h0_, h1_, hp_, h⟩ := h
      refine RL.val (v := .pointer (some p70)) (w' := w55) hF rfl rfl rfl (by rw [hp_]; exact r_indexAddrA hF rfl rfl rfl Try.runUnderlying27 Try.sizeOf5 h0_ h1_) ?_; clear hF; clear a; intro a hF
      obtain ⟨u_, w71, hs1_, hs2_, hs3_, h⟩ := h
      refine RL.unit (w' := w71) hF rfl rfl (by rw [hs3_]; exact r_store hF rfl rfl rfl rfl Try.sizeOf5 hs1_ hs2_) ?_; clear hF; clear a; intro a hF
      refine RL.nil (hK69 _ _ ?_)
      clear hK69 K68
      exact jn63 () _ _ (hF.sub rfl) h
    clear hJ
    obtain ⟨ht, hf⟩ := h
    refine cond_ hF rfl (fun hc => ?_) (fun hc => ?_)
    · replace h := ht hc; clear ht hf
      refine wp_skip ?_
      exact jn57 () _ _ (hF.sub rfl) h
    · replace h := hf hc; clear ht hf
      refine wp_exit ?_
      exact jn35 () _ _ (hF.sub rfl) h
  clear hJ
  obtain ⟨ht, hf⟩ := h
  refine cond_ hF rfl (fun hc => ?_) (fun hc => ?_)
  · replace h := ht hc; clear ht hf
    refine wp_skip ?_
    exact jn29 () _ _ (hF.sub rfl) h
  · replace h := hf hc; clear ht hf
    refine wp_exit ?_
    exact jn10 () _ _ (hF.sub rfl) h

set_option maxRecDepth 20000 in
theorem br9 {a0 : Option Addr} {a1 : Array Value} {w : World} {K : Array Value → World → Prop} (h : sh9 a0 a1 w K) : C9 a0 a1 w K := by
  unfold sh9 at h
  refine enter (n := 55) (l := [(0, .pointer a0), (1, .agg a1)]) 53 Try.func9 rfl _ rfl rfl rfl fun a hF => ?_
  refine seq_region fun K1 hK2 => ?_
  obtain ⟨p3, w4, hp_, hw_, h⟩ := h
  refine RL.val (v := .pointer (some p3)) (w' := w4) hF rfl rfl rfl (by rw [hp_, hw_]; exact r_box hF rfl rfl rfl) ?_; clear hF; clear a; intro a hF
  obtain ⟨p5, w6, hp_, hw_, h⟩ := h
  refine RL.val (v := .pointer (some p5)) (w' := w6) hF rfl rfl rfl (by rw [hp_, hw_]; exact r_alloc rfl Try.zeroValue27 rfl) ?_; clear hF; clear a; intro a hF
  refine RL.nil (hK2 _ _ ?_)
  clear hK2 K1
  refine seq_k fun K7 hK8 => ?_
  obtain ⟨J, hJ, h⟩ := jn_open h
  have jn12 : ∀ (v9 : Unit) (w10 : World) a, Fr 55 a [(0, .pointer a0), (3, .pointer (some p3)), (4, .pointer (some p5))] → J v9 w10 → K7 a w10 := by
    intro v9 w10 a hF h
    replace h := hJ _ _ h
    clear hJ
    refine hK8 _ _ ?_
    refine seq_region fun K13 hK14 => ?_
    refine RL.val  hF rfl rfl rfl (r_move hF rfl rfl) ?_; clear hF; clear a; intro a hF
    obtain ⟨p15, hpp15, h⟩ := h
    refine RL.val  hF rfl rfl rfl (r_nilCheck hF rfl (lkp rfl hpp15)) ?_; clear hF; clear a; intro a hF
    refine RL.val  hF rfl rfl rfl (r_fieldAddr0 hF rfl rfl Try.runUnderlying40 rfl Try.sizeOf38 rfl) ?_; clear hF; clear a; intro a hF
    obtain ⟨t16, hct16, h⟩ := h
    refine RL.val  hF rfl rfl rfl (r_load hF rfl rfl Try.isAgg38 hct16) ?_; clear hF; clear a; intro a hF
    refine RL.val  hF rfl rfl rfl (r_len_slice hF rfl rfl Try.runUnderlying38) ?_; clear hF; clear a; intro a hF
    refine RL.val  hF rfl rfl rfl (r_assign hF rfl rfl) ?_; clear hF; clear a; intro a hF
    refine RL.nil (hK14 _ _ ?_)
    clear hK14 K13
    refine seq_draw 1216 #[0, 0, 2, 6, 14, 0, 32, 126, 255, 511, 1023] 11 mo rfl (by kernel_rfl) (by kernel_rfl) fun hS K17 hK18 => ?_
    obtain ⟨w19, hw, h⟩ := h; rw [← hw]; clear hw
    refine GL.val (v := .pointer a0) (i := 0) hF hS rfl rfl (by kernel_rfl) rfl rfl rfl rfl (fun x => r_move hF rfl rfl) ?_; clear hF; clear a; intro a hF
    refine GL.val (v := .pointer a0) (i := 1) hF hS rfl rfl (by kernel_rfl) rfl rfl rfl rfl (fun x => r_move hF rfl rfl) ?_; clear hF; clear a; intro a hF
    obtain ⟨p20, hpp20, h⟩ := h
    refine GL.val (v := .pointer (some p20)) (i := 2) hF hS rfl rfl (by kernel_rfl) rfl rfl rfl rfl (fun x => r_nilCheck hF rfl (lkp rfl hpp20)) ?_; clear hF; clear a; intro a hF
    refine GL.val (v := .pointer (some p20)) (i := 3) hF hS rfl rfl (by kernel_rfl) rfl rfl rfl rfl (fun x => r_fieldAddr0 hF rfl rfl Try.runUnderlying40 rfl Try.sizeOf38 rfl) ?_; clear hF; clear a; intro a hF
    obtain ⟨t21, hct21, h⟩ := h
    refine GL.read (v := t21.v) (i := 4) hF (fun x => World.cell? x p20 = some (t21.v)) hS rfl rfl (by kernel_rfl) rfl rfl rfl rfl hct21 (fun x hx => r_load hF rfl rfl Try.isAgg38 hx) ?_; clear hF; clear a; intro a hF
    obtain ⟨t22, hct22, h⟩ := h
    refine GL.read (v := .agg t22) (i := 5) hF (fun x => CellsAt x p3 7 t22) hS rfl rfl (by kernel_rfl) rfl rfl rfl rfl hct22 (fun x hx => r_loadA hF rfl rfl Try.isAgg43 Try.sizeOf43 hx) ?_; clear hF; clear a; intro a hF
    refine GL.act (i := 6) (pend' := [(4, fun x => World.cell? x p20 = some (t21.v))]) hS (by kernel_rfl) rfl (by kernel_rfl) ?_
    obtain ⟨t24, w23, hc_, h⟩ := h
    obtain ⟨hk25, h⟩ := h
    refine op_val  hF rfl rfl rfl rfl (r_buildSlice (xs := [(0, .agg t22)]) hF rfl rfl hc_) ⟨hk25, trivial⟩ ?_; clear hF; clear a; intro a hF
    refine GL.act (i := 7) (pend' := []) hS (by kernel_rfl) rfl (by kernel_rfl) ?_
    obtain ⟨t27, w26, hc_, h⟩ := h
    refine op_val  hF rfl rfl rfl rfl (r_append (xs := [t21.v, t24.v]) hF rfl rfl hc_) trivial ?_; clear hF; clear a; intro a hF
    obtain ⟨p28, hpp28, h⟩ := h
    refine GL.val (v := .pointer (some p28)) (i := 8) hF hS rfl rfl (by kernel_rfl) rfl rfl rfl rfl (fun x => r_nilCheck hF rfl (lkp rfl hpp28)) ?_; clear hF; clear a; intro a hF
    refine GL.val (v := .pointer (some p28)) (i := 9) hF hS rfl rfl (by kernel_rfl) rfl rfl rfl rfl (fun x => r_fieldAddr0 hF rfl rfl Try.runUnderlying40 rfl Try.sizeOf38 rfl) ?_; clear hF; clear a; intro a hF
    refine GL.act (i := 10) (pend' := []) hS (by kernel_rfl) rfl (by kernel_rfl) ?_
    obtain ⟨u_, w29, hs1_, hs2_, hs3_, h⟩ := h
    refine op_unit (w' := w29) hF rfl rfl rfl (by rw [hs3_]; exact r_store hF rfl rfl rfl rfl Try.sizeOf38 hs1_ hs2_) trivial ?_; clear hF; clear a; intro a hF
    refine GL.done (by kernel_rfl) (hK18 _ _ ?_)
    clear hK18 K17
    refine seq_draw 64 #[0, 1, 3, 7, 0, 0, 63] 7 mo rfl (by kernel_rfl) (by kernel_rfl) fun hS K30 hK31 => ?_
    obtain ⟨w32, hw, h⟩ := h; rw [← hw]; clear hw
    refine GL.val (v := .pointer a0) (i := 0) hF hS rfl rfl (by kernel_rfl) rfl rfl rfl rfl (fun x => r_move hF rfl rfl) ?_; clear hF; clear a; intro a hF
    obtain ⟨p33, hpp33, h⟩ := h
    refine GL.val (v := .pointer (some p33)) (i := 1) hF hS rfl rfl (by kernel_rfl) rfl rfl rfl rfl (fun x => r_nilCheck hF rfl (lkp rfl hpp33)) ?_; clear hF; clear a; intro a hF
    refine GL.val (v := .pointer (some (p33.add 1))) (i := 2) hF hS rfl rfl (by kernel_rfl) rfl rfl rfl rfl (fun x => r_fieldAddr hF rfl rfl Try.runUnderlying40 rfl Try.sizeOf36 rfl) ?_; clear hF; clear a; intro a hF
    obtain ⟨t34, hct34, h⟩ := h
    refine GL.read (v := .map t34) (i := 3) hF (fun x => World.cell? x (p33.add 1) = some (.map t34)) hS rfl rfl (by kernel_rfl) rfl rfl rfl rfl hct34 (fun x hx => r_load hF rfl rfl Try.isAgg36 hx) ?_; clear hF; clear a; intro a hF
    obtain ⟨t35, hct35, h⟩ := h
    refine GL.read (v := .agg t35) (i := 4) hF (fun x => CellsAt x p3 7 t35) hS rfl rfl (by kernel_rfl) rfl rfl rfl rfl hct35 (fun x hx => r_loadA hF rfl rfl Try.isAgg43 Try.sizeOf43 hx) ?_; clear hF; clear a; intro a hF
    refine GL.val (v := .int .i64 (t16.len : Int)) (i := 5) hF hS rfl rfl (by kernel_rfl) rfl rfl rfl rfl (fun x => r_move hF rfl rfl) ?_; clear hF; clear a; intro a hF
    refine GL.act (i := 6) (pend' := []) hS (by kernel_rfl) rfl (by kernel_rfl) ?_
    obtain ⟨w36, hc_, h⟩ := h
    refine op_unit  hF rfl rfl rfl (r_mapUpdate hF rfl rfl rfl rfl hc_) trivial ?_; clear hF; clear a; intro a hF
    refine GL.done (by kernel_rfl) (hK31 _ _ ?_)
    clear hK31 K30
    refine seq_draw 160 #[0, 1, 3, 7, 0, 16, 0, 127] 8 mo rfl (by kernel_rfl) (by kernel_rfl) fun hS K37 hK38 => ?_
    obtain ⟨w39, hw, h⟩ := h; rw [← hw]; clear hw
    refine GL.val (v := .pointer a0) (i := 0) hF hS rfl rfl (by kernel_rfl) rfl rfl rfl rfl (fun x => r_move hF rfl rfl) ?_; clear hF; clear a; intro a hF
    obtain ⟨p40, hpp40, h⟩ := h
    refine GL.val (v := .pointer (some p40)) (i := 1) hF hS rfl rfl (by kernel_rfl) rfl rfl rfl rfl (fun x => r_nilCheck hF rfl (lkp rfl hpp40)) ?_; clear hF; clear a; intro a hF
    refine GL.val (v := .pointer (some (p40.add 2))) (i := 2) hF hS rfl rfl (by kernel_rfl) rfl rfl rfl rfl (fun x => r_fieldAddr hF rfl rfl Try.runUnderlying40 rfl Try.sizeOf37 rfl) ?_; clear hF; clear a; intro a hF
    obtain ⟨t41, hct41, h⟩ := h
    refine GL.read (v := .map t41) (i := 3) hF (fun x => World.cell? x (p40.add 2) = some (.map t41)) hS rfl rfl (by kernel_rfl) rfl rfl rfl rfl hct41 (fun x hx => r_load hF rfl rfl Try.isAgg37 hx) ?_; clear hF; clear a; intro a hF
    refine GL.val (v := .int .i64 (t16.len : Int)) (i := 4) hF hS rfl rfl (by kernel_rfl) rfl rfl rfl rfl (fun x => r_move hF rfl rfl) ?_; clear hF; clear a; intro a hF
    refine GL.val (v := .int .i64 (t16.len : Int)) (i := 6) hF hS rfl rfl (by kernel_rfl) rfl rfl rfl rfl (fun x => r_move hF rfl rfl) ?_; clear hF; clear a; intro a hF
    refine GL.act (i := 5) (pend' := [(3, fun x => World.cell? x (p40.add 2) = some (.map t41))]) hS (by kernel_rfl) rfl (by kernel_rfl) ?_
    refine op_call hF rfl rfl rfl rfl (r_call (xs := [.int .i64 (t16.len : Int)]) hF rfl rfl Try.call13) (CallsV.mono h ?_)
    clear h; rintro _ w42 ⟨r43, rfl, h⟩
    obtain ⟨hk44, h⟩ := h
    refine ⟨⟨hk44, trivial⟩, ?_⟩; clear hF; clear a; intro a hF
    refine GL.act (i := 7) (pend' := []) hS (by kernel_rfl) rfl (by kernel_rfl) ?_
    obtain ⟨w45, hc_, h⟩ := h
    refine op_unit  hF rfl rfl rfl (r_mapUpdate hF rfl rfl rfl rfl hc_) trivial ?_; clear hF; clear a; intro a hF
    refine GL.done (by kernel_rfl) (hK38 _ _ ?_)
    clear hK38 K37
    refine seq_region fun K46 hK47 => ?_
    refine RL.val  hF rfl rfl rfl (r_move hF rfl rfl) ?_; clear hF; clear a; intro a hF
    refine RL.call hF rfl rfl rfl (r_call (xs := [.int .i64 (t16.len : Int)]) hF rfl rfl Try.call13) (CallsV.mono h ?_)
    clear h; rintro _ w48 ⟨r49, rfl, h⟩; clear hF; clear a; intro a hF
    obtain ⟨w50, hs1_, hs2_, hs3_, hs4_, h⟩ := h
    refine RL.unit (w' := w50) hF rfl rfl (by rw [hs4_]; exact r_storeA hF rfl rfl rfl Try.sizeOf27 hs1_ hs2_ hs3_) ?_; clear hF; clear a; intro a hF
    refine RL.nil (hK47 _ _ ?_)
    clear hK47 K46
    refine wp_ret ?_
    obtain ⟨t51, hct51, h⟩ := h
    exact ret_of hF (res1 hF rfl ⟨_, rfl, ldAg Try.isAgg27 Try.sizeOf27 hct51⟩) ⟨_, rfl, h⟩
  clear hJ
  refine seq_draw 0 #[0, 1, 3, 7, 0, 31, 63, 127, 127, 255, 1023] 11 mo rfl (by kernel_rfl) (by kernel_rfl) fun hS K52 hK53 => ?_
  obtain ⟨w54, hw, h⟩ := h; rw [← hw]; clear hw
  refine GL.val (v := .pointer a0) (i := 0) hF hS rfl rfl (by kernel_rfl) rfl rfl rfl rfl (fun x => r_move hF rfl rfl) ?_; clear hF; clear a; intro a hF
  obtain ⟨p55, hpp55, h⟩ := h
  refine GL.val (v := .pointer (some p55)) (i := 1) hF hS rfl rfl (by kernel_rfl) rfl rfl rfl rfl (fun x => r_nilCheck hF rfl (lkp rfl hpp55)) ?_; clear hF; clear a; intro a hF
  refine GL.val (v := .pointer (some (p55.add 1))) (i := 2) hF hS rfl rfl (by kernel_rfl) rfl rfl rfl rfl (fun x => r_fieldAddr hF rfl rfl Try.runUnderlying40 rfl Try.sizeOf36 rfl) ?_; clear hF; clear a; intro a hF
  obtain ⟨t56, hct56, h⟩ := h
  refine GL.read (v := .map t56) (i := 3) hF (fun x => World.cell? x (p55.add 1) = some (.map t56)) hS rfl rfl (by kernel_rfl) rfl rfl rfl rfl hct56 (fun x hx => r_load hF rfl rfl Try.isAgg36 hx) ?_; clear hF; clear a; intro a hF
  obtain ⟨t57, hct57, h⟩ := h
  refine GL.read (v := .agg t57) (i := 4) hF (fun x => CellsAt x p3 7 t57) hS rfl rfl (by kernel_rfl) rfl rfl rfl rfl hct57 (fun x hx => r_loadA hF rfl rfl Try.isAgg43 Try.sizeOf43 hx) ?_; clear hF; clear a; intro a hF
  obtain ⟨t58, t59, hct58, h⟩ := h
  refine GL.read (v := .tuple #[.int .i64 t58, .bool t59]) (i := 5) hF (fun x => rn Try.prog (Instr.lookup 36 (.map t56) (.agg t57) true) (.tuple #[.int .i64 t58, .bool t59]) x x) hS rfl rfl (by kernel_rfl) rfl rfl rfl rfl hct58 (fun x hx => r_lookup hF rfl rfl rfl hx) ?_; clear hF; clear a; intro a hF
  refine GL.val (v := .tuple #[.int .i64 t58, .bool t59]) (i := 6) hF hS rfl rfl (by kernel_rfl) rfl rfl rfl rfl (fun x => r_move hF rfl rfl) ?_; clear hF; clear a; intro a hF
  refine GL.val (v := .int .i64 t58) (i := 7) hF hS rfl rfl (by kernel_rfl) rfl rfl rfl rfl (fun x => r_extract hF rfl rfl rfl) ?_; clear hF; clear a; intro a hF
  refine GL.val (v := .bool t59) (i := 8) hF hS rfl rfl (by kernel_rfl) rfl rfl rfl rfl (fun x => r_extract hF rfl rfl rfl) ?_; clear hF; clear a; intro a hF
  refine GL.val (v := .int .i64 t58) (i := 9) hF hS rfl rfl (by kernel_rfl) rfl rfl rfl rfl (fun x => r_assign hF rfl rfl) ?_; clear hF; clear a; intro a hF
  refine GL.val (v := .bool t59) (i := 10) hF hS rfl rfl (by kernel_rfl) rfl rfl rfl rfl (fun x => r_assign hF rfl rfl) ?_; clear hF; clear a; intro a hF
  refine GL.done (by kernel_rfl) (hK53 _ _ ?_)
  clear hK53 K52
  refine seq_region fun K60 hK61 => ?_
  obtain ⟨J64, hJ, h⟩ := jn_open h
  have jn65 : ∀ (v62 : Bool) (w63 : World) a, Fr 55 a [(0, .pointer a0), (3, .pointer (some p3)), (4, .pointer (some p5)), (5, .int .i64 t58), (22, .bool v62)] → J64 v62 w63 → K60 a w63 := by
    clear hF
    intro v62 w63 a hF h; replace h := hJ _ _ h; refine hK61 _ _ ?_; clear hJ hK61 K60
    obtain ⟨ht, hf⟩ := h
    refine cond_ hF rfl (fun hc => ?_) (fun hc => ?_)
    · replace h := ht hc; clear ht hf
      refine seq_region fun K66 hK67 => ?_
      refine RL.val  hF rfl rfl rfl (r_move hF rfl rfl) ?_; clear hF; clear a; intro a hF
      refine RL.call hF rfl rfl rfl (r_call (xs := [.int .i64 t58]) hF rfl rfl Try.call13) (CallsV.mono h ?_)
      clear h; rintro _ w68 ⟨r69, rfl, h⟩; clear hF; clear a; intro a hF
      obtain ⟨w70, hs1_, hs2_, hs3_, hs4_, h⟩ := h
      refine RL.unit (w' := w70) hF rfl rfl (by rw [hs4_]; exact r_storeA hF rfl rfl rfl Try.sizeOf27 hs1_ hs2_ hs3_) ?_; clear hF; clear a; intro a hF
      refine RL.nil (hK67 _ _ ?_)
      clear hK67 K66
      refine wp_ret ?_
      obtain ⟨t71, hct71, h⟩ := h
      exact ret_of hF (res1 hF rfl ⟨_, rfl, ldAg Try.isAgg27 Try.sizeOf27 hct71⟩) ⟨_, rfl, h⟩
    · replace h := hf hc; clear ht hf
      refine wp_skip ?_
      exact jn12 () _ _ (hF.sub rfl) h
  clear hJ hK61
  refine RL.val  hF rfl rfl rfl (r_move hF rfl rfl) ?_; clear hF; clear a; intro a hF
  refine RL.val  hF rfl rfl rfl (r_move hF rfl rfl) ?_; clear hF; clear a; intro a hF
  obtain ⟨ht, hf⟩ := h
  rcases bool_cases t59 with hg72 | hg72
  · replace h := ht hg72; clear ht hf
    refine RL.gval  hF rfl rfl (lkb rfl hg72) rfl rfl (r_fieldAddr0 hF rfl rfl Try.runUnderlying43 rfl Try.sizeOf3 rfl) ?_; clear hF; clear a; intro a hF
    obtain ⟨t73, hct73, h⟩ := h
    refine RL.gval  hF rfl rfl (lkb rfl hg72) rfl rfl (r_load hF rfl rfl Try.isAgg3 hct73) ?_; clear hF; clear a; intro a hF
    refine RL.gval  hF rfl rfl (lkb rfl hg72) rfl rfl (r_neq hF rfl rfl rfl) ?_; clear hF; clear a; intro a hF
    refine RL.val (v := .bool (t73 != 1)) (w' := w54) hF rfl rfl rfl (r_pick hF rfl rfl rfl rfl (fun _ => rfl) (fun e => absurd (hg72.symm.trans e) (by decide))) ?_; clear hF; clear a; intro a hF
    refine RL.nil ?_
    exact jn65 (t73 != 1) _ _ (hF.sub rfl) h
  · replace h := hf hg72; clear ht hf
    refine RL.skip hF rfl rfl (lkb rfl hg72) (.inl rfl) rfl rfl ?_; clear hF; clear a; intro a hF
    refine RL.skip hF rfl rfl (lkb rfl hg72) (.inl rfl) rfl rfl ?_; clear hF; clear a; intro a hF
    refine RL.skip hF rfl rfl (lkb rfl hg72) (.inl rfl) rfl rfl ?_; clear hF; clear a; intro a hF
    refine RL.val (v := .bool false) (w' := w54) hF rfl rfl rfl (r_pick hF rfl rfl rfl rfl (fun e => absurd (hg72.symm.trans e) (by decide)) (fun _ => rfl)) ?_; clear hF; clear a; intro a hF
    refine RL.nil ?_
    exact jn65 false _ _ (hF.sub rfl) h

set_option maxRecDepth 20000 in
theorem br4 {w : World} {K : Option Addr → World → Prop} (h : sh4 w K) : C4 w K := by
  unfold sh4 at h
  refine enter (n := 10) (l := []) 10 Try.func4 rfl _ rfl rfl rfl fun a hF => ?_
  refine seq_region fun K1 hK2 => ?_
  refine RL.val  hF rfl rfl rfl (r_assign hF rfl rfl) ?_; clear hF; clear a; intro a hF
  refine RL.nil (hK2 _ _ ?_)
  clear hK2 K1
  refine seq_region fun K3 hK4 => ?_
  obtain ⟨m5, w6, hp_, hw_, h⟩ := h
  refine RL.val (v := .map m5) (w' := w6) hF rfl rfl rfl (by rw [hp_, hw_]; exact r_makeMap rfl) ?_; clear hF; clear a; intro a hF
  obtain ⟨m7, w8, hp_, hw_, h⟩ := h
  refine RL.val (v := .map m7) (w' := w8) hF rfl rfl rfl (by rw [hp_, hw_]; exact r_makeMap rfl) ?_; clear hF; clear a; intro a hF
  refine RL.val (v := .agg (#[Slc.nil.v, .map m5, .map m7])) (w' := w8) hF rfl rfl rfl (r_build (xs := [(1, .map m5), (2, .map m7)]) hF rfl rfl (by kernel_rfl)) ?_; clear hF; clear a; intro a hF
  obtain ⟨p9, w10, hp_, hw_, h⟩ := h
  refine RL.val (v := .pointer (some p9)) (w' := w10) hF rfl rfl rfl (by rw [hp_, hw_]; exact r_box hF rfl rfl rfl) ?_; clear hF; clear a; intro a hF
  refine RL.val  hF rfl rfl rfl (r_assign hF rfl rfl) ?_; clear hF; clear a; intro a hF
  refine RL.nil (hK4 _ _ ?_)
  clear hK4 K3
  refine seq_region fun K11 hK12 => ?_
  refine RL.val  hF rfl rfl rfl (r_move hF rfl rfl) ?_; clear hF; clear a; intro a hF
  refine RL.val (v := .agg (#[.int .i64 0, .int .i64 0, .int .i64 0, .int .i64 0, .string (⟨#[]⟩ : ByteArray), .string (⟨#[]⟩ : ByteArray), .string (⟨#[]⟩ : ByteArray)])) (w' := w10) hF rfl rfl rfl (r_build (xs := [(0, .int .i64 0)]) hF rfl rfl (by kernel_rfl)) ?_; clear hF; clear a; intro a hF
  refine RL.call hF rfl rfl rfl (r_call (xs := [.pointer (some p9), .agg (#[.int .i64 0, .int .i64 0, .int .i64 0, .int .i64 0, .string (⟨#[]⟩ : ByteArray), .string (⟨#[]⟩ : ByteArray), .string (⟨#[]⟩ : ByteArray)])]) hF rfl rfl Try.call9) (CallsV.mono h ?_)
  clear h; rintro _ w13 ⟨r14, rfl, h⟩; clear hF; clear a; intro a hF
  refine RL.nil (hK12 _ _ ?_)
  clear hK12 K11
  refine seq_region fun K15 hK16 => ?_
  refine RL.val  hF rfl rfl rfl (r_move hF rfl rfl) ?_; clear hF; clear a; intro a hF
  refine RL.val  hF rfl rfl rfl (r_assign hF rfl rfl) ?_; clear hF; clear a; intro a hF
  refine RL.nil (hK16 _ _ ?_)
  clear hK16 K15
  refine wp_ret ?_
  exact ret_of hF (res1 hF rfl rfl) ⟨_, rfl, h⟩

set_option maxRecDepth 20000 in
theorem br10 {a0 : Option Addr} {w : World} {K : Bool → World → Prop} (h : sh10 a0 w K) : C10 a0 w K := by
  unfold sh10 at h
  refine enter (n := 12) (l := [(0, .pointer a0)]) 11 Try.func10 rfl _ rfl rfl rfl fun a hF => ?_
  refine seq_region fun K1 hK2 => ?_
  refine RL.val  hF rfl rfl rfl (r_assign hF rfl rfl) ?_; clear hF; clear a; intro a hF
  refine RL.nil (hK2 _ _ ?_)
  clear hK2 K1
  refine seq_region fun K3 hK4 => ?_
  obtain ⟨J7, hJ, h⟩ := jn_open h
  have jn8 : ∀ (v5 : Bool) (w6 : World) a, Fr 12 a [(2, .bool v5)] → J7 v5 w6 → K3 a w6 := by
    clear hF
    intro v5 w6 a hF h; replace h := hJ _ _ h; refine hK4 _ _ ?_; clear hJ hK4 K3
    refine wp_ret ?_
    exact ret_of hF (res1 hF rfl rfl) ⟨_, rfl, h⟩
  clear hJ hK4
  refine RL.val  hF rfl rfl rfl (r_move hF rfl rfl) ?_; clear hF; clear a; intro a hF
  refine RL.val  hF rfl rfl rfl (r_ptrnil hF rfl rfl rfl Try.runUnderlying23) ?_; clear hF; clear a; intro a hF
  refine RL.val  hF rfl rfl rfl (r_move hF rfl rfl) ?_; clear hF; clear a; intro a hF
  obtain ⟨ht, hf⟩ := h
  rcases bool_cases a0.isNone with hg9 | hg9
  · replace h := ht hg9; clear ht hf
    refine RL.skip hF rfl rfl (lkb rfl hg9) (.inl rfl) rfl rfl ?_; clear hF; clear a; intro a hF
    refine RL.skip hF rfl rfl (lkb rfl hg9) (.inl rfl) rfl rfl ?_; clear hF; clear a; intro a hF
    refine RL.skip hF rfl rfl (lkb rfl hg9) (.inl rfl) rfl rfl ?_; clear hF; clear a; intro a hF
    refine RL.skip hF rfl rfl (lkb rfl hg9) (.inl rfl) rfl rfl ?_; clear hF; clear a; intro a hF
    refine RL.skip hF rfl rfl (lkb rfl hg9) (.inl rfl) rfl rfl ?_; clear hF; clear a; intro a hF
    refine RL.val (v := .bool true) (w' := w) hF rfl rfl rfl (r_pick hF rfl rfl rfl rfl (fun _ => rfl) (fun e => absurd (hg9.symm.trans e) (by decide))) ?_; clear hF; clear a; intro a hF
    refine RL.val  hF rfl rfl rfl (r_assign hF rfl rfl) ?_; clear hF; clear a; intro a hF
    refine RL.nil ?_
    exact jn8 true _ _ (hF.sub rfl) h
  · replace h := hf hg9; clear ht hf
    refine RL.gval  hF rfl rfl (lkb rfl hg9) rfl rfl (r_move hF rfl rfl) ?_; clear hF; clear a; intro a hF
    obtain ⟨p10, hpp10, h⟩ := h
    refine RL.gval  hF rfl rfl (lkb rfl hg9) rfl rfl (r_nilCheck hF rfl (lkp rfl hpp10)) ?_; clear hF; clear a; intro a hF
    refine RL.gval  hF rfl rfl (lkb rfl hg9) rfl rfl (r_fieldAddr hF rfl rfl Try.runUnderlying40 rfl Try.sizeOf37 rfl) ?_; clear hF; clear a; intro a hF
    obtain ⟨t11, hct11, h⟩ := h
    refine RL.gval  hF rfl rfl (lkb rfl hg9) rfl rfl (r_load hF rfl rfl Try.isAgg37 hct11) ?_; clear hF; clear a; intro a hF
    refine RL.gval  hF rfl rfl (lkb rfl hg9) rfl rfl (r_mapnil hF rfl rfl rfl Try.runUnderlying37) ?_; clear hF; clear a; intro a hF
    refine RL.val (v := .bool t11.isNone) (w' := w) hF rfl rfl rfl (r_pick hF rfl rfl rfl rfl (fun e => absurd (hg9.symm.trans e) (by decide)) (fun _ => rfl)) ?_; clear hF; clear a; intro a hF
    refine RL.val  hF rfl rfl rfl (r_assign hF rfl rfl) ?_; clear hF; clear a; intro a hF
    refine RL.nil ?_
    exact jn8 t11.isNone _ _ (hF.sub rfl) h

set_option maxRecDepth 20000 in
theorem br5 {a0 : Option Addr} {w : World} {K : Array Value → World → Prop} (h : sh5 a0 w K) : C5 a0 w K := by
  unfold sh5 at h
  refine enter (n := 9) (l := [(0, .pointer a0)]) 8 Try.func5 rfl _ rfl rfl rfl fun a hF => ?_
  refine seq_region fun K1 hK2 => ?_
  obtain ⟨p3, w4, hp_, hw_, h⟩ := h
  refine RL.val (v := .pointer (some p3)) (w' := w4) hF rfl rfl rfl (by rw [hp_, hw_]; exact r_alloc rfl Try.zeroValue27 rfl) ?_; clear hF; clear a; intro a hF
  refine RL.nil (hK2 _ _ ?_)
  clear hK2 K1
  refine seq_k fun K5 hK6 => ?_
  obtain ⟨J, hJ, h⟩ := jn_open h
  have jn10 : ∀ (v7 : Unit) (w8 : World) a, Fr 9 a [(0, .pointer a0), (2, .pointer (some p3))] → J v7 w8 → K5 a w8 := by
    intro v7 w8 a hF h
    replace h := hJ _ _ h
    clear hJ
    refine hK6 _ _ ?_
    refine seq_region fun K11 hK12 => ?_
    refine RL.val  hF rfl rfl rfl (r_move hF rfl rfl) ?_; clear hF; clear a; intro a hF
    refine RL.val (v := .agg (#[.int .i64 1, .int .i64 0, .int .i64 0, .int .i64 0, .string (⟨#[]⟩ : ByteArray), .string (⟨#[]⟩ : ByteArray), .string (⟨#[]⟩ : ByteArray)])) (w' := w8) hF rfl rfl rfl (r_build (xs := [(0, .int .i64 1)]) hF rfl rfl (by kernel_rfl)) ?_; clear hF; clear a; intro a hF
    refine RL.call hF rfl rfl rfl (r_call (xs := [.pointer a0, .agg (#[.int .i64 1, .int .i64 0, .int .i64 0, .int .i64 0, .string (⟨#[]⟩ : ByteArray), .string (⟨#[]⟩ : ByteArray), .string (⟨#[]⟩ : ByteArray)])]) hF rfl rfl Try.call9) (CallsV.mono h ?_)
    clear h; rintro _ w13 ⟨r14, rfl, h⟩; clear hF; clear a; intro a hF
    obtain ⟨w15, hs1_, hs2_, hs3_, hs4_, h⟩ := h
    refine RL.unit (w' := w15) hF rfl rfl (by rw [hs4_]; exact r_storeA hF rfl rfl rfl Try.sizeOf27 hs1_ hs2_ hs3_) ?_; clear hF; clear a; intro a hF
    refine RL.nil (hK12 _ _ ?_)
    clear hK12 K11
    refine wp_ret ?_
    obtain ⟨t16, hct16, h⟩ := h
    exact ret_of hF (res1 hF rfl ⟨_, rfl, ldAg Try.isAgg27 Try.sizeOf27 hct16⟩) ⟨_, rfl, h⟩
  clear hJ
  refine seq_region fun K17 hK18 => ?_
  refine RL.val  hF rfl rfl rfl (r_move hF rfl rfl) ?_; clear hF; clear a; intro a hF
  refine RL.call hF rfl rfl rfl (r_call (xs := [.pointer a0]) hF rfl rfl Try.call10) (CallsV.mono h ?_)
  clear h; rintro _ w19 ⟨r20, rfl, h⟩; clear hF; clear a; intro a hF
  refine RL.nil (hK18 _ _ ?_)
  clear hK18 K17
  obtain ⟨ht, hf⟩ := h
  refine cond_ hF rfl (fun hc => ?_) (fun hc => ?_)
  · replace h := ht hc; clear ht hf
    refine seq_region fun K21 hK22 => ?_
    refine RL.val (v := .agg (#[.int .u8 0, .int .u8 0, .int .u8 0, .int .u8 0, .int .u8 0, .int .u8 0, .int .u8 0, .int .u8 0, .int .u8 0, .int .u8 0, .int .u8 0, .int .u8 0, .int .u8 0, .int .u8 0, .int .u8 0, .int .u8 0])) (w' := w19) hF rfl rfl rfl (r_build (xs := []) hF rfl rfl (by kernel_rfl)) ?_; clear hF; clear a; intro a hF
    obtain ⟨w23, hs1_, hs2_, hs3_, hs4_, h⟩ := h
    refine RL.unit (w' := w23) hF rfl rfl (by rw [hs4_]; exact r_storeA hF rfl rfl rfl Try.sizeOf27 hs1_ hs2_ hs3_) ?_; clear hF; clear a; intro a hF
    refine RL.nil (hK22 _ _ ?_)
    clear hK22 K21
    refine wp_ret ?_
    obtain ⟨t24, hct24, h⟩ := h
    exact ret_of hF (res1 hF rfl ⟨_, rfl, ldAg Try.isAgg27 Try.sizeOf27 hct24⟩) ⟨_, rfl, h⟩
  · replace h := hf hc; clear ht hf
    refine wp_skip ?_
    exact jn10 () _ _ (hF.sub rfl) h

set_option maxRecDepth 20000 in
theorem br14 {a0 : Slc} {w : World} {K : Slc → World → Prop} (h : sh14 a0 w K) : C14 a0 w K := by
  unfold sh14 at h
  refine enter (n := 8) (l := [(0, a0.v)]) 7 Try.func14 rfl _ rfl rfl rfl fun a hF => ?_
  refine seq_region fun K1 hK2 => ?_
  refine RL.val  hF rfl rfl rfl (r_assign hF rfl rfl) ?_; clear hF; clear a; intro a hF
  refine RL.nil (hK2 _ _ ?_)
  clear hK2 K1
  refine seq_k fun K3 hK4 => ?_
  obtain ⟨J, hJ, h⟩ := jn_open h
  have jn8 : ∀ (v5 : Unit) (w6 : World) a, Fr 8 a [(0, a0.v)] → J v5 w6 → K3 a w6 := by
    intro v5 w6 a hF h
    replace h := hJ _ _ h
    clear hJ
    refine hK4 _ _ ?_
    refine seq_region fun K9 hK10 => ?_
    obtain ⟨p12, w11, hp_, hw_, h⟩ := h
    refine RL.val (v := (Slc.mk (some p12) 0 0).v) (w' := w11) hF rfl rfl rfl (by rw [hp_, hw_]; exact r_buildSlice (xs := []) hF rfl rfl (by kernel_rfl)) ?_; clear hF; clear a; intro a hF
    refine RL.val  hF rfl rfl rfl (r_move hF rfl rfl) ?_; clear hF; clear a; intro a hF
    obtain ⟨t14, w13, hc_, h⟩ := h
    refine RL.val  hF rfl rfl rfl (r_append (xs := [(Slc.mk (some p12) 0 0).v, a0.v]) hF rfl rfl hc_) ?_; clear hF; clear a; intro a hF
    refine RL.val  hF rfl rfl rfl (r_assign hF rfl rfl) ?_; clear hF; clear a; intro a hF
    refine RL.nil (hK10 _ _ ?_)
    clear hK10 K9
    refine wp_ret ?_
    exact ret_of hF (res1 hF rfl rfl) ⟨_, rfl, h⟩
  clear hJ
  refine seq_region fun K15 hK16 => ?_
  refine RL.val  hF rfl rfl rfl (r_move hF rfl rfl) ?_; clear hF; clear a; intro a hF
  refine RL.val  hF rfl rfl rfl (r_slcnil hF rfl rfl rfl Try.runUnderlying30) ?_; clear hF; clear a; intro a hF
  refine RL.nil (hK16 _ _ ?_)
  clear hK16 K15
  obtain ⟨ht, hf⟩ := h
  refine cond_ hF rfl (fun hc => ?_) (fun hc => ?_)
  · replace h := ht hc; clear ht hf
    refine seq_region fun K17 hK18 => ?_
    refine RL.val  hF rfl rfl rfl (r_assign hF rfl rfl) ?_; clear hF; clear a; intro a hF
    refine RL.nil (hK18 _ _ ?_)
    clear hK18 K17
    refine wp_ret ?_
    exact ret_of hF (res1 hF rfl rfl) ⟨_, rfl, h⟩
  · replace h := hf hc; clear ht hf
    refine wp_skip ?_
    exact jn8 () _ _ (hF.sub rfl) h

set_option maxRecDepth 20000 in
theorem br11 {a0 : Option Addr} {a1 : Slc} {w : World} {K : Option Addr → World → Prop} (h : sh11 a0 a1 w K) : C11 a0 a1 w K := by
  unfold sh11 at h
  refine enter (n := 34) (l := [(0, .pointer a0), (1, a1.v)]) 32 Try.func11 rfl _ rfl rfl rfl fun a hF => ?_
  refine seq_region fun K1 hK2 => ?_
  obtain ⟨p3, w4, hp_, hw_, h⟩ := h
  refine RL.val (v := .pointer (some p3)) (w' := w4) hF rfl rfl rfl (by rw [hp_, hw_]; exact r_box hF rfl rfl rfl) ?_; clear hF; clear a; intro a hF
  refine RL.val  hF rfl rfl rfl (r_assign hF rfl rfl) ?_; clear hF; clear a; intro a hF
  refine RL.nil (hK2 _ _ ?_)
  clear hK2 K1
  refine seq_draw 7488 #[0, 0, 2, 6, 14, 30, 62, 0, 128, 511, 1023, 0, 4095] 13 mo rfl (by kernel_rfl) (by kernel_rfl) fun hS K5 hK6 => ?_
  obtain ⟨w7, hw, h⟩ := h; rw [← hw]; clear hw
  obtain ⟨J10, hJ, h⟩ := jn_open h
  have jn11 : ∀ (v8 : Option Addr) (w9 : World) a, Fr 34 a [(2, .pointer (some p3)), (5, .pointer v8)] → J10 v8 w9 → K5 a w9 := by
    clear hF
    intro v8 w9 a hF h; replace h := hJ _ _ h; refine hK6 _ _ ?_; clear hJ hK6 K5
    refine seq_region fun K12 hK13 => ?_
    obtain ⟨p15, hpp15, h⟩ := h
    obtain ⟨t14, hct14, h⟩ := h
    refine RL.val  hF rfl rfl rfl (r_load hF rfl (lkp rfl hpp15) Try.isAgg45 hct14) ?_; clear hF; clear a; intro a hF
    obtain ⟨p16, hpp16, h⟩ := h
    refine RL.val  hF rfl rfl rfl (r_nilCheck hF rfl (lkp rfl hpp16)) ?_; clear hF; clear a; intro a hF
    refine RL.val  hF rfl rfl rfl (r_fieldAddr hF rfl rfl Try.runUnderlying50 rfl Try.sizeOf48 rfl) ?_; clear hF; clear a; intro a hF
    obtain ⟨t17, hct17, h⟩ := h
    refine RL.val  hF rfl rfl rfl (r_load hF rfl rfl Try.isAgg48 hct17) ?_; clear hF; clear a; intro a hF
    obtain ⟨b19, p18, hb_, h0_, h1_, hp_, h⟩ := h
    refine RL.val (v := .pointer (some p18)) (w' := w9) hF rfl rfl rfl (by rw [hp_]; exact r_indexAddr hF rfl (lks rfl hb_) rfl Try.runUnderlying48 Try.sizeOf4 h0_ h1_) ?_; clear hF; clear a; intro a hF
    obtain ⟨u_, w20, hs1_, hs2_, hs3_, h⟩ := h
    refine RL.unit (w' := w20) hF rfl rfl (by rw [hs3_]; exact r_store hF rfl rfl rfl rfl Try.sizeOf4 hs1_ hs2_) ?_; clear hF; clear a; intro a hF
    refine RL.nil (hK13 _ _ ?_)
    clear hK13 K12
    refine seq_region fun K21 hK22 => ?_
    obtain ⟨t23, hct23, h⟩ := h
    refine RL.val  hF rfl rfl rfl (r_load hF rfl rfl Try.isAgg23 hct23) ?_; clear hF; clear a; intro a hF
    obtain ⟨p24, hpp24, h⟩ := h
    refine RL.val  hF rfl rfl rfl (r_nilCheck hF rfl (lkp rfl hpp24)) ?_; clear hF; clear a; intro a hF
    refine RL.val  hF rfl rfl rfl (r_fieldAddr0 hF rfl rfl Try.runUnderlying40 rfl Try.sizeOf38 rfl) ?_; clear hF; clear a; intro a hF
    obtain ⟨t25, hct25, h⟩ := h
    refine RL.val  hF rfl rfl rfl (r_load hF rfl rfl Try.isAgg38 hct25) ?_; clear hF; clear a; intro a hF
    refine RL.val  hF rfl rfl rfl (r_len_slice hF rfl rfl Try.runUnderlying38) ?_; clear hF; clear a; intro a hF
    obtain ⟨t26, w27, hc_, h⟩ := h
    refine RL.val  hF rfl rfl rfl (r_makeSlice hF rfl rfl rfl hc_) ?_; clear hF; clear a; intro a hF
    obtain ⟨p28, w29, hp_, hw_, h⟩ := h
    refine RL.val (v := .pointer (some p28)) (w' := w29) hF rfl rfl rfl (by rw [hp_, hw_]; exact r_alloc rfl Try.zeroValue48 rfl) ?_; clear hF; clear a; intro a hF
    obtain ⟨u_, w30, hs1_, hs2_, hs3_, h⟩ := h
    refine RL.unit (w' := w30) hF rfl rfl (by rw [hs3_]; exact r_store hF rfl rfl rfl rfl Try.sizeOf48 hs1_ hs2_) ?_; clear hF; clear a; intro a hF
    refine RL.nil (hK22 _ _ ?_)
    clear hK22 K21
    refine seq_region fun K31 hK32 => ?_
    refine RL.val  hF rfl rfl rfl (r_makeFunc (xs := []) (ys := [.pointer v8, .pointer (some p3), .pointer (some p28)]) hF rfl rfl rfl) ?_; clear hF; clear a; intro a hF
    refine RL.val  hF rfl rfl rfl (r_assign hF rfl rfl) ?_; clear hF; clear a; intro a hF
    refine RL.nil (hK32 _ _ ?_)
    clear hK32 K31
    refine seq_k fun K33 hK34 => ?_
    obtain ⟨J, hJ, h⟩ := jn_open h
    have jn38 : ∀ (v35 : Unit) (w36 : World) a, Fr 34 a [(5, .pointer v8)] → J v35 w36 → K33 a w36 := by
      intro v35 w36 a hF h
      replace h := hJ _ _ h
      clear hJ
      refine hK34 _ _ ?_
      refine seq_region fun K39 hK40 => ?_
      obtain ⟨p42, hpp42, h⟩ := h
      obtain ⟨t41, hct41, h⟩ := h
      refine RL.val  hF rfl rfl rfl (r_load hF rfl (lkp rfl hpp42) Try.isAgg45 hct41) ?_; clear hF; clear a; intro a hF
      refine RL.val  hF rfl rfl rfl (r_assign hF rfl rfl) ?_; clear hF; clear a; intro a hF
      refine RL.nil (hK40 _ _ ?_)
      clear hK40 K39
      refine wp_ret ?_
      exact ret_of hF (res1 hF rfl rfl) ⟨_, rfl, h⟩
    clear hJ
    refine wp_block ?_
    refine loop_ (fun (s43 : Unit) => [(5, .pointer v8), (7, (Value.func (Fn.func 15) #[] #[.pointer v8, .pointer (some p3), .pointer (some p28)]))]) (hF.sub rfl) h ?_
    clear hF h
    intro s43 w44 N45 KL hN46 h a hF
    refine seq_k fun K47 hK48 => ?_
    obtain ⟨J, hJ, h⟩ := jn_open h
    have jn52 : ∀ (v49 : Unit) (w50 : World) a, Fr 34 a [(5, .pointer v8), (7, (Value.func (Fn.func 15) #[] #[.pointer v8, .pointer (some p3), .pointer (some p28)]))] → J v49 w50 → K47 a w50 := by
      intro v49 w50 a hF h
      replace h := hJ _ _ h
      clear hJ
      refine hK48 _ _ ?_
      refine wp_block ?_
      refine wp_skip ?_
      exact hN46 () _ _ (hF.sub rfl) h
    clear hJ
    refine seq_region fun K53 hK54 => ?_
    refine RL.val  hF rfl rfl rfl (r_move hF rfl rfl) ?_; clear hF; clear a; intro a hF
    obtain ⟨f57, x58, y59, hf_, hg_, h⟩ := h
    refine RL.call hF rfl rfl rfl (r_callV (xs := []) hF rfl (by rw [← hf_]; rfl) rfl hg_) (CallsV.mono h ?_)
    clear h; rintro _ w55 ⟨r56, rfl, h⟩; clear hF; clear a; intro a hF
    refine RL.nil (hK54 _ _ ?_)
    clear hK54 K53
    obtain ⟨ht, hf⟩ := h
    refine cond_ hF rfl (fun hc => ?_) (fun hc => ?_)
    · replace h := ht hc; clear ht hf
      refine wp_skip ?_
      exact jn52 () _ _ (hF.sub rfl) h
    · replace h := hf hc; clear ht hf
      refine wp_exit ?_
      exact jn38 () _ _ (hF.sub rfl) h
  clear hJ hK6
  obtain ⟨t60, hct60, h⟩ := h
  refine GL.read (v := .pointer t60) (i := 0) hF (fun x => World.cell? x p3 = some (.pointer t60)) hS rfl rfl (by kernel_rfl) rfl rfl rfl rfl hct60 (fun x hx => r_load hF rfl rfl Try.isAgg23 hx) ?_; clear hF; clear a; intro a hF
  obtain ⟨t61, hct61, h⟩ := h
  refine GL.read (v := .pointer t61) (i := 1) hF (fun x => World.cell? x p3 = some (.pointer t61)) hS rfl rfl (by kernel_rfl) rfl rfl rfl rfl hct61 (fun x hx => r_load hF rfl rfl Try.isAgg23 hx) ?_; clear hF; clear a; intro a hF
  obtain ⟨p62, hpp62, h⟩ := h
  refine GL.val (v := .pointer (some p62)) (i := 2) hF hS rfl rfl (by kernel_rfl) rfl rfl rfl rfl (fun x => r_nilCheck hF rfl (lkp rfl hpp62)) ?_; clear hF; clear a; intro a hF
  refine GL.val (v := .pointer (some p62)) (i := 3) hF hS rfl rfl (by kernel_rfl) rfl rfl rfl rfl (fun x => r_fieldAddr0 hF rfl rfl Try.runUnderlying40 rfl Try.sizeOf38 rfl) ?_; clear hF; clear a; intro a hF
  obtain ⟨t63, hct63, h⟩ := h
  refine GL.read (v := t63.v) (i := 4) hF (fun x => World.cell? x p62 = some (t63.v)) hS rfl rfl (by kernel_rfl) rfl rfl rfl rfl hct63 (fun x hx => r_load hF rfl rfl Try.isAgg38 hx) ?_; clear hF; clear a; intro a hF
  refine GL.val (v := .int .i64 (t63.len : Int)) (i := 5) hF hS rfl rfl (by kernel_rfl) rfl rfl rfl rfl (fun x => r_len_slice hF rfl rfl Try.runUnderlying38) ?_; clear hF; clear a; intro a hF
  refine GL.val (v := a1.v) (i := 7) hF hS rfl rfl (by kernel_rfl) rfl rfl rfl rfl (fun x => r_move hF rfl rfl) ?_; clear hF; clear a; intro a hF
  obtain ⟨hb64, hb65, hb66⟩ := h
  refine GL.act3 (i1 := 6) (pend1 := [(0, fun x => World.cell? x p3 = some (.pointer t60))]) (i2 := 8) (pend2 := [(4, fun x => World.cell? x p62 = some (t63.v)), (1, fun x => World.cell? x p3 = some (.pointer t61)), (0, fun x => World.cell? x p3 = some (.pointer t60))]) (i3 := 11) (pend3 := [(4, fun x => World.cell? x p62 = some (t63.v)), (1, fun x => World.cell? x p3 = some (.pointer t61)), (0, fun x => World.cell? x p3 = some (.pointer t60))]) hS (by kernel_rfl) rfl rfl rfl (by kernel_rfl) (by kernel_rfl) (by kernel_rfl) ?_ ?_ ?_
  · replace h := hb64; clear hb65 hb66
    obtain ⟨t67, w68, hc_, h⟩ := h
    obtain ⟨hk69, h⟩ := h
    refine op_val  hF rfl rfl rfl rfl (r_makeSlice hF rfl rfl rfl hc_) ⟨hk69, trivial⟩ ?_; clear hF; clear a; intro a hF
    obtain ⟨hb70, hb71⟩ := h
    refine GL.act2 (i1 := 8) (pend1 := [(0, fun x => World.cell? x p3 = some (.pointer t60))]) (i2 := 11) (pend2 := [(0, fun x => World.cell? x p3 = some (.pointer t60))]) hS (by kernel_rfl) rfl rfl (by kernel_rfl) (by kernel_rfl) ?_ ?_
    · replace h := hb70; clear hb71
      refine op_call hF rfl rfl rfl rfl (r_call (xs := [a1.v]) hF rfl rfl Try.call14) (CallsV.mono h ?_)
      clear h; rintro _ w72 ⟨r73, rfl, h⟩
      obtain ⟨hk74, h⟩ := h
      refine ⟨⟨hk74, trivial⟩, ?_⟩; clear hF; clear a; intro a hF
      refine GL.val (v := .agg (#[.pointer t60, t67.v, r73.v])) (i := 9) hF hS rfl rfl (by kernel_rfl) rfl rfl rfl rfl (fun x => r_build (xs := [(0, .pointer t60), (1, t67.v), (2, r73.v)]) hF rfl rfl (by kernel_rfl)) ?_; clear hF; clear a; intro a hF
      obtain ⟨hb75, hb76⟩ := h
      refine GL.act2 (i1 := 10) (pend1 := []) (i2 := 11) (pend2 := [(0, fun x => World.cell? x p3 = some (.pointer t60))]) hS (by kernel_rfl) rfl rfl (by kernel_rfl) (by kernel_rfl) ?_ ?_
      · replace h := hb75; clear hb76
        obtain ⟨p77, w78, hp_, hw_, h⟩ := h
        refine op_val (v := .pointer (some p77)) (w' := w78) hF rfl rfl rfl rfl (by rw [hp_, hw_]; exact r_box hF rfl rfl rfl) trivial ?_; clear hF; clear a; intro a hF
        refine GL.act (i := 11) (pend' := []) hS (by kernel_rfl) rfl (by kernel_rfl) ?_
        obtain ⟨p79, w80, hp_, hw_, h⟩ := h
        refine op_val (v := .pointer (some p79)) (w' := w80) hF rfl rfl rfl rfl (by rw [hp_, hw_]; exact r_alloc rfl Try.zeroValue45 rfl) trivial ?_; clear hF; clear a; intro a hF
        refine GL.act (i := 12) (pend' := []) hS (by kernel_rfl) rfl (by kernel_rfl) ?_
        obtain ⟨u_, w81, hs1_, hs2_, hs3_, h⟩ := h
        refine op_unit (w' := w81) hF rfl rfl rfl (by rw [hs3_]; exact r_store hF rfl rfl rfl rfl Try.sizeOf45 hs1_ hs2_) trivial ?_; clear hF; clear a; intro a hF
        refine GL.done (by kernel_rfl) ?_
        exact jn11 (some p79) _ _ (hF.sub rfl) h
      · replace h := hb76; clear hb75
        obtain ⟨p82, w83, hp_, hw_, h⟩ := h
        obtain ⟨hk84, h⟩ := h
        refine op_val (v := .pointer (some p82)) (w' := w83) hF rfl rfl rfl rfl (by rw [hp_, hw_]; exact r_alloc rfl Try.zeroValue45 rfl) ⟨hk84, trivial⟩ ?_; clear hF; clear a; intro a hF
        refine GL.act (i := 10) (pend' := []) hS (by kernel_rfl) rfl (by kernel_rfl) ?_
        obtain ⟨p85, w86, hp_, hw_, h⟩ := h
        refine op_val (v := .pointer (some p85)) (w' := w86) hF rfl rfl rfl rfl (by rw [hp_, hw_]; exact r_box hF rfl rfl rfl) trivial ?_; clear hF; clear a; intro a hF
        refine GL.act (i := 12) (pend' := []) hS (by kernel_rfl) rfl (by kernel_rfl) ?_
        obtain ⟨u_, w87, hs1_, hs2_, hs3_, h⟩ := h
        refine op_unit (w' := w87) hF rfl rfl rfl (by rw [hs3_]; exact r_store hF rfl rfl rfl rfl Try.sizeOf45 hs1_ hs2_) trivial ?_; clear hF; clear a; intro a hF
        refine GL.done (by kernel_rfl) ?_
        exact jn11 (some p82) _ _ (hF.sub rfl) h
    · replace h := hb71; clear hb70
      obtain ⟨p88, w89, hp_, hw_, h⟩ := h
      obtain ⟨hk90, h⟩ := h
      refine op_val (v := .pointer (some p88)) (w' := w89) hF rfl rfl rfl rfl (by rw [hp_, hw_]; exact r_alloc rfl Try.zeroValue45 rfl) ⟨hk90, trivial⟩ ?_; clear hF; clear a; intro a hF
      refine GL.act (i := 8) (pend' := [(0, fun x => World.cell? x p3 = some (.pointer t60))]) hS (by kernel_rfl) rfl (by kernel_rfl) ?_
      refine op_call hF rfl rfl rfl rfl (r_call (xs := [a1.v]) hF rfl rfl Try.call14) (CallsV.mono h ?_)
      clear h; rintro _ w91 ⟨r92, rfl, h⟩
      obtain ⟨hk93, h⟩ := h
      refine ⟨⟨hk93, trivial⟩, ?_⟩; clear hF; clear a; intro a hF
      refine GL.val (v := .agg (#[.pointer t60, t67.v, r92.v])) (i := 9) hF hS rfl rfl (by kernel_rfl) rfl rfl rfl rfl (fun x => r_build (xs := [(0, .pointer t60), (1, t67.v), (2, r92.v)]) hF rfl rfl (by kernel_rfl)) ?_; clear hF; clear a; intro a hF
      refine GL.act (i := 10) (pend' := []) hS (by kernel_rfl) rfl (by kernel_rfl) ?_
      obtain ⟨p94, w95, hp_, hw_, h⟩ := h
      refine op_val (v := .pointer (some p94)) (w' := w95) hF rfl rfl rfl rfl (by rw [hp_, hw_]; exact r_box hF rfl rfl rfl) trivial ?_; clear hF; clear a; intro a hF
      refine GL.act (i := 12) (pend' := []) hS (by kernel_rfl) rfl (by kernel_rfl) ?_
      obtain ⟨u_, w96, hs1_, hs2_, hs3_, h⟩ := h
      refine op_unit (w' := w96) hF rfl rfl rfl (by rw [hs3_]; exact r_store hF rfl rfl rfl rfl Try.sizeOf45 hs1_ hs2_) trivial ?_; clear hF; clear a; intro a hF
      refine GL.done (by kernel_rfl) ?_
      exact jn11 (some p88) _ _ (hF.sub rfl) h
  · replace h := hb65; clear hb64 hb66
    refine op_call hF rfl rfl rfl rfl (r_call (xs := [a1.v]) hF rfl rfl Try.call14) (CallsV.mono h ?_)
    clear h; rintro _ w97 ⟨r98, rfl, h⟩
    obtain ⟨hk99, hk100, hk101, h⟩ := h
    refine ⟨⟨hk99, hk100, hk101, trivial⟩, ?_⟩; clear hF; clear a; intro a hF
    obtain ⟨hb102, hb103⟩ := h
    refine GL.act2 (i1 := 6) (pend1 := [(0, fun x => World.cell? x p3 = some (.pointer t60))]) (i2 := 11) (pend2 := [(4, fun x => World.cell? x p62 = some (t63.v)), (1, fun x => World.cell? x p3 = some (.pointer t61)), (0, fun x => World.cell? x p3 = some (.pointer t60))]) hS (by kernel_rfl) rfl rfl (by kernel_rfl) (by kernel_rfl) ?_ ?_
    · replace h := hb102; clear hb103
      obtain ⟨t104, w105, hc_, h⟩ := h
      obtain ⟨hk106, h⟩ := h
      refine op_val  hF rfl rfl rfl rfl (r_makeSlice hF rfl rfl rfl hc_) ⟨hk106, trivial⟩ ?_; clear hF; clear a; intro a hF
      refine GL.val (v := .agg (#[.pointer t60, t104.v, r98.v])) (i := 9) hF hS rfl rfl (by kernel_rfl) rfl rfl rfl rfl (fun x => r_build (xs := [(0, .pointer t60), (1, t104.v), (2, r98.v)]) hF rfl rfl (by kernel_rfl)) ?_; clear hF; clear a; intro a hF
      obtain ⟨hb107, hb108⟩ := h
      refine GL.act2 (i1 := 10) (pend1 := []) (i2 := 11) (pend2 := [(0, fun x => World.cell? x p3 = some (.pointer t60))]) hS (by kernel_rfl) rfl rfl (by kernel_rfl) (by kernel_rfl) ?_ ?_
      · replace h := hb107; clear hb108
        obtain ⟨p109, w110, hp_, hw_, h⟩ := h
        refine op_val (v := .pointer (some p109)) (w' := w110) hF rfl rfl rfl rfl (by rw [hp_, hw_]; exact r_box hF rfl rfl rfl) trivial ?_; clear hF; clear a; intro a hF
        refine GL.act (i := 11) (pend' := []) hS (by kernel_rfl) rfl (by kernel_rfl) ?_
        obtain ⟨p111, w112, hp_, hw_, h⟩ := h
        refine op_val (v := .pointer (some p111)) (w' := w112) hF rfl rfl rfl rfl (by rw [hp_, hw_]; exact r_alloc rfl Try.zeroValue45 rfl) trivial ?_; clear hF; clear a; intro a hF
        refine GL.act (i := 12) (pend' := []) hS (by kernel_rfl) rfl (by kernel_rfl) ?_
        obtain ⟨u_, w113, hs1_, hs2_, hs3_, h⟩ := h
        refine op_unit (w' := w113) hF rfl rfl rfl (by rw [hs3_]; exact r_store hF rfl rfl rfl rfl Try.sizeOf45 hs1_ hs2_) trivial ?_; clear hF; clear a; intro a hF
        refine GL.done (by kernel_rfl) ?_
        exact jn11 (some p111) _ _ (hF.sub rfl) h
      · replace h := hb108; clear hb107
        obtain ⟨p114, w115, hp_, hw_, h⟩ := h
        obtain ⟨hk116, h⟩ := h
        refine op_val (v := .pointer (some p114)) (w' := w115) hF rfl rfl rfl rfl (by rw [hp_, hw_]; exact r_alloc rfl Try.zeroValue45 rfl) ⟨hk116, trivial⟩ ?_; clear hF; clear a; intro a hF
        refine GL.act (i := 10) (pend' := []) hS (by kernel_rfl) rfl (by kernel_rfl) ?_
        obtain ⟨p117, w118, hp_, hw_, h⟩ := h
        refine op_val (v := .pointer (some p117)) (w' := w118) hF rfl rfl rfl rfl (by rw [hp_, hw_]; exact r_box hF rfl rfl rfl) trivial ?_; clear hF; clear a; intro a hF
        refine GL.act (i := 12) (pend' := []) hS (by kernel_rfl) rfl (by kernel_rfl) ?_
        obtain ⟨u_, w119, hs1_, hs2_, hs3_, h⟩ := h
        refine op_unit (w' := w119) hF rfl rfl rfl (by rw [hs3_]; exact r_store hF rfl rfl rfl rfl Try.sizeOf45 hs1_ hs2_) trivial ?_; clear hF; clear a; intro a hF
        refine GL.done (by kernel_rfl) ?_
        exact jn11 (some p114) _ _ (hF.sub rfl) h
    · replace h := hb103; clear hb102
      obtain ⟨p120, w121, hp_, hw_, h⟩ := h
      obtain ⟨hk122, hk123, hk124, h⟩ := h
      refine op_val (v := .pointer (some p120)) (w' := w121) hF rfl rfl rfl rfl (by rw [hp_, hw_]; exact r_alloc rfl Try.zeroValue45 rfl) ⟨hk122, hk123, hk124, trivial⟩ ?_; clear hF; clear a; intro a hF
      refine GL.act (i := 6) (pend' := [(0, fun x => World.cell? x p3 = some (.pointer t60))]) hS (by kernel_rfl) rfl (by kernel_rfl) ?_
      obtain ⟨t125, w126, hc_, h⟩ := h
      obtain ⟨hk127, h⟩ := h
      refine op_val  hF rfl rfl rfl rfl (r_makeSlice hF rfl rfl rfl hc_) ⟨hk127, trivial⟩ ?_; clear hF; clear a; intro a hF
      refine GL.val (v := .agg (#[.pointer t60, t125.v, r98.v])) (i := 9) hF hS rfl rfl (by kernel_rfl) rfl rfl rfl rfl (fun x => r_build (xs := [(0, .pointer t60), (1, t125.v), (2, r98.v)]) hF rfl rfl (by kernel_rfl)) ?_; clear hF; clear a; intro a hF
      refine GL.act (i := 10) (pend' := []) hS (by kernel_rfl) rfl (by kernel_rfl) ?_
      obtain ⟨p128, w129, hp_, hw_, h⟩ := h
      refine op_val (v := .pointer (some p128)) (w' := w129) hF rfl rfl rfl rfl (by rw [hp_, hw_]; exact r_box hF rfl rfl rfl) trivial ?_; clear hF; clear a; intro a hF
      refine GL.act (i := 12) (pend' := []) hS (by kernel_rfl) rfl (by kernel_rfl) ?_
      obtain ⟨u_, w130, hs1_, hs2_, hs3_, h⟩ := h
      refine op_unit (w' := w130) hF rfl rfl rfl (by rw [hs3_]; exact r_store hF rfl rfl rfl rfl Try.sizeOf45 hs1_ hs2_) trivial ?_; clear hF; clear a; intro a hF
      refine GL.done (by kernel_rfl) ?_
      exact jn11 (some p120) _ _ (hF.sub rfl) h
  · replace h := hb66; clear hb64 hb65
    obtain ⟨p131, w132, hp_, hw_, h⟩ := h
    obtain ⟨hk133, hk134, hk135, h⟩ := h
    refine op_val (v := .pointer (some p131)) (w' := w132) hF rfl rfl rfl rfl (by rw [hp_, hw_]; exact r_alloc rfl Try.zeroValue45 rfl) ⟨hk133, hk134, hk135, trivial⟩ ?_; clear hF; clear a; intro a hF
    obtain ⟨hb136, hb137⟩ := h
    refine GL.act2 (i1 := 6) (pend1 := [(0, fun x => World.cell? x p3 = some (.pointer t60))]) (i2 := 8) (pend2 := [(4, fun x => World.cell? x p62 = some (t63.v)), (1, fun x => World.cell? x p3 = some (.pointer t61)), (0, fun x => World.cell? x p3 = some (.pointer t60))]) hS (by kernel_rfl) rfl rfl (by kernel_rfl) (by kernel_rfl) ?_ ?_
    · replace h := hb136; clear hb137
      obtain ⟨t138, w139, hc_, h⟩ := h
      obtain ⟨hk140, h⟩ := h
      refine op_val  hF rfl rfl rfl rfl (r_makeSlice hF rfl rfl rfl hc_) ⟨hk140, trivial⟩ ?_; clear hF; clear a; intro a hF
      refine GL.act (i := 8) (pend' := [(0, fun x => World.cell? x p3 = some (.pointer t60))]) hS (by kernel_rfl) rfl (by kernel_rfl) ?_
      refine op_call hF rfl rfl rfl rfl (r_call (xs := [a1.v]) hF rfl rfl Try.call14) (CallsV.mono h ?_)
      clear h; rintro _ w141 ⟨r142, rfl, h⟩
      obtain ⟨hk143, h⟩ := h
      refine ⟨⟨hk143, trivial⟩, ?_⟩; clear hF; clear a; intro a hF
      refine GL.val (v := .agg (#[.pointer t60, t138.v, r142.v])) (i := 9) hF hS rfl rfl (by kernel_rfl) rfl rfl rfl rfl (fun x => r_build (xs := [(0, .pointer t60), (1, t138.v), (2, r142.v)]) hF rfl rfl (by kernel_rfl)) ?_; clear hF; clear a; intro a hF
      refine GL.act (i := 10) (pend' := []) hS (by kernel_rfl) rfl (by kernel_rfl) ?_
      obtain ⟨p144, w145, hp_, hw_, h⟩ := h
      refine op_val (v := .pointer (some p144)) (w' := w145) hF rfl rfl rfl rfl (by rw [hp_, hw_]; exact r_box hF rfl rfl rfl) trivial ?_; clear hF; clear a; intro a hF
      refine GL.act (i := 12) (pend' := []) hS (by kernel_rfl) rfl (by kernel_rfl) ?_
      obtain ⟨u_, w146, hs1_, hs2_, hs3_, h⟩ := h
      refine op_unit (w' := w146) hF rfl rfl rfl (by rw [hs3_]; exact r_store hF rfl rfl rfl rfl Try.sizeOf45 hs1_ hs2_) trivial ?_; clear hF; clear a; intro a hF
      refine GL.done (by kernel_rfl) ?_
      exact jn11 (some p131) _ _ (hF.sub rfl) h
    · replace h := hb137; clear hb136
      refine op_call hF rfl rfl rfl rfl (r_call (xs := [a1.v]) hF rfl rfl Try.call14) (CallsV.mono h ?_)
      clear h; rintro _ w147 ⟨r148, rfl, h⟩
      obtain ⟨hk149, hk150, hk151, h⟩ := h
      refine ⟨⟨hk149, hk150, hk151, trivial⟩, ?_⟩; clear hF; clear a; intro a hF
      refine GL.act (i := 6) (pend' := [(0, fun x => World.cell? x p3 = some (.pointer t60))]) hS (by kernel_rfl) rfl (by kernel_rfl) ?_
      obtain ⟨t152, w153, hc_, h⟩ := h
      obtain ⟨hk154, h⟩ := h
      refine op_val  hF rfl rfl rfl rfl (r_makeSlice hF rfl rfl rfl hc_) ⟨hk154, trivial⟩ ?_; clear hF; clear a; intro a hF
      refine GL.val (v := .agg (#[.pointer t60, t152.v, r148.v])) (i := 9) hF hS rfl rfl (by kernel_rfl) rfl rfl rfl rfl (fun x => r_build (xs := [(0, .pointer t60), (1, t152.v), (2, r148.v)]) hF rfl rfl (by kernel_rfl)) ?_; clear hF; clear a; intro a hF
      refine GL.act (i := 10) (pend' := []) hS (by kernel_rfl) rfl (by kernel_rfl) ?_
      obtain ⟨p155, w156, hp_, hw_, h⟩ := h
      refine op_val (v := .pointer (some p155)) (w' := w156) hF rfl rfl rfl rfl (by rw [hp_, hw_]; exact r_box hF rfl rfl rfl) trivial ?_; clear hF; clear a; intro a hF
      refine GL.act (i := 12) (pend' := []) hS (by kernel_rfl) rfl (by kernel_rfl) ?_
      obtain ⟨u_, w157, hs1_, hs2_, hs3_, h⟩ := h
      refine op_unit (w' := w157) hF rfl rfl rfl (by rw [hs3_]; exact r_store hF rfl rfl rfl rfl Try.sizeOf45 hs1_ hs2_) trivial ?_; clear hF; clear a; intro a hF
      refine GL.done (by kernel_rfl) ?_
      exact jn11 (some p131) _ _ (hF.sub rfl) h

set_option maxRecDepth 20000 in
theorem br18 {a0 : Int} {w : World} {K : Int → World → Prop} (h : sh18 a0 w K) : C18 a0 w K := by
  unfold sh18 at h
  refine enter (n := 28) (l := [(0, .int .u64 a0)]) 27 Try.func18 rfl _ rfl rfl rfl fun a hF => ?_
  refine seq_region fun K1 hK2 => ?_
  refine RL.val  hF rfl rfl rfl (r_assign hF rfl rfl) ?_; clear hF; clear a; intro a hF
  refine RL.nil (hK2 _ _ ?_)
  clear hK2 K1
  refine seq_region fun K3 hK4 => ?_
  refine RL.val  hF rfl rfl rfl (r_move hF rfl rfl) ?_; clear hF; clear a; intro a hF
  refine RL.val  hF rfl rfl rfl (r_move hF rfl rfl) ?_; clear hF; clear a; intro a hF
  refine RL.val (v := .int .u64 (shrZ .u64 a0 31)) (w' := w) hF rfl rfl rfl (r_shr hF rfl rfl rfl (by decide)) ?_; clear hF; clear a; intro a hF
  refine RL.val  hF rfl rfl rfl (r_xor hF rfl rfl rfl) ?_; clear hF; clear a; intro a hF
  refine RL.val  hF rfl rfl rfl (r_move hF rfl rfl) ?_; clear hF; clear a; intro a hF
  refine RL.val (v := .int .u64 (shrZ .u64 a0 62)) (w' := w) hF rfl rfl rfl (r_shr hF rfl rfl rfl (by decide)) ?_; clear hF; clear a; intro a hF
  refine RL.val  hF rfl rfl rfl (r_xor hF rfl rfl rfl) ?_; clear hF; clear a; intro a hF
  refine RL.val  hF rfl rfl rfl (r_mul hF rfl rfl rfl) ?_; clear hF; clear a; intro a hF
  refine RL.val  hF rfl rfl rfl (r_assign hF rfl rfl) ?_; clear hF; clear a; intro a hF
  refine RL.nil (hK4 _ _ ?_)
  clear hK4 K3
  refine seq_region fun K5 hK6 => ?_
  refine RL.val  hF rfl rfl rfl (r_move hF rfl rfl) ?_; clear hF; clear a; intro a hF
  refine RL.val  hF rfl rfl rfl (r_move hF rfl rfl) ?_; clear hF; clear a; intro a hF
  refine RL.val (v := .int .u64 (shrZ .u64 (IntKind.u64.wrap ((bitsZ .xor .u64 (bitsZ .xor .u64 a0 (shrZ .u64 a0 31)) (shrZ .u64 a0 62)) * 3573116690164977347)) 27)) (w' := w) hF rfl rfl rfl (r_shr hF rfl rfl rfl (by decide)) ?_; clear hF; clear a; intro a hF
  refine RL.val  hF rfl rfl rfl (r_xor hF rfl rfl rfl) ?_; clear hF; clear a; intro a hF
  refine RL.val  hF rfl rfl rfl (r_move hF rfl rfl) ?_; clear hF; clear a; intro a hF
  refine RL.val (v := .int .u64 (shrZ .u64 (IntKind.u64.wrap ((bitsZ .xor .u64 (bitsZ .xor .u64 a0 (shrZ .u64 a0 31)) (shrZ .u64 a0 62)) * 3573116690164977347)) 54)) (w' := w) hF rfl rfl rfl (r_shr hF rfl rfl rfl (by decide)) ?_; clear hF; clear a; intro a hF
  refine RL.val  hF rfl rfl rfl (r_xor hF rfl rfl rfl) ?_; clear hF; clear a; intro a hF
  refine RL.val  hF rfl rfl rfl (r_mul hF rfl rfl rfl) ?_; clear hF; clear a; intro a hF
  refine RL.val  hF rfl rfl rfl (r_assign hF rfl rfl) ?_; clear hF; clear a; intro a hF
  refine RL.nil (hK6 _ _ ?_)
  clear hK6 K5
  refine seq_region fun K7 hK8 => ?_
  refine RL.val  hF rfl rfl rfl (r_move hF rfl rfl) ?_; clear hF; clear a; intro a hF
  refine RL.val  hF rfl rfl rfl (r_move hF rfl rfl) ?_; clear hF; clear a; intro a hF
  refine RL.val (v := .int .u64 (shrZ .u64 (IntKind.u64.wrap ((bitsZ .xor .u64 (bitsZ .xor .u64 (IntKind.u64.wrap ((bitsZ .xor .u64 (bitsZ .xor .u64 a0 (shrZ .u64 a0 31)) (shrZ .u64 a0 62)) * 3573116690164977347)) (shrZ .u64 (IntKind.u64.wrap ((bitsZ .xor .u64 (bitsZ .xor .u64 a0 (shrZ .u64 a0 31)) (shrZ .u64 a0 62)) * 3573116690164977347)) 27)) (shrZ .u64 (IntKind.u64.wrap ((bitsZ .xor .u64 (bitsZ .xor .u64 a0 (shrZ .u64 a0 31)) (shrZ .u64 a0 62)) * 3573116690164977347)) 54)) * 10871156337175269513)) 30)) (w' := w) hF rfl rfl rfl (r_shr hF rfl rfl rfl (by decide)) ?_; clear hF; clear a; intro a hF
  refine RL.val  hF rfl rfl rfl (r_xor hF rfl rfl rfl) ?_; clear hF; clear a; intro a hF
  refine RL.val  hF rfl rfl rfl (r_move hF rfl rfl) ?_; clear hF; clear a; intro a hF
  refine RL.val (v := .int .u64 (shrZ .u64 (IntKind.u64.wrap ((bitsZ .xor .u64 (bitsZ .xor .u64 (IntKind.u64.wrap ((bitsZ .xor .u64 (bitsZ .xor .u64 a0 (shrZ .u64 a0 31)) (shrZ .u64 a0 62)) * 3573116690164977347)) (shrZ .u64 (IntKind.u64.wrap ((bitsZ .xor .u64 (bitsZ .xor .u64 a0 (shrZ .u64 a0 31)) (shrZ .u64 a0 62)) * 3573116690164977347)) 27)) (shrZ .u64 (IntKind.u64.wrap ((bitsZ .xor .u64 (bitsZ .xor .u64 a0 (shrZ .u64 a0 31)) (shrZ .u64 a0 62)) * 3573116690164977347)) 54)) * 10871156337175269513)) 60)) (w' := w) hF rfl rfl rfl (r_shr hF rfl rfl rfl (by decide)) ?_; clear hF; clear a; intro a hF
  refine RL.val  hF rfl rfl rfl (r_xor hF rfl rfl rfl) ?_; clear hF; clear a; intro a hF
  refine RL.val  hF rfl rfl rfl (r_mul hF rfl rfl rfl) ?_; clear hF; clear a; intro a hF
  refine RL.val  hF rfl rfl rfl (r_sub hF rfl rfl rfl) ?_; clear hF; clear a; intro a hF
  refine RL.val  hF rfl rfl rfl (r_assign hF rfl rfl) ?_; clear hF; clear a; intro a hF
  refine RL.nil (hK8 _ _ ?_)
  clear hK8 K7
  refine wp_ret ?_
  exact ret_of hF (res1 hF rfl rfl) ⟨_, rfl, h⟩

set_option maxRecDepth 20000 in
theorem br12 {a0 : Array Value} {w : World} {K : Bool → World → Prop} (h : sh12 a0 w K) : C12 a0 w K := by
  unfold sh12 at h
  refine enter (n := 38) (l := [(0, .agg a0)]) 37 Try.func12 rfl _ rfl rfl rfl fun a hF => ?_
  refine seq_region fun K1 hK2 => ?_
  obtain ⟨p3, w4, hp_, hw_, h⟩ := h
  refine RL.val (v := .pointer (some p3)) (w' := w4) hF rfl rfl rfl (by rw [hp_, hw_]; exact r_box hF rfl rfl rfl) ?_; clear hF; clear a; intro a hF
  refine RL.val  hF rfl rfl rfl (r_assign hF rfl rfl) ?_; clear hF; clear a; intro a hF
  refine RL.nil (hK2 _ _ ?_)
  clear hK2 K1
  refine seq_region fun K5 hK6 => ?_
  obtain ⟨p7, w8, hp_, hw_, h⟩ := h
  refine RL.val (v := .pointer (some p7)) (w' := w8) hF rfl rfl rfl (by rw [hp_, hw_]; exact r_alloc rfl Try.zeroValue56 rfl) ?_; clear hF; clear a; intro a hF
  refine RL.nil (hK6 _ _ ?_)
  clear hK6 K5
  refine seq_k fun K9 hK10 => ?_
  obtain ⟨J, hJ, h⟩ := jn_open h
  have jn14 : ∀ (v11 : Unit) (w12 : World) a, Fr 38 a [(3, .pointer (some p7))] → J v11 w12 → K9 a w12 := by
    intro v11 w12 a hF h
    replace h := hJ _ _ h
    clear hJ
    refine hK10 _ _ ?_
    refine seq_region fun K15 hK16 => ?_
    obtain ⟨p17, h0_, h1_, hp_, h⟩ := h
    refine RL.val (v := .pointer (some p17)) (w' := w12) hF rfl rfl rfl (by rw [hp_]; exact r_indexAddrA hF rfl rfl rfl Try.runUnderlying56 Try.sizeOf55 h0_ h1_) ?_; clear hF; clear a; intro a hF
    obtain ⟨t18, hct18, h⟩ := h
    refine RL.val  hF rfl rfl rfl (r_load hF rfl rfl Try.isAgg55 hct18) ?_; clear hF; clear a; intro a hF
    refine RL.call hF rfl rfl rfl (r_call (xs := [.int .u64 t18]) hF rfl rfl Try.call18) (CallsV.mono h ?_)
    clear h; rintro _ w19 ⟨r20, rfl, h⟩; clear hF; clear a; intro a hF
    refine RL.val  hF rfl rfl rfl (r_assign hF rfl rfl) ?_; clear hF; clear a; intro a hF
    refine RL.nil (hK16 _ _ ?_)
    clear hK16 K15
    refine seq_draw 64 #[0, 1, 3, 7, 15, 31, 63, 15, 143, 511, 1023, 2047] 12 mo rfl (by kernel_rfl) (by kernel_rfl) fun hS K21 hK22 => ?_
    obtain ⟨w23, hw, h⟩ := h; rw [← hw]; clear hw
    obtain ⟨J26, hJ, h⟩ := jn_open h
    have jn27 : ∀ (v24 : Bool) (w25 : World) a, Fr 38 a [(2, .bool v24)] → J26 v24 w25 → K21 a w25 := by
      clear hF
      intro v24 w25 a hF h; replace h := hJ _ _ h; refine hK22 _ _ ?_; clear hJ hK22 K21
      refine wp_ret ?_
      exact ret_of hF (res1 hF rfl rfl) ⟨_, rfl, h⟩
    clear hJ hK22
    refine GL.val (v := .int .u64 r20) (i := 0) hF hS rfl rfl (by kernel_rfl) rfl rfl rfl rfl (fun x => r_move hF rfl rfl) ?_; clear hF; clear a; intro a hF
    refine GL.val (v := .int .u64 (r20.tmod 2)) (i := 1) hF hS rfl rfl (by kernel_rfl) rfl rfl rfl rfl (fun x => r_rem hF rfl rfl rfl (by decide)) ?_; clear hF; clear a; intro a hF
    refine GL.val (v := .bool ((r20.tmod 2) == 0)) (i := 2) hF hS rfl rfl (by kernel_rfl) rfl rfl rfl rfl (fun x => r_eql hF rfl rfl rfl) ?_; clear hF; clear a; intro a hF
    refine GL.val (v := .bool ((r20.tmod 2) == 0)) (i := 3) hF hS rfl rfl (by kernel_rfl) rfl rfl rfl rfl (fun x => r_move hF rfl rfl) ?_; clear hF; clear a; intro a hF
    obtain ⟨ht, hf⟩ := h
    rcases bool_cases ((r20.tmod 2) == 0) with hg28 | hg28
    · replace h := ht hg28; clear ht hf
      refine GL.gval (v := .int .u64 r20) (i := 4) hF hS rfl rfl (by kernel_rfl) rfl rfl rfl (lkb rfl hg28) rfl rfl (fun x => r_move hF rfl rfl) ?_; clear hF; clear a; intro a hF
      refine GL.gval (v := .int .u64 (IntKind.u64.wrap (r20 + 1))) (i := 5) hF hS rfl rfl (by kernel_rfl) rfl rfl rfl (lkb rfl hg28) rfl rfl (fun x => r_add hF rfl rfl rfl) ?_; clear hF; clear a; intro a hF
      obtain ⟨p29, h0_, h1_, hp_, h⟩ := h
      refine GL.gval (v := .pointer (some p29)) (i := 7) hF hS rfl rfl (by kernel_rfl) rfl rfl rfl (lkb rfl hg28) rfl rfl (fun x => by rw [hp_]; exact r_indexAddrA hF rfl rfl rfl Try.runUnderlying56 Try.sizeOf55 h0_ h1_) ?_; clear hF; clear a; intro a hF
      obtain ⟨t30, hct30, h⟩ := h
      refine GL.gread (v := .int .u64 t30) (i := 8) hF (fun x => World.cell? x p29 = some (.int .u64 t30)) hS rfl rfl (by kernel_rfl) rfl rfl rfl (lkb rfl hg28) rfl rfl hct30 (fun x hx => r_load hF rfl rfl Try.isAgg55 hx) ?_; clear hF; clear a; intro a hF
      refine GL.act (i := 6) (pend' := [(8, fun x => World.cell? x p29 = some (.int .u64 t30))]) hS (by kernel_rfl) rfl (by kernel_rfl) ?_
      refine op_gcall hF rfl rfl rfl (lkb rfl hg28) rfl rfl (r_call (xs := [.int .u64 (IntKind.u64.wrap (r20 + 1))]) hF rfl rfl Try.call19) (CallsV.mono h ?_)
      clear h; rintro _ w31 ⟨r32, rfl, h⟩
      obtain ⟨hk33, h⟩ := h
      refine ⟨⟨hk33, trivial⟩, ?_⟩; clear hF; clear a; intro a hF
      refine GL.gval (v := .bool (r32 == t30)) (i := 9) hF hS rfl rfl (by kernel_rfl) rfl rfl rfl (lkb rfl hg28) rfl rfl (fun x => r_eql hF rfl rfl rfl) ?_; clear hF; clear a; intro a hF
      refine GL.val (v := .bool (r32 == t30)) (i := 10) hF hS rfl rfl (by kernel_rfl) rfl rfl rfl rfl (fun x => r_pick hF rfl rfl rfl rfl (fun _ => rfl) (fun e => absurd (hg28.symm.trans e) (by decide))) ?_; clear hF; clear a; intro a hF
      refine GL.val (v := .bool (r32 == t30)) (i := 11) hF hS rfl rfl (by kernel_rfl) rfl rfl rfl rfl (fun x => r_assign hF rfl rfl) ?_; clear hF; clear a; intro a hF
      refine GL.done (by kernel_rfl) ?_
      exact jn27 (r32 == t30) _ _ (hF.sub rfl) h
    · replace h := hf hg28; clear ht hf
      refine GL.skip (i := 4) hF hS rfl rfl (by kernel_rfl) rfl rfl rfl (lkb rfl hg28) (.inl rfl) rfl rfl ?_; clear hF; clear a; intro a hF
      refine GL.skip (i := 5) hF hS rfl rfl (by kernel_rfl) rfl rfl rfl (lkb rfl hg28) (.inl rfl) rfl rfl ?_; clear hF; clear a; intro a hF
      refine GL.skip (i := 7) hF hS rfl rfl (by kernel_rfl) rfl rfl rfl (lkb rfl hg28) (.inl rfl) rfl rfl ?_; clear hF; clear a; intro a hF
      refine GL.skip (i := 8) hF hS rfl rfl (by kernel_rfl) rfl rfl rfl (lkb rfl hg28) (.inl rfl) rfl rfl ?_; clear hF; clear a; intro a hF
      refine GL.actSkip (i := 6) (pend' := []) hF hS (by kernel_rfl) rfl (by kernel_rfl) rfl rfl rfl (lkb rfl hg28) (.inl rfl) rfl rfl ?_; clear hF; clear a; intro a hF
      refine GL.skip (i := 9) hF hS rfl rfl (by kernel_rfl) rfl rfl rfl (lkb rfl hg28) (.inl rfl) rfl rfl ?_; clear hF; clear a; intro a hF
      refine GL.val (v := .bool false) (i := 10) hF hS rfl rfl (by kernel_rfl) rfl rfl rfl rfl (fun x => r_pick hF rfl rfl rfl rfl (fun e => absurd (hg28.symm.trans e) (by decide)) (fun _ => rfl)) ?_; clear hF; clear a; intro a hF
      refine GL.val (v := .bool false) (i := 11) hF hS rfl rfl (by kernel_rfl) rfl rfl rfl rfl (fun x => r_assign hF rfl rfl) ?_; clear hF; clear a; intro a hF
      refine GL.done (by kernel_rfl) ?_
      exact jn27 false _ _ (hF.sub rfl) h
  clear hJ
  refine seq_region fun K34 hK35 => ?_
  obtain ⟨t36, hct36, h⟩ := h
  refine RL.val  hF rfl rfl rfl (r_loadA hF rfl rfl Try.isAgg27 Try.sizeOf27 hct36) ?_; clear hF; clear a; intro a hF
  refine RL.val  hF rfl rfl rfl (r_move hF rfl rfl) ?_; clear hF; clear a; intro a hF
  refine RL.nil (hK35 _ _ ?_)
  clear hK35 K34
  refine wp_block ?_
  refine loop_ (fun (s37 : Int) => [(3, .pointer (some p7)), (7, .agg t36), (8, .int .i64 s37)]) (hF.sub rfl) h ?_
  clear hF h
  intro s37 w38 N39 KL hN40 h a hF
  refine seq_region fun K41 hK42 => ?_
  refine RL.val  hF rfl rfl rfl (r_lss hF rfl rfl rfl) ?_; clear hF; clear a; intro a hF
  refine RL.nil (hK42 _ _ ?_)
  clear hK42 K41
  refine seq_k fun K43 hK44 => ?_
  obtain ⟨J, hJ, h⟩ := jn_open h
  have jn48 : ∀ (v45 : Unit) (w46 : World) a, Fr 38 a [(3, .pointer (some p7)), (7, .agg t36), (8, .int .i64 s37)] → J v45 w46 → K43 a w46 := by
    intro v45 w46 a hF h
    replace h := hJ _ _ h
    clear hJ
    refine hK44 _ _ ?_
    refine seq_k fun K49 hK50 => ?_
    obtain ⟨J, hJ, h⟩ := jn_open h
    have jn54 : ∀ (v51 : Unit) (w52 : World) a, Fr 38 a [(3, .pointer (some p7)), (7, .agg t36), (8, .int .i64 s37)] → J v51 w52 → K49 a w52 := by
      intro v51 w52 a hF h
      replace h := hJ _ _ h
      clear hJ
      refine hK50 _ _ ?_
      refine end_region fun K55 hK56 => ?_
      refine RL.val  hF rfl rfl rfl (r_add hF rfl rfl rfl) ?_; clear hF; clear a; intro a hF
      refine RL.val  hF rfl rfl rfl (r_move hF rfl rfl) ?_; clear hF; clear a; intro a hF
      refine RL.nil (hK56 _ _ ?_)
      clear hK56 K55
      exact hN40 (IntKind.i64.wrap (s37 + 1)) _ _ (hF.sub rfl) h
    clear hJ
    refine wp_block ?_
    refine seq_region fun K57 hK58 => ?_
    refine RL.val  hF rfl rfl rfl (r_move hF rfl rfl) ?_; clear hF; clear a; intro a hF
    obtain ⟨h0_, h1_, h⟩ := h
    obtain ⟨t59, hct59, h⟩ := h
    refine RL.val  hF rfl rfl rfl (r_index hF rfl rfl rfl Try.runUnderlying27 Try.sizeOf5 h0_ h1_ (part1 Try.isAgg5 hct59)) ?_; clear hF; clear a; intro a hF
    refine RL.val  hF rfl rfl rfl (r_assign hF rfl rfl) ?_; clear hF; clear a; intro a hF
    refine RL.val  hF rfl rfl rfl (r_assign hF rfl rfl) ?_; clear hF; clear a; intro a hF
    refine RL.nil (hK58 _ _ ?_)
    clear hK58 K57
    refine end_region fun K60 hK61 => ?_
    refine RL.val  hF rfl rfl rfl (r_move hF rfl rfl) ?_; clear hF; clear a; intro a hF
    refine RL.val (v := .int .i64 (IntKind.i64.wrap (s37.tdiv 8))) (w' := w46) hF rfl rfl rfl (r_quo hF rfl rfl rfl (by decide)) ?_; clear hF; clear a; intro a hF
    refine RL.val  hF rfl rfl rfl (r_move hF rfl rfl) ?_; clear hF; clear a; intro a hF
    refine RL.val (v := .int .i64 (IntKind.i64.wrap (s37.tdiv 8))) (w' := w46) hF rfl rfl rfl (r_quo hF rfl rfl rfl (by decide)) ?_; clear hF; clear a; intro a hF
    obtain ⟨p62, h0_, h1_, hp_, h⟩ := h
    refine RL.val (v := .pointer (some p62)) (w' := w46) hF rfl rfl rfl (by rw [hp_]; exact r_indexAddrA hF rfl rfl rfl Try.runUnderlying56 Try.sizeOf55 h0_ h1_) ?_; clear hF; clear a; intro a hF
    obtain ⟨t63, hct63, h⟩ := h
    refine RL.val  hF rfl rfl rfl (r_load hF rfl rfl Try.isAgg55 hct63) ?_; clear hF; clear a; intro a hF
    refine RL.val (v := .int .u64 (shlZ .u64 t63 8)) (w' := w46) hF rfl rfl rfl (r_shl hF rfl rfl rfl (by decide)) ?_; clear hF; clear a; intro a hF
    refine RL.val  hF rfl rfl rfl (r_move hF rfl rfl) ?_; clear hF; clear a; intro a hF
    refine RL.val  hF rfl rfl rfl (r_convInt hF rfl rfl Try.runUnderlying5 Try.runUnderlying55) ?_; clear hF; clear a; intro a hF
    refine RL.val  hF rfl rfl rfl (r_or hF rfl rfl rfl) ?_; clear hF; clear a; intro a hF
    obtain ⟨p64, h0_, h1_, hp_, h⟩ := h
    refine RL.val (v := .pointer (some p64)) (w' := w46) hF rfl rfl rfl (by rw [hp_]; exact r_indexAddrA hF rfl rfl rfl Try.runUnderlying56 Try.sizeOf55 h0_ h1_) ?_; clear hF; clear a; intro a hF
    obtain ⟨u_, w65, hs1_, hs2_, hs3_, h⟩ := h
    refine RL.unit (w' := w65) hF rfl rfl (by rw [hs3_]; exact r_store hF rfl rfl rfl rfl Try.sizeOf55 hs1_ hs2_) ?_; clear hF; clear a; intro a hF
    refine RL.nil (hK61 _ _ ?_)
    clear hK61 K60
    exact jn54 () _ _ (hF.sub rfl) h
  clear hJ
  obtain ⟨ht, hf⟩ := h
  refine cond_ hF rfl (fun hc => ?_) (fun hc => ?_)
  · replace h := ht hc; clear ht hf
    refine wp_skip ?_
    exact jn48 () _ _ (hF.sub rfl) h
  · replace h := hf hc; clear ht hf
    refine wp_exit ?_
    exact jn14 () _ _ (hF.sub rfl) h

set_option maxRecDepth 20000 in
theorem br6 {a0 : Option Addr} {a1 : Slc} {a2 : Slc} {w : World} {K : Bool → World → Prop} (h : sh6 a0 a1 a2 w K) : C6 a0 a1 a2 w K := by
  unfold sh6 at h
  refine enter (n := 59) (l := [(0, .pointer a0), (1, a1.v), (2, a2.v)]) 56 Try.func6 rfl _ rfl rfl rfl fun a hF => ?_
  refine seq_region fun K1 hK2 => ?_
  refine RL.val  hF rfl rfl rfl (r_assign hF rfl rfl) ?_; clear hF; clear a; intro a hF
  refine RL.nil (hK2 _ _ ?_)
  clear hK2 K1
  refine seq_k fun K3 hK4 => ?_
  obtain ⟨J, hJ, h⟩ := jn_open h
  have jn8 : ∀ (v5 : Unit) (w6 : World) a, Fr 59 a [(0, .pointer a0), (1, a1.v), (2, a2.v)] → J v5 w6 → K3 a w6 := by
    intro v5 w6 a hF h
    replace h := hJ _ _ h
    clear hJ
    refine hK4 _ _ ?_
    refine seq_region fun K9 hK10 => ?_
    refine RL.val  hF rfl rfl rfl (r_move hF rfl rfl) ?_; clear hF; clear a; intro a hF
    refine RL.val  hF rfl rfl rfl (r_move hF rfl rfl) ?_; clear hF; clear a; intro a hF
    refine RL.call hF rfl rfl rfl (r_call (xs := [.pointer a0, a2.v]) hF rfl rfl Try.call11) (CallsV.mono h ?_)
    clear h; rintro _ w11 ⟨r12, rfl, h⟩; clear hF; clear a; intro a hF
    refine RL.val  hF rfl rfl rfl (r_assign hF rfl rfl) ?_; clear hF; clear a; intro a hF
    refine RL.nil (hK10 _ _ ?_)
    clear hK10 K9
    refine seq_k fun K13 hK14 => ?_
    obtain ⟨J, hJ, h⟩ := jn_open h
    have jn18 : ∀ (v15 : Unit) (w16 : World) a, Fr 59 a [] → J v15 w16 → K13 a w16 := by
      intro v15 w16 a hF h
      replace h := hJ _ _ h
      clear hJ
      refine hK14 _ _ ?_
      refine seq_region fun K19 hK20 => ?_
      refine RL.val  hF rfl rfl rfl (r_assign hF rfl rfl) ?_; clear hF; clear a; intro a hF
      refine RL.nil (hK20 _ _ ?_)
      clear hK20 K19
      refine wp_ret ?_
      exact ret_of hF (res1 hF rfl rfl) ⟨_, rfl, h⟩
    clear hJ
    refine seq_region fun K21 hK22 => ?_
    refine RL.val  hF rfl rfl rfl (r_assign hF rfl rfl) ?_; clear hF; clear a; intro a hF
    refine RL.nil (hK22 _ _ ?_)
    clear hK22 K21
    refine wp_block ?_
    refine loop_ (fun (s23 : Int) => [(0, .pointer a0), (1, a1.v), (7, .pointer r12), (8, .int .i64 s23)]) (hF.sub rfl) h ?_
    clear hF h
    intro s23 w24 N25 KL hN26 h a hF
    refine seq_k fun K27 hK28 => ?_
    obtain ⟨J, hJ, h⟩ := jn_open h
    have jn32 : ∀ (v29 : Unit) (w30 : World) a, Fr 59 a [(0, .pointer a0), (1, a1.v), (7, .pointer r12), (8, .int .i64 s23)] → J v29 w30 → K27 a w30 := by
      intro v29 w30 a hF h
      replace h := hJ _ _ h
      clear hJ
      refine hK28 _ _ ?_
      refine seq_k fun K33 hK34 => ?_
      obtain ⟨J, hJ, h⟩ := jn_open h
      have jn38 : ∀ (v35 : Unit) (w36 : World) a, Fr 59 a [(0, .pointer a0), (1, a1.v), (7, .pointer r12), (8, .int .i64 s23)] → J v35 w36 → K33 a w36 := by
        intro v35 w36 a hF h
        replace h := hJ _ _ h
        clear hJ
        refine hK34 _ _ ?_
        refine end_region fun K39 hK40 => ?_
        refine RL.val  hF rfl rfl rfl (r_move hF rfl rfl) ?_; clear hF; clear a; intro a hF
        refine RL.val  hF rfl rfl rfl (r_add hF rfl rfl rfl) ?_; clear hF; clear a; intro a hF
        refine RL.val  hF rfl rfl rfl (r_assign hF rfl rfl) ?_; clear hF; clear a; intro a hF
        refine RL.nil (hK40 _ _ ?_)
        clear hK40 K39
        exact hN26 (IntKind.i64.wrap (s23 + 1)) _ _ (hF.sub rfl) h
      clear hJ
      refine wp_block ?_
      refine seq_region fun K41 hK42 => ?_
      refine RL.val  hF rfl rfl rfl (r_move hF rfl rfl) ?_; clear hF; clear a; intro a hF
      refine RL.val  hF rfl rfl rfl (r_move hF rfl rfl) ?_; clear hF; clear a; intro a hF
      refine RL.val  hF rfl rfl rfl (r_move hF rfl rfl) ?_; clear hF; clear a; intro a hF
      refine RL.val  hF rfl rfl rfl (r_add hF rfl rfl rfl) ?_; clear hF; clear a; intro a hF
      obtain ⟨hs43, hs44, hs45, h⟩ := h
      refine RL.val  hF rfl rfl rfl (r_slice (lo' := some (.int .i64 s23)) (hi' := some (.int .i64 (IntKind.i64.wrap (s23 + 16)))) (mx' := none) hF rfl rfl rfl rfl rfl (slc_at Try.runUnderlying22 Try.sizeOf5 (bounds11 hs43 hs44 hs45))) ?_; clear hF; clear a; intro a hF
      obtain ⟨h0_, h⟩ := h
      refine RL.val  hF rfl rfl rfl (r_s2ap hF rfl rfl Try.runUnderlying27 h0_) ?_; clear hF; clear a; intro a hF
      obtain ⟨p47, hpp47, h⟩ := h
      obtain ⟨t46, hct46, h⟩ := h
      refine RL.val  hF rfl rfl rfl (r_loadA hF rfl (lkp rfl hpp47) Try.isAgg27 Try.sizeOf27 hct46) ?_; clear hF; clear a; intro a hF
      obtain ⟨p48, w49, hp_, hw_, h⟩ := h
      refine RL.val (v := .pointer (some p48)) (w' := w49) hF rfl rfl rfl (by rw [hp_, hw_]; exact r_alloc rfl Try.zeroValue27 rfl) ?_; clear hF; clear a; intro a hF
      obtain ⟨w50, hs1_, hs2_, hs3_, hs4_, h⟩ := h
      refine RL.unit (w' := w50) hF rfl rfl (by rw [hs4_]; exact r_storeA hF rfl rfl rfl Try.sizeOf27 hs1_ hs2_ hs3_) ?_; clear hF; clear a; intro a hF
      refine RL.nil (hK42 _ _ ?_)
      clear hK42 K41
      refine seq_draw 0 #[0, 1, 3, 7, 0, 31, 63, 127, 127, 255, 1023] 11 mo rfl (by kernel_rfl) (by kernel_rfl) fun hS K51 hK52 => ?_
      obtain ⟨w53, hw, h⟩ := h; rw [← hw]; clear hw
      refine GL.val (v := .pointer a0) (i := 0) hF hS rfl rfl (by kernel_rfl) rfl rfl rfl rfl (fun x => r_move hF rfl rfl) ?_; clear hF; clear a; intro a hF
      obtain ⟨p54, hpp54, h⟩ := h
      refine GL.val (v := .pointer (some p54)) (i := 1) hF hS rfl rfl (by kernel_rfl) rfl rfl rfl rfl (fun x => r_nilCheck hF rfl (lkp rfl hpp54)) ?_; clear hF; clear a; intro a hF
      refine GL.val (v := .pointer (some (p54.add 2))) (i := 2) hF hS rfl rfl (by kernel_rfl) rfl rfl rfl rfl (fun x => r_fieldAddr hF rfl rfl Try.runUnderlying40 rfl Try.sizeOf37 rfl) ?_; clear hF; clear a; intro a hF
      obtain ⟨t55, hct55, h⟩ := h
      refine GL.read (v := .map t55) (i := 3) hF (fun x => World.cell? x (p54.add 2) = some (.map t55)) hS rfl rfl (by kernel_rfl) rfl rfl rfl rfl hct55 (fun x hx => r_load hF rfl rfl Try.isAgg37 hx) ?_; clear hF; clear a; intro a hF
      obtain ⟨t56, hct56, h⟩ := h
      refine GL.read (v := .agg t56) (i := 4) hF (fun x => CellsAt x p48 16 t56) hS rfl rfl (by kernel_rfl) rfl rfl rfl rfl hct56 (fun x hx => r_loadA hF rfl rfl Try.isAgg27 Try.sizeOf27 hx) ?_; clear hF; clear a; intro a hF
      obtain ⟨t57, t58, hct57, h⟩ := h
      refine GL.read (v := .tuple #[.int .i64 t57, .bool t58]) (i := 5) hF (fun x => rn Try.prog (Instr.lookup 37 (.map t55) (.agg t56) true) (.tuple #[.int .i64 t57, .bool t58]) x x) hS rfl rfl (by kernel_rfl) rfl rfl rfl rfl hct57 (fun x hx => r_lookup hF rfl rfl rfl hx) ?_; clear hF; clear a; intro a hF
      refine GL.val (v := .tuple #[.int .i64 t57, .bool t58]) (i := 6) hF hS rfl rfl (by kernel_rfl) rfl rfl rfl rfl (fun x => r_move hF rfl rfl) ?_; clear hF; clear a; intro a hF
      refine GL.val (v := .int .i64 t57) (i := 7) hF hS rfl rfl (by kernel_rfl) rfl rfl rfl rfl (fun x => r_extract hF rfl rfl rfl) ?_; clear hF; clear a; intro a hF
      refine GL.val (v := .bool t58) (i := 8) hF hS rfl rfl (by kernel_rfl) rfl rfl rfl rfl (fun x => r_extract hF rfl rfl rfl) ?_; clear hF; clear a; intro a hF
      refine GL.val (v := .int .i64 t57) (i := 9) hF hS rfl rfl (by kernel_rfl) rfl rfl rfl rfl (fun x => r_assign hF rfl rfl) ?_; clear hF; clear a; intro a hF
      refine GL.val (v := .bool t58) (i := 10) hF hS rfl rfl (by kernel_rfl) rfl rfl rfl rfl (fun x => r_assign hF rfl rfl) ?_; clear hF; clear a; intro a hF
      refine GL.done (by kernel_rfl) (hK52 _ _ ?_)
      clear hK52 K51
      refine seq_region fun K59 hK60 => ?_
      obtain ⟨J63, hJ, h⟩ := jn_open h
      have jn64 : ∀ (v61 : Bool) (w62 : World) a, Fr 59 a [(0, .pointer a0), (1, a1.v), (7, .pointer r12), (8, .int .i64 s23), (58, .bool v61)] → J63 v61 w62 → K59 a w62 := by
        clear hF
        intro v61 w62 a hF h; replace h := hJ _ _ h; refine hK60 _ _ ?_; clear hJ hK60 K59
        obtain ⟨ht, hf⟩ := h
        refine cond_ hF rfl (fun hc => ?_) (fun hc => ?_)
        · replace h := ht hc; clear ht hf
          refine seq_region fun K65 hK66 => ?_
          refine RL.val  hF rfl rfl rfl (r_assign hF rfl rfl) ?_; clear hF; clear a; intro a hF
          refine RL.nil (hK66 _ _ ?_)
          clear hK66 K65
          refine wp_ret ?_
          exact ret_of hF (res1 hF rfl rfl) ⟨_, rfl, h⟩
        · replace h := hf hc; clear ht hf
          refine wp_skip ?_
          exact jn38 () _ _ (hF.sub rfl) h
      clear hJ hK60
      refine RL.val  hF rfl rfl rfl (r_move hF rfl rfl) ?_; clear hF; clear a; intro a hF
      refine RL.val  hF rfl rfl rfl (r_move hF rfl rfl) ?_; clear hF; clear a; intro a hF
      obtain ⟨ht, hf⟩ := h
      rcases bool_cases t58 with hg67 | hg67
      · replace h := ht hg67; clear ht hf
        refine RL.gval  hF rfl rfl (lkb rfl hg67) rfl rfl (r_move hF rfl rfl) ?_; clear hF; clear a; intro a hF
        obtain ⟨p68, hpp68, h⟩ := h
        refine RL.gval  hF rfl rfl (lkb rfl hg67) rfl rfl (r_nilCheck hF rfl (lkp rfl hpp68)) ?_; clear hF; clear a; intro a hF
        refine RL.gval  hF rfl rfl (lkb rfl hg67) rfl rfl (r_fieldAddr hF rfl rfl Try.runUnderlying50 rfl Try.sizeOf48 rfl) ?_; clear hF; clear a; intro a hF
        obtain ⟨t69, hct69, h⟩ := h
        refine RL.gval  hF rfl rfl (lkb rfl hg67) rfl rfl (r_load hF rfl rfl Try.isAgg48 hct69) ?_; clear hF; clear a; intro a hF
        refine RL.gval  hF rfl rfl (lkb rfl hg67) rfl rfl (r_move hF rfl rfl) ?_; clear hF; clear a; intro a hF
        obtain ⟨b71, p70, hb_, h0_, h1_, hp_, h⟩ := h
        refine RL.gval (v := .pointer (some p70)) (w' := w53) hF rfl rfl (lkb rfl hg67) rfl rfl (by rw [hp_]; exact r_indexAddr hF rfl (lks rfl hb_) rfl Try.runUnderlying48 Try.sizeOf4 h0_ h1_) ?_; clear hF; clear a; intro a hF
        obtain ⟨t72, hct72, h⟩ := h
        refine RL.gval  hF rfl rfl (lkb rfl hg67) rfl rfl (r_load hF rfl rfl Try.isAgg4 hct72) ?_; clear hF; clear a; intro a hF
        refine RL.gval  hF rfl rfl (lkb rfl hg67) rfl rfl (r_not hF rfl rfl) ?_; clear hF; clear a; intro a hF
        refine RL.val (v := .bool (!t72)) (w' := w53) hF rfl rfl rfl (r_pick hF rfl rfl rfl rfl (fun _ => rfl) (fun e => absurd (hg67.symm.trans e) (by decide))) ?_; clear hF; clear a; intro a hF
        refine RL.val  hF rfl rfl rfl (r_move hF rfl rfl) ?_; clear hF; clear a; intro a hF
        obtain ⟨ht, hf⟩ := h
        rcases bool_cases (!t72) with hg73 | hg73
        · replace h := ht hg73; clear ht hf
          refine RL.skip hF rfl rfl (lkb rfl hg73) (.inl rfl) rfl rfl ?_; clear hF; clear a; intro a hF
          refine RL.skip hF rfl rfl (lkb rfl hg73) (.inl rfl) rfl rfl ?_; clear hF; clear a; intro a hF
          refine RL.skip hF rfl rfl (lkb rfl hg73) (.inl rfl) rfl rfl ?_; clear hF; clear a; intro a hF
          refine RL.skip hF rfl rfl rfl (.inr rfl) rfl rfl ?_; clear hF; clear a; intro a hF
          refine RL.skip hF rfl rfl rfl (.inr rfl) rfl rfl ?_; clear hF; clear a; intro a hF
          refine RL.skip hF rfl rfl (lkb rfl hg73) (.inl rfl) rfl rfl ?_; clear hF; clear a; intro a hF
          refine RL.val (v := .bool true) (w' := w53) hF rfl rfl rfl (r_pick hF rfl rfl rfl rfl (fun _ => rfl) (fun e => absurd (hg73.symm.trans e) (by decide))) ?_; clear hF; clear a; intro a hF
          refine RL.nil ?_
          exact jn64 true _ _ (hF.sub rfl) h
        · replace h := hf hg73; clear ht hf
          refine RL.gval  hF rfl rfl (lkb rfl hg73) rfl rfl (r_move hF rfl rfl) ?_; clear hF; clear a; intro a hF
          refine RL.gval  hF rfl rfl (lkb rfl hg73) rfl rfl (r_not hF rfl rfl) ?_; clear hF; clear a; intro a hF
          refine RL.gval  hF rfl rfl (lkb rfl hg73) rfl rfl (r_move hF rfl rfl) ?_; clear hF; clear a; intro a hF
          obtain ⟨ht, hf⟩ := h
          rcases bool_cases (!t58) with hg74 | hg74
          · replace h := ht hg74; clear ht hf
            obtain ⟨t75, hct75, h⟩ := h
            refine RL.gval  hF rfl rfl (lkb rfl hg74) rfl rfl (r_loadA hF rfl rfl Try.isAgg27 Try.sizeOf27 hct75) ?_; clear hF; clear a; intro a hF
            refine RL.gcall hF rfl rfl (lkb rfl hg74) rfl rfl (r_call (xs := [.agg t75]) hF rfl rfl Try.call12) (CallsV.mono h ?_)
            clear h; rintro _ w76 ⟨r77, rfl, h⟩; clear hF; clear a; intro a hF
            refine RL.gval (v := .bool r77) (w' := w76) hF rfl rfl (lkb rfl hg73) rfl rfl (r_pick hF rfl rfl rfl rfl (fun _ => rfl) (fun e => absurd (hg74.symm.trans e) (by decide))) ?_; clear hF; clear a; intro a hF
            refine RL.val (v := .bool r77) (w' := w76) hF rfl rfl rfl (r_pick hF rfl rfl rfl rfl (fun e => absurd (hg73.symm.trans e) (by decide)) (fun _ => rfl)) ?_; clear hF; clear a; intro a hF
            refine RL.nil ?_
            exact jn64 r77 _ _ (hF.sub rfl) h
          · replace h := hf hg74; clear ht hf
            refine RL.skip hF rfl rfl (lkb rfl hg74) (.inl rfl) rfl rfl ?_; clear hF; clear a; intro a hF
            refine RL.skip hF rfl rfl (lkb rfl hg74) (.inl rfl) rfl rfl ?_; clear hF; clear a; intro a hF
            refine RL.gval (v := .bool false) (w' := w53) hF rfl rfl (lkb rfl hg73) rfl rfl (r_pick hF rfl rfl rfl rfl (fun e => absurd (hg74.symm.trans e) (by decide)) (fun _ => rfl)) ?_; clear hF; clear a; intro a hF
            refine RL.val (v := .bool false) (w' := w53) hF rfl rfl rfl (r_pick hF rfl rfl rfl rfl (fun e => absurd (hg73.symm.trans e) (by decide)) (fun _ => rfl)) ?_; clear hF; clear a; intro a hF
            refine RL.nil ?_
            exact jn64 false _ _ (hF.sub rfl) h
      · replace h := hf hg67; clear ht hf
        refine RL.skip hF rfl rfl (lkb rfl hg67) (.inl rfl) rfl rfl ?_; clear hF; clear a; intro a hF
        refine RL.skip hF rfl rfl (lkb rfl hg67) (.inl rfl) rfl rfl ?_; clear hF; clear a; intro a hF
        refine RL.skip hF rfl rfl (lkb rfl hg67) (.inl rfl) rfl rfl ?_; clear hF; clear a; intro a hF
        refine RL.skip hF rfl rfl (lkb rfl hg67) (.inl rfl) rfl rfl ?_; clear hF; clear a; intro a hF
        refine RL.skip hF rfl rfl (lkb rfl hg67) (.inl rfl) rfl rfl ?_; clear hF; clear a; intro a hF
        refine RL.skip hF rfl rfl (lkb rfl hg67) (.inl rfl) rfl rfl ?_; clear hF; clear a; intro a hF
        refine RL.skip hF rfl rfl (lkb rfl hg67) (.inl rfl) rfl rfl ?_; clear hF; clear a; intro a hF
        refine RL.skip hF rfl rfl (lkb rfl hg67) (.inl rfl) rfl rfl ?_; clear hF; clear a; intro a hF
        refine RL.val (v := .bool false) (w' := w53) hF rfl rfl rfl (r_pick hF rfl rfl rfl rfl (fun e => absurd (hg67.symm.trans e) (by decide)) (fun _ => rfl)) ?_; clear hF; clear a; intro a hF
        refine RL.val  hF rfl rfl rfl (r_move hF rfl rfl) ?_; clear hF; clear a; intro a hF
        refine RL.gval  hF rfl rfl rfl rfl rfl (r_move hF rfl rfl) ?_; clear hF; clear a; intro a hF
        refine RL.gval  hF rfl rfl rfl rfl rfl (r_not hF rfl rfl) ?_; clear hF; clear a; intro a hF
        refine RL.gval  hF rfl rfl rfl rfl rfl (r_move hF rfl rfl) ?_; clear hF; clear a; intro a hF
        obtain ⟨ht, hf⟩ := h
        rcases bool_cases (!t58) with hg78 | hg78
        · replace h := ht hg78; clear ht hf
          obtain ⟨t79, hct79, h⟩ := h
          refine RL.gval  hF rfl rfl (lkb rfl hg78) rfl rfl (r_loadA hF rfl rfl Try.isAgg27 Try.sizeOf27 hct79) ?_; clear hF; clear a; intro a hF
          refine RL.gcall hF rfl rfl (lkb rfl hg78) rfl rfl (r_call (xs := [.agg t79]) hF rfl rfl Try.call12) (CallsV.mono h ?_)
          clear h; rintro _ w80 ⟨r81, rfl, h⟩; clear hF; clear a; intro a hF
          refine RL.gval (v := .bool r81) (w' := w80) hF rfl rfl rfl rfl rfl (r_pick hF rfl rfl rfl rfl (fun _ => rfl) (fun e => absurd (hg78.symm.trans e) (by decide))) ?_; clear hF; clear a; intro a hF
          refine RL.val (v := .bool r81) (w' := w80) hF rfl rfl rfl (r_pick hF rfl rfl rfl rfl (fun e => absurd e (by decide)) (fun _ => rfl)) ?_; clear hF; clear a; intro a hF
          refine RL.nil ?_
          exact jn64 r81 _ _ (hF.sub rfl) h
        · replace h := hf hg78; clear ht hf
          refine RL.skip hF rfl rfl (lkb rfl hg78) (.inl rfl) rfl rfl ?_; clear hF; clear a; intro a hF
          refine RL.skip hF rfl rfl (lkb rfl hg78) (.inl rfl) rfl rfl ?_; clear hF; clear a; intro a hF
          refine RL.gval (v := .bool false) (w' := w53) hF rfl rfl rfl rfl rfl (r_pick hF rfl rfl rfl rfl (fun e => absurd (hg78.symm.trans e) (by decide)) (fun _ => rfl)) ?_; clear hF; clear a; intro a hF
          refine RL.val (v := .bool false) (w' := w53) hF rfl rfl rfl (r_pick hF rfl rfl rfl rfl (fun e => absurd e (by decide)) (fun _ => rfl)) ?_; clear hF; clear a; intro a hF
          refine RL.nil ?_
          exact jn64 false _ _ (hF.sub rfl) h
    clear hJ
    refine seq_region fun K82 hK83 => ?_
    refine RL.val  hF rfl rfl rfl (r_move hF rfl rfl) ?_; clear hF; clear a; intro a hF
    refine RL.val  hF rfl rfl rfl (r_add hF rfl rfl rfl) ?_; clear hF; clear a; intro a hF
    refine RL.val  hF rfl rfl rfl (r_move hF rfl rfl) ?_; clear hF; clear a; intro a hF
    refine RL.val  hF rfl rfl rfl (r_len_slice hF rfl rfl Try.runUnderlying22) ?_; clear hF; clear a; intro a hF
    refine RL.val  hF rfl rfl rfl (r_leq hF rfl rfl rfl) ?_; clear hF; clear a; intro a hF
    refine RL.nil (hK83 _ _ ?_)
    clear hK83 K82
    obtain ⟨ht, hf⟩ := h
    refine cond_ hF rfl (fun hc => ?_) (fun hc => ?_)
    · replace h := ht hc; clear ht hf
      refine wp_skip ?_
      exact jn32 () _ _ (hF.sub rfl) h
    · replace h := hf hc; clear ht hf
      refine wp_exit ?_
      exact jn18 () _ _ (hF.sub rfl) h
  clear hJ
  refine seq_region fun K84 hK85 => ?_
  refine RL.val  hF rfl rfl rfl (r_move hF rfl rfl) ?_; clear hF; clear a; intro a hF
  refine RL.call hF rfl rfl rfl (r_call (xs := [.pointer a0]) hF rfl rfl Try.call10) (CallsV.mono h ?_)
  clear h; rintro _ w86 ⟨r87, rfl, h⟩; clear hF; clear a; intro a hF
  refine RL.nil (hK85 _ _ ?_)
  clear hK85 K84
  obtain ⟨ht, hf⟩ := h
  refine cond_ hF rfl (fun hc => ?_) (fun hc => ?_)
  · replace h := ht hc; clear ht hf
    refine seq_region fun K88 hK89 => ?_
    refine RL.val  hF rfl rfl rfl (r_assign hF rfl rfl) ?_; clear hF; clear a; intro a hF
    refine RL.nil (hK89 _ _ ?_)
    clear hK89 K88
    refine wp_ret ?_
    exact ret_of hF (res1 hF rfl rfl) ⟨_, rfl, h⟩
  · replace h := hf hc; clear ht hf
    refine wp_skip ?_
    exact jn8 () _ _ (hF.sub rfl) h

set_option maxRecDepth 20000 in
theorem br7 {a0 : Option Addr} {a1 : Array Value} {a2 : Int} {a3 : Slc} {a4 : Slc} {w : World} {K : Slc → Int → World → Prop} (h : sh7 a0 a1 a2 a3 a4 w K) : C7 a0 a1 a2 a3 a4 w K := by
  unfold sh7 at h
  refine enter (n := 50) (l := [(0, .pointer a0), (1, .agg a1), (2, .int .i64 a2), (3, a3.v), (4, a4.v)]) 45 Try.func7 rfl _ rfl rfl rfl fun a hF => ?_
  refine seq_region fun K1 hK2 => ?_
  obtain ⟨p3, w4, hp_, hw_, h⟩ := h
  refine RL.val (v := .pointer (some p3)) (w' := w4) hF rfl rfl rfl (by rw [hp_, hw_]; exact r_box hF rfl rfl rfl) ?_; clear hF; clear a; intro a hF
  refine RL.val  hF rfl rfl rfl (r_assign hF rfl rfl) ?_; clear hF; clear a; intro a hF
  refine RL.val  hF rfl rfl rfl (r_assign hF rfl rfl) ?_; clear hF; clear a; intro a hF
  refine RL.nil (hK2 _ _ ?_)
  clear hK2 K1
  refine seq_k fun K5 hK6 => ?_
  obtain ⟨J, hJ, h⟩ := jn_open h
  have jn10 : ∀ (v7 : Unit) (w8 : World) a, Fr 50 a [(0, .pointer a0), (2, .int .i64 a2), (3, a3.v), (4, a4.v), (6, .pointer (some p3))] → J v7 w8 → K5 a w8 := by
    intro v7 w8 a hF h
    replace h := hJ _ _ h
    clear hJ
    refine hK6 _ _ ?_
    refine seq_draw 0 #[0, 1, 3, 7, 0, 31, 63, 127, 127, 255, 1023] 11 mo rfl (by kernel_rfl) (by kernel_rfl) fun hS K11 hK12 => ?_
    obtain ⟨w13, hw, h⟩ := h; rw [← hw]; clear hw
    refine GL.val (v := .pointer a0) (i := 0) hF hS rfl rfl (by kernel_rfl) rfl rfl rfl rfl (fun x => r_move hF rfl rfl) ?_; clear hF; clear a; intro a hF
    obtain ⟨p14, hpp14, h⟩ := h
    refine GL.val (v := .pointer (some p14)) (i := 1) hF hS rfl rfl (by kernel_rfl) rfl rfl rfl rfl (fun x => r_nilCheck hF rfl (lkp rfl hpp14)) ?_; clear hF; clear a; intro a hF
    refine GL.val (v := .pointer (some (p14.add 2))) (i := 2) hF hS rfl rfl (by kernel_rfl) rfl rfl rfl rfl (fun x => r_fieldAddr hF rfl rfl Try.runUnderlying40 rfl Try.sizeOf37 rfl) ?_; clear hF; clear a; intro a hF
    obtain ⟨t15, hct15, h⟩ := h
    refine GL.read (v := .map t15) (i := 3) hF (fun x => World.cell? x (p14.add 2) = some (.map t15)) hS rfl rfl (by kernel_rfl) rfl rfl rfl rfl hct15 (fun x hx => r_load hF rfl rfl Try.isAgg37 hx) ?_; clear hF; clear a; intro a hF
    obtain ⟨t16, hct16, h⟩ := h
    refine GL.read (v := .agg t16) (i := 4) hF (fun x => CellsAt x p3 16 t16) hS rfl rfl (by kernel_rfl) rfl rfl rfl rfl hct16 (fun x hx => r_loadA hF rfl rfl Try.isAgg27 Try.sizeOf27 hx) ?_; clear hF; clear a; intro a hF
    obtain ⟨t17, t18, hct17, h⟩ := h
    refine GL.read (v := .tuple #[.int .i64 t17, .bool t18]) (i := 5) hF (fun x => rn Try.prog (Instr.lookup 37 (.map t15) (.agg t16) true) (.tuple #[.int .i64 t17, .bool t18]) x x) hS rfl rfl (by kernel_rfl) rfl rfl rfl rfl hct17 (fun x hx => r_lookup hF rfl rfl rfl hx) ?_; clear hF; clear a; intro a hF
    refine GL.val (v := .tuple #[.int .i64 t17, .bool t18]) (i := 6) hF hS rfl rfl (by kernel_rfl) rfl rfl rfl rfl (fun x => r_move hF rfl rfl) ?_; clear hF; clear a; intro a hF
    refine GL.val (v := .int .i64 t17) (i := 7) hF hS rfl rfl (by kernel_rfl) rfl rfl rfl rfl (fun x => r_extract hF rfl rfl rfl) ?_; clear hF; clear a; intro a hF
    refine GL.val (v := .bool t18) (i := 8) hF hS rfl rfl (by kernel_rfl) rfl rfl rfl rfl (fun x => r_extract hF rfl rfl rfl) ?_; clear hF; clear a; intro a hF
    refine GL.val (v := .int .i64 t17) (i := 9) hF hS rfl rfl (by kernel_rfl) rfl rfl rfl rfl (fun x => r_assign hF rfl rfl) ?_; clear hF; clear a; intro a hF
    refine GL.val (v := .bool t18) (i := 10) hF hS rfl rfl (by kernel_rfl) rfl rfl rfl rfl (fun x => r_assign hF rfl rfl) ?_; clear hF; clear a; intro a hF
    refine GL.done (by kernel_rfl) (hK12 _ _ ?_)
    clear hK12 K11
    refine seq_k fun K19 hK20 => ?_
    obtain ⟨J, hJ, h⟩ := jn_open h
    have jn24 : ∀ (v21 : Unit) (w22 : World) a, Fr 50 a [(0, .pointer a0), (2, .int .i64 a2), (3, a3.v), (4, a4.v), (12, .int .i64 t17)] → J v21 w22 → K19 a w22 := by
      intro v21 w22 a hF h
      replace h := hJ _ _ h
      clear hJ
      refine hK20 _ _ ?_
      refine seq_region fun K25 hK26 => ?_
      refine RL.val  hF rfl rfl rfl (r_move hF rfl rfl) ?_; clear hF; clear a; intro a hF
      refine RL.val  hF rfl rfl rfl (r_move hF rfl rfl) ?_; clear hF; clear a; intro a hF
      refine RL.val  hF rfl rfl rfl (r_move hF rfl rfl) ?_; clear hF; clear a; intro a hF
      refine RL.val  hF rfl rfl rfl (r_move hF rfl rfl) ?_; clear hF; clear a; intro a hF
      obtain ⟨t27, hct27, h⟩ := h
      refine RL.val  hF rfl rfl rfl (r_conv hF rfl rfl hct27) ?_; clear hF; clear a; intro a hF
      refine RL.val  hF rfl rfl rfl (r_move hF rfl rfl) ?_; clear hF; clear a; intro a hF
      obtain ⟨t28, hct28, h⟩ := h
      refine RL.val  hF rfl rfl rfl (r_conv hF rfl rfl hct28) ?_; clear hF; clear a; intro a hF
      refine RL.val (v := .agg (#[.int .i64 6, .int .i64 t17, .int .i64 0, .int .i64 a2, .string (⟨#[]⟩ : ByteArray), .string t27, .string t28])) (w' := w22) hF rfl rfl rfl (r_build (xs := [(0, .int .i64 6), (1, .int .i64 t17), (3, .int .i64 a2), (5, .string t27), (6, .string t28)]) hF rfl rfl (by kernel_rfl)) ?_; clear hF; clear a; intro a hF
      refine RL.call hF rfl rfl rfl (r_call (xs := [.pointer a0, .agg (#[.int .i64 6, .int .i64 t17, .int .i64 0, .int .i64 a2, .string (⟨#[]⟩ : ByteArray), .string t27, .string t28])]) hF rfl rfl Try.call9) (CallsV.mono h ?_)
      clear h; rintro _ w29 ⟨r30, rfl, h⟩; clear hF; clear a; intro a hF
      obtain ⟨p31, w32, hp_, hw_, h⟩ := h
      refine RL.val (v := .pointer (some p31)) (w' := w32) hF rfl rfl rfl (by rw [hp_, hw_]; exact r_alloc rfl Try.zeroValue27 rfl) ?_; clear hF; clear a; intro a hF
      obtain ⟨w33, hs1_, hs2_, hs3_, hs4_, h⟩ := h
      refine RL.unit (w' := w33) hF rfl rfl (by rw [hs4_]; exact r_storeA hF rfl rfl rfl Try.sizeOf27 hs1_ hs2_ hs3_) ?_; clear hF; clear a; intro a hF
      refine RL.nil (hK26 _ _ ?_)
      clear hK26 K25
      refine seq_draw 20 #[0, 1, 3, 0, 15, 31, 63] 7 mo rfl (by kernel_rfl) (by kernel_rfl) fun hS K34 hK35 => ?_
      obtain ⟨w36, hw, h⟩ := h; rw [← hw]; clear hw
      refine GL.val (v := a4.v) (i := 0) hF hS rfl rfl (by kernel_rfl) rfl rfl rfl rfl (fun x => r_move hF rfl rfl) ?_; clear hF; clear a; intro a hF
      refine GL.val (v := .int .i64 (a4.len : Int)) (i := 1) hF hS rfl rfl (by kernel_rfl) rfl rfl rfl rfl (fun x => r_len_slice hF rfl rfl Try.runUnderlying22) ?_; clear hF; clear a; intro a hF
      refine GL.val (v := (Slc.sub ⟨some p31, 16, 16⟩ 1 0 16 16).v) (i := 3) hF hS rfl rfl (by kernel_rfl) rfl rfl rfl rfl (fun x => r_slice (lo' := none) (hi' := none) (mx' := none) hF rfl rfl rfl rfl rfl (arr_at Try.runUnderlying27 Try.sizeOf5 (bounds00 ))) ?_; clear hF; clear a; intro a hF
      refine GL.act (i := 2) (pend' := []) hS (by kernel_rfl) rfl (by kernel_rfl) ?_
      obtain ⟨t37, w38, hc_, h⟩ := h
      refine op_val  hF rfl rfl rfl rfl (r_makeSlice hF rfl rfl rfl hc_) trivial ?_; clear hF; clear a; intro a hF
      refine GL.act (i := 4) (pend' := []) hS (by kernel_rfl) rfl (by kernel_rfl) ?_
      obtain ⟨t40, w39, hc_, h⟩ := h
      refine op_val  hF rfl rfl rfl rfl (r_append (xs := [t37.v, (Slc.sub ⟨some p31, 16, 16⟩ 1 0 16 16).v]) hF rfl rfl hc_) trivial ?_; clear hF; clear a; intro a hF
      refine GL.val (v := t40.v) (i := 5) hF hS rfl rfl (by kernel_rfl) rfl rfl rfl rfl (fun x => r_assign hF rfl rfl) ?_; clear hF; clear a; intro a hF
      refine GL.val (v := .int .i64 0) (i := 6) hF hS rfl rfl (by kernel_rfl) rfl rfl rfl rfl (fun x => r_assign hF rfl rfl) ?_; clear hF; clear a; intro a hF
      refine GL.done (by kernel_rfl) (hK35 _ _ ?_)
      clear hK35 K34
      refine wp_ret ?_
      exact ret_of hF (res2 hF rfl rfl rfl) ⟨_, _, rfl, h⟩
    clear hJ
    refine wp_block ?_
    refine seq_region fun K41 hK42 => ?_
    refine RL.val  hF rfl rfl rfl (r_move hF rfl rfl) ?_; clear hF; clear a; intro a hF
    refine RL.val  hF rfl rfl rfl (r_not hF rfl rfl) ?_; clear hF; clear a; intro a hF
    refine RL.val  hF rfl rfl rfl (r_assign hF rfl rfl) ?_; clear hF; clear a; intro a hF
    refine RL.nil (hK42 _ _ ?_)
    clear hK42 K41
    obtain ⟨ht, hf⟩ := h
    refine cond_ hF rfl (fun hc => ?_) (fun hc => ?_)
    · replace h := ht hc; clear ht hf
      refine seq_region fun K43 hK44 => ?_
      refine RL.val  hF rfl rfl rfl (r_assign hF rfl rfl) ?_; clear hF; clear a; intro a hF
      refine RL.val  hF rfl rfl rfl (r_assign hF rfl rfl) ?_; clear hF; clear a; intro a hF
      refine RL.nil (hK44 _ _ ?_)
      clear hK44 K43
      refine wp_ret ?_
      exact ret_of hF (res2 hF rfl rfl rfl) ⟨_, _, rfl, h⟩
    · replace h := hf hc; clear ht hf
      refine seq_region fun K45 hK46 => ?_
      refine RL.val  hF rfl rfl rfl (r_move hF rfl rfl) ?_; clear hF; clear a; intro a hF
      refine RL.val  hF rfl rfl rfl (r_lss hF rfl rfl rfl) ?_; clear hF; clear a; intro a hF
      refine RL.val  hF rfl rfl rfl (r_assign hF rfl rfl) ?_; clear hF; clear a; intro a hF
      refine RL.nil (hK46 _ _ ?_)
      clear hK46 K45
      obtain ⟨ht, hf⟩ := h
      refine cond_ hF rfl (fun hc => ?_) (fun hc => ?_)
      · replace h := ht hc; clear ht hf
        refine seq_region fun K47 hK48 => ?_
        refine RL.val  hF rfl rfl rfl (r_assign hF rfl rfl) ?_; clear hF; clear a; intro a hF
        refine RL.val  hF rfl rfl rfl (r_assign hF rfl rfl) ?_; clear hF; clear a; intro a hF
        refine RL.nil (hK48 _ _ ?_)
        clear hK48 K47
        refine wp_ret ?_
        exact ret_of hF (res2 hF rfl rfl rfl) ⟨_, _, rfl, h⟩
      · replace h := hf hc; clear ht hf
        refine seq_region fun K49 hK50 => ?_
        refine RL.val  hF rfl rfl rfl (r_move hF rfl rfl) ?_; clear hF; clear a; intro a hF
        refine RL.val  hF rfl rfl rfl (r_len_slice hF rfl rfl Try.runUnderlying22) ?_; clear hF; clear a; intro a hF
        refine RL.val  hF rfl rfl rfl (r_gtr hF rfl rfl rfl) ?_; clear hF; clear a; intro a hF
        refine RL.val  hF rfl rfl rfl (r_assign hF rfl rfl) ?_; clear hF; clear a; intro a hF
        refine RL.nil (hK50 _ _ ?_)
        clear hK50 K49
        obtain ⟨ht, hf⟩ := h
        refine cond_ hF rfl (fun hc => ?_) (fun hc => ?_)
        · replace h := ht hc; clear ht hf
          refine seq_region fun K51 hK52 => ?_
          refine RL.val  hF rfl rfl rfl (r_assign hF rfl rfl) ?_; clear hF; clear a; intro a hF
          refine RL.val  hF rfl rfl rfl (r_assign hF rfl rfl) ?_; clear hF; clear a; intro a hF
          refine RL.nil (hK52 _ _ ?_)
          clear hK52 K51
          refine wp_ret ?_
          exact ret_of hF (res2 hF rfl rfl rfl) ⟨_, _, rfl, h⟩
        · replace h := hf hc; clear ht hf
          refine wp_skip ?_
          exact jn24 () _ _ (hF.sub rfl) h
  clear hJ
  refine seq_region fun K53 hK54 => ?_
  refine RL.val  hF rfl rfl rfl (r_move hF rfl rfl) ?_; clear hF; clear a; intro a hF
  refine RL.call hF rfl rfl rfl (r_call (xs := [.pointer a0]) hF rfl rfl Try.call10) (CallsV.mono h ?_)
  clear h; rintro _ w55 ⟨r56, rfl, h⟩; clear hF; clear a; intro a hF
  refine RL.nil (hK54 _ _ ?_)
  clear hK54 K53
  obtain ⟨ht, hf⟩ := h
  refine cond_ hF rfl (fun hc => ?_) (fun hc => ?_)
  · replace h := ht hc; clear ht hf
    refine seq_region fun K57 hK58 => ?_
    refine RL.val  hF rfl rfl rfl (r_assign hF rfl rfl) ?_; clear hF; clear a; intro a hF
    refine RL.val  hF rfl rfl rfl (r_assign hF rfl rfl) ?_; clear hF; clear a; intro a hF
    refine RL.nil (hK58 _ _ ?_)
    clear hK58 K57
    refine wp_ret ?_
    exact ret_of hF (res2 hF rfl rfl rfl) ⟨_, _, rfl, h⟩
  · replace h := hf hc; clear ht hf
    refine wp_skip ?_
    exact jn10 () _ _ (hF.sub rfl) h

set_option maxRecDepth 20000 in
theorem br8 {a0 : Option Addr} {a1 : Slc} {w : World} {K : Slc → World → Prop} (h : sh8 a0 a1 w K) : C8 a0 a1 w K := by
  unfold sh8 at h
  refine enter (n := 54) (l := [(0, .pointer a0), (1, a1.v)]) 52 Try.func8 rfl _ rfl rfl rfl fun a hF => ?_
  refine seq_region fun K1 hK2 => ?_
  refine RL.val  hF rfl rfl rfl (r_assign hF rfl rfl) ?_; clear hF; clear a; intro a hF
  refine RL.nil (hK2 _ _ ?_)
  clear hK2 K1
  refine seq_k fun K3 hK4 => ?_
  obtain ⟨J, hJ, h⟩ := jn_open h
  have jn8 : ∀ (v5 : Unit) (w6 : World) a, Fr 54 a [(0, .pointer a0), (1, a1.v)] → J v5 w6 → K3 a w6 := by
    intro v5 w6 a hF h
    replace h := hJ _ _ h
    clear hJ
    refine hK4 _ _ ?_
    refine seq_region fun K9 hK10 => ?_
    refine RL.val  hF rfl rfl rfl (r_move hF rfl rfl) ?_; clear hF; clear a; intro a hF
    refine RL.val  hF rfl rfl rfl (r_move hF rfl rfl) ?_; clear hF; clear a; intro a hF
    refine RL.call hF rfl rfl rfl (r_call (xs := [.pointer a0, a1.v]) hF rfl rfl Try.call11) (CallsV.mono h ?_)
    clear h; rintro _ w11 ⟨r12, rfl, h⟩; clear hF; clear a; intro a hF
    refine RL.val  hF rfl rfl rfl (r_assign hF rfl rfl) ?_; clear hF; clear a; intro a hF
    refine RL.nil (hK10 _ _ ?_)
    clear hK10 K9
    refine seq_region fun K13 hK14 => ?_
    refine RL.val  hF rfl rfl rfl (r_assign hF rfl rfl) ?_; clear hF; clear a; intro a hF
    refine RL.nil (hK14 _ _ ?_)
    clear hK14 K13
    refine seq_k fun K15 hK16 => ?_
    obtain ⟨J, hJ, h⟩ := jn_open h
    have jn20 : ∀ (v17 : Slc) (w18 : World) a, Fr 54 a [(6, v17.v)] → J v17 w18 → K15 a w18 := by
      intro v17 w18 a hF h
      replace h := hJ _ _ h
      clear hJ
      refine hK16 _ _ ?_
      refine seq_region fun K21 hK22 => ?_
      refine RL.val  hF rfl rfl rfl (r_move hF rfl rfl) ?_; clear hF; clear a; intro a hF
      refine RL.val  hF rfl rfl rfl (r_assign hF rfl rfl) ?_; clear hF; clear a; intro a hF
      refine RL.nil (hK22 _ _ ?_)
      clear hK22 K21
      refine wp_ret ?_
      exact ret_of hF (res1 hF rfl rfl) ⟨_, rfl, h⟩
    clear hJ
    refine seq_region fun K23 hK24 => ?_
    refine RL.val  hF rfl rfl rfl (r_move hF rfl rfl) ?_; clear hF; clear a; intro a hF
    obtain ⟨p25, hpp25, h⟩ := h
    refine RL.val  hF rfl rfl rfl (r_nilCheck hF rfl (lkp rfl hpp25)) ?_; clear hF; clear a; intro a hF
    refine RL.val  hF rfl rfl rfl (r_fieldAddr0 hF rfl rfl Try.runUnderlying40 rfl Try.sizeOf38 rfl) ?_; clear hF; clear a; intro a hF
    obtain ⟨t26, hct26, h⟩ := h
    refine RL.val  hF rfl rfl rfl (r_load hF rfl rfl Try.isAgg38 hct26) ?_; clear hF; clear a; intro a hF
    refine RL.val  hF rfl rfl rfl (r_len_slice hF rfl rfl Try.runUnderlying38) ?_; clear hF; clear a; intro a hF
    refine RL.val  hF rfl rfl rfl (r_move hF rfl rfl) ?_; clear hF; clear a; intro a hF
    refine RL.nil (hK24 _ _ ?_)
    clear hK24 K23
    refine wp_block ?_
    refine loop_ (fun (s27 : Slc × Int) => [(5, .pointer r12), (6, s27.1.v), (17, t26.v), (18, .int .i64 (t26.len : Int)), (19, .int .i64 s27.2)]) (hF.sub rfl) h ?_
    clear hF h
    intro s27 w28 N29 KL hN30 h a hF
    refine seq_region fun K31 hK32 => ?_
    refine RL.val  hF rfl rfl rfl (r_lss hF rfl rfl rfl) ?_; clear hF; clear a; intro a hF
    refine RL.nil (hK32 _ _ ?_)
    clear hK32 K31
    refine seq_k fun K33 hK34 => ?_
    obtain ⟨J, hJ, h⟩ := jn_open h
    have jn38 : ∀ (v35 : Unit) (w36 : World) a, Fr 54 a [(5, .pointer r12), (6, s27.1.v), (17, t26.v), (18, .int .i64 (t26.len : Int)), (19, .int .i64 s27.2)] → J v35 w36 → K33 a w36 := by
      intro v35 w36 a hF h
      replace h := hJ _ _ h
      clear hJ
      refine hK34 _ _ ?_
      refine seq_k fun K39 hK40 => ?_
      obtain ⟨J, hJ, h⟩ := jn_open h
      have jn44 : ∀ (v41 : Slc) (w42 : World) a, Fr 54 a [(5, .pointer r12), (6, v41.v), (17, t26.v), (18, .int .i64 (t26.len : Int)), (19, .int .i64 s27.2)] → J v41 w42 → K39 a w42 := by
        intro v41 w42 a hF h
        replace h := hJ _ _ h
        clear hJ
        refine hK40 _ _ ?_
        refine end_region fun K45 hK46 => ?_
        refine RL.val  hF rfl rfl rfl (r_add hF rfl rfl rfl) ?_; clear hF; clear a; intro a hF
        refine RL.val  hF rfl rfl rfl (r_move hF rfl rfl) ?_; clear hF; clear a; intro a hF
        refine RL.nil (hK46 _ _ ?_)
        clear hK46 K45
        exact hN30 (v41, IntKind.i64.wrap (s27.2 + 1)) _ _ (hF.sub rfl) h
      clear hJ
      refine wp_block ?_
      refine seq_region fun K47 hK48 => ?_
      refine RL.val  hF rfl rfl rfl (r_move hF rfl rfl) ?_; clear hF; clear a; intro a hF
      obtain ⟨b50, p49, hb_, h0_, h1_, hp_, h⟩ := h
      refine RL.val (v := .pointer (some p49)) (w' := w36) hF rfl rfl rfl (by rw [hp_]; exact r_indexAddr hF rfl (lks rfl hb_) rfl Try.runUnderlying38 Try.sizeOf43 h0_ h1_) ?_; clear hF; clear a; intro a hF
      obtain ⟨t51, hct51, h⟩ := h
      refine RL.val  hF rfl rfl rfl (r_loadA hF rfl rfl Try.isAgg43 Try.sizeOf43 hct51) ?_; clear hF; clear a; intro a hF
      obtain ⟨p52, w53, hp_, hw_, h⟩ := h
      refine RL.val (v := .pointer (some p52)) (w' := w53) hF rfl rfl rfl (by rw [hp_, hw_]; exact r_alloc rfl Try.zeroValue43 rfl) ?_; clear hF; clear a; intro a hF
      refine RL.val  hF rfl rfl rfl (r_assign hF rfl rfl) ?_; clear hF; clear a; intro a hF
      obtain ⟨w54, hs1_, hs2_, hs3_, hs4_, h⟩ := h
      refine RL.unit (w' := w54) hF rfl rfl (by rw [hs4_]; exact r_storeA hF rfl rfl rfl Try.sizeOf43 hs1_ hs2_ hs3_) ?_; clear hF; clear a; intro a hF
      refine RL.nil (hK48 _ _ ?_)
      clear hK48 K47
      refine seq_draw 0 #[0, 1, 3, 7, 15, 31, 63, 127, 15, 511, 1023, 2047, 4095, 8191, 16383, 32767, 65535, 8191, 139263, 524287, 1048575, 2097151] 22 mo rfl (by kernel_rfl) (by kernel_rfl) fun hS K55 hK56 => ?_
      obtain ⟨w57, hw, h⟩ := h; rw [← hw]; clear hw
      obtain ⟨J60, hJ, h⟩ := jn_open h
      have jn61 : ∀ (v58 : Bool) (w59 : World) a, Fr 54 a [(5, .pointer r12), (6, s27.1.v), (8, .pointer (some p52)), (17, t26.v), (18, .int .i64 (t26.len : Int)), (19, .int .i64 s27.2), (45, .bool v58)] → J60 v58 w59 → K55 a w59 := by
        clear hF
        intro v58 w59 a hF h; replace h := hJ _ _ h; refine hK56 _ _ ?_; clear hJ hK56 K55
        obtain ⟨ht, hf⟩ := h
        refine cond_ hF rfl (fun hc => ?_) (fun hc => ?_)
        · replace h := ht hc; clear ht hf
          refine end_region fun K62 hK63 => ?_
          refine RL.val  hF rfl rfl rfl (r_move hF rfl rfl) ?_; clear hF; clear a; intro a hF
          refine RL.val  hF rfl rfl rfl (r_fieldAddr hF rfl rfl Try.runUnderlying43 rfl Try.sizeOf9 rfl) ?_; clear hF; clear a; intro a hF
          obtain ⟨t64, hct64, h⟩ := h
          refine RL.val  hF rfl rfl rfl (r_load hF rfl rfl Try.isAgg9 hct64) ?_; clear hF; clear a; intro a hF
          obtain ⟨t65, w66, hc_, h⟩ := h
          refine RL.val  hF rfl rfl rfl (r_conv hF rfl rfl hc_) ?_; clear hF; clear a; intro a hF
          obtain ⟨p68, w67, hp_, hw_, h⟩ := h
          refine RL.val (v := (Slc.mk (some p68) 1 1).v) (w' := w67) hF rfl rfl rfl (by rw [hp_, hw_]; exact r_buildSlice (xs := [(0, t65.v)]) hF rfl rfl (by kernel_rfl)) ?_; clear hF; clear a; intro a hF
          obtain ⟨t70, w69, hc_, h⟩ := h
          refine RL.val  hF rfl rfl rfl (r_append (xs := [s27.1.v, (Slc.mk (some p68) 1 1).v]) hF rfl rfl hc_) ?_; clear hF; clear a; intro a hF
          refine RL.val  hF rfl rfl rfl (r_assign hF rfl rfl) ?_; clear hF; clear a; intro a hF
          refine RL.nil (hK63 _ _ ?_)
          clear hK63 K62
          exact jn44 t70 _ _ (hF.sub rfl) h
        · replace h := hf hc; clear ht hf
          refine wp_skip ?_
          exact jn44 s27.1 _ _ (hF.sub rfl) h
      clear hJ hK56
      refine GL.val (v := .pointer (some p52)) (i := 0) hF hS rfl rfl (by kernel_rfl) rfl rfl rfl rfl (fun x => r_fieldAddr0 hF rfl rfl Try.runUnderlying43 rfl Try.sizeOf3 rfl) ?_; clear hF; clear a; intro a hF
      obtain ⟨t71, hct71, h⟩ := h
      refine GL.read (v := .int .i64 t71) (i := 1) hF (fun x => World.cell? x p52 = some (.int .i64 t71)) hS rfl rfl (by kernel_rfl) rfl rfl rfl rfl hct71 (fun x hx => r_load hF rfl rfl Try.isAgg3 hx) ?_; clear hF; clear a; intro a hF
      refine GL.val (v := .bool (t71 == 6)) (i := 2) hF hS rfl rfl (by kernel_rfl) rfl rfl rfl rfl (fun x => r_eql hF rfl rfl rfl) ?_; clear hF; clear a; intro a hF
      refine GL.val (v := .bool (t71 == 6)) (i := 3) hF hS rfl rfl (by kernel_rfl) rfl rfl rfl rfl (fun x => r_move hF rfl rfl) ?_; clear hF; clear a; intro a hF
      obtain ⟨ht, hf⟩ := h
      rcases bool_cases (t71 == 6) with hg72 | hg72
      · replace h := ht hg72; clear ht hf
        refine GL.gval (v := .pointer r12) (i := 4) hF hS rfl rfl (by kernel_rfl) rfl rfl rfl (lkb rfl hg72) rfl rfl (fun x => r_move hF rfl rfl) ?_; clear hF; clear a; intro a hF
        obtain ⟨p73, hpp73, h⟩ := h
        refine GL.gval (v := .pointer (some p73)) (i := 5) hF hS rfl rfl (by kernel_rfl) rfl rfl rfl (lkb rfl hg72) rfl rfl (fun x => r_nilCheck hF rfl (lkp rfl hpp73)) ?_; clear hF; clear a; intro a hF
        refine GL.gval (v := .pointer (some (p73.add 1))) (i := 6) hF hS rfl rfl (by kernel_rfl) rfl rfl rfl (lkb rfl hg72) rfl rfl (fun x => r_fieldAddr hF rfl rfl Try.runUnderlying50 rfl Try.sizeOf48 rfl) ?_; clear hF; clear a; intro a hF
        obtain ⟨t74, hct74, h⟩ := h
        refine GL.gread (v := t74.v) (i := 7) hF (fun x => World.cell? x (p73.add 1) = some (t74.v)) hS rfl rfl (by kernel_rfl) rfl rfl rfl (lkb rfl hg72) rfl rfl hct74 (fun x hx => r_load hF rfl rfl Try.isAgg48 hx) ?_; clear hF; clear a; intro a hF
        refine GL.gval (v := .int .i64 s27.2) (i := 8) hF hS rfl rfl (by kernel_rfl) rfl rfl rfl (lkb rfl hg72) rfl rfl (fun x => r_move hF rfl rfl) ?_; clear hF; clear a; intro a hF
        obtain ⟨b76, p75, hb_, h0_, h1_, hp_, h⟩ := h
        refine GL.gval (v := .pointer (some p75)) (i := 9) hF hS rfl rfl (by kernel_rfl) rfl rfl rfl (lkb rfl hg72) rfl rfl (fun x => by rw [hp_]; exact r_indexAddr hF rfl (lks rfl hb_) rfl Try.runUnderlying48 Try.sizeOf4 h0_ h1_) ?_; clear hF; clear a; intro a hF
        obtain ⟨t77, hct77, h⟩ := h
        refine GL.gread (v := .bool t77) (i := 10) hF (fun x => World.cell? x p75 = some (.bool t77)) hS rfl rfl (by kernel_rfl) rfl rfl rfl (lkb rfl hg72) rfl rfl hct77 (fun x hx => r_load hF rfl rfl Try.isAgg4 hx) ?_; clear hF; clear a; intro a hF
        refine GL.val (v := .bool t77) (i := 11) hF hS rfl rfl (by kernel_rfl) rfl rfl rfl rfl (fun x => r_pick hF rfl rfl rfl rfl (fun _ => rfl) (fun e => absurd (hg72.symm.trans e) (by decide))) ?_; clear hF; clear a; intro a hF
        refine GL.val (v := .bool t77) (i := 12) hF hS rfl rfl (by kernel_rfl) rfl rfl rfl rfl (fun x => r_move hF rfl rfl) ?_; clear hF; clear a; intro a hF
        obtain ⟨ht, hf⟩ := h
        rcases bool_cases t77 with hg78 | hg78
        · replace h := ht hg78; clear ht hf
          refine GL.gval (v := .pointer r12) (i := 13) hF hS rfl rfl (by kernel_rfl) rfl rfl rfl (lkb rfl hg78) rfl rfl (fun x => r_move hF rfl rfl) ?_; clear hF; clear a; intro a hF
          obtain ⟨p79, hpp79, h⟩ := h
          refine GL.gval (v := .pointer (some p79)) (i := 14) hF hS rfl rfl (by kernel_rfl) rfl rfl rfl (lkb rfl hg78) rfl rfl (fun x => r_nilCheck hF rfl (lkp rfl hpp79)) ?_; clear hF; clear a; intro a hF
          refine GL.gval (v := .pointer (some (p79.add 1))) (i := 15) hF hS rfl rfl (by kernel_rfl) rfl rfl rfl (lkb rfl hg78) rfl rfl (fun x => r_fieldAddr hF rfl rfl Try.runUnderlying50 rfl Try.sizeOf48 rfl) ?_; clear hF; clear a; intro a hF
          obtain ⟨t80, hct80, h⟩ := h
          refine GL.gread (v := t80.v) (i := 16) hF (fun x => World.cell? x (p79.add 1) = some (t80.v)) hS rfl rfl (by kernel_rfl) rfl rfl rfl (lkb rfl hg78) rfl rfl hct80 (fun x hx => r_load hF rfl rfl Try.isAgg48 hx) ?_; clear hF; clear a; intro a hF
          refine GL.gval (v := .pointer (some (p52.add 1))) (i := 17) hF hS rfl rfl (by kernel_rfl) rfl rfl rfl (lkb rfl hg78) rfl rfl (fun x => r_fieldAddr hF rfl rfl Try.runUnderlying43 rfl Try.sizeOf3 rfl) ?_; clear hF; clear a; intro a hF
          obtain ⟨t81, hct81, h⟩ := h
          refine GL.gread (v := .int .i64 t81) (i := 18) hF (fun x => World.cell? x (p52.add 1) = some (.int .i64 t81)) hS rfl rfl (by kernel_rfl) rfl rfl rfl (lkb rfl hg78) rfl rfl hct81 (fun x hx => r_load hF rfl rfl Try.isAgg3 hx) ?_; clear hF; clear a; intro a hF
          obtain ⟨b83, p82, hb_, h0_, h1_, hp_, h⟩ := h
          refine GL.gval (v := .pointer (some p82)) (i := 19) hF hS rfl rfl (by kernel_rfl) rfl rfl rfl (lkb rfl hg78) rfl rfl (fun x => by rw [hp_]; exact r_indexAddr hF rfl (lks rfl hb_) rfl Try.runUnderlying48 Try.sizeOf4 h0_ h1_) ?_; clear hF; clear a; intro a hF
          obtain ⟨t84, hct84, h⟩ := h
          refine GL.gread (v := .bool t84) (i := 20) hF (fun x => World.cell? x p82 = some (.bool t84)) hS rfl rfl (by kernel_rfl) rfl rfl rfl (lkb rfl hg78) rfl rfl hct84 (fun x hx => r_load hF rfl rfl Try.isAgg4 hx) ?_; clear hF; clear a; intro a hF
          refine GL.val (v := .bool t84) (i := 21) hF hS rfl rfl (by kernel_rfl) rfl rfl rfl rfl (fun x => r_pick hF rfl rfl rfl rfl (fun _ => rfl) (fun e => absurd (hg78.symm.trans e) (by decide))) ?_; clear hF; clear a; intro a hF
          refine GL.done (by kernel_rfl) ?_
          exact jn61 t84 _ _ (hF.sub rfl) h
        · replace h := hf hg78; clear ht hf
          refine GL.skip (i := 13) hF hS rfl rfl (by kernel_rfl) rfl rfl rfl (lkb rfl hg78) (.inl rfl) rfl rfl ?_; clear hF; clear a; intro a hF
          refine GL.skip (i := 14) hF hS rfl rfl (by kernel_rfl) rfl rfl rfl (lkb rfl hg78) (.inl rfl) rfl rfl ?_; clear hF; clear a; intro a hF
          refine GL.skip (i := 15) hF hS rfl rfl (by kernel_rfl) rfl rfl rfl (lkb rfl hg78) (.inl rfl) rfl rfl ?_; clear hF; clear a; intro a hF
          refine GL.skip (i := 16) hF hS rfl rfl (by kernel_rfl) rfl rfl rfl (lkb rfl hg78) (.inl rfl) rfl rfl ?_; clear hF; clear a; intro a hF
          refine GL.skip (i := 17) hF hS rfl rfl (by kernel_rfl) rfl rfl rfl (lkb rfl hg78) (.inl rfl) rfl rfl ?_; clear hF; clear a; intro a hF
          refine GL.skip (i := 18) hF hS rfl rfl (by kernel_rfl) rfl rfl rfl (lkb rfl hg78) (.inl rfl) rfl rfl ?_; clear hF; clear a; intro a hF
          refine GL.skip (i := 19) hF hS rfl rfl (by kernel_rfl) rfl rfl rfl (lkb rfl hg78) (.inl rfl) rfl rfl ?_; clear hF; clear a; intro a hF
          refine GL.skip (i := 20) hF hS rfl rfl (by kernel_rfl) rfl rfl rfl (lkb rfl hg78) (.inl rfl) rfl rfl ?_; clear hF; clear a; intro a hF
          refine GL.val (v := .bool false) (i := 21) hF hS rfl rfl (by kernel_rfl) rfl rfl rfl rfl (fun x => r_pick hF rfl rfl rfl rfl (fun e => absurd (hg78.symm.trans e) (by decide)) (fun _ => rfl)) ?_; clear hF; clear a; intro a hF
          refine GL.done (by kernel_rfl) ?_
          exact jn61 false _ _ (hF.sub rfl) h
      · replace h := hf hg72; clear ht hf
        refine GL.skip (i := 4) hF hS rfl rfl (by kernel_rfl) rfl rfl rfl (lkb rfl hg72) (.inl rfl) rfl rfl ?_; clear hF; clear a; intro a hF
        refine GL.skip (i := 5) hF hS rfl rfl (by kernel_rfl) rfl rfl rfl (lkb rfl hg72) (.inl rfl) rfl rfl ?_; clear hF; clear a; intro a hF
        refine GL.skip (i := 6) hF hS rfl rfl (by kernel_rfl) rfl rfl rfl (lkb rfl hg72) (.inl rfl) rfl rfl ?_; clear hF; clear a; intro a hF
        refine GL.skip (i := 7) hF hS rfl rfl (by kernel_rfl) rfl rfl rfl (lkb rfl hg72) (.inl rfl) rfl rfl ?_; clear hF; clear a; intro a hF
        refine GL.skip (i := 8) hF hS rfl rfl (by kernel_rfl) rfl rfl rfl (lkb rfl hg72) (.inl rfl) rfl rfl ?_; clear hF; clear a; intro a hF
        refine GL.skip (i := 9) hF hS rfl rfl (by kernel_rfl) rfl rfl rfl (lkb rfl hg72) (.inl rfl) rfl rfl ?_; clear hF; clear a; intro a hF
        refine GL.skip (i := 10) hF hS rfl rfl (by kernel_rfl) rfl rfl rfl (lkb rfl hg72) (.inl rfl) rfl rfl ?_; clear hF; clear a; intro a hF
        refine GL.val (v := .bool false) (i := 11) hF hS rfl rfl (by kernel_rfl) rfl rfl rfl rfl (fun x => r_pick hF rfl rfl rfl rfl (fun e => absurd (hg72.symm.trans e) (by decide)) (fun _ => rfl)) ?_; clear hF; clear a; intro a hF
        refine GL.val (v := .bool false) (i := 12) hF hS rfl rfl (by kernel_rfl) rfl rfl rfl rfl (fun x => r_move hF rfl rfl) ?_; clear hF; clear a; intro a hF
        refine GL.skip (i := 13) hF hS rfl rfl (by kernel_rfl) rfl rfl rfl rfl (.inl rfl) rfl rfl ?_; clear hF; clear a; intro a hF
        refine GL.skip (i := 14) hF hS rfl rfl (by kernel_rfl) rfl rfl rfl rfl (.inl rfl) rfl rfl ?_; clear hF; clear a; intro a hF
        refine GL.skip (i := 15) hF hS rfl rfl (by kernel_rfl) rfl rfl rfl rfl (.inl rfl) rfl rfl ?_; clear hF; clear a; intro a hF
        refine GL.skip (i := 16) hF hS rfl rfl (by kernel_rfl) rfl rfl rfl rfl (.inl rfl) rfl rfl ?_; clear hF; clear a; intro a hF
        refine GL.skip (i := 17) hF hS rfl rfl (by kernel_rfl) rfl rfl rfl rfl (.inl rfl) rfl rfl ?_; clear hF; clear a; intro a hF
        refine GL.skip (i := 18) hF hS rfl rfl (by kernel_rfl) rfl rfl rfl rfl (.inl rfl) rfl rfl ?_; clear hF; clear a; intro a hF
        refine GL.skip (i := 19) hF hS rfl rfl (by kernel_rfl) rfl rfl rfl rfl (.inl rfl) rfl rfl ?_; clear hF; clear a; intro a hF
        refine GL.skip (i := 20) hF hS rfl rfl (by kernel_rfl) rfl rfl rfl rfl (.inl rfl) rfl rfl ?_; clear hF; clear a; intro a hF
        refine GL.val (v := .bool false) (i := 21) hF hS rfl rfl (by kernel_rfl) rfl rfl rfl rfl (fun x => r_pick hF rfl rfl rfl rfl (fun e => absurd e (by decide)) (fun _ => rfl)) ?_; clear hF; clear a; intro a hF
        refine GL.done (by kernel_rfl) ?_
        exact jn61 false _ _ (hF.sub rfl) h
    clear hJ
    obtain ⟨ht, hf⟩ := h
    refine cond_ hF rfl (fun hc => ?_) (fun hc => ?_)
    · replace h := ht hc; clear ht hf
      refine wp_skip ?_
      exact jn38 () _ _ (hF.sub rfl) h
    · replace h := hf hc; clear ht hf
      refine wp_exit ?_
      exact jn20 s27.1 _ _ (hF.sub rfl) h
  clear hJ
  refine seq_region fun K85 hK86 => ?_
  refine RL.val  hF rfl rfl rfl (r_move hF rfl rfl) ?_; clear hF; clear a; intro a hF
  refine RL.call hF rfl rfl rfl (r_call (xs := [.pointer a0]) hF rfl rfl Try.call10) (CallsV.mono h ?_)
  clear h; rintro _ w87 ⟨r88, rfl, h⟩; clear hF; clear a; intro a hF
  refine RL.nil (hK86 _ _ ?_)
  clear hK86 K85
  obtain ⟨ht, hf⟩ := h
  refine cond_ hF rfl (fun hc => ?_) (fun hc => ?_)
  · replace h := ht hc; clear ht hf
    refine seq_region fun K89 hK90 => ?_
    refine RL.val  hF rfl rfl rfl (r_assign hF rfl rfl) ?_; clear hF; clear a; intro a hF
    refine RL.nil (hK90 _ _ ?_)
    clear hK90 K89
    refine wp_ret ?_
    exact ret_of hF (res1 hF rfl rfl) ⟨_, rfl, h⟩
  · replace h := hf hc; clear ht hf
    refine wp_skip ?_
    exact jn8 () _ _ (hF.sub rfl) h

set_option maxRecDepth 20000 in
theorem br3 {a0 : Int} {a1 : Slc} {w : World} {K : Bool → World → Prop} (h : sh3 a0 a1 w K) : C3 a0 a1 w K := by
  unfold sh3 at h
  refine enter (n := 125) (l := [(0, .int .i64 a0), (1, a1.v)]) 123 Try.func3 rfl _ rfl rfl rfl fun a hF => ?_
  refine seq_region fun K1 hK2 => ?_
  refine RL.val  hF rfl rfl rfl (r_assign hF rfl rfl) ?_; clear hF; clear a; intro a hF
  refine RL.nil (hK2 _ _ ?_)
  clear hK2 K1
  refine seq_region fun K3 hK4 => ?_
  refine RL.call hF rfl rfl rfl (r_call (xs := []) hF rfl rfl Try.call4) (CallsV.mono h ?_)
  clear h; rintro _ w5 ⟨r6, rfl, h⟩; clear hF; clear a; intro a hF
  refine RL.val  hF rfl rfl rfl (r_assign hF rfl rfl) ?_; clear hF; clear a; intro a hF
  refine RL.nil (hK4 _ _ ?_)
  clear hK4 K3
  refine seq_k fun K7 hK8 => ?_
  obtain ⟨J, hJ, h⟩ := jn_open h
  have jn12 : ∀ (v9 : Unit) (w10 : World) a, Fr 125 a [(0, .int .i64 a0), (1, a1.v), (5, .pointer r6)] → J v9 w10 → K7 a w10 := by
    intro v9 w10 a hF h
    replace h := hJ _ _ h
    clear hJ
    refine hK8 _ _ ?_
    refine seq_region fun K13 hK14 => ?_
    refine RL.val  hF rfl rfl rfl (r_move hF rfl rfl) ?_; clear hF; clear a; intro a hF
    refine RL.val  hF rfl rfl rfl (r_and hF rfl rfl rfl) ?_; clear hF; clear a; intro a hF
    refine RL.val  hF rfl rfl rfl (r_add hF rfl rfl rfl) ?_; clear hF; clear a; intro a hF
    refine RL.val  hF rfl rfl rfl (r_assign hF rfl rfl) ?_; clear hF; clear a; intro a hF
    refine RL.nil (hK14 _ _ ?_)
    clear hK14 K13
    refine seq_region fun K15 hK16 => ?_
    refine RL.val  hF rfl rfl rfl (r_assign hF rfl rfl) ?_; clear hF; clear a; intro a hF
    refine RL.nil (hK16 _ _ ?_)
    clear hK16 K15
    refine seq_k fun K17 hK18 => ?_
    obtain ⟨J, hJ, h⟩ := jn_open h
    have jn22 : ∀ (v19 : Slc) (w20 : World) a, Fr 125 a [(0, .int .i64 (IntKind.i64.wrap (2 + (bitsZ .and .i64 a0 15)))), (1, a1.v), (5, .pointer r6), (6, v19.v)] → J v19 w20 → K17 a w20 := by
      intro v19 w20 a hF h
      replace h := hJ _ _ h
      clear hJ
      refine hK18 _ _ ?_
      refine seq_k fun K23 hK24 => ?_
      obtain ⟨J, hJ, h⟩ := jn_open h
      have jn28 : ∀ (v25 : Unit) (w26 : World) a, Fr 125 a [(0, .int .i64 (IntKind.i64.wrap (2 + (bitsZ .and .i64 a0 15)))), (1, a1.v), (5, .pointer r6), (6, v19.v)] → J v25 w26 → K23 a w26 := by
        intro v25 w26 a hF h
        replace h := hJ _ _ h
        clear hJ
        refine hK24 _ _ ?_
        refine seq_region fun K29 hK30 => ?_
        refine RL.val  hF rfl rfl rfl (r_assign hF rfl rfl) ?_; clear hF; clear a; intro a hF
        refine RL.nil (hK30 _ _ ?_)
        clear hK30 K29
        refine seq_k fun K31 hK32 => ?_
        obtain ⟨J, hJ, h⟩ := jn_open h
        have jn36 : ∀ (v33 : Slc) (w34 : World) a, Fr 125 a [(0, .int .i64 (IntKind.i64.wrap (2 + (bitsZ .and .i64 a0 15)))), (5, .pointer r6), (6, v19.v), (10, v33.v)] → J v33 w34 → K31 a w34 := by
          intro v33 w34 a hF h
          replace h := hJ _ _ h
          clear hJ
          refine hK32 _ _ ?_
          refine seq_draw 2206543118464 #[0, 0, 0, 4, 14, 30, 0, 127, 255, 511, 511, 511, 2559, 7679, 15871, 511, 511, 66047, 197119, 459263, 1016319, 2097151, 4194303, 8388607, 16777215, 33554431, 33554431, 33554431, 167772159, 436207615, 973078527, 2113929215, 4294967295, 8589934591, 33554431, 17213423615, 68719476735, 137438953471, 274877906943, 549755813887, 549755813887, 2199023255551, 4398046511103, 8796093022207, 17592186044415, 35184372088831] 46 mo rfl (by kernel_rfl) (by kernel_rfl) fun hS K37 hK38 => ?_
          obtain ⟨w39, hw, h⟩ := h; rw [← hw]; clear hw
          obtain ⟨J42, hJ, h⟩ := jn_open h
          have jn43 : ∀ (v40 : Bool) (w41 : World) a, Fr 125 a [(4, .bool v40)] → J42 v40 w41 → K37 a w41 := by
            clear hF
            intro v40 w41 a hF h; replace h := hJ _ _ h; refine hK38 _ _ ?_; clear hJ hK38 K37
            refine wp_ret ?_
            exact ret_of hF (res1 hF rfl rfl) ⟨_, rfl, h⟩
          clear hJ hK38
          refine GL.val (v := .pointer r6) (i := 0) hF hS rfl rfl (by kernel_rfl) rfl rfl rfl rfl (fun x => r_move hF rfl rfl) ?_; clear hF; clear a; intro a hF
          refine GL.val (v := v19.v) (i := 1) hF hS rfl rfl (by kernel_rfl) rfl rfl rfl rfl (fun x => r_move hF rfl rfl) ?_; clear hF; clear a; intro a hF
          refine GL.val (v := .int .i64 (IntKind.i64.wrap (2 + (bitsZ .and .i64 a0 15)))) (i := 2) hF hS rfl rfl (by kernel_rfl) rfl rfl rfl rfl (fun x => r_move hF rfl rfl) ?_; clear hF; clear a; intro a hF
          refine GL.val (v := .int .i64 (IntKind.i64.wrap ((IntKind.i64.wrap (2 + (bitsZ .and .i64 a0 15))) - 1))) (i := 3) hF hS rfl rfl (by kernel_rfl) rfl rfl rfl rfl (fun x => r_sub hF rfl rfl rfl) ?_; clear hF; clear a; intro a hF
          obtain ⟨b45, p44, hb_, h0_, h1_, hp_, h⟩ := h
          refine GL.val (v := .pointer (some p44)) (i := 4) hF hS rfl rfl (by kernel_rfl) rfl rfl rfl rfl (fun x => by rw [hp_]; exact r_indexAddr hF rfl (lks rfl hb_) rfl Try.runUnderlying25 Try.sizeOf27 h0_ h1_) ?_; clear hF; clear a; intro a hF
          refine GL.val (v := (Slc.sub ⟨some p44, 16, 16⟩ 1 0 16 16).v) (i := 5) hF hS rfl rfl (by kernel_rfl) rfl rfl rfl rfl (fun x => r_slice (lo' := none) (hi' := none) (mx' := none) hF rfl rfl rfl rfl rfl (arr_at Try.runUnderlying27 Try.sizeOf5 (bounds00 ))) ?_; clear hF; clear a; intro a hF
          refine GL.val (v := v33.v) (i := 6) hF hS rfl rfl (by kernel_rfl) rfl rfl rfl rfl (fun x => r_move hF rfl rfl) ?_; clear hF; clear a; intro a hF
          refine GL.act (i := 7) (pend' := []) hS (by kernel_rfl) rfl (by kernel_rfl) ?_
          refine op_call hF rfl rfl rfl rfl (r_call (xs := [.pointer r6, (Slc.sub ⟨some p44, 16, 16⟩ 1 0 16 16).v, v33.v]) hF rfl rfl Try.call6) (CallsV.mono h ?_)
          clear h; rintro _ w46 ⟨r47, rfl, h⟩
          refine ⟨trivial, ?_⟩; clear hF; clear a; intro a hF
          refine GL.val (v := .bool r47) (i := 8) hF hS rfl rfl (by kernel_rfl) rfl rfl rfl rfl (fun x => r_move hF rfl rfl) ?_; clear hF; clear a; intro a hF
          obtain ⟨ht, hf⟩ := h
          rcases bool_cases r47 with hg48 | hg48
          · replace h := ht hg48; clear ht hf
            refine GL.gval (v := .pointer r6) (i := 9) hF hS rfl rfl (by kernel_rfl) rfl rfl rfl (lkb rfl hg48) rfl rfl (fun x => r_move hF rfl rfl) ?_; clear hF; clear a; intro a hF
            refine GL.gval (v := v19.v) (i := 10) hF hS rfl rfl (by kernel_rfl) rfl rfl rfl (lkb rfl hg48) rfl rfl (fun x => r_move hF rfl rfl) ?_; clear hF; clear a; intro a hF
            refine GL.gval (v := .int .i64 (IntKind.i64.wrap (2 + (bitsZ .and .i64 a0 15)))) (i := 11) hF hS rfl rfl (by kernel_rfl) rfl rfl rfl (lkb rfl hg48) rfl rfl (fun x => r_move hF rfl rfl) ?_; clear hF; clear a; intro a hF
            refine GL.gval (v := .int .i64 (IntKind.i64.wrap ((IntKind.i64.wrap (2 + (bitsZ .and .i64 a0 15))) - 1))) (i := 12) hF hS rfl rfl (by kernel_rfl) rfl rfl rfl (lkb rfl hg48) rfl rfl (fun x => r_sub hF rfl rfl rfl) ?_; clear hF; clear a; intro a hF
            obtain ⟨b50, p49, hb_, h0_, h1_, hp_, h⟩ := h
            refine GL.gval (v := .pointer (some p49)) (i := 13) hF hS rfl rfl (by kernel_rfl) rfl rfl rfl (lkb rfl hg48) rfl rfl (fun x => by rw [hp_]; exact r_indexAddr hF rfl (lks rfl hb_) rfl Try.runUnderlying25 Try.sizeOf27 h0_ h1_) ?_; clear hF; clear a; intro a hF
            refine GL.gval (v := (Slc.sub ⟨some p49, 16, 16⟩ 1 0 16 16).v) (i := 14) hF hS rfl rfl (by kernel_rfl) rfl rfl rfl (lkb rfl hg48) rfl rfl (fun x => r_slice (lo' := none) (hi' := none) (mx' := none) hF rfl rfl rfl rfl rfl (arr_at Try.runUnderlying27 Try.sizeOf5 (bounds00 ))) ?_; clear hF; clear a; intro a hF
            refine GL.gval (v := v33.v) (i := 15) hF hS rfl rfl (by kernel_rfl) rfl rfl rfl (lkb rfl hg48) rfl rfl (fun x => r_move hF rfl rfl) ?_; clear hF; clear a; intro a hF
            refine GL.gval (v := v19.v) (i := 16) hF hS rfl rfl (by kernel_rfl) rfl rfl rfl (lkb rfl hg48) rfl rfl (fun x => r_move hF rfl rfl) ?_; clear hF; clear a; intro a hF
            obtain ⟨b52, p51, hb_, h0_, h1_, hp_, h⟩ := h
            refine GL.gval (v := .pointer (some p51)) (i := 17) hF hS rfl rfl (by kernel_rfl) rfl rfl rfl (lkb rfl hg48) rfl rfl (fun x => by rw [hp_]; exact r_indexAddr hF rfl (lks rfl hb_) rfl Try.runUnderlying25 Try.sizeOf27 h0_ h1_) ?_; clear hF; clear a; intro a hF
            refine GL.gval (v := (Slc.sub ⟨some p51, 16, 16⟩ 1 0 16 16).v) (i := 18) hF hS rfl rfl (by kernel_rfl) rfl rfl rfl (lkb rfl hg48) rfl rfl (fun x => r_slice (lo' := none) (hi' := none) (mx' := none) hF rfl rfl rfl rfl rfl (arr_at Try.runUnderlying27 Try.sizeOf5 (bounds00 ))) ?_; clear hF; clear a; intro a hF
            refine GL.act (i := 19) (pend' := []) hS (by kernel_rfl) rfl (by kernel_rfl) ?_
            obtain ⟨p54, w53, hp_, hw_, h⟩ := h
            refine op_gval (v := (Slc.mk (some p54) 1 1).v) (w' := w53) hF rfl rfl rfl (lkb rfl hg48) rfl rfl (by rw [hp_, hw_]; exact r_buildSlice (xs := [(0, (Slc.sub ⟨some p51, 16, 16⟩ 1 0 16 16).v)]) hF rfl rfl (by kernel_rfl)) trivial ?_; clear hF; clear a; intro a hF
            refine GL.act (i := 20) (pend' := []) hS (by kernel_rfl) rfl (by kernel_rfl) ?_
            obtain ⟨t56, w55, hc_, h⟩ := h
            refine op_gval  hF rfl rfl rfl (lkb rfl hg48) rfl rfl (r_append (xs := [v33.v, (Slc.mk (some p54) 1 1).v]) hF rfl rfl hc_) trivial ?_; clear hF; clear a; intro a hF
            refine GL.act (i := 21) (pend' := []) hS (by kernel_rfl) rfl (by kernel_rfl) ?_
            refine op_gcall hF rfl rfl rfl (lkb rfl hg48) rfl rfl (r_call (xs := [.pointer r6, (Slc.sub ⟨some p49, 16, 16⟩ 1 0 16 16).v, t56.v]) hF rfl rfl Try.call6) (CallsV.mono h ?_)
            clear h; rintro _ w57 ⟨r58, rfl, h⟩
            refine ⟨trivial, ?_⟩; clear hF; clear a; intro a hF
            refine GL.gval (v := .bool (!r58)) (i := 22) hF hS rfl rfl (by kernel_rfl) rfl rfl rfl (lkb rfl hg48) rfl rfl (fun x => r_not hF rfl rfl) ?_; clear hF; clear a; intro a hF
            refine GL.val (v := .bool (!r58)) (i := 23) hF hS rfl rfl (by kernel_rfl) rfl rfl rfl rfl (fun x => r_pick hF rfl rfl rfl rfl (fun _ => rfl) (fun e => absurd (hg48.symm.trans e) (by decide))) ?_; clear hF; clear a; intro a hF
            refine GL.val (v := .bool (!r58)) (i := 24) hF hS rfl rfl (by kernel_rfl) rfl rfl rfl rfl (fun x => r_move hF rfl rfl) ?_; clear hF; clear a; intro a hF
            obtain ⟨ht, hf⟩ := h
            rcases bool_cases (!r58) with hg59 | hg59
            · replace h := ht hg59; clear ht hf
              refine GL.gval (v := .pointer r6) (i := 25) hF hS rfl rfl (by kernel_rfl) rfl rfl rfl (lkb rfl hg59) rfl rfl (fun x => r_move hF rfl rfl) ?_; clear hF; clear a; intro a hF
              refine GL.gval (v := v33.v) (i := 26) hF hS rfl rfl (by kernel_rfl) rfl rfl rfl (lkb rfl hg59) rfl rfl (fun x => r_move hF rfl rfl) ?_; clear hF; clear a; intro a hF
              refine GL.gval (v := v19.v) (i := 27) hF hS rfl rfl (by kernel_rfl) rfl rfl rfl (lkb rfl hg59) rfl rfl (fun x => r_move hF rfl rfl) ?_; clear hF; clear a; intro a hF
              obtain ⟨b61, p60, hb_, h0_, h1_, hp_, h⟩ := h
              refine GL.gval (v := .pointer (some p60)) (i := 28) hF hS rfl rfl (by kernel_rfl) rfl rfl rfl (lkb rfl hg59) rfl rfl (fun x => by rw [hp_]; exact r_indexAddr hF rfl (lks rfl hb_) rfl Try.runUnderlying25 Try.sizeOf27 h0_ h1_) ?_; clear hF; clear a; intro a hF
              refine GL.gval (v := (Slc.sub ⟨some p60, 16, 16⟩ 1 0 16 16).v) (i := 29) hF hS rfl rfl (by kernel_rfl) rfl rfl rfl (lkb rfl hg59) rfl rfl (fun x => r_slice (lo' := none) (hi' := none) (mx' := none) hF rfl rfl rfl rfl rfl (arr_at Try.runUnderlying27 Try.sizeOf5 (bounds00 ))) ?_; clear hF; clear a; intro a hF
              refine GL.gval (v := .int .i64 (IntKind.i64.wrap (2 + (bitsZ .and .i64 a0 15)))) (i := 34) hF hS rfl rfl (by kernel_rfl) rfl rfl rfl (lkb rfl hg59) rfl rfl (fun x => r_move hF rfl rfl) ?_; clear hF; clear a; intro a hF
              refine GL.gval (v := .int .i64 (IntKind.i64.wrap ((IntKind.i64.wrap (2 + (bitsZ .and .i64 a0 15))) - 1))) (i := 35) hF hS rfl rfl (by kernel_rfl) rfl rfl rfl (lkb rfl hg59) rfl rfl (fun x => r_sub hF rfl rfl rfl) ?_; clear hF; clear a; intro a hF
              refine GL.act (i := 30) (pend' := []) hS (by kernel_rfl) rfl (by kernel_rfl) ?_
              obtain ⟨p63, w62, hp_, hw_, h⟩ := h
              refine op_gval (v := (Slc.mk (some p63) 1 1).v) (w' := w62) hF rfl rfl rfl (lkb rfl hg59) rfl rfl (by rw [hp_, hw_]; exact r_buildSlice (xs := [(0, (Slc.sub ⟨some p60, 16, 16⟩ 1 0 16 16).v)]) hF rfl rfl (by kernel_rfl)) trivial ?_; clear hF; clear a; intro a hF
              refine GL.act (i := 31) (pend' := []) hS (by kernel_rfl) rfl (by kernel_rfl) ?_
              obtain ⟨t65, w64, hc_, h⟩ := h
              refine op_gval  hF rfl rfl rfl (lkb rfl hg59) rfl rfl (r_append (xs := [v33.v, (Slc.mk (some p63) 1 1).v]) hF rfl rfl hc_) trivial ?_; clear hF; clear a; intro a hF
              refine GL.act (i := 32) (pend' := []) hS (by kernel_rfl) rfl (by kernel_rfl) ?_
              refine op_gcall hF rfl rfl rfl (lkb rfl hg59) rfl rfl (r_call (xs := [.pointer r6, t65.v]) hF rfl rfl Try.call8) (CallsV.mono h ?_)
              clear h; rintro _ w66 ⟨r67, rfl, h⟩
              refine ⟨trivial, ?_⟩; clear hF; clear a; intro a hF
              refine GL.gval (v := .int .i64 (r67.len : Int)) (i := 33) hF hS rfl rfl (by kernel_rfl) rfl rfl rfl (lkb rfl hg59) rfl rfl (fun x => r_len_slice hF rfl rfl Try.runUnderlying30) ?_; clear hF; clear a; intro a hF
              refine GL.gval (v := .bool ((r67.len : Int) == (IntKind.i64.wrap ((IntKind.i64.wrap (2 + (bitsZ .and .i64 a0 15))) - 1)))) (i := 36) hF hS rfl rfl (by kernel_rfl) rfl rfl rfl (lkb rfl hg59) rfl rfl (fun x => r_eql hF rfl rfl rfl) ?_; clear hF; clear a; intro a hF
              refine GL.val (v := .bool ((r67.len : Int) == (IntKind.i64.wrap ((IntKind.i64.wrap (2 + (bitsZ .and .i64 a0 15))) - 1)))) (i := 37) hF hS rfl rfl (by kernel_rfl) rfl rfl rfl rfl (fun x => r_pick hF rfl rfl rfl rfl (fun _ => rfl) (fun e => absurd (hg59.symm.trans e) (by decide))) ?_; clear hF; clear a; intro a hF
              refine GL.val (v := .bool ((r67.len : Int) == (IntKind.i64.wrap ((IntKind.i64.wrap (2 + (bitsZ .and .i64 a0 15))) - 1)))) (i := 38) hF hS rfl rfl (by kernel_rfl) rfl rfl rfl rfl (fun x => r_move hF rfl rfl) ?_; clear hF; clear a; intro a hF
              obtain ⟨ht, hf⟩ := h
              rcases bool_cases ((r67.len : Int) == (IntKind.i64.wrap ((IntKind.i64.wrap (2 + (bitsZ .and .i64 a0 15))) - 1))) with hg68 | hg68
              · replace h := ht hg68; clear ht hf
                refine GL.gval (v := .pointer r6) (i := 39) hF hS rfl rfl (by kernel_rfl) rfl rfl rfl (lkb rfl hg68) rfl rfl (fun x => r_move hF rfl rfl) ?_; clear hF; clear a; intro a hF
                refine GL.gval (v := v33.v) (i := 40) hF hS rfl rfl (by kernel_rfl) rfl rfl rfl (lkb rfl hg68) rfl rfl (fun x => r_move hF rfl rfl) ?_; clear hF; clear a; intro a hF
                refine GL.act (i := 41) (pend' := []) hS (by kernel_rfl) rfl (by kernel_rfl) ?_
                refine op_gcall hF rfl rfl rfl (lkb rfl hg68) rfl rfl (r_call (xs := [.pointer r6, v33.v]) hF rfl rfl Try.call8) (CallsV.mono h ?_)
                clear h; rintro _ w69 ⟨r70, rfl, h⟩
                refine ⟨trivial, ?_⟩; clear hF; clear a; intro a hF
                refine GL.gval (v := .int .i64 (r70.len : Int)) (i := 42) hF hS rfl rfl (by kernel_rfl) rfl rfl rfl (lkb rfl hg68) rfl rfl (fun x => r_len_slice hF rfl rfl Try.runUnderlying30) ?_; clear hF; clear a; intro a hF
                refine GL.gval (v := .bool ((r70.len : Int) == 0)) (i := 43) hF hS rfl rfl (by kernel_rfl) rfl rfl rfl (lkb rfl hg68) rfl rfl (fun x => r_eql hF rfl rfl rfl) ?_; clear hF; clear a; intro a hF
                refine GL.val (v := .bool ((r70.len : Int) == 0)) (i := 44) hF hS rfl rfl (by kernel_rfl) rfl rfl rfl rfl (fun x => r_pick hF rfl rfl rfl rfl (fun _ => rfl) (fun e => absurd (hg68.symm.trans e) (by decide))) ?_; clear hF; clear a; intro a hF
                refine GL.val (v := .bool ((r70.len : Int) == 0)) (i := 45) hF hS rfl rfl (by kernel_rfl) rfl rfl rfl rfl (fun x => r_assign hF rfl rfl) ?_; clear hF; clear a; intro a hF
                refine GL.done (by kernel_rfl) ?_
                exact jn43 ((r70.len : Int) == 0) _ _ (hF.sub rfl) h
              · replace h := hf hg68; clear ht hf
                refine GL.skip (i := 39) hF hS rfl rfl (by kernel_rfl) rfl rfl rfl (lkb rfl hg68) (.inl rfl) rfl rfl ?_; clear hF; clear a; intro a hF
                refine GL.skip (i := 40) hF hS rfl rfl (by kernel_rfl) rfl rfl rfl (lkb rfl hg68) (.inl rfl) rfl rfl ?_; clear hF; clear a; intro a hF
                refine GL.actSkip (i := 41) (pend' := []) hF hS (by kernel_rfl) rfl (by kernel_rfl) rfl rfl rfl (lkb rfl hg68) (.inl rfl) rfl rfl ?_; clear hF; clear a; intro a hF
                refine GL.skip (i := 42) hF hS rfl rfl (by kernel_rfl) rfl rfl rfl (lkb rfl hg68) (.inl rfl) rfl rfl ?_; clear hF; clear a; intro a hF
                refine GL.skip (i := 43) hF hS rfl rfl (by kernel_rfl) rfl rfl rfl (lkb rfl hg68) (.inl rfl) rfl rfl ?_; clear hF; clear a; intro a hF
                refine GL.val (v := .bool false) (i := 44) hF hS rfl rfl (by kernel_rfl) rfl rfl rfl rfl (fun x => r_pick hF rfl rfl rfl rfl (fun e => absurd (hg68.symm.trans e) (by decide)) (fun _ => rfl)) ?_; clear hF; clear a; intro a hF
                refine GL.val (v := .bool false) (i := 45) hF hS rfl rfl (by kernel_rfl) rfl rfl rfl rfl (fun x => r_assign hF rfl rfl) ?_; clear hF; clear a; intro a hF
                refine GL.done (by kernel_rfl) ?_
                exact jn43 false _ _ (hF.sub rfl) h
            · replace h := hf hg59; clear ht hf
              refine GL.skip (i := 25) hF hS rfl rfl (by kernel_rfl) rfl rfl rfl (lkb rfl hg59) (.inl rfl) rfl rfl ?_; clear hF; clear a; intro a hF
              refine GL.skip (i := 26) hF hS rfl rfl (by kernel_rfl) rfl rfl rfl (lkb rfl hg59) (.inl rfl) rfl rfl ?_; clear hF; clear a; intro a hF
              refine GL.skip (i := 27) hF hS rfl rfl (by kernel_rfl) rfl rfl rfl (lkb rfl hg59) (.inl rfl) rfl rfl ?_; clear hF; clear a; intro a hF
              refine GL.skip (i := 28) hF hS rfl rfl (by kernel_rfl) rfl rfl rfl (lkb rfl hg59) (.inl rfl) rfl rfl ?_; clear hF; clear a; intro a hF
              refine GL.skip (i := 29) hF hS rfl rfl (by kernel_rfl) rfl rfl rfl (lkb rfl hg59) (.inl rfl) rfl rfl ?_; clear hF; clear a; intro a hF
              refine GL.skip (i := 34) hF hS rfl rfl (by kernel_rfl) rfl rfl rfl (lkb rfl hg59) (.inl rfl) rfl rfl ?_; clear hF; clear a; intro a hF
              refine GL.skip (i := 35) hF hS rfl rfl (by kernel_rfl) rfl rfl rfl (lkb rfl hg59) (.inl rfl) rfl rfl ?_; clear hF; clear a; intro a hF
              refine GL.actSkip (i := 30) (pend' := []) hF hS (by kernel_rfl) rfl (by kernel_rfl) rfl rfl rfl (lkb rfl hg59) (.inl rfl) rfl rfl ?_; clear hF; clear a; intro a hF
              refine GL.actSkip (i := 31) (pend' := []) hF hS (by kernel_rfl) rfl (by kernel_rfl) rfl rfl rfl (lkb rfl hg59) (.inl rfl) rfl rfl ?_; clear hF; clear a; intro a hF
              refine GL.actSkip (i := 32) (pend' := []) hF hS (by kernel_rfl) rfl (by kernel_rfl) rfl rfl rfl (lkb rfl hg59) (.inl rfl) rfl rfl ?_; clear hF; clear a; intro a hF
              refine GL.skip (i := 33) hF hS rfl rfl (by kernel_rfl) rfl rfl rfl (lkb rfl hg59) (.inl rfl) rfl rfl ?_; clear hF; clear a; intro a hF
              refine GL.skip (i := 36) hF hS rfl rfl (by kernel_rfl) rfl rfl rfl (lkb rfl hg59) (.inl rfl) rfl rfl ?_; clear hF; clear a; intro a hF
              refine GL.val (v := .bool false) (i := 37) hF hS rfl rfl (by kernel_rfl) rfl rfl rfl rfl (fun x => r_pick hF rfl rfl rfl rfl (fun e => absurd (hg59.symm.trans e) (by decide)) (fun _ => rfl)) ?_; clear hF; clear a; intro a hF
              refine GL.val (v := .bool false) (i := 38) hF hS rfl rfl (by kernel_rfl) rfl rfl rfl rfl (fun x => r_move hF rfl rfl) ?_; clear hF; clear a; intro a hF
              refine GL.skip (i := 39) hF hS rfl rfl (by kernel_rfl) rfl rfl rfl rfl (.inl rfl) rfl rfl ?_; clear hF; clear a; intro a hF
              refine GL.skip (i := 40) hF hS rfl rfl (by kernel_rfl) rfl rfl rfl rfl (.inl rfl) rfl rfl ?_; clear hF; clear a; intro a hF
              refine GL.actSkip (i := 41) (pend' := []) hF hS (by kernel_rfl) rfl (by kernel_rfl) rfl rfl rfl rfl (.inl rfl) rfl rfl ?_; clear hF; clear a; intro a hF
              refine GL.skip (i := 42) hF hS rfl rfl (by kernel_rfl) rfl rfl rfl rfl (.inl rfl) rfl rfl ?_; clear hF; clear a; intro a hF
              refine GL.skip (i := 43) hF hS rfl rfl (by kernel_rfl) rfl rfl rfl rfl (.inl rfl) rfl rfl ?_; clear hF; clear a; intro a hF
              refine GL.val (v := .bool false) (i := 44) hF hS rfl rfl (by kernel_rfl) rfl rfl rfl rfl (fun x => r_pick hF rfl rfl rfl rfl (fun e => absurd e (by decide)) (fun _ => rfl)) ?_; clear hF; clear a; intro a hF
              refine GL.val (v := .bool false) (i := 45) hF hS rfl rfl (by kernel_rfl) rfl rfl rfl rfl (fun x => r_assign hF rfl rfl) ?_; clear hF; clear a; intro a hF
              refine GL.done (by kernel_rfl) ?_
              exact jn43 false _ _ (hF.sub rfl) h
          · replace h := hf hg48; clear ht hf
            refine GL.skip (i := 9) hF hS rfl rfl (by kernel_rfl) rfl rfl rfl (lkb rfl hg48) (.inl rfl) rfl rfl ?_; clear hF; clear a; intro a hF
            refine GL.skip (i := 10) hF hS rfl rfl (by kernel_rfl) rfl rfl rfl (lkb rfl hg48) (.inl rfl) rfl rfl ?_; clear hF; clear a; intro a hF
            refine GL.skip (i := 11) hF hS rfl rfl (by kernel_rfl) rfl rfl rfl (lkb rfl hg48) (.inl rfl) rfl rfl ?_; clear hF; clear a; intro a hF
            refine GL.skip (i := 12) hF hS rfl rfl (by kernel_rfl) rfl rfl rfl (lkb rfl hg48) (.inl rfl) rfl rfl ?_; clear hF; clear a; intro a hF
            refine GL.skip (i := 13) hF hS rfl rfl (by kernel_rfl) rfl rfl rfl (lkb rfl hg48) (.inl rfl) rfl rfl ?_; clear hF; clear a; intro a hF
            refine GL.skip (i := 14) hF hS rfl rfl (by kernel_rfl) rfl rfl rfl (lkb rfl hg48) (.inl rfl) rfl rfl ?_; clear hF; clear a; intro a hF
            refine GL.skip (i := 15) hF hS rfl rfl (by kernel_rfl) rfl rfl rfl (lkb rfl hg48) (.inl rfl) rfl rfl ?_; clear hF; clear a; intro a hF
            refine GL.skip (i := 16) hF hS rfl rfl (by kernel_rfl) rfl rfl rfl (lkb rfl hg48) (.inl rfl) rfl rfl ?_; clear hF; clear a; intro a hF
            refine GL.skip (i := 17) hF hS rfl rfl (by kernel_rfl) rfl rfl rfl (lkb rfl hg48) (.inl rfl) rfl rfl ?_; clear hF; clear a; intro a hF
            refine GL.skip (i := 18) hF hS rfl rfl (by kernel_rfl) rfl rfl rfl (lkb rfl hg48) (.inl rfl) rfl rfl ?_; clear hF; clear a; intro a hF
            refine GL.actSkip (i := 19) (pend' := []) hF hS (by kernel_rfl) rfl (by kernel_rfl) rfl rfl rfl (lkb rfl hg48) (.inl rfl) rfl rfl ?_; clear hF; clear a; intro a hF
            refine GL.actSkip (i := 20) (pend' := []) hF hS (by kernel_rfl) rfl (by kernel_rfl) rfl rfl rfl (lkb rfl hg48) (.inl rfl) rfl rfl ?_; clear hF; clear a; intro a hF
            refine GL.actSkip (i := 21) (pend' := []) hF hS (by kernel_rfl) rfl (by kernel_rfl) rfl rfl rfl (lkb rfl hg48) (.inl rfl) rfl rfl ?_; clear hF; clear a; intro a hF
            refine GL.skip (i := 22) hF hS rfl rfl (by kernel_rfl) rfl rfl rfl (lkb rfl hg48) (.inl rfl) rfl rfl ?_; clear hF; clear a; intro a hF
            refine GL.val (v := .bool false) (i := 23) hF hS rfl rfl (by kernel_rfl) rfl rfl rfl rfl (fun x => r_pick hF rfl rfl rfl rfl (fun e => absurd (hg48.symm.trans e) (by decide)) (fun _ => rfl)) ?_; clear hF; clear a; intro a hF
            refine GL.val (v := .bool false) (i := 24) hF hS rfl rfl (by kernel_rfl) rfl rfl rfl rfl (fun x => r_move hF rfl rfl) ?_; clear hF; clear a; intro a hF
            refine GL.skip (i := 25) hF hS rfl rfl (by kernel_rfl) rfl rfl rfl rfl (.inl rfl) rfl rfl ?_; clear hF; clear a; intro a hF
            refine GL.skip (i := 26) hF hS rfl rfl (by kernel_rfl) rfl rfl rfl rfl (.inl rfl) rfl rfl ?_; clear hF; clear a; intro a hF
            refine GL.skip (i := 27) hF hS rfl rfl (by kernel_rfl) rfl rfl rfl rfl (.inl rfl) rfl rfl ?_; clear hF; clear a; intro a hF
            refine GL.skip (i := 28) hF hS rfl rfl (by kernel_rfl) rfl rfl rfl rfl (.inl rfl) rfl rfl ?_; clear hF; clear a; intro a hF
            refine GL.skip (i := 29) hF hS rfl rfl (by kernel_rfl) rfl rfl rfl rfl (.inl rfl) rfl rfl ?_; clear hF; clear a; intro a hF
            refine GL.skip (i := 34) hF hS rfl rfl (by kernel_rfl) rfl rfl rfl rfl (.inl rfl) rfl rfl ?_; clear hF; clear a; intro a hF
            refine GL.skip (i := 35) hF hS rfl rfl (by kernel_rfl) rfl rfl rfl rfl (.inl rfl) rfl rfl ?_; clear hF; clear a; intro a hF
            refine GL.actSkip (i := 30) (pend' := []) hF hS (by kernel_rfl) rfl (by kernel_rfl) rfl rfl rfl rfl (.inl rfl) rfl rfl ?_; clear hF; clear a; intro a hF
            refine GL.actSkip (i := 31) (pend' := []) hF hS (by kernel_rfl) rfl (by kernel_rfl) rfl rfl rfl rfl (.inl rfl) rfl rfl ?_; clear hF; clear a; intro a hF
            refine GL.actSkip (i := 32) (pend' := []) hF hS (by kernel_rfl) rfl (by kernel_rfl) rfl rfl rfl rfl (.inl rfl) rfl rfl ?_; clear hF; clear a; intro a hF
            refine GL.skip (i := 33) hF hS rfl rfl (by kernel_rfl) rfl rfl rfl rfl (.inl rfl) rfl rfl ?_; clear hF; clear a; intro a hF
            refine GL.skip (i := 36) hF hS rfl rfl (by kernel_rfl) rfl rfl rfl rfl (.inl rfl) rfl rfl ?_; clear hF; clear a; intro a hF
            refine GL.val (v := .bool false) (i := 37) hF hS rfl rfl (by kernel_rfl) rfl rfl rfl rfl (fun x => r_pick hF rfl rfl rfl rfl (fun e => absurd e (by decide)) (fun _ => rfl)) ?_; clear hF; clear a; intro a hF
            refine GL.val (v := .bool false) (i := 38) hF hS rfl rfl (by kernel_rfl) rfl rfl rfl rfl (fun x => r_move hF rfl rfl) ?_; clear hF; clear a; intro a hF
            refine GL.skip (i := 39) hF hS rfl rfl (by kernel_rfl) rfl rfl rfl rfl (.inl rfl) rfl rfl ?_; clear hF; clear a; intro a hF
            refine GL.skip (i := 40) hF hS rfl rfl (by kernel_rfl) rfl rfl rfl rfl (.inl rfl) rfl rfl ?_; clear hF; clear a; intro a hF
            refine GL.actSkip (i := 41) (pend' := []) hF hS (by kernel_rfl) rfl (by kernel_rfl) rfl rfl rfl rfl (.inl rfl) rfl rfl ?_; clear hF; clear a; intro a hF
            refine GL.skip (i := 42) hF hS rfl rfl (by kernel_rfl) rfl rfl rfl rfl (.inl rfl) rfl rfl ?_; clear hF; clear a; intro a hF
            refine GL.skip (i := 43) hF hS rfl rfl (by kernel_rfl) rfl rfl rfl rfl (.inl rfl) rfl rfl ?_; clear hF; clear a; intro a hF
            refine GL.val (v := .bool false) (i := 44) hF hS rfl rfl (by kernel_rfl) rfl rfl rfl rfl (fun x => r_pick hF rfl rfl rfl rfl (fun e => absurd e (by decide)) (fun _ => rfl)) ?_; clear hF; clear a; intro a hF
            refine GL.val (v := .bool false) (i := 45) hF hS rfl rfl (by kernel_rfl) rfl rfl rfl rfl (fun x => r_assign hF rfl rfl) ?_; clear hF; clear a; intro a hF
            refine GL.done (by kernel_rfl) ?_
            exact jn43 false _ _ (hF.sub rfl) h
        clear hJ
        refine seq_region fun K71 hK72 => ?_
        refine RL.val  hF rfl rfl rfl (r_assign hF rfl rfl) ?_; clear hF; clear a; intro a hF
        refine RL.nil (hK72 _ _ ?_)
        clear hK72 K71
        refine wp_block ?_
        refine loop_ (fun (s73 : Slc × Int) => [(0, .int .i64 (IntKind.i64.wrap (2 + (bitsZ .and .i64 a0 15)))), (1, a1.v), (5, .pointer r6), (6, v19.v), (10, s73.1.v), (11, .int .i64 s73.2)]) (hF.sub rfl) h ?_
        clear hF h
        intro s73 w74 N75 KL hN76 h a hF
        refine seq_k fun K77 hK78 => ?_
        obtain ⟨J, hJ, h⟩ := jn_open h
        have jn82 : ∀ (v79 : Unit) (w80 : World) a, Fr 125 a [(0, .int .i64 (IntKind.i64.wrap (2 + (bitsZ .and .i64 a0 15)))), (1, a1.v), (5, .pointer r6), (6, v19.v), (10, s73.1.v), (11, .int .i64 s73.2)] → J v79 w80 → K77 a w80 := by
          intro v79 w80 a hF h
          replace h := hJ _ _ h
          clear hJ
          refine hK78 _ _ ?_
          refine seq_k fun K83 hK84 => ?_
          obtain ⟨J, hJ, h⟩ := jn_open h
          have jn88 : ∀ (v85 : Slc) (w86 : World) a, Fr 125 a [(0, .int .i64 (IntKind.i64.wrap (2 + (bitsZ .and .i64 a0 15)))), (1, a1.v), (5, .pointer r6), (6, v19.v), (10, v85.v), (11, .int .i64 s73.2)] → J v85 w86 → K83 a w86 := by
            intro v85 w86 a hF h
            replace h := hJ _ _ h
            clear hJ
            refine hK84 _ _ ?_
            refine end_region fun K89 hK90 => ?_
            refine RL.val  hF rfl rfl rfl (r_move hF rfl rfl) ?_; clear hF; clear a; intro a hF
            refine RL.val  hF rfl rfl rfl (r_add hF rfl rfl rfl) ?_; clear hF; clear a; intro a hF
            refine RL.val  hF rfl rfl rfl (r_assign hF rfl rfl) ?_; clear hF; clear a; intro a hF
            refine RL.nil (hK90 _ _ ?_)
            clear hK90 K89
            exact hN76 (v85, IntKind.i64.wrap (s73.2 + 1)) _ _ (hF.sub rfl) h
          clear hJ
          refine wp_block ?_
          refine seq_draw 49472 #[0, 0, 0, 6, 14, 0, 0, 0, 192, 0, 0, 1024, 3584, 7680, 16320, 32767, 65535, 131071, 131071, 262143, 1048575] 21 mo rfl (by kernel_rfl) (by kernel_rfl) fun hS K91 hK92 => ?_
          obtain ⟨w93, hw, h⟩ := h; rw [← hw]; clear hw
          refine GL.val (v := .pointer r6) (i := 0) hF hS rfl rfl (by kernel_rfl) rfl rfl rfl rfl (fun x => r_move hF rfl rfl) ?_; clear hF; clear a; intro a hF
          refine GL.val (v := v19.v) (i := 1) hF hS rfl rfl (by kernel_rfl) rfl rfl rfl rfl (fun x => r_move hF rfl rfl) ?_; clear hF; clear a; intro a hF
          refine GL.val (v := .int .i64 s73.2) (i := 2) hF hS rfl rfl (by kernel_rfl) rfl rfl rfl rfl (fun x => r_move hF rfl rfl) ?_; clear hF; clear a; intro a hF
          obtain ⟨b95, p94, hb_, h0_, h1_, hp_, h⟩ := h
          refine GL.val (v := .pointer (some p94)) (i := 3) hF hS rfl rfl (by kernel_rfl) rfl rfl rfl rfl (fun x => by rw [hp_]; exact r_indexAddr hF rfl (lks rfl hb_) rfl Try.runUnderlying25 Try.sizeOf27 h0_ h1_) ?_; clear hF; clear a; intro a hF
          obtain ⟨t96, hct96, h⟩ := h
          refine GL.read (v := .agg t96) (i := 4) hF (fun x => CellsAt x p94 16 t96) hS rfl rfl (by kernel_rfl) rfl rfl rfl rfl hct96 (fun x hx => r_loadA hF rfl rfl Try.isAgg27 Try.sizeOf27 hx) ?_; clear hF; clear a; intro a hF
          refine GL.val (v := .int .i64 s73.2) (i := 5) hF hS rfl rfl (by kernel_rfl) rfl rfl rfl rfl (fun x => r_move hF rfl rfl) ?_; clear hF; clear a; intro a hF
          refine GL.val (v := a1.v) (i := 7) hF hS rfl rfl (by kernel_rfl) rfl rfl rfl rfl (fun x => r_move hF rfl rfl) ?_; clear hF; clear a; intro a hF
          refine GL.val (v := v19.v) (i := 9) hF hS rfl rfl (by kernel_rfl) rfl rfl rfl rfl (fun x => r_move hF rfl rfl) ?_; clear hF; clear a; intro a hF
          refine GL.val (v := .int .i64 s73.2) (i := 10) hF hS rfl rfl (by kernel_rfl) rfl rfl rfl rfl (fun x => r_move hF rfl rfl) ?_; clear hF; clear a; intro a hF
          refine GL.val (v := .int .i64 (IntKind.i64.wrap (s73.2 + 1))) (i := 11) hF hS rfl rfl (by kernel_rfl) rfl rfl rfl rfl (fun x => r_add hF rfl rfl rfl) ?_; clear hF; clear a; intro a hF
          obtain ⟨b98, p97, hb_, h0_, h1_, hp_, h⟩ := h
          refine GL.val (v := .pointer (some p97)) (i := 12) hF hS rfl rfl (by kernel_rfl) rfl rfl rfl rfl (fun x => by rw [hp_]; exact r_indexAddr hF rfl (lks rfl hb_) rfl Try.runUnderlying25 Try.sizeOf27 h0_ h1_) ?_; clear hF; clear a; intro a hF
          refine GL.val (v := (Slc.sub ⟨some p97, 16, 16⟩ 1 0 16 16).v) (i := 13) hF hS rfl rfl (by kernel_rfl) rfl rfl rfl rfl (fun x => r_slice (lo' := none) (hi' := none) (mx' := none) hF rfl rfl rfl rfl rfl (arr_at Try.runUnderlying27 Try.sizeOf5 (bounds00 ))) ?_; clear hF; clear a; intro a hF
          refine GL.act (i := 6) (pend' := [(4, fun x => CellsAt x p94 16 t96)]) hS (by kernel_rfl) rfl (by kernel_rfl) ?_
          obtain ⟨p100, w99, hp_, hw_, h⟩ := h
          obtain ⟨hk101, h⟩ := h
          refine op_val (v := (Slc.mk (some p100) 0 0).v) (w' := w99) hF rfl rfl rfl rfl (by rw [hp_, hw_]; exact r_buildSlice (xs := []) hF rfl rfl (by kernel_rfl)) ⟨hk101, trivial⟩ ?_; clear hF; clear a; intro a hF
          refine GL.act (i := 8) (pend' := [(4, fun x => CellsAt x p94 16 t96)]) hS (by kernel_rfl) rfl (by kernel_rfl) ?_
          obtain ⟨t103, w102, hc_, h⟩ := h
          obtain ⟨hk104, h⟩ := h
          refine op_val  hF rfl rfl rfl rfl (r_append (xs := [(Slc.mk (some p100) 0 0).v, a1.v]) hF rfl rfl hc_) ⟨hk104, trivial⟩ ?_; clear hF; clear a; intro a hF
          refine GL.act (i := 14) (pend' := [(4, fun x => CellsAt x p94 16 t96)]) hS (by kernel_rfl) rfl (by kernel_rfl) ?_
          obtain ⟨t106, w105, hc_, h⟩ := h
          obtain ⟨hk107, h⟩ := h
          refine op_val  hF rfl rfl rfl rfl (r_append (xs := [t103.v, (Slc.sub ⟨some p97, 16, 16⟩ 1 0 16 16).v]) hF rfl rfl hc_) ⟨hk107, trivial⟩ ?_; clear hF; clear a; intro a hF
          refine GL.act (i := 15) (pend' := []) hS (by kernel_rfl) rfl (by kernel_rfl) ?_
          refine op_call hF rfl rfl rfl rfl (r_call (xs := [.pointer r6, .agg t96, .int .i64 s73.2, Slc.nil.v, t106.v]) hF rfl rfl Try.call7) (CallsV.mono h ?_)
          clear h; rintro _ w108 ⟨r109, r110, rfl, h⟩
          refine ⟨trivial, ?_⟩; clear hF; clear a; intro a hF
          refine GL.val (v := .tuple #[r109.v, .int .i64 r110]) (i := 16) hF hS rfl rfl (by kernel_rfl) rfl rfl rfl rfl (fun x => r_move hF rfl rfl) ?_; clear hF; clear a; intro a hF
          refine GL.val (v := r109.v) (i := 17) hF hS rfl rfl (by kernel_rfl) rfl rfl rfl rfl (fun x => r_extract hF rfl rfl rfl) ?_; clear hF; clear a; intro a hF
          refine GL.val (v := .int .i64 r110) (i := 18) hF hS rfl rfl (by kernel_rfl) rfl rfl rfl rfl (fun x => r_extract hF rfl rfl rfl) ?_; clear hF; clear a; intro a hF
          refine GL.val (v := r109.v) (i := 19) hF hS rfl rfl (by kernel_rfl) rfl rfl rfl rfl (fun x => r_assign hF rfl rfl) ?_; clear hF; clear a; intro a hF
          refine GL.val (v := .int .i64 r110) (i := 20) hF hS rfl rfl (by kernel_rfl) rfl rfl rfl rfl (fun x => r_assign hF rfl rfl) ?_; clear hF; clear a; intro a hF
          refine GL.done (by kernel_rfl) (hK92 _ _ ?_)
          clear hK92 K91
          refine seq_k fun K111 hK112 => ?_
          obtain ⟨J, hJ, h⟩ := jn_open h
          have jn116 : ∀ (v113 : Unit) (w114 : World) a, Fr 125 a [(0, .int .i64 (IntKind.i64.wrap (2 + (bitsZ .and .i64 a0 15)))), (1, a1.v), (5, .pointer r6), (6, v19.v), (10, s73.1.v), (11, .int .i64 s73.2), (12, r109.v)] → J v113 w114 → K111 a w114 := by
            intro v113 w114 a hF h
            replace h := hJ _ _ h
            clear hJ
            refine hK112 _ _ ?_
            refine end_region fun K117 hK118 => ?_
            refine RL.val  hF rfl rfl rfl (r_move hF rfl rfl) ?_; clear hF; clear a; intro a hF
            refine RL.val  hF rfl rfl rfl (r_move hF rfl rfl) ?_; clear hF; clear a; intro a hF
            obtain ⟨p120, w119, hp_, hw_, h⟩ := h
            refine RL.val (v := (Slc.mk (some p120) 1 1).v) (w' := w119) hF rfl rfl rfl (by rw [hp_, hw_]; exact r_buildSlice (xs := [(0, r109.v)]) hF rfl rfl (by kernel_rfl)) ?_; clear hF; clear a; intro a hF
            obtain ⟨t122, w121, hc_, h⟩ := h
            refine RL.val  hF rfl rfl rfl (r_append (xs := [s73.1.v, (Slc.mk (some p120) 1 1).v]) hF rfl rfl hc_) ?_; clear hF; clear a; intro a hF
            refine RL.val  hF rfl rfl rfl (r_assign hF rfl rfl) ?_; clear hF; clear a; intro a hF
            refine RL.nil (hK118 _ _ ?_)
            clear hK118 K117
            exact jn88 t122 _ _ (hF.sub rfl) h
          clear hJ
          refine seq_region fun K123 hK124 => ?_
          refine RL.val  hF rfl rfl rfl (r_move hF rfl rfl) ?_; clear hF; clear a; intro a hF
          refine RL.val  hF rfl rfl rfl (r_neq hF rfl rfl rfl) ?_; clear hF; clear a; intro a hF
          refine RL.nil (hK124 _ _ ?_)
          clear hK124 K123
          obtain ⟨ht, hf⟩ := h
          refine cond_ hF rfl (fun hc => ?_) (fun hc => ?_)
          · replace h := ht hc; clear ht hf
            refine seq_region fun K125 hK126 => ?_
            refine RL.val  hF rfl rfl rfl (r_move hF rfl rfl) ?_; clear hF; clear a; intro a hF
            refine RL.val  hF rfl rfl rfl (r_len_slice hF rfl rfl Try.runUnderlying22) ?_; clear hF; clear a; intro a hF
            refine RL.val  hF rfl rfl rfl (r_gtr hF rfl rfl rfl) ?_; clear hF; clear a; intro a hF
            refine RL.val  hF rfl rfl rfl (r_assign hF rfl rfl) ?_; clear hF; clear a; intro a hF
            refine RL.nil (hK126 _ _ ?_)
            clear hK126 K125
            refine wp_ret ?_
            exact ret_of hF (res1 hF rfl rfl) ⟨_, rfl, h⟩
          · replace h := hf hc; clear ht hf
            refine wp_skip ?_
            exact jn116 () _ _ (hF.sub rfl) h
        clear hJ
        refine seq_region fun K127 hK128 => ?_
        refine RL.val  hF rfl rfl rfl (r_move hF rfl rfl) ?_; clear hF; clear a; intro a hF
        refine RL.val  hF rfl rfl rfl (r_add hF rfl rfl rfl) ?_; clear hF; clear a; intro a hF
        refine RL.val  hF rfl rfl rfl (r_move hF rfl rfl) ?_; clear hF; clear a; intro a hF
        refine RL.val  hF rfl rfl rfl (r_lss hF rfl rfl rfl) ?_; clear hF; clear a; intro a hF
        refine RL.nil (hK128 _ _ ?_)
        clear hK128 K127
        obtain ⟨ht, hf⟩ := h
        refine cond_ hF rfl (fun hc => ?_) (fun hc => ?_)
        · replace h := ht hc; clear ht hf
          refine wp_skip ?_
          exact jn82 () _ _ (hF.sub rfl) h
        · replace h := hf hc; clear ht hf
          refine wp_exit ?_
          exact jn36 s73.1 _ _ (hF.sub rfl) h
      clear hJ
      refine seq_region fun K129 hK130 => ?_
      refine RL.val  hF rfl rfl rfl (r_move hF rfl rfl) ?_; clear hF; clear a; intro a hF
      refine RL.val  hF rfl rfl rfl (r_move hF rfl rfl) ?_; clear hF; clear a; intro a hF
      refine RL.call hF rfl rfl rfl (r_call (xs := [.pointer r6, a1.v, Slc.nil.v]) hF rfl rfl Try.call6) (CallsV.mono h ?_)
      clear h; rintro _ w131 ⟨r132, rfl, h⟩; clear hF; clear a; intro a hF
      refine RL.nil (hK130 _ _ ?_)
      clear hK130 K129
      obtain ⟨ht, hf⟩ := h
      refine cond_ hF rfl (fun hc => ?_) (fun hc => ?_)
      · replace h := ht hc; clear ht hf
        refine seq_region fun K133 hK134 => ?_
        refine RL.val  hF rfl rfl rfl (r_assign hF rfl rfl) ?_; clear hF; clear a; intro a hF
        refine RL.nil (hK134 _ _ ?_)
        clear hK134 K133
        refine wp_ret ?_
        exact ret_of hF (res1 hF rfl rfl) ⟨_, rfl, h⟩
      · replace h := hf hc; clear ht hf
        refine wp_skip ?_
        exact jn28 () _ _ (hF.sub rfl) h
    clear hJ
    refine seq_region fun K135 hK136 => ?_
    refine RL.val  hF rfl rfl rfl (r_assign hF rfl rfl) ?_; clear hF; clear a; intro a hF
    refine RL.nil (hK136 _ _ ?_)
    clear hK136 K135
    refine wp_block ?_
    refine loop_ (fun (s137 : Slc × Int) => [(0, .int .i64 (IntKind.i64.wrap (2 + (bitsZ .and .i64 a0 15)))), (1, a1.v), (5, .pointer r6), (6, s137.1.v), (7, .int .i64 s137.2)]) (hF.sub rfl) h ?_
    clear hF h
    intro s137 w138 N139 KL hN140 h a hF
    refine seq_k fun K141 hK142 => ?_
    obtain ⟨J, hJ, h⟩ := jn_open h
    have jn146 : ∀ (v143 : Unit) (w144 : World) a, Fr 125 a [(0, .int .i64 (IntKind.i64.wrap (2 + (bitsZ .and .i64 a0 15)))), (1, a1.v), (5, .pointer r6), (6, s137.1.v), (7, .int .i64 s137.2)] → J v143 w144 → K141 a w144 := by
      intro v143 w144 a hF h
      replace h := hJ _ _ h
      clear hJ
      refine hK142 _ _ ?_
      refine seq_k fun K147 hK148 => ?_
      obtain ⟨J, hJ, h⟩ := jn_open h
      have jn152 : ∀ (v149 : Slc) (w150 : World) a, Fr 125 a [(0, .int .i64 (IntKind.i64.wrap (2 + (bitsZ .and .i64 a0 15)))), (1, a1.v), (5, .pointer r6), (6, v149.v), (7, .int .i64 s137.2)] → J v149 w150 → K147 a w150 := by
        intro v149 w150 a hF h
        replace h := hJ _ _ h
        clear hJ
        refine hK148 _ _ ?_
        refine end_region fun K153 hK154 => ?_
        refine RL.val  hF rfl rfl rfl (r_move hF rfl rfl) ?_; clear hF; clear a; intro a hF
        refine RL.val  hF rfl rfl rfl (r_add hF rfl rfl rfl) ?_; clear hF; clear a; intro a hF
        refine RL.val  hF rfl rfl rfl (r_assign hF rfl rfl) ?_; clear hF; clear a; intro a hF
        refine RL.nil (hK154 _ _ ?_)
        clear hK154 K153
        exact hN140 (v149, IntKind.i64.wrap (s137.2 + 1)) _ _ (hF.sub rfl) h
      clear hJ
      refine wp_block ?_
      refine seq_region fun K155 hK156 => ?_
      refine RL.val  hF rfl rfl rfl (r_move hF rfl rfl) ?_; clear hF; clear a; intro a hF
      refine RL.call hF rfl rfl rfl (r_call (xs := [.pointer r6]) hF rfl rfl Try.call5) (CallsV.mono h ?_)
      clear h; rintro _ w157 ⟨r158, rfl, h⟩; clear hF; clear a; intro a hF
      obtain ⟨p159, w160, hp_, hw_, h⟩ := h
      refine RL.val (v := .pointer (some p159)) (w' := w160) hF rfl rfl rfl (by rw [hp_, hw_]; exact r_alloc rfl Try.zeroValue27 rfl) ?_; clear hF; clear a; intro a hF
      obtain ⟨w161, hs1_, hs2_, hs3_, hs4_, h⟩ := h
      refine RL.unit (w' := w161) hF rfl rfl (by rw [hs4_]; exact r_storeA hF rfl rfl rfl Try.sizeOf27 hs1_ hs2_ hs3_) ?_; clear hF; clear a; intro a hF
      refine RL.nil (hK156 _ _ ?_)
      clear hK156 K155
      refine seq_k fun K162 hK163 => ?_
      obtain ⟨J, hJ, h⟩ := jn_open h
      have jn167 : ∀ (v164 : Unit) (w165 : World) a, Fr 125 a [(0, .int .i64 (IntKind.i64.wrap (2 + (bitsZ .and .i64 a0 15)))), (1, a1.v), (5, .pointer r6), (6, s137.1.v), (7, .int .i64 s137.2), (8, .pointer (some p159))] → J v164 w165 → K162 a w165 := by
        intro v164 w165 a hF h
        replace h := hJ _ _ h
        clear hJ
        refine hK163 _ _ ?_
        refine end_region fun K168 hK169 => ?_
        refine RL.val  hF rfl rfl rfl (r_move hF rfl rfl) ?_; clear hF; clear a; intro a hF
        obtain ⟨t170, hct170, h⟩ := h
        refine RL.val  hF rfl rfl rfl (r_loadA hF rfl rfl Try.isAgg27 Try.sizeOf27 hct170) ?_; clear hF; clear a; intro a hF
        obtain ⟨t172, w171, hc_, h⟩ := h
        refine RL.val  hF rfl rfl rfl (r_buildSlice (xs := [(0, .agg t170)]) hF rfl rfl hc_) ?_; clear hF; clear a; intro a hF
        obtain ⟨t174, w173, hc_, h⟩ := h
        refine RL.val  hF rfl rfl rfl (r_append (xs := [s137.1.v, t172.v]) hF rfl rfl hc_) ?_; clear hF; clear a; intro a hF
        refine RL.val  hF rfl rfl rfl (r_assign hF rfl rfl) ?_; clear hF; clear a; intro a hF
        refine RL.nil (hK169 _ _ ?_)
        clear hK169 K168
        exact jn152 t174 _ _ (hF.sub rfl) h
      clear hJ
      refine seq_region fun K175 hK176 => ?_
      refine RL.val  hF rfl rfl rfl (r_assign hF rfl rfl) ?_; clear hF; clear a; intro a hF
      refine RL.nil (hK176 _ _ ?_)
      clear hK176 K175
      refine wp_block ?_
      refine loop_ (fun (s177 : Int) => [(0, .int .i64 (IntKind.i64.wrap (2 + (bitsZ .and .i64 a0 15)))), (1, a1.v), (5, .pointer r6), (6, s137.1.v), (7, .int .i64 s137.2), (8, .pointer (some p159)), (9, .int .i64 s177)]) (hF.sub rfl) h ?_
      clear hF h
      intro s177 w178 N179 KL hN180 h a hF
      refine seq_k fun K181 hK182 => ?_
      obtain ⟨J, hJ, h⟩ := jn_open h
      have jn186 : ∀ (v183 : Unit) (w184 : World) a, Fr 125 a [(0, .int .i64 (IntKind.i64.wrap (2 + (bitsZ .and .i64 a0 15)))), (1, a1.v), (5, .pointer r6), (6, s137.1.v), (7, .int .i64 s137.2), (8, .pointer (some p159)), (9, .int .i64 s177)] → J v183 w184 → K181 a w184 := by
        intro v183 w184 a hF h
        replace h := hJ _ _ h
        clear hJ
        refine hK182 _ _ ?_
        refine seq_k fun K187 hK188 => ?_
        obtain ⟨J, hJ, h⟩ := jn_open h
        have jn192 : ∀ (v189 : Unit) (w190 : World) a, Fr 125 a [(0, .int .i64 (IntKind.i64.wrap (2 + (bitsZ .and .i64 a0 15)))), (1, a1.v), (5, .pointer r6), (6, s137.1.v), (7, .int .i64 s137.2), (8, .pointer (some p159)), (9, .int .i64 s177)] → J v189 w190 → K187 a w190 := by
          intro v189 w190 a hF h
          replace h := hJ _ _ h
          clear hJ
          refine hK188 _ _ ?_
          refine end_region fun K193 hK194 => ?_
          refine RL.val  hF rfl rfl rfl (r_move hF rfl rfl) ?_; clear hF; clear a; intro a hF
          refine RL.val  hF rfl rfl rfl (r_add hF rfl rfl rfl) ?_; clear hF; clear a; intro a hF
          refine RL.val  hF rfl rfl rfl (r_assign hF rfl rfl) ?_; clear hF; clear a; intro a hF
          refine RL.nil (hK194 _ _ ?_)
          clear hK194 K193
          exact hN180 (IntKind.i64.wrap (s177 + 1)) _ _ (hF.sub rfl) h
        clear hJ
        refine wp_block ?_
        refine seq_draw 0 #[0, 0, 3, 7, 0, 31] 6 mo rfl (by kernel_rfl) (by kernel_rfl) fun hS K195 hK196 => ?_
        obtain ⟨w197, hw, h⟩ := h; rw [← hw]; clear hw
        refine GL.val (v := s137.1.v) (i := 0) hF hS rfl rfl (by kernel_rfl) rfl rfl rfl rfl (fun x => r_move hF rfl rfl) ?_; clear hF; clear a; intro a hF
        refine GL.val (v := .int .i64 s177) (i := 1) hF hS rfl rfl (by kernel_rfl) rfl rfl rfl rfl (fun x => r_move hF rfl rfl) ?_; clear hF; clear a; intro a hF
        obtain ⟨b199, p198, hb_, h0_, h1_, hp_, h⟩ := h
        refine GL.val (v := .pointer (some p198)) (i := 2) hF hS rfl rfl (by kernel_rfl) rfl rfl rfl rfl (fun x => by rw [hp_]; exact r_indexAddr hF rfl (lks rfl hb_) rfl Try.runUnderlying25 Try.sizeOf27 h0_ h1_) ?_; clear hF; clear a; intro a hF
        obtain ⟨t200, hct200, h⟩ := h
        refine GL.read (v := .agg t200) (i := 3) hF (fun x => CellsAt x p198 16 t200) hS rfl rfl (by kernel_rfl) rfl rfl rfl rfl hct200 (fun x hx => r_loadA hF rfl rfl Try.isAgg27 Try.sizeOf27 hx) ?_; clear hF; clear a; intro a hF
        obtain ⟨t201, hct201, h⟩ := h
        refine GL.read (v := .agg t201) (i := 4) hF (fun x => CellsAt x p159 16 t201) hS rfl rfl (by kernel_rfl) rfl rfl rfl rfl hct201 (fun x hx => r_loadA hF rfl rfl Try.isAgg27 Try.sizeOf27 hx) ?_; clear hF; clear a; intro a hF
        obtain ⟨t202, hc_, h⟩ := h
        refine GL.val (v := .bool t202) (i := 5) hF hS rfl rfl (by kernel_rfl) rfl rfl rfl rfl (fun x => r_aggeq hF rfl rfl rfl Try.eqGuardType27 (hc_ _)) ?_; clear hF; clear a; intro a hF
        refine GL.done (by kernel_rfl) (hK196 _ _ ?_)
        clear hK196 K195
        obtain ⟨ht, hf⟩ := h
        refine cond_ hF rfl (fun hc => ?_) (fun hc => ?_)
        · replace h := ht hc; clear ht hf
          refine seq_region fun K203 hK204 => ?_
          refine RL.val  hF rfl rfl rfl (r_assign hF rfl rfl) ?_; clear hF; clear a; intro a hF
          refine RL.nil (hK204 _ _ ?_)
          clear hK204 K203
          refine wp_ret ?_
          exact ret_of hF (res1 hF rfl rfl) ⟨_, rfl, h⟩
        · replace h := hf hc; clear ht hf
          refine wp_skip ?_
          exact jn192 () _ _ (hF.sub rfl) h
      clear hJ
      refine seq_region fun K205 hK206 => ?_
      refine RL.val  hF rfl rfl rfl (r_move hF rfl rfl) ?_; clear hF; clear a; intro a hF
      refine RL.val  hF rfl rfl rfl (r_move hF rfl rfl) ?_; clear hF; clear a; intro a hF
      refine RL.val  hF rfl rfl rfl (r_len_slice hF rfl rfl Try.runUnderlying25) ?_; clear hF; clear a; intro a hF
      refine RL.val  hF rfl rfl rfl (r_lss hF rfl rfl rfl) ?_; clear hF; clear a; intro a hF
      refine RL.nil (hK206 _ _ ?_)
      clear hK206 K205
      obtain ⟨ht, hf⟩ := h
      refine cond_ hF rfl (fun hc => ?_) (fun hc => ?_)
      · replace h := ht hc; clear ht hf
        refine wp_skip ?_
        exact jn186 () _ _ (hF.sub rfl) h
      · replace h := hf hc; clear ht hf
        refine wp_exit ?_
        exact jn167 () _ _ (hF.sub rfl) h
    clear hJ
    refine seq_region fun K207 hK208 => ?_
    refine RL.val  hF rfl rfl rfl (r_move hF rfl rfl) ?_; clear hF; clear a; intro a hF
    refine RL.val  hF rfl rfl rfl (r_move hF rfl rfl) ?_; clear hF; clear a; intro a hF
    refine RL.val  hF rfl rfl rfl (r_lss hF rfl rfl rfl) ?_; clear hF; clear a; intro a hF
    refine RL.nil (hK208 _ _ ?_)
    clear hK208 K207
    obtain ⟨ht, hf⟩ := h
    refine cond_ hF rfl (fun hc => ?_) (fun hc => ?_)
    · replace h := ht hc; clear ht hf
      refine wp_skip ?_
      exact jn146 () _ _ (hF.sub rfl) h
    · replace h := hf hc; clear ht hf
      refine wp_exit ?_
      exact jn22 s137.1 _ _ (hF.sub rfl) h
  clear hJ
  refine seq_region fun K209 hK210 => ?_
  refine RL.val  hF rfl rfl rfl (r_move hF rfl rfl) ?_; clear hF; clear a; intro a hF
  refine RL.val  hF rfl rfl rfl (r_ptrnil hF rfl rfl rfl Try.runUnderlying23) ?_; clear hF; clear a; intro a hF
  refine RL.nil (hK210 _ _ ?_)
  clear hK210 K209
  obtain ⟨ht, hf⟩ := h
  refine cond_ hF rfl (fun hc => ?_) (fun hc => ?_)
  · replace h := ht hc; clear ht hf
    refine seq_region fun K211 hK212 => ?_
    refine RL.val  hF rfl rfl rfl (r_assign hF rfl rfl) ?_; clear hF; clear a; intro a hF
    refine RL.nil (hK212 _ _ ?_)
    clear hK212 K211
    refine wp_ret ?_
    exact ret_of hF (res1 hF rfl rfl) ⟨_, rfl, h⟩
  · replace h := hf hc; clear ht hf
    refine wp_skip ?_
    exact jn12 () _ _ (hF.sub rfl) h

set_option maxRecDepth 20000 in
theorem br16 {a0 : Option Addr} {a1 : Slc} {w : World} {K : World → Prop} (h : sh16 a0 a1 w K) : C16 a0 a1 w K := by
  unfold sh16 at h
  refine enter (n := 39) (l := [(0, .pointer a0), (1, a1.v)]) 37 Try.func16 rfl _ rfl rfl rfl fun a hF => ?_
  refine seq_region fun K1 hK2 => ?_
  refine RL.val  hF rfl rfl rfl (r_assign hF rfl rfl) ?_; clear hF; clear a; intro a hF
  refine RL.nil (hK2 _ _ ?_)
  clear hK2 K1
  refine wp_block ?_
  refine loop_ (fun (s3 : Int) => [(0, .pointer a0), (1, a1.v), (4, .int .i64 s3)]) (hF.sub rfl) h ?_
  clear hF h
  intro s3 w4 N5 KL hN6 h a hF
  refine seq_k fun K7 hK8 => ?_
  obtain ⟨J, hJ, h⟩ := jn_open h
  have jn12 : ∀ (v9 : Unit) (w10 : World) a, Fr 39 a [(0, .pointer a0), (1, a1.v), (4, .int .i64 s3)] → J v9 w10 → K7 a w10 := by
    intro v9 w10 a hF h
    replace h := hJ _ _ h
    clear hJ
    refine hK8 _ _ ?_
    refine seq_k fun K13 hK14 => ?_
    obtain ⟨J, hJ, h⟩ := jn_open h
    have jn18 : ∀ (v15 : Unit) (w16 : World) a, Fr 39 a [(0, .pointer a0), (1, a1.v), (4, .int .i64 s3)] → J v15 w16 → K13 a w16 := by
      intro v15 w16 a hF h
      replace h := hJ _ _ h
      clear hJ
      refine hK14 _ _ ?_
      refine end_region fun K19 hK20 => ?_
      refine RL.val  hF rfl rfl rfl (r_move hF rfl rfl) ?_; clear hF; clear a; intro a hF
      refine RL.val  hF rfl rfl rfl (r_add hF rfl rfl rfl) ?_; clear hF; clear a; intro a hF
      refine RL.val  hF rfl rfl rfl (r_assign hF rfl rfl) ?_; clear hF; clear a; intro a hF
      refine RL.nil (hK20 _ _ ?_)
      clear hK20 K19
      exact hN6 (IntKind.i64.wrap (s3 + 1)) _ _ (hF.sub rfl) h
    clear hJ
    refine wp_block ?_
    refine seq_draw 0 #[0, 1, 3, 7, 15, 31, 63, 0, 0, 0, 512, 1920, 3968, 8064, 16383, 32767, 65535, 65535, 131071, 524287] 20 mo rfl (by kernel_rfl) (by kernel_rfl) fun hS K21 hK22 => ?_
    obtain ⟨w23, hw, h⟩ := h; rw [← hw]; clear hw
    refine GL.val (v := .pointer a0) (i := 0) hF hS rfl rfl (by kernel_rfl) rfl rfl rfl rfl (fun x => r_move hF rfl rfl) ?_; clear hF; clear a; intro a hF
    obtain ⟨p24, hpp24, h⟩ := h
    refine GL.val (v := .pointer (some p24)) (i := 1) hF hS rfl rfl (by kernel_rfl) rfl rfl rfl rfl (fun x => r_nilCheck hF rfl (lkp rfl hpp24)) ?_; clear hF; clear a; intro a hF
    refine GL.val (v := .pointer (some p24)) (i := 2) hF hS rfl rfl (by kernel_rfl) rfl rfl rfl rfl (fun x => r_fieldAddr0 hF rfl rfl Try.runUnderlying50 rfl Try.sizeOf23 rfl) ?_; clear hF; clear a; intro a hF
    obtain ⟨t25, hct25, h⟩ := h
    refine GL.read (v := .pointer t25) (i := 3) hF (fun x => World.cell? x p24 = some (.pointer t25)) hS rfl rfl (by kernel_rfl) rfl rfl rfl rfl hct25 (fun x hx => r_load hF rfl rfl Try.isAgg23 hx) ?_; clear hF; clear a; intro a hF
    obtain ⟨p26, hpp26, h⟩ := h
    refine GL.val (v := .pointer (some p26)) (i := 4) hF hS rfl rfl (by kernel_rfl) rfl rfl rfl rfl (fun x => r_nilCheck hF rfl (lkp rfl hpp26)) ?_; clear hF; clear a; intro a hF
    refine GL.val (v := .pointer (some (p26.add 2))) (i := 5) hF hS rfl rfl (by kernel_rfl) rfl rfl rfl rfl (fun x => r_fieldAddr hF rfl rfl Try.runUnderlying40 rfl Try.sizeOf37 rfl) ?_; clear hF; clear a; intro a hF
    obtain ⟨t27, hct27, h⟩ := h
    refine GL.read (v := .map t27) (i := 6) hF (fun x => World.cell? x (p26.add 2) = some (.map t27)) hS rfl rfl (by kernel_rfl) rfl rfl rfl rfl hct27 (fun x hx => r_load hF rfl rfl Try.isAgg37 hx) ?_; clear hF; clear a; intro a hF
    refine GL.val (v := a1.v) (i := 7) hF hS rfl rfl (by kernel_rfl) rfl rfl rfl rfl (fun x => r_move hF rfl rfl) ?_; clear hF; clear a; intro a hF
    refine GL.val (v := .int .i64 s3) (i := 8) hF hS rfl rfl (by kernel_rfl) rfl rfl rfl rfl (fun x => r_move hF rfl rfl) ?_; clear hF; clear a; intro a hF
    refine GL.val (v := .int .i64 s3) (i := 9) hF hS rfl rfl (by kernel_rfl) rfl rfl rfl rfl (fun x => r_move hF rfl rfl) ?_; clear hF; clear a; intro a hF
    refine GL.val (v := .int .i64 (IntKind.i64.wrap (s3 + 16))) (i := 10) hF hS rfl rfl (by kernel_rfl) rfl rfl rfl rfl (fun x => r_add hF rfl rfl rfl) ?_; clear hF; clear a; intro a hF
    obtain ⟨hs28, hs29, hs30, h⟩ := h
    refine GL.val (v := (a1.sub 1 s3.toNat ((IntKind.i64.wrap (s3 + 16)).toNat) a1.cap).v) (i := 11) hF hS rfl rfl (by kernel_rfl) rfl rfl rfl rfl (fun x => r_slice (lo' := some (.int .i64 s3)) (hi' := some (.int .i64 (IntKind.i64.wrap (s3 + 16)))) (mx' := none) hF rfl rfl rfl rfl rfl (slc_at Try.runUnderlying22 Try.sizeOf5 (bounds11 hs28 hs29 hs30))) ?_; clear hF; clear a; intro a hF
    obtain ⟨h0_, h⟩ := h
    refine GL.val (v := .pointer ((a1.sub 1 s3.toNat ((IntKind.i64.wrap (s3 + 16)).toNat) a1.cap).a)) (i := 12) hF hS rfl rfl (by kernel_rfl) rfl rfl rfl rfl (fun x => r_s2ap hF rfl rfl Try.runUnderlying27 h0_) ?_; clear hF; clear a; intro a hF
    obtain ⟨p32, hpp32, h⟩ := h
    obtain ⟨t31, hct31, h⟩ := h
    refine GL.read (v := .agg t31) (i := 13) hF (fun x => CellsAt x p32 16 t31) hS rfl rfl (by kernel_rfl) rfl rfl rfl rfl hct31 (fun x hx => r_loadA hF rfl (lkp rfl hpp32) Try.isAgg27 Try.sizeOf27 hx) ?_; clear hF; clear a; intro a hF
    obtain ⟨t33, t34, hct33, h⟩ := h
    refine GL.read (v := .tuple #[.int .i64 t33, .bool t34]) (i := 14) hF (fun x => rn Try.prog (Instr.lookup 37 (.map t27) (.agg t31) true) (.tuple #[.int .i64 t33, .bool t34]) x x) hS rfl rfl (by kernel_rfl) rfl rfl rfl rfl hct33 (fun x hx => r_lookup hF rfl rfl rfl hx) ?_; clear hF; clear a; intro a hF
    refine GL.val (v := .tuple #[.int .i64 t33, .bool t34]) (i := 15) hF hS rfl rfl (by kernel_rfl) rfl rfl rfl rfl (fun x => r_move hF rfl rfl) ?_; clear hF; clear a; intro a hF
    refine GL.val (v := .int .i64 t33) (i := 16) hF hS rfl rfl (by kernel_rfl) rfl rfl rfl rfl (fun x => r_extract hF rfl rfl rfl) ?_; clear hF; clear a; intro a hF
    refine GL.val (v := .bool t34) (i := 17) hF hS rfl rfl (by kernel_rfl) rfl rfl rfl rfl (fun x => r_extract hF rfl rfl rfl) ?_; clear hF; clear a; intro a hF
    refine GL.val (v := .int .i64 t33) (i := 18) hF hS rfl rfl (by kernel_rfl) rfl rfl rfl rfl (fun x => r_assign hF rfl rfl) ?_; clear hF; clear a; intro a hF
    refine GL.val (v := .bool t34) (i := 19) hF hS rfl rfl (by kernel_rfl) rfl rfl rfl rfl (fun x => r_assign hF rfl rfl) ?_; clear hF; clear a; intro a hF
    refine GL.done (by kernel_rfl) (hK22 _ _ ?_)
    clear hK22 K21
    refine seq_region fun K35 hK36 => ?_
    refine RL.val  hF rfl rfl rfl (r_move hF rfl rfl) ?_; clear hF; clear a; intro a hF
    refine RL.nil (hK36 _ _ ?_)
    clear hK36 K35
    obtain ⟨ht, hf⟩ := h
    refine cond_ hF rfl (fun hc => ?_) (fun hc => ?_)
    · replace h := ht hc; clear ht hf
      refine end_region fun K37 hK38 => ?_
      refine RL.val  hF rfl rfl rfl (r_move hF rfl rfl) ?_; clear hF; clear a; intro a hF
      obtain ⟨p39, hpp39, h⟩ := h
      refine RL.val  hF rfl rfl rfl (r_nilCheck hF rfl (lkp rfl hpp39)) ?_; clear hF; clear a; intro a hF
      refine RL.val  hF rfl rfl rfl (r_fieldAddr hF rfl rfl Try.runUnderlying50 rfl Try.sizeOf48 rfl) ?_; clear hF; clear a; intro a hF
      obtain ⟨t40, hct40, h⟩ := h
      refine RL.val  hF rfl rfl rfl (r_load hF rfl rfl Try.isAgg48 hct40) ?_; clear hF; clear a; intro a hF
      refine RL.val  hF rfl rfl rfl (r_move hF rfl rfl) ?_; clear hF; clear a; intro a hF
      obtain ⟨b42, p41, hb_, h0_, h1_, hp_, h⟩ := h
      refine RL.val (v := .pointer (some p41)) (w' := w23) hF rfl rfl rfl (by rw [hp_]; exact r_indexAddr hF rfl (lks rfl hb_) rfl Try.runUnderlying48 Try.sizeOf4 h0_ h1_) ?_; clear hF; clear a; intro a hF
      obtain ⟨u_, w43, hs1_, hs2_, hs3_, h⟩ := h
      refine RL.unit (w' := w43) hF rfl rfl (by rw [hs3_]; exact r_store hF rfl rfl rfl rfl Try.sizeOf4 hs1_ hs2_) ?_; clear hF; clear a; intro a hF
      refine RL.nil (hK38 _ _ ?_)
      clear hK38 K37
      exact jn18 () _ _ (hF.sub rfl) h
    · replace h := hf hc; clear ht hf
      refine wp_skip ?_
      exact jn18 () _ _ (hF.sub rfl) h
  clear hJ
  refine seq_region fun K44 hK45 => ?_
  refine RL.val  hF rfl rfl rfl (r_move hF rfl rfl) ?_; clear hF; clear a; intro a hF
  refine RL.val  hF rfl rfl rfl (r_add hF rfl rfl rfl) ?_; clear hF; clear a; intro a hF
  refine RL.val  hF rfl rfl rfl (r_move hF rfl rfl) ?_; clear hF; clear a; intro a hF
  refine RL.val  hF rfl rfl rfl (r_len_slice hF rfl rfl Try.runUnderlying22) ?_; clear hF; clear a; intro a hF
  refine RL.val  hF rfl rfl rfl (r_leq hF rfl rfl rfl) ?_; clear hF; clear a; intro a hF
  refine RL.nil (hK45 _ _ ?_)
  clear hK45 K44
  obtain ⟨ht, hf⟩ := h
  refine cond_ hF rfl (fun hc => ?_) (fun hc => ?_)
  · replace h := ht hc; clear ht hf
    refine wp_skip ?_
    exact jn12 () _ _ (hF.sub rfl) h
  · replace h := hf hc; clear ht hf
    refine wp_exit ?_
    exact end_of hF (res0 rfl) ⟨rfl, h⟩

set_option maxRecDepth 20000 in
theorem br17 {a0 : Option Addr} {a1 : Array Value} {w : World} {K : Bool → World → Prop} (h : sh17 a0 a1 w K) : C17 a0 a1 w K := by
  unfold sh17 at h
  refine enter (n := 39) (l := [(0, .pointer a0), (1, .agg a1)]) 37 Try.func17 rfl _ rfl rfl rfl fun a hF => ?_
  refine seq_region fun K1 hK2 => ?_
  obtain ⟨p3, w4, hp_, hw_, h⟩ := h
  refine RL.val (v := .pointer (some p3)) (w' := w4) hF rfl rfl rfl (by rw [hp_, hw_]; exact r_box hF rfl rfl rfl) ?_; clear hF; clear a; intro a hF
  refine RL.val  hF rfl rfl rfl (r_assign hF rfl rfl) ?_; clear hF; clear a; intro a hF
  refine RL.nil (hK2 _ _ ?_)
  clear hK2 K1
  refine seq_k fun K5 hK6 => ?_
  obtain ⟨J, hJ, h⟩ := jn_open h
  have jn10 : ∀ (v7 : Unit) (w8 : World) a, Fr 39 a [] → J v7 w8 → K5 a w8 := by
    intro v7 w8 a hF h
    replace h := hJ _ _ h
    clear hJ
    refine hK6 _ _ ?_
    refine seq_region fun K11 hK12 => ?_
    refine RL.val  hF rfl rfl rfl (r_assign hF rfl rfl) ?_; clear hF; clear a; intro a hF
    refine RL.nil (hK12 _ _ ?_)
    clear hK12 K11
    refine wp_ret ?_
    exact ret_of hF (res1 hF rfl rfl) ⟨_, rfl, h⟩
  clear hJ
  refine seq_region fun K13 hK14 => ?_
  refine RL.val  hF rfl rfl rfl (r_fieldAddr0 hF rfl rfl Try.runUnderlying43 rfl Try.sizeOf3 rfl) ?_; clear hF; clear a; intro a hF
  obtain ⟨t15, hct15, h⟩ := h
  refine RL.val  hF rfl rfl rfl (r_load hF rfl rfl Try.isAgg3 hct15) ?_; clear hF; clear a; intro a hF
  refine RL.nil (hK14 _ _ ?_)
  clear hK14 K13
  refine wp_block ?_
  refine seq_k fun K16 hK17 => ?_
  obtain ⟨J, hJ, h⟩ := jn_open h
  have jn21 : ∀ (v18 : Bool) (w19 : World) a, Fr 39 a [(0, .pointer a0), (3, .pointer (some p3)), (6, .int .i64 t15), (7, .bool v18)] → J v18 w19 → K16 a w19 := by
    intro v18 w19 a hF h
    replace h := hJ _ _ h
    clear hJ
    refine hK17 _ _ ?_
    obtain ⟨ht, hf⟩ := h
    refine cond_ hF rfl (fun hc => ?_) (fun hc => ?_)
    · replace h := ht hc; clear ht hf
      refine seq_draw 0 #[0, 1, 3, 7, 0, 16, 63, 127, 255] 9 mo rfl (by kernel_rfl) (by kernel_rfl) fun hS K22 hK23 => ?_
      obtain ⟨w24, hw, h⟩ := h; rw [← hw]; clear hw
      refine GL.val (v := .pointer a0) (i := 0) hF hS rfl rfl (by kernel_rfl) rfl rfl rfl rfl (fun x => r_move hF rfl rfl) ?_; clear hF; clear a; intro a hF
      obtain ⟨p25, hpp25, h⟩ := h
      refine GL.val (v := .pointer (some p25)) (i := 1) hF hS rfl rfl (by kernel_rfl) rfl rfl rfl rfl (fun x => r_nilCheck hF rfl (lkp rfl hpp25)) ?_; clear hF; clear a; intro a hF
      refine GL.val (v := .pointer (some (p25.add 1))) (i := 2) hF hS rfl rfl (by kernel_rfl) rfl rfl rfl rfl (fun x => r_fieldAddr hF rfl rfl Try.runUnderlying50 rfl Try.sizeOf48 rfl) ?_; clear hF; clear a; intro a hF
      obtain ⟨t26, hct26, h⟩ := h
      refine GL.read (v := t26.v) (i := 3) hF (fun x => World.cell? x (p25.add 1) = some (t26.v)) hS rfl rfl (by kernel_rfl) rfl rfl rfl rfl hct26 (fun x hx => r_load hF rfl rfl Try.isAgg48 hx) ?_; clear hF; clear a; intro a hF
      refine GL.val (v := .pointer (some (p3.add 1))) (i := 4) hF hS rfl rfl (by kernel_rfl) rfl rfl rfl rfl (fun x => r_fieldAddr hF rfl rfl Try.runUnderlying43 rfl Try.sizeOf3 rfl) ?_; clear hF; clear a; intro a hF
      obtain ⟨t27, hct27, h⟩ := h
      refine GL.read (v := .int .i64 t27) (i := 5) hF (fun x => World.cell? x (p3.add 1) = some (.int .i64 t27)) hS rfl rfl (by kernel_rfl) rfl rfl rfl rfl hct27 (fun x hx => r_load hF rfl rfl Try.isAgg3 hx) ?_; clear hF; clear a; intro a hF
      obtain ⟨b29, p28, hb_, h0_, h1_, hp_, h⟩ := h
      refine GL.val (v := .pointer (some p28)) (i := 6) hF hS rfl rfl (by kernel_rfl) rfl rfl rfl rfl (fun x => by rw [hp_]; exact r_indexAddr hF rfl (lks rfl hb_) rfl Try.runUnderlying48 Try.sizeOf4 h0_ h1_) ?_; clear hF; clear a; intro a hF
      obtain ⟨t30, hct30, h⟩ := h
      refine GL.read (v := .bool t30) (i := 7) hF (fun x => World.cell? x p28 = some (.bool t30)) hS rfl rfl (by kernel_rfl) rfl rfl rfl rfl hct30 (fun x hx => r_load hF rfl rfl Try.isAgg4 hx) ?_; clear hF; clear a; intro a hF
      refine GL.val (v := .bool t30) (i := 8) hF hS rfl rfl (by kernel_rfl) rfl rfl rfl rfl (fun x => r_assign hF rfl rfl) ?_; clear hF; clear a; intro a hF
      refine GL.done (by kernel_rfl) (hK23 _ _ ?_)
      clear hK23 K22
      refine wp_ret ?_
      exact ret_of hF (res1 hF rfl rfl) ⟨_, rfl, h⟩
    · replace h := hf hc; clear ht hf
      refine seq_region fun K31 hK32 => ?_
      refine RL.val  hF rfl rfl rfl (r_eql hF rfl rfl rfl) ?_; clear hF; clear a; intro a hF
      refine RL.val  hF rfl rfl rfl (r_assign hF rfl rfl) ?_; clear hF; clear a; intro a hF
      refine RL.nil (hK32 _ _ ?_)
      clear hK32 K31
      obtain ⟨ht, hf⟩ := h
      refine cond_ hF rfl (fun hc => ?_) (fun hc => ?_)
      · replace h := ht hc; clear ht hf
        refine seq_draw 0 #[0, 1, 3, 7, 0, 16, 63, 127, 255, 511, 1023, 2047, 4095, 511, 8703, 32767, 65535, 131071, 262143] 19 mo rfl (by kernel_rfl) (by kernel_rfl) fun hS K33 hK34 => ?_
        obtain ⟨w35, hw, h⟩ := h; rw [← hw]; clear hw
        obtain ⟨J38, hJ, h⟩ := jn_open h
        have jn39 : ∀ (v36 : Bool) (w37 : World) a, Fr 39 a [(4, .bool v36)] → J38 v36 w37 → K33 a w37 := by
          clear hF
          intro v36 w37 a hF h; replace h := hJ _ _ h; refine hK34 _ _ ?_; clear hJ hK34 K33
          refine wp_ret ?_
          exact ret_of hF (res1 hF rfl rfl) ⟨_, rfl, h⟩
        clear hJ hK34
        refine GL.val (v := .pointer a0) (i := 0) hF hS rfl rfl (by kernel_rfl) rfl rfl rfl rfl (fun x => r_move hF rfl rfl) ?_; clear hF; clear a; intro a hF
        obtain ⟨p40, hpp40, h⟩ := h
        refine GL.val (v := .pointer (some p40)) (i := 1) hF hS rfl rfl (by kernel_rfl) rfl rfl rfl rfl (fun x => r_nilCheck hF rfl (lkp rfl hpp40)) ?_; clear hF; clear a; intro a hF
        refine GL.val (v := .pointer (some (p40.add 1))) (i := 2) hF hS rfl rfl (by kernel_rfl) rfl rfl rfl rfl (fun x => r_fieldAddr hF rfl rfl Try.runUnderlying50 rfl Try.sizeOf48 rfl) ?_; clear hF; clear a; intro a hF
        obtain ⟨t41, hct41, h⟩ := h
        refine GL.read (v := t41.v) (i := 3) hF (fun x => World.cell? x (p40.add 1) = some (t41.v)) hS rfl rfl (by kernel_rfl) rfl rfl rfl rfl hct41 (fun x hx => r_load hF rfl rfl Try.isAgg48 hx) ?_; clear hF; clear a; intro a hF
        refine GL.val (v := .pointer (some (p3.add 1))) (i := 4) hF hS rfl rfl (by kernel_rfl) rfl rfl rfl rfl (fun x => r_fieldAddr hF rfl rfl Try.runUnderlying43 rfl Try.sizeOf3 rfl) ?_; clear hF; clear a; intro a hF
        obtain ⟨t42, hct42, h⟩ := h
        refine GL.read (v := .int .i64 t42) (i := 5) hF (fun x => World.cell? x (p3.add 1) = some (.int .i64 t42)) hS rfl rfl (by kernel_rfl) rfl rfl rfl rfl hct42 (fun x hx => r_load hF rfl rfl Try.isAgg3 hx) ?_; clear hF; clear a; intro a hF
        obtain ⟨b44, p43, hb_, h0_, h1_, hp_, h⟩ := h
        refine GL.val (v := .pointer (some p43)) (i := 6) hF hS rfl rfl (by kernel_rfl) rfl rfl rfl rfl (fun x => by rw [hp_]; exact r_indexAddr hF rfl (lks rfl hb_) rfl Try.runUnderlying48 Try.sizeOf4 h0_ h1_) ?_; clear hF; clear a; intro a hF
        obtain ⟨t45, hct45, h⟩ := h
        refine GL.read (v := .bool t45) (i := 7) hF (fun x => World.cell? x p43 = some (.bool t45)) hS rfl rfl (by kernel_rfl) rfl rfl rfl rfl hct45 (fun x hx => r_load hF rfl rfl Try.isAgg4 hx) ?_; clear hF; clear a; intro a hF
        refine GL.val (v := .bool t45) (i := 8) hF hS rfl rfl (by kernel_rfl) rfl rfl rfl rfl (fun x => r_move hF rfl rfl) ?_; clear hF; clear a; intro a hF
        obtain ⟨ht, hf⟩ := h
        rcases bool_cases t45 with hg46 | hg46
        · replace h := ht hg46; clear ht hf
          refine GL.skip (i := 9) hF hS rfl rfl (by kernel_rfl) rfl rfl rfl (lkb rfl hg46) (.inl rfl) rfl rfl ?_; clear hF; clear a; intro a hF
          refine GL.skip (i := 10) hF hS rfl rfl (by kernel_rfl) rfl rfl rfl (lkb rfl hg46) (.inl rfl) rfl rfl ?_; clear hF; clear a; intro a hF
          refine GL.skip (i := 11) hF hS rfl rfl (by kernel_rfl) rfl rfl rfl (lkb rfl hg46) (.inl rfl) rfl rfl ?_; clear hF; clear a; intro a hF
          refine GL.skip (i := 12) hF hS rfl rfl (by kernel_rfl) rfl rfl rfl (lkb rfl hg46) (.inl rfl) rfl rfl ?_; clear hF; clear a; intro a hF
          refine GL.skip (i := 13) hF hS rfl rfl (by kernel_rfl) rfl rfl rfl (lkb rfl hg46) (.inl rfl) rfl rfl ?_; clear hF; clear a; intro a hF
          refine GL.skip (i := 14) hF hS rfl rfl (by kernel_rfl) rfl rfl rfl (lkb rfl hg46) (.inl rfl) rfl rfl ?_; clear hF; clear a; intro a hF
          refine GL.skip (i := 15) hF hS rfl rfl (by kernel_rfl) rfl rfl rfl (lkb rfl hg46) (.inl rfl) rfl rfl ?_; clear hF; clear a; intro a hF
          refine GL.skip (i := 16) hF hS rfl rfl (by kernel_rfl) rfl rfl rfl (lkb rfl hg46) (.inl rfl) rfl rfl ?_; clear hF; clear a; intro a hF
          refine GL.val (v := .bool true) (i := 17) hF hS rfl rfl (by kernel_rfl) rfl rfl rfl rfl (fun x => r_pick hF rfl rfl rfl rfl (fun _ => rfl) (fun e => absurd (hg46.symm.trans e) (by decide))) ?_; clear hF; clear a; intro a hF
          refine GL.val (v := .bool true) (i := 18) hF hS rfl rfl (by kernel_rfl) rfl rfl rfl rfl (fun x => r_assign hF rfl rfl) ?_; clear hF; clear a; intro a hF
          refine GL.done (by kernel_rfl) ?_
          exact jn39 true _ _ (hF.sub rfl) h
        · replace h := hf hg46; clear ht hf
          refine GL.gval (v := .pointer a0) (i := 9) hF hS rfl rfl (by kernel_rfl) rfl rfl rfl (lkb rfl hg46) rfl rfl (fun x => r_move hF rfl rfl) ?_; clear hF; clear a; intro a hF
          obtain ⟨p47, hpp47, h⟩ := h
          refine GL.gval (v := .pointer (some p47)) (i := 10) hF hS rfl rfl (by kernel_rfl) rfl rfl rfl (lkb rfl hg46) rfl rfl (fun x => r_nilCheck hF rfl (lkp rfl hpp47)) ?_; clear hF; clear a; intro a hF
          refine GL.gval (v := .pointer (some (p47.add 1))) (i := 11) hF hS rfl rfl (by kernel_rfl) rfl rfl rfl (lkb rfl hg46) rfl rfl (fun x => r_fieldAddr hF rfl rfl Try.runUnderlying50 rfl Try.sizeOf48 rfl) ?_; clear hF; clear a; intro a hF
          obtain ⟨t48, hct48, h⟩ := h
          refine GL.gread (v := t48.v) (i := 12) hF (fun x => World.cell? x (p47.add 1) = some (t48.v)) hS rfl rfl (by kernel_rfl) rfl rfl rfl (lkb rfl hg46) rfl rfl hct48 (fun x hx => r_load hF rfl rfl Try.isAgg48 hx) ?_; clear hF; clear a; intro a hF
          refine GL.gval (v := .pointer (some (p3.add 2))) (i := 13) hF hS rfl rfl (by kernel_rfl) rfl rfl rfl (lkb rfl hg46) rfl rfl (fun x => r_fieldAddr hF rfl rfl Try.runUnderlying43 rfl Try.sizeOf3 rfl) ?_; clear hF; clear a; intro a hF
          obtain ⟨t49, hct49, h⟩ := h
          refine GL.gread (v := .int .i64 t49) (i := 14) hF (fun x => World.cell? x (p3.add 2) = some (.int .i64 t49)) hS rfl rfl (by kernel_rfl) rfl rfl rfl (lkb rfl hg46) rfl rfl hct49 (fun x hx => r_load hF rfl rfl Try.isAgg3 hx) ?_; clear hF; clear a; intro a hF
          obtain ⟨b51, p50, hb_, h0_, h1_, hp_, h⟩ := h
          refine GL.gval (v := .pointer (some p50)) (i := 15) hF hS rfl rfl (by kernel_rfl) rfl rfl rfl (lkb rfl hg46) rfl rfl (fun x => by rw [hp_]; exact r_indexAddr hF rfl (lks rfl hb_) rfl Try.runUnderlying48 Try.sizeOf4 h0_ h1_) ?_; clear hF; clear a; intro a hF
          obtain ⟨t52, hct52, h⟩ := h
          refine GL.gread (v := .bool t52) (i := 16) hF (fun x => World.cell? x p50 = some (.bool t52)) hS rfl rfl (by kernel_rfl) rfl rfl rfl (lkb rfl hg46) rfl rfl hct52 (fun x hx => r_load hF rfl rfl Try.isAgg4 hx) ?_; clear hF; clear a; intro a hF
          refine GL.val (v := .bool t52) (i := 17) hF hS rfl rfl (by kernel_rfl) rfl rfl rfl rfl (fun x => r_pick hF rfl rfl rfl rfl (fun e => absurd (hg46.symm.trans e) (by decide)) (fun _ => rfl)) ?_; clear hF; clear a; intro a hF
          refine GL.val (v := .bool t52) (i := 18) hF hS rfl rfl (by kernel_rfl) rfl rfl rfl rfl (fun x => r_assign hF rfl rfl) ?_; clear hF; clear a; intro a hF
          refine GL.done (by kernel_rfl) ?_
          exact jn39 t52 _ _ (hF.sub rfl) h
      · replace h := hf hc; clear ht hf
        refine wp_skip ?_
        exact jn10 () _ _ (hF.sub rfl) h
  clear hJ
  refine seq_region fun K53 hK54 => ?_
  refine RL.val  hF rfl rfl rfl (r_eql hF rfl rfl rfl) ?_; clear hF; clear a; intro a hF
  refine RL.val  hF rfl rfl rfl (r_assign hF rfl rfl) ?_; clear hF; clear a; intro a hF
  refine RL.nil (hK54 _ _ ?_)
  clear hK54 K53
  obtain ⟨ht, hf⟩ := h
  refine cond_ hF rfl (fun hc => ?_) (fun hc => ?_)
  · replace h := ht hc; clear ht hf
    refine wp_skip ?_
    exact jn21 (t15 == 2) _ _ (hF.sub rfl) h
  · replace h := hf hc; clear ht hf
    refine seq_region fun K55 hK56 => ?_
    refine RL.val  hF rfl rfl rfl (r_eql hF rfl rfl rfl) ?_; clear hF; clear a; intro a hF
    refine RL.val  hF rfl rfl rfl (r_assign hF rfl rfl) ?_; clear hF; clear a; intro a hF
    refine RL.nil (hK56 _ _ ?_)
    clear hK56 K55
    obtain ⟨ht, hf⟩ := h
    refine cond_ hF rfl (fun hc => ?_) (fun hc => ?_)
    · replace h := ht hc; clear ht hf
      refine wp_skip ?_
      exact jn21 (t15 == 3) _ _ (hF.sub rfl) h
    · replace h := hf hc; clear ht hf
      refine end_region fun K57 hK58 => ?_
      refine RL.val  hF rfl rfl rfl (r_eql hF rfl rfl rfl) ?_; clear hF; clear a; intro a hF
      refine RL.val  hF rfl rfl rfl (r_assign hF rfl rfl) ?_; clear hF; clear a; intro a hF
      refine RL.nil (hK58 _ _ ?_)
      clear hK58 K57
      exact jn21 (t15 == 5) _ _ (hF.sub rfl) h

set_option maxRecDepth 20000 in
theorem br15 {c0 : Option Addr} {c1 : Option Addr} {c2 : Option Addr} {w : World} {K : Bool → World → Prop} (h : sh15 c0 c1 c2 w K) : C15 c0 c1 c2 w K := by
  unfold sh15 at h
  refine enter (n := 100) (l := [(0, .pointer c0), (1, .pointer c1), (2, .pointer c2)]) 97 Try.func15 rfl _ rfl rfl rfl fun a hF => ?_
  refine seq_region fun K1 hK2 => ?_
  refine RL.val  hF rfl rfl rfl (r_assign hF rfl rfl) ?_; clear hF; clear a; intro a hF
  refine RL.nil (hK2 _ _ ?_)
  clear hK2 K1
  refine seq_k fun K3 hK4 => ?_
  obtain ⟨J, hJ, h⟩ := jn_open h
  have jn8 : ∀ (v5 : Unit) (w6 : World) a, Fr 100 a [(0, .pointer c0), (1, .pointer c1), (2, .pointer c2)] → J v5 w6 → K3 a w6 := by
    intro v5 w6 a hF h
    replace h := hJ _ _ h
    clear hJ
    refine hK4 _ _ ?_
    refine seq_region fun K9 hK10 => ?_
    obtain ⟨p12, hpp12, h⟩ := h
    obtain ⟨t11, hct11, h⟩ := h
    refine RL.val  hF rfl rfl rfl (r_load hF rfl (lkp rfl hpp12) Try.isAgg45 hct11) ?_; clear hF; clear a; intro a hF
    obtain ⟨p13, hpp13, h⟩ := h
    refine RL.val  hF rfl rfl rfl (r_nilCheck hF rfl (lkp rfl hpp13)) ?_; clear hF; clear a; intro a hF
    refine RL.val  hF rfl rfl rfl (r_fieldAddr hF rfl rfl Try.runUnderlying50 rfl Try.sizeOf30 rfl) ?_; clear hF; clear a; intro a hF
    obtain ⟨u_, w14, hs1_, hs2_, hs3_, h⟩ := h
    refine RL.unit (w' := w14) hF rfl rfl (by rw [hs3_]; exact r_store hF rfl rfl rfl rfl Try.sizeOf30 hs1_ hs2_) ?_; clear hF; clear a; intro a hF
    refine RL.nil (hK10 _ _ ?_)
    clear hK10 K9
    refine seq_region fun K15 hK16 => ?_
    refine RL.val  hF rfl rfl rfl (r_assign hF rfl rfl) ?_; clear hF; clear a; intro a hF
    refine RL.nil (hK16 _ _ ?_)
    clear hK16 K15
    refine seq_k fun K17 hK18 => ?_
    obtain ⟨J, hJ, h⟩ := jn_open h
    have jn22 : ∀ (v19 : Bool) (w20 : World) a, Fr 100 a [(6, .bool v19)] → J v19 w20 → K17 a w20 := by
      intro v19 w20 a hF h
      replace h := hJ _ _ h
      clear hJ
      refine hK18 _ _ ?_
      refine seq_region fun K23 hK24 => ?_
      refine RL.val  hF rfl rfl rfl (r_move hF rfl rfl) ?_; clear hF; clear a; intro a hF
      refine RL.val  hF rfl rfl rfl (r_assign hF rfl rfl) ?_; clear hF; clear a; intro a hF
      refine RL.nil (hK24 _ _ ?_)
      clear hK24 K23
      refine wp_ret ?_
      exact ret_of hF (res1 hF rfl rfl) ⟨_, rfl, h⟩
    clear hJ
    refine seq_region fun K25 hK26 => ?_
    obtain ⟨p28, hpp28, h⟩ := h
    obtain ⟨t27, hct27, h⟩ := h
    refine RL.val  hF rfl rfl rfl (r_load hF rfl (lkp rfl hpp28) Try.isAgg23 hct27) ?_; clear hF; clear a; intro a hF
    obtain ⟨p29, hpp29, h⟩ := h
    refine RL.val  hF rfl rfl rfl (r_nilCheck hF rfl (lkp rfl hpp29)) ?_; clear hF; clear a; intro a hF
    refine RL.val  hF rfl rfl rfl (r_fieldAddr0 hF rfl rfl Try.runUnderlying40 rfl Try.sizeOf38 rfl) ?_; clear hF; clear a; intro a hF
    obtain ⟨t30, hct30, h⟩ := h
    refine RL.val  hF rfl rfl rfl (r_load hF rfl rfl Try.isAgg38 hct30) ?_; clear hF; clear a; intro a hF
    refine RL.val  hF rfl rfl rfl (r_len_slice hF rfl rfl Try.runUnderlying38) ?_; clear hF; clear a; intro a hF
    refine RL.val  hF rfl rfl rfl (r_move hF rfl rfl) ?_; clear hF; clear a; intro a hF
    refine RL.nil (hK26 _ _ ?_)
    clear hK26 K25
    refine wp_block ?_
    refine loop_ (fun (s31 : Bool × Int) => [(0, .pointer c0), (2, .pointer c2), (6, .bool s31.1), (28, t30.v), (29, .int .i64 (t30.len : Int)), (30, .int .i64 s31.2)]) (hF.sub rfl) h ?_
    clear hF h
    intro s31 w32 N33 KL hN34 h a hF
    refine seq_region fun K35 hK36 => ?_
    refine RL.val  hF rfl rfl rfl (r_lss hF rfl rfl rfl) ?_; clear hF; clear a; intro a hF
    refine RL.nil (hK36 _ _ ?_)
    clear hK36 K35
    refine seq_k fun K37 hK38 => ?_
    obtain ⟨J, hJ, h⟩ := jn_open h
    have jn42 : ∀ (v39 : Unit) (w40 : World) a, Fr 100 a [(0, .pointer c0), (2, .pointer c2), (6, .bool s31.1), (28, t30.v), (29, .int .i64 (t30.len : Int)), (30, .int .i64 s31.2)] → J v39 w40 → K37 a w40 := by
      intro v39 w40 a hF h
      replace h := hJ _ _ h
      clear hJ
      refine hK38 _ _ ?_
      refine seq_k fun K43 hK44 => ?_
      obtain ⟨J, hJ, h⟩ := jn_open h
      have jn48 : ∀ (v45 : Bool) (w46 : World) a, Fr 100 a [(0, .pointer c0), (2, .pointer c2), (6, .bool v45), (28, t30.v), (29, .int .i64 (t30.len : Int)), (30, .int .i64 s31.2)] → J v45 w46 → K43 a w46 := by
        intro v45 w46 a hF h
        replace h := hJ _ _ h
        clear hJ
        refine hK44 _ _ ?_
        refine end_region fun K49 hK50 => ?_
        refine RL.val  hF rfl rfl rfl (r_add hF rfl rfl rfl) ?_; clear hF; clear a; intro a hF
        refine RL.val  hF rfl rfl rfl (r_move hF rfl rfl) ?_; clear hF; clear a; intro a hF
        refine RL.nil (hK50 _ _ ?_)
        clear hK50 K49
        exact hN34 (v45, IntKind.i64.wrap (s31.2 + 1)) _ _ (hF.sub rfl) h
      clear hJ
      refine wp_block ?_
      refine seq_region fun K51 hK52 => ?_
      refine RL.val  hF rfl rfl rfl (r_move hF rfl rfl) ?_; clear hF; clear a; intro a hF
      obtain ⟨b54, p53, hb_, h0_, h1_, hp_, h⟩ := h
      refine RL.val (v := .pointer (some p53)) (w' := w40) hF rfl rfl rfl (by rw [hp_]; exact r_indexAddr hF rfl (lks rfl hb_) rfl Try.runUnderlying38 Try.sizeOf43 h0_ h1_) ?_; clear hF; clear a; intro a hF
      obtain ⟨t55, hct55, h⟩ := h
      refine RL.val  hF rfl rfl rfl (r_loadA hF rfl rfl Try.isAgg43 Try.sizeOf43 hct55) ?_; clear hF; clear a; intro a hF
      obtain ⟨p56, w57, hp_, hw_, h⟩ := h
      refine RL.val (v := .pointer (some p56)) (w' := w57) hF rfl rfl rfl (by rw [hp_, hw_]; exact r_alloc rfl Try.zeroValue43 rfl) ?_; clear hF; clear a; intro a hF
      refine RL.val  hF rfl rfl rfl (r_assign hF rfl rfl) ?_; clear hF; clear a; intro a hF
      obtain ⟨w58, hs1_, hs2_, hs3_, hs4_, h⟩ := h
      refine RL.unit (w' := w58) hF rfl rfl (by rw [hs4_]; exact r_storeA hF rfl rfl rfl Try.sizeOf43 hs1_ hs2_ hs3_) ?_; clear hF; clear a; intro a hF
      refine RL.nil (hK52 _ _ ?_)
      clear hK52 K51
      refine seq_k fun K59 hK60 => ?_
      obtain ⟨J, hJ, h⟩ := jn_open h
      have jn64 : ∀ (v61 : Bool) (w62 : World) a, Fr 100 a [(0, .pointer c0), (2, .pointer c2), (6, .bool v61), (7, .int .i64 s31.2), (8, .pointer (some p56)), (28, t30.v), (29, .int .i64 (t30.len : Int)), (30, .int .i64 s31.2)] → J v61 w62 → K59 a w62 := by
        intro v61 w62 a hF h
        replace h := hJ _ _ h
        clear hJ
        refine hK60 _ _ ?_
        refine seq_draw 0 #[0, 1, 3, 7, 15, 31, 63, 127, 15, 511, 1023, 2047, 4095, 8191, 16383, 32767, 65535, 8191, 139263, 524287, 1048575, 2097151, 4194303, 8388607, 8388607, 33554431, 67108863, 134217727, 268435455] 29 mo rfl (by kernel_rfl) (by kernel_rfl) fun hS K65 hK66 => ?_
        obtain ⟨w67, hw, h⟩ := h; rw [← hw]; clear hw
        obtain ⟨J70, hJ, h⟩ := jn_open h
        have jn71 : ∀ (v68 : Bool) (w69 : World) a, Fr 100 a [(0, .pointer c0), (2, .pointer c2), (6, .bool v61), (7, .int .i64 s31.2), (8, .pointer (some p56)), (28, t30.v), (29, .int .i64 (t30.len : Int)), (30, .int .i64 s31.2), (82, .bool v68)] → J70 v68 w69 → K65 a w69 := by
          clear hF
          intro v68 w69 a hF h; replace h := hJ _ _ h; refine hK66 _ _ ?_; clear hJ hK66 K65
          obtain ⟨ht, hf⟩ := h
          refine cond_ hF rfl (fun hc => ?_) (fun hc => ?_)
          · replace h := ht hc; clear ht hf
            refine seq_region fun K72 hK73 => ?_
            obtain ⟨p75, hpp75, h⟩ := h
            obtain ⟨t74, hct74, h⟩ := h
            refine RL.val  hF rfl rfl rfl (r_load hF rfl (lkp rfl hpp75) Try.isAgg48 hct74) ?_; clear hF; clear a; intro a hF
            refine RL.val  hF rfl rfl rfl (r_move hF rfl rfl) ?_; clear hF; clear a; intro a hF
            obtain ⟨b77, p76, hb_, h0_, h1_, hp_, h⟩ := h
            refine RL.val (v := .pointer (some p76)) (w' := w69) hF rfl rfl rfl (by rw [hp_]; exact r_indexAddr hF rfl (lks rfl hb_) rfl Try.runUnderlying48 Try.sizeOf4 h0_ h1_) ?_; clear hF; clear a; intro a hF
            obtain ⟨u_, w78, hs1_, hs2_, hs3_, h⟩ := h
            refine RL.unit (w' := w78) hF rfl rfl (by rw [hs3_]; exact r_store hF rfl rfl rfl rfl Try.sizeOf4 hs1_ hs2_) ?_; clear hF; clear a; intro a hF
            refine RL.val  hF rfl rfl rfl (r_assign hF rfl rfl) ?_; clear hF; clear a; intro a hF
            refine RL.nil (hK73 _ _ ?_)
            clear hK73 K72
            refine end_draw 4992 #[0, 0, 2, 6, 14, 0, 32, 96, 224, 510, 1023, 2047, 4095] 13 mo rfl (by kernel_rfl) (by kernel_rfl) fun hS K79 hK80 => ?_
            obtain ⟨w81, hw, h⟩ := h; rw [← hw]; clear hw
            obtain ⟨p83, hpp83, h⟩ := h
            obtain ⟨t82, hct82, h⟩ := h
            refine GL.read (v := .pointer t82) (i := 0) hF (fun x => World.cell? x p83 = some (.pointer t82)) hS rfl rfl (by kernel_rfl) rfl rfl rfl rfl hct82 (fun x hx => r_load hF rfl (lkp rfl hpp83) Try.isAgg45 hx) ?_; clear hF; clear a; intro a hF
            obtain ⟨p85, hpp85, h⟩ := h
            obtain ⟨t84, hct84, h⟩ := h
            refine GL.read (v := .pointer t84) (i := 1) hF (fun x => World.cell? x p85 = some (.pointer t84)) hS rfl rfl (by kernel_rfl) rfl rfl rfl rfl hct84 (fun x hx => r_load hF rfl (lkp rfl hpp85) Try.isAgg45 hx) ?_; clear hF; clear a; intro a hF
            obtain ⟨p86, hpp86, h⟩ := h
            refine GL.val (v := .pointer (some p86)) (i := 2) hF hS rfl rfl (by kernel_rfl) rfl rfl rfl rfl (fun x => r_nilCheck hF rfl (lkp rfl hpp86)) ?_; clear hF; clear a; intro a hF
            refine GL.val (v := .pointer (some (p86.add 2))) (i := 3) hF hS rfl rfl (by kernel_rfl) rfl rfl rfl rfl (fun x => r_fieldAddr hF rfl rfl Try.runUnderlying50 rfl Try.sizeOf30 rfl) ?_; clear hF; clear a; intro a hF
            obtain ⟨t87, hct87, h⟩ := h
            refine GL.read (v := t87.v) (i := 4) hF (fun x => World.cell? x (p86.add 2) = some (t87.v)) hS rfl rfl (by kernel_rfl) rfl rfl rfl rfl hct87 (fun x hx => r_load hF rfl rfl Try.isAgg30 hx) ?_; clear hF; clear a; intro a hF
            refine GL.val (v := .pointer (some (p56.add 6))) (i := 5) hF hS rfl rfl (by kernel_rfl) rfl rfl rfl rfl (fun x => r_fieldAddr hF rfl rfl Try.runUnderlying43 rfl Try.sizeOf9 rfl) ?_; clear hF; clear a; intro a hF
            obtain ⟨t88, hct88, h⟩ := h
            refine GL.read (v := .string t88) (i := 6) hF (fun x => World.cell? x (p56.add 6) = some (.string t88)) hS rfl rfl (by kernel_rfl) rfl rfl rfl rfl hct88 (fun x hx => r_load hF rfl rfl Try.isAgg9 hx) ?_; clear hF; clear a; intro a hF
            refine GL.act (i := 7) (pend' := [(4, fun x => World.cell? x (p86.add 2) = some (t87.v)), (1, fun x => World.cell? x p85 = some (.pointer t84)), (0, fun x => World.cell? x p83 = some (.pointer t82))]) hS (by kernel_rfl) rfl (by kernel_rfl) ?_
            obtain ⟨t89, w90, hc_, h⟩ := h
            obtain ⟨hk91, hk92, hk93, h⟩ := h
            refine op_val  hF rfl rfl rfl rfl (r_conv hF rfl rfl hc_) ⟨hk91, hk92, hk93, trivial⟩ ?_; clear hF; clear a; intro a hF
            refine GL.act (i := 8) (pend' := [(4, fun x => World.cell? x (p86.add 2) = some (t87.v)), (1, fun x => World.cell? x p85 = some (.pointer t84)), (0, fun x => World.cell? x p83 = some (.pointer t82))]) hS (by kernel_rfl) rfl (by kernel_rfl) ?_
            obtain ⟨p95, w94, hp_, hw_, h⟩ := h
            obtain ⟨hk96, hk97, hk98, h⟩ := h
            refine op_val (v := (Slc.mk (some p95) 1 1).v) (w' := w94) hF rfl rfl rfl rfl (by rw [hp_, hw_]; exact r_buildSlice (xs := [(0, t89.v)]) hF rfl rfl (by kernel_rfl)) ⟨hk96, hk97, hk98, trivial⟩ ?_; clear hF; clear a; intro a hF
            refine GL.act (i := 9) (pend' := [(0, fun x => World.cell? x p83 = some (.pointer t82))]) hS (by kernel_rfl) rfl (by kernel_rfl) ?_
            obtain ⟨t100, w99, hc_, h⟩ := h
            obtain ⟨hk101, h⟩ := h
            refine op_val  hF rfl rfl rfl rfl (r_append (xs := [t87.v, (Slc.mk (some p95) 1 1).v]) hF rfl rfl hc_) ⟨hk101, trivial⟩ ?_; clear hF; clear a; intro a hF
            obtain ⟨p102, hpp102, h⟩ := h
            refine GL.val (v := .pointer (some p102)) (i := 10) hF hS rfl rfl (by kernel_rfl) rfl rfl rfl rfl (fun x => r_nilCheck hF rfl (lkp rfl hpp102)) ?_; clear hF; clear a; intro a hF
            refine GL.val (v := .pointer (some (p102.add 2))) (i := 11) hF hS rfl rfl (by kernel_rfl) rfl rfl rfl rfl (fun x => r_fieldAddr hF rfl rfl Try.runUnderlying50 rfl Try.sizeOf30 rfl) ?_; clear hF; clear a; intro a hF
            refine GL.act (i := 12) (pend' := []) hS (by kernel_rfl) rfl (by kernel_rfl) ?_
            obtain ⟨u_, w103, hs1_, hs2_, hs3_, h⟩ := h
            refine op_unit (w' := w103) hF rfl rfl rfl (by rw [hs3_]; exact r_store hF rfl rfl rfl rfl Try.sizeOf30 hs1_ hs2_) trivial ?_; clear hF; clear a; intro a hF
            refine GL.done (by kernel_rfl) (hK80 _ _ ?_)
            clear hK80 K79
            exact jn48 true _ _ (hF.sub rfl) h
          · replace h := hf hc; clear ht hf
            refine wp_skip ?_
            exact jn48 v61 _ _ (hF.sub rfl) h
        clear hJ hK66
        refine GL.val (v := .pointer (some p56)) (i := 0) hF hS rfl rfl (by kernel_rfl) rfl rfl rfl rfl (fun x => r_fieldAddr0 hF rfl rfl Try.runUnderlying43 rfl Try.sizeOf3 rfl) ?_; clear hF; clear a; intro a hF
        obtain ⟨t104, hct104, h⟩ := h
        refine GL.read (v := .int .i64 t104) (i := 1) hF (fun x => World.cell? x p56 = some (.int .i64 t104)) hS rfl rfl (by kernel_rfl) rfl rfl rfl rfl hct104 (fun x hx => r_load hF rfl rfl Try.isAgg3 hx) ?_; clear hF; clear a; intro a hF
        refine GL.val (v := .bool (t104 == 6)) (i := 2) hF hS rfl rfl (by kernel_rfl) rfl rfl rfl rfl (fun x => r_eql hF rfl rfl rfl) ?_; clear hF; clear a; intro a hF
        refine GL.val (v := .bool (t104 == 6)) (i := 3) hF hS rfl rfl (by kernel_rfl) rfl rfl rfl rfl (fun x => r_move hF rfl rfl) ?_; clear hF; clear a; intro a hF
        obtain ⟨ht, hf⟩ := h
        rcases bool_cases (t104 == 6) with hg105 | hg105
        · replace h := ht hg105; clear ht hf
          obtain ⟨p107, hpp107, h⟩ := h
          obtain ⟨t106, hct106, h⟩ := h
          refine GL.gread (v := .pointer t106) (i := 4) hF (fun x => World.cell? x p107 = some (.pointer t106)) hS rfl rfl (by kernel_rfl) rfl rfl rfl (lkb rfl hg105) rfl rfl hct106 (fun x hx => r_load hF rfl (lkp rfl hpp107) Try.isAgg45 hx) ?_; clear hF; clear a; intro a hF
          obtain ⟨p108, hpp108, h⟩ := h
          refine GL.gval (v := .pointer (some p108)) (i := 5) hF hS rfl rfl (by kernel_rfl) rfl rfl rfl (lkb rfl hg105) rfl rfl (fun x => r_nilCheck hF rfl (lkp rfl hpp108)) ?_; clear hF; clear a; intro a hF
          refine GL.gval (v := .pointer (some (p108.add 1))) (i := 6) hF hS rfl rfl (by kernel_rfl) rfl rfl rfl (lkb rfl hg105) rfl rfl (fun x => r_fieldAddr hF rfl rfl Try.runUnderlying50 rfl Try.sizeOf48 rfl) ?_; clear hF; clear a; intro a hF
          obtain ⟨t109, hct109, h⟩ := h
          refine GL.gread (v := t109.v) (i := 7) hF (fun x => World.cell? x (p108.add 1) = some (t109.v)) hS rfl rfl (by kernel_rfl) rfl rfl rfl (lkb rfl hg105) rfl rfl hct109 (fun x hx => r_load hF rfl rfl Try.isAgg48 hx) ?_; clear hF; clear a; intro a hF
          refine GL.gval (v := .int .i64 s31.2) (i := 8) hF hS rfl rfl (by kernel_rfl) rfl rfl rfl (lkb rfl hg105) rfl rfl (fun x => r_move hF rfl rfl) ?_; clear hF; clear a; intro a hF
          obtain ⟨b111, p110, hb_, h0_, h1_, hp_, h⟩ := h
          refine GL.gval (v := .pointer (some p110)) (i := 9) hF hS rfl rfl (by kernel_rfl) rfl rfl rfl (lkb rfl hg105) rfl rfl (fun x => by rw [hp_]; exact r_indexAddr hF rfl (lks rfl hb_) rfl Try.runUnderlying48 Try.sizeOf4 h0_ h1_) ?_; clear hF; clear a; intro a hF
          obtain ⟨t112, hct112, h⟩ := h
          refine GL.gread (v := .bool t112) (i := 10) hF (fun x => World.cell? x p110 = some (.bool t112)) hS rfl rfl (by kernel_rfl) rfl rfl rfl (lkb rfl hg105) rfl rfl hct112 (fun x hx => r_load hF rfl rfl Try.isAgg4 hx) ?_; clear hF; clear a; intro a hF
          refine GL.val (v := .bool t112) (i := 11) hF hS rfl rfl (by kernel_rfl) rfl rfl rfl rfl (fun x => r_pick hF rfl rfl rfl rfl (fun _ => rfl) (fun e => absurd (hg105.symm.trans e) (by decide))) ?_; clear hF; clear a; intro a hF
          refine GL.val (v := .bool t112) (i := 12) hF hS rfl rfl (by kernel_rfl) rfl rfl rfl rfl (fun x => r_move hF rfl rfl) ?_; clear hF; clear a; intro a hF
          obtain ⟨ht, hf⟩ := h
          rcases bool_cases t112 with hg113 | hg113
          · replace h := ht hg113; clear ht hf
            obtain ⟨p115, hpp115, h⟩ := h
            obtain ⟨t114, hct114, h⟩ := h
            refine GL.gread (v := .pointer t114) (i := 13) hF (fun x => World.cell? x p115 = some (.pointer t114)) hS rfl rfl (by kernel_rfl) rfl rfl rfl (lkb rfl hg113) rfl rfl hct114 (fun x hx => r_load hF rfl (lkp rfl hpp115) Try.isAgg45 hx) ?_; clear hF; clear a; intro a hF
            obtain ⟨p116, hpp116, h⟩ := h
            refine GL.gval (v := .pointer (some p116)) (i := 14) hF hS rfl rfl (by kernel_rfl) rfl rfl rfl (lkb rfl hg113) rfl rfl (fun x => r_nilCheck hF rfl (lkp rfl hpp116)) ?_; clear hF; clear a; intro a hF
            refine GL.gval (v := .pointer (some (p116.add 1))) (i := 15) hF hS rfl rfl (by kernel_rfl) rfl rfl rfl (lkb rfl hg113) rfl rfl (fun x => r_fieldAddr hF rfl rfl Try.runUnderlying50 rfl Try.sizeOf48 rfl) ?_; clear hF; clear a; intro a hF
            obtain ⟨t117, hct117, h⟩ := h
            refine GL.gread (v := t117.v) (i := 16) hF (fun x => World.cell? x (p116.add 1) = some (t117.v)) hS rfl rfl (by kernel_rfl) rfl rfl rfl (lkb rfl hg113) rfl rfl hct117 (fun x hx => r_load hF rfl rfl Try.isAgg48 hx) ?_; clear hF; clear a; intro a hF
            refine GL.gval (v := .pointer (some (p56.add 1))) (i := 17) hF hS rfl rfl (by kernel_rfl) rfl rfl rfl (lkb rfl hg113) rfl rfl (fun x => r_fieldAddr hF rfl rfl Try.runUnderlying43 rfl Try.sizeOf3 rfl) ?_; clear hF; clear a; intro a hF
            obtain ⟨t118, hct118, h⟩ := h
            refine GL.gread (v := .int .i64 t118) (i := 18) hF (fun x => World.cell? x (p56.add 1) = some (.int .i64 t118)) hS rfl rfl (by kernel_rfl) rfl rfl rfl (lkb rfl hg113) rfl rfl hct118 (fun x hx => r_load hF rfl rfl Try.isAgg3 hx) ?_; clear hF; clear a; intro a hF
            obtain ⟨b120, p119, hb_, h0_, h1_, hp_, h⟩ := h
            refine GL.gval (v := .pointer (some p119)) (i := 19) hF hS rfl rfl (by kernel_rfl) rfl rfl rfl (lkb rfl hg113) rfl rfl (fun x => by rw [hp_]; exact r_indexAddr hF rfl (lks rfl hb_) rfl Try.runUnderlying48 Try.sizeOf4 h0_ h1_) ?_; clear hF; clear a; intro a hF
            obtain ⟨t121, hct121, h⟩ := h
            refine GL.gread (v := .bool t121) (i := 20) hF (fun x => World.cell? x p119 = some (.bool t121)) hS rfl rfl (by kernel_rfl) rfl rfl rfl (lkb rfl hg113) rfl rfl hct121 (fun x hx => r_load hF rfl rfl Try.isAgg4 hx) ?_; clear hF; clear a; intro a hF
            refine GL.val (v := .bool t121) (i := 21) hF hS rfl rfl (by kernel_rfl) rfl rfl rfl rfl (fun x => r_pick hF rfl rfl rfl rfl (fun _ => rfl) (fun e => absurd (hg113.symm.trans e) (by decide))) ?_; clear hF; clear a; intro a hF
            refine GL.val (v := .bool t121) (i := 22) hF hS rfl rfl (by kernel_rfl) rfl rfl rfl rfl (fun x => r_move hF rfl rfl) ?_; clear hF; clear a; intro a hF
            obtain ⟨ht, hf⟩ := h
            rcases bool_cases t121 with hg122 | hg122
            · replace h := ht hg122; clear ht hf
              obtain ⟨p124, hpp124, h⟩ := h
              obtain ⟨t123, hct123, h⟩ := h
              refine GL.gread (v := t123.v) (i := 23) hF (fun x => World.cell? x p124 = some (t123.v)) hS rfl rfl (by kernel_rfl) rfl rfl rfl (lkb rfl hg122) rfl rfl hct123 (fun x hx => r_load hF rfl (lkp rfl hpp124) Try.isAgg48 hx) ?_; clear hF; clear a; intro a hF
              refine GL.gval (v := .int .i64 s31.2) (i := 24) hF hS rfl rfl (by kernel_rfl) rfl rfl rfl (lkb rfl hg122) rfl rfl (fun x => r_move hF rfl rfl) ?_; clear hF; clear a; intro a hF
              obtain ⟨b126, p125, hb_, h0_, h1_, hp_, h⟩ := h
              refine GL.gval (v := .pointer (some p125)) (i := 25) hF hS rfl rfl (by kernel_rfl) rfl rfl rfl (lkb rfl hg122) rfl rfl (fun x => by rw [hp_]; exact r_indexAddr hF rfl (lks rfl hb_) rfl Try.runUnderlying48 Try.sizeOf4 h0_ h1_) ?_; clear hF; clear a; intro a hF
              obtain ⟨t127, hct127, h⟩ := h
              refine GL.gread (v := .bool t127) (i := 26) hF (fun x => World.cell? x p125 = some (.bool t127)) hS rfl rfl (by kernel_rfl) rfl rfl rfl (lkb rfl hg122) rfl rfl hct127 (fun x hx => r_load hF rfl rfl Try.isAgg4 hx) ?_; clear hF; clear a; intro a hF
              refine GL.gval (v := .bool (!t127)) (i := 27) hF hS rfl rfl (by kernel_rfl) rfl rfl rfl (lkb rfl hg122) rfl rfl (fun x => r_not hF rfl rfl) ?_; clear hF; clear a; intro a hF
              refine GL.val (v := .bool (!t127)) (i := 28) hF hS rfl rfl (by kernel_rfl) rfl rfl rfl rfl (fun x => r_pick hF rfl rfl rfl rfl (fun _ => rfl) (fun e => absurd (hg122.symm.trans e) (by decide))) ?_; clear hF; clear a; intro a hF
              refine GL.done (by kernel_rfl) ?_
              exact jn71 (!t127) _ _ (hF.sub rfl) h
            · replace h := hf hg122; clear ht hf
              refine GL.skip (i := 23) hF hS rfl rfl (by kernel_rfl) rfl rfl rfl (lkb rfl hg122) (.inl rfl) rfl rfl ?_; clear hF; clear a; intro a hF
              refine GL.skip (i := 24) hF hS rfl rfl (by kernel_rfl) rfl rfl rfl (lkb rfl hg122) (.inl rfl) rfl rfl ?_; clear hF; clear a; intro a hF
              refine GL.skip (i := 25) hF hS rfl rfl (by kernel_rfl) rfl rfl rfl (lkb rfl hg122) (.inl rfl) rfl rfl ?_; clear hF; clear a; intro a hF
              refine GL.skip (i := 26) hF hS rfl rfl (by kernel_rfl) rfl rfl rfl (lkb rfl hg122) (.inl rfl) rfl rfl ?_; clear hF; clear a; intro a hF
              refine GL.skip (i := 27) hF hS rfl rfl (by kernel_rfl) rfl rfl rfl (lkb rfl hg122) (.inl rfl) rfl rfl ?_; clear hF; clear a; intro a hF
              refine GL.val (v := .bool false) (i := 28) hF hS rfl rfl (by kernel_rfl) rfl rfl rfl rfl (fun x => r_pick hF rfl rfl rfl rfl (fun e => absurd (hg122.symm.trans e) (by decide)) (fun _ => rfl)) ?_; clear hF; clear a; intro a hF
              refine GL.done (by kernel_rfl) ?_
              exact jn71 false _ _ (hF.sub rfl) h
          · replace h := hf hg113; clear ht hf
            refine GL.skip (i := 13) hF hS rfl rfl (by kernel_rfl) rfl rfl rfl (lkb rfl hg113) (.inl rfl) rfl rfl ?_; clear hF; clear a; intro a hF
            refine GL.skip (i := 14) hF hS rfl rfl (by kernel_rfl) rfl rfl rfl (lkb rfl hg113) (.inl rfl) rfl rfl ?_; clear hF; clear a; intro a hF
            refine GL.skip (i := 15) hF hS rfl rfl (by kernel_rfl) rfl rfl rfl (lkb rfl hg113) (.inl rfl) rfl rfl ?_; clear hF; clear a; intro a hF
            refine GL.skip (i := 16) hF hS rfl rfl (by kernel_rfl) rfl rfl rfl (lkb rfl hg113) (.inl rfl) rfl rfl ?_; clear hF; clear a; intro a hF
            refine GL.skip (i := 17) hF hS rfl rfl (by kernel_rfl) rfl rfl rfl (lkb rfl hg113) (.inl rfl) rfl rfl ?_; clear hF; clear a; intro a hF
            refine GL.skip (i := 18) hF hS rfl rfl (by kernel_rfl) rfl rfl rfl (lkb rfl hg113) (.inl rfl) rfl rfl ?_; clear hF; clear a; intro a hF
            refine GL.skip (i := 19) hF hS rfl rfl (by kernel_rfl) rfl rfl rfl (lkb rfl hg113) (.inl rfl) rfl rfl ?_; clear hF; clear a; intro a hF
            refine GL.skip (i := 20) hF hS rfl rfl (by kernel_rfl) rfl rfl rfl (lkb rfl hg113) (.inl rfl) rfl rfl ?_; clear hF; clear a; intro a hF
            refine GL.val (v := .bool false) (i := 21) hF hS rfl rfl (by kernel_rfl) rfl rfl rfl rfl (fun x => r_pick hF rfl rfl rfl rfl (fun e => absurd (hg113.symm.trans e) (by decide)) (fun _ => rfl)) ?_; clear hF; clear a; intro a hF
            refine GL.val (v := .bool false) (i := 22) hF hS rfl rfl (by kernel_rfl) rfl rfl rfl rfl (fun x => r_move hF rfl rfl) ?_; clear hF; clear a; intro a hF
            refine GL.skip (i := 23) hF hS rfl rfl (by kernel_rfl) rfl rfl rfl rfl (.inl rfl) rfl rfl ?_; clear hF; clear a; intro a hF
            refine GL.skip (i := 24) hF hS rfl rfl (by kernel_rfl) rfl rfl rfl rfl (.inl rfl) rfl rfl ?_; clear hF; clear a; intro a hF
            refine GL.skip (i := 25) hF hS rfl rfl (by kernel_rfl) rfl rfl rfl rfl (.inl rfl) rfl rfl ?_; clear hF; clear a; intro a hF
            refine GL.skip (i := 26) hF hS rfl rfl (by kernel_rfl) rfl rfl rfl rfl (.inl rfl) rfl rfl ?_; clear hF; clear a; intro a hF
            refine GL.skip (i := 27) hF hS rfl rfl (by kernel_rfl) rfl rfl rfl rfl (.inl rfl) rfl rfl ?_; clear hF; clear a; intro a hF
            refine GL.val (v := .bool false) (i := 28) hF hS rfl rfl (by kernel_rfl) rfl rfl rfl rfl (fun x => r_pick hF rfl rfl rfl rfl (fun e => absurd e (by decide)) (fun _ => rfl)) ?_; clear hF; clear a; intro a hF
            refine GL.done (by kernel_rfl) ?_
            exact jn71 false _ _ (hF.sub rfl) h
        · replace h := hf hg105; clear ht hf
          refine GL.skip (i := 4) hF hS rfl rfl (by kernel_rfl) rfl rfl rfl (lkb rfl hg105) (.inl rfl) rfl rfl ?_; clear hF; clear a; intro a hF
          refine GL.skip (i := 5) hF hS rfl rfl (by kernel_rfl) rfl rfl rfl (lkb rfl hg105) (.inl rfl) rfl rfl ?_; clear hF; clear a; intro a hF
          refine GL.skip (i := 6) hF hS rfl rfl (by kernel_rfl) rfl rfl rfl (lkb rfl hg105) (.inl rfl) rfl rfl ?_; clear hF; clear a; intro a hF
          refine GL.skip (i := 7) hF hS rfl rfl (by kernel_rfl) rfl rfl rfl (lkb rfl hg105) (.inl rfl) rfl rfl ?_; clear hF; clear a; intro a hF
          refine GL.skip (i := 8) hF hS rfl rfl (by kernel_rfl) rfl rfl rfl (lkb rfl hg105) (.inl rfl) rfl rfl ?_; clear hF; clear a; intro a hF
          refine GL.skip (i := 9) hF hS rfl rfl (by kernel_rfl) rfl rfl rfl (lkb rfl hg105) (.inl rfl) rfl rfl ?_; clear hF; clear a; intro a hF
          refine GL.skip (i := 10) hF hS rfl rfl (by kernel_rfl) rfl rfl rfl (lkb rfl hg105) (.inl rfl) rfl rfl ?_; clear hF; clear a; intro a hF
          refine GL.val (v := .bool false) (i := 11) hF hS rfl rfl (by kernel_rfl) rfl rfl rfl rfl (fun x => r_pick hF rfl rfl rfl rfl (fun e => absurd (hg105.symm.trans e) (by decide)) (fun _ => rfl)) ?_; clear hF; clear a; intro a hF
          refine GL.val (v := .bool false) (i := 12) hF hS rfl rfl (by kernel_rfl) rfl rfl rfl rfl (fun x => r_move hF rfl rfl) ?_; clear hF; clear a; intro a hF
          refine GL.skip (i := 13) hF hS rfl rfl (by kernel_rfl) rfl rfl rfl rfl (.inl rfl) rfl rfl ?_; clear hF; clear a; intro a hF
          refine GL.skip (i := 14) hF hS rfl rfl (by kernel_rfl) rfl rfl rfl rfl (.inl rfl) rfl rfl ?_; clear hF; clear a; intro a hF
          refine GL.skip (i := 15) hF hS rfl rfl (by kernel_rfl) rfl rfl rfl rfl (.inl rfl) rfl rfl ?_; clear hF; clear a; intro a hF
          refine GL.skip (i := 16) hF hS rfl rfl (by kernel_rfl) rfl rfl rfl rfl (.inl rfl) rfl rfl ?_; clear hF; clear a; intro a hF
          refine GL.skip (i := 17) hF hS rfl rfl (by kernel_rfl) rfl rfl rfl rfl (.inl rfl) rfl rfl ?_; clear hF; clear a; intro a hF
          refine GL.skip (i := 18) hF hS rfl rfl (by kernel_rfl) rfl rfl rfl rfl (.inl rfl) rfl rfl ?_; clear hF; clear a; intro a hF
          refine GL.skip (i := 19) hF hS rfl rfl (by kernel_rfl) rfl rfl rfl rfl (.inl rfl) rfl rfl ?_; clear hF; clear a; intro a hF
          refine GL.skip (i := 20) hF hS rfl rfl (by kernel_rfl) rfl rfl rfl rfl (.inl rfl) rfl rfl ?_; clear hF; clear a; intro a hF
          refine GL.val (v := .bool false) (i := 21) hF hS rfl rfl (by kernel_rfl) rfl rfl rfl rfl (fun x => r_pick hF rfl rfl rfl rfl (fun e => absurd e (by decide)) (fun _ => rfl)) ?_; clear hF; clear a; intro a hF
          refine GL.val (v := .bool false) (i := 22) hF hS rfl rfl (by kernel_rfl) rfl rfl rfl rfl (fun x => r_move hF rfl rfl) ?_; clear hF; clear a; intro a hF
          refine GL.skip (i := 23) hF hS rfl rfl (by kernel_rfl) rfl rfl rfl rfl (.inl rfl) rfl rfl ?_; clear hF; clear a; intro a hF
          refine GL.skip (i := 24) hF hS rfl rfl (by kernel_rfl) rfl rfl rfl rfl (.inl rfl) rfl rfl ?_; clear hF; clear a; intro a hF
          refine GL.skip (i := 25) hF hS rfl rfl (by kernel_rfl) rfl rfl rfl rfl (.inl rfl) rfl rfl ?_; clear hF; clear a; intro a hF
          refine GL.skip (i := 26) hF hS rfl rfl (by kernel_rfl) rfl rfl rfl rfl (.inl rfl) rfl rfl ?_; clear hF; clear a; intro a hF
          refine GL.skip (i := 27) hF hS rfl rfl (by kernel_rfl) rfl rfl rfl rfl (.inl rfl) rfl rfl ?_; clear hF; clear a; intro a hF
          refine GL.val (v := .bool false) (i := 28) hF hS rfl rfl (by kernel_rfl) rfl rfl rfl rfl (fun x => r_pick hF rfl rfl rfl rfl (fun e => absurd e (by decide)) (fun _ => rfl)) ?_; clear hF; clear a; intro a hF
          refine GL.done (by kernel_rfl) ?_
          exact jn71 false _ _ (hF.sub rfl) h
      clear hJ
      refine seq_region fun K128 hK129 => ?_
      obtain ⟨J132, hJ, h⟩ := jn_open h
      have jn133 : ∀ (v130 : Bool) (w131 : World) a, Fr 100 a [(0, .pointer c0), (2, .pointer c2), (6, .bool s31.1), (7, .int .i64 s31.2), (8, .pointer (some p56)), (28, t30.v), (29, .int .i64 (t30.len : Int)), (30, .int .i64 s31.2), (47, .bool v130)] → J132 v130 w131 → K128 a w131 := by
        clear hF
        intro v130 w131 a hF h; replace h := hJ _ _ h; refine hK129 _ _ ?_; clear hJ hK129 K128
        obtain ⟨ht, hf⟩ := h
        refine cond_ hF rfl (fun hc => ?_) (fun hc => ?_)
        · replace h := ht hc; clear ht hf
          refine end_region fun K134 hK135 => ?_
          obtain ⟨p137, hpp137, h⟩ := h
          obtain ⟨t136, hct136, h⟩ := h
          refine RL.val  hF rfl rfl rfl (r_load hF rfl (lkp rfl hpp137) Try.isAgg45 hct136) ?_; clear hF; clear a; intro a hF
          obtain ⟨p138, hpp138, h⟩ := h
          refine RL.val  hF rfl rfl rfl (r_nilCheck hF rfl (lkp rfl hpp138)) ?_; clear hF; clear a; intro a hF
          refine RL.val  hF rfl rfl rfl (r_fieldAddr hF rfl rfl Try.runUnderlying50 rfl Try.sizeOf48 rfl) ?_; clear hF; clear a; intro a hF
          obtain ⟨t139, hct139, h⟩ := h
          refine RL.val  hF rfl rfl rfl (r_load hF rfl rfl Try.isAgg48 hct139) ?_; clear hF; clear a; intro a hF
          refine RL.val  hF rfl rfl rfl (r_move hF rfl rfl) ?_; clear hF; clear a; intro a hF
          obtain ⟨b141, p140, hb_, h0_, h1_, hp_, h⟩ := h
          refine RL.val (v := .pointer (some p140)) (w' := w131) hF rfl rfl rfl (by rw [hp_]; exact r_indexAddr hF rfl (lks rfl hb_) rfl Try.runUnderlying48 Try.sizeOf4 h0_ h1_) ?_; clear hF; clear a; intro a hF
          obtain ⟨u_, w142, hs1_, hs2_, hs3_, h⟩ := h
          refine RL.unit (w' := w142) hF rfl rfl (by rw [hs3_]; exact r_store hF rfl rfl rfl rfl Try.sizeOf4 hs1_ hs2_) ?_; clear hF; clear a; intro a hF
          refine RL.val  hF rfl rfl rfl (r_assign hF rfl rfl) ?_; clear hF; clear a; intro a hF
          refine RL.nil (hK135 _ _ ?_)
          clear hK135 K134
          exact jn64 true _ _ (hF.sub rfl) h
        · replace h := hf hc; clear ht hf
          refine wp_skip ?_
          exact jn64 s31.1 _ _ (hF.sub rfl) h
      clear hJ hK129
      obtain ⟨p144, hpp144, h⟩ := h
      obtain ⟨t143, hct143, h⟩ := h
      refine RL.val  hF rfl rfl rfl (r_load hF rfl (lkp rfl hpp144) Try.isAgg45 hct143) ?_; clear hF; clear a; intro a hF
      obtain ⟨p145, hpp145, h⟩ := h
      refine RL.val  hF rfl rfl rfl (r_nilCheck hF rfl (lkp rfl hpp145)) ?_; clear hF; clear a; intro a hF
      refine RL.val  hF rfl rfl rfl (r_fieldAddr hF rfl rfl Try.runUnderlying50 rfl Try.sizeOf48 rfl) ?_; clear hF; clear a; intro a hF
      obtain ⟨t146, hct146, h⟩ := h
      refine RL.val  hF rfl rfl rfl (r_load hF rfl rfl Try.isAgg48 hct146) ?_; clear hF; clear a; intro a hF
      refine RL.val  hF rfl rfl rfl (r_move hF rfl rfl) ?_; clear hF; clear a; intro a hF
      obtain ⟨b148, p147, hb_, h0_, h1_, hp_, h⟩ := h
      refine RL.val (v := .pointer (some p147)) (w' := w58) hF rfl rfl rfl (by rw [hp_]; exact r_indexAddr hF rfl (lks rfl hb_) rfl Try.runUnderlying48 Try.sizeOf4 h0_ h1_) ?_; clear hF; clear a; intro a hF
      obtain ⟨t149, hct149, h⟩ := h
      refine RL.val  hF rfl rfl rfl (r_load hF rfl rfl Try.isAgg4 hct149) ?_; clear hF; clear a; intro a hF
      refine RL.val  hF rfl rfl rfl (r_not hF rfl rfl) ?_; clear hF; clear a; intro a hF
      refine RL.val  hF rfl rfl rfl (r_move hF rfl rfl) ?_; clear hF; clear a; intro a hF
      obtain ⟨ht, hf⟩ := h
      rcases bool_cases (!t149) with hg150 | hg150
      · replace h := ht hg150; clear ht hf
        obtain ⟨p152, hpp152, h⟩ := h
        obtain ⟨t151, hct151, h⟩ := h
        refine RL.gval  hF rfl rfl (lkb rfl hg150) rfl rfl (r_load hF rfl (lkp rfl hpp152) Try.isAgg45 hct151) ?_; clear hF; clear a; intro a hF
        obtain ⟨t153, hct153, h⟩ := h
        refine RL.gval  hF rfl rfl (lkb rfl hg150) rfl rfl (r_loadA hF rfl rfl Try.isAgg43 Try.sizeOf43 hct153) ?_; clear hF; clear a; intro a hF
        refine RL.gcall hF rfl rfl (lkb rfl hg150) rfl rfl (r_call (xs := [.pointer t151, .agg t153]) hF rfl rfl Try.call17) (CallsV.mono h ?_)
        clear h; rintro _ w154 ⟨r155, rfl, h⟩; clear hF; clear a; intro a hF
        refine RL.val (v := .bool r155) (w' := w154) hF rfl rfl rfl (r_pick hF rfl rfl rfl rfl (fun _ => rfl) (fun e => absurd (hg150.symm.trans e) (by decide))) ?_; clear hF; clear a; intro a hF
        refine RL.nil ?_
        exact jn133 r155 _ _ (hF.sub rfl) h
      · replace h := hf hg150; clear ht hf
        refine RL.skip hF rfl rfl (lkb rfl hg150) (.inl rfl) rfl rfl ?_; clear hF; clear a; intro a hF
        refine RL.skip hF rfl rfl (lkb rfl hg150) (.inl rfl) rfl rfl ?_; clear hF; clear a; intro a hF
        refine RL.skip hF rfl rfl (lkb rfl hg150) (.inl rfl) rfl rfl ?_; clear hF; clear a; intro a hF
        refine RL.val (v := .bool false) (w' := w58) hF rfl rfl rfl (r_pick hF rfl rfl rfl rfl (fun e => absurd (hg150.symm.trans e) (by decide)) (fun _ => rfl)) ?_; clear hF; clear a; intro a hF
        refine RL.nil ?_
        exact jn133 false _ _ (hF.sub rfl) h
    clear hJ
    obtain ⟨ht, hf⟩ := h
    refine cond_ hF rfl (fun hc => ?_) (fun hc => ?_)
    · replace h := ht hc; clear ht hf
      refine wp_skip ?_
      exact jn42 () _ _ (hF.sub rfl) h
    · replace h := hf hc; clear ht hf
      refine wp_exit ?_
      exact jn22 s31.1 _ _ (hF.sub rfl) h
  clear hJ
  refine seq_region fun K156 hK157 => ?_
  obtain ⟨p159, hpp159, h⟩ := h
  obtain ⟨t158, hct158, h⟩ := h
  refine RL.val  hF rfl rfl rfl (r_load hF rfl (lkp rfl hpp159) Try.isAgg45 hct158) ?_; clear hF; clear a; intro a hF
  obtain ⟨p160, hpp160, h⟩ := h
  refine RL.val  hF rfl rfl rfl (r_nilCheck hF rfl (lkp rfl hpp160)) ?_; clear hF; clear a; intro a hF
  refine RL.val  hF rfl rfl rfl (r_fieldAddr hF rfl rfl Try.runUnderlying50 rfl Try.sizeOf30 rfl) ?_; clear hF; clear a; intro a hF
  obtain ⟨t161, hct161, h⟩ := h
  refine RL.val  hF rfl rfl rfl (r_load hF rfl rfl Try.isAgg30 hct161) ?_; clear hF; clear a; intro a hF
  refine RL.val  hF rfl rfl rfl (r_len_slice hF rfl rfl Try.runUnderlying30) ?_; clear hF; clear a; intro a hF
  refine RL.val  hF rfl rfl rfl (r_move hF rfl rfl) ?_; clear hF; clear a; intro a hF
  refine RL.nil (hK157 _ _ ?_)
  clear hK157 K156
  refine wp_block ?_
  refine loop_ (fun (s162 : Int) => [(0, .pointer c0), (1, .pointer c1), (2, .pointer c2), (12, t161.v), (13, .int .i64 (t161.len : Int)), (14, .int .i64 s162)]) (hF.sub rfl) h ?_
  clear hF h
  intro s162 w163 N164 KL hN165 h a hF
  refine seq_region fun K166 hK167 => ?_
  refine RL.val  hF rfl rfl rfl (r_lss hF rfl rfl rfl) ?_; clear hF; clear a; intro a hF
  refine RL.nil (hK167 _ _ ?_)
  clear hK167 K166
  refine seq_k fun K168 hK169 => ?_
  obtain ⟨J, hJ, h⟩ := jn_open h
  have jn173 : ∀ (v170 : Unit) (w171 : World) a, Fr 100 a [(0, .pointer c0), (1, .pointer c1), (2, .pointer c2), (12, t161.v), (13, .int .i64 (t161.len : Int)), (14, .int .i64 s162)] → J v170 w171 → K168 a w171 := by
    intro v170 w171 a hF h
    replace h := hJ _ _ h
    clear hJ
    refine hK169 _ _ ?_
    refine seq_k fun K174 hK175 => ?_
    obtain ⟨J, hJ, h⟩ := jn_open h
    have jn179 : ∀ (v176 : Unit) (w177 : World) a, Fr 100 a [(0, .pointer c0), (1, .pointer c1), (2, .pointer c2), (12, t161.v), (13, .int .i64 (t161.len : Int)), (14, .int .i64 s162)] → J v176 w177 → K174 a w177 := by
      intro v176 w177 a hF h
      replace h := hJ _ _ h
      clear hJ
      refine hK175 _ _ ?_
      refine end_region fun K180 hK181 => ?_
      refine RL.val  hF rfl rfl rfl (r_add hF rfl rfl rfl) ?_; clear hF; clear a; intro a hF
      refine RL.val  hF rfl rfl rfl (r_move hF rfl rfl) ?_; clear hF; clear a; intro a hF
      refine RL.nil (hK181 _ _ ?_)
      clear hK181 K180
      exact hN165 (IntKind.i64.wrap (s162 + 1)) _ _ (hF.sub rfl) h
    clear hJ
    refine wp_block ?_
    refine seq_region fun K182 hK183 => ?_
    obtain ⟨b185, p184, hb_, h0_, h1_, hp_, h⟩ := h
    refine RL.val (v := .pointer (some p184)) (w' := w171) hF rfl rfl rfl (by rw [hp_]; exact r_indexAddr hF rfl (lks rfl hb_) rfl Try.runUnderlying30 Try.sizeOf22 h0_ h1_) ?_; clear hF; clear a; intro a hF
    obtain ⟨t186, hct186, h⟩ := h
    refine RL.val  hF rfl rfl rfl (r_load hF rfl rfl Try.isAgg22 hct186) ?_; clear hF; clear a; intro a hF
    refine RL.val  hF rfl rfl rfl (r_assign hF rfl rfl) ?_; clear hF; clear a; intro a hF
    refine RL.nil (hK183 _ _ ?_)
    clear hK183 K182
    refine end_region fun K187 hK188 => ?_
    obtain ⟨p190, hpp190, h⟩ := h
    obtain ⟨t189, hct189, h⟩ := h
    refine RL.val  hF rfl rfl rfl (r_load hF rfl (lkp rfl hpp190) Try.isAgg45 hct189) ?_; clear hF; clear a; intro a hF
    refine RL.val  hF rfl rfl rfl (r_move hF rfl rfl) ?_; clear hF; clear a; intro a hF
    refine RL.call hF rfl rfl rfl (r_call (xs := [.pointer t189, t186.v]) hF rfl rfl Try.call16) (CallsV.mono h ?_)
    clear h; rintro _ w191 ⟨rfl, h⟩; clear hF; clear a; intro a hF
    refine RL.nil (hK188 _ _ ?_)
    clear hK188 K187
    exact jn179 () _ _ (hF.sub rfl) h
  clear hJ
  obtain ⟨ht, hf⟩ := h
  refine cond_ hF rfl (fun hc => ?_) (fun hc => ?_)
  · replace h := ht hc; clear ht hf
    refine wp_skip ?_
    exact jn173 () _ _ (hF.sub rfl) h
  · replace h := hf hc; clear ht hf
    refine wp_exit ?_
    exact jn8 () _ _ (hF.sub rfl) h

end Go.Proofs.Ytkehoneadedmhaa
