/-
  Printed by a program: the plain texts of the functions, and their ties to the code.
-/
import Derived.Test.YteoikkmpkhnalaaPlain
namespace Go.Proofs.Yteoikkmpkhnalaa
open Go Go.Sh
set_option linter.unusedVariables false
set_option linter.unusedSimpArgs false
set_option maxRecDepth 20000 in
theorem br10 {w : World} {K : Option Nat → World → Prop} (h : sh10 w K) : C10 w K := by
  unfold sh10 at h
  refine enter (n := 3) (l := []) 3 Try.func10 rfl _ rfl rfl rfl fun a hF => ?_
  refine seq_region fun K1 hK2 => ?_
  refine RL.val  hF rfl rfl rfl (r_assign hF rfl rfl) ?_; clear hF; clear a; intro a hF
  refine RL.nil (hK2 _ _ ?_)
  clear hK2 K1
  refine seq_region fun K3 hK4 => ?_
  obtain ⟨m5, w6, hp_, hw_, h⟩ := h
  refine RL.val (v := .map m5) (w' := w6) hF rfl rfl rfl (by rw [hp_, hw_]; exact r_makeMap rfl) ?_; clear hF; clear a; intro a hF
  obtain ⟨w7, hc_, h⟩ := h
  refine RL.unit  hF rfl rfl (r_insert hF rfl rfl rfl rfl hc_) ?_; clear hF; clear a; intro a hF
  obtain ⟨w8, hc_, h⟩ := h
  refine RL.unit  hF rfl rfl (r_insert hF rfl rfl rfl rfl hc_) ?_; clear hF; clear a; intro a hF
  obtain ⟨w9, hc_, h⟩ := h
  refine RL.unit  hF rfl rfl (r_insert hF rfl rfl rfl rfl hc_) ?_; clear hF; clear a; intro a hF
  obtain ⟨w10, hc_, h⟩ := h
  refine RL.unit  hF rfl rfl (r_insert hF rfl rfl rfl rfl hc_) ?_; clear hF; clear a; intro a hF
  obtain ⟨w11, hc_, h⟩ := h
  refine RL.unit  hF rfl rfl (r_insert hF rfl rfl rfl rfl hc_) ?_; clear hF; clear a; intro a hF
  obtain ⟨w12, hc_, h⟩ := h
  refine RL.unit  hF rfl rfl (r_insert hF rfl rfl rfl rfl hc_) ?_; clear hF; clear a; intro a hF
  obtain ⟨w13, hc_, h⟩ := h
  refine RL.unit  hF rfl rfl (r_insert hF rfl rfl rfl rfl hc_) ?_; clear hF; clear a; intro a hF
  refine RL.val  hF rfl rfl rfl (r_move hF rfl rfl) ?_; clear hF; clear a; intro a hF
  refine RL.val  hF rfl rfl rfl (r_assign hF rfl rfl) ?_; clear hF; clear a; intro a hF
  refine RL.nil (hK4 _ _ ?_)
  clear hK4 K3
  refine wp_ret ?_
  exact ret_of hF (res1 hF rfl rfl) ⟨_, rfl, h⟩

set_option maxRecDepth 20000 in
theorem br29 {a0 : Slc} {a1 : Value} {w : World} {K : Int → World → Prop} (h : sh29 a0 a1 w K) : C29 a0 a1 w K := by
  unfold sh29 at h
  refine enter (n := 19) (l := [(0, a0.v), (1, a1)]) 17 Try.func29 rfl _ rfl rfl rfl fun a hF => ?_
  refine seq_region fun K1 hK2 => ?_
  refine RL.val  hF rfl rfl rfl (r_assign hF rfl rfl) ?_; clear hF; clear a; intro a hF
  refine RL.nil (hK2 _ _ ?_)
  clear hK2 K1
  refine seq_k fun K3 hK4 => ?_
  obtain ⟨J, hJ, h⟩ := jn_open h
  have jn8 : ∀ (v5 : Unit) (w6 : World) a, Fr 19 a [] → J v5 w6 → K3 a w6 := by
    intro v5 w6 a hF h
    replace h := hJ _ _ h
    clear hJ
    refine hK4 _ _ ?_
    refine seq_region fun K9 hK10 => ?_
    refine RL.val  hF rfl rfl rfl (r_assign hF rfl rfl) ?_; clear hF; clear a; intro a hF
    refine RL.nil (hK10 _ _ ?_)
    clear hK10 K9
    refine wp_ret ?_
    exact ret_of hF (res1 hF rfl rfl) ⟨_, rfl, h⟩
  clear hJ
  refine seq_region fun K11 hK12 => ?_
  refine RL.val  hF rfl rfl rfl (r_move hF rfl rfl) ?_; clear hF; clear a; intro a hF
  refine RL.val  hF rfl rfl rfl (r_len_slice hF rfl rfl Try.runUnderlying24) ?_; clear hF; clear a; intro a hF
  refine RL.val  hF rfl rfl rfl (r_move hF rfl rfl) ?_; clear hF; clear a; intro a hF
  refine RL.nil (hK12 _ _ ?_)
  clear hK12 K11
  refine wp_block ?_
  refine loop_ (fun (s13 : Int) => [(0, a0.v), (1, a1), (7, .int .i64 (a0.len : Int)), (8, .int .i64 s13)]) (hF.sub rfl) h ?_
  clear hF h
  intro s13 w14 N15 KL hN16 h a hF
  refine seq_region fun K17 hK18 => ?_
  refine RL.val  hF rfl rfl rfl (r_lss hF rfl rfl rfl) ?_; clear hF; clear a; intro a hF
  refine RL.nil (hK18 _ _ ?_)
  clear hK18 K17
  refine seq_k fun K19 hK20 => ?_
  obtain ⟨J, hJ, h⟩ := jn_open h
  have jn24 : ∀ (v21 : Unit) (w22 : World) a, Fr 19 a [(0, a0.v), (1, a1), (7, .int .i64 (a0.len : Int)), (8, .int .i64 s13)] → J v21 w22 → K19 a w22 := by
    intro v21 w22 a hF h
    replace h := hJ _ _ h
    clear hJ
    refine hK20 _ _ ?_
    refine seq_k fun K25 hK26 => ?_
    obtain ⟨J, hJ, h⟩ := jn_open h
    have jn30 : ∀ (v27 : Unit) (w28 : World) a, Fr 19 a [(0, a0.v), (1, a1), (7, .int .i64 (a0.len : Int)), (8, .int .i64 s13)] → J v27 w28 → K25 a w28 := by
      intro v27 w28 a hF h
      replace h := hJ _ _ h
      clear hJ
      refine hK26 _ _ ?_
      refine end_region fun K31 hK32 => ?_
      refine RL.val  hF rfl rfl rfl (r_add hF rfl rfl rfl) ?_; clear hF; clear a; intro a hF
      refine RL.val  hF rfl rfl rfl (r_move hF rfl rfl) ?_; clear hF; clear a; intro a hF
      refine RL.nil (hK32 _ _ ?_)
      clear hK32 K31
      exact hN16 (IntKind.i64.wrap (s13 + 1)) _ _ (hF.sub rfl) h
    clear hJ
    refine wp_block ?_
    refine seq_region fun K33 hK34 => ?_
    refine RL.val  hF rfl rfl rfl (r_move hF rfl rfl) ?_; clear hF; clear a; intro a hF
    refine RL.val  hF rfl rfl rfl (r_assign hF rfl rfl) ?_; clear hF; clear a; intro a hF
    refine RL.nil (hK34 _ _ ?_)
    clear hK34 K33
    refine seq_region fun K35 hK36 => ?_
    refine RL.val  hF rfl rfl rfl (r_move hF rfl rfl) ?_; clear hF; clear a; intro a hF
    refine RL.val  hF rfl rfl rfl (r_move hF rfl rfl) ?_; clear hF; clear a; intro a hF
    refine RL.val  hF rfl rfl rfl (r_move hF rfl rfl) ?_; clear hF; clear a; intro a hF
    obtain ⟨b38, p37, hb_, h0_, h1_, hp_, h⟩ := h
    refine RL.val (v := .pointer (some p37)) (w' := w22) hF rfl rfl rfl (by rw [hp_]; exact r_indexAddr hF rfl (lks rfl hb_) rfl Try.runUnderlying24 Try.sizeOf9 h0_ h1_) ?_; clear hF; clear a; intro a hF
    obtain ⟨t39, hct39, h⟩ := h
    refine RL.val  hF rfl rfl rfl (r_load hF rfl rfl Try.isAgg9 hct39) ?_; clear hF; clear a; intro a hF
    obtain ⟨f42, x43, y44, hf_, hg_, h⟩ := h
    refine RL.call hF rfl rfl rfl (r_callV (xs := [.string t39]) hF rfl (by rw [← hf_]; rfl) rfl hg_) (CallsV.mono h ?_)
    clear h; rintro _ w40 ⟨r41, rfl, h⟩; clear hF; clear a; intro a hF
    refine RL.nil (hK36 _ _ ?_)
    clear hK36 K35
    obtain ⟨ht, hf⟩ := h
    refine cond_ hF rfl (fun hc => ?_) (fun hc => ?_)
    · replace h := ht hc; clear ht hf
      refine seq_region fun K45 hK46 => ?_
      refine RL.val  hF rfl rfl rfl (r_move hF rfl rfl) ?_; clear hF; clear a; intro a hF
      refine RL.val  hF rfl rfl rfl (r_assign hF rfl rfl) ?_; clear hF; clear a; intro a hF
      refine RL.nil (hK46 _ _ ?_)
      clear hK46 K45
      refine wp_ret ?_
      exact ret_of hF (res1 hF rfl rfl) ⟨_, rfl, h⟩
    · replace h := hf hc; clear ht hf
      refine wp_skip ?_
      exact jn30 () _ _ (hF.sub rfl) h
  clear hJ
  obtain ⟨ht, hf⟩ := h
  refine cond_ hF rfl (fun hc => ?_) (fun hc => ?_)
  · replace h := ht hc; clear ht hf
    refine wp_skip ?_
    exact jn24 () _ _ (hF.sub rfl) h
  · replace h := hf hc; clear ht hf
    refine wp_exit ?_
    exact jn8 () _ _ (hF.sub rfl) h

set_option maxRecDepth 20000 in
theorem br27 {a0 : Slc} {a1 : Value} {w : World} {K : Bool → World → Prop} (h : sh27 a0 a1 w K) : C27 a0 a1 w K := by
  unfold sh27 at h
  refine enter (n := 9) (l := [(0, a0.v), (1, a1)]) 7 Try.func27 rfl _ rfl rfl rfl fun a hF => ?_
  refine seq_region fun K1 hK2 => ?_
  refine RL.val  hF rfl rfl rfl (r_assign hF rfl rfl) ?_; clear hF; clear a; intro a hF
  refine RL.nil (hK2 _ _ ?_)
  clear hK2 K1
  refine seq_region fun K3 hK4 => ?_
  refine RL.val  hF rfl rfl rfl (r_move hF rfl rfl) ?_; clear hF; clear a; intro a hF
  refine RL.val  hF rfl rfl rfl (r_move hF rfl rfl) ?_; clear hF; clear a; intro a hF
  refine RL.call hF rfl rfl rfl (r_call (xs := [a0.v, a1]) hF rfl rfl Try.call29) (CallsV.mono h ?_)
  clear h; rintro _ w5 ⟨r6, rfl, h⟩; clear hF; clear a; intro a hF
  refine RL.val  hF rfl rfl rfl (r_geq hF rfl rfl rfl) ?_; clear hF; clear a; intro a hF
  refine RL.val  hF rfl rfl rfl (r_assign hF rfl rfl) ?_; clear hF; clear a; intro a hF
  refine RL.nil (hK4 _ _ ?_)
  clear hK4 K3
  refine wp_ret ?_
  exact ret_of hF (res1 hF rfl rfl) ⟨_, rfl, h⟩

set_option maxRecDepth 20000 in
theorem br18 {a0 : Array Value} {a1 : Int} {w : World} {K : Bool → World → Prop} (h : sh18 a0 a1 w K) : C18 a0 a1 w K := by
  unfold sh18 at h
  refine enter (n := 30) (l := [(0, .agg a0), (1, .int .i64 a1)]) 28 Try.func18 rfl _ rfl rfl rfl fun a hF => ?_
  refine seq_region fun K1 hK2 => ?_
  obtain ⟨p3, w4, hp_, hw_, h⟩ := h
  refine RL.val (v := .pointer (some p3)) (w' := w4) hF rfl rfl rfl (by rw [hp_, hw_]; exact r_box hF rfl rfl rfl) ?_; clear hF; clear a; intro a hF
  refine RL.val  hF rfl rfl rfl (r_assign hF rfl rfl) ?_; clear hF; clear a; intro a hF
  refine RL.nil (hK2 _ _ ?_)
  clear hK2 K1
  refine seq_region fun K5 hK6 => ?_
  refine RL.val  hF rfl rfl rfl (r_assign hF rfl rfl) ?_; clear hF; clear a; intro a hF
  refine RL.nil (hK6 _ _ ?_)
  clear hK6 K5
  refine seq_region fun K7 hK8 => ?_
  obtain ⟨J11, hJ, h⟩ := jn_open h
  have jn12 : ∀ (v9 : Bool) (w10 : World) a, Fr 30 a [(4, .bool v9)] → J11 v9 w10 → K7 a w10 := by
    clear hF
    intro v9 w10 a hF h; replace h := hJ _ _ h; refine hK8 _ _ ?_; clear hJ hK8 K7
    refine wp_ret ?_
    exact ret_of hF (res1 hF rfl rfl) ⟨_, rfl, h⟩
  clear hJ hK8
  refine RL.val  hF rfl rfl rfl (r_fieldAddr hF rfl rfl Try.runUnderlying27 rfl Try.sizeOf24 rfl) ?_; clear hF; clear a; intro a hF
  obtain ⟨t13, hct13, h⟩ := h
  refine RL.val  hF rfl rfl rfl (r_load hF rfl rfl Try.isAgg24 hct13) ?_; clear hF; clear a; intro a hF
  refine RL.val  hF rfl rfl rfl (r_len_slice hF rfl rfl Try.runUnderlying24) ?_; clear hF; clear a; intro a hF
  refine RL.val  hF rfl rfl rfl (r_geq hF rfl rfl rfl) ?_; clear hF; clear a; intro a hF
  refine RL.val  hF rfl rfl rfl (r_move hF rfl rfl) ?_; clear hF; clear a; intro a hF
  obtain ⟨ht, hf⟩ := h
  rcases bool_cases (decide ((t13.len : Int) ≥ 1)) with hg14 | hg14
  · replace h := ht hg14; clear ht hf
    refine RL.gval  hF rfl rfl (lkb rfl hg14) rfl rfl (r_fieldAddr hF rfl rfl Try.runUnderlying27 rfl Try.sizeOf24 rfl) ?_; clear hF; clear a; intro a hF
    obtain ⟨t15, hct15, h⟩ := h
    refine RL.gval  hF rfl rfl (lkb rfl hg14) rfl rfl (r_load hF rfl rfl Try.isAgg24 hct15) ?_; clear hF; clear a; intro a hF
    refine RL.gval  hF rfl rfl (lkb rfl hg14) rfl rfl (r_len_slice hF rfl rfl Try.runUnderlying24) ?_; clear hF; clear a; intro a hF
    refine RL.gval  hF rfl rfl (lkb rfl hg14) rfl rfl (r_move hF rfl rfl) ?_; clear hF; clear a; intro a hF
    refine RL.gval  hF rfl rfl (lkb rfl hg14) rfl rfl (r_leq hF rfl rfl rfl) ?_; clear hF; clear a; intro a hF
    refine RL.val (v := .bool (decide ((t15.len : Int) ≤ a1))) (w' := w4) hF rfl rfl rfl (r_pick hF rfl rfl rfl rfl (fun _ => rfl) (fun e => absurd (hg14.symm.trans e) (by decide))) ?_; clear hF; clear a; intro a hF
    refine RL.val  hF rfl rfl rfl (r_move hF rfl rfl) ?_; clear hF; clear a; intro a hF
    obtain ⟨ht, hf⟩ := h
    rcases bool_cases (decide ((t15.len : Int) ≤ a1)) with hg16 | hg16
    · replace h := ht hg16; clear ht hf
      refine RL.gval  hF rfl rfl (lkb rfl hg16) rfl rfl (r_fieldAddr hF rfl rfl Try.runUnderlying27 rfl Try.sizeOf24 rfl) ?_; clear hF; clear a; intro a hF
      obtain ⟨t17, hct17, h⟩ := h
      refine RL.gval  hF rfl rfl (lkb rfl hg16) rfl rfl (r_load hF rfl rfl Try.isAgg24 hct17) ?_; clear hF; clear a; intro a hF
      refine RL.gval  hF rfl rfl (lkb rfl hg16) rfl rfl (r_move hF rfl rfl) ?_; clear hF; clear a; intro a hF
      refine RL.gcall hF rfl rfl (lkb rfl hg16) rfl rfl (r_call (xs := [t17.v, (Value.func (Fn.func 26) #[] #[])]) hF rfl rfl Try.call27) (CallsV.mono h ?_)
      clear h; rintro _ w18 ⟨r19, rfl, h⟩; clear hF; clear a; intro a hF
      refine RL.gval  hF rfl rfl (lkb rfl hg16) rfl rfl (r_not hF rfl rfl) ?_; clear hF; clear a; intro a hF
      refine RL.val (v := .bool (!r19)) (w' := w18) hF rfl rfl rfl (r_pick hF rfl rfl rfl rfl (fun _ => rfl) (fun e => absurd (hg16.symm.trans e) (by decide))) ?_; clear hF; clear a; intro a hF
      refine RL.val  hF rfl rfl rfl (r_move hF rfl rfl) ?_; clear hF; clear a; intro a hF
      obtain ⟨ht, hf⟩ := h
      rcases bool_cases (!r19) with hg20 | hg20
      · replace h := ht hg20; clear ht hf
        refine RL.gval  hF rfl rfl (lkb rfl hg20) rfl rfl (r_fieldAddr hF rfl rfl Try.runUnderlying27 rfl Try.sizeOf25 rfl) ?_; clear hF; clear a; intro a hF
        obtain ⟨t21, hct21, h⟩ := h
        refine RL.gval  hF rfl rfl (lkb rfl hg20) rfl rfl (r_load hF rfl rfl Try.isAgg25 hct21) ?_; clear hF; clear a; intro a hF
        refine RL.gval  hF rfl rfl (lkb rfl hg20) rfl rfl (r_len_slice hF rfl rfl Try.runUnderlying25) ?_; clear hF; clear a; intro a hF
        refine RL.gval  hF rfl rfl (lkb rfl hg20) rfl rfl (r_leq hF rfl rfl rfl) ?_; clear hF; clear a; intro a hF
        refine RL.val (v := .bool (decide ((t21.len : Int) ≤ 4096))) (w' := w18) hF rfl rfl rfl (r_pick hF rfl rfl rfl rfl (fun _ => rfl) (fun e => absurd (hg20.symm.trans e) (by decide))) ?_; clear hF; clear a; intro a hF
        refine RL.val  hF rfl rfl rfl (r_assign hF rfl rfl) ?_; clear hF; clear a; intro a hF
        refine RL.nil ?_
        exact jn12 (decide ((t21.len : Int) ≤ 4096)) _ _ (hF.sub rfl) h
      · replace h := hf hg20; clear ht hf
        refine RL.skip hF rfl rfl (lkb rfl hg20) (.inl rfl) rfl rfl ?_; clear hF; clear a; intro a hF
        refine RL.skip hF rfl rfl (lkb rfl hg20) (.inl rfl) rfl rfl ?_; clear hF; clear a; intro a hF
        refine RL.skip hF rfl rfl (lkb rfl hg20) (.inl rfl) rfl rfl ?_; clear hF; clear a; intro a hF
        refine RL.skip hF rfl rfl (lkb rfl hg20) (.inl rfl) rfl rfl ?_; clear hF; clear a; intro a hF
        refine RL.val (v := .bool false) (w' := w18) hF rfl rfl rfl (r_pick hF rfl rfl rfl rfl (fun e => absurd (hg20.symm.trans e) (by decide)) (fun _ => rfl)) ?_; clear hF; clear a; intro a hF
        refine RL.val  hF rfl rfl rfl (r_assign hF rfl rfl) ?_; clear hF; clear a; intro a hF
        refine RL.nil ?_
        exact jn12 false _ _ (hF.sub rfl) h
    · replace h := hf hg16; clear ht hf
      refine RL.skip hF rfl rfl (lkb rfl hg16) (.inl rfl) rfl rfl ?_; clear hF; clear a; intro a hF
      refine RL.skip hF rfl rfl (lkb rfl hg16) (.inl rfl) rfl rfl ?_; clear hF; clear a; intro a hF
      refine RL.skip hF rfl rfl (lkb rfl hg16) (.inl rfl) rfl rfl ?_; clear hF; clear a; intro a hF
      refine RL.skip hF rfl rfl (lkb rfl hg16) (.inl rfl) rfl rfl ?_; clear hF; clear a; intro a hF
      refine RL.skip hF rfl rfl (lkb rfl hg16) (.inl rfl) rfl rfl ?_; clear hF; clear a; intro a hF
      refine RL.val (v := .bool false) (w' := w4) hF rfl rfl rfl (r_pick hF rfl rfl rfl rfl (fun e => absurd (hg16.symm.trans e) (by decide)) (fun _ => rfl)) ?_; clear hF; clear a; intro a hF
      refine RL.val  hF rfl rfl rfl (r_move hF rfl rfl) ?_; clear hF; clear a; intro a hF
      refine RL.skip hF rfl rfl rfl (.inl rfl) rfl rfl ?_; clear hF; clear a; intro a hF
      refine RL.skip hF rfl rfl rfl (.inl rfl) rfl rfl ?_; clear hF; clear a; intro a hF
      refine RL.skip hF rfl rfl rfl (.inl rfl) rfl rfl ?_; clear hF; clear a; intro a hF
      refine RL.skip hF rfl rfl rfl (.inl rfl) rfl rfl ?_; clear hF; clear a; intro a hF
      refine RL.val (v := .bool false) (w' := w4) hF rfl rfl rfl (r_pick hF rfl rfl rfl rfl (fun e => absurd e (by decide)) (fun _ => rfl)) ?_; clear hF; clear a; intro a hF
      refine RL.val  hF rfl rfl rfl (r_assign hF rfl rfl) ?_; clear hF; clear a; intro a hF
      refine RL.nil ?_
      exact jn12 false _ _ (hF.sub rfl) h
  · replace h := hf hg14; clear ht hf
    refine RL.skip hF rfl rfl (lkb rfl hg14) (.inl rfl) rfl rfl ?_; clear hF; clear a; intro a hF
    refine RL.skip hF rfl rfl (lkb rfl hg14) (.inl rfl) rfl rfl ?_; clear hF; clear a; intro a hF
    refine RL.skip hF rfl rfl (lkb rfl hg14) (.inl rfl) rfl rfl ?_; clear hF; clear a; intro a hF
    refine RL.skip hF rfl rfl (lkb rfl hg14) (.inl rfl) rfl rfl ?_; clear hF; clear a; intro a hF
    refine RL.skip hF rfl rfl (lkb rfl hg14) (.inl rfl) rfl rfl ?_; clear hF; clear a; intro a hF
    refine RL.val (v := .bool false) (w' := w4) hF rfl rfl rfl (r_pick hF rfl rfl rfl rfl (fun e => absurd (hg14.symm.trans e) (by decide)) (fun _ => rfl)) ?_; clear hF; clear a; intro a hF
    refine RL.val  hF rfl rfl rfl (r_move hF rfl rfl) ?_; clear hF; clear a; intro a hF
    refine RL.skip hF rfl rfl rfl (.inl rfl) rfl rfl ?_; clear hF; clear a; intro a hF
    refine RL.skip hF rfl rfl rfl (.inl rfl) rfl rfl ?_; clear hF; clear a; intro a hF
    refine RL.skip hF rfl rfl rfl (.inl rfl) rfl rfl ?_; clear hF; clear a; intro a hF
    refine RL.skip hF rfl rfl rfl (.inl rfl) rfl rfl ?_; clear hF; clear a; intro a hF
    refine RL.skip hF rfl rfl rfl (.inl rfl) rfl rfl ?_; clear hF; clear a; intro a hF
    refine RL.val (v := .bool false) (w' := w4) hF rfl rfl rfl (r_pick hF rfl rfl rfl rfl (fun e => absurd e (by decide)) (fun _ => rfl)) ?_; clear hF; clear a; intro a hF
    refine RL.val  hF rfl rfl rfl (r_move hF rfl rfl) ?_; clear hF; clear a; intro a hF
    refine RL.skip hF rfl rfl rfl (.inl rfl) rfl rfl ?_; clear hF; clear a; intro a hF
    refine RL.skip hF rfl rfl rfl (.inl rfl) rfl rfl ?_; clear hF; clear a; intro a hF
    refine RL.skip hF rfl rfl rfl (.inl rfl) rfl rfl ?_; clear hF; clear a; intro a hF
    refine RL.skip hF rfl rfl rfl (.inl rfl) rfl rfl ?_; clear hF; clear a; intro a hF
    refine RL.val (v := .bool false) (w' := w4) hF rfl rfl rfl (r_pick hF rfl rfl rfl rfl (fun e => absurd e (by decide)) (fun _ => rfl)) ?_; clear hF; clear a; intro a hF
    refine RL.val  hF rfl rfl rfl (r_assign hF rfl rfl) ?_; clear hF; clear a; intro a hF
    refine RL.nil ?_
    exact jn12 false _ _ (hF.sub rfl) h

set_option maxRecDepth 20000 in
theorem br11 {a0 : Array Value} {w : World} {K : Bool → World → Prop} (h : sh11 a0 w K) : C11 a0 w K := by
  unfold sh11 at h
  refine enter (n := 67) (l := [(0, .agg a0)]) 66 Try.func11 rfl _ rfl rfl rfl fun a hF => ?_
  refine seq_region fun K1 hK2 => ?_
  obtain ⟨p3, w4, hp_, hw_, h⟩ := h
  refine RL.val (v := .pointer (some p3)) (w' := w4) hF rfl rfl rfl (by rw [hp_, hw_]; exact r_box hF rfl rfl rfl) ?_; clear hF; clear a; intro a hF
  refine RL.val  hF rfl rfl rfl (r_assign hF rfl rfl) ?_; clear hF; clear a; intro a hF
  refine RL.nil (hK2 _ _ ?_)
  clear hK2 K1
  refine seq_k fun K5 hK6 => ?_
  obtain ⟨J, hJ, h⟩ := jn_open h
  have jn10 : ∀ (v7 : Unit) (w8 : World) a, Fr 67 a [] → J v7 w8 → K5 a w8 := by
    intro v7 w8 a hF h
    replace h := hJ _ _ h
    clear hJ
    refine hK6 _ _ ?_
    refine seq_region fun K11 hK12 => ?_
    refine RL.val  hF rfl rfl rfl (r_assign hF rfl rfl) ?_; clear hF; clear a; intro a hF
    refine RL.nil (hK12 _ _ ?_)
    clear hK12 K11
    refine wp_ret ?_
    exact ret_of hF (res1 hF rfl rfl) ⟨_, rfl, h⟩
  clear hJ
  refine seq_region fun K13 hK14 => ?_
  refine RL.val  hF rfl rfl rfl (r_fieldAddr0 hF rfl rfl Try.runUnderlying27 rfl Try.sizeOf3 rfl) ?_; clear hF; clear a; intro a hF
  obtain ⟨t15, hct15, h⟩ := h
  refine RL.val  hF rfl rfl rfl (r_load hF rfl rfl Try.isAgg3 hct15) ?_; clear hF; clear a; intro a hF
  refine RL.nil (hK14 _ _ ?_)
  clear hK14 K13
  refine wp_block ?_
  refine seq_region fun K16 hK17 => ?_
  refine RL.val  hF rfl rfl rfl (r_eql hF rfl rfl rfl) ?_; clear hF; clear a; intro a hF
  refine RL.val  hF rfl rfl rfl (r_assign hF rfl rfl) ?_; clear hF; clear a; intro a hF
  refine RL.nil (hK17 _ _ ?_)
  clear hK17 K16
  obtain ⟨ht, hf⟩ := h
  refine cond_ hF rfl (fun hc => ?_) (fun hc => ?_)
  · replace h := ht hc; clear ht hf
    refine seq_k fun K18 hK19 => ?_
    obtain ⟨J, hJ, h⟩ := jn_open h
    have jn23 : ∀ (v20 : Unit) (w21 : World) a, Fr 67 a [(1, .pointer (some p3))] → J v20 w21 → K18 a w21 := by
      intro v20 w21 a hF h
      replace h := hJ _ _ h
      clear hJ
      refine hK19 _ _ ?_
      refine seq_region fun K24 hK25 => ?_
      obtain ⟨J28, hJ, h⟩ := jn_open h
      have jn29 : ∀ (v26 : Bool) (w27 : World) a, Fr 67 a [(2, .bool v26)] → J28 v26 w27 → K24 a w27 := by
        clear hF
        intro v26 w27 a hF h; replace h := hJ _ _ h; refine hK25 _ _ ?_; clear hJ hK25 K24
        refine wp_ret ?_
        exact ret_of hF (res1 hF rfl rfl) ⟨_, rfl, h⟩
      clear hJ hK25
      obtain ⟨t30, hct30, h⟩ := h
      refine RL.val  hF rfl rfl rfl (r_loadA hF rfl rfl Try.isAgg27 Try.sizeOf27 hct30) ?_; clear hF; clear a; intro a hF
      refine RL.call hF rfl rfl rfl (r_call (xs := [.agg t30, .int .i64 8]) hF rfl rfl Try.call18) (CallsV.mono h ?_)
      clear h; rintro _ w31 ⟨r32, rfl, h⟩; clear hF; clear a; intro a hF
      refine RL.val  hF rfl rfl rfl (r_move hF rfl rfl) ?_; clear hF; clear a; intro a hF
      obtain ⟨ht, hf⟩ := h
      rcases bool_cases r32 with hg33 | hg33
      · replace h := ht hg33; clear ht hf
        refine RL.gval  hF rfl rfl (lkb rfl hg33) rfl rfl (r_fieldAddr hF rfl rfl Try.runUnderlying27 rfl Try.sizeOf9 rfl) ?_; clear hF; clear a; intro a hF
        obtain ⟨t34, hct34, h⟩ := h
        refine RL.gval  hF rfl rfl (lkb rfl hg33) rfl rfl (r_load hF rfl rfl Try.isAgg9 hct34) ?_; clear hF; clear a; intro a hF
        refine RL.gval  hF rfl rfl (lkb rfl hg33) rfl rfl (r_len_str hF rfl rfl Try.runUnderlying9) ?_; clear hF; clear a; intro a hF
        refine RL.gval  hF rfl rfl (lkb rfl hg33) rfl rfl (r_leq hF rfl rfl rfl) ?_; clear hF; clear a; intro a hF
        refine RL.val (v := .bool (decide ((t34.size : Int) ≤ 255))) (w' := w31) hF rfl rfl rfl (r_pick hF rfl rfl rfl rfl (fun _ => rfl) (fun e => absurd (hg33.symm.trans e) (by decide))) ?_; clear hF; clear a; intro a hF
        refine RL.val  hF rfl rfl rfl (r_move hF rfl rfl) ?_; clear hF; clear a; intro a hF
        obtain ⟨ht, hf⟩ := h
        rcases bool_cases (decide ((t34.size : Int) ≤ 255)) with hg35 | hg35
        · replace h := ht hg35; clear ht hf
          refine RL.gval  hF rfl rfl (lkb rfl hg35) rfl rfl (r_fieldAddr hF rfl rfl Try.runUnderlying27 rfl Try.sizeOf25 rfl) ?_; clear hF; clear a; intro a hF
          obtain ⟨t36, hct36, h⟩ := h
          refine RL.gval  hF rfl rfl (lkb rfl hg35) rfl rfl (r_load hF rfl rfl Try.isAgg25 hct36) ?_; clear hF; clear a; intro a hF
          refine RL.gval  hF rfl rfl (lkb rfl hg35) rfl rfl (r_len_slice hF rfl rfl Try.runUnderlying25) ?_; clear hF; clear a; intro a hF
          refine RL.gval  hF rfl rfl (lkb rfl hg35) rfl rfl (r_leq hF rfl rfl rfl) ?_; clear hF; clear a; intro a hF
          refine RL.val (v := .bool (decide ((t36.len : Int) ≤ 512))) (w' := w31) hF rfl rfl rfl (r_pick hF rfl rfl rfl rfl (fun _ => rfl) (fun e => absurd (hg35.symm.trans e) (by decide))) ?_; clear hF; clear a; intro a hF
          refine RL.val  hF rfl rfl rfl (r_assign hF rfl rfl) ?_; clear hF; clear a; intro a hF
          refine RL.nil ?_
          exact jn29 (decide ((t36.len : Int) ≤ 512)) _ _ (hF.sub rfl) h
        · replace h := hf hg35; clear ht hf
          refine RL.skip hF rfl rfl (lkb rfl hg35) (.inl rfl) rfl rfl ?_; clear hF; clear a; intro a hF
          refine RL.skip hF rfl rfl (lkb rfl hg35) (.inl rfl) rfl rfl ?_; clear hF; clear a; intro a hF
          refine RL.skip hF rfl rfl (lkb rfl hg35) (.inl rfl) rfl rfl ?_; clear hF; clear a; intro a hF
          refine RL.skip hF rfl rfl (lkb rfl hg35) (.inl rfl) rfl rfl ?_; clear hF; clear a; intro a hF
          refine RL.val (v := .bool false) (w' := w31) hF rfl rfl rfl (r_pick hF rfl rfl rfl rfl (fun e => absurd (hg35.symm.trans e) (by decide)) (fun _ => rfl)) ?_; clear hF; clear a; intro a hF
          refine RL.val  hF rfl rfl rfl (r_assign hF rfl rfl) ?_; clear hF; clear a; intro a hF
          refine RL.nil ?_
          exact jn29 false _ _ (hF.sub rfl) h
      · replace h := hf hg33; clear ht hf
        refine RL.skip hF rfl rfl (lkb rfl hg33) (.inl rfl) rfl rfl ?_; clear hF; clear a; intro a hF
        refine RL.skip hF rfl rfl (lkb rfl hg33) (.inl rfl) rfl rfl ?_; clear hF; clear a; intro a hF
        refine RL.skip hF rfl rfl (lkb rfl hg33) (.inl rfl) rfl rfl ?_; clear hF; clear a; intro a hF
        refine RL.skip hF rfl rfl (lkb rfl hg33) (.inl rfl) rfl rfl ?_; clear hF; clear a; intro a hF
        refine RL.val (v := .bool false) (w' := w31) hF rfl rfl rfl (r_pick hF rfl rfl rfl rfl (fun e => absurd (hg33.symm.trans e) (by decide)) (fun _ => rfl)) ?_; clear hF; clear a; intro a hF
        refine RL.val  hF rfl rfl rfl (r_move hF rfl rfl) ?_; clear hF; clear a; intro a hF
        refine RL.skip hF rfl rfl rfl (.inl rfl) rfl rfl ?_; clear hF; clear a; intro a hF
        refine RL.skip hF rfl rfl rfl (.inl rfl) rfl rfl ?_; clear hF; clear a; intro a hF
        refine RL.skip hF rfl rfl rfl (.inl rfl) rfl rfl ?_; clear hF; clear a; intro a hF
        refine RL.skip hF rfl rfl rfl (.inl rfl) rfl rfl ?_; clear hF; clear a; intro a hF
        refine RL.val (v := .bool false) (w' := w31) hF rfl rfl rfl (r_pick hF rfl rfl rfl rfl (fun e => absurd e (by decide)) (fun _ => rfl)) ?_; clear hF; clear a; intro a hF
        refine RL.val  hF rfl rfl rfl (r_assign hF rfl rfl) ?_; clear hF; clear a; intro a hF
        refine RL.nil ?_
        exact jn29 false _ _ (hF.sub rfl) h
    clear hJ
    refine seq_region fun K37 hK38 => ?_
    obtain ⟨J41, hJ, h⟩ := jn_open h
    have jn42 : ∀ (v39 : Bool) (w40 : World) a, Fr 67 a [(1, .pointer (some p3)), (20, .bool v39)] → J41 v39 w40 → K37 a w40 := by
      clear hF
      intro v39 w40 a hF h; replace h := hJ _ _ h; refine hK38 _ _ ?_; clear hJ hK38 K37
      obtain ⟨ht, hf⟩ := h
      refine cond_ hF rfl (fun hc => ?_) (fun hc => ?_)
      · replace h := ht hc; clear ht hf
        refine seq_region fun K43 hK44 => ?_
        refine RL.val  hF rfl rfl rfl (r_assign hF rfl rfl) ?_; clear hF; clear a; intro a hF
        refine RL.nil (hK44 _ _ ?_)
        clear hK44 K43
        refine wp_ret ?_
        exact ret_of hF (res1 hF rfl rfl) ⟨_, rfl, h⟩
      · replace h := hf hc; clear ht hf
        refine wp_skip ?_
        exact jn23 () _ _ (hF.sub rfl) h
    clear hJ hK38
    refine RL.val  hF rfl rfl rfl (r_fieldAddr hF rfl rfl Try.runUnderlying27 rfl Try.sizeOf25 rfl) ?_; clear hF; clear a; intro a hF
    obtain ⟨t45, hct45, h⟩ := h
    refine RL.val  hF rfl rfl rfl (r_load hF rfl rfl Try.isAgg25 hct45) ?_; clear hF; clear a; intro a hF
    refine RL.val  hF rfl rfl rfl (r_len_slice hF rfl rfl Try.runUnderlying25) ?_; clear hF; clear a; intro a hF
    refine RL.val  hF rfl rfl rfl (r_eql hF rfl rfl rfl) ?_; clear hF; clear a; intro a hF
    refine RL.val  hF rfl rfl rfl (r_move hF rfl rfl) ?_; clear hF; clear a; intro a hF
    obtain ⟨ht, hf⟩ := h
    rcases bool_cases ((t45.len : Int) == 0) with hg46 | hg46
    · replace h := ht hg46; clear ht hf
      refine RL.gval  hF rfl rfl (lkb rfl hg46) rfl rfl (r_fieldAddr hF rfl rfl Try.runUnderlying27 rfl Try.sizeOf4 rfl) ?_; clear hF; clear a; intro a hF
      obtain ⟨t47, hct47, h⟩ := h
      refine RL.gval  hF rfl rfl (lkb rfl hg46) rfl rfl (r_load hF rfl rfl Try.isAgg4 hct47) ?_; clear hF; clear a; intro a hF
      refine RL.gval  hF rfl rfl (lkb rfl hg46) rfl rfl (r_move hF rfl rfl) ?_; clear hF; clear a; intro a hF
      obtain ⟨ht, hf⟩ := h
      rcases bool_cases t47 with hg48 | hg48
      · replace h := ht hg48; clear ht hf
        refine RL.skip hF rfl rfl (lkb rfl hg48) (.inl rfl) rfl rfl ?_; clear hF; clear a; intro a hF
        refine RL.skip hF rfl rfl (lkb rfl hg48) (.inl rfl) rfl rfl ?_; clear hF; clear a; intro a hF
        refine RL.skip hF rfl rfl (lkb rfl hg48) (.inl rfl) rfl rfl ?_; clear hF; clear a; intro a hF
        refine RL.skip hF rfl rfl (lkb rfl hg48) (.inl rfl) rfl rfl ?_; clear hF; clear a; intro a hF
        refine RL.gval (v := .bool true) (w' := w4) hF rfl rfl (lkb rfl hg46) rfl rfl (r_pick hF rfl rfl rfl rfl (fun _ => rfl) (fun e => absurd (hg48.symm.trans e) (by decide))) ?_; clear hF; clear a; intro a hF
        refine RL.val (v := .bool true) (w' := w4) hF rfl rfl rfl (r_pick hF rfl rfl rfl rfl (fun _ => rfl) (fun e => absurd (hg46.symm.trans e) (by decide))) ?_; clear hF; clear a; intro a hF
        refine RL.nil ?_
        exact jn42 true _ _ (hF.sub rfl) h
      · replace h := hf hg48; clear ht hf
        refine RL.gval  hF rfl rfl (lkb rfl hg48) rfl rfl (r_fieldAddr hF rfl rfl Try.runUnderlying27 rfl Try.sizeOf23 rfl) ?_; clear hF; clear a; intro a hF
        obtain ⟨t49, hct49, h⟩ := h
        refine RL.gval  hF rfl rfl (lkb rfl hg48) rfl rfl (r_loadA hF rfl rfl Try.isAgg23 Try.sizeOf23 hct49) ?_; clear hF; clear a; intro a hF
        refine RL.gval (v := .agg (#[.int .u8 0, .int .u8 0, .int .u8 0, .int .u8 0, .int .u8 0, .int .u8 0, .int .u8 0, .int .u8 0, .int .u8 0, .int .u8 0, .int .u8 0, .int .u8 0, .int .u8 0, .int .u8 0, .int .u8 0, .int .u8 0])) (w' := w4) hF rfl rfl (lkb rfl hg48) rfl rfl (r_build (xs := []) hF rfl rfl (by kernel_rfl)) ?_; clear hF; clear a; intro a hF
        obtain ⟨t50, hc_, h⟩ := h
        refine RL.gval  hF rfl rfl (lkb rfl hg48) rfl rfl (r_aggne hF rfl rfl rfl Try.eqGuardType23 (hc_ _)) ?_; clear hF; clear a; intro a hF
        refine RL.gval (v := .bool (!t50)) (w' := w4) hF rfl rfl (lkb rfl hg46) rfl rfl (r_pick hF rfl rfl rfl rfl (fun e => absurd (hg48.symm.trans e) (by decide)) (fun _ => rfl)) ?_; clear hF; clear a; intro a hF
        refine RL.val (v := .bool (!t50)) (w' := w4) hF rfl rfl rfl (r_pick hF rfl rfl rfl rfl (fun _ => rfl) (fun e => absurd (hg46.symm.trans e) (by decide))) ?_; clear hF; clear a; intro a hF
        refine RL.nil ?_
        exact jn42 (!t50) _ _ (hF.sub rfl) h
    · replace h := hf hg46; clear ht hf
      refine RL.skip hF rfl rfl (lkb rfl hg46) (.inl rfl) rfl rfl ?_; clear hF; clear a; intro a hF
      refine RL.skip hF rfl rfl (lkb rfl hg46) (.inl rfl) rfl rfl ?_; clear hF; clear a; intro a hF
      refine RL.skip hF rfl rfl (lkb rfl hg46) (.inl rfl) rfl rfl ?_; clear hF; clear a; intro a hF
      refine RL.skip hF rfl rfl rfl (.inr rfl) rfl rfl ?_; clear hF; clear a; intro a hF
      refine RL.skip hF rfl rfl rfl (.inr rfl) rfl rfl ?_; clear hF; clear a; intro a hF
      refine RL.skip hF rfl rfl rfl (.inr rfl) rfl rfl ?_; clear hF; clear a; intro a hF
      refine RL.skip hF rfl rfl rfl (.inr rfl) rfl rfl ?_; clear hF; clear a; intro a hF
      refine RL.skip hF rfl rfl (lkb rfl hg46) (.inl rfl) rfl rfl ?_; clear hF; clear a; intro a hF
      refine RL.val (v := .bool false) (w' := w4) hF rfl rfl rfl (r_pick hF rfl rfl rfl rfl (fun e => absurd (hg46.symm.trans e) (by decide)) (fun _ => rfl)) ?_; clear hF; clear a; intro a hF
      refine RL.nil ?_
      exact jn42 false _ _ (hF.sub rfl) h
  · replace h := hf hc; clear ht hf
    refine seq_region fun K51 hK52 => ?_
    refine RL.val  hF rfl rfl rfl (r_eql hF rfl rfl rfl) ?_; clear hF; clear a; intro a hF
    refine RL.val  hF rfl rfl rfl (r_assign hF rfl rfl) ?_; clear hF; clear a; intro a hF
    refine RL.nil (hK52 _ _ ?_)
    clear hK52 K51
    obtain ⟨ht, hf⟩ := h
    refine cond_ hF rfl (fun hc => ?_) (fun hc => ?_)
    · replace h := ht hc; clear ht hf
      refine seq_region fun K53 hK54 => ?_
      obtain ⟨J57, hJ, h⟩ := jn_open h
      have jn58 : ∀ (v55 : Bool) (w56 : World) a, Fr 67 a [(2, .bool v55)] → J57 v55 w56 → K53 a w56 := by
        clear hF
        intro v55 w56 a hF h; replace h := hJ _ _ h; refine hK54 _ _ ?_; clear hJ hK54 K53
        refine wp_ret ?_
        exact ret_of hF (res1 hF rfl rfl) ⟨_, rfl, h⟩
      clear hJ hK54
      refine RL.val  hF rfl rfl rfl (r_fieldAddr hF rfl rfl Try.runUnderlying27 rfl Try.sizeOf3 rfl) ?_; clear hF; clear a; intro a hF
      obtain ⟨t59, hct59, h⟩ := h
      refine RL.val  hF rfl rfl rfl (r_load hF rfl rfl Try.isAgg3 hct59) ?_; clear hF; clear a; intro a hF
      refine RL.val  hF rfl rfl rfl (r_geq hF rfl rfl rfl) ?_; clear hF; clear a; intro a hF
      refine RL.val  hF rfl rfl rfl (r_move hF rfl rfl) ?_; clear hF; clear a; intro a hF
      obtain ⟨ht, hf⟩ := h
      rcases bool_cases (decide (t59 ≥ 0)) with hg60 | hg60
      · replace h := ht hg60; clear ht hf
        refine RL.gval  hF rfl rfl (lkb rfl hg60) rfl rfl (r_fieldAddr hF rfl rfl Try.runUnderlying27 rfl Try.sizeOf3 rfl) ?_; clear hF; clear a; intro a hF
        obtain ⟨t61, hct61, h⟩ := h
        refine RL.gval  hF rfl rfl (lkb rfl hg60) rfl rfl (r_load hF rfl rfl Try.isAgg3 hct61) ?_; clear hF; clear a; intro a hF
        refine RL.gval  hF rfl rfl (lkb rfl hg60) rfl rfl (r_leq hF rfl rfl rfl) ?_; clear hF; clear a; intro a hF
        refine RL.val (v := .bool (decide (t61 ≤ 4294967295))) (w' := w4) hF rfl rfl rfl (r_pick hF rfl rfl rfl rfl (fun _ => rfl) (fun e => absurd (hg60.symm.trans e) (by decide))) ?_; clear hF; clear a; intro a hF
        refine RL.val  hF rfl rfl rfl (r_move hF rfl rfl) ?_; clear hF; clear a; intro a hF
        obtain ⟨ht, hf⟩ := h
        rcases bool_cases (decide (t61 ≤ 4294967295)) with hg62 | hg62
        · replace h := ht hg62; clear ht hf
          refine RL.gval  hF rfl rfl (lkb rfl hg62) rfl rfl (r_fieldAddr hF rfl rfl Try.runUnderlying27 rfl Try.sizeOf25 rfl) ?_; clear hF; clear a; intro a hF
          obtain ⟨t63, hct63, h⟩ := h
          refine RL.gval  hF rfl rfl (lkb rfl hg62) rfl rfl (r_load hF rfl rfl Try.isAgg25 hct63) ?_; clear hF; clear a; intro a hF
          refine RL.gval  hF rfl rfl (lkb rfl hg62) rfl rfl (r_len_slice hF rfl rfl Try.runUnderlying25) ?_; clear hF; clear a; intro a hF
          refine RL.gval  hF rfl rfl (lkb rfl hg62) rfl rfl (r_geq hF rfl rfl rfl) ?_; clear hF; clear a; intro a hF
          refine RL.val (v := .bool (decide ((t63.len : Int) ≥ 1))) (w' := w4) hF rfl rfl rfl (r_pick hF rfl rfl rfl rfl (fun _ => rfl) (fun e => absurd (hg62.symm.trans e) (by decide))) ?_; clear hF; clear a; intro a hF
          refine RL.val  hF rfl rfl rfl (r_move hF rfl rfl) ?_; clear hF; clear a; intro a hF
          obtain ⟨ht, hf⟩ := h
          rcases bool_cases (decide ((t63.len : Int) ≥ 1)) with hg64 | hg64
          · replace h := ht hg64; clear ht hf
            refine RL.gval  hF rfl rfl (lkb rfl hg64) rfl rfl (r_fieldAddr hF rfl rfl Try.runUnderlying27 rfl Try.sizeOf25 rfl) ?_; clear hF; clear a; intro a hF
            obtain ⟨t65, hct65, h⟩ := h
            refine RL.gval  hF rfl rfl (lkb rfl hg64) rfl rfl (r_load hF rfl rfl Try.isAgg25 hct65) ?_; clear hF; clear a; intro a hF
            refine RL.gval  hF rfl rfl (lkb rfl hg64) rfl rfl (r_len_slice hF rfl rfl Try.runUnderlying25) ?_; clear hF; clear a; intro a hF
            refine RL.gval  hF rfl rfl (lkb rfl hg64) rfl rfl (r_leq hF rfl rfl rfl) ?_; clear hF; clear a; intro a hF
            refine RL.val (v := .bool (decide ((t65.len : Int) ≤ 512))) (w' := w4) hF rfl rfl rfl (r_pick hF rfl rfl rfl rfl (fun _ => rfl) (fun e => absurd (hg64.symm.trans e) (by decide))) ?_; clear hF; clear a; intro a hF
            refine RL.val  hF rfl rfl rfl (r_assign hF rfl rfl) ?_; clear hF; clear a; intro a hF
            refine RL.nil ?_
            exact jn58 (decide ((t65.len : Int) ≤ 512)) _ _ (hF.sub rfl) h
          · replace h := hf hg64; clear ht hf
            refine RL.skip hF rfl rfl (lkb rfl hg64) (.inl rfl) rfl rfl ?_; clear hF; clear a; intro a hF
            refine RL.skip hF rfl rfl (lkb rfl hg64) (.inl rfl) rfl rfl ?_; clear hF; clear a; intro a hF
            refine RL.skip hF rfl rfl (lkb rfl hg64) (.inl rfl) rfl rfl ?_; clear hF; clear a; intro a hF
            refine RL.skip hF rfl rfl (lkb rfl hg64) (.inl rfl) rfl rfl ?_; clear hF; clear a; intro a hF
            refine RL.val (v := .bool false) (w' := w4) hF rfl rfl rfl (r_pick hF rfl rfl rfl rfl (fun e => absurd (hg64.symm.trans e) (by decide)) (fun _ => rfl)) ?_; clear hF; clear a; intro a hF
            refine RL.val  hF rfl rfl rfl (r_assign hF rfl rfl) ?_; clear hF; clear a; intro a hF
            refine RL.nil ?_
            exact jn58 false _ _ (hF.sub rfl) h
        · replace h := hf hg62; clear ht hf
          refine RL.skip hF rfl rfl (lkb rfl hg62) (.inl rfl) rfl rfl ?_; clear hF; clear a; intro a hF
          refine RL.skip hF rfl rfl (lkb rfl hg62) (.inl rfl) rfl rfl ?_; clear hF; clear a; intro a hF
          refine RL.skip hF rfl rfl (lkb rfl hg62) (.inl rfl) rfl rfl ?_; clear hF; clear a; intro a hF
          refine RL.skip hF rfl rfl (lkb rfl hg62) (.inl rfl) rfl rfl ?_; clear hF; clear a; intro a hF
          refine RL.val (v := .bool false) (w' := w4) hF rfl rfl rfl (r_pick hF rfl rfl rfl rfl (fun e => absurd (hg62.symm.trans e) (by decide)) (fun _ => rfl)) ?_; clear hF; clear a; intro a hF
          refine RL.val  hF rfl rfl rfl (r_move hF rfl rfl) ?_; clear hF; clear a; intro a hF
          refine RL.skip hF rfl rfl rfl (.inl rfl) rfl rfl ?_; clear hF; clear a; intro a hF
          refine RL.skip hF rfl rfl rfl (.inl rfl) rfl rfl ?_; clear hF; clear a; intro a hF
          refine RL.skip hF rfl rfl rfl (.inl rfl) rfl rfl ?_; clear hF; clear a; intro a hF
          refine RL.skip hF rfl rfl rfl (.inl rfl) rfl rfl ?_; clear hF; clear a; intro a hF
          refine RL.val (v := .bool false) (w' := w4) hF rfl rfl rfl (r_pick hF rfl rfl rfl rfl (fun e => absurd e (by decide)) (fun _ => rfl)) ?_; clear hF; clear a; intro a hF
          refine RL.val  hF rfl rfl rfl (r_assign hF rfl rfl) ?_; clear hF; clear a; intro a hF
          refine RL.nil ?_
          exact jn58 false _ _ (hF.sub rfl) h
      · replace h := hf hg60; clear ht hf
        refine RL.skip hF rfl rfl (lkb rfl hg60) (.inl rfl) rfl rfl ?_; clear hF; clear a; intro a hF
        refine RL.skip hF rfl rfl (lkb rfl hg60) (.inl rfl) rfl rfl ?_; clear hF; clear a; intro a hF
        refine RL.skip hF rfl rfl (lkb rfl hg60) (.inl rfl) rfl rfl ?_; clear hF; clear a; intro a hF
        refine RL.val (v := .bool false) (w' := w4) hF rfl rfl rfl (r_pick hF rfl rfl rfl rfl (fun e => absurd (hg60.symm.trans e) (by decide)) (fun _ => rfl)) ?_; clear hF; clear a; intro a hF
        refine RL.val  hF rfl rfl rfl (r_move hF rfl rfl) ?_; clear hF; clear a; intro a hF
        refine RL.skip hF rfl rfl rfl (.inl rfl) rfl rfl ?_; clear hF; clear a; intro a hF
        refine RL.skip hF rfl rfl rfl (.inl rfl) rfl rfl ?_; clear hF; clear a; intro a hF
        refine RL.skip hF rfl rfl rfl (.inl rfl) rfl rfl ?_; clear hF; clear a; intro a hF
        refine RL.skip hF rfl rfl rfl (.inl rfl) rfl rfl ?_; clear hF; clear a; intro a hF
        refine RL.val (v := .bool false) (w' := w4) hF rfl rfl rfl (r_pick hF rfl rfl rfl rfl (fun e => absurd e (by decide)) (fun _ => rfl)) ?_; clear hF; clear a; intro a hF
        refine RL.val  hF rfl rfl rfl (r_move hF rfl rfl) ?_; clear hF; clear a; intro a hF
        refine RL.skip hF rfl rfl rfl (.inl rfl) rfl rfl ?_; clear hF; clear a; intro a hF
        refine RL.skip hF rfl rfl rfl (.inl rfl) rfl rfl ?_; clear hF; clear a; intro a hF
        refine RL.skip hF rfl rfl rfl (.inl rfl) rfl rfl ?_; clear hF; clear a; intro a hF
        refine RL.skip hF rfl rfl rfl (.inl rfl) rfl rfl ?_; clear hF; clear a; intro a hF
        refine RL.val (v := .bool false) (w' := w4) hF rfl rfl rfl (r_pick hF rfl rfl rfl rfl (fun e => absurd e (by decide)) (fun _ => rfl)) ?_; clear hF; clear a; intro a hF
        refine RL.val  hF rfl rfl rfl (r_assign hF rfl rfl) ?_; clear hF; clear a; intro a hF
        refine RL.nil ?_
        exact jn58 false _ _ (hF.sub rfl) h
    · replace h := hf hc; clear ht hf
      refine seq_region fun K66 hK67 => ?_
      refine RL.val  hF rfl rfl rfl (r_eql hF rfl rfl rfl) ?_; clear hF; clear a; intro a hF
      refine RL.val  hF rfl rfl rfl (r_assign hF rfl rfl) ?_; clear hF; clear a; intro a hF
      refine RL.nil (hK67 _ _ ?_)
      clear hK67 K66
      obtain ⟨ht, hf⟩ := h
      refine cond_ hF rfl (fun hc => ?_) (fun hc => ?_)
      · replace h := ht hc; clear ht hf
        refine seq_region fun K68 hK69 => ?_
        obtain ⟨t70, hct70, h⟩ := h
        refine RL.val  hF rfl rfl rfl (r_loadA hF rfl rfl Try.isAgg27 Try.sizeOf27 hct70) ?_; clear hF; clear a; intro a hF
        refine RL.call hF rfl rfl rfl (r_call (xs := [.agg t70, .int .i64 1]) hF rfl rfl Try.call18) (CallsV.mono h ?_)
        clear h; rintro _ w71 ⟨r72, rfl, h⟩; clear hF; clear a; intro a hF
        refine RL.val  hF rfl rfl rfl (r_assign hF rfl rfl) ?_; clear hF; clear a; intro a hF
        refine RL.nil (hK69 _ _ ?_)
        clear hK69 K68
        refine wp_ret ?_
        exact ret_of hF (res1 hF rfl rfl) ⟨_, rfl, h⟩
      · replace h := hf hc; clear ht hf
        refine seq_region fun K73 hK74 => ?_
        refine RL.val  hF rfl rfl rfl (r_eql hF rfl rfl rfl) ?_; clear hF; clear a; intro a hF
        refine RL.val  hF rfl rfl rfl (r_assign hF rfl rfl) ?_; clear hF; clear a; intro a hF
        refine RL.nil (hK74 _ _ ?_)
        clear hK74 K73
        obtain ⟨ht, hf⟩ := h
        refine cond_ hF rfl (fun hc => ?_) (fun hc => ?_)
        · replace h := ht hc; clear ht hf
          refine seq_region fun K75 hK76 => ?_
          refine RL.val  hF rfl rfl rfl (r_fieldAddr hF rfl rfl Try.runUnderlying27 rfl Try.sizeOf9 rfl) ?_; clear hF; clear a; intro a hF
          obtain ⟨t77, hct77, h⟩ := h
          refine RL.val  hF rfl rfl rfl (r_load hF rfl rfl Try.isAgg9 hct77) ?_; clear hF; clear a; intro a hF
          refine RL.val  hF rfl rfl rfl (r_len_str hF rfl rfl Try.runUnderlying9) ?_; clear hF; clear a; intro a hF
          refine RL.val  hF rfl rfl rfl (r_leq hF rfl rfl rfl) ?_; clear hF; clear a; intro a hF
          refine RL.val  hF rfl rfl rfl (r_assign hF rfl rfl) ?_; clear hF; clear a; intro a hF
          refine RL.nil (hK76 _ _ ?_)
          clear hK76 K75
          refine wp_ret ?_
          exact ret_of hF (res1 hF rfl rfl) ⟨_, rfl, h⟩
        · replace h := hf hc; clear ht hf
          refine wp_skip ?_
          exact jn10 () _ _ (hF.sub rfl) h

set_option maxRecDepth 20000 in
theorem br19 {a0 : Option Addr} {a1 : Array Value} {w : World} {K : World → Prop} (h : sh19 a0 a1 w K) : C19 a0 a1 w K := by
  unfold sh19 at h
  refine enter (n := 13) (l := [(0, .pointer a0), (1, .agg a1)]) 11 Try.func19 rfl _ rfl rfl rfl fun a hF => ?_
  refine seq_region fun K1 hK2 => ?_
  obtain ⟨p3, w4, hp_, hw_, h⟩ := h
  refine RL.val (v := .pointer (some p3)) (w' := w4) hF rfl rfl rfl (by rw [hp_, hw_]; exact r_box hF rfl rfl rfl) ?_; clear hF; clear a; intro a hF
  refine RL.nil (hK2 _ _ ?_)
  clear hK2 K1
  refine end_draw 576 #[0, 0, 2, 6, 14, 0, 62, 127, 255, 511] 10 mo rfl (by kernel_rfl) (by kernel_rfl) fun hS K5 hK6 => ?_
  obtain ⟨w7, hw, h⟩ := h; rw [← hw]; clear hw
  refine GL.val (v := .pointer a0) (i := 0) hF hS rfl rfl (by kernel_rfl) rfl rfl rfl rfl (fun x => r_move hF rfl rfl) ?_; clear hF; clear a; intro a hF
  refine GL.val (v := .pointer a0) (i := 1) hF hS rfl rfl (by kernel_rfl) rfl rfl rfl rfl (fun x => r_move hF rfl rfl) ?_; clear hF; clear a; intro a hF
  obtain ⟨p8, hpp8, h⟩ := h
  refine GL.val (v := .pointer (some p8)) (i := 2) hF hS rfl rfl (by kernel_rfl) rfl rfl rfl rfl (fun x => r_nilCheck hF rfl (lkp rfl hpp8)) ?_; clear hF; clear a; intro a hF
  refine GL.val (v := .pointer (some p8)) (i := 3) hF hS rfl rfl (by kernel_rfl) rfl rfl rfl rfl (fun x => r_fieldAddr0 hF rfl rfl Try.runUnderlying42 rfl Try.sizeOf25 rfl) ?_; clear hF; clear a; intro a hF
  obtain ⟨t9, hct9, h⟩ := h
  refine GL.read (v := t9.v) (i := 4) hF (fun x => World.cell? x p8 = some (t9.v)) hS rfl rfl (by kernel_rfl) rfl rfl rfl rfl hct9 (fun x hx => r_load hF rfl rfl Try.isAgg25 hx) ?_; clear hF; clear a; intro a hF
  refine GL.val (v := (Slc.sub ⟨some p3, 16, 16⟩ 1 0 16 16).v) (i := 5) hF hS rfl rfl (by kernel_rfl) rfl rfl rfl rfl (fun x => r_slice (lo' := none) (hi' := none) (mx' := none) hF rfl rfl rfl rfl rfl (arr_at Try.runUnderlying23 Try.sizeOf5 (bounds00 ))) ?_; clear hF; clear a; intro a hF
  refine GL.act (i := 6) (pend' := []) hS (by kernel_rfl) rfl (by kernel_rfl) ?_
  obtain ⟨t11, w10, hc_, h⟩ := h
  refine op_val  hF rfl rfl rfl rfl (r_append (xs := [t9.v, (Slc.sub ⟨some p3, 16, 16⟩ 1 0 16 16).v]) hF rfl rfl hc_) trivial ?_; clear hF; clear a; intro a hF
  obtain ⟨p12, hpp12, h⟩ := h
  refine GL.val (v := .pointer (some p12)) (i := 7) hF hS rfl rfl (by kernel_rfl) rfl rfl rfl rfl (fun x => r_nilCheck hF rfl (lkp rfl hpp12)) ?_; clear hF; clear a; intro a hF
  refine GL.val (v := .pointer (some p12)) (i := 8) hF hS rfl rfl (by kernel_rfl) rfl rfl rfl rfl (fun x => r_fieldAddr0 hF rfl rfl Try.runUnderlying42 rfl Try.sizeOf25 rfl) ?_; clear hF; clear a; intro a hF
  refine GL.act (i := 9) (pend' := []) hS (by kernel_rfl) rfl (by kernel_rfl) ?_
  obtain ⟨u_, w13, hs1_, hs2_, hs3_, h⟩ := h
  refine op_unit (w' := w13) hF rfl rfl rfl (by rw [hs3_]; exact r_store hF rfl rfl rfl rfl Try.sizeOf25 hs1_ hs2_) trivial ?_; clear hF; clear a; intro a hF
  refine GL.done (by kernel_rfl) (hK6 _ _ ?_)
  clear hK6 K5
  exact end_of hF (res0 rfl) ⟨rfl, h⟩

set_option maxRecDepth 20000 in
theorem br30 {a0 : Slc} {w : World} {K : Slc → World → Prop} (h : sh30 a0 w K) : C30 a0 w K := by
  unfold sh30 at h
  refine enter (n := 8) (l := [(0, a0.v)]) 7 Try.func30 rfl _ rfl rfl rfl fun a hF => ?_
  refine seq_region fun K1 hK2 => ?_
  refine RL.val  hF rfl rfl rfl (r_assign hF rfl rfl) ?_; clear hF; clear a; intro a hF
  refine RL.nil (hK2 _ _ ?_)
  clear hK2 K1
  refine seq_k fun K3 hK4 => ?_
  obtain ⟨J, hJ, h⟩ := jn_open h
  have jn8 : ∀ (v5 : Unit) (w6 : World) a, Fr 8 a [(0, a0.v)] → J v5 w6 → K3 a w6 := by
    intro v5 w6 a hF h
    replace h := hJ _ _ h
    clear hJ
    refine hK4 _ _ ?_
    refine seq_region fun K9 hK10 => ?_
    obtain ⟨p12, w11, hp_, hw_, h⟩ := h
    refine RL.val (v := (Slc.mk (some p12) 0 0).v) (w' := w11) hF rfl rfl rfl (by rw [hp_, hw_]; exact r_buildSlice (xs := []) hF rfl rfl (by kernel_rfl)) ?_; clear hF; clear a; intro a hF
    refine RL.val  hF rfl rfl rfl (r_move hF rfl rfl) ?_; clear hF; clear a; intro a hF
    obtain ⟨t14, w13, hc_, h⟩ := h
    refine RL.val  hF rfl rfl rfl (r_append (xs := [(Slc.mk (some p12) 0 0).v, a0.v]) hF rfl rfl hc_) ?_; clear hF; clear a; intro a hF
    refine RL.val  hF rfl rfl rfl (r_assign hF rfl rfl) ?_; clear hF; clear a; intro a hF
    refine RL.nil (hK10 _ _ ?_)
    clear hK10 K9
    refine wp_ret ?_
    exact ret_of hF (res1 hF rfl rfl) ⟨_, rfl, h⟩
  clear hJ
  refine seq_region fun K15 hK16 => ?_
  refine RL.val  hF rfl rfl rfl (r_move hF rfl rfl) ?_; clear hF; clear a; intro a hF
  refine RL.val  hF rfl rfl rfl (r_slcnil hF rfl rfl rfl Try.runUnderlying25) ?_; clear hF; clear a; intro a hF
  refine RL.nil (hK16 _ _ ?_)
  clear hK16 K15
  obtain ⟨ht, hf⟩ := h
  refine cond_ hF rfl (fun hc => ?_) (fun hc => ?_)
  · replace h := ht hc; clear ht hf
    refine seq_region fun K17 hK18 => ?_
    refine RL.val  hF rfl rfl rfl (r_assign hF rfl rfl) ?_; clear hF; clear a; intro a hF
    refine RL.nil (hK18 _ _ ?_)
    clear hK18 K17
    refine wp_ret ?_
    exact ret_of hF (res1 hF rfl rfl) ⟨_, rfl, h⟩
  · replace h := hf hc; clear ht hf
    refine wp_skip ?_
    exact jn8 () _ _ (hF.sub rfl) h

set_option maxRecDepth 20000 in
theorem br28 {a0 : Slc} {a1 : Int} {a2 : Int} {w : World} {K : Slc → World → Prop} (h : sh28 a0 a1 a2 w K) : C28 a0 a1 a2 w K := by
  unfold sh28 at h
  refine enter (n := 28) (l := [(0, a0.v), (1, .int .u64 a1), (2, .int .i64 a2)]) 25 Try.func28 rfl _ rfl rfl rfl fun a hF => ?_
  refine seq_region fun K1 hK2 => ?_
  refine RL.val  hF rfl rfl rfl (r_assign hF rfl rfl) ?_; clear hF; clear a; intro a hF
  refine RL.nil (hK2 _ _ ?_)
  clear hK2 K1
  refine seq_region fun K3 hK4 => ?_
  refine RL.val  hF rfl rfl rfl (r_move hF rfl rfl) ?_; clear hF; clear a; intro a hF
  refine RL.call hF rfl rfl rfl (r_call (xs := [a0.v]) hF rfl rfl Try.call30) (CallsV.mono h ?_)
  clear h; rintro _ w5 ⟨r6, rfl, h⟩; clear hF; clear a; intro a hF
  refine RL.val  hF rfl rfl rfl (r_assign hF rfl rfl) ?_; clear hF; clear a; intro a hF
  refine RL.nil (hK4 _ _ ?_)
  clear hK4 K3
  refine seq_k fun K7 hK8 => ?_
  obtain ⟨J, hJ, h⟩ := jn_open h
  have jn12 : ∀ (v9 : Slc) (w10 : World) a, Fr 28 a [(7, v9.v)] → J v9 w10 → K7 a w10 := by
    intro v9 w10 a hF h
    replace h := hJ _ _ h
    clear hJ
    refine hK8 _ _ ?_
    refine seq_region fun K13 hK14 => ?_
    refine RL.val  hF rfl rfl rfl (r_move hF rfl rfl) ?_; clear hF; clear a; intro a hF
    refine RL.val  hF rfl rfl rfl (r_assign hF rfl rfl) ?_; clear hF; clear a; intro a hF
    refine RL.nil (hK14 _ _ ?_)
    clear hK14 K13
    refine wp_ret ?_
    exact ret_of hF (res1 hF rfl rfl) ⟨_, rfl, h⟩
  clear hJ
  refine seq_region fun K15 hK16 => ?_
  refine RL.val  hF rfl rfl rfl (r_move hF rfl rfl) ?_; clear hF; clear a; intro a hF
  refine RL.val  hF rfl rfl rfl (r_move hF rfl rfl) ?_; clear hF; clear a; intro a hF
  refine RL.nil (hK16 _ _ ?_)
  clear hK16 K15
  refine wp_block ?_
  refine loop_ (fun (s17 : Slc × Int) => [(1, .int .u64 a1), (2, .int .i64 a2), (7, s17.1.v), (11, .int .i64 a2), (12, .int .i64 s17.2)]) (hF.sub rfl) h ?_
  clear hF h
  intro s17 w18 N19 KL hN20 h a hF
  refine seq_region fun K21 hK22 => ?_
  refine RL.val  hF rfl rfl rfl (r_lss hF rfl rfl rfl) ?_; clear hF; clear a; intro a hF
  refine RL.nil (hK22 _ _ ?_)
  clear hK22 K21
  refine seq_k fun K23 hK24 => ?_
  obtain ⟨J, hJ, h⟩ := jn_open h
  have jn28 : ∀ (v25 : Unit) (w26 : World) a, Fr 28 a [(1, .int .u64 a1), (2, .int .i64 a2), (7, s17.1.v), (11, .int .i64 a2), (12, .int .i64 s17.2)] → J v25 w26 → K23 a w26 := by
    intro v25 w26 a hF h
    replace h := hJ _ _ h
    clear hJ
    refine hK24 _ _ ?_
    refine seq_k fun K29 hK30 => ?_
    obtain ⟨J, hJ, h⟩ := jn_open h
    have jn34 : ∀ (v31 : Slc) (w32 : World) a, Fr 28 a [(1, .int .u64 a1), (2, .int .i64 a2), (7, v31.v), (11, .int .i64 a2), (12, .int .i64 s17.2)] → J v31 w32 → K29 a w32 := by
      intro v31 w32 a hF h
      replace h := hJ _ _ h
      clear hJ
      refine hK30 _ _ ?_
      refine end_region fun K35 hK36 => ?_
      refine RL.val  hF rfl rfl rfl (r_add hF rfl rfl rfl) ?_; clear hF; clear a; intro a hF
      refine RL.val  hF rfl rfl rfl (r_move hF rfl rfl) ?_; clear hF; clear a; intro a hF
      refine RL.nil (hK36 _ _ ?_)
      clear hK36 K35
      exact hN20 (v31, IntKind.i64.wrap (s17.2 + 1)) _ _ (hF.sub rfl) h
    clear hJ
    refine wp_block ?_
    refine seq_region fun K37 hK38 => ?_
    refine RL.val  hF rfl rfl rfl (r_move hF rfl rfl) ?_; clear hF; clear a; intro a hF
    refine RL.val  hF rfl rfl rfl (r_assign hF rfl rfl) ?_; clear hF; clear a; intro a hF
    refine RL.nil (hK38 _ _ ?_)
    clear hK38 K37
    refine end_region fun K39 hK40 => ?_
    refine RL.val  hF rfl rfl rfl (r_move hF rfl rfl) ?_; clear hF; clear a; intro a hF
    refine RL.val  hF rfl rfl rfl (r_move hF rfl rfl) ?_; clear hF; clear a; intro a hF
    refine RL.val  hF rfl rfl rfl (r_move hF rfl rfl) ?_; clear hF; clear a; intro a hF
    refine RL.val  hF rfl rfl rfl (r_sub hF rfl rfl rfl) ?_; clear hF; clear a; intro a hF
    refine RL.val  hF rfl rfl rfl (r_move hF rfl rfl) ?_; clear hF; clear a; intro a hF
    refine RL.val  hF rfl rfl rfl (r_sub hF rfl rfl rfl) ?_; clear hF; clear a; intro a hF
    refine RL.val  hF rfl rfl rfl (r_mul hF rfl rfl rfl) ?_; clear hF; clear a; intro a hF
    obtain ⟨h0_, h⟩ := h
    refine RL.val  hF rfl rfl rfl (r_shr hF rfl rfl rfl h0_) ?_; clear hF; clear a; intro a hF
    refine RL.val  hF rfl rfl rfl (r_convInt hF rfl rfl Try.runUnderlying53 Try.runUnderlying5) ?_; clear hF; clear a; intro a hF
    obtain ⟨p42, w41, hp_, hw_, h⟩ := h
    refine RL.val (v := (Slc.mk (some p42) 1 1).v) (w' := w41) hF rfl rfl rfl (by rw [hp_, hw_]; exact r_buildSlice (xs := [(0, .int .u8 (IntKind.u8.wrap (shrZ .u64 a1 (IntKind.i64.wrap (8 * (IntKind.i64.wrap ((IntKind.i64.wrap (a2 - 1)) - s17.2)))))))]) hF rfl rfl (by kernel_rfl)) ?_; clear hF; clear a; intro a hF
    obtain ⟨t44, w43, hc_, h⟩ := h
    refine RL.val  hF rfl rfl rfl (r_append (xs := [s17.1.v, (Slc.mk (some p42) 1 1).v]) hF rfl rfl hc_) ?_; clear hF; clear a; intro a hF
    refine RL.val  hF rfl rfl rfl (r_assign hF rfl rfl) ?_; clear hF; clear a; intro a hF
    refine RL.nil (hK40 _ _ ?_)
    clear hK40 K39
    exact jn34 t44 _ _ (hF.sub rfl) h
  clear hJ
  obtain ⟨ht, hf⟩ := h
  refine cond_ hF rfl (fun hc => ?_) (fun hc => ?_)
  · replace h := ht hc; clear ht hf
    refine wp_skip ?_
    exact jn28 () _ _ (hF.sub rfl) h
  · replace h := hf hc; clear ht hf
    refine wp_exit ?_
    exact jn12 s17.1 _ _ (hF.sub rfl) h

set_option maxRecDepth 20000 in
theorem br21 {a0 : Slc} {a1 : Int} {a2 : Int} {w : World} {K : Slc → Int → World → Prop} (h : sh21 a0 a1 a2 w K) : C21 a0 a1 a2 w K := by
  unfold sh21 at h
  refine enter (n := 18) (l := [(0, a0.v), (1, .int .u64 a1), (2, .int .i64 a2)]) 15 Try.func21 rfl _ rfl rfl rfl fun a hF => ?_
  refine seq_region fun K1 hK2 => ?_
  refine RL.val  hF rfl rfl rfl (r_assign hF rfl rfl) ?_; clear hF; clear a; intro a hF
  refine RL.val  hF rfl rfl rfl (r_assign hF rfl rfl) ?_; clear hF; clear a; intro a hF
  refine RL.nil (hK2 _ _ ?_)
  clear hK2 K1
  refine seq_k fun K3 hK4 => ?_
  obtain ⟨J, hJ, h⟩ := jn_open h
  have jn8 : ∀ (v5 : Unit) (w6 : World) a, Fr 18 a [(0, a0.v), (1, .int .u64 a1), (2, .int .i64 a2)] → J v5 w6 → K3 a w6 := by
    intro v5 w6 a hF h
    replace h := hJ _ _ h
    clear hJ
    refine hK4 _ _ ?_
    refine seq_region fun K9 hK10 => ?_
    refine RL.val  hF rfl rfl rfl (r_move hF rfl rfl) ?_; clear hF; clear a; intro a hF
    refine RL.val  hF rfl rfl rfl (r_move hF rfl rfl) ?_; clear hF; clear a; intro a hF
    refine RL.val  hF rfl rfl rfl (r_move hF rfl rfl) ?_; clear hF; clear a; intro a hF
    refine RL.call hF rfl rfl rfl (r_call (xs := [a0.v, .int .u64 a1, .int .i64 a2]) hF rfl rfl Try.call28) (CallsV.mono h ?_)
    clear h; rintro _ w11 ⟨r12, rfl, h⟩; clear hF; clear a; intro a hF
    refine RL.val  hF rfl rfl rfl (r_assign hF rfl rfl) ?_; clear hF; clear a; intro a hF
    refine RL.val  hF rfl rfl rfl (r_assign hF rfl rfl) ?_; clear hF; clear a; intro a hF
    refine RL.nil (hK10 _ _ ?_)
    clear hK10 K9
    refine wp_ret ?_
    exact ret_of hF (res2 hF rfl rfl rfl) ⟨_, _, rfl, h⟩
  clear hJ
  refine seq_region fun K13 hK14 => ?_
  obtain ⟨J17, hJ, h⟩ := jn_open h
  have jn18 : ∀ (v15 : Bool) (w16 : World) a, Fr 18 a [(0, a0.v), (1, .int .u64 a1), (2, .int .i64 a2), (13, .bool v15)] → J17 v15 w16 → K13 a w16 := by
    clear hF
    intro v15 w16 a hF h; replace h := hJ _ _ h; refine hK14 _ _ ?_; clear hJ hK14 K13
    obtain ⟨ht, hf⟩ := h
    refine cond_ hF rfl (fun hc => ?_) (fun hc => ?_)
    · replace h := ht hc; clear ht hf
      refine seq_region fun K19 hK20 => ?_
      refine RL.val  hF rfl rfl rfl (r_assign hF rfl rfl) ?_; clear hF; clear a; intro a hF
      refine RL.val  hF rfl rfl rfl (r_assign hF rfl rfl) ?_; clear hF; clear a; intro a hF
      refine RL.nil (hK20 _ _ ?_)
      clear hK20 K19
      refine wp_ret ?_
      exact ret_of hF (res2 hF rfl rfl rfl) ⟨_, _, rfl, h⟩
    · replace h := hf hc; clear ht hf
      refine wp_skip ?_
      exact jn8 () _ _ (hF.sub rfl) h
  clear hJ hK14
  refine RL.val  hF rfl rfl rfl (r_move hF rfl rfl) ?_; clear hF; clear a; intro a hF
  refine RL.val  hF rfl rfl rfl (r_lss hF rfl rfl rfl) ?_; clear hF; clear a; intro a hF
  refine RL.val  hF rfl rfl rfl (r_move hF rfl rfl) ?_; clear hF; clear a; intro a hF
  obtain ⟨ht, hf⟩ := h
  rcases bool_cases (decide (a2 < 1)) with hg21 | hg21
  · replace h := ht hg21; clear ht hf
    refine RL.skip hF rfl rfl (lkb rfl hg21) (.inl rfl) rfl rfl ?_; clear hF; clear a; intro a hF
    refine RL.skip hF rfl rfl (lkb rfl hg21) (.inl rfl) rfl rfl ?_; clear hF; clear a; intro a hF
    refine RL.val (v := .bool true) (w' := w) hF rfl rfl rfl (r_pick hF rfl rfl rfl rfl (fun _ => rfl) (fun e => absurd (hg21.symm.trans e) (by decide))) ?_; clear hF; clear a; intro a hF
    refine RL.nil ?_
    exact jn18 true _ _ (hF.sub rfl) h
  · replace h := hf hg21; clear ht hf
    refine RL.gval  hF rfl rfl (lkb rfl hg21) rfl rfl (r_move hF rfl rfl) ?_; clear hF; clear a; intro a hF
    refine RL.gval  hF rfl rfl (lkb rfl hg21) rfl rfl (r_gtr hF rfl rfl rfl) ?_; clear hF; clear a; intro a hF
    refine RL.val (v := .bool (decide (a2 > 8))) (w' := w) hF rfl rfl rfl (r_pick hF rfl rfl rfl rfl (fun e => absurd (hg21.symm.trans e) (by decide)) (fun _ => rfl)) ?_; clear hF; clear a; intro a hF
    refine RL.nil ?_
    exact jn18 (decide (a2 > 8)) _ _ (hF.sub rfl) h

set_option maxRecDepth 20000 in
theorem br13 {a0 : Option Addr} {a1 : Int} {a2 : Int} {w : World} {K : World → Prop} (h : sh13 a0 a1 a2 w K) : C13 a0 a1 a2 w K := by
  unfold sh13 at h
  refine enter (n := 20) (l := [(0, .pointer a0), (1, .int .i64 a1), (2, .int .i64 a2)]) 17 Try.func13 rfl _ rfl rfl rfl fun a hF => ?_
  refine end_region fun K1 hK2 => ?_
  refine RL.val  hF rfl rfl rfl (r_move hF rfl rfl) ?_; clear hF; clear a; intro a hF
  refine RL.val  hF rfl rfl rfl (r_move hF rfl rfl) ?_; clear hF; clear a; intro a hF
  obtain ⟨p3, hpp3, h⟩ := h
  refine RL.val  hF rfl rfl rfl (r_nilCheck hF rfl (lkp rfl hpp3)) ?_; clear hF; clear a; intro a hF
  refine RL.val  hF rfl rfl rfl (r_fieldAddr0 hF rfl rfl Try.runUnderlying42 rfl Try.sizeOf25 rfl) ?_; clear hF; clear a; intro a hF
  obtain ⟨t4, hct4, h⟩ := h
  refine RL.val  hF rfl rfl rfl (r_load hF rfl rfl Try.isAgg25 hct4) ?_; clear hF; clear a; intro a hF
  refine RL.val  hF rfl rfl rfl (r_move hF rfl rfl) ?_; clear hF; clear a; intro a hF
  refine RL.val  hF rfl rfl rfl (r_convInt hF rfl rfl Try.runUnderlying3 Try.runUnderlying53) ?_; clear hF; clear a; intro a hF
  refine RL.val  hF rfl rfl rfl (r_move hF rfl rfl) ?_; clear hF; clear a; intro a hF
  refine RL.call hF rfl rfl rfl (r_call (xs := [t4.v, .int .u64 (IntKind.u64.wrap a1), .int .i64 a2]) hF rfl rfl Try.call21) (CallsV.mono h ?_)
  clear h; rintro _ w5 ⟨r6, r7, rfl, h⟩; clear hF; clear a; intro a hF
  refine RL.val  hF rfl rfl rfl (r_move hF rfl rfl) ?_; clear hF; clear a; intro a hF
  refine RL.val  hF rfl rfl rfl (r_extract hF rfl rfl rfl) ?_; clear hF; clear a; intro a hF
  refine RL.val  hF rfl rfl rfl (r_extract hF rfl rfl rfl) ?_; clear hF; clear a; intro a hF
  obtain ⟨p8, hpp8, h⟩ := h
  refine RL.val  hF rfl rfl rfl (r_nilCheck hF rfl (lkp rfl hpp8)) ?_; clear hF; clear a; intro a hF
  refine RL.val  hF rfl rfl rfl (r_fieldAddr0 hF rfl rfl Try.runUnderlying42 rfl Try.sizeOf25 rfl) ?_; clear hF; clear a; intro a hF
  obtain ⟨u_, w9, hs1_, hs2_, hs3_, h⟩ := h
  refine RL.unit (w' := w9) hF rfl rfl (by rw [hs3_]; exact r_store hF rfl rfl rfl rfl Try.sizeOf25 hs1_ hs2_) ?_; clear hF; clear a; intro a hF
  refine RL.nil (hK2 _ _ ?_)
  clear hK2 K1
  exact end_of hF (res0 rfl) ⟨rfl, h⟩

set_option maxRecDepth 20000 in
theorem br14 {a0 : Option Addr} {a1 : ByteArray} {a2 : Int} {w : World} {K : World → Prop} (h : sh14 a0 a1 a2 w K) : C14 a0 a1 a2 w K := by
  unfold sh14 at h
  refine enter (n := 20) (l := [(0, .pointer a0), (1, .string a1), (2, .int .i64 a2)]) 17 Try.func14 rfl _ rfl rfl rfl fun a hF => ?_
  refine seq_region fun K1 hK2 => ?_
  refine RL.val  hF rfl rfl rfl (r_move hF rfl rfl) ?_; clear hF; clear a; intro a hF
  refine RL.val  hF rfl rfl rfl (r_move hF rfl rfl) ?_; clear hF; clear a; intro a hF
  refine RL.val  hF rfl rfl rfl (r_len_str hF rfl rfl Try.runUnderlying9) ?_; clear hF; clear a; intro a hF
  refine RL.val  hF rfl rfl rfl (r_move hF rfl rfl) ?_; clear hF; clear a; intro a hF
  refine RL.call hF rfl rfl rfl (r_call (xs := [.pointer a0, .int .i64 (a1.size : Int), .int .i64 a2]) hF rfl rfl Try.call13) (CallsV.mono h ?_)
  clear h; rintro _ w3 ⟨rfl, h⟩; clear hF; clear a; intro a hF
  refine RL.nil (hK2 _ _ ?_)
  clear hK2 K1
  refine end_region fun K4 hK5 => ?_
  refine RL.val  hF rfl rfl rfl (r_move hF rfl rfl) ?_; clear hF; clear a; intro a hF
  refine RL.val  hF rfl rfl rfl (r_move hF rfl rfl) ?_; clear hF; clear a; intro a hF
  obtain ⟨p6, hpp6, h⟩ := h
  refine RL.val  hF rfl rfl rfl (r_nilCheck hF rfl (lkp rfl hpp6)) ?_; clear hF; clear a; intro a hF
  refine RL.val  hF rfl rfl rfl (r_fieldAddr0 hF rfl rfl Try.runUnderlying42 rfl Try.sizeOf25 rfl) ?_; clear hF; clear a; intro a hF
  obtain ⟨t7, hct7, h⟩ := h
  refine RL.val  hF rfl rfl rfl (r_load hF rfl rfl Try.isAgg25 hct7) ?_; clear hF; clear a; intro a hF
  refine RL.val  hF rfl rfl rfl (r_move hF rfl rfl) ?_; clear hF; clear a; intro a hF
  obtain ⟨t9, w8, hc_, h⟩ := h
  refine RL.val  hF rfl rfl rfl (r_append (xs := [t7.v, .string a1]) hF rfl rfl hc_) ?_; clear hF; clear a; intro a hF
  obtain ⟨p10, hpp10, h⟩ := h
  refine RL.val  hF rfl rfl rfl (r_nilCheck hF rfl (lkp rfl hpp10)) ?_; clear hF; clear a; intro a hF
  refine RL.val  hF rfl rfl rfl (r_fieldAddr0 hF rfl rfl Try.runUnderlying42 rfl Try.sizeOf25 rfl) ?_; clear hF; clear a; intro a hF
  obtain ⟨u_, w11, hs1_, hs2_, hs3_, h⟩ := h
  refine RL.unit (w' := w11) hF rfl rfl (by rw [hs3_]; exact r_store hF rfl rfl rfl rfl Try.sizeOf25 hs1_ hs2_) ?_; clear hF; clear a; intro a hF
  refine RL.nil (hK5 _ _ ?_)
  clear hK5 K4
  exact end_of hF (res0 rfl) ⟨rfl, h⟩

set_option maxRecDepth 20000 in
theorem br20 {a0 : Option Addr} {a1 : Slc} {w : World} {K : World → Prop} (h : sh20 a0 a1 w K) : C20 a0 a1 w K := by
  unfold sh20 at h
  refine enter (n := 23) (l := [(0, .pointer a0), (1, a1.v)]) 21 Try.func20 rfl _ rfl rfl rfl fun a hF => ?_
  refine seq_region fun K1 hK2 => ?_
  refine RL.val  hF rfl rfl rfl (r_assign hF rfl rfl) ?_; clear hF; clear a; intro a hF
  refine RL.nil (hK2 _ _ ?_)
  clear hK2 K1
  refine seq_k fun K3 hK4 => ?_
  obtain ⟨J, hJ, h⟩ := jn_open h
  have jn8 : ∀ (v5 : Int) (w6 : World) a, Fr 23 a [(0, .pointer a0), (4, .int .i64 v5)] → J v5 w6 → K3 a w6 := by
    intro v5 w6 a hF h
    replace h := hJ _ _ h
    clear hJ
    refine hK4 _ _ ?_
    refine end_region fun K9 hK10 => ?_
    refine RL.val  hF rfl rfl rfl (r_move hF rfl rfl) ?_; clear hF; clear a; intro a hF
    refine RL.val  hF rfl rfl rfl (r_move hF rfl rfl) ?_; clear hF; clear a; intro a hF
    refine RL.call hF rfl rfl rfl (r_call (xs := [.pointer a0, .int .i64 v5, .int .i64 1]) hF rfl rfl Try.call13) (CallsV.mono h ?_)
    clear h; rintro _ w11 ⟨rfl, h⟩; clear hF; clear a; intro a hF
    refine RL.nil (hK10 _ _ ?_)
    clear hK10 K9
    exact end_of hF (res0 rfl) ⟨rfl, h⟩
  clear hJ
  refine seq_region fun K12 hK13 => ?_
  refine RL.val  hF rfl rfl rfl (r_move hF rfl rfl) ?_; clear hF; clear a; intro a hF
  refine RL.val  hF rfl rfl rfl (r_len_slice hF rfl rfl Try.runUnderlying60) ?_; clear hF; clear a; intro a hF
  refine RL.val  hF rfl rfl rfl (r_move hF rfl rfl) ?_; clear hF; clear a; intro a hF
  refine RL.nil (hK13 _ _ ?_)
  clear hK13 K12
  refine wp_block ?_
  refine loop_ (fun (s14 : Int × Int) => [(0, .pointer a0), (4, .int .i64 s14.1), (7, a1.v), (8, .int .i64 (a1.len : Int)), (9, .int .i64 s14.2)]) (hF.sub rfl) h ?_
  clear hF h
  intro s14 w15 N16 KL hN17 h a hF
  refine seq_region fun K18 hK19 => ?_
  refine RL.val  hF rfl rfl rfl (r_lss hF rfl rfl rfl) ?_; clear hF; clear a; intro a hF
  refine RL.nil (hK19 _ _ ?_)
  clear hK19 K18
  refine seq_k fun K20 hK21 => ?_
  obtain ⟨J, hJ, h⟩ := jn_open h
  have jn25 : ∀ (v22 : Unit) (w23 : World) a, Fr 23 a [(0, .pointer a0), (4, .int .i64 s14.1), (7, a1.v), (8, .int .i64 (a1.len : Int)), (9, .int .i64 s14.2)] → J v22 w23 → K20 a w23 := by
    intro v22 w23 a hF h
    replace h := hJ _ _ h
    clear hJ
    refine hK21 _ _ ?_
    refine seq_k fun K26 hK27 => ?_
    obtain ⟨J, hJ, h⟩ := jn_open h
    have jn31 : ∀ (v28 : Int) (w29 : World) a, Fr 23 a [(0, .pointer a0), (4, .int .i64 v28), (7, a1.v), (8, .int .i64 (a1.len : Int)), (9, .int .i64 s14.2)] → J v28 w29 → K26 a w29 := by
      intro v28 w29 a hF h
      replace h := hJ _ _ h
      clear hJ
      refine hK27 _ _ ?_
      refine end_region fun K32 hK33 => ?_
      refine RL.val  hF rfl rfl rfl (r_add hF rfl rfl rfl) ?_; clear hF; clear a; intro a hF
      refine RL.val  hF rfl rfl rfl (r_move hF rfl rfl) ?_; clear hF; clear a; intro a hF
      refine RL.nil (hK33 _ _ ?_)
      clear hK33 K32
      exact hN17 (v28, IntKind.i64.wrap (s14.2 + 1)) _ _ (hF.sub rfl) h
    clear hJ
    refine wp_block ?_
    refine seq_region fun K34 hK35 => ?_
    refine RL.val  hF rfl rfl rfl (r_move hF rfl rfl) ?_; clear hF; clear a; intro a hF
    obtain ⟨b37, p36, hb_, h0_, h1_, hp_, h⟩ := h
    refine RL.val (v := .pointer (some p36)) (w' := w23) hF rfl rfl rfl (by rw [hp_]; exact r_indexAddr hF rfl (lks rfl hb_) rfl Try.runUnderlying60 Try.sizeOf4 h0_ h1_) ?_; clear hF; clear a; intro a hF
    obtain ⟨t38, hct38, h⟩ := h
    refine RL.val  hF rfl rfl rfl (r_load hF rfl rfl Try.isAgg4 hct38) ?_; clear hF; clear a; intro a hF
    refine RL.val  hF rfl rfl rfl (r_assign hF rfl rfl) ?_; clear hF; clear a; intro a hF
    refine RL.val  hF rfl rfl rfl (r_assign hF rfl rfl) ?_; clear hF; clear a; intro a hF
    refine RL.nil (hK35 _ _ ?_)
    clear hK35 K34
    refine seq_region fun K39 hK40 => ?_
    refine RL.val  hF rfl rfl rfl (r_move hF rfl rfl) ?_; clear hF; clear a; intro a hF
    refine RL.nil (hK40 _ _ ?_)
    clear hK40 K39
    obtain ⟨ht, hf⟩ := h
    refine cond_ hF rfl (fun hc => ?_) (fun hc => ?_)
    · replace h := ht hc; clear ht hf
      refine end_region fun K41 hK42 => ?_
      refine RL.val  hF rfl rfl rfl (r_move hF rfl rfl) ?_; clear hF; clear a; intro a hF
      refine RL.val  hF rfl rfl rfl (r_move hF rfl rfl) ?_; clear hF; clear a; intro a hF
      obtain ⟨h0_, h⟩ := h
      refine RL.val  hF rfl rfl rfl (r_shl hF rfl rfl rfl h0_) ?_; clear hF; clear a; intro a hF
      refine RL.val  hF rfl rfl rfl (r_or hF rfl rfl rfl) ?_; clear hF; clear a; intro a hF
      refine RL.val  hF rfl rfl rfl (r_assign hF rfl rfl) ?_; clear hF; clear a; intro a hF
      refine RL.nil (hK42 _ _ ?_)
      clear hK42 K41
      exact jn31 (bitsZ .or .i64 s14.1 (shlZ .i64 1 s14.2)) _ _ (hF.sub rfl) h
    · replace h := hf hc; clear ht hf
      refine wp_skip ?_
      exact jn31 s14.1 _ _ (hF.sub rfl) h
  clear hJ
  obtain ⟨ht, hf⟩ := h
  refine cond_ hF rfl (fun hc => ?_) (fun hc => ?_)
  · replace h := ht hc; clear ht hf
    refine wp_skip ?_
    exact jn25 () _ _ (hF.sub rfl) h
  · replace h := hf hc; clear ht hf
    refine wp_exit ?_
    exact jn8 s14.1 _ _ (hF.sub rfl) h

set_option maxRecDepth 20000 in
theorem br12 {a0 : Option Addr} {a1 : Array Value} {w : World} {K : World → Prop} (h : sh12 a0 a1 w K) : C12 a0 a1 w K := by
  unfold sh12 at h
  refine enter (n := 124) (l := [(0, .pointer a0), (1, .agg a1)]) 122 Try.func12 rfl _ rfl rfl rfl fun a hF => ?_
  refine seq_region fun K1 hK2 => ?_
  obtain ⟨p3, w4, hp_, hw_, h⟩ := h
  refine RL.val (v := .pointer (some p3)) (w' := w4) hF rfl rfl rfl (by rw [hp_, hw_]; exact r_box hF rfl rfl rfl) ?_; clear hF; clear a; intro a hF
  refine RL.nil (hK2 _ _ ?_)
  clear hK2 K1
  refine seq_region fun K5 hK6 => ?_
  refine RL.val  hF rfl rfl rfl (r_fieldAddr0 hF rfl rfl Try.runUnderlying27 rfl Try.sizeOf3 rfl) ?_; clear hF; clear a; intro a hF
  obtain ⟨t7, hct7, h⟩ := h
  refine RL.val  hF rfl rfl rfl (r_load hF rfl rfl Try.isAgg3 hct7) ?_; clear hF; clear a; intro a hF
  refine RL.nil (hK6 _ _ ?_)
  clear hK6 K5
  refine wp_block ?_
  refine seq_k fun K8 hK9 => ?_
  obtain ⟨J, hJ, h⟩ := jn_open h
  have jn13 : ∀ (v10 : Unit) (w11 : World) a, Fr 124 a [(0, .pointer a0), (3, .pointer (some p3))] → J v10 w11 → K8 a w11 := by
    intro v10 w11 a hF h
    replace h := hJ _ _ h
    clear hJ
    refine hK9 _ _ ?_
    refine seq_region fun K14 hK15 => ?_
    refine RL.val  hF rfl rfl rfl (r_move hF rfl rfl) ?_; clear hF; clear a; intro a hF
    refine RL.val  hF rfl rfl rfl (r_fieldAddr hF rfl rfl Try.runUnderlying27 rfl Try.sizeOf23 rfl) ?_; clear hF; clear a; intro a hF
    obtain ⟨t16, hct16, h⟩ := h
    refine RL.val  hF rfl rfl rfl (r_loadA hF rfl rfl Try.isAgg23 Try.sizeOf23 hct16) ?_; clear hF; clear a; intro a hF
    refine RL.call hF rfl rfl rfl (r_call (xs := [.pointer a0, .agg t16]) hF rfl rfl Try.call19) (CallsV.mono h ?_)
    clear h; rintro _ w17 ⟨rfl, h⟩; clear hF; clear a; intro a hF
    refine RL.nil (hK15 _ _ ?_)
    clear hK15 K14
    refine wp_exit ?_
    exact end_of hF (res0 rfl) ⟨rfl, h⟩
  clear hJ
  refine wp_block ?_
  refine seq_k fun K18 hK19 => ?_
  obtain ⟨J, hJ, h⟩ := jn_open h
  have jn23 : ∀ (v20 : Unit) (w21 : World) a, Fr 124 a [(0, .pointer a0), (3, .pointer (some p3))] → J v20 w21 → K18 a w21 := by
    intro v20 w21 a hF h
    replace h := hJ _ _ h
    clear hJ
    refine hK19 _ _ ?_
    refine end_region fun K24 hK25 => ?_
    refine RL.val  hF rfl rfl rfl (r_move hF rfl rfl) ?_; clear hF; clear a; intro a hF
    refine RL.val  hF rfl rfl rfl (r_fieldAddr hF rfl rfl Try.runUnderlying27 rfl Try.sizeOf9 rfl) ?_; clear hF; clear a; intro a hF
    obtain ⟨t26, hct26, h⟩ := h
    refine RL.val  hF rfl rfl rfl (r_load hF rfl rfl Try.isAgg9 hct26) ?_; clear hF; clear a; intro a hF
    refine RL.call hF rfl rfl rfl (r_call (xs := [.pointer a0, .string t26, .int .i64 1]) hF rfl rfl Try.call14) (CallsV.mono h ?_)
    clear h; rintro _ w27 ⟨rfl, h⟩; clear hF; clear a; intro a hF
    refine RL.nil (hK25 _ _ ?_)
    clear hK25 K24
    exact jn13 () _ _ (hF.sub rfl) h
  clear hJ
  refine wp_block ?_
  refine seq_k fun K28 hK29 => ?_
  obtain ⟨J, hJ, h⟩ := jn_open h
  have jn33 : ∀ (v30 : Unit) (w31 : World) a, Fr 124 a [(0, .pointer a0), (3, .pointer (some p3))] → J v30 w31 → K28 a w31 := by
    intro v30 w31 a hF h
    replace h := hJ _ _ h
    clear hJ
    refine hK29 _ _ ?_
    refine seq_k fun K34 hK35 => ?_
    obtain ⟨J, hJ, h⟩ := jn_open h
    have jn39 : ∀ (v36 : Unit) (w37 : World) a, Fr 124 a [] → J v36 w37 → K34 a w37 := by
      intro v36 w37 a hF h
      replace h := hJ _ _ h
      clear hJ
      refine hK35 _ _ ?_
      refine wp_exit ?_
      exact end_of hF (res0 rfl) ⟨rfl, h⟩
    clear hJ
    refine seq_region fun K40 hK41 => ?_
    refine RL.val  hF rfl rfl rfl (r_move hF rfl rfl) ?_; clear hF; clear a; intro a hF
    refine RL.val  hF rfl rfl rfl (r_fieldAddr hF rfl rfl Try.runUnderlying27 rfl Try.sizeOf24 rfl) ?_; clear hF; clear a; intro a hF
    obtain ⟨t42, hct42, h⟩ := h
    refine RL.val  hF rfl rfl rfl (r_load hF rfl rfl Try.isAgg24 hct42) ?_; clear hF; clear a; intro a hF
    obtain ⟨b44, p43, hb_, h0_, h1_, hp_, h⟩ := h
    refine RL.val (v := .pointer (some p43)) (w' := w31) hF rfl rfl rfl (by rw [hp_]; exact r_indexAddr hF rfl (lks rfl hb_) rfl Try.runUnderlying24 Try.sizeOf9 h0_ h1_) ?_; clear hF; clear a; intro a hF
    obtain ⟨t45, hct45, h⟩ := h
    refine RL.val  hF rfl rfl rfl (r_load hF rfl rfl Try.isAgg9 hct45) ?_; clear hF; clear a; intro a hF
    refine RL.call hF rfl rfl rfl (r_call (xs := [.pointer a0, .string t45, .int .i64 1]) hF rfl rfl Try.call14) (CallsV.mono h ?_)
    clear h; rintro _ w46 ⟨rfl, h⟩; clear hF; clear a; intro a hF
    refine RL.nil (hK41 _ _ ?_)
    clear hK41 K40
    refine seq_region fun K47 hK48 => ?_
    refine RL.val  hF rfl rfl rfl (r_move hF rfl rfl) ?_; clear hF; clear a; intro a hF
    refine RL.val  hF rfl rfl rfl (r_fieldAddr hF rfl rfl Try.runUnderlying27 rfl Try.sizeOf25 rfl) ?_; clear hF; clear a; intro a hF
    obtain ⟨t49, hct49, h⟩ := h
    refine RL.val  hF rfl rfl rfl (r_load hF rfl rfl Try.isAgg25 hct49) ?_; clear hF; clear a; intro a hF
    obtain ⟨t50, hct50, h⟩ := h
    refine RL.val  hF rfl rfl rfl (r_conv hF rfl rfl hct50) ?_; clear hF; clear a; intro a hF
    refine RL.call hF rfl rfl rfl (r_call (xs := [.pointer a0, .string t50, .int .i64 2]) hF rfl rfl Try.call14) (CallsV.mono h ?_)
    clear h; rintro _ w51 ⟨rfl, h⟩; clear hF; clear a; intro a hF
    refine RL.nil (hK48 _ _ ?_)
    clear hK48 K47
    refine end_region fun K52 hK53 => ?_
    refine RL.val  hF rfl rfl rfl (r_move hF rfl rfl) ?_; clear hF; clear a; intro a hF
    refine RL.val  hF rfl rfl rfl (r_fieldAddr hF rfl rfl Try.runUnderlying27 rfl Try.sizeOf4 rfl) ?_; clear hF; clear a; intro a hF
    obtain ⟨t54, hct54, h⟩ := h
    refine RL.val  hF rfl rfl rfl (r_load hF rfl rfl Try.isAgg4 hct54) ?_; clear hF; clear a; intro a hF
    obtain ⟨p56, w55, hp_, hw_, h⟩ := h
    refine RL.val (v := (Slc.mk (some p56) 1 1).v) (w' := w55) hF rfl rfl rfl (by rw [hp_, hw_]; exact r_buildSlice (xs := [(0, .bool t54)]) hF rfl rfl (by kernel_rfl)) ?_; clear hF; clear a; intro a hF
    refine RL.call hF rfl rfl rfl (r_call (xs := [.pointer a0, (Slc.mk (some p56) 1 1).v]) hF rfl rfl Try.call20) (CallsV.mono h ?_)
    clear h; rintro _ w57 ⟨rfl, h⟩; clear hF; clear a; intro a hF
    refine RL.nil (hK53 _ _ ?_)
    clear hK53 K52
    exact jn39 () _ _ (hF.sub rfl) h
  clear hJ
  refine wp_block ?_
  refine seq_k fun K58 hK59 => ?_
  obtain ⟨J, hJ, h⟩ := jn_open h
  have jn63 : ∀ (v60 : Unit) (w61 : World) a, Fr 124 a [(0, .pointer a0), (3, .pointer (some p3))] → J v60 w61 → K58 a w61 := by
    intro v60 w61 a hF h
    replace h := hJ _ _ h
    clear hJ
    refine hK59 _ _ ?_
    refine seq_k fun K64 hK65 => ?_
    obtain ⟨J, hJ, h⟩ := jn_open h
    have jn69 : ∀ (v66 : Unit) (w67 : World) a, Fr 124 a [] → J v66 w67 → K64 a w67 := by
      intro v66 w67 a hF h
      replace h := hJ _ _ h
      clear hJ
      refine hK65 _ _ ?_
      refine wp_exit ?_
      exact end_of hF (res0 rfl) ⟨rfl, h⟩
    clear hJ
    refine seq_region fun K70 hK71 => ?_
    refine RL.val  hF rfl rfl rfl (r_move hF rfl rfl) ?_; clear hF; clear a; intro a hF
    refine RL.val  hF rfl rfl rfl (r_fieldAddr hF rfl rfl Try.runUnderlying27 rfl Try.sizeOf3 rfl) ?_; clear hF; clear a; intro a hF
    obtain ⟨t72, hct72, h⟩ := h
    refine RL.val  hF rfl rfl rfl (r_load hF rfl rfl Try.isAgg3 hct72) ?_; clear hF; clear a; intro a hF
    refine RL.call hF rfl rfl rfl (r_call (xs := [.pointer a0, .int .i64 t72, .int .i64 4]) hF rfl rfl Try.call13) (CallsV.mono h ?_)
    clear h; rintro _ w73 ⟨rfl, h⟩; clear hF; clear a; intro a hF
    refine RL.nil (hK71 _ _ ?_)
    clear hK71 K70
    refine seq_region fun K74 hK75 => ?_
    refine RL.val  hF rfl rfl rfl (r_move hF rfl rfl) ?_; clear hF; clear a; intro a hF
    refine RL.val  hF rfl rfl rfl (r_fieldAddr hF rfl rfl Try.runUnderlying27 rfl Try.sizeOf25 rfl) ?_; clear hF; clear a; intro a hF
    obtain ⟨t76, hct76, h⟩ := h
    refine RL.val  hF rfl rfl rfl (r_load hF rfl rfl Try.isAgg25 hct76) ?_; clear hF; clear a; intro a hF
    obtain ⟨t77, hct77, h⟩ := h
    refine RL.val  hF rfl rfl rfl (r_conv hF rfl rfl hct77) ?_; clear hF; clear a; intro a hF
    refine RL.call hF rfl rfl rfl (r_call (xs := [.pointer a0, .string t77, .int .i64 2]) hF rfl rfl Try.call14) (CallsV.mono h ?_)
    clear h; rintro _ w78 ⟨rfl, h⟩; clear hF; clear a; intro a hF
    refine RL.nil (hK75 _ _ ?_)
    clear hK75 K74
    refine end_region fun K79 hK80 => ?_
    refine RL.val  hF rfl rfl rfl (r_move hF rfl rfl) ?_; clear hF; clear a; intro a hF
    refine RL.val  hF rfl rfl rfl (r_fieldAddr hF rfl rfl Try.runUnderlying27 rfl Try.sizeOf4 rfl) ?_; clear hF; clear a; intro a hF
    obtain ⟨t81, hct81, h⟩ := h
    refine RL.val  hF rfl rfl rfl (r_load hF rfl rfl Try.isAgg4 hct81) ?_; clear hF; clear a; intro a hF
    obtain ⟨p83, w82, hp_, hw_, h⟩ := h
    refine RL.val (v := (Slc.mk (some p83) 1 1).v) (w' := w82) hF rfl rfl rfl (by rw [hp_, hw_]; exact r_buildSlice (xs := [(0, .bool t81)]) hF rfl rfl (by kernel_rfl)) ?_; clear hF; clear a; intro a hF
    refine RL.call hF rfl rfl rfl (r_call (xs := [.pointer a0, (Slc.mk (some p83) 1 1).v]) hF rfl rfl Try.call20) (CallsV.mono h ?_)
    clear h; rintro _ w84 ⟨rfl, h⟩; clear hF; clear a; intro a hF
    refine RL.nil (hK80 _ _ ?_)
    clear hK80 K79
    exact jn69 () _ _ (hF.sub rfl) h
  clear hJ
  refine wp_block ?_
  refine seq_k fun K85 hK86 => ?_
  obtain ⟨J, hJ, h⟩ := jn_open h
  have jn90 : ∀ (v87 : Unit) (w88 : World) a, Fr 124 a [(0, .pointer a0), (3, .pointer (some p3))] → J v87 w88 → K85 a w88 := by
    intro v87 w88 a hF h
    replace h := hJ _ _ h
    clear hJ
    refine hK86 _ _ ?_
    refine seq_k fun K91 hK92 => ?_
    obtain ⟨J, hJ, h⟩ := jn_open h
    have jn96 : ∀ (v93 : Unit) (w94 : World) a, Fr 124 a [] → J v93 w94 → K91 a w94 := by
      intro v93 w94 a hF h
      replace h := hJ _ _ h
      clear hJ
      refine hK92 _ _ ?_
      refine wp_exit ?_
      exact end_of hF (res0 rfl) ⟨rfl, h⟩
    clear hJ
    refine seq_region fun K97 hK98 => ?_
    refine RL.val  hF rfl rfl rfl (r_move hF rfl rfl) ?_; clear hF; clear a; intro a hF
    refine RL.val  hF rfl rfl rfl (r_fieldAddr hF rfl rfl Try.runUnderlying27 rfl Try.sizeOf23 rfl) ?_; clear hF; clear a; intro a hF
    obtain ⟨t99, hct99, h⟩ := h
    refine RL.val  hF rfl rfl rfl (r_loadA hF rfl rfl Try.isAgg23 Try.sizeOf23 hct99) ?_; clear hF; clear a; intro a hF
    refine RL.call hF rfl rfl rfl (r_call (xs := [.pointer a0, .agg t99]) hF rfl rfl Try.call19) (CallsV.mono h ?_)
    clear h; rintro _ w100 ⟨rfl, h⟩; clear hF; clear a; intro a hF
    refine RL.nil (hK98 _ _ ?_)
    clear hK98 K97
    refine seq_region fun K101 hK102 => ?_
    refine RL.val  hF rfl rfl rfl (r_move hF rfl rfl) ?_; clear hF; clear a; intro a hF
    refine RL.val  hF rfl rfl rfl (r_fieldAddr hF rfl rfl Try.runUnderlying27 rfl Try.sizeOf23 rfl) ?_; clear hF; clear a; intro a hF
    obtain ⟨t103, hct103, h⟩ := h
    refine RL.val  hF rfl rfl rfl (r_loadA hF rfl rfl Try.isAgg23 Try.sizeOf23 hct103) ?_; clear hF; clear a; intro a hF
    refine RL.call hF rfl rfl rfl (r_call (xs := [.pointer a0, .agg t103]) hF rfl rfl Try.call19) (CallsV.mono h ?_)
    clear h; rintro _ w104 ⟨rfl, h⟩; clear hF; clear a; intro a hF
    refine RL.nil (hK102 _ _ ?_)
    clear hK102 K101
    refine end_region fun K105 hK106 => ?_
    refine RL.val  hF rfl rfl rfl (r_move hF rfl rfl) ?_; clear hF; clear a; intro a hF
    refine RL.val  hF rfl rfl rfl (r_fieldAddr hF rfl rfl Try.runUnderlying27 rfl Try.sizeOf4 rfl) ?_; clear hF; clear a; intro a hF
    obtain ⟨t107, hct107, h⟩ := h
    refine RL.val  hF rfl rfl rfl (r_load hF rfl rfl Try.isAgg4 hct107) ?_; clear hF; clear a; intro a hF
    obtain ⟨p109, w108, hp_, hw_, h⟩ := h
    refine RL.val (v := (Slc.mk (some p109) 1 1).v) (w' := w108) hF rfl rfl rfl (by rw [hp_, hw_]; exact r_buildSlice (xs := [(0, .bool t107)]) hF rfl rfl (by kernel_rfl)) ?_; clear hF; clear a; intro a hF
    refine RL.call hF rfl rfl rfl (r_call (xs := [.pointer a0, (Slc.mk (some p109) 1 1).v]) hF rfl rfl Try.call20) (CallsV.mono h ?_)
    clear h; rintro _ w110 ⟨rfl, h⟩; clear hF; clear a; intro a hF
    refine RL.nil (hK106 _ _ ?_)
    clear hK106 K105
    exact jn96 () _ _ (hF.sub rfl) h
  clear hJ
  refine wp_block ?_
  refine seq_k fun K111 hK112 => ?_
  obtain ⟨J, hJ, h⟩ := jn_open h
  have jn116 : ∀ (v113 : Unit) (w114 : World) a, Fr 124 a [(0, .pointer a0), (3, .pointer (some p3))] → J v113 w114 → K111 a w114 := by
    intro v113 w114 a hF h
    replace h := hJ _ _ h
    clear hJ
    refine hK112 _ _ ?_
    refine seq_k fun K117 hK118 => ?_
    obtain ⟨J, hJ, h⟩ := jn_open h
    have jn122 : ∀ (v119 : Unit) (w120 : World) a, Fr 124 a [] → J v119 w120 → K117 a w120 := by
      intro v119 w120 a hF h
      replace h := hJ _ _ h
      clear hJ
      refine hK118 _ _ ?_
      refine wp_exit ?_
      exact end_of hF (res0 rfl) ⟨rfl, h⟩
    clear hJ
    refine seq_region fun K123 hK124 => ?_
    refine RL.val  hF rfl rfl rfl (r_move hF rfl rfl) ?_; clear hF; clear a; intro a hF
    refine RL.val  hF rfl rfl rfl (r_fieldAddr hF rfl rfl Try.runUnderlying27 rfl Try.sizeOf23 rfl) ?_; clear hF; clear a; intro a hF
    obtain ⟨t125, hct125, h⟩ := h
    refine RL.val  hF rfl rfl rfl (r_loadA hF rfl rfl Try.isAgg23 Try.sizeOf23 hct125) ?_; clear hF; clear a; intro a hF
    refine RL.call hF rfl rfl rfl (r_call (xs := [.pointer a0, .agg t125]) hF rfl rfl Try.call19) (CallsV.mono h ?_)
    clear h; rintro _ w126 ⟨rfl, h⟩; clear hF; clear a; intro a hF
    refine RL.nil (hK124 _ _ ?_)
    clear hK124 K123
    refine seq_region fun K127 hK128 => ?_
    refine RL.val  hF rfl rfl rfl (r_move hF rfl rfl) ?_; clear hF; clear a; intro a hF
    refine RL.val  hF rfl rfl rfl (r_fieldAddr hF rfl rfl Try.runUnderlying27 rfl Try.sizeOf23 rfl) ?_; clear hF; clear a; intro a hF
    obtain ⟨t129, hct129, h⟩ := h
    refine RL.val  hF rfl rfl rfl (r_loadA hF rfl rfl Try.isAgg23 Try.sizeOf23 hct129) ?_; clear hF; clear a; intro a hF
    refine RL.call hF rfl rfl rfl (r_call (xs := [.pointer a0, .agg t129]) hF rfl rfl Try.call19) (CallsV.mono h ?_)
    clear h; rintro _ w130 ⟨rfl, h⟩; clear hF; clear a; intro a hF
    refine RL.nil (hK128 _ _ ?_)
    clear hK128 K127
    refine seq_region fun K131 hK132 => ?_
    refine RL.val  hF rfl rfl rfl (r_move hF rfl rfl) ?_; clear hF; clear a; intro a hF
    refine RL.val  hF rfl rfl rfl (r_fieldAddr hF rfl rfl Try.runUnderlying27 rfl Try.sizeOf9 rfl) ?_; clear hF; clear a; intro a hF
    obtain ⟨t133, hct133, h⟩ := h
    refine RL.val  hF rfl rfl rfl (r_load hF rfl rfl Try.isAgg9 hct133) ?_; clear hF; clear a; intro a hF
    refine RL.call hF rfl rfl rfl (r_call (xs := [.pointer a0, .string t133, .int .i64 1]) hF rfl rfl Try.call14) (CallsV.mono h ?_)
    clear h; rintro _ w134 ⟨rfl, h⟩; clear hF; clear a; intro a hF
    refine RL.nil (hK132 _ _ ?_)
    clear hK132 K131
    refine seq_region fun K135 hK136 => ?_
    refine RL.val  hF rfl rfl rfl (r_move hF rfl rfl) ?_; clear hF; clear a; intro a hF
    refine RL.val  hF rfl rfl rfl (r_fieldAddr hF rfl rfl Try.runUnderlying27 rfl Try.sizeOf24 rfl) ?_; clear hF; clear a; intro a hF
    obtain ⟨t137, hct137, h⟩ := h
    refine RL.val  hF rfl rfl rfl (r_load hF rfl rfl Try.isAgg24 hct137) ?_; clear hF; clear a; intro a hF
    refine RL.val  hF rfl rfl rfl (r_len_slice hF rfl rfl Try.runUnderlying24) ?_; clear hF; clear a; intro a hF
    refine RL.call hF rfl rfl rfl (r_call (xs := [.pointer a0, .int .i64 (t137.len : Int), .int .i64 1]) hF rfl rfl Try.call13) (CallsV.mono h ?_)
    clear h; rintro _ w138 ⟨rfl, h⟩; clear hF; clear a; intro a hF
    refine RL.nil (hK136 _ _ ?_)
    clear hK136 K135
    refine seq_k fun K139 hK140 => ?_
    obtain ⟨J, hJ, h⟩ := jn_open h
    have jn144 : ∀ (v141 : Unit) (w142 : World) a, Fr 124 a [(0, .pointer a0), (3, .pointer (some p3))] → J v141 w142 → K139 a w142 := by
      intro v141 w142 a hF h
      replace h := hJ _ _ h
      clear hJ
      refine hK140 _ _ ?_
      refine seq_region fun K145 hK146 => ?_
      refine RL.val  hF rfl rfl rfl (r_move hF rfl rfl) ?_; clear hF; clear a; intro a hF
      refine RL.val  hF rfl rfl rfl (r_fieldAddr hF rfl rfl Try.runUnderlying27 rfl Try.sizeOf25 rfl) ?_; clear hF; clear a; intro a hF
      obtain ⟨t147, hct147, h⟩ := h
      refine RL.val  hF rfl rfl rfl (r_load hF rfl rfl Try.isAgg25 hct147) ?_; clear hF; clear a; intro a hF
      obtain ⟨t148, hct148, h⟩ := h
      refine RL.val  hF rfl rfl rfl (r_conv hF rfl rfl hct148) ?_; clear hF; clear a; intro a hF
      refine RL.call hF rfl rfl rfl (r_call (xs := [.pointer a0, .string t148, .int .i64 2]) hF rfl rfl Try.call14) (CallsV.mono h ?_)
      clear h; rintro _ w149 ⟨rfl, h⟩; clear hF; clear a; intro a hF
      refine RL.nil (hK146 _ _ ?_)
      clear hK146 K145
      refine seq_region fun K150 hK151 => ?_
      refine RL.val  hF rfl rfl rfl (r_move hF rfl rfl) ?_; clear hF; clear a; intro a hF
      refine RL.val  hF rfl rfl rfl (r_fieldAddr hF rfl rfl Try.runUnderlying27 rfl Try.sizeOf25 rfl) ?_; clear hF; clear a; intro a hF
      obtain ⟨t152, hct152, h⟩ := h
      refine RL.val  hF rfl rfl rfl (r_load hF rfl rfl Try.isAgg25 hct152) ?_; clear hF; clear a; intro a hF
      refine RL.val  hF rfl rfl rfl (r_len_slice hF rfl rfl Try.runUnderlying25) ?_; clear hF; clear a; intro a hF
      refine RL.val  hF rfl rfl rfl (r_gtr hF rfl rfl rfl) ?_; clear hF; clear a; intro a hF
      refine RL.val  hF rfl rfl rfl (r_fieldAddr hF rfl rfl Try.runUnderlying27 rfl Try.sizeOf4 rfl) ?_; clear hF; clear a; intro a hF
      obtain ⟨t153, hct153, h⟩ := h
      refine RL.val  hF rfl rfl rfl (r_load hF rfl rfl Try.isAgg4 hct153) ?_; clear hF; clear a; intro a hF
      obtain ⟨p155, w154, hp_, hw_, h⟩ := h
      refine RL.val (v := (Slc.mk (some p155) 2 2).v) (w' := w154) hF rfl rfl rfl (by rw [hp_, hw_]; exact r_buildSlice (xs := [(0, .bool (decide ((t152.len : Int) > 0))), (1, .bool t153)]) hF rfl rfl (by kernel_rfl)) ?_; clear hF; clear a; intro a hF
      refine RL.call hF rfl rfl rfl (r_call (xs := [.pointer a0, (Slc.mk (some p155) 2 2).v]) hF rfl rfl Try.call20) (CallsV.mono h ?_)
      clear h; rintro _ w156 ⟨rfl, h⟩; clear hF; clear a; intro a hF
      refine RL.nil (hK151 _ _ ?_)
      clear hK151 K150
      refine seq_region fun K157 hK158 => ?_
      refine RL.val  hF rfl rfl rfl (r_fieldAddr hF rfl rfl Try.runUnderlying27 rfl Try.sizeOf25 rfl) ?_; clear hF; clear a; intro a hF
      obtain ⟨t159, hct159, h⟩ := h
      refine RL.val  hF rfl rfl rfl (r_load hF rfl rfl Try.isAgg25 hct159) ?_; clear hF; clear a; intro a hF
      refine RL.val  hF rfl rfl rfl (r_len_slice hF rfl rfl Try.runUnderlying25) ?_; clear hF; clear a; intro a hF
      refine RL.val  hF rfl rfl rfl (r_gtr hF rfl rfl rfl) ?_; clear hF; clear a; intro a hF
      refine RL.nil (hK158 _ _ ?_)
      clear hK158 K157
      obtain ⟨ht, hf⟩ := h
      refine cond_ hF rfl (fun hc => ?_) (fun hc => ?_)
      · replace h := ht hc; clear ht hf
        refine seq_region fun K160 hK161 => ?_
        refine RL.val  hF rfl rfl rfl (r_move hF rfl rfl) ?_; clear hF; clear a; intro a hF
        refine RL.val  hF rfl rfl rfl (r_fieldAddr hF rfl rfl Try.runUnderlying27 rfl Try.sizeOf25 rfl) ?_; clear hF; clear a; intro a hF
        obtain ⟨t162, hct162, h⟩ := h
        refine RL.val  hF rfl rfl rfl (r_load hF rfl rfl Try.isAgg25 hct162) ?_; clear hF; clear a; intro a hF
        obtain ⟨t163, hct163, h⟩ := h
        refine RL.val  hF rfl rfl rfl (r_conv hF rfl rfl hct163) ?_; clear hF; clear a; intro a hF
        refine RL.call hF rfl rfl rfl (r_call (xs := [.pointer a0, .string t163, .int .i64 2]) hF rfl rfl Try.call14) (CallsV.mono h ?_)
        clear h; rintro _ w164 ⟨rfl, h⟩; clear hF; clear a; intro a hF
        refine RL.nil (hK161 _ _ ?_)
        clear hK161 K160
        refine end_region fun K165 hK166 => ?_
        refine RL.val  hF rfl rfl rfl (r_move hF rfl rfl) ?_; clear hF; clear a; intro a hF
        refine RL.val  hF rfl rfl rfl (r_fieldAddr hF rfl rfl Try.runUnderlying27 rfl Try.sizeOf23 rfl) ?_; clear hF; clear a; intro a hF
        obtain ⟨t167, hct167, h⟩ := h
        refine RL.val  hF rfl rfl rfl (r_loadA hF rfl rfl Try.isAgg23 Try.sizeOf23 hct167) ?_; clear hF; clear a; intro a hF
        refine RL.call hF rfl rfl rfl (r_call (xs := [.pointer a0, .agg t167]) hF rfl rfl Try.call19) (CallsV.mono h ?_)
        clear h; rintro _ w168 ⟨rfl, h⟩; clear hF; clear a; intro a hF
        refine RL.nil (hK166 _ _ ?_)
        clear hK166 K165
        exact jn122 () _ _ (hF.sub rfl) h
      · replace h := hf hc; clear ht hf
        refine wp_skip ?_
        exact jn122 () _ _ (hF.sub rfl) h
    clear hJ
    refine seq_region fun K169 hK170 => ?_
    refine RL.val  hF rfl rfl rfl (r_fieldAddr hF rfl rfl Try.runUnderlying27 rfl Try.sizeOf24 rfl) ?_; clear hF; clear a; intro a hF
    obtain ⟨t171, hct171, h⟩ := h
    refine RL.val  hF rfl rfl rfl (r_load hF rfl rfl Try.isAgg24 hct171) ?_; clear hF; clear a; intro a hF
    refine RL.val  hF rfl rfl rfl (r_len_slice hF rfl rfl Try.runUnderlying24) ?_; clear hF; clear a; intro a hF
    refine RL.val  hF rfl rfl rfl (r_move hF rfl rfl) ?_; clear hF; clear a; intro a hF
    refine RL.nil (hK170 _ _ ?_)
    clear hK170 K169
    refine wp_block ?_
    refine loop_ (fun (s172 : Int) => [(0, .pointer a0), (3, .pointer (some p3)), (36, t171.v), (37, .int .i64 (t171.len : Int)), (38, .int .i64 s172)]) (hF.sub rfl) h ?_
    clear hF h
    intro s172 w173 N174 KL hN175 h a hF
    refine seq_region fun K176 hK177 => ?_
    refine RL.val  hF rfl rfl rfl (r_lss hF rfl rfl rfl) ?_; clear hF; clear a; intro a hF
    refine RL.nil (hK177 _ _ ?_)
    clear hK177 K176
    refine seq_k fun K178 hK179 => ?_
    obtain ⟨J, hJ, h⟩ := jn_open h
    have jn183 : ∀ (v180 : Unit) (w181 : World) a, Fr 124 a [(0, .pointer a0), (3, .pointer (some p3)), (36, t171.v), (37, .int .i64 (t171.len : Int)), (38, .int .i64 s172)] → J v180 w181 → K178 a w181 := by
      intro v180 w181 a hF h
      replace h := hJ _ _ h
      clear hJ
      refine hK179 _ _ ?_
      refine seq_k fun K184 hK185 => ?_
      obtain ⟨J, hJ, h⟩ := jn_open h
      have jn189 : ∀ (v186 : Unit) (w187 : World) a, Fr 124 a [(0, .pointer a0), (3, .pointer (some p3)), (36, t171.v), (37, .int .i64 (t171.len : Int)), (38, .int .i64 s172)] → J v186 w187 → K184 a w187 := by
        intro v186 w187 a hF h
        replace h := hJ _ _ h
        clear hJ
        refine hK185 _ _ ?_
        refine end_region fun K190 hK191 => ?_
        refine RL.val  hF rfl rfl rfl (r_add hF rfl rfl rfl) ?_; clear hF; clear a; intro a hF
        refine RL.val  hF rfl rfl rfl (r_move hF rfl rfl) ?_; clear hF; clear a; intro a hF
        refine RL.nil (hK191 _ _ ?_)
        clear hK191 K190
        exact hN175 (IntKind.i64.wrap (s172 + 1)) _ _ (hF.sub rfl) h
      clear hJ
      refine wp_block ?_
      refine seq_region fun K192 hK193 => ?_
      obtain ⟨b195, p194, hb_, h0_, h1_, hp_, h⟩ := h
      refine RL.val (v := .pointer (some p194)) (w' := w181) hF rfl rfl rfl (by rw [hp_]; exact r_indexAddr hF rfl (lks rfl hb_) rfl Try.runUnderlying24 Try.sizeOf9 h0_ h1_) ?_; clear hF; clear a; intro a hF
      obtain ⟨t196, hct196, h⟩ := h
      refine RL.val  hF rfl rfl rfl (r_load hF rfl rfl Try.isAgg9 hct196) ?_; clear hF; clear a; intro a hF
      refine RL.val  hF rfl rfl rfl (r_assign hF rfl rfl) ?_; clear hF; clear a; intro a hF
      refine RL.nil (hK193 _ _ ?_)
      clear hK193 K192
      refine end_region fun K197 hK198 => ?_
      refine RL.val  hF rfl rfl rfl (r_move hF rfl rfl) ?_; clear hF; clear a; intro a hF
      refine RL.val  hF rfl rfl rfl (r_move hF rfl rfl) ?_; clear hF; clear a; intro a hF
      refine RL.call hF rfl rfl rfl (r_call (xs := [.pointer a0, .string t196, .int .i64 1]) hF rfl rfl Try.call14) (CallsV.mono h ?_)
      clear h; rintro _ w199 ⟨rfl, h⟩; clear hF; clear a; intro a hF
      refine RL.nil (hK198 _ _ ?_)
      clear hK198 K197
      exact jn189 () _ _ (hF.sub rfl) h
    clear hJ
    obtain ⟨ht, hf⟩ := h
    refine cond_ hF rfl (fun hc => ?_) (fun hc => ?_)
    · replace h := ht hc; clear ht hf
      refine wp_skip ?_
      exact jn183 () _ _ (hF.sub rfl) h
    · replace h := hf hc; clear ht hf
      refine wp_exit ?_
      exact jn144 () _ _ (hF.sub rfl) h
  clear hJ
  refine wp_block ?_
  refine seq_k fun K200 hK201 => ?_
  obtain ⟨J, hJ, h⟩ := jn_open h
  have jn205 : ∀ (v202 : Unit) (w203 : World) a, Fr 124 a [(0, .pointer a0), (3, .pointer (some p3))] → J v202 w203 → K200 a w203 := by
    intro v202 w203 a hF h
    replace h := hJ _ _ h
    clear hJ
    refine hK201 _ _ ?_
    refine wp_exit ?_
    exact jn13 () _ _ (hF.sub rfl) h
  clear hJ
  refine seq_k fun K206 hK207 => ?_
  obtain ⟨J, hJ, h⟩ := jn_open h
  have jn211 : ∀ (v208 : Unit) (w209 : World) a, Fr 124 a [(0, .pointer a0), (3, .pointer (some p3)), (7, .int .i64 t7)] → J v208 w209 → K206 a w209 := by
    intro v208 w209 a hF h
    replace h := hJ _ _ h
    clear hJ
    refine hK207 _ _ ?_
    refine seq_k fun K212 hK213 => ?_
    obtain ⟨J, hJ, h⟩ := jn_open h
    have jn217 : ∀ (v214 : Unit) (w215 : World) a, Fr 124 a [(0, .pointer a0), (3, .pointer (some p3)), (7, .int .i64 t7)] → J v214 w215 → K212 a w215 := by
      intro v214 w215 a hF h
      replace h := hJ _ _ h
      clear hJ
      refine hK213 _ _ ?_
      refine seq_k fun K218 hK219 => ?_
      obtain ⟨J, hJ, h⟩ := jn_open h
      have jn223 : ∀ (v220 : Unit) (w221 : World) a, Fr 124 a [(0, .pointer a0), (3, .pointer (some p3)), (7, .int .i64 t7)] → J v220 w221 → K218 a w221 := by
        intro v220 w221 a hF h
        replace h := hJ _ _ h
        clear hJ
        refine hK219 _ _ ?_
        refine seq_k fun K224 hK225 => ?_
        obtain ⟨J, hJ, h⟩ := jn_open h
        have jn229 : ∀ (v226 : Unit) (w227 : World) a, Fr 124 a [(0, .pointer a0), (3, .pointer (some p3)), (7, .int .i64 t7)] → J v226 w227 → K224 a w227 := by
          intro v226 w227 a hF h
          replace h := hJ _ _ h
          clear hJ
          refine hK225 _ _ ?_
          refine seq_region fun K230 hK231 => ?_
          refine RL.val  hF rfl rfl rfl (r_eql hF rfl rfl rfl) ?_; clear hF; clear a; intro a hF
          refine RL.val  hF rfl rfl rfl (r_assign hF rfl rfl) ?_; clear hF; clear a; intro a hF
          refine RL.nil (hK231 _ _ ?_)
          clear hK231 K230
          obtain ⟨ht, hf⟩ := h
          refine cond_ hF rfl (fun hc => ?_) (fun hc => ?_)
          · replace h := ht hc; clear ht hf
            refine wp_exit ?_
            exact jn23 () _ _ (hF.sub rfl) h
          · replace h := hf hc; clear ht hf
            refine wp_skip ?_
            exact jn205 () _ _ (hF.sub rfl) h
        clear hJ
        refine seq_region fun K232 hK233 => ?_
        refine RL.val  hF rfl rfl rfl (r_eql hF rfl rfl rfl) ?_; clear hF; clear a; intro a hF
        refine RL.val  hF rfl rfl rfl (r_assign hF rfl rfl) ?_; clear hF; clear a; intro a hF
        refine RL.nil (hK233 _ _ ?_)
        clear hK233 K232
        obtain ⟨ht, hf⟩ := h
        refine cond_ hF rfl (fun hc => ?_) (fun hc => ?_)
        · replace h := ht hc; clear ht hf
          refine wp_exit ?_
          exact jn33 () _ _ (hF.sub rfl) h
        · replace h := hf hc; clear ht hf
          refine wp_skip ?_
          exact jn229 () _ _ (hF.sub rfl) h
      clear hJ
      refine seq_region fun K234 hK235 => ?_
      refine RL.val  hF rfl rfl rfl (r_eql hF rfl rfl rfl) ?_; clear hF; clear a; intro a hF
      refine RL.val  hF rfl rfl rfl (r_assign hF rfl rfl) ?_; clear hF; clear a; intro a hF
      refine RL.nil (hK235 _ _ ?_)
      clear hK235 K234
      obtain ⟨ht, hf⟩ := h
      refine cond_ hF rfl (fun hc => ?_) (fun hc => ?_)
      · replace h := ht hc; clear ht hf
        refine wp_exit ?_
        exact jn63 () _ _ (hF.sub rfl) h
      · replace h := hf hc; clear ht hf
        refine wp_skip ?_
        exact jn223 () _ _ (hF.sub rfl) h
    clear hJ
    refine seq_region fun K236 hK237 => ?_
    refine RL.val  hF rfl rfl rfl (r_eql hF rfl rfl rfl) ?_; clear hF; clear a; intro a hF
    refine RL.val  hF rfl rfl rfl (r_assign hF rfl rfl) ?_; clear hF; clear a; intro a hF
    refine RL.nil (hK237 _ _ ?_)
    clear hK237 K236
    obtain ⟨ht, hf⟩ := h
    refine cond_ hF rfl (fun hc => ?_) (fun hc => ?_)
    · replace h := ht hc; clear ht hf
      refine wp_exit ?_
      exact jn90 () _ _ (hF.sub rfl) h
    · replace h := hf hc; clear ht hf
      refine wp_skip ?_
      exact jn217 () _ _ (hF.sub rfl) h
  clear hJ
  refine seq_region fun K238 hK239 => ?_
  refine RL.val  hF rfl rfl rfl (r_eql hF rfl rfl rfl) ?_; clear hF; clear a; intro a hF
  refine RL.val  hF rfl rfl rfl (r_assign hF rfl rfl) ?_; clear hF; clear a; intro a hF
  refine RL.nil (hK239 _ _ ?_)
  clear hK239 K238
  obtain ⟨ht, hf⟩ := h
  refine cond_ hF rfl (fun hc => ?_) (fun hc => ?_)
  · replace h := ht hc; clear ht hf
    refine wp_exit ?_
    exact jn116 () _ _ (hF.sub rfl) h
  · replace h := hf hc; clear ht hf
    refine wp_skip ?_
    exact jn211 () _ _ (hF.sub rfl) h

set_option maxRecDepth 20000 in
theorem br4 {a0 : Array Value} {w : World} {K : Slc → Int → World → Prop} (h : sh4 a0 w K) : C4 a0 w K := by
  unfold sh4 at h
  refine enter (n := 38) (l := [(0, .agg a0)]) 37 Try.func4 rfl _ rfl rfl rfl fun a hF => ?_
  refine seq_region fun K1 hK2 => ?_
  obtain ⟨p3, w4, hp_, hw_, h⟩ := h
  refine RL.val (v := .pointer (some p3)) (w' := w4) hF rfl rfl rfl (by rw [hp_, hw_]; exact r_box hF rfl rfl rfl) ?_; clear hF; clear a; intro a hF
  refine RL.val  hF rfl rfl rfl (r_assign hF rfl rfl) ?_; clear hF; clear a; intro a hF
  refine RL.val  hF rfl rfl rfl (r_assign hF rfl rfl) ?_; clear hF; clear a; intro a hF
  refine RL.nil (hK2 _ _ ?_)
  clear hK2 K1
  refine seq_k fun K5 hK6 => ?_
  obtain ⟨J, hJ, h⟩ := jn_open h
  have jn10 : ∀ (v7 : Unit) (w8 : World) a, Fr 38 a [(1, .pointer (some p3))] → J v7 w8 → K5 a w8 := by
    intro v7 w8 a hF h
    replace h := hJ _ _ h
    clear hJ
    refine hK6 _ _ ?_
    refine seq_region fun K11 hK12 => ?_
    refine RL.val (v := .agg (#[Slc.nil.v])) (w' := w8) hF rfl rfl rfl (r_build (xs := []) hF rfl rfl (by kernel_rfl)) ?_; clear hF; clear a; intro a hF
    obtain ⟨p13, w14, hp_, hw_, h⟩ := h
    refine RL.val (v := .pointer (some p13)) (w' := w14) hF rfl rfl rfl (by rw [hp_, hw_]; exact r_box hF rfl rfl rfl) ?_; clear hF; clear a; intro a hF
    refine RL.val (v := .agg (#[Slc.nil.v])) (w' := w14) hF rfl rfl rfl (r_build (xs := []) hF rfl rfl (by kernel_rfl)) ?_; clear hF; clear a; intro a hF
    obtain ⟨p15, w16, hp_, hw_, h⟩ := h
    refine RL.val (v := .pointer (some p15)) (w' := w16) hF rfl rfl rfl (by rw [hp_, hw_]; exact r_box hF rfl rfl rfl) ?_; clear hF; clear a; intro a hF
    refine RL.val  hF rfl rfl rfl (r_assign hF rfl rfl) ?_; clear hF; clear a; intro a hF
    refine RL.val  hF rfl rfl rfl (r_assign hF rfl rfl) ?_; clear hF; clear a; intro a hF
    refine RL.nil (hK12 _ _ ?_)
    clear hK12 K11
    refine seq_region fun K17 hK18 => ?_
    refine RL.val  hF rfl rfl rfl (r_move hF rfl rfl) ?_; clear hF; clear a; intro a hF
    obtain ⟨t19, hct19, h⟩ := h
    refine RL.val  hF rfl rfl rfl (r_loadA hF rfl rfl Try.isAgg27 Try.sizeOf27 hct19) ?_; clear hF; clear a; intro a hF
    refine RL.call hF rfl rfl rfl (r_call (xs := [.pointer (some p13), .agg t19]) hF rfl rfl Try.call12) (CallsV.mono h ?_)
    clear h; rintro _ w20 ⟨rfl, h⟩; clear hF; clear a; intro a hF
    refine RL.nil (hK18 _ _ ?_)
    clear hK18 K17
    refine seq_region fun K21 hK22 => ?_
    refine RL.val  hF rfl rfl rfl (r_move hF rfl rfl) ?_; clear hF; clear a; intro a hF
    refine RL.val  hF rfl rfl rfl (r_fieldAddr0 hF rfl rfl Try.runUnderlying27 rfl Try.sizeOf3 rfl) ?_; clear hF; clear a; intro a hF
    obtain ⟨t23, hct23, h⟩ := h
    refine RL.val  hF rfl rfl rfl (r_load hF rfl rfl Try.isAgg3 hct23) ?_; clear hF; clear a; intro a hF
    refine RL.call hF rfl rfl rfl (r_call (xs := [.pointer (some p15), .int .i64 t23, .int .i64 1]) hF rfl rfl Try.call13) (CallsV.mono h ?_)
    clear h; rintro _ w24 ⟨rfl, h⟩; clear hF; clear a; intro a hF
    refine RL.nil (hK22 _ _ ?_)
    clear hK22 K21
    refine seq_region fun K25 hK26 => ?_
    refine RL.val  hF rfl rfl rfl (r_move hF rfl rfl) ?_; clear hF; clear a; intro a hF
    refine RL.val  hF rfl rfl rfl (r_move hF rfl rfl) ?_; clear hF; clear a; intro a hF
    refine RL.val  hF rfl rfl rfl (r_nilCheck hF rfl rfl) ?_; clear hF; clear a; intro a hF
    refine RL.val  hF rfl rfl rfl (r_fieldAddr0 hF rfl rfl Try.runUnderlying42 rfl Try.sizeOf25 rfl) ?_; clear hF; clear a; intro a hF
    obtain ⟨t27, hct27, h⟩ := h
    refine RL.val  hF rfl rfl rfl (r_load hF rfl rfl Try.isAgg25 hct27) ?_; clear hF; clear a; intro a hF
    obtain ⟨t28, hct28, h⟩ := h
    refine RL.val  hF rfl rfl rfl (r_conv hF rfl rfl hct28) ?_; clear hF; clear a; intro a hF
    refine RL.call hF rfl rfl rfl (r_call (xs := [.pointer (some p15), .string t28, .int .i64 3]) hF rfl rfl Try.call14) (CallsV.mono h ?_)
    clear h; rintro _ w29 ⟨rfl, h⟩; clear hF; clear a; intro a hF
    refine RL.nil (hK26 _ _ ?_)
    clear hK26 K25
    refine seq_region fun K30 hK31 => ?_
    refine RL.val  hF rfl rfl rfl (r_move hF rfl rfl) ?_; clear hF; clear a; intro a hF
    refine RL.val  hF rfl rfl rfl (r_nilCheck hF rfl rfl) ?_; clear hF; clear a; intro a hF
    refine RL.val  hF rfl rfl rfl (r_fieldAddr0 hF rfl rfl Try.runUnderlying42 rfl Try.sizeOf25 rfl) ?_; clear hF; clear a; intro a hF
    obtain ⟨t32, hct32, h⟩ := h
    refine RL.val  hF rfl rfl rfl (r_load hF rfl rfl Try.isAgg25 hct32) ?_; clear hF; clear a; intro a hF
    refine RL.val  hF rfl rfl rfl (r_assign hF rfl rfl) ?_; clear hF; clear a; intro a hF
    refine RL.val  hF rfl rfl rfl (r_assign hF rfl rfl) ?_; clear hF; clear a; intro a hF
    refine RL.nil (hK31 _ _ ?_)
    clear hK31 K30
    refine wp_ret ?_
    exact ret_of hF (res2 hF rfl rfl rfl) ⟨_, _, rfl, h⟩
  clear hJ
  refine wp_block ?_
  refine seq_draw 1 #[0, 0, 2, 7, 15, 31] 6 mo rfl (by kernel_rfl) (by kernel_rfl) fun hS K33 hK34 => ?_
  obtain ⟨w35, hw, h⟩ := h; rw [← hw]; clear hw
  refine GL.val (v := .pointer (some p3)) (i := 1) hF hS rfl rfl (by kernel_rfl) rfl rfl rfl rfl (fun x => r_fieldAddr0 hF rfl rfl Try.runUnderlying27 rfl Try.sizeOf3 rfl) ?_; clear hF; clear a; intro a hF
  obtain ⟨t36, hct36, h⟩ := h
  refine GL.read (v := .int .i64 t36) (i := 2) hF (fun x => World.cell? x p3 = some (.int .i64 t36)) hS rfl rfl (by kernel_rfl) rfl rfl rfl rfl hct36 (fun x hx => r_load hF rfl rfl Try.isAgg3 hx) ?_; clear hF; clear a; intro a hF
  refine GL.act (i := 0) (pend' := [(2, fun x => World.cell? x p3 = some (.int .i64 t36))]) hS (by kernel_rfl) rfl (by kernel_rfl) ?_
  refine op_call hF rfl rfl rfl rfl (r_call (xs := []) hF rfl rfl Try.call10) (CallsV.mono h ?_)
  clear h; rintro _ w37 ⟨r38, rfl, h⟩
  obtain ⟨hk39, h⟩ := h
  refine ⟨⟨hk39, trivial⟩, ?_⟩; clear hF; clear a; intro a hF
  obtain ⟨t40, hct40, h⟩ := h
  refine GL.read (v := .bool t40) (i := 3) hF (fun x => rn Try.prog (Instr.lookup 38 (.map r38) (.int .i64 t36) false) (.bool t40) x x) hS rfl rfl (by kernel_rfl) rfl rfl rfl rfl hct40 (fun x hx => r_lookup hF rfl rfl rfl hx) ?_; clear hF; clear a; intro a hF
  refine GL.val (v := .bool (!t40)) (i := 4) hF hS rfl rfl (by kernel_rfl) rfl rfl rfl rfl (fun x => r_not hF rfl rfl) ?_; clear hF; clear a; intro a hF
  refine GL.val (v := .bool (!t40)) (i := 5) hF hS rfl rfl (by kernel_rfl) rfl rfl rfl rfl (fun x => r_assign hF rfl rfl) ?_; clear hF; clear a; intro a hF
  refine GL.done (by kernel_rfl) (hK34 _ _ ?_)
  clear hK34 K33
  obtain ⟨ht, hf⟩ := h
  refine cond_ hF rfl (fun hc => ?_) (fun hc => ?_)
  · replace h := ht hc; clear ht hf
    refine seq_region fun K41 hK42 => ?_
    refine RL.val  hF rfl rfl rfl (r_assign hF rfl rfl) ?_; clear hF; clear a; intro a hF
    refine RL.val  hF rfl rfl rfl (r_assign hF rfl rfl) ?_; clear hF; clear a; intro a hF
    refine RL.nil (hK42 _ _ ?_)
    clear hK42 K41
    refine wp_ret ?_
    exact ret_of hF (res2 hF rfl rfl rfl) ⟨_, _, rfl, h⟩
  · replace h := hf hc; clear ht hf
    refine seq_region fun K43 hK44 => ?_
    obtain ⟨t45, hct45, h⟩ := h
    refine RL.val  hF rfl rfl rfl (r_loadA hF rfl rfl Try.isAgg27 Try.sizeOf27 hct45) ?_; clear hF; clear a; intro a hF
    refine RL.call hF rfl rfl rfl (r_call (xs := [.agg t45]) hF rfl rfl Try.call11) (CallsV.mono h ?_)
    clear h; rintro _ w46 ⟨r47, rfl, h⟩; clear hF; clear a; intro a hF
    refine RL.val  hF rfl rfl rfl (r_not hF rfl rfl) ?_; clear hF; clear a; intro a hF
    refine RL.val  hF rfl rfl rfl (r_assign hF rfl rfl) ?_; clear hF; clear a; intro a hF
    refine RL.nil (hK44 _ _ ?_)
    clear hK44 K43
    obtain ⟨ht, hf⟩ := h
    refine cond_ hF rfl (fun hc => ?_) (fun hc => ?_)
    · replace h := ht hc; clear ht hf
      refine seq_region fun K48 hK49 => ?_
      refine RL.val  hF rfl rfl rfl (r_assign hF rfl rfl) ?_; clear hF; clear a; intro a hF
      refine RL.val  hF rfl rfl rfl (r_assign hF rfl rfl) ?_; clear hF; clear a; intro a hF
      refine RL.nil (hK49 _ _ ?_)
      clear hK49 K48
      refine wp_ret ?_
      exact ret_of hF (res2 hF rfl rfl rfl) ⟨_, _, rfl, h⟩
    · replace h := hf hc; clear ht hf
      refine wp_skip ?_
      exact jn10 () _ _ (hF.sub rfl) h

set_option maxRecDepth 20000 in
theorem br5 {a0 : Array Value} {w : World} {K : Slc → Int → World → Prop} (h : sh5 a0 w K) : C5 a0 w K := by
  unfold sh5 at h
  refine enter (n := 28) (l := [(0, .agg a0)]) 27 Try.func5 rfl _ rfl rfl rfl fun a hF => ?_
  refine seq_region fun K1 hK2 => ?_
  obtain ⟨p3, w4, hp_, hw_, h⟩ := h
  refine RL.val (v := .pointer (some p3)) (w' := w4) hF rfl rfl rfl (by rw [hp_, hw_]; exact r_box hF rfl rfl rfl) ?_; clear hF; clear a; intro a hF
  refine RL.val  hF rfl rfl rfl (r_assign hF rfl rfl) ?_; clear hF; clear a; intro a hF
  refine RL.val  hF rfl rfl rfl (r_assign hF rfl rfl) ?_; clear hF; clear a; intro a hF
  refine RL.nil (hK2 _ _ ?_)
  clear hK2 K1
  refine seq_k fun K5 hK6 => ?_
  obtain ⟨J, hJ, h⟩ := jn_open h
  have jn10 : ∀ (v7 : Unit) (w8 : World) a, Fr 28 a [(1, .pointer (some p3))] → J v7 w8 → K5 a w8 := by
    intro v7 w8 a hF h
    replace h := hJ _ _ h
    clear hJ
    refine hK6 _ _ ?_
    refine seq_region fun K11 hK12 => ?_
    obtain ⟨t13, hct13, h⟩ := h
    refine RL.val  hF rfl rfl rfl (r_loadA hF rfl rfl Try.isAgg27 Try.sizeOf27 hct13) ?_; clear hF; clear a; intro a hF
    refine RL.call hF rfl rfl rfl (r_call (xs := [.agg t13]) hF rfl rfl Try.call4) (CallsV.mono h ?_)
    clear h; rintro _ w14 ⟨r15, r16, rfl, h⟩; clear hF; clear a; intro a hF
    refine RL.val  hF rfl rfl rfl (r_move hF rfl rfl) ?_; clear hF; clear a; intro a hF
    refine RL.val  hF rfl rfl rfl (r_extract hF rfl rfl rfl) ?_; clear hF; clear a; intro a hF
    refine RL.val  hF rfl rfl rfl (r_extract hF rfl rfl rfl) ?_; clear hF; clear a; intro a hF
    refine RL.val  hF rfl rfl rfl (r_assign hF rfl rfl) ?_; clear hF; clear a; intro a hF
    refine RL.val  hF rfl rfl rfl (r_assign hF rfl rfl) ?_; clear hF; clear a; intro a hF
    refine RL.nil (hK12 _ _ ?_)
    clear hK12 K11
    refine seq_k fun K17 hK18 => ?_
    obtain ⟨J, hJ, h⟩ := jn_open h
    have jn22 : ∀ (v19 : Unit) (w20 : World) a, Fr 28 a [(4, r15.v)] → J v19 w20 → K17 a w20 := by
      intro v19 w20 a hF h
      replace h := hJ _ _ h
      clear hJ
      refine hK18 _ _ ?_
      refine seq_region fun K23 hK24 => ?_
      refine RL.val  hF rfl rfl rfl (r_move hF rfl rfl) ?_; clear hF; clear a; intro a hF
      refine RL.val  hF rfl rfl rfl (r_move hF rfl rfl) ?_; clear hF; clear a; intro a hF
      refine RL.val  hF rfl rfl rfl (r_len_slice hF rfl rfl Try.runUnderlying25) ?_; clear hF; clear a; intro a hF
      refine RL.val  hF rfl rfl rfl (r_sub hF rfl rfl rfl) ?_; clear hF; clear a; intro a hF
      obtain ⟨hs25, hs26, h⟩ := h
      refine RL.val  hF rfl rfl rfl (r_slice (lo' := none) (hi' := some (.int .i64 (IntKind.i64.wrap ((r15.len : Int) - 16)))) (mx' := none) hF rfl rfl rfl rfl rfl (slc_at Try.runUnderlying25 Try.sizeOf5 (bounds01 hs25 hs26))) ?_; clear hF; clear a; intro a hF
      refine RL.val  hF rfl rfl rfl (r_assign hF rfl rfl) ?_; clear hF; clear a; intro a hF
      refine RL.val  hF rfl rfl rfl (r_assign hF rfl rfl) ?_; clear hF; clear a; intro a hF
      refine RL.nil (hK24 _ _ ?_)
      clear hK24 K23
      refine wp_ret ?_
      exact ret_of hF (res2 hF rfl rfl rfl) ⟨_, _, rfl, h⟩
    clear hJ
    refine seq_region fun K27 hK28 => ?_
    refine RL.val  hF rfl rfl rfl (r_move hF rfl rfl) ?_; clear hF; clear a; intro a hF
    refine RL.val  hF rfl rfl rfl (r_neq hF rfl rfl rfl) ?_; clear hF; clear a; intro a hF
    refine RL.nil (hK28 _ _ ?_)
    clear hK28 K27
    obtain ⟨ht, hf⟩ := h
    refine cond_ hF rfl (fun hc => ?_) (fun hc => ?_)
    · replace h := ht hc; clear ht hf
      refine seq_region fun K29 hK30 => ?_
      refine RL.val  hF rfl rfl rfl (r_move hF rfl rfl) ?_; clear hF; clear a; intro a hF
      refine RL.val  hF rfl rfl rfl (r_assign hF rfl rfl) ?_; clear hF; clear a; intro a hF
      refine RL.val  hF rfl rfl rfl (r_assign hF rfl rfl) ?_; clear hF; clear a; intro a hF
      refine RL.nil (hK30 _ _ ?_)
      clear hK30 K29
      refine wp_ret ?_
      exact ret_of hF (res2 hF rfl rfl rfl) ⟨_, _, rfl, h⟩
    · replace h := hf hc; clear ht hf
      refine wp_skip ?_
      exact jn22 () _ _ (hF.sub rfl) h
  clear hJ
  refine seq_region fun K31 hK32 => ?_
  obtain ⟨J35, hJ, h⟩ := jn_open h
  have jn36 : ∀ (v33 : Bool) (w34 : World) a, Fr 28 a [(1, .pointer (some p3)), (14, .bool v33)] → J35 v33 w34 → K31 a w34 := by
    clear hF
    intro v33 w34 a hF h; replace h := hJ _ _ h; refine hK32 _ _ ?_; clear hJ hK32 K31
    obtain ⟨ht, hf⟩ := h
    refine cond_ hF rfl (fun hc => ?_) (fun hc => ?_)
    · replace h := ht hc; clear ht hf
      refine seq_region fun K37 hK38 => ?_
      refine RL.val  hF rfl rfl rfl (r_assign hF rfl rfl) ?_; clear hF; clear a; intro a hF
      refine RL.val  hF rfl rfl rfl (r_assign hF rfl rfl) ?_; clear hF; clear a; intro a hF
      refine RL.nil (hK38 _ _ ?_)
      clear hK38 K37
      refine wp_ret ?_
      exact ret_of hF (res2 hF rfl rfl rfl) ⟨_, _, rfl, h⟩
    · replace h := hf hc; clear ht hf
      refine wp_skip ?_
      exact jn10 () _ _ (hF.sub rfl) h
  clear hJ hK32
  refine RL.val  hF rfl rfl rfl (r_fieldAddr0 hF rfl rfl Try.runUnderlying27 rfl Try.sizeOf3 rfl) ?_; clear hF; clear a; intro a hF
  obtain ⟨t39, hct39, h⟩ := h
  refine RL.val  hF rfl rfl rfl (r_load hF rfl rfl Try.isAgg3 hct39) ?_; clear hF; clear a; intro a hF
  refine RL.val  hF rfl rfl rfl (r_neq hF rfl rfl rfl) ?_; clear hF; clear a; intro a hF
  refine RL.val  hF rfl rfl rfl (r_move hF rfl rfl) ?_; clear hF; clear a; intro a hF
  obtain ⟨ht, hf⟩ := h
  rcases bool_cases (t39 != 1) with hg40 | hg40
  · replace h := ht hg40; clear ht hf
    refine RL.skip hF rfl rfl (lkb rfl hg40) (.inl rfl) rfl rfl ?_; clear hF; clear a; intro a hF
    refine RL.skip hF rfl rfl (lkb rfl hg40) (.inl rfl) rfl rfl ?_; clear hF; clear a; intro a hF
    refine RL.skip hF rfl rfl (lkb rfl hg40) (.inl rfl) rfl rfl ?_; clear hF; clear a; intro a hF
    refine RL.skip hF rfl rfl (lkb rfl hg40) (.inl rfl) rfl rfl ?_; clear hF; clear a; intro a hF
    refine RL.val (v := .bool true) (w' := w4) hF rfl rfl rfl (r_pick hF rfl rfl rfl rfl (fun _ => rfl) (fun e => absurd (hg40.symm.trans e) (by decide))) ?_; clear hF; clear a; intro a hF
    refine RL.nil ?_
    exact jn36 true _ _ (hF.sub rfl) h
  · replace h := hf hg40; clear ht hf
    refine RL.gval  hF rfl rfl (lkb rfl hg40) rfl rfl (r_fieldAddr hF rfl rfl Try.runUnderlying27 rfl Try.sizeOf25 rfl) ?_; clear hF; clear a; intro a hF
    obtain ⟨t41, hct41, h⟩ := h
    refine RL.gval  hF rfl rfl (lkb rfl hg40) rfl rfl (r_load hF rfl rfl Try.isAgg25 hct41) ?_; clear hF; clear a; intro a hF
    refine RL.gval  hF rfl rfl (lkb rfl hg40) rfl rfl (r_len_slice hF rfl rfl Try.runUnderlying25) ?_; clear hF; clear a; intro a hF
    refine RL.gval  hF rfl rfl (lkb rfl hg40) rfl rfl (r_eql hF rfl rfl rfl) ?_; clear hF; clear a; intro a hF
    refine RL.val (v := .bool ((t41.len : Int) == 0)) (w' := w4) hF rfl rfl rfl (r_pick hF rfl rfl rfl rfl (fun e => absurd (hg40.symm.trans e) (by decide)) (fun _ => rfl)) ?_; clear hF; clear a; intro a hF
    refine RL.nil ?_
    exact jn36 ((t41.len : Int) == 0) _ _ (hF.sub rfl) h

set_option maxRecDepth 20000 in
theorem br7 {a0 : Array Value} {w : World} {K : Array Value → World → Prop} (h : sh7 a0 w K) : C7 a0 w K := by
  unfold sh7 at h
  refine enter (n := 28) (l := [(0, .agg a0)]) 27 Try.func7 rfl _ rfl rfl rfl fun a hF => ?_
  refine seq_region fun K1 hK2 => ?_
  obtain ⟨p3, w4, hp_, hw_, h⟩ := h
  refine RL.val (v := .pointer (some p3)) (w' := w4) hF rfl rfl rfl (by rw [hp_, hw_]; exact r_box hF rfl rfl rfl) ?_; clear hF; clear a; intro a hF
  obtain ⟨p5, w6, hp_, hw_, h⟩ := h
  refine RL.val (v := .pointer (some p5)) (w' := w6) hF rfl rfl rfl (by rw [hp_, hw_]; exact r_alloc rfl zeroV34 rfl) ?_; clear hF; clear a; intro a hF
  refine RL.nil (hK2 _ _ ?_)
  clear hK2 K1
  refine seq_region fun K7 hK8 => ?_
  refine RL.val  hF rfl rfl rfl (r_fieldAddr0 hF rfl rfl Try.runUnderlying27 rfl Try.sizeOf3 rfl) ?_; clear hF; clear a; intro a hF
  obtain ⟨t9, hct9, h⟩ := h
  refine RL.val  hF rfl rfl rfl (r_load hF rfl rfl Try.isAgg3 hct9) ?_; clear hF; clear a; intro a hF
  refine RL.val  hF rfl rfl rfl (r_fieldAddr hF rfl rfl Try.runUnderlying27 rfl Try.sizeOf23 rfl) ?_; clear hF; clear a; intro a hF
  obtain ⟨t10, hct10, h⟩ := h
  refine RL.val  hF rfl rfl rfl (r_loadA hF rfl rfl Try.isAgg23 Try.sizeOf23 hct10) ?_; clear hF; clear a; intro a hF
  refine RL.val  hF rfl rfl rfl (r_fieldAddr hF rfl rfl Try.runUnderlying27 rfl Try.sizeOf23 rfl) ?_; clear hF; clear a; intro a hF
  obtain ⟨t11, hct11, h⟩ := h
  refine RL.val  hF rfl rfl rfl (r_loadA hF rfl rfl Try.isAgg23 Try.sizeOf23 hct11) ?_; clear hF; clear a; intro a hF
  refine RL.val  hF rfl rfl rfl (r_fieldAddr hF rfl rfl Try.runUnderlying27 rfl Try.sizeOf9 rfl) ?_; clear hF; clear a; intro a hF
  obtain ⟨t12, hct12, h⟩ := h
  refine RL.val  hF rfl rfl rfl (r_load hF rfl rfl Try.isAgg9 hct12) ?_; clear hF; clear a; intro a hF
  refine RL.val  hF rfl rfl rfl (r_fieldAddr hF rfl rfl Try.runUnderlying27 rfl Try.sizeOf24 rfl) ?_; clear hF; clear a; intro a hF
  obtain ⟨t13, hct13, h⟩ := h
  refine RL.val  hF rfl rfl rfl (r_load hF rfl rfl Try.isAgg24 hct13) ?_; clear hF; clear a; intro a hF
  refine RL.val  hF rfl rfl rfl (r_fieldAddr hF rfl rfl Try.runUnderlying27 rfl Try.sizeOf25 rfl) ?_; clear hF; clear a; intro a hF
  obtain ⟨t14, hct14, h⟩ := h
  refine RL.val  hF rfl rfl rfl (r_load hF rfl rfl Try.isAgg25 hct14) ?_; clear hF; clear a; intro a hF
  refine RL.val  hF rfl rfl rfl (r_fieldAddr hF rfl rfl Try.runUnderlying27 rfl Try.sizeOf25 rfl) ?_; clear hF; clear a; intro a hF
  obtain ⟨t15, hct15, h⟩ := h
  refine RL.val  hF rfl rfl rfl (r_load hF rfl rfl Try.isAgg25 hct15) ?_; clear hF; clear a; intro a hF
  refine RL.val  hF rfl rfl rfl (r_fieldAddr hF rfl rfl Try.runUnderlying27 rfl Try.sizeOf23 rfl) ?_; clear hF; clear a; intro a hF
  obtain ⟨t16, hct16, h⟩ := h
  refine RL.val  hF rfl rfl rfl (r_loadA hF rfl rfl Try.isAgg23 Try.sizeOf23 hct16) ?_; clear hF; clear a; intro a hF
  refine RL.val  hF rfl rfl rfl (r_fieldAddr hF rfl rfl Try.runUnderlying27 rfl Try.sizeOf4 rfl) ?_; clear hF; clear a; intro a hF
  obtain ⟨t17, hct17, h⟩ := h
  refine RL.val  hF rfl rfl rfl (r_load hF rfl rfl Try.isAgg4 hct17) ?_; clear hF; clear a; intro a hF
  refine RL.val  hF rfl rfl rfl (r_fieldAddr hF rfl rfl Try.runUnderlying27 rfl Try.sizeOf4 rfl) ?_; clear hF; clear a; intro a hF
  obtain ⟨t18, hct18, h⟩ := h
  refine RL.val  hF rfl rfl rfl (r_load hF rfl rfl Try.isAgg4 hct18) ?_; clear hF; clear a; intro a hF
  refine RL.val  hF rfl rfl rfl (r_fieldAddr hF rfl rfl Try.runUnderlying27 rfl Try.sizeOf23 rfl) ?_; clear hF; clear a; intro a hF
  obtain ⟨t19, hct19, h⟩ := h
  refine RL.val  hF rfl rfl rfl (r_loadA hF rfl rfl Try.isAgg23 Try.sizeOf23 hct19) ?_; clear hF; clear a; intro a hF
  refine RL.val  hF rfl rfl rfl (r_fieldAddr hF rfl rfl Try.runUnderlying27 rfl Try.sizeOf3 rfl) ?_; clear hF; clear a; intro a hF
  obtain ⟨t20, hct20, h⟩ := h
  refine RL.val  hF rfl rfl rfl (r_load hF rfl rfl Try.isAgg3 hct20) ?_; clear hF; clear a; intro a hF
  obtain ⟨t21, hct21, h⟩ := h
  refine RL.val  hF rfl rfl rfl (r_build (xs := [(0, .int .i64 t9), (1, .agg t10), (2, .agg t11), (3, .string t12), (4, t13.v), (5, t14.v), (6, t15.v), (7, .agg t16), (8, .bool t17), (9, .bool t18), (10, .agg t19), (11, .int .i64 t20)]) hF rfl rfl (hct21 _)) ?_; clear hF; clear a; intro a hF
  obtain ⟨w22, hs1_, hs2_, hs3_, hs4_, h⟩ := h
  refine RL.unit (w' := w22) hF rfl rfl (by rw [hs4_]; exact r_storeA hF rfl rfl rfl Try.sizeOf34 hs1_ hs2_ hs3_) ?_; clear hF; clear a; intro a hF
  refine RL.nil (hK8 _ _ ?_)
  clear hK8 K7
  refine wp_ret ?_
  obtain ⟨t23, hct23, h⟩ := h
  exact ret_of hF (res1 hF rfl ⟨_, rfl, ldAg Try.isAgg34 Try.sizeOf34 hct23⟩) ⟨_, rfl, h⟩

set_option maxRecDepth 20000 in
theorem br15 {a0 : Int} {w : World} {K : Bool → World → Prop} (h : sh15 a0 w K) : C15 a0 w K := by
  unfold sh15 at h
  refine enter (n := 29) (l := [(0, .int .i64 a0)]) 28 Try.func15 rfl _ rfl rfl rfl fun a hF => ?_
  refine seq_region fun K1 hK2 => ?_
  refine RL.val  hF rfl rfl rfl (r_assign hF rfl rfl) ?_; clear hF; clear a; intro a hF
  refine RL.nil (hK2 _ _ ?_)
  clear hK2 K1
  refine seq_region fun K3 hK4 => ?_
  obtain ⟨J7, hJ, h⟩ := jn_open h
  have jn8 : ∀ (v5 : Bool) (w6 : World) a, Fr 29 a [(2, .bool v5)] → J7 v5 w6 → K3 a w6 := by
    clear hF
    intro v5 w6 a hF h; replace h := hJ _ _ h; refine hK4 _ _ ?_; clear hJ hK4 K3
    refine wp_ret ?_
    exact ret_of hF (res1 hF rfl rfl) ⟨_, rfl, h⟩
  clear hJ hK4
  refine RL.val  hF rfl rfl rfl (r_move hF rfl rfl) ?_; clear hF; clear a; intro a hF
  refine RL.val  hF rfl rfl rfl (r_eql hF rfl rfl rfl) ?_; clear hF; clear a; intro a hF
  refine RL.val  hF rfl rfl rfl (r_move hF rfl rfl) ?_; clear hF; clear a; intro a hF
  obtain ⟨ht, hf⟩ := h
  rcases bool_cases (a0 == 1) with hg9 | hg9
  · replace h := ht hg9; clear ht hf
    refine RL.skip hF rfl rfl (lkb rfl hg9) (.inl rfl) rfl rfl ?_; clear hF; clear a; intro a hF
    refine RL.skip hF rfl rfl (lkb rfl hg9) (.inl rfl) rfl rfl ?_; clear hF; clear a; intro a hF
    refine RL.val (v := .bool true) (w' := w) hF rfl rfl rfl (r_pick hF rfl rfl rfl rfl (fun _ => rfl) (fun e => absurd (hg9.symm.trans e) (by decide))) ?_; clear hF; clear a; intro a hF
    refine RL.val  hF rfl rfl rfl (r_move hF rfl rfl) ?_; clear hF; clear a; intro a hF
    refine RL.skip hF rfl rfl rfl (.inl rfl) rfl rfl ?_; clear hF; clear a; intro a hF
    refine RL.skip hF rfl rfl rfl (.inl rfl) rfl rfl ?_; clear hF; clear a; intro a hF
    refine RL.val (v := .bool true) (w' := w) hF rfl rfl rfl (r_pick hF rfl rfl rfl rfl (fun _ => rfl) (fun e => absurd e (by decide))) ?_; clear hF; clear a; intro a hF
    refine RL.val  hF rfl rfl rfl (r_move hF rfl rfl) ?_; clear hF; clear a; intro a hF
    refine RL.skip hF rfl rfl rfl (.inl rfl) rfl rfl ?_; clear hF; clear a; intro a hF
    refine RL.skip hF rfl rfl rfl (.inl rfl) rfl rfl ?_; clear hF; clear a; intro a hF
    refine RL.val (v := .bool true) (w' := w) hF rfl rfl rfl (r_pick hF rfl rfl rfl rfl (fun _ => rfl) (fun e => absurd e (by decide))) ?_; clear hF; clear a; intro a hF
    refine RL.val  hF rfl rfl rfl (r_move hF rfl rfl) ?_; clear hF; clear a; intro a hF
    refine RL.skip hF rfl rfl rfl (.inl rfl) rfl rfl ?_; clear hF; clear a; intro a hF
    refine RL.skip hF rfl rfl rfl (.inl rfl) rfl rfl ?_; clear hF; clear a; intro a hF
    refine RL.val (v := .bool true) (w' := w) hF rfl rfl rfl (r_pick hF rfl rfl rfl rfl (fun _ => rfl) (fun e => absurd e (by decide))) ?_; clear hF; clear a; intro a hF
    refine RL.val  hF rfl rfl rfl (r_move hF rfl rfl) ?_; clear hF; clear a; intro a hF
    refine RL.skip hF rfl rfl rfl (.inl rfl) rfl rfl ?_; clear hF; clear a; intro a hF
    refine RL.skip hF rfl rfl rfl (.inl rfl) rfl rfl ?_; clear hF; clear a; intro a hF
    refine RL.val (v := .bool true) (w' := w) hF rfl rfl rfl (r_pick hF rfl rfl rfl rfl (fun _ => rfl) (fun e => absurd e (by decide))) ?_; clear hF; clear a; intro a hF
    refine RL.val  hF rfl rfl rfl (r_move hF rfl rfl) ?_; clear hF; clear a; intro a hF
    refine RL.skip hF rfl rfl rfl (.inl rfl) rfl rfl ?_; clear hF; clear a; intro a hF
    refine RL.skip hF rfl rfl rfl (.inl rfl) rfl rfl ?_; clear hF; clear a; intro a hF
    refine RL.val (v := .bool true) (w' := w) hF rfl rfl rfl (r_pick hF rfl rfl rfl rfl (fun _ => rfl) (fun e => absurd e (by decide))) ?_; clear hF; clear a; intro a hF
    refine RL.val  hF rfl rfl rfl (r_assign hF rfl rfl) ?_; clear hF; clear a; intro a hF
    refine RL.nil ?_
    exact jn8 true _ _ (hF.sub rfl) h
  · replace h := hf hg9; clear ht hf
    refine RL.gval  hF rfl rfl (lkb rfl hg9) rfl rfl (r_move hF rfl rfl) ?_; clear hF; clear a; intro a hF
    refine RL.gval  hF rfl rfl (lkb rfl hg9) rfl rfl (r_eql hF rfl rfl rfl) ?_; clear hF; clear a; intro a hF
    refine RL.val (v := .bool (a0 == 2)) (w' := w) hF rfl rfl rfl (r_pick hF rfl rfl rfl rfl (fun e => absurd (hg9.symm.trans e) (by decide)) (fun _ => rfl)) ?_; clear hF; clear a; intro a hF
    refine RL.val  hF rfl rfl rfl (r_move hF rfl rfl) ?_; clear hF; clear a; intro a hF
    obtain ⟨ht, hf⟩ := h
    rcases bool_cases (a0 == 2) with hg10 | hg10
    · replace h := ht hg10; clear ht hf
      refine RL.skip hF rfl rfl (lkb rfl hg10) (.inl rfl) rfl rfl ?_; clear hF; clear a; intro a hF
      refine RL.skip hF rfl rfl (lkb rfl hg10) (.inl rfl) rfl rfl ?_; clear hF; clear a; intro a hF
      refine RL.val (v := .bool true) (w' := w) hF rfl rfl rfl (r_pick hF rfl rfl rfl rfl (fun _ => rfl) (fun e => absurd (hg10.symm.trans e) (by decide))) ?_; clear hF; clear a; intro a hF
      refine RL.val  hF rfl rfl rfl (r_move hF rfl rfl) ?_; clear hF; clear a; intro a hF
      refine RL.skip hF rfl rfl rfl (.inl rfl) rfl rfl ?_; clear hF; clear a; intro a hF
      refine RL.skip hF rfl rfl rfl (.inl rfl) rfl rfl ?_; clear hF; clear a; intro a hF
      refine RL.val (v := .bool true) (w' := w) hF rfl rfl rfl (r_pick hF rfl rfl rfl rfl (fun _ => rfl) (fun e => absurd e (by decide))) ?_; clear hF; clear a; intro a hF
      refine RL.val  hF rfl rfl rfl (r_move hF rfl rfl) ?_; clear hF; clear a; intro a hF
      refine RL.skip hF rfl rfl rfl (.inl rfl) rfl rfl ?_; clear hF; clear a; intro a hF
      refine RL.skip hF rfl rfl rfl (.inl rfl) rfl rfl ?_; clear hF; clear a; intro a hF
      refine RL.val (v := .bool true) (w' := w) hF rfl rfl rfl (r_pick hF rfl rfl rfl rfl (fun _ => rfl) (fun e => absurd e (by decide))) ?_; clear hF; clear a; intro a hF
      refine RL.val  hF rfl rfl rfl (r_move hF rfl rfl) ?_; clear hF; clear a; intro a hF
      refine RL.skip hF rfl rfl rfl (.inl rfl) rfl rfl ?_; clear hF; clear a; intro a hF
      refine RL.skip hF rfl rfl rfl (.inl rfl) rfl rfl ?_; clear hF; clear a; intro a hF
      refine RL.val (v := .bool true) (w' := w) hF rfl rfl rfl (r_pick hF rfl rfl rfl rfl (fun _ => rfl) (fun e => absurd e (by decide))) ?_; clear hF; clear a; intro a hF
      refine RL.val  hF rfl rfl rfl (r_move hF rfl rfl) ?_; clear hF; clear a; intro a hF
      refine RL.skip hF rfl rfl rfl (.inl rfl) rfl rfl ?_; clear hF; clear a; intro a hF
      refine RL.skip hF rfl rfl rfl (.inl rfl) rfl rfl ?_; clear hF; clear a; intro a hF
      refine RL.val (v := .bool true) (w' := w) hF rfl rfl rfl (r_pick hF rfl rfl rfl rfl (fun _ => rfl) (fun e => absurd e (by decide))) ?_; clear hF; clear a; intro a hF
      refine RL.val  hF rfl rfl rfl (r_assign hF rfl rfl) ?_; clear hF; clear a; intro a hF
      refine RL.nil ?_
      exact jn8 true _ _ (hF.sub rfl) h
    · replace h := hf hg10; clear ht hf
      refine RL.gval  hF rfl rfl (lkb rfl hg10) rfl rfl (r_move hF rfl rfl) ?_; clear hF; clear a; intro a hF
      refine RL.gval  hF rfl rfl (lkb rfl hg10) rfl rfl (r_eql hF rfl rfl rfl) ?_; clear hF; clear a; intro a hF
      refine RL.val (v := .bool (a0 == 4)) (w' := w) hF rfl rfl rfl (r_pick hF rfl rfl rfl rfl (fun e => absurd (hg10.symm.trans e) (by decide)) (fun _ => rfl)) ?_; clear hF; clear a; intro a hF
      refine RL.val  hF rfl rfl rfl (r_move hF rfl rfl) ?_; clear hF; clear a; intro a hF
      obtain ⟨ht, hf⟩ := h
      rcases bool_cases (a0 == 4) with hg11 | hg11
      · replace h := ht hg11; clear ht hf
        refine RL.skip hF rfl rfl (lkb rfl hg11) (.inl rfl) rfl rfl ?_; clear hF; clear a; intro a hF
        refine RL.skip hF rfl rfl (lkb rfl hg11) (.inl rfl) rfl rfl ?_; clear hF; clear a; intro a hF
        refine RL.val (v := .bool true) (w' := w) hF rfl rfl rfl (r_pick hF rfl rfl rfl rfl (fun _ => rfl) (fun e => absurd (hg11.symm.trans e) (by decide))) ?_; clear hF; clear a; intro a hF
        refine RL.val  hF rfl rfl rfl (r_move hF rfl rfl) ?_; clear hF; clear a; intro a hF
        refine RL.skip hF rfl rfl rfl (.inl rfl) rfl rfl ?_; clear hF; clear a; intro a hF
        refine RL.skip hF rfl rfl rfl (.inl rfl) rfl rfl ?_; clear hF; clear a; intro a hF
        refine RL.val (v := .bool true) (w' := w) hF rfl rfl rfl (r_pick hF rfl rfl rfl rfl (fun _ => rfl) (fun e => absurd e (by decide))) ?_; clear hF; clear a; intro a hF
        refine RL.val  hF rfl rfl rfl (r_move hF rfl rfl) ?_; clear hF; clear a; intro a hF
        refine RL.skip hF rfl rfl rfl (.inl rfl) rfl rfl ?_; clear hF; clear a; intro a hF
        refine RL.skip hF rfl rfl rfl (.inl rfl) rfl rfl ?_; clear hF; clear a; intro a hF
        refine RL.val (v := .bool true) (w' := w) hF rfl rfl rfl (r_pick hF rfl rfl rfl rfl (fun _ => rfl) (fun e => absurd e (by decide))) ?_; clear hF; clear a; intro a hF
        refine RL.val  hF rfl rfl rfl (r_move hF rfl rfl) ?_; clear hF; clear a; intro a hF
        refine RL.skip hF rfl rfl rfl (.inl rfl) rfl rfl ?_; clear hF; clear a; intro a hF
        refine RL.skip hF rfl rfl rfl (.inl rfl) rfl rfl ?_; clear hF; clear a; intro a hF
        refine RL.val (v := .bool true) (w' := w) hF rfl rfl rfl (r_pick hF rfl rfl rfl rfl (fun _ => rfl) (fun e => absurd e (by decide))) ?_; clear hF; clear a; intro a hF
        refine RL.val  hF rfl rfl rfl (r_assign hF rfl rfl) ?_; clear hF; clear a; intro a hF
        refine RL.nil ?_
        exact jn8 true _ _ (hF.sub rfl) h
      · replace h := hf hg11; clear ht hf
        refine RL.gval  hF rfl rfl (lkb rfl hg11) rfl rfl (r_move hF rfl rfl) ?_; clear hF; clear a; intro a hF
        refine RL.gval  hF rfl rfl (lkb rfl hg11) rfl rfl (r_eql hF rfl rfl rfl) ?_; clear hF; clear a; intro a hF
        refine RL.val (v := .bool (a0 == 8)) (w' := w) hF rfl rfl rfl (r_pick hF rfl rfl rfl rfl (fun e => absurd (hg11.symm.trans e) (by decide)) (fun _ => rfl)) ?_; clear hF; clear a; intro a hF
        refine RL.val  hF rfl rfl rfl (r_move hF rfl rfl) ?_; clear hF; clear a; intro a hF
        obtain ⟨ht, hf⟩ := h
        rcases bool_cases (a0 == 8) with hg12 | hg12
        · replace h := ht hg12; clear ht hf
          refine RL.skip hF rfl rfl (lkb rfl hg12) (.inl rfl) rfl rfl ?_; clear hF; clear a; intro a hF
          refine RL.skip hF rfl rfl (lkb rfl hg12) (.inl rfl) rfl rfl ?_; clear hF; clear a; intro a hF
          refine RL.val (v := .bool true) (w' := w) hF rfl rfl rfl (r_pick hF rfl rfl rfl rfl (fun _ => rfl) (fun e => absurd (hg12.symm.trans e) (by decide))) ?_; clear hF; clear a; intro a hF
          refine RL.val  hF rfl rfl rfl (r_move hF rfl rfl) ?_; clear hF; clear a; intro a hF
          refine RL.skip hF rfl rfl rfl (.inl rfl) rfl rfl ?_; clear hF; clear a; intro a hF
          refine RL.skip hF rfl rfl rfl (.inl rfl) rfl rfl ?_; clear hF; clear a; intro a hF
          refine RL.val (v := .bool true) (w' := w) hF rfl rfl rfl (r_pick hF rfl rfl rfl rfl (fun _ => rfl) (fun e => absurd e (by decide))) ?_; clear hF; clear a; intro a hF
          refine RL.val  hF rfl rfl rfl (r_move hF rfl rfl) ?_; clear hF; clear a; intro a hF
          refine RL.skip hF rfl rfl rfl (.inl rfl) rfl rfl ?_; clear hF; clear a; intro a hF
          refine RL.skip hF rfl rfl rfl (.inl rfl) rfl rfl ?_; clear hF; clear a; intro a hF
          refine RL.val (v := .bool true) (w' := w) hF rfl rfl rfl (r_pick hF rfl rfl rfl rfl (fun _ => rfl) (fun e => absurd e (by decide))) ?_; clear hF; clear a; intro a hF
          refine RL.val  hF rfl rfl rfl (r_assign hF rfl rfl) ?_; clear hF; clear a; intro a hF
          refine RL.nil ?_
          exact jn8 true _ _ (hF.sub rfl) h
        · replace h := hf hg12; clear ht hf
          refine RL.gval  hF rfl rfl (lkb rfl hg12) rfl rfl (r_move hF rfl rfl) ?_; clear hF; clear a; intro a hF
          refine RL.gval  hF rfl rfl (lkb rfl hg12) rfl rfl (r_eql hF rfl rfl rfl) ?_; clear hF; clear a; intro a hF
          refine RL.val (v := .bool (a0 == 11)) (w' := w) hF rfl rfl rfl (r_pick hF rfl rfl rfl rfl (fun e => absurd (hg12.symm.trans e) (by decide)) (fun _ => rfl)) ?_; clear hF; clear a; intro a hF
          refine RL.val  hF rfl rfl rfl (r_move hF rfl rfl) ?_; clear hF; clear a; intro a hF
          obtain ⟨ht, hf⟩ := h
          rcases bool_cases (a0 == 11) with hg13 | hg13
          · replace h := ht hg13; clear ht hf
            refine RL.skip hF rfl rfl (lkb rfl hg13) (.inl rfl) rfl rfl ?_; clear hF; clear a; intro a hF
            refine RL.skip hF rfl rfl (lkb rfl hg13) (.inl rfl) rfl rfl ?_; clear hF; clear a; intro a hF
            refine RL.val (v := .bool true) (w' := w) hF rfl rfl rfl (r_pick hF rfl rfl rfl rfl (fun _ => rfl) (fun e => absurd (hg13.symm.trans e) (by decide))) ?_; clear hF; clear a; intro a hF
            refine RL.val  hF rfl rfl rfl (r_move hF rfl rfl) ?_; clear hF; clear a; intro a hF
            refine RL.skip hF rfl rfl rfl (.inl rfl) rfl rfl ?_; clear hF; clear a; intro a hF
            refine RL.skip hF rfl rfl rfl (.inl rfl) rfl rfl ?_; clear hF; clear a; intro a hF
            refine RL.val (v := .bool true) (w' := w) hF rfl rfl rfl (r_pick hF rfl rfl rfl rfl (fun _ => rfl) (fun e => absurd e (by decide))) ?_; clear hF; clear a; intro a hF
            refine RL.val  hF rfl rfl rfl (r_assign hF rfl rfl) ?_; clear hF; clear a; intro a hF
            refine RL.nil ?_
            exact jn8 true _ _ (hF.sub rfl) h
          · replace h := hf hg13; clear ht hf
            refine RL.gval  hF rfl rfl (lkb rfl hg13) rfl rfl (r_move hF rfl rfl) ?_; clear hF; clear a; intro a hF
            refine RL.gval  hF rfl rfl (lkb rfl hg13) rfl rfl (r_eql hF rfl rfl rfl) ?_; clear hF; clear a; intro a hF
            refine RL.val (v := .bool (a0 == 15)) (w' := w) hF rfl rfl rfl (r_pick hF rfl rfl rfl rfl (fun e => absurd (hg13.symm.trans e) (by decide)) (fun _ => rfl)) ?_; clear hF; clear a; intro a hF
            refine RL.val  hF rfl rfl rfl (r_move hF rfl rfl) ?_; clear hF; clear a; intro a hF
            obtain ⟨ht, hf⟩ := h
            rcases bool_cases (a0 == 15) with hg14 | hg14
            · replace h := ht hg14; clear ht hf
              refine RL.skip hF rfl rfl (lkb rfl hg14) (.inl rfl) rfl rfl ?_; clear hF; clear a; intro a hF
              refine RL.skip hF rfl rfl (lkb rfl hg14) (.inl rfl) rfl rfl ?_; clear hF; clear a; intro a hF
              refine RL.val (v := .bool true) (w' := w) hF rfl rfl rfl (r_pick hF rfl rfl rfl rfl (fun _ => rfl) (fun e => absurd (hg14.symm.trans e) (by decide))) ?_; clear hF; clear a; intro a hF
              refine RL.val  hF rfl rfl rfl (r_assign hF rfl rfl) ?_; clear hF; clear a; intro a hF
              refine RL.nil ?_
              exact jn8 true _ _ (hF.sub rfl) h
            · replace h := hf hg14; clear ht hf
              refine RL.gval  hF rfl rfl (lkb rfl hg14) rfl rfl (r_move hF rfl rfl) ?_; clear hF; clear a; intro a hF
              refine RL.gval  hF rfl rfl (lkb rfl hg14) rfl rfl (r_eql hF rfl rfl rfl) ?_; clear hF; clear a; intro a hF
              refine RL.val (v := .bool (a0 == 20)) (w' := w) hF rfl rfl rfl (r_pick hF rfl rfl rfl rfl (fun e => absurd (hg14.symm.trans e) (by decide)) (fun _ => rfl)) ?_; clear hF; clear a; intro a hF
              refine RL.val  hF rfl rfl rfl (r_assign hF rfl rfl) ?_; clear hF; clear a; intro a hF
              refine RL.nil ?_
              exact jn8 (a0 == 20) _ _ (hF.sub rfl) h

set_option maxRecDepth 20000 in
theorem br22 {a0 : Slc} {a1 : Int} {w : World} {K : Bool → World → Prop} (h : sh22 a0 a1 w K) : C22 a0 a1 w K := by
  unfold sh22 at h
  refine enter (n := 35) (l := [(0, a0.v), (1, .int .i64 a1)]) 33 Try.func22 rfl _ rfl rfl rfl fun a hF => ?_
  refine seq_region fun K1 hK2 => ?_
  refine RL.val  hF rfl rfl rfl (r_assign hF rfl rfl) ?_; clear hF; clear a; intro a hF
  refine RL.nil (hK2 _ _ ?_)
  clear hK2 K1
  refine seq_k fun K3 hK4 => ?_
  obtain ⟨J, hJ, h⟩ := jn_open h
  have jn8 : ∀ (v5 : Unit) (w6 : World) a, Fr 35 a [(0, a0.v), (1, .int .i64 a1)] → J v5 w6 → K3 a w6 := by
    intro v5 w6 a hF h
    replace h := hJ _ _ h
    clear hJ
    refine hK4 _ _ ?_
    refine seq_region fun K9 hK10 => ?_
    obtain ⟨J13, hJ, h⟩ := jn_open h
    have jn14 : ∀ (v11 : Bool) (w12 : World) a, Fr 35 a [(4, .bool v11)] → J13 v11 w12 → K9 a w12 := by
      clear hF
      intro v11 w12 a hF h; replace h := hJ _ _ h; refine hK10 _ _ ?_; clear hJ hK10 K9
      refine wp_ret ?_
      exact ret_of hF (res1 hF rfl rfl) ⟨_, rfl, h⟩
    clear hJ hK10
    refine RL.val  hF rfl rfl rfl (r_move hF rfl rfl) ?_; clear hF; clear a; intro a hF
    refine RL.val  hF rfl rfl rfl (r_len_slice hF rfl rfl Try.runUnderlying24) ?_; clear hF; clear a; intro a hF
    refine RL.val  hF rfl rfl rfl (r_geq hF rfl rfl rfl) ?_; clear hF; clear a; intro a hF
    refine RL.val  hF rfl rfl rfl (r_move hF rfl rfl) ?_; clear hF; clear a; intro a hF
    obtain ⟨ht, hf⟩ := h
    rcases bool_cases (decide ((a0.len : Int) ≥ 1)) with hg15 | hg15
    · replace h := ht hg15; clear ht hf
      refine RL.gval  hF rfl rfl (lkb rfl hg15) rfl rfl (r_move hF rfl rfl) ?_; clear hF; clear a; intro a hF
      refine RL.gval  hF rfl rfl (lkb rfl hg15) rfl rfl (r_len_slice hF rfl rfl Try.runUnderlying24) ?_; clear hF; clear a; intro a hF
      refine RL.gval  hF rfl rfl (lkb rfl hg15) rfl rfl (r_move hF rfl rfl) ?_; clear hF; clear a; intro a hF
      refine RL.gval  hF rfl rfl (lkb rfl hg15) rfl rfl (r_leq hF rfl rfl rfl) ?_; clear hF; clear a; intro a hF
      refine RL.val (v := .bool (decide ((a0.len : Int) ≤ a1))) (w' := w6) hF rfl rfl rfl (r_pick hF rfl rfl rfl rfl (fun _ => rfl) (fun e => absurd (hg15.symm.trans e) (by decide))) ?_; clear hF; clear a; intro a hF
      refine RL.val  hF rfl rfl rfl (r_assign hF rfl rfl) ?_; clear hF; clear a; intro a hF
      refine RL.nil ?_
      exact jn14 (decide ((a0.len : Int) ≤ a1)) _ _ (hF.sub rfl) h
    · replace h := hf hg15; clear ht hf
      refine RL.skip hF rfl rfl (lkb rfl hg15) (.inl rfl) rfl rfl ?_; clear hF; clear a; intro a hF
      refine RL.skip hF rfl rfl (lkb rfl hg15) (.inl rfl) rfl rfl ?_; clear hF; clear a; intro a hF
      refine RL.skip hF rfl rfl (lkb rfl hg15) (.inl rfl) rfl rfl ?_; clear hF; clear a; intro a hF
      refine RL.skip hF rfl rfl (lkb rfl hg15) (.inl rfl) rfl rfl ?_; clear hF; clear a; intro a hF
      refine RL.val (v := .bool false) (w' := w6) hF rfl rfl rfl (r_pick hF rfl rfl rfl rfl (fun e => absurd (hg15.symm.trans e) (by decide)) (fun _ => rfl)) ?_; clear hF; clear a; intro a hF
      refine RL.val  hF rfl rfl rfl (r_assign hF rfl rfl) ?_; clear hF; clear a; intro a hF
      refine RL.nil ?_
      exact jn14 false _ _ (hF.sub rfl) h
  clear hJ
  refine seq_region fun K16 hK17 => ?_
  refine RL.val  hF rfl rfl rfl (r_assign hF rfl rfl) ?_; clear hF; clear a; intro a hF
  refine RL.nil (hK17 _ _ ?_)
  clear hK17 K16
  refine wp_block ?_
  refine loop_ (fun (s18 : Int) => [(0, a0.v), (1, .int .i64 a1), (5, .int .i64 s18)]) (hF.sub rfl) h ?_
  clear hF h
  intro s18 w19 N20 KL hN21 h a hF
  refine seq_k fun K22 hK23 => ?_
  obtain ⟨J, hJ, h⟩ := jn_open h
  have jn27 : ∀ (v24 : Unit) (w25 : World) a, Fr 35 a [(0, a0.v), (1, .int .i64 a1), (5, .int .i64 s18)] → J v24 w25 → K22 a w25 := by
    intro v24 w25 a hF h
    replace h := hJ _ _ h
    clear hJ
    refine hK23 _ _ ?_
    refine seq_k fun K28 hK29 => ?_
    obtain ⟨J, hJ, h⟩ := jn_open h
    have jn33 : ∀ (v30 : Unit) (w31 : World) a, Fr 35 a [(0, a0.v), (1, .int .i64 a1), (5, .int .i64 s18)] → J v30 w31 → K28 a w31 := by
      intro v30 w31 a hF h
      replace h := hJ _ _ h
      clear hJ
      refine hK29 _ _ ?_
      refine end_region fun K34 hK35 => ?_
      refine RL.val  hF rfl rfl rfl (r_move hF rfl rfl) ?_; clear hF; clear a; intro a hF
      refine RL.val  hF rfl rfl rfl (r_add hF rfl rfl rfl) ?_; clear hF; clear a; intro a hF
      refine RL.val  hF rfl rfl rfl (r_assign hF rfl rfl) ?_; clear hF; clear a; intro a hF
      refine RL.nil (hK35 _ _ ?_)
      clear hK35 K34
      exact hN21 (IntKind.i64.wrap (s18 + 1)) _ _ (hF.sub rfl) h
    clear hJ
    refine wp_block ?_
    refine seq_region fun K36 hK37 => ?_
    obtain ⟨J40, hJ, h⟩ := jn_open h
    have jn41 : ∀ (v38 : Bool) (w39 : World) a, Fr 35 a [(0, a0.v), (1, .int .i64 a1), (5, .int .i64 s18), (25, .bool v38)] → J40 v38 w39 → K36 a w39 := by
      clear hF
      intro v38 w39 a hF h; replace h := hJ _ _ h; refine hK37 _ _ ?_; clear hJ hK37 K36
      obtain ⟨ht, hf⟩ := h
      refine cond_ hF rfl (fun hc => ?_) (fun hc => ?_)
      · replace h := ht hc; clear ht hf
        refine seq_region fun K42 hK43 => ?_
        refine RL.val  hF rfl rfl rfl (r_assign hF rfl rfl) ?_; clear hF; clear a; intro a hF
        refine RL.nil (hK43 _ _ ?_)
        clear hK43 K42
        refine wp_ret ?_
        exact ret_of hF (res1 hF rfl rfl) ⟨_, rfl, h⟩
      · replace h := hf hc; clear ht hf
        refine wp_skip ?_
        exact jn33 () _ _ (hF.sub rfl) h
    clear hJ hK37
    refine RL.val  hF rfl rfl rfl (r_move hF rfl rfl) ?_; clear hF; clear a; intro a hF
    refine RL.val  hF rfl rfl rfl (r_move hF rfl rfl) ?_; clear hF; clear a; intro a hF
    obtain ⟨b45, p44, hb_, h0_, h1_, hp_, h⟩ := h
    refine RL.val (v := .pointer (some p44)) (w' := w25) hF rfl rfl rfl (by rw [hp_]; exact r_indexAddr hF rfl (lks rfl hb_) rfl Try.runUnderlying24 Try.sizeOf9 h0_ h1_) ?_; clear hF; clear a; intro a hF
    obtain ⟨t46, hct46, h⟩ := h
    refine RL.val  hF rfl rfl rfl (r_load hF rfl rfl Try.isAgg9 hct46) ?_; clear hF; clear a; intro a hF
    refine RL.val  hF rfl rfl rfl (r_len_str hF rfl rfl Try.runUnderlying9) ?_; clear hF; clear a; intro a hF
    refine RL.val  hF rfl rfl rfl (r_lss hF rfl rfl rfl) ?_; clear hF; clear a; intro a hF
    refine RL.val  hF rfl rfl rfl (r_move hF rfl rfl) ?_; clear hF; clear a; intro a hF
    obtain ⟨ht, hf⟩ := h
    rcases bool_cases (decide ((t46.size : Int) < 1)) with hg47 | hg47
    · replace h := ht hg47; clear ht hf
      refine RL.skip hF rfl rfl (lkb rfl hg47) (.inl rfl) rfl rfl ?_; clear hF; clear a; intro a hF
      refine RL.skip hF rfl rfl (lkb rfl hg47) (.inl rfl) rfl rfl ?_; clear hF; clear a; intro a hF
      refine RL.skip hF rfl rfl (lkb rfl hg47) (.inl rfl) rfl rfl ?_; clear hF; clear a; intro a hF
      refine RL.skip hF rfl rfl (lkb rfl hg47) (.inl rfl) rfl rfl ?_; clear hF; clear a; intro a hF
      refine RL.skip hF rfl rfl (lkb rfl hg47) (.inl rfl) rfl rfl ?_; clear hF; clear a; intro a hF
      refine RL.skip hF rfl rfl (lkb rfl hg47) (.inl rfl) rfl rfl ?_; clear hF; clear a; intro a hF
      refine RL.val (v := .bool true) (w' := w25) hF rfl rfl rfl (r_pick hF rfl rfl rfl rfl (fun _ => rfl) (fun e => absurd (hg47.symm.trans e) (by decide))) ?_; clear hF; clear a; intro a hF
      refine RL.nil ?_
      exact jn41 true _ _ (hF.sub rfl) h
    · replace h := hf hg47; clear ht hf
      refine RL.gval  hF rfl rfl (lkb rfl hg47) rfl rfl (r_move hF rfl rfl) ?_; clear hF; clear a; intro a hF
      refine RL.gval  hF rfl rfl (lkb rfl hg47) rfl rfl (r_move hF rfl rfl) ?_; clear hF; clear a; intro a hF
      obtain ⟨b49, p48, hb_, h0_, h1_, hp_, h⟩ := h
      refine RL.gval (v := .pointer (some p48)) (w' := w25) hF rfl rfl (lkb rfl hg47) rfl rfl (by rw [hp_]; exact r_indexAddr hF rfl (lks rfl hb_) rfl Try.runUnderlying24 Try.sizeOf9 h0_ h1_) ?_; clear hF; clear a; intro a hF
      obtain ⟨t50, hct50, h⟩ := h
      refine RL.gval  hF rfl rfl (lkb rfl hg47) rfl rfl (r_load hF rfl rfl Try.isAgg9 hct50) ?_; clear hF; clear a; intro a hF
      refine RL.gval  hF rfl rfl (lkb rfl hg47) rfl rfl (r_len_str hF rfl rfl Try.runUnderlying9) ?_; clear hF; clear a; intro a hF
      refine RL.gval  hF rfl rfl (lkb rfl hg47) rfl rfl (r_gtr hF rfl rfl rfl) ?_; clear hF; clear a; intro a hF
      refine RL.val (v := .bool (decide ((t50.size : Int) > 255))) (w' := w25) hF rfl rfl rfl (r_pick hF rfl rfl rfl rfl (fun e => absurd (hg47.symm.trans e) (by decide)) (fun _ => rfl)) ?_; clear hF; clear a; intro a hF
      refine RL.nil ?_
      exact jn41 (decide ((t50.size : Int) > 255)) _ _ (hF.sub rfl) h
  clear hJ
  refine seq_region fun K51 hK52 => ?_
  refine RL.val  hF rfl rfl rfl (r_move hF rfl rfl) ?_; clear hF; clear a; intro a hF
  refine RL.val  hF rfl rfl rfl (r_move hF rfl rfl) ?_; clear hF; clear a; intro a hF
  refine RL.val  hF rfl rfl rfl (r_len_slice hF rfl rfl Try.runUnderlying24) ?_; clear hF; clear a; intro a hF
  refine RL.val  hF rfl rfl rfl (r_lss hF rfl rfl rfl) ?_; clear hF; clear a; intro a hF
  refine RL.nil (hK52 _ _ ?_)
  clear hK52 K51
  obtain ⟨ht, hf⟩ := h
  refine cond_ hF rfl (fun hc => ?_) (fun hc => ?_)
  · replace h := ht hc; clear ht hf
    refine wp_skip ?_
    exact jn27 () _ _ (hF.sub rfl) h
  · replace h := hf hc; clear ht hf
    refine wp_exit ?_
    exact jn8 () _ _ (hF.sub rfl) h

set_option maxRecDepth 20000 in
theorem br16 {a0 : Array Value} {w : World} {K : Bool → World → Prop} (h : sh16 a0 w K) : C16 a0 w K := by
  unfold sh16 at h
  refine enter (n := 86) (l := [(0, .agg a0)]) 85 Try.func16 rfl _ rfl rfl rfl fun a hF => ?_
  refine seq_region fun K1 hK2 => ?_
  obtain ⟨p3, w4, hp_, hw_, h⟩ := h
  refine RL.val (v := .pointer (some p3)) (w' := w4) hF rfl rfl rfl (by rw [hp_, hw_]; exact r_box hF rfl rfl rfl) ?_; clear hF; clear a; intro a hF
  refine RL.val  hF rfl rfl rfl (r_assign hF rfl rfl) ?_; clear hF; clear a; intro a hF
  refine RL.nil (hK2 _ _ ?_)
  clear hK2 K1
  refine seq_k fun K5 hK6 => ?_
  obtain ⟨J, hJ, h⟩ := jn_open h
  have jn10 : ∀ (v7 : Unit) (w8 : World) a, Fr 86 a [] → J v7 w8 → K5 a w8 := by
    intro v7 w8 a hF h
    replace h := hJ _ _ h
    clear hJ
    refine hK6 _ _ ?_
    refine seq_region fun K11 hK12 => ?_
    refine RL.val  hF rfl rfl rfl (r_assign hF rfl rfl) ?_; clear hF; clear a; intro a hF
    refine RL.nil (hK12 _ _ ?_)
    clear hK12 K11
    refine wp_ret ?_
    exact ret_of hF (res1 hF rfl rfl) ⟨_, rfl, h⟩
  clear hJ
  refine seq_region fun K13 hK14 => ?_
  refine RL.val  hF rfl rfl rfl (r_fieldAddr0 hF rfl rfl Try.runUnderlying34 rfl Try.sizeOf3 rfl) ?_; clear hF; clear a; intro a hF
  obtain ⟨t15, hct15, h⟩ := h
  refine RL.val  hF rfl rfl rfl (r_load hF rfl rfl Try.isAgg3 hct15) ?_; clear hF; clear a; intro a hF
  refine RL.nil (hK14 _ _ ?_)
  clear hK14 K13
  refine wp_block ?_
  refine seq_region fun K16 hK17 => ?_
  refine RL.val  hF rfl rfl rfl (r_eql hF rfl rfl rfl) ?_; clear hF; clear a; intro a hF
  refine RL.val  hF rfl rfl rfl (r_assign hF rfl rfl) ?_; clear hF; clear a; intro a hF
  refine RL.nil (hK17 _ _ ?_)
  clear hK17 K16
  obtain ⟨ht, hf⟩ := h
  refine cond_ hF rfl (fun hc => ?_) (fun hc => ?_)
  · replace h := ht hc; clear ht hf
    refine seq_region fun K18 hK19 => ?_
    obtain ⟨J22, hJ, h⟩ := jn_open h
    have jn23 : ∀ (v20 : Bool) (w21 : World) a, Fr 86 a [(1, .pointer (some p3)), (3, .bool v20)] → J22 v20 w21 → K18 a w21 := by
      clear hF
      intro v20 w21 a hF h; replace h := hJ _ _ h; refine hK19 _ _ ?_; clear hJ hK19 K18
      refine seq_region fun K24 hK25 => ?_
      obtain ⟨J28, hJ, h⟩ := jn_open h
      have jn29 : ∀ (v26 : Bool) (w27 : World) a, Fr 86 a [(2, .bool v26)] → J28 v26 w27 → K24 a w27 := by
        clear hF
        intro v26 w27 a hF h; replace h := hJ _ _ h; refine hK25 _ _ ?_; clear hJ hK25 K24
        refine wp_ret ?_
        exact ret_of hF (res1 hF rfl rfl) ⟨_, rfl, h⟩
      clear hJ hK25
      refine RL.val  hF rfl rfl rfl (r_fieldAddr hF rfl rfl Try.runUnderlying34 rfl Try.sizeOf9 rfl) ?_; clear hF; clear a; intro a hF
      obtain ⟨t30, hct30, h⟩ := h
      refine RL.val  hF rfl rfl rfl (r_load hF rfl rfl Try.isAgg9 hct30) ?_; clear hF; clear a; intro a hF
      refine RL.val  hF rfl rfl rfl (r_len_str hF rfl rfl Try.runUnderlying9) ?_; clear hF; clear a; intro a hF
      refine RL.val  hF rfl rfl rfl (r_leq hF rfl rfl rfl) ?_; clear hF; clear a; intro a hF
      refine RL.val  hF rfl rfl rfl (r_move hF rfl rfl) ?_; clear hF; clear a; intro a hF
      obtain ⟨ht, hf⟩ := h
      rcases bool_cases (decide ((t30.size : Int) ≤ 255)) with hg31 | hg31
      · replace h := ht hg31; clear ht hf
        refine RL.gval  hF rfl rfl (lkb rfl hg31) rfl rfl (r_fieldAddr hF rfl rfl Try.runUnderlying34 rfl Try.sizeOf24 rfl) ?_; clear hF; clear a; intro a hF
        obtain ⟨t32, hct32, h⟩ := h
        refine RL.gval  hF rfl rfl (lkb rfl hg31) rfl rfl (r_load hF rfl rfl Try.isAgg24 hct32) ?_; clear hF; clear a; intro a hF
        refine RL.gcall hF rfl rfl (lkb rfl hg31) rfl rfl (r_call (xs := [t32.v, .int .i64 8]) hF rfl rfl Try.call22) (CallsV.mono h ?_)
        clear h; rintro _ w33 ⟨r34, rfl, h⟩; clear hF; clear a; intro a hF
        refine RL.val (v := .bool r34) (w' := w33) hF rfl rfl rfl (r_pick hF rfl rfl rfl rfl (fun _ => rfl) (fun e => absurd (hg31.symm.trans e) (by decide))) ?_; clear hF; clear a; intro a hF
        refine RL.val  hF rfl rfl rfl (r_move hF rfl rfl) ?_; clear hF; clear a; intro a hF
        obtain ⟨ht, hf⟩ := h
        rcases bool_cases r34 with hg35 | hg35
        · replace h := ht hg35; clear ht hf
          refine RL.gval  hF rfl rfl (lkb rfl hg35) rfl rfl (r_fieldAddr hF rfl rfl Try.runUnderlying34 rfl Try.sizeOf25 rfl) ?_; clear hF; clear a; intro a hF
          obtain ⟨t36, hct36, h⟩ := h
          refine RL.gval  hF rfl rfl (lkb rfl hg35) rfl rfl (r_load hF rfl rfl Try.isAgg25 hct36) ?_; clear hF; clear a; intro a hF
          refine RL.gval  hF rfl rfl (lkb rfl hg35) rfl rfl (r_len_slice hF rfl rfl Try.runUnderlying25) ?_; clear hF; clear a; intro a hF
          refine RL.gval  hF rfl rfl (lkb rfl hg35) rfl rfl (r_leq hF rfl rfl rfl) ?_; clear hF; clear a; intro a hF
          refine RL.val (v := .bool (decide ((t36.len : Int) ≤ 4096))) (w' := w33) hF rfl rfl rfl (r_pick hF rfl rfl rfl rfl (fun _ => rfl) (fun e => absurd (hg35.symm.trans e) (by decide))) ?_; clear hF; clear a; intro a hF
          refine RL.val  hF rfl rfl rfl (r_move hF rfl rfl) ?_; clear hF; clear a; intro a hF
          obtain ⟨ht, hf⟩ := h
          rcases bool_cases (decide ((t36.len : Int) ≤ 4096)) with hg37 | hg37
          · replace h := ht hg37; clear ht hf
            refine RL.gval  hF rfl rfl (lkb rfl hg37) rfl rfl (r_fieldAddr hF rfl rfl Try.runUnderlying34 rfl Try.sizeOf25 rfl) ?_; clear hF; clear a; intro a hF
            obtain ⟨t38, hct38, h⟩ := h
            refine RL.gval  hF rfl rfl (lkb rfl hg37) rfl rfl (r_load hF rfl rfl Try.isAgg25 hct38) ?_; clear hF; clear a; intro a hF
            refine RL.gval  hF rfl rfl (lkb rfl hg37) rfl rfl (r_len_slice hF rfl rfl Try.runUnderlying25) ?_; clear hF; clear a; intro a hF
            refine RL.gval  hF rfl rfl (lkb rfl hg37) rfl rfl (r_leq hF rfl rfl rfl) ?_; clear hF; clear a; intro a hF
            refine RL.val (v := .bool (decide ((t38.len : Int) ≤ 512))) (w' := w33) hF rfl rfl rfl (r_pick hF rfl rfl rfl rfl (fun _ => rfl) (fun e => absurd (hg37.symm.trans e) (by decide))) ?_; clear hF; clear a; intro a hF
            refine RL.val  hF rfl rfl rfl (r_move hF rfl rfl) ?_; clear hF; clear a; intro a hF
            obtain ⟨ht, hf⟩ := h
            rcases bool_cases (decide ((t38.len : Int) ≤ 512)) with hg39 | hg39
            · replace h := ht hg39; clear ht hf
              refine RL.gval  hF rfl rfl (lkb rfl hg39) rfl rfl (r_move hF rfl rfl) ?_; clear hF; clear a; intro a hF
              refine RL.val (v := .bool v20) (w' := w33) hF rfl rfl rfl (r_pick hF rfl rfl rfl rfl (fun _ => rfl) (fun e => absurd (hg39.symm.trans e) (by decide))) ?_; clear hF; clear a; intro a hF
              refine RL.val  hF rfl rfl rfl (r_assign hF rfl rfl) ?_; clear hF; clear a; intro a hF
              refine RL.nil ?_
              exact jn29 v20 _ _ (hF.sub rfl) h
            · replace h := hf hg39; clear ht hf
              refine RL.skip hF rfl rfl (lkb rfl hg39) (.inl rfl) rfl rfl ?_; clear hF; clear a; intro a hF
              refine RL.val (v := .bool false) (w' := w33) hF rfl rfl rfl (r_pick hF rfl rfl rfl rfl (fun e => absurd (hg39.symm.trans e) (by decide)) (fun _ => rfl)) ?_; clear hF; clear a; intro a hF
              refine RL.val  hF rfl rfl rfl (r_assign hF rfl rfl) ?_; clear hF; clear a; intro a hF
              refine RL.nil ?_
              exact jn29 false _ _ (hF.sub rfl) h
          · replace h := hf hg37; clear ht hf
            refine RL.skip hF rfl rfl (lkb rfl hg37) (.inl rfl) rfl rfl ?_; clear hF; clear a; intro a hF
            refine RL.skip hF rfl rfl (lkb rfl hg37) (.inl rfl) rfl rfl ?_; clear hF; clear a; intro a hF
            refine RL.skip hF rfl rfl (lkb rfl hg37) (.inl rfl) rfl rfl ?_; clear hF; clear a; intro a hF
            refine RL.skip hF rfl rfl (lkb rfl hg37) (.inl rfl) rfl rfl ?_; clear hF; clear a; intro a hF
            refine RL.val (v := .bool false) (w' := w33) hF rfl rfl rfl (r_pick hF rfl rfl rfl rfl (fun e => absurd (hg37.symm.trans e) (by decide)) (fun _ => rfl)) ?_; clear hF; clear a; intro a hF
            refine RL.val  hF rfl rfl rfl (r_move hF rfl rfl) ?_; clear hF; clear a; intro a hF
            refine RL.skip hF rfl rfl rfl (.inl rfl) rfl rfl ?_; clear hF; clear a; intro a hF
            refine RL.val (v := .bool false) (w' := w33) hF rfl rfl rfl (r_pick hF rfl rfl rfl rfl (fun e => absurd e (by decide)) (fun _ => rfl)) ?_; clear hF; clear a; intro a hF
            refine RL.val  hF rfl rfl rfl (r_assign hF rfl rfl) ?_; clear hF; clear a; intro a hF
            refine RL.nil ?_
            exact jn29 false _ _ (hF.sub rfl) h
        · replace h := hf hg35; clear ht hf
          refine RL.skip hF rfl rfl (lkb rfl hg35) (.inl rfl) rfl rfl ?_; clear hF; clear a; intro a hF
          refine RL.skip hF rfl rfl (lkb rfl hg35) (.inl rfl) rfl rfl ?_; clear hF; clear a; intro a hF
          refine RL.skip hF rfl rfl (lkb rfl hg35) (.inl rfl) rfl rfl ?_; clear hF; clear a; intro a hF
          refine RL.skip hF rfl rfl (lkb rfl hg35) (.inl rfl) rfl rfl ?_; clear hF; clear a; intro a hF
          refine RL.val (v := .bool false) (w' := w33) hF rfl rfl rfl (r_pick hF rfl rfl rfl rfl (fun e => absurd (hg35.symm.trans e) (by decide)) (fun _ => rfl)) ?_; clear hF; clear a; intro a hF
          refine RL.val  hF rfl rfl rfl (r_move hF rfl rfl) ?_; clear hF; clear a; intro a hF
          refine RL.skip hF rfl rfl rfl (.inl rfl) rfl rfl ?_; clear hF; clear a; intro a hF
          refine RL.skip hF rfl rfl rfl (.inl rfl) rfl rfl ?_; clear hF; clear a; intro a hF
          refine RL.skip hF rfl rfl rfl (.inl rfl) rfl rfl ?_; clear hF; clear a; intro a hF
          refine RL.skip hF rfl rfl rfl (.inl rfl) rfl rfl ?_; clear hF; clear a; intro a hF
          refine RL.val (v := .bool false) (w' := w33) hF rfl rfl rfl (r_pick hF rfl rfl rfl rfl (fun e => absurd e (by decide)) (fun _ => rfl)) ?_; clear hF; clear a; intro a hF
          refine RL.val  hF rfl rfl rfl (r_move hF rfl rfl) ?_; clear hF; clear a; intro a hF
          refine RL.skip hF rfl rfl rfl (.inl rfl) rfl rfl ?_; clear hF; clear a; intro a hF
          refine RL.val (v := .bool false) (w' := w33) hF rfl rfl rfl (r_pick hF rfl rfl rfl rfl (fun e => absurd e (by decide)) (fun _ => rfl)) ?_; clear hF; clear a; intro a hF
          refine RL.val  hF rfl rfl rfl (r_assign hF rfl rfl) ?_; clear hF; clear a; intro a hF
          refine RL.nil ?_
          exact jn29 false _ _ (hF.sub rfl) h
      · replace h := hf hg31; clear ht hf
        refine RL.skip hF rfl rfl (lkb rfl hg31) (.inl rfl) rfl rfl ?_; clear hF; clear a; intro a hF
        refine RL.skip hF rfl rfl (lkb rfl hg31) (.inl rfl) rfl rfl ?_; clear hF; clear a; intro a hF
        refine RL.skip hF rfl rfl (lkb rfl hg31) (.inl rfl) rfl rfl ?_; clear hF; clear a; intro a hF
        refine RL.val (v := .bool false) (w' := w21) hF rfl rfl rfl (r_pick hF rfl rfl rfl rfl (fun e => absurd (hg31.symm.trans e) (by decide)) (fun _ => rfl)) ?_; clear hF; clear a; intro a hF
        refine RL.val  hF rfl rfl rfl (r_move hF rfl rfl) ?_; clear hF; clear a; intro a hF
        refine RL.skip hF rfl rfl rfl (.inl rfl) rfl rfl ?_; clear hF; clear a; intro a hF
        refine RL.skip hF rfl rfl rfl (.inl rfl) rfl rfl ?_; clear hF; clear a; intro a hF
        refine RL.skip hF rfl rfl rfl (.inl rfl) rfl rfl ?_; clear hF; clear a; intro a hF
        refine RL.skip hF rfl rfl rfl (.inl rfl) rfl rfl ?_; clear hF; clear a; intro a hF
        refine RL.val (v := .bool false) (w' := w21) hF rfl rfl rfl (r_pick hF rfl rfl rfl rfl (fun e => absurd e (by decide)) (fun _ => rfl)) ?_; clear hF; clear a; intro a hF
        refine RL.val  hF rfl rfl rfl (r_move hF rfl rfl) ?_; clear hF; clear a; intro a hF
        refine RL.skip hF rfl rfl rfl (.inl rfl) rfl rfl ?_; clear hF; clear a; intro a hF
        refine RL.skip hF rfl rfl rfl (.inl rfl) rfl rfl ?_; clear hF; clear a; intro a hF
        refine RL.skip hF rfl rfl rfl (.inl rfl) rfl rfl ?_; clear hF; clear a; intro a hF
        refine RL.skip hF rfl rfl rfl (.inl rfl) rfl rfl ?_; clear hF; clear a; intro a hF
        refine RL.val (v := .bool false) (w' := w21) hF rfl rfl rfl (r_pick hF rfl rfl rfl rfl (fun e => absurd e (by decide)) (fun _ => rfl)) ?_; clear hF; clear a; intro a hF
        refine RL.val  hF rfl rfl rfl (r_move hF rfl rfl) ?_; clear hF; clear a; intro a hF
        refine RL.skip hF rfl rfl rfl (.inl rfl) rfl rfl ?_; clear hF; clear a; intro a hF
        refine RL.val (v := .bool false) (w' := w21) hF rfl rfl rfl (r_pick hF rfl rfl rfl rfl (fun e => absurd e (by decide)) (fun _ => rfl)) ?_; clear hF; clear a; intro a hF
        refine RL.val  hF rfl rfl rfl (r_assign hF rfl rfl) ?_; clear hF; clear a; intro a hF
        refine RL.nil ?_
        exact jn29 false _ _ (hF.sub rfl) h
    clear hJ hK19
    refine RL.val  hF rfl rfl rfl (r_fieldAddr hF rfl rfl Try.runUnderlying34 rfl Try.sizeOf25 rfl) ?_; clear hF; clear a; intro a hF
    obtain ⟨t40, hct40, h⟩ := h
    refine RL.val  hF rfl rfl rfl (r_load hF rfl rfl Try.isAgg25 hct40) ?_; clear hF; clear a; intro a hF
    refine RL.val  hF rfl rfl rfl (r_len_slice hF rfl rfl Try.runUnderlying25) ?_; clear hF; clear a; intro a hF
    refine RL.val  hF rfl rfl rfl (r_gtr hF rfl rfl rfl) ?_; clear hF; clear a; intro a hF
    refine RL.val  hF rfl rfl rfl (r_move hF rfl rfl) ?_; clear hF; clear a; intro a hF
    obtain ⟨ht, hf⟩ := h
    rcases bool_cases (decide ((t40.len : Int) > 0)) with hg41 | hg41
    · replace h := ht hg41; clear ht hf
      refine RL.skip hF rfl rfl (lkb rfl hg41) (.inl rfl) rfl rfl ?_; clear hF; clear a; intro a hF
      refine RL.skip hF rfl rfl (lkb rfl hg41) (.inl rfl) rfl rfl ?_; clear hF; clear a; intro a hF
      refine RL.skip hF rfl rfl (lkb rfl hg41) (.inl rfl) rfl rfl ?_; clear hF; clear a; intro a hF
      refine RL.skip hF rfl rfl (lkb rfl hg41) (.inl rfl) rfl rfl ?_; clear hF; clear a; intro a hF
      refine RL.skip hF rfl rfl rfl (.inr rfl) rfl rfl ?_; clear hF; clear a; intro a hF
      refine RL.skip hF rfl rfl rfl (.inr rfl) rfl rfl ?_; clear hF; clear a; intro a hF
      refine RL.skip hF rfl rfl rfl (.inr rfl) rfl rfl ?_; clear hF; clear a; intro a hF
      refine RL.skip hF rfl rfl rfl (.inr rfl) rfl rfl ?_; clear hF; clear a; intro a hF
      refine RL.skip hF rfl rfl (lkb rfl hg41) (.inl rfl) rfl rfl ?_; clear hF; clear a; intro a hF
      refine RL.val (v := .bool true) (w' := w4) hF rfl rfl rfl (r_pick hF rfl rfl rfl rfl (fun _ => rfl) (fun e => absurd (hg41.symm.trans e) (by decide))) ?_; clear hF; clear a; intro a hF
      refine RL.val  hF rfl rfl rfl (r_assign hF rfl rfl) ?_; clear hF; clear a; intro a hF
      refine RL.nil ?_
      exact jn23 true _ _ (hF.sub rfl) h
    · replace h := hf hg41; clear ht hf
      refine RL.gval  hF rfl rfl (lkb rfl hg41) rfl rfl (r_fieldAddr hF rfl rfl Try.runUnderlying34 rfl Try.sizeOf4 rfl) ?_; clear hF; clear a; intro a hF
      obtain ⟨t42, hct42, h⟩ := h
      refine RL.gval  hF rfl rfl (lkb rfl hg41) rfl rfl (r_load hF rfl rfl Try.isAgg4 hct42) ?_; clear hF; clear a; intro a hF
      refine RL.gval  hF rfl rfl (lkb rfl hg41) rfl rfl (r_not hF rfl rfl) ?_; clear hF; clear a; intro a hF
      refine RL.gval  hF rfl rfl (lkb rfl hg41) rfl rfl (r_move hF rfl rfl) ?_; clear hF; clear a; intro a hF
      obtain ⟨ht, hf⟩ := h
      rcases bool_cases (!t42) with hg43 | hg43
      · replace h := ht hg43; clear ht hf
        refine RL.gval  hF rfl rfl (lkb rfl hg43) rfl rfl (r_fieldAddr hF rfl rfl Try.runUnderlying34 rfl Try.sizeOf22 rfl) ?_; clear hF; clear a; intro a hF
        obtain ⟨t44, hct44, h⟩ := h
        refine RL.gval  hF rfl rfl (lkb rfl hg43) rfl rfl (r_loadA hF rfl rfl Try.isAgg22 Try.sizeOf22 hct44) ?_; clear hF; clear a; intro a hF
        refine RL.gval (v := .agg (#[.int .u8 0, .int .u8 0, .int .u8 0, .int .u8 0, .int .u8 0, .int .u8 0, .int .u8 0, .int .u8 0, .int .u8 0, .int .u8 0, .int .u8 0, .int .u8 0, .int .u8 0, .int .u8 0, .int .u8 0, .int .u8 0])) (w' := w4) hF rfl rfl (lkb rfl hg43) rfl rfl (r_build (xs := []) hF rfl rfl (by kernel_rfl)) ?_; clear hF; clear a; intro a hF
        obtain ⟨t45, hc_, h⟩ := h
        refine RL.gval  hF rfl rfl (lkb rfl hg43) rfl rfl (r_aggeq hF rfl rfl rfl Try.eqGuardType22 (hc_ _)) ?_; clear hF; clear a; intro a hF
        refine RL.gval (v := .bool t45) (w' := w4) hF rfl rfl (lkb rfl hg41) rfl rfl (r_pick hF rfl rfl rfl rfl (fun _ => rfl) (fun e => absurd (hg43.symm.trans e) (by decide))) ?_; clear hF; clear a; intro a hF
        refine RL.val (v := .bool t45) (w' := w4) hF rfl rfl rfl (r_pick hF rfl rfl rfl rfl (fun e => absurd (hg41.symm.trans e) (by decide)) (fun _ => rfl)) ?_; clear hF; clear a; intro a hF
        refine RL.val  hF rfl rfl rfl (r_assign hF rfl rfl) ?_; clear hF; clear a; intro a hF
        refine RL.nil ?_
        exact jn23 t45 _ _ (hF.sub rfl) h
      · replace h := hf hg43; clear ht hf
        refine RL.skip hF rfl rfl (lkb rfl hg43) (.inl rfl) rfl rfl ?_; clear hF; clear a; intro a hF
        refine RL.skip hF rfl rfl (lkb rfl hg43) (.inl rfl) rfl rfl ?_; clear hF; clear a; intro a hF
        refine RL.skip hF rfl rfl (lkb rfl hg43) (.inl rfl) rfl rfl ?_; clear hF; clear a; intro a hF
        refine RL.skip hF rfl rfl (lkb rfl hg43) (.inl rfl) rfl rfl ?_; clear hF; clear a; intro a hF
        refine RL.gval (v := .bool false) (w' := w4) hF rfl rfl (lkb rfl hg41) rfl rfl (r_pick hF rfl rfl rfl rfl (fun e => absurd (hg43.symm.trans e) (by decide)) (fun _ => rfl)) ?_; clear hF; clear a; intro a hF
        refine RL.val (v := .bool false) (w' := w4) hF rfl rfl rfl (r_pick hF rfl rfl rfl rfl (fun e => absurd (hg41.symm.trans e) (by decide)) (fun _ => rfl)) ?_; clear hF; clear a; intro a hF
        refine RL.val  hF rfl rfl rfl (r_assign hF rfl rfl) ?_; clear hF; clear a; intro a hF
        refine RL.nil ?_
        exact jn23 false _ _ (hF.sub rfl) h
  · replace h := hf hc; clear ht hf
    refine seq_region fun K46 hK47 => ?_
    refine RL.val  hF rfl rfl rfl (r_eql hF rfl rfl rfl) ?_; clear hF; clear a; intro a hF
    refine RL.val  hF rfl rfl rfl (r_assign hF rfl rfl) ?_; clear hF; clear a; intro a hF
    refine RL.nil (hK47 _ _ ?_)
    clear hK47 K46
    obtain ⟨ht, hf⟩ := h
    refine cond_ hF rfl (fun hc => ?_) (fun hc => ?_)
    · replace h := ht hc; clear ht hf
      refine seq_region fun K48 hK49 => ?_
      obtain ⟨J52, hJ, h⟩ := jn_open h
      have jn53 : ∀ (v50 : Bool) (w51 : World) a, Fr 86 a [(2, .bool v50)] → J52 v50 w51 → K48 a w51 := by
        clear hF
        intro v50 w51 a hF h; replace h := hJ _ _ h; refine hK49 _ _ ?_; clear hJ hK49 K48
        refine wp_ret ?_
        exact ret_of hF (res1 hF rfl rfl) ⟨_, rfl, h⟩
      clear hJ hK49
      refine RL.val  hF rfl rfl rfl (r_fieldAddr hF rfl rfl Try.runUnderlying34 rfl Try.sizeOf3 rfl) ?_; clear hF; clear a; intro a hF
      obtain ⟨t54, hct54, h⟩ := h
      refine RL.val  hF rfl rfl rfl (r_load hF rfl rfl Try.isAgg3 hct54) ?_; clear hF; clear a; intro a hF
      refine RL.val  hF rfl rfl rfl (r_geq hF rfl rfl rfl) ?_; clear hF; clear a; intro a hF
      refine RL.val  hF rfl rfl rfl (r_move hF rfl rfl) ?_; clear hF; clear a; intro a hF
      obtain ⟨ht, hf⟩ := h
      rcases bool_cases (decide (t54 ≥ 0)) with hg55 | hg55
      · replace h := ht hg55; clear ht hf
        refine RL.gval  hF rfl rfl (lkb rfl hg55) rfl rfl (r_fieldAddr hF rfl rfl Try.runUnderlying34 rfl Try.sizeOf3 rfl) ?_; clear hF; clear a; intro a hF
        obtain ⟨t56, hct56, h⟩ := h
        refine RL.gval  hF rfl rfl (lkb rfl hg55) rfl rfl (r_load hF rfl rfl Try.isAgg3 hct56) ?_; clear hF; clear a; intro a hF
        refine RL.gval  hF rfl rfl (lkb rfl hg55) rfl rfl (r_leq hF rfl rfl rfl) ?_; clear hF; clear a; intro a hF
        refine RL.val (v := .bool (decide (t56 ≤ 4294967295))) (w' := w4) hF rfl rfl rfl (r_pick hF rfl rfl rfl rfl (fun _ => rfl) (fun e => absurd (hg55.symm.trans e) (by decide))) ?_; clear hF; clear a; intro a hF
        refine RL.val  hF rfl rfl rfl (r_move hF rfl rfl) ?_; clear hF; clear a; intro a hF
        obtain ⟨ht, hf⟩ := h
        rcases bool_cases (decide (t56 ≤ 4294967295)) with hg57 | hg57
        · replace h := ht hg57; clear ht hf
          refine RL.gval  hF rfl rfl (lkb rfl hg57) rfl rfl (r_fieldAddr hF rfl rfl Try.runUnderlying34 rfl Try.sizeOf25 rfl) ?_; clear hF; clear a; intro a hF
          obtain ⟨t58, hct58, h⟩ := h
          refine RL.gval  hF rfl rfl (lkb rfl hg57) rfl rfl (r_load hF rfl rfl Try.isAgg25 hct58) ?_; clear hF; clear a; intro a hF
          refine RL.gval  hF rfl rfl (lkb rfl hg57) rfl rfl (r_len_slice hF rfl rfl Try.runUnderlying25) ?_; clear hF; clear a; intro a hF
          refine RL.gval  hF rfl rfl (lkb rfl hg57) rfl rfl (r_geq hF rfl rfl rfl) ?_; clear hF; clear a; intro a hF
          refine RL.val (v := .bool (decide ((t58.len : Int) ≥ 1))) (w' := w4) hF rfl rfl rfl (r_pick hF rfl rfl rfl rfl (fun _ => rfl) (fun e => absurd (hg57.symm.trans e) (by decide))) ?_; clear hF; clear a; intro a hF
          refine RL.val  hF rfl rfl rfl (r_move hF rfl rfl) ?_; clear hF; clear a; intro a hF
          obtain ⟨ht, hf⟩ := h
          rcases bool_cases (decide ((t58.len : Int) ≥ 1)) with hg59 | hg59
          · replace h := ht hg59; clear ht hf
            refine RL.gval  hF rfl rfl (lkb rfl hg59) rfl rfl (r_fieldAddr hF rfl rfl Try.runUnderlying34 rfl Try.sizeOf25 rfl) ?_; clear hF; clear a; intro a hF
            obtain ⟨t60, hct60, h⟩ := h
            refine RL.gval  hF rfl rfl (lkb rfl hg59) rfl rfl (r_load hF rfl rfl Try.isAgg25 hct60) ?_; clear hF; clear a; intro a hF
            refine RL.gval  hF rfl rfl (lkb rfl hg59) rfl rfl (r_len_slice hF rfl rfl Try.runUnderlying25) ?_; clear hF; clear a; intro a hF
            refine RL.gval  hF rfl rfl (lkb rfl hg59) rfl rfl (r_leq hF rfl rfl rfl) ?_; clear hF; clear a; intro a hF
            refine RL.val (v := .bool (decide ((t60.len : Int) ≤ 512))) (w' := w4) hF rfl rfl rfl (r_pick hF rfl rfl rfl rfl (fun _ => rfl) (fun e => absurd (hg59.symm.trans e) (by decide))) ?_; clear hF; clear a; intro a hF
            refine RL.val  hF rfl rfl rfl (r_assign hF rfl rfl) ?_; clear hF; clear a; intro a hF
            refine RL.nil ?_
            exact jn53 (decide ((t60.len : Int) ≤ 512)) _ _ (hF.sub rfl) h
          · replace h := hf hg59; clear ht hf
            refine RL.skip hF rfl rfl (lkb rfl hg59) (.inl rfl) rfl rfl ?_; clear hF; clear a; intro a hF
            refine RL.skip hF rfl rfl (lkb rfl hg59) (.inl rfl) rfl rfl ?_; clear hF; clear a; intro a hF
            refine RL.skip hF rfl rfl (lkb rfl hg59) (.inl rfl) rfl rfl ?_; clear hF; clear a; intro a hF
            refine RL.skip hF rfl rfl (lkb rfl hg59) (.inl rfl) rfl rfl ?_; clear hF; clear a; intro a hF
            refine RL.val (v := .bool false) (w' := w4) hF rfl rfl rfl (r_pick hF rfl rfl rfl rfl (fun e => absurd (hg59.symm.trans e) (by decide)) (fun _ => rfl)) ?_; clear hF; clear a; intro a hF
            refine RL.val  hF rfl rfl rfl (r_assign hF rfl rfl) ?_; clear hF; clear a; intro a hF
            refine RL.nil ?_
            exact jn53 false _ _ (hF.sub rfl) h
        · replace h := hf hg57; clear ht hf
          refine RL.skip hF rfl rfl (lkb rfl hg57) (.inl rfl) rfl rfl ?_; clear hF; clear a; intro a hF
          refine RL.skip hF rfl rfl (lkb rfl hg57) (.inl rfl) rfl rfl ?_; clear hF; clear a; intro a hF
          refine RL.skip hF rfl rfl (lkb rfl hg57) (.inl rfl) rfl rfl ?_; clear hF; clear a; intro a hF
          refine RL.skip hF rfl rfl (lkb rfl hg57) (.inl rfl) rfl rfl ?_; clear hF; clear a; intro a hF
          refine RL.val (v := .bool false) (w' := w4) hF rfl rfl rfl (r_pick hF rfl rfl rfl rfl (fun e => absurd (hg57.symm.trans e) (by decide)) (fun _ => rfl)) ?_; clear hF; clear a; intro a hF
          refine RL.val  hF rfl rfl rfl (r_move hF rfl rfl) ?_; clear hF; clear a; intro a hF
          refine RL.skip hF rfl rfl rfl (.inl rfl) rfl rfl ?_; clear hF; clear a; intro a hF
          refine RL.skip hF rfl rfl rfl (.inl rfl) rfl rfl ?_; clear hF; clear a; intro a hF
          refine RL.skip hF rfl rfl rfl (.inl rfl) rfl rfl ?_; clear hF; clear a; intro a hF
          refine RL.skip hF rfl rfl rfl (.inl rfl) rfl rfl ?_; clear hF; clear a; intro a hF
          refine RL.val (v := .bool false) (w' := w4) hF rfl rfl rfl (r_pick hF rfl rfl rfl rfl (fun e => absurd e (by decide)) (fun _ => rfl)) ?_; clear hF; clear a; intro a hF
          refine RL.val  hF rfl rfl rfl (r_assign hF rfl rfl) ?_; clear hF; clear a; intro a hF
          refine RL.nil ?_
          exact jn53 false _ _ (hF.sub rfl) h
      · replace h := hf hg55; clear ht hf
        refine RL.skip hF rfl rfl (lkb rfl hg55) (.inl rfl) rfl rfl ?_; clear hF; clear a; intro a hF
        refine RL.skip hF rfl rfl (lkb rfl hg55) (.inl rfl) rfl rfl ?_; clear hF; clear a; intro a hF
        refine RL.skip hF rfl rfl (lkb rfl hg55) (.inl rfl) rfl rfl ?_; clear hF; clear a; intro a hF
        refine RL.val (v := .bool false) (w' := w4) hF rfl rfl rfl (r_pick hF rfl rfl rfl rfl (fun e => absurd (hg55.symm.trans e) (by decide)) (fun _ => rfl)) ?_; clear hF; clear a; intro a hF
        refine RL.val  hF rfl rfl rfl (r_move hF rfl rfl) ?_; clear hF; clear a; intro a hF
        refine RL.skip hF rfl rfl rfl (.inl rfl) rfl rfl ?_; clear hF; clear a; intro a hF
        refine RL.skip hF rfl rfl rfl (.inl rfl) rfl rfl ?_; clear hF; clear a; intro a hF
        refine RL.skip hF rfl rfl rfl (.inl rfl) rfl rfl ?_; clear hF; clear a; intro a hF
        refine RL.skip hF rfl rfl rfl (.inl rfl) rfl rfl ?_; clear hF; clear a; intro a hF
        refine RL.val (v := .bool false) (w' := w4) hF rfl rfl rfl (r_pick hF rfl rfl rfl rfl (fun e => absurd e (by decide)) (fun _ => rfl)) ?_; clear hF; clear a; intro a hF
        refine RL.val  hF rfl rfl rfl (r_move hF rfl rfl) ?_; clear hF; clear a; intro a hF
        refine RL.skip hF rfl rfl rfl (.inl rfl) rfl rfl ?_; clear hF; clear a; intro a hF
        refine RL.skip hF rfl rfl rfl (.inl rfl) rfl rfl ?_; clear hF; clear a; intro a hF
        refine RL.skip hF rfl rfl rfl (.inl rfl) rfl rfl ?_; clear hF; clear a; intro a hF
        refine RL.skip hF rfl rfl rfl (.inl rfl) rfl rfl ?_; clear hF; clear a; intro a hF
        refine RL.val (v := .bool false) (w' := w4) hF rfl rfl rfl (r_pick hF rfl rfl rfl rfl (fun e => absurd e (by decide)) (fun _ => rfl)) ?_; clear hF; clear a; intro a hF
        refine RL.val  hF rfl rfl rfl (r_assign hF rfl rfl) ?_; clear hF; clear a; intro a hF
        refine RL.nil ?_
        exact jn53 false _ _ (hF.sub rfl) h
    · replace h := hf hc; clear ht hf
      refine seq_region fun K61 hK62 => ?_
      refine RL.val  hF rfl rfl rfl (r_eql hF rfl rfl rfl) ?_; clear hF; clear a; intro a hF
      refine RL.val  hF rfl rfl rfl (r_assign hF rfl rfl) ?_; clear hF; clear a; intro a hF
      refine RL.nil (hK62 _ _ ?_)
      clear hK62 K61
      obtain ⟨ht, hf⟩ := h
      refine cond_ hF rfl (fun hc => ?_) (fun hc => ?_)
      · replace h := ht hc; clear ht hf
        refine seq_region fun K63 hK64 => ?_
        obtain ⟨J67, hJ, h⟩ := jn_open h
        have jn68 : ∀ (v65 : Bool) (w66 : World) a, Fr 86 a [(2, .bool v65)] → J67 v65 w66 → K63 a w66 := by
          clear hF
          intro v65 w66 a hF h; replace h := hJ _ _ h; refine hK64 _ _ ?_; clear hJ hK64 K63
          refine wp_ret ?_
          exact ret_of hF (res1 hF rfl rfl) ⟨_, rfl, h⟩
        clear hJ hK64
        refine RL.val  hF rfl rfl rfl (r_fieldAddr hF rfl rfl Try.runUnderlying34 rfl Try.sizeOf24 rfl) ?_; clear hF; clear a; intro a hF
        obtain ⟨t69, hct69, h⟩ := h
        refine RL.val  hF rfl rfl rfl (r_load hF rfl rfl Try.isAgg24 hct69) ?_; clear hF; clear a; intro a hF
        refine RL.call hF rfl rfl rfl (r_call (xs := [t69.v, .int .i64 1]) hF rfl rfl Try.call22) (CallsV.mono h ?_)
        clear h; rintro _ w70 ⟨r71, rfl, h⟩; clear hF; clear a; intro a hF
        refine RL.val  hF rfl rfl rfl (r_move hF rfl rfl) ?_; clear hF; clear a; intro a hF
        obtain ⟨ht, hf⟩ := h
        rcases bool_cases r71 with hg72 | hg72
        · replace h := ht hg72; clear ht hf
          refine RL.gval  hF rfl rfl (lkb rfl hg72) rfl rfl (r_fieldAddr hF rfl rfl Try.runUnderlying34 rfl Try.sizeOf25 rfl) ?_; clear hF; clear a; intro a hF
          obtain ⟨t73, hct73, h⟩ := h
          refine RL.gval  hF rfl rfl (lkb rfl hg72) rfl rfl (r_load hF rfl rfl Try.isAgg25 hct73) ?_; clear hF; clear a; intro a hF
          refine RL.gval  hF rfl rfl (lkb rfl hg72) rfl rfl (r_len_slice hF rfl rfl Try.runUnderlying25) ?_; clear hF; clear a; intro a hF
          refine RL.gval  hF rfl rfl (lkb rfl hg72) rfl rfl (r_leq hF rfl rfl rfl) ?_; clear hF; clear a; intro a hF
          refine RL.val (v := .bool (decide ((t73.len : Int) ≤ 4096))) (w' := w70) hF rfl rfl rfl (r_pick hF rfl rfl rfl rfl (fun _ => rfl) (fun e => absurd (hg72.symm.trans e) (by decide))) ?_; clear hF; clear a; intro a hF
          refine RL.val  hF rfl rfl rfl (r_assign hF rfl rfl) ?_; clear hF; clear a; intro a hF
          refine RL.nil ?_
          exact jn68 (decide ((t73.len : Int) ≤ 4096)) _ _ (hF.sub rfl) h
        · replace h := hf hg72; clear ht hf
          refine RL.skip hF rfl rfl (lkb rfl hg72) (.inl rfl) rfl rfl ?_; clear hF; clear a; intro a hF
          refine RL.skip hF rfl rfl (lkb rfl hg72) (.inl rfl) rfl rfl ?_; clear hF; clear a; intro a hF
          refine RL.skip hF rfl rfl (lkb rfl hg72) (.inl rfl) rfl rfl ?_; clear hF; clear a; intro a hF
          refine RL.skip hF rfl rfl (lkb rfl hg72) (.inl rfl) rfl rfl ?_; clear hF; clear a; intro a hF
          refine RL.val (v := .bool false) (w' := w70) hF rfl rfl rfl (r_pick hF rfl rfl rfl rfl (fun e => absurd (hg72.symm.trans e) (by decide)) (fun _ => rfl)) ?_; clear hF; clear a; intro a hF
          refine RL.val  hF rfl rfl rfl (r_assign hF rfl rfl) ?_; clear hF; clear a; intro a hF
          refine RL.nil ?_
          exact jn68 false _ _ (hF.sub rfl) h
      · replace h := hf hc; clear ht hf
        refine seq_region fun K74 hK75 => ?_
        refine RL.val  hF rfl rfl rfl (r_eql hF rfl rfl rfl) ?_; clear hF; clear a; intro a hF
        refine RL.val  hF rfl rfl rfl (r_assign hF rfl rfl) ?_; clear hF; clear a; intro a hF
        refine RL.nil (hK75 _ _ ?_)
        clear hK75 K74
        obtain ⟨ht, hf⟩ := h
        refine cond_ hF rfl (fun hc => ?_) (fun hc => ?_)
        · replace h := ht hc; clear ht hf
          refine seq_region fun K76 hK77 => ?_
          refine RL.val  hF rfl rfl rfl (r_fieldAddr hF rfl rfl Try.runUnderlying34 rfl Try.sizeOf9 rfl) ?_; clear hF; clear a; intro a hF
          obtain ⟨t78, hct78, h⟩ := h
          refine RL.val  hF rfl rfl rfl (r_load hF rfl rfl Try.isAgg9 hct78) ?_; clear hF; clear a; intro a hF
          refine RL.val  hF rfl rfl rfl (r_len_str hF rfl rfl Try.runUnderlying9) ?_; clear hF; clear a; intro a hF
          refine RL.val  hF rfl rfl rfl (r_leq hF rfl rfl rfl) ?_; clear hF; clear a; intro a hF
          refine RL.val  hF rfl rfl rfl (r_assign hF rfl rfl) ?_; clear hF; clear a; intro a hF
          refine RL.nil (hK77 _ _ ?_)
          clear hK77 K76
          refine wp_ret ?_
          exact ret_of hF (res1 hF rfl rfl) ⟨_, rfl, h⟩
        · replace h := hf hc; clear ht hf
          refine wp_skip ?_
          exact jn10 () _ _ (hF.sub rfl) h

set_option maxRecDepth 20000 in
theorem br23 {a0 : Slc} {a1 : ByteArray} {w : World} {K : Slc → World → Prop} (h : sh23 a0 a1 w K) : C23 a0 a1 w K := by
  unfold sh23 at h
  refine enter (n := 13) (l := [(0, a0.v), (1, .string a1)]) 11 Try.func23 rfl _ rfl rfl rfl fun a hF => ?_
  refine seq_region fun K1 hK2 => ?_
  refine RL.val  hF rfl rfl rfl (r_assign hF rfl rfl) ?_; clear hF; clear a; intro a hF
  refine RL.nil (hK2 _ _ ?_)
  clear hK2 K1
  refine seq_region fun K3 hK4 => ?_
  refine RL.val  hF rfl rfl rfl (r_move hF rfl rfl) ?_; clear hF; clear a; intro a hF
  refine RL.val  hF rfl rfl rfl (r_move hF rfl rfl) ?_; clear hF; clear a; intro a hF
  refine RL.val  hF rfl rfl rfl (r_len_str hF rfl rfl Try.runUnderlying9) ?_; clear hF; clear a; intro a hF
  refine RL.val  hF rfl rfl rfl (r_convInt hF rfl rfl Try.runUnderlying3 Try.runUnderlying5) ?_; clear hF; clear a; intro a hF
  obtain ⟨p6, w5, hp_, hw_, h⟩ := h
  refine RL.val (v := (Slc.mk (some p6) 1 1).v) (w' := w5) hF rfl rfl rfl (by rw [hp_, hw_]; exact r_buildSlice (xs := [(0, .int .u8 (IntKind.u8.wrap (a1.size : Int)))]) hF rfl rfl (by kernel_rfl)) ?_; clear hF; clear a; intro a hF
  obtain ⟨t8, w7, hc_, h⟩ := h
  refine RL.val  hF rfl rfl rfl (r_append (xs := [a0.v, (Slc.mk (some p6) 1 1).v]) hF rfl rfl hc_) ?_; clear hF; clear a; intro a hF
  refine RL.val  hF rfl rfl rfl (r_move hF rfl rfl) ?_; clear hF; clear a; intro a hF
  obtain ⟨t10, w9, hc_, h⟩ := h
  refine RL.val  hF rfl rfl rfl (r_append (xs := [t8.v, .string a1]) hF rfl rfl hc_) ?_; clear hF; clear a; intro a hF
  refine RL.val  hF rfl rfl rfl (r_assign hF rfl rfl) ?_; clear hF; clear a; intro a hF
  refine RL.nil (hK4 _ _ ?_)
  clear hK4 K3
  refine wp_ret ?_
  exact ret_of hF (res1 hF rfl rfl) ⟨_, rfl, h⟩

set_option maxRecDepth 20000 in
theorem br25 {a0 : Slc} {a1 : Slc} {w : World} {K : Slc → World → Prop} (h : sh25 a0 a1 w K) : C25 a0 a1 w K := by
  unfold sh25 at h
  refine enter (n := 17) (l := [(0, a0.v), (1, a1.v)]) 15 Try.func25 rfl _ rfl rfl rfl fun a hF => ?_
  refine seq_region fun K1 hK2 => ?_
  refine RL.val  hF rfl rfl rfl (r_assign hF rfl rfl) ?_; clear hF; clear a; intro a hF
  refine RL.nil (hK2 _ _ ?_)
  clear hK2 K1
  refine seq_region fun K3 hK4 => ?_
  refine RL.val  hF rfl rfl rfl (r_move hF rfl rfl) ?_; clear hF; clear a; intro a hF
  refine RL.val  hF rfl rfl rfl (r_move hF rfl rfl) ?_; clear hF; clear a; intro a hF
  refine RL.val  hF rfl rfl rfl (r_len_slice hF rfl rfl Try.runUnderlying25) ?_; clear hF; clear a; intro a hF
  refine RL.val (v := .int .i64 (IntKind.i64.wrap ((a1.len : Int).tdiv 256))) (w' := w) hF rfl rfl rfl (r_quo hF rfl rfl rfl (by decide)) ?_; clear hF; clear a; intro a hF
  refine RL.val  hF rfl rfl rfl (r_convInt hF rfl rfl Try.runUnderlying3 Try.runUnderlying5) ?_; clear hF; clear a; intro a hF
  refine RL.val  hF rfl rfl rfl (r_move hF rfl rfl) ?_; clear hF; clear a; intro a hF
  refine RL.val  hF rfl rfl rfl (r_len_slice hF rfl rfl Try.runUnderlying25) ?_; clear hF; clear a; intro a hF
  refine RL.val  hF rfl rfl rfl (r_convInt hF rfl rfl Try.runUnderlying3 Try.runUnderlying5) ?_; clear hF; clear a; intro a hF
  obtain ⟨p6, w5, hp_, hw_, h⟩ := h
  refine RL.val (v := (Slc.mk (some p6) 2 2).v) (w' := w5) hF rfl rfl rfl (by rw [hp_, hw_]; exact r_buildSlice (xs := [(0, .int .u8 (IntKind.u8.wrap (IntKind.i64.wrap ((a1.len : Int).tdiv 256)))), (1, .int .u8 (IntKind.u8.wrap (a1.len : Int)))]) hF rfl rfl (by kernel_rfl)) ?_; clear hF; clear a; intro a hF
  obtain ⟨t8, w7, hc_, h⟩ := h
  refine RL.val  hF rfl rfl rfl (r_append (xs := [a0.v, (Slc.mk (some p6) 2 2).v]) hF rfl rfl hc_) ?_; clear hF; clear a; intro a hF
  refine RL.val  hF rfl rfl rfl (r_move hF rfl rfl) ?_; clear hF; clear a; intro a hF
  obtain ⟨t10, w9, hc_, h⟩ := h
  refine RL.val  hF rfl rfl rfl (r_append (xs := [t8.v, a1.v]) hF rfl rfl hc_) ?_; clear hF; clear a; intro a hF
  refine RL.val  hF rfl rfl rfl (r_assign hF rfl rfl) ?_; clear hF; clear a; intro a hF
  refine RL.nil (hK4 _ _ ?_)
  clear hK4 K3
  refine wp_ret ?_
  exact ret_of hF (res1 hF rfl rfl) ⟨_, rfl, h⟩

set_option maxRecDepth 20000 in
theorem br24 {a0 : Slc} {a1 : Bool} {a2 : Bool} {w : World} {K : Slc → World → Prop} (h : sh24 a0 a1 a2 w K) : C24 a0 a1 a2 w K := by
  unfold sh24 at h
  refine enter (n := 18) (l := [(0, a0.v), (1, .bool a1), (2, .bool a2)]) 15 Try.func24 rfl _ rfl rfl rfl fun a hF => ?_
  refine seq_region fun K1 hK2 => ?_
  refine RL.val  hF rfl rfl rfl (r_assign hF rfl rfl) ?_; clear hF; clear a; intro a hF
  refine RL.nil (hK2 _ _ ?_)
  clear hK2 K1
  refine seq_region fun K3 hK4 => ?_
  refine RL.val  hF rfl rfl rfl (r_assign hF rfl rfl) ?_; clear hF; clear a; intro a hF
  refine RL.nil (hK4 _ _ ?_)
  clear hK4 K3
  refine seq_k fun K5 hK6 => ?_
  obtain ⟨J, hJ, h⟩ := jn_open h
  have jn10 : ∀ (v7 : Int) (w8 : World) a, Fr 18 a [(0, a0.v), (2, .bool a2), (7, .int .u8 v7)] → J v7 w8 → K5 a w8 := by
    intro v7 w8 a hF h
    replace h := hJ _ _ h
    clear hJ
    refine hK6 _ _ ?_
    refine seq_k fun K11 hK12 => ?_
    obtain ⟨J, hJ, h⟩ := jn_open h
    have jn16 : ∀ (v13 : Int) (w14 : World) a, Fr 18 a [(0, a0.v), (7, .int .u8 v13)] → J v13 w14 → K11 a w14 := by
      intro v13 w14 a hF h
      replace h := hJ _ _ h
      clear hJ
      refine hK12 _ _ ?_
      refine seq_region fun K17 hK18 => ?_
      refine RL.val  hF rfl rfl rfl (r_move hF rfl rfl) ?_; clear hF; clear a; intro a hF
      refine RL.val  hF rfl rfl rfl (r_move hF rfl rfl) ?_; clear hF; clear a; intro a hF
      obtain ⟨p20, w19, hp_, hw_, h⟩ := h
      refine RL.val (v := (Slc.mk (some p20) 1 1).v) (w' := w19) hF rfl rfl rfl (by rw [hp_, hw_]; exact r_buildSlice (xs := [(0, .int .u8 v13)]) hF rfl rfl (by kernel_rfl)) ?_; clear hF; clear a; intro a hF
      obtain ⟨t22, w21, hc_, h⟩ := h
      refine RL.val  hF rfl rfl rfl (r_append (xs := [a0.v, (Slc.mk (some p20) 1 1).v]) hF rfl rfl hc_) ?_; clear hF; clear a; intro a hF
      refine RL.val  hF rfl rfl rfl (r_assign hF rfl rfl) ?_; clear hF; clear a; intro a hF
      refine RL.nil (hK18 _ _ ?_)
      clear hK18 K17
      refine wp_ret ?_
      exact ret_of hF (res1 hF rfl rfl) ⟨_, rfl, h⟩
    clear hJ
    refine seq_region fun K23 hK24 => ?_
    refine RL.val  hF rfl rfl rfl (r_move hF rfl rfl) ?_; clear hF; clear a; intro a hF
    refine RL.nil (hK24 _ _ ?_)
    clear hK24 K23
    obtain ⟨ht, hf⟩ := h
    refine cond_ hF rfl (fun hc => ?_) (fun hc => ?_)
    · replace h := ht hc; clear ht hf
      refine end_region fun K25 hK26 => ?_
      refine RL.val  hF rfl rfl rfl (r_move hF rfl rfl) ?_; clear hF; clear a; intro a hF
      refine RL.val  hF rfl rfl rfl (r_add hF rfl rfl rfl) ?_; clear hF; clear a; intro a hF
      refine RL.val  hF rfl rfl rfl (r_assign hF rfl rfl) ?_; clear hF; clear a; intro a hF
      refine RL.nil (hK26 _ _ ?_)
      clear hK26 K25
      exact jn16 (IntKind.u8.wrap (v7 + 2)) _ _ (hF.sub rfl) h
    · replace h := hf hc; clear ht hf
      refine wp_skip ?_
      exact jn16 v7 _ _ (hF.sub rfl) h
  clear hJ
  refine seq_region fun K27 hK28 => ?_
  refine RL.val  hF rfl rfl rfl (r_move hF rfl rfl) ?_; clear hF; clear a; intro a hF
  refine RL.nil (hK28 _ _ ?_)
  clear hK28 K27
  obtain ⟨ht, hf⟩ := h
  refine cond_ hF rfl (fun hc => ?_) (fun hc => ?_)
  · replace h := ht hc; clear ht hf
    refine end_region fun K29 hK30 => ?_
    refine RL.val  hF rfl rfl rfl (r_move hF rfl rfl) ?_; clear hF; clear a; intro a hF
    refine RL.val  hF rfl rfl rfl (r_add hF rfl rfl rfl) ?_; clear hF; clear a; intro a hF
    refine RL.val  hF rfl rfl rfl (r_assign hF rfl rfl) ?_; clear hF; clear a; intro a hF
    refine RL.nil (hK30 _ _ ?_)
    clear hK30 K29
    exact jn10 (IntKind.u8.wrap (0 + 1)) _ _ (hF.sub rfl) h
  · replace h := hf hc; clear ht hf
    refine wp_skip ?_
    exact jn10 0 _ _ (hF.sub rfl) h

set_option maxRecDepth 20000 in
theorem br17 {a0 : Array Value} {w : World} {K : Slc → World → Prop} (h : sh17 a0 w K) : C17 a0 w K := by
  unfold sh17 at h
  refine enter (n := 133) (l := [(0, .agg a0)]) 132 Try.func17 rfl _ rfl rfl rfl fun a hF => ?_
  refine seq_region fun K1 hK2 => ?_
  obtain ⟨p3, w4, hp_, hw_, h⟩ := h
  refine RL.val (v := .pointer (some p3)) (w' := w4) hF rfl rfl rfl (by rw [hp_, hw_]; exact r_box hF rfl rfl rfl) ?_; clear hF; clear a; intro a hF
  refine RL.val  hF rfl rfl rfl (r_assign hF rfl rfl) ?_; clear hF; clear a; intro a hF
  refine RL.nil (hK2 _ _ ?_)
  clear hK2 K1
  refine seq_region fun K5 hK6 => ?_
  refine RL.val  hF rfl rfl rfl (r_assign hF rfl rfl) ?_; clear hF; clear a; intro a hF
  refine RL.nil (hK6 _ _ ?_)
  clear hK6 K5
  refine seq_k fun K7 hK8 => ?_
  obtain ⟨J, hJ, h⟩ := jn_open h
  have jn12 : ∀ (v9 : Slc) (w10 : World) a, Fr 133 a [(3, v9.v)] → J v9 w10 → K7 a w10 := by
    intro v9 w10 a hF h
    replace h := hJ _ _ h
    clear hJ
    refine hK8 _ _ ?_
    refine seq_region fun K13 hK14 => ?_
    refine RL.val  hF rfl rfl rfl (r_move hF rfl rfl) ?_; clear hF; clear a; intro a hF
    refine RL.val  hF rfl rfl rfl (r_assign hF rfl rfl) ?_; clear hF; clear a; intro a hF
    refine RL.nil (hK14 _ _ ?_)
    clear hK14 K13
    refine wp_ret ?_
    exact ret_of hF (res1 hF rfl rfl) ⟨_, rfl, h⟩
  clear hJ
  refine seq_region fun K15 hK16 => ?_
  refine RL.val  hF rfl rfl rfl (r_fieldAddr0 hF rfl rfl Try.runUnderlying34 rfl Try.sizeOf3 rfl) ?_; clear hF; clear a; intro a hF
  obtain ⟨t17, hct17, h⟩ := h
  refine RL.val  hF rfl rfl rfl (r_load hF rfl rfl Try.isAgg3 hct17) ?_; clear hF; clear a; intro a hF
  refine RL.nil (hK16 _ _ ?_)
  clear hK16 K15
  refine wp_block ?_
  refine seq_region fun K18 hK19 => ?_
  refine RL.val  hF rfl rfl rfl (r_eql hF rfl rfl rfl) ?_; clear hF; clear a; intro a hF
  refine RL.val  hF rfl rfl rfl (r_assign hF rfl rfl) ?_; clear hF; clear a; intro a hF
  refine RL.nil (hK19 _ _ ?_)
  clear hK19 K18
  obtain ⟨ht, hf⟩ := h
  refine cond_ hF rfl (fun hc => ?_) (fun hc => ?_)
  · replace h := ht hc; clear ht hf
    refine seq_draw 72 #[0, 0, 2, 7, 0, 16, 63, 127] 8 mo rfl (by kernel_rfl) (by kernel_rfl) fun hS K20 hK21 => ?_
    obtain ⟨w22, hw, h⟩ := h; rw [← hw]; clear hw
    refine GL.val (v := Slc.nil.v) (i := 0) hF hS rfl rfl (by kernel_rfl) rfl rfl rfl rfl (fun x => r_move hF rfl rfl) ?_; clear hF; clear a; intro a hF
    refine GL.val (v := .pointer (some (p3.add 1))) (i := 1) hF hS rfl rfl (by kernel_rfl) rfl rfl rfl rfl (fun x => r_fieldAddr hF rfl rfl Try.runUnderlying34 rfl Try.sizeOf22 rfl) ?_; clear hF; clear a; intro a hF
    refine GL.val (v := (Slc.sub ⟨some (p3.add 1), 16, 16⟩ 1 0 16 16).v) (i := 2) hF hS rfl rfl (by kernel_rfl) rfl rfl rfl rfl (fun x => r_slice (lo' := none) (hi' := none) (mx' := none) hF rfl rfl rfl rfl rfl (arr_at Try.runUnderlying22 Try.sizeOf5 (bounds00 ))) ?_; clear hF; clear a; intro a hF
    refine GL.val (v := .pointer (some (p3.add 17))) (i := 4) hF hS rfl rfl (by kernel_rfl) rfl rfl rfl rfl (fun x => r_fieldAddr hF rfl rfl Try.runUnderlying34 rfl Try.sizeOf22 rfl) ?_; clear hF; clear a; intro a hF
    refine GL.val (v := (Slc.sub ⟨some (p3.add 17), 16, 16⟩ 1 0 16 16).v) (i := 5) hF hS rfl rfl (by kernel_rfl) rfl rfl rfl rfl (fun x => r_slice (lo' := none) (hi' := none) (mx' := none) hF rfl rfl rfl rfl rfl (arr_at Try.runUnderlying22 Try.sizeOf5 (bounds00 ))) ?_; clear hF; clear a; intro a hF
    refine GL.act (i := 3) (pend' := []) hS (by kernel_rfl) rfl (by kernel_rfl) ?_
    obtain ⟨t24, w23, hc_, h⟩ := h
    refine op_val  hF rfl rfl rfl rfl (r_append (xs := [Slc.nil.v, (Slc.sub ⟨some (p3.add 1), 16, 16⟩ 1 0 16 16).v]) hF rfl rfl hc_) trivial ?_; clear hF; clear a; intro a hF
    refine GL.act (i := 6) (pend' := []) hS (by kernel_rfl) rfl (by kernel_rfl) ?_
    obtain ⟨t26, w25, hc_, h⟩ := h
    refine op_val  hF rfl rfl rfl rfl (r_append (xs := [t24.v, (Slc.sub ⟨some (p3.add 17), 16, 16⟩ 1 0 16 16).v]) hF rfl rfl hc_) trivial ?_; clear hF; clear a; intro a hF
    refine GL.val (v := t26.v) (i := 7) hF hS rfl rfl (by kernel_rfl) rfl rfl rfl rfl (fun x => r_assign hF rfl rfl) ?_; clear hF; clear a; intro a hF
    refine GL.done (by kernel_rfl) (hK21 _ _ ?_)
    clear hK21 K20
    refine seq_draw 776 #[0, 0, 2, 7, 0, 16, 48, 112, 240, 511, 1023] 11 mo rfl (by kernel_rfl) (by kernel_rfl) fun hS K27 hK28 => ?_
    obtain ⟨w29, hw, h⟩ := h; rw [← hw]; clear hw
    obtain ⟨J32, hJ, h⟩ := jn_open h
    have jn33 : ∀ (v30 : Slc) (w31 : World) a, Fr 133 a [(1, .pointer (some p3)), (3, v30.v)] → J32 v30 w31 → K27 a w31 := by
      clear hF
      intro v30 w31 a hF h; replace h := hJ _ _ h; refine hK28 _ _ ?_; clear hJ hK28 K27
      refine seq_k fun K34 hK35 => ?_
      obtain ⟨J, hJ, h⟩ := jn_open h
      have jn39 : ∀ (v36 : Slc) (w37 : World) a, Fr 133 a [(1, .pointer (some p3)), (3, v36.v)] → J v36 w37 → K34 a w37 := by
        intro v36 w37 a hF h
        replace h := hJ _ _ h
        clear hJ
        refine hK35 _ _ ?_
        refine seq_draw 1032 #[0, 0, 2, 7, 0, 16, 48, 112, 0, 256, 1023, 2047] 12 mo rfl (by kernel_rfl) (by kernel_rfl) fun hS K40 hK41 => ?_
        obtain ⟨w42, hw, h⟩ := h; rw [← hw]; clear hw
        refine GL.val (v := v36.v) (i := 0) hF hS rfl rfl (by kernel_rfl) rfl rfl rfl rfl (fun x => r_move hF rfl rfl) ?_; clear hF; clear a; intro a hF
        refine GL.val (v := .pointer (some (p3.add 35))) (i := 1) hF hS rfl rfl (by kernel_rfl) rfl rfl rfl rfl (fun x => r_fieldAddr hF rfl rfl Try.runUnderlying34 rfl Try.sizeOf25 rfl) ?_; clear hF; clear a; intro a hF
        obtain ⟨t43, hct43, h⟩ := h
        refine GL.read (v := t43.v) (i := 2) hF (fun x => World.cell? x (p3.add 35) = some (t43.v)) hS rfl rfl (by kernel_rfl) rfl rfl rfl rfl hct43 (fun x hx => r_load hF rfl rfl Try.isAgg25 hx) ?_; clear hF; clear a; intro a hF
        refine GL.val (v := .pointer (some (p3.add 36))) (i := 4) hF hS rfl rfl (by kernel_rfl) rfl rfl rfl rfl (fun x => r_fieldAddr hF rfl rfl Try.runUnderlying34 rfl Try.sizeOf25 rfl) ?_; clear hF; clear a; intro a hF
        obtain ⟨t44, hct44, h⟩ := h
        refine GL.read (v := t44.v) (i := 5) hF (fun x => World.cell? x (p3.add 36) = some (t44.v)) hS rfl rfl (by kernel_rfl) rfl rfl rfl rfl hct44 (fun x hx => r_load hF rfl rfl Try.isAgg25 hx) ?_; clear hF; clear a; intro a hF
        refine GL.val (v := .int .i64 (t44.len : Int)) (i := 6) hF hS rfl rfl (by kernel_rfl) rfl rfl rfl rfl (fun x => r_len_slice hF rfl rfl Try.runUnderlying25) ?_; clear hF; clear a; intro a hF
        refine GL.val (v := .bool (decide ((t44.len : Int) > 0))) (i := 7) hF hS rfl rfl (by kernel_rfl) rfl rfl rfl rfl (fun x => r_gtr hF rfl rfl rfl) ?_; clear hF; clear a; intro a hF
        refine GL.val (v := .pointer (some (p3.add 53))) (i := 8) hF hS rfl rfl (by kernel_rfl) rfl rfl rfl rfl (fun x => r_fieldAddr hF rfl rfl Try.runUnderlying34 rfl Try.sizeOf4 rfl) ?_; clear hF; clear a; intro a hF
        obtain ⟨t45, hct45, h⟩ := h
        refine GL.read (v := .bool t45) (i := 9) hF (fun x => World.cell? x (p3.add 53) = some (.bool t45)) hS rfl rfl (by kernel_rfl) rfl rfl rfl rfl hct45 (fun x hx => r_load hF rfl rfl Try.isAgg4 hx) ?_; clear hF; clear a; intro a hF
        refine GL.act (i := 3) (pend' := [(9, fun x => World.cell? x (p3.add 53) = some (.bool t45)), (5, fun x => World.cell? x (p3.add 36) = some (t44.v))]) hS (by kernel_rfl) rfl (by kernel_rfl) ?_
        refine op_call hF rfl rfl rfl rfl (r_call (xs := [v36.v, t43.v]) hF rfl rfl Try.call25) (CallsV.mono h ?_)
        clear h; rintro _ w46 ⟨r47, rfl, h⟩
        obtain ⟨hk48, hk49, h⟩ := h
        refine ⟨⟨hk48, hk49, trivial⟩, ?_⟩; clear hF; clear a; intro a hF
        refine GL.act (i := 10) (pend' := []) hS (by kernel_rfl) rfl (by kernel_rfl) ?_
        refine op_call hF rfl rfl rfl rfl (r_call (xs := [r47.v, .bool (decide ((t44.len : Int) > 0)), .bool t45]) hF rfl rfl Try.call24) (CallsV.mono h ?_)
        clear h; rintro _ w50 ⟨r51, rfl, h⟩
        refine ⟨trivial, ?_⟩; clear hF; clear a; intro a hF
        refine GL.val (v := r51.v) (i := 11) hF hS rfl rfl (by kernel_rfl) rfl rfl rfl rfl (fun x => r_assign hF rfl rfl) ?_; clear hF; clear a; intro a hF
        refine GL.done (by kernel_rfl) (hK41 _ _ ?_)
        clear hK41 K40
        refine seq_region fun K52 hK53 => ?_
        refine RL.val  hF rfl rfl rfl (r_fieldAddr hF rfl rfl Try.runUnderlying34 rfl Try.sizeOf25 rfl) ?_; clear hF; clear a; intro a hF
        obtain ⟨t54, hct54, h⟩ := h
        refine RL.val  hF rfl rfl rfl (r_load hF rfl rfl Try.isAgg25 hct54) ?_; clear hF; clear a; intro a hF
        refine RL.val  hF rfl rfl rfl (r_len_slice hF rfl rfl Try.runUnderlying25) ?_; clear hF; clear a; intro a hF
        refine RL.val  hF rfl rfl rfl (r_gtr hF rfl rfl rfl) ?_; clear hF; clear a; intro a hF
        refine RL.nil (hK53 _ _ ?_)
        clear hK53 K52
        obtain ⟨ht, hf⟩ := h
        refine cond_ hF rfl (fun hc => ?_) (fun hc => ?_)
        · replace h := ht hc; clear ht hf
          refine end_draw 72 #[0, 0, 2, 7, 0, 16, 63, 127] 8 mo rfl (by kernel_rfl) (by kernel_rfl) fun hS K55 hK56 => ?_
          obtain ⟨w57, hw, h⟩ := h; rw [← hw]; clear hw
          refine GL.val (v := r51.v) (i := 0) hF hS rfl rfl (by kernel_rfl) rfl rfl rfl rfl (fun x => r_move hF rfl rfl) ?_; clear hF; clear a; intro a hF
          refine GL.val (v := .pointer (some (p3.add 36))) (i := 1) hF hS rfl rfl (by kernel_rfl) rfl rfl rfl rfl (fun x => r_fieldAddr hF rfl rfl Try.runUnderlying34 rfl Try.sizeOf25 rfl) ?_; clear hF; clear a; intro a hF
          obtain ⟨t58, hct58, h⟩ := h
          refine GL.read (v := t58.v) (i := 2) hF (fun x => World.cell? x (p3.add 36) = some (t58.v)) hS rfl rfl (by kernel_rfl) rfl rfl rfl rfl hct58 (fun x hx => r_load hF rfl rfl Try.isAgg25 hx) ?_; clear hF; clear a; intro a hF
          refine GL.val (v := .pointer (some (p3.add 37))) (i := 4) hF hS rfl rfl (by kernel_rfl) rfl rfl rfl rfl (fun x => r_fieldAddr hF rfl rfl Try.runUnderlying34 rfl Try.sizeOf22 rfl) ?_; clear hF; clear a; intro a hF
          refine GL.val (v := (Slc.sub ⟨some (p3.add 37), 16, 16⟩ 1 0 16 16).v) (i := 5) hF hS rfl rfl (by kernel_rfl) rfl rfl rfl rfl (fun x => r_slice (lo' := none) (hi' := none) (mx' := none) hF rfl rfl rfl rfl rfl (arr_at Try.runUnderlying22 Try.sizeOf5 (bounds00 ))) ?_; clear hF; clear a; intro a hF
          refine GL.act (i := 3) (pend' := []) hS (by kernel_rfl) rfl (by kernel_rfl) ?_
          refine op_call hF rfl rfl rfl rfl (r_call (xs := [r51.v, t58.v]) hF rfl rfl Try.call25) (CallsV.mono h ?_)
          clear h; rintro _ w59 ⟨r60, rfl, h⟩
          refine ⟨trivial, ?_⟩; clear hF; clear a; intro a hF
          refine GL.act (i := 6) (pend' := []) hS (by kernel_rfl) rfl (by kernel_rfl) ?_
          obtain ⟨t62, w61, hc_, h⟩ := h
          refine op_val  hF rfl rfl rfl rfl (r_append (xs := [r60.v, (Slc.sub ⟨some (p3.add 37), 16, 16⟩ 1 0 16 16).v]) hF rfl rfl hc_) trivial ?_; clear hF; clear a; intro a hF
          refine GL.val (v := t62.v) (i := 7) hF hS rfl rfl (by kernel_rfl) rfl rfl rfl rfl (fun x => r_assign hF rfl rfl) ?_; clear hF; clear a; intro a hF
          refine GL.done (by kernel_rfl) (hK56 _ _ ?_)
          clear hK56 K55
          exact jn12 t62 _ _ (hF.sub rfl) h
        · replace h := hf hc; clear ht hf
          refine wp_skip ?_
          exact jn12 r51 _ _ (hF.sub rfl) h
      clear hJ
      refine seq_region fun K63 hK64 => ?_
      refine RL.val  hF rfl rfl rfl (r_assign hF rfl rfl) ?_; clear hF; clear a; intro a hF
      refine RL.nil (hK64 _ _ ?_)
      clear hK64 K63
      refine wp_block ?_
      refine loop_ (fun (s65 : Slc × Int) => [(1, .pointer (some p3)), (3, s65.1.v), (4, .int .i64 s65.2)]) (hF.sub rfl) h ?_
      clear hF h
      intro s65 w66 N67 KL hN68 h a hF
      refine seq_k fun K69 hK70 => ?_
      obtain ⟨J, hJ, h⟩ := jn_open h
      have jn74 : ∀ (v71 : Unit) (w72 : World) a, Fr 133 a [(1, .pointer (some p3)), (3, s65.1.v), (4, .int .i64 s65.2)] → J v71 w72 → K69 a w72 := by
        intro v71 w72 a hF h
        replace h := hJ _ _ h
        clear hJ
        refine hK70 _ _ ?_
        refine seq_k fun K75 hK76 => ?_
        obtain ⟨J, hJ, h⟩ := jn_open h
        have jn80 : ∀ (v77 : Slc) (w78 : World) a, Fr 133 a [(1, .pointer (some p3)), (3, v77.v), (4, .int .i64 s65.2)] → J v77 w78 → K75 a w78 := by
          intro v77 w78 a hF h
          replace h := hJ _ _ h
          clear hJ
          refine hK76 _ _ ?_
          refine end_region fun K81 hK82 => ?_
          refine RL.val  hF rfl rfl rfl (r_move hF rfl rfl) ?_; clear hF; clear a; intro a hF
          refine RL.val  hF rfl rfl rfl (r_add hF rfl rfl rfl) ?_; clear hF; clear a; intro a hF
          refine RL.val  hF rfl rfl rfl (r_assign hF rfl rfl) ?_; clear hF; clear a; intro a hF
          refine RL.nil (hK82 _ _ ?_)
          clear hK82 K81
          exact hN68 (v77, IntKind.i64.wrap (s65.2 + 1)) _ _ (hF.sub rfl) h
        clear hJ
        refine wp_block ?_
        refine end_region fun K83 hK84 => ?_
        refine RL.val  hF rfl rfl rfl (r_move hF rfl rfl) ?_; clear hF; clear a; intro a hF
        refine RL.val  hF rfl rfl rfl (r_fieldAddr hF rfl rfl Try.runUnderlying34 rfl Try.sizeOf24 rfl) ?_; clear hF; clear a; intro a hF
        obtain ⟨t85, hct85, h⟩ := h
        refine RL.val  hF rfl rfl rfl (r_load hF rfl rfl Try.isAgg24 hct85) ?_; clear hF; clear a; intro a hF
        refine RL.val  hF rfl rfl rfl (r_move hF rfl rfl) ?_; clear hF; clear a; intro a hF
        obtain ⟨b87, p86, hb_, h0_, h1_, hp_, h⟩ := h
        refine RL.val (v := .pointer (some p86)) (w' := w72) hF rfl rfl rfl (by rw [hp_]; exact r_indexAddr hF rfl (lks rfl hb_) rfl Try.runUnderlying24 Try.sizeOf9 h0_ h1_) ?_; clear hF; clear a; intro a hF
        obtain ⟨t88, hct88, h⟩ := h
        refine RL.val  hF rfl rfl rfl (r_load hF rfl rfl Try.isAgg9 hct88) ?_; clear hF; clear a; intro a hF
        refine RL.call hF rfl rfl rfl (r_call (xs := [s65.1.v, .string t88]) hF rfl rfl Try.call23) (CallsV.mono h ?_)
        clear h; rintro _ w89 ⟨r90, rfl, h⟩; clear hF; clear a; intro a hF
        refine RL.val  hF rfl rfl rfl (r_assign hF rfl rfl) ?_; clear hF; clear a; intro a hF
        refine RL.nil (hK84 _ _ ?_)
        clear hK84 K83
        exact jn80 r90 _ _ (hF.sub rfl) h
      clear hJ
      refine seq_region fun K91 hK92 => ?_
      refine RL.val  hF rfl rfl rfl (r_move hF rfl rfl) ?_; clear hF; clear a; intro a hF
      refine RL.val  hF rfl rfl rfl (r_fieldAddr hF rfl rfl Try.runUnderlying34 rfl Try.sizeOf24 rfl) ?_; clear hF; clear a; intro a hF
      obtain ⟨t93, hct93, h⟩ := h
      refine RL.val  hF rfl rfl rfl (r_load hF rfl rfl Try.isAgg24 hct93) ?_; clear hF; clear a; intro a hF
      refine RL.val  hF rfl rfl rfl (r_len_slice hF rfl rfl Try.runUnderlying24) ?_; clear hF; clear a; intro a hF
      refine RL.val  hF rfl rfl rfl (r_lss hF rfl rfl rfl) ?_; clear hF; clear a; intro a hF
      refine RL.nil (hK92 _ _ ?_)
      clear hK92 K91
      obtain ⟨ht, hf⟩ := h
      refine cond_ hF rfl (fun hc => ?_) (fun hc => ?_)
      · replace h := ht hc; clear ht hf
        refine wp_skip ?_
        exact jn74 () _ _ (hF.sub rfl) h
      · replace h := hf hc; clear ht hf
        refine wp_exit ?_
        exact jn39 s65.1 _ _ (hF.sub rfl) h
    clear hJ hK28
    refine GL.val (v := t26.v) (i := 0) hF hS rfl rfl (by kernel_rfl) rfl rfl rfl rfl (fun x => r_move hF rfl rfl) ?_; clear hF; clear a; intro a hF
    refine GL.val (v := .pointer (some (p3.add 33))) (i := 1) hF hS rfl rfl (by kernel_rfl) rfl rfl rfl rfl (fun x => r_fieldAddr hF rfl rfl Try.runUnderlying34 rfl Try.sizeOf9 rfl) ?_; clear hF; clear a; intro a hF
    obtain ⟨t94, hct94, h⟩ := h
    refine GL.read (v := .string t94) (i := 2) hF (fun x => World.cell? x (p3.add 33) = some (.string t94)) hS rfl rfl (by kernel_rfl) rfl rfl rfl rfl hct94 (fun x hx => r_load hF rfl rfl Try.isAgg9 hx) ?_; clear hF; clear a; intro a hF
    refine GL.val (v := .pointer (some (p3.add 34))) (i := 4) hF hS rfl rfl (by kernel_rfl) rfl rfl rfl rfl (fun x => r_fieldAddr hF rfl rfl Try.runUnderlying34 rfl Try.sizeOf24 rfl) ?_; clear hF; clear a; intro a hF
    obtain ⟨t95, hct95, h⟩ := h
    refine GL.read (v := t95.v) (i := 5) hF (fun x => World.cell? x (p3.add 34) = some (t95.v)) hS rfl rfl (by kernel_rfl) rfl rfl rfl rfl hct95 (fun x hx => r_load hF rfl rfl Try.isAgg24 hx) ?_; clear hF; clear a; intro a hF
    refine GL.val (v := .int .i64 (t95.len : Int)) (i := 6) hF hS rfl rfl (by kernel_rfl) rfl rfl rfl rfl (fun x => r_len_slice hF rfl rfl Try.runUnderlying24) ?_; clear hF; clear a; intro a hF
    refine GL.val (v := .int .u8 (IntKind.u8.wrap (t95.len : Int))) (i := 7) hF hS rfl rfl (by kernel_rfl) rfl rfl rfl rfl (fun x => r_convInt hF rfl rfl Try.runUnderlying3 Try.runUnderlying5) ?_; clear hF; clear a; intro a hF
    obtain ⟨hb96, hb97⟩ := h
    refine GL.act2 (i1 := 3) (pend1 := [(5, fun x => World.cell? x (p3.add 34) = some (t95.v))]) (i2 := 8) (pend2 := [(2, fun x => World.cell? x (p3.add 33) = some (.string t94))]) hS (by kernel_rfl) rfl rfl (by kernel_rfl) (by kernel_rfl) ?_ ?_
    · replace h := hb96; clear hb97
      refine op_call hF rfl rfl rfl rfl (r_call (xs := [t26.v, .string t94]) hF rfl rfl Try.call23) (CallsV.mono h ?_)
      clear h; rintro _ w98 ⟨r99, rfl, h⟩
      obtain ⟨hk100, h⟩ := h
      refine ⟨⟨hk100, trivial⟩, ?_⟩; clear hF; clear a; intro a hF
      refine GL.act (i := 8) (pend' := []) hS (by kernel_rfl) rfl (by kernel_rfl) ?_
      obtain ⟨p102, w101, hp_, hw_, h⟩ := h
      refine op_val (v := (Slc.mk (some p102) 1 1).v) (w' := w101) hF rfl rfl rfl rfl (by rw [hp_, hw_]; exact r_buildSlice (xs := [(0, .int .u8 (IntKind.u8.wrap (t95.len : Int)))]) hF rfl rfl (by kernel_rfl)) trivial ?_; clear hF; clear a; intro a hF
      refine GL.act (i := 9) (pend' := []) hS (by kernel_rfl) rfl (by kernel_rfl) ?_
      obtain ⟨t104, w103, hc_, h⟩ := h
      refine op_val  hF rfl rfl rfl rfl (r_append (xs := [r99.v, (Slc.mk (some p102) 1 1).v]) hF rfl rfl hc_) trivial ?_; clear hF; clear a; intro a hF
      refine GL.val (v := t104.v) (i := 10) hF hS rfl rfl (by kernel_rfl) rfl rfl rfl rfl (fun x => r_assign hF rfl rfl) ?_; clear hF; clear a; intro a hF
      refine GL.done (by kernel_rfl) ?_
      exact jn33 t104 _ _ (hF.sub rfl) h
    · replace h := hb97; clear hb96
      obtain ⟨p106, w105, hp_, hw_, h⟩ := h
      obtain ⟨hk107, h⟩ := h
      refine op_val (v := (Slc.mk (some p106) 1 1).v) (w' := w105) hF rfl rfl rfl rfl (by rw [hp_, hw_]; exact r_buildSlice (xs := [(0, .int .u8 (IntKind.u8.wrap (t95.len : Int)))]) hF rfl rfl (by kernel_rfl)) ⟨hk107, trivial⟩ ?_; clear hF; clear a; intro a hF
      refine GL.act (i := 3) (pend' := []) hS (by kernel_rfl) rfl (by kernel_rfl) ?_
      refine op_call hF rfl rfl rfl rfl (r_call (xs := [t26.v, .string t94]) hF rfl rfl Try.call23) (CallsV.mono h ?_)
      clear h; rintro _ w108 ⟨r109, rfl, h⟩
      refine ⟨trivial, ?_⟩; clear hF; clear a; intro a hF
      refine GL.act (i := 9) (pend' := []) hS (by kernel_rfl) rfl (by kernel_rfl) ?_
      obtain ⟨t111, w110, hc_, h⟩ := h
      refine op_val  hF rfl rfl rfl rfl (r_append (xs := [r109.v, (Slc.mk (some p106) 1 1).v]) hF rfl rfl hc_) trivial ?_; clear hF; clear a; intro a hF
      refine GL.val (v := t111.v) (i := 10) hF hS rfl rfl (by kernel_rfl) rfl rfl rfl rfl (fun x => r_assign hF rfl rfl) ?_; clear hF; clear a; intro a hF
      refine GL.done (by kernel_rfl) ?_
      exact jn33 t111 _ _ (hF.sub rfl) h
  · replace h := hf hc; clear ht hf
    refine seq_region fun K112 hK113 => ?_
    refine RL.val  hF rfl rfl rfl (r_eql hF rfl rfl rfl) ?_; clear hF; clear a; intro a hF
    refine RL.val  hF rfl rfl rfl (r_assign hF rfl rfl) ?_; clear hF; clear a; intro a hF
    refine RL.nil (hK113 _ _ ?_)
    clear hK113 K112
    obtain ⟨ht, hf⟩ := h
    refine cond_ hF rfl (fun hc => ?_) (fun hc => ?_)
    · replace h := ht hc; clear ht hf
      refine seq_draw 72 #[0, 0, 2, 7, 0, 16, 63, 127] 8 mo rfl (by kernel_rfl) (by kernel_rfl) fun hS K114 hK115 => ?_
      obtain ⟨w116, hw, h⟩ := h; rw [← hw]; clear hw
      refine GL.val (v := Slc.nil.v) (i := 0) hF hS rfl rfl (by kernel_rfl) rfl rfl rfl rfl (fun x => r_move hF rfl rfl) ?_; clear hF; clear a; intro a hF
      refine GL.val (v := .pointer (some (p3.add 1))) (i := 1) hF hS rfl rfl (by kernel_rfl) rfl rfl rfl rfl (fun x => r_fieldAddr hF rfl rfl Try.runUnderlying34 rfl Try.sizeOf22 rfl) ?_; clear hF; clear a; intro a hF
      refine GL.val (v := (Slc.sub ⟨some (p3.add 1), 16, 16⟩ 1 0 16 16).v) (i := 2) hF hS rfl rfl (by kernel_rfl) rfl rfl rfl rfl (fun x => r_slice (lo' := none) (hi' := none) (mx' := none) hF rfl rfl rfl rfl rfl (arr_at Try.runUnderlying22 Try.sizeOf5 (bounds00 ))) ?_; clear hF; clear a; intro a hF
      refine GL.val (v := .pointer (some (p3.add 17))) (i := 4) hF hS rfl rfl (by kernel_rfl) rfl rfl rfl rfl (fun x => r_fieldAddr hF rfl rfl Try.runUnderlying34 rfl Try.sizeOf22 rfl) ?_; clear hF; clear a; intro a hF
      refine GL.val (v := (Slc.sub ⟨some (p3.add 17), 16, 16⟩ 1 0 16 16).v) (i := 5) hF hS rfl rfl (by kernel_rfl) rfl rfl rfl rfl (fun x => r_slice (lo' := none) (hi' := none) (mx' := none) hF rfl rfl rfl rfl rfl (arr_at Try.runUnderlying22 Try.sizeOf5 (bounds00 ))) ?_; clear hF; clear a; intro a hF
      refine GL.act (i := 3) (pend' := []) hS (by kernel_rfl) rfl (by kernel_rfl) ?_
      obtain ⟨t118, w117, hc_, h⟩ := h
      refine op_val  hF rfl rfl rfl rfl (r_append (xs := [Slc.nil.v, (Slc.sub ⟨some (p3.add 1), 16, 16⟩ 1 0 16 16).v]) hF rfl rfl hc_) trivial ?_; clear hF; clear a; intro a hF
      refine GL.act (i := 6) (pend' := []) hS (by kernel_rfl) rfl (by kernel_rfl) ?_
      obtain ⟨t120, w119, hc_, h⟩ := h
      refine op_val  hF rfl rfl rfl rfl (r_append (xs := [t118.v, (Slc.sub ⟨some (p3.add 17), 16, 16⟩ 1 0 16 16).v]) hF rfl rfl hc_) trivial ?_; clear hF; clear a; intro a hF
      refine GL.val (v := t120.v) (i := 7) hF hS rfl rfl (by kernel_rfl) rfl rfl rfl rfl (fun x => r_assign hF rfl rfl) ?_; clear hF; clear a; intro a hF
      refine GL.done (by kernel_rfl) (hK115 _ _ ?_)
      clear hK115 K114
      refine end_region fun K121 hK122 => ?_
      refine RL.val  hF rfl rfl rfl (r_move hF rfl rfl) ?_; clear hF; clear a; intro a hF
      refine RL.val  hF rfl rfl rfl (r_fieldAddr hF rfl rfl Try.runUnderlying34 rfl Try.sizeOf4 rfl) ?_; clear hF; clear a; intro a hF
      obtain ⟨t123, hct123, h⟩ := h
      refine RL.val  hF rfl rfl rfl (r_load hF rfl rfl Try.isAgg4 hct123) ?_; clear hF; clear a; intro a hF
      refine RL.call hF rfl rfl rfl (r_call (xs := [t120.v, .bool t123, .bool false]) hF rfl rfl Try.call24) (CallsV.mono h ?_)
      clear h; rintro _ w124 ⟨r125, rfl, h⟩; clear hF; clear a; intro a hF
      refine RL.val  hF rfl rfl rfl (r_assign hF rfl rfl) ?_; clear hF; clear a; intro a hF
      refine RL.nil (hK122 _ _ ?_)
      clear hK122 K121
      exact jn12 r125 _ _ (hF.sub rfl) h
    · replace h := hf hc; clear ht hf
      refine seq_region fun K126 hK127 => ?_
      refine RL.val  hF rfl rfl rfl (r_eql hF rfl rfl rfl) ?_; clear hF; clear a; intro a hF
      refine RL.val  hF rfl rfl rfl (r_assign hF rfl rfl) ?_; clear hF; clear a; intro a hF
      refine RL.nil (hK127 _ _ ?_)
      clear hK127 K126
      obtain ⟨ht, hf⟩ := h
      refine cond_ hF rfl (fun hc => ?_) (fun hc => ?_)
      · replace h := ht hc; clear ht hf
        refine seq_region fun K128 hK129 => ?_
        refine RL.val  hF rfl rfl rfl (r_move hF rfl rfl) ?_; clear hF; clear a; intro a hF
        refine RL.val  hF rfl rfl rfl (r_fieldAddr hF rfl rfl Try.runUnderlying34 rfl Try.sizeOf3 rfl) ?_; clear hF; clear a; intro a hF
        obtain ⟨t130, hct130, h⟩ := h
        refine RL.val  hF rfl rfl rfl (r_load hF rfl rfl Try.isAgg3 hct130) ?_; clear hF; clear a; intro a hF
        refine RL.val (v := .int .i64 (shrZ .i64 t130 24)) (w' := w4) hF rfl rfl rfl (r_shr hF rfl rfl rfl (by decide)) ?_; clear hF; clear a; intro a hF
        refine RL.val  hF rfl rfl rfl (r_convInt hF rfl rfl Try.runUnderlying3 Try.runUnderlying5) ?_; clear hF; clear a; intro a hF
        refine RL.val  hF rfl rfl rfl (r_fieldAddr hF rfl rfl Try.runUnderlying34 rfl Try.sizeOf3 rfl) ?_; clear hF; clear a; intro a hF
        obtain ⟨t131, hct131, h⟩ := h
        refine RL.val  hF rfl rfl rfl (r_load hF rfl rfl Try.isAgg3 hct131) ?_; clear hF; clear a; intro a hF
        refine RL.val (v := .int .i64 (shrZ .i64 t131 16)) (w' := w4) hF rfl rfl rfl (r_shr hF rfl rfl rfl (by decide)) ?_; clear hF; clear a; intro a hF
        refine RL.val  hF rfl rfl rfl (r_convInt hF rfl rfl Try.runUnderlying3 Try.runUnderlying5) ?_; clear hF; clear a; intro a hF
        refine RL.val  hF rfl rfl rfl (r_fieldAddr hF rfl rfl Try.runUnderlying34 rfl Try.sizeOf3 rfl) ?_; clear hF; clear a; intro a hF
        obtain ⟨t132, hct132, h⟩ := h
        refine RL.val  hF rfl rfl rfl (r_load hF rfl rfl Try.isAgg3 hct132) ?_; clear hF; clear a; intro a hF
        refine RL.val (v := .int .i64 (shrZ .i64 t132 8)) (w' := w4) hF rfl rfl rfl (r_shr hF rfl rfl rfl (by decide)) ?_; clear hF; clear a; intro a hF
        refine RL.val  hF rfl rfl rfl (r_convInt hF rfl rfl Try.runUnderlying3 Try.runUnderlying5) ?_; clear hF; clear a; intro a hF
        refine RL.val  hF rfl rfl rfl (r_fieldAddr hF rfl rfl Try.runUnderlying34 rfl Try.sizeOf3 rfl) ?_; clear hF; clear a; intro a hF
        obtain ⟨t133, hct133, h⟩ := h
        refine RL.val  hF rfl rfl rfl (r_load hF rfl rfl Try.isAgg3 hct133) ?_; clear hF; clear a; intro a hF
        refine RL.val  hF rfl rfl rfl (r_convInt hF rfl rfl Try.runUnderlying3 Try.runUnderlying5) ?_; clear hF; clear a; intro a hF
        obtain ⟨p135, w134, hp_, hw_, h⟩ := h
        refine RL.val (v := (Slc.mk (some p135) 4 4).v) (w' := w134) hF rfl rfl rfl (by rw [hp_, hw_]; exact r_buildSlice (xs := [(0, .int .u8 (IntKind.u8.wrap (shrZ .i64 t130 24))), (1, .int .u8 (IntKind.u8.wrap (shrZ .i64 t131 16))), (2, .int .u8 (IntKind.u8.wrap (shrZ .i64 t132 8))), (3, .int .u8 (IntKind.u8.wrap t133))]) hF rfl rfl (by kernel_rfl)) ?_; clear hF; clear a; intro a hF
        obtain ⟨t137, w136, hc_, h⟩ := h
        refine RL.val  hF rfl rfl rfl (r_append (xs := [Slc.nil.v, (Slc.mk (some p135) 4 4).v]) hF rfl rfl hc_) ?_; clear hF; clear a; intro a hF
        refine RL.val  hF rfl rfl rfl (r_assign hF rfl rfl) ?_; clear hF; clear a; intro a hF
        refine RL.nil (hK129 _ _ ?_)
        clear hK129 K128
        refine end_draw 72 #[0, 0, 2, 7, 0, 16, 63, 127] 8 mo rfl (by kernel_rfl) (by kernel_rfl) fun hS K138 hK139 => ?_
        obtain ⟨w140, hw, h⟩ := h; rw [← hw]; clear hw
        refine GL.val (v := t137.v) (i := 0) hF hS rfl rfl (by kernel_rfl) rfl rfl rfl rfl (fun x => r_move hF rfl rfl) ?_; clear hF; clear a; intro a hF
        refine GL.val (v := .pointer (some (p3.add 36))) (i := 1) hF hS rfl rfl (by kernel_rfl) rfl rfl rfl rfl (fun x => r_fieldAddr hF rfl rfl Try.runUnderlying34 rfl Try.sizeOf25 rfl) ?_; clear hF; clear a; intro a hF
        obtain ⟨t141, hct141, h⟩ := h
        refine GL.read (v := t141.v) (i := 2) hF (fun x => World.cell? x (p3.add 36) = some (t141.v)) hS rfl rfl (by kernel_rfl) rfl rfl rfl rfl hct141 (fun x hx => r_load hF rfl rfl Try.isAgg25 hx) ?_; clear hF; clear a; intro a hF
        refine GL.val (v := .pointer (some (p3.add 53))) (i := 4) hF hS rfl rfl (by kernel_rfl) rfl rfl rfl rfl (fun x => r_fieldAddr hF rfl rfl Try.runUnderlying34 rfl Try.sizeOf4 rfl) ?_; clear hF; clear a; intro a hF
        obtain ⟨t142, hct142, h⟩ := h
        refine GL.read (v := .bool t142) (i := 5) hF (fun x => World.cell? x (p3.add 53) = some (.bool t142)) hS rfl rfl (by kernel_rfl) rfl rfl rfl rfl hct142 (fun x hx => r_load hF rfl rfl Try.isAgg4 hx) ?_; clear hF; clear a; intro a hF
        refine GL.act (i := 3) (pend' := [(5, fun x => World.cell? x (p3.add 53) = some (.bool t142))]) hS (by kernel_rfl) rfl (by kernel_rfl) ?_
        refine op_call hF rfl rfl rfl rfl (r_call (xs := [t137.v, t141.v]) hF rfl rfl Try.call25) (CallsV.mono h ?_)
        clear h; rintro _ w143 ⟨r144, rfl, h⟩
        obtain ⟨hk145, h⟩ := h
        refine ⟨⟨hk145, trivial⟩, ?_⟩; clear hF; clear a; intro a hF
        refine GL.act (i := 6) (pend' := []) hS (by kernel_rfl) rfl (by kernel_rfl) ?_
        refine op_call hF rfl rfl rfl rfl (r_call (xs := [r144.v, .bool t142, .bool false]) hF rfl rfl Try.call24) (CallsV.mono h ?_)
        clear h; rintro _ w146 ⟨r147, rfl, h⟩
        refine ⟨trivial, ?_⟩; clear hF; clear a; intro a hF
        refine GL.val (v := r147.v) (i := 7) hF hS rfl rfl (by kernel_rfl) rfl rfl rfl rfl (fun x => r_assign hF rfl rfl) ?_; clear hF; clear a; intro a hF
        refine GL.done (by kernel_rfl) (hK139 _ _ ?_)
        clear hK139 K138
        exact jn12 r147 _ _ (hF.sub rfl) h
      · replace h := hf hc; clear ht hf
        refine seq_region fun K148 hK149 => ?_
        refine RL.val  hF rfl rfl rfl (r_eql hF rfl rfl rfl) ?_; clear hF; clear a; intro a hF
        refine RL.val  hF rfl rfl rfl (r_assign hF rfl rfl) ?_; clear hF; clear a; intro a hF
        refine RL.nil (hK149 _ _ ?_)
        clear hK149 K148
        obtain ⟨ht, hf⟩ := h
        refine cond_ hF rfl (fun hc => ?_) (fun hc => ?_)
        · replace h := ht hc; clear ht hf
          refine end_draw 2336 #[0, 0, 2, 6, 14, 31, 0, 64, 255, 0, 512, 2047, 4095] 13 mo rfl (by kernel_rfl) (by kernel_rfl) fun hS K150 hK151 => ?_
          obtain ⟨w152, hw, h⟩ := h; rw [← hw]; clear hw
          refine GL.val (v := Slc.nil.v) (i := 0) hF hS rfl rfl (by kernel_rfl) rfl rfl rfl rfl (fun x => r_move hF rfl rfl) ?_; clear hF; clear a; intro a hF
          refine GL.val (v := .pointer (some (p3.add 34))) (i := 1) hF hS rfl rfl (by kernel_rfl) rfl rfl rfl rfl (fun x => r_fieldAddr hF rfl rfl Try.runUnderlying34 rfl Try.sizeOf24 rfl) ?_; clear hF; clear a; intro a hF
          obtain ⟨t153, hct153, h⟩ := h
          refine GL.read (v := t153.v) (i := 2) hF (fun x => World.cell? x (p3.add 34) = some (t153.v)) hS rfl rfl (by kernel_rfl) rfl rfl rfl rfl hct153 (fun x hx => r_load hF rfl rfl Try.isAgg24 hx) ?_; clear hF; clear a; intro a hF
          obtain ⟨b155, p154, hb_, h0_, h1_, hp_, h⟩ := h
          refine GL.val (v := .pointer (some p154)) (i := 3) hF hS rfl rfl (by kernel_rfl) rfl rfl rfl rfl (fun x => by rw [hp_]; exact r_indexAddr hF rfl (lks rfl hb_) rfl Try.runUnderlying24 Try.sizeOf9 h0_ h1_) ?_; clear hF; clear a; intro a hF
          obtain ⟨t156, hct156, h⟩ := h
          refine GL.read (v := .string t156) (i := 4) hF (fun x => World.cell? x p154 = some (.string t156)) hS rfl rfl (by kernel_rfl) rfl rfl rfl rfl hct156 (fun x hx => r_load hF rfl rfl Try.isAgg9 hx) ?_; clear hF; clear a; intro a hF
          refine GL.val (v := .pointer (some (p3.add 35))) (i := 6) hF hS rfl rfl (by kernel_rfl) rfl rfl rfl rfl (fun x => r_fieldAddr hF rfl rfl Try.runUnderlying34 rfl Try.sizeOf25 rfl) ?_; clear hF; clear a; intro a hF
          obtain ⟨t157, hct157, h⟩ := h
          refine GL.read (v := t157.v) (i := 7) hF (fun x => World.cell? x (p3.add 35) = some (t157.v)) hS rfl rfl (by kernel_rfl) rfl rfl rfl rfl hct157 (fun x hx => r_load hF rfl rfl Try.isAgg25 hx) ?_; clear hF; clear a; intro a hF
          refine GL.val (v := .pointer (some (p3.add 53))) (i := 9) hF hS rfl rfl (by kernel_rfl) rfl rfl rfl rfl (fun x => r_fieldAddr hF rfl rfl Try.runUnderlying34 rfl Try.sizeOf4 rfl) ?_; clear hF; clear a; intro a hF
          obtain ⟨t158, hct158, h⟩ := h
          refine GL.read (v := .bool t158) (i := 10) hF (fun x => World.cell? x (p3.add 53) = some (.bool t158)) hS rfl rfl (by kernel_rfl) rfl rfl rfl rfl hct158 (fun x hx => r_load hF rfl rfl Try.isAgg4 hx) ?_; clear hF; clear a; intro a hF
          refine GL.act (i := 5) (pend' := [(10, fun x => World.cell? x (p3.add 53) = some (.bool t158)), (7, fun x => World.cell? x (p3.add 35) = some (t157.v))]) hS (by kernel_rfl) rfl (by kernel_rfl) ?_
          refine op_call hF rfl rfl rfl rfl (r_call (xs := [Slc.nil.v, .string t156]) hF rfl rfl Try.call23) (CallsV.mono h ?_)
          clear h; rintro _ w159 ⟨r160, rfl, h⟩
          obtain ⟨hk161, hk162, h⟩ := h
          refine ⟨⟨hk161, hk162, trivial⟩, ?_⟩; clear hF; clear a; intro a hF
          refine GL.act (i := 8) (pend' := [(10, fun x => World.cell? x (p3.add 53) = some (.bool t158))]) hS (by kernel_rfl) rfl (by kernel_rfl) ?_
          refine op_call hF rfl rfl rfl rfl (r_call (xs := [r160.v, t157.v]) hF rfl rfl Try.call25) (CallsV.mono h ?_)
          clear h; rintro _ w163 ⟨r164, rfl, h⟩
          obtain ⟨hk165, h⟩ := h
          refine ⟨⟨hk165, trivial⟩, ?_⟩; clear hF; clear a; intro a hF
          refine GL.act (i := 11) (pend' := []) hS (by kernel_rfl) rfl (by kernel_rfl) ?_
          refine op_call hF rfl rfl rfl rfl (r_call (xs := [r164.v, .bool t158, .bool false]) hF rfl rfl Try.call24) (CallsV.mono h ?_)
          clear h; rintro _ w166 ⟨r167, rfl, h⟩
          refine ⟨trivial, ?_⟩; clear hF; clear a; intro a hF
          refine GL.val (v := r167.v) (i := 12) hF hS rfl rfl (by kernel_rfl) rfl rfl rfl rfl (fun x => r_assign hF rfl rfl) ?_; clear hF; clear a; intro a hF
          refine GL.done (by kernel_rfl) (hK151 _ _ ?_)
          clear hK151 K150
          exact jn12 r167 _ _ (hF.sub rfl) h
        · replace h := hf hc; clear ht hf
          refine seq_region fun K168 hK169 => ?_
          refine RL.val  hF rfl rfl rfl (r_eql hF rfl rfl rfl) ?_; clear hF; clear a; intro a hF
          refine RL.val  hF rfl rfl rfl (r_assign hF rfl rfl) ?_; clear hF; clear a; intro a hF
          refine RL.nil (hK169 _ _ ?_)
          clear hK169 K168
          obtain ⟨ht, hf⟩ := h
          refine cond_ hF rfl (fun hc => ?_) (fun hc => ?_)
          · replace h := ht hc; clear ht hf
            refine end_draw 72 #[0, 0, 2, 7, 0, 16, 63, 127] 8 mo rfl (by kernel_rfl) (by kernel_rfl) fun hS K170 hK171 => ?_
            obtain ⟨w172, hw, h⟩ := h; rw [← hw]; clear hw
            refine GL.val (v := Slc.nil.v) (i := 0) hF hS rfl rfl (by kernel_rfl) rfl rfl rfl rfl (fun x => r_move hF rfl rfl) ?_; clear hF; clear a; intro a hF
            refine GL.val (v := .pointer (some (p3.add 33))) (i := 1) hF hS rfl rfl (by kernel_rfl) rfl rfl rfl rfl (fun x => r_fieldAddr hF rfl rfl Try.runUnderlying34 rfl Try.sizeOf9 rfl) ?_; clear hF; clear a; intro a hF
            obtain ⟨t173, hct173, h⟩ := h
            refine GL.read (v := .string t173) (i := 2) hF (fun x => World.cell? x (p3.add 33) = some (.string t173)) hS rfl rfl (by kernel_rfl) rfl rfl rfl rfl hct173 (fun x hx => r_load hF rfl rfl Try.isAgg9 hx) ?_; clear hF; clear a; intro a hF
            refine GL.val (v := .pointer (some (p3.add 55))) (i := 4) hF hS rfl rfl (by kernel_rfl) rfl rfl rfl rfl (fun x => r_fieldAddr hF rfl rfl Try.runUnderlying34 rfl Try.sizeOf22 rfl) ?_; clear hF; clear a; intro a hF
            refine GL.val (v := (Slc.sub ⟨some (p3.add 55), 16, 16⟩ 1 0 16 16).v) (i := 5) hF hS rfl rfl (by kernel_rfl) rfl rfl rfl rfl (fun x => r_slice (lo' := none) (hi' := none) (mx' := none) hF rfl rfl rfl rfl rfl (arr_at Try.runUnderlying22 Try.sizeOf5 (bounds00 ))) ?_; clear hF; clear a; intro a hF
            refine GL.act (i := 3) (pend' := []) hS (by kernel_rfl) rfl (by kernel_rfl) ?_
            refine op_call hF rfl rfl rfl rfl (r_call (xs := [Slc.nil.v, .string t173]) hF rfl rfl Try.call23) (CallsV.mono h ?_)
            clear h; rintro _ w174 ⟨r175, rfl, h⟩
            refine ⟨trivial, ?_⟩; clear hF; clear a; intro a hF
            refine GL.act (i := 6) (pend' := []) hS (by kernel_rfl) rfl (by kernel_rfl) ?_
            obtain ⟨t177, w176, hc_, h⟩ := h
            refine op_val  hF rfl rfl rfl rfl (r_append (xs := [r175.v, (Slc.sub ⟨some (p3.add 55), 16, 16⟩ 1 0 16 16).v]) hF rfl rfl hc_) trivial ?_; clear hF; clear a; intro a hF
            refine GL.val (v := t177.v) (i := 7) hF hS rfl rfl (by kernel_rfl) rfl rfl rfl rfl (fun x => r_assign hF rfl rfl) ?_; clear hF; clear a; intro a hF
            refine GL.done (by kernel_rfl) (hK171 _ _ ?_)
            clear hK171 K170
            exact jn12 t177 _ _ (hF.sub rfl) h
          · replace h := hf hc; clear ht hf
            refine seq_k fun K178 hK179 => ?_
            obtain ⟨J, hJ, h⟩ := jn_open h
            have jn183 : ∀ (v180 : Bool) (w181 : World) a, Fr 133 a [(1, .pointer (some p3)), (3, Slc.nil.v), (125, .bool v180)] → J v180 w181 → K178 a w181 := by
              intro v180 w181 a hF h
              replace h := hJ _ _ h
              clear hJ
              refine hK179 _ _ ?_
              obtain ⟨ht, hf⟩ := h
              refine cond_ hF rfl (fun hc => ?_) (fun hc => ?_)
              · replace h := ht hc; clear ht hf
                refine end_region fun K184 hK185 => ?_
                refine RL.val  hF rfl rfl rfl (r_move hF rfl rfl) ?_; clear hF; clear a; intro a hF
                refine RL.val  hF rfl rfl rfl (r_fieldAddr hF rfl rfl Try.runUnderlying34 rfl Try.sizeOf22 rfl) ?_; clear hF; clear a; intro a hF
                refine RL.val  hF rfl rfl rfl (r_slice (lo' := none) (hi' := none) (mx' := none) hF rfl rfl rfl rfl rfl (arr_at Try.runUnderlying22 Try.sizeOf5 (bounds00 ))) ?_; clear hF; clear a; intro a hF
                obtain ⟨t187, w186, hc_, h⟩ := h
                refine RL.val  hF rfl rfl rfl (r_append (xs := [Slc.nil.v, (Slc.sub ⟨some (p3.add 55), 16, 16⟩ 1 0 16 16).v]) hF rfl rfl hc_) ?_; clear hF; clear a; intro a hF
                refine RL.val  hF rfl rfl rfl (r_assign hF rfl rfl) ?_; clear hF; clear a; intro a hF
                refine RL.nil (hK185 _ _ ?_)
                clear hK185 K184
                exact jn12 t187 _ _ (hF.sub rfl) h
              · replace h := hf hc; clear ht hf
                refine wp_skip ?_
                exact jn12 Slc.nil _ _ (hF.sub rfl) h
            clear hJ
            refine seq_region fun K188 hK189 => ?_
            refine RL.val  hF rfl rfl rfl (r_eql hF rfl rfl rfl) ?_; clear hF; clear a; intro a hF
            refine RL.val  hF rfl rfl rfl (r_assign hF rfl rfl) ?_; clear hF; clear a; intro a hF
            refine RL.nil (hK189 _ _ ?_)
            clear hK189 K188
            obtain ⟨ht, hf⟩ := h
            refine cond_ hF rfl (fun hc => ?_) (fun hc => ?_)
            · replace h := ht hc; clear ht hf
              refine wp_skip ?_
              exact jn183 (t17 == 15) _ _ (hF.sub rfl) h
            · replace h := hf hc; clear ht hf
              refine end_region fun K190 hK191 => ?_
              refine RL.val  hF rfl rfl rfl (r_eql hF rfl rfl rfl) ?_; clear hF; clear a; intro a hF
              refine RL.val  hF rfl rfl rfl (r_assign hF rfl rfl) ?_; clear hF; clear a; intro a hF
              refine RL.nil (hK191 _ _ ?_)
              clear hK191 K190
              exact jn183 (t17 == 20) _ _ (hF.sub rfl) h

set_option maxRecDepth 20000 in
theorem br6 {a0 : Array Value} {w : World} {K : Slc → Int → World → Prop} (h : sh6 a0 w K) : C6 a0 w K := by
  unfold sh6 at h
  refine enter (n := 31) (l := [(0, .agg a0)]) 30 Try.func6 rfl _ rfl rfl rfl fun a hF => ?_
  refine seq_region fun K1 hK2 => ?_
  obtain ⟨p3, w4, hp_, hw_, h⟩ := h
  refine RL.val (v := .pointer (some p3)) (w' := w4) hF rfl rfl rfl (by rw [hp_, hw_]; exact r_box hF rfl rfl rfl) ?_; clear hF; clear a; intro a hF
  refine RL.val  hF rfl rfl rfl (r_assign hF rfl rfl) ?_; clear hF; clear a; intro a hF
  refine RL.val  hF rfl rfl rfl (r_assign hF rfl rfl) ?_; clear hF; clear a; intro a hF
  refine RL.nil (hK2 _ _ ?_)
  clear hK2 K1
  refine seq_k fun K5 hK6 => ?_
  obtain ⟨J, hJ, h⟩ := jn_open h
  have jn10 : ∀ (v7 : Unit) (w8 : World) a, Fr 31 a [(1, .pointer (some p3))] → J v7 w8 → K5 a w8 := by
    intro v7 w8 a hF h
    replace h := hJ _ _ h
    clear hJ
    refine hK6 _ _ ?_
    refine seq_k fun K11 hK12 => ?_
    obtain ⟨J, hJ, h⟩ := jn_open h
    have jn16 : ∀ (v13 : Unit) (w14 : World) a, Fr 31 a [(1, .pointer (some p3))] → J v13 w14 → K11 a w14 := by
      intro v13 w14 a hF h
      replace h := hJ _ _ h
      clear hJ
      refine hK12 _ _ ?_
      refine seq_region fun K17 hK18 => ?_
      obtain ⟨t19, hct19, h⟩ := h
      refine RL.val  hF rfl rfl rfl (r_loadA hF rfl rfl Try.isAgg34 Try.sizeOf34 hct19) ?_; clear hF; clear a; intro a hF
      refine RL.call hF rfl rfl rfl (r_call (xs := [.agg t19]) hF rfl rfl Try.call17) (CallsV.mono h ?_)
      clear h; rintro _ w20 ⟨r21, rfl, h⟩; clear hF; clear a; intro a hF
      refine RL.val  hF rfl rfl rfl (r_assign hF rfl rfl) ?_; clear hF; clear a; intro a hF
      refine RL.nil (hK18 _ _ ?_)
      clear hK18 K17
      refine seq_region fun K22 hK23 => ?_
      refine RL.val  hF rfl rfl rfl (r_move hF rfl rfl) ?_; clear hF; clear a; intro a hF
      refine RL.val  hF rfl rfl rfl (r_len_slice hF rfl rfl Try.runUnderlying25) ?_; clear hF; clear a; intro a hF
      refine RL.val  hF rfl rfl rfl (r_assign hF rfl rfl) ?_; clear hF; clear a; intro a hF
      refine RL.nil (hK23 _ _ ?_)
      clear hK23 K22
      refine seq_region fun K24 hK25 => ?_
      refine RL.val  hF rfl rfl rfl (r_fieldAddr0 hF rfl rfl Try.runUnderlying34 rfl Try.sizeOf3 rfl) ?_; clear hF; clear a; intro a hF
      obtain ⟨t26, hct26, h⟩ := h
      refine RL.val  hF rfl rfl rfl (r_load hF rfl rfl Try.isAgg3 hct26) ?_; clear hF; clear a; intro a hF
      refine RL.val  hF rfl rfl rfl (r_convInt hF rfl rfl Try.runUnderlying3 Try.runUnderlying5) ?_; clear hF; clear a; intro a hF
      refine RL.val  hF rfl rfl rfl (r_move hF rfl rfl) ?_; clear hF; clear a; intro a hF
      refine RL.val (v := .int .i64 (shrZ .i64 (r21.len : Int) 16)) (w' := w20) hF rfl rfl rfl (r_shr hF rfl rfl rfl (by decide)) ?_; clear hF; clear a; intro a hF
      refine RL.val  hF rfl rfl rfl (r_convInt hF rfl rfl Try.runUnderlying3 Try.runUnderlying5) ?_; clear hF; clear a; intro a hF
      refine RL.val  hF rfl rfl rfl (r_move hF rfl rfl) ?_; clear hF; clear a; intro a hF
      refine RL.val (v := .int .i64 (shrZ .i64 (r21.len : Int) 8)) (w' := w20) hF rfl rfl rfl (r_shr hF rfl rfl rfl (by decide)) ?_; clear hF; clear a; intro a hF
      refine RL.val  hF rfl rfl rfl (r_convInt hF rfl rfl Try.runUnderlying3 Try.runUnderlying5) ?_; clear hF; clear a; intro a hF
      refine RL.val  hF rfl rfl rfl (r_move hF rfl rfl) ?_; clear hF; clear a; intro a hF
      refine RL.val  hF rfl rfl rfl (r_convInt hF rfl rfl Try.runUnderlying3 Try.runUnderlying5) ?_; clear hF; clear a; intro a hF
      obtain ⟨p28, w27, hp_, hw_, h⟩ := h
      refine RL.val (v := (Slc.mk (some p28) 4 4).v) (w' := w27) hF rfl rfl rfl (by rw [hp_, hw_]; exact r_buildSlice (xs := [(0, .int .u8 (IntKind.u8.wrap t26)), (1, .int .u8 (IntKind.u8.wrap (shrZ .i64 (r21.len : Int) 16))), (2, .int .u8 (IntKind.u8.wrap (shrZ .i64 (r21.len : Int) 8))), (3, .int .u8 (IntKind.u8.wrap (r21.len : Int)))]) hF rfl rfl (by kernel_rfl)) ?_; clear hF; clear a; intro a hF
      refine RL.val  hF rfl rfl rfl (r_move hF rfl rfl) ?_; clear hF; clear a; intro a hF
      obtain ⟨t30, w29, hc_, h⟩ := h
      refine RL.val  hF rfl rfl rfl (r_append (xs := [(Slc.mk (some p28) 4 4).v, r21.v]) hF rfl rfl hc_) ?_; clear hF; clear a; intro a hF
      refine RL.val  hF rfl rfl rfl (r_assign hF rfl rfl) ?_; clear hF; clear a; intro a hF
      refine RL.val  hF rfl rfl rfl (r_assign hF rfl rfl) ?_; clear hF; clear a; intro a hF
      refine RL.nil (hK25 _ _ ?_)
      clear hK25 K24
      refine wp_ret ?_
      exact ret_of hF (res2 hF rfl rfl rfl) ⟨_, _, rfl, h⟩
    clear hJ
    refine seq_region fun K31 hK32 => ?_
    obtain ⟨t33, hct33, h⟩ := h
    refine RL.val  hF rfl rfl rfl (r_loadA hF rfl rfl Try.isAgg34 Try.sizeOf34 hct33) ?_; clear hF; clear a; intro a hF
    refine RL.call hF rfl rfl rfl (r_call (xs := [.agg t33]) hF rfl rfl Try.call16) (CallsV.mono h ?_)
    clear h; rintro _ w34 ⟨r35, rfl, h⟩; clear hF; clear a; intro a hF
    refine RL.val  hF rfl rfl rfl (r_not hF rfl rfl) ?_; clear hF; clear a; intro a hF
    refine RL.nil (hK32 _ _ ?_)
    clear hK32 K31
    obtain ⟨ht, hf⟩ := h
    refine cond_ hF rfl (fun hc => ?_) (fun hc => ?_)
    · replace h := ht hc; clear ht hf
      refine seq_region fun K36 hK37 => ?_
      refine RL.val  hF rfl rfl rfl (r_assign hF rfl rfl) ?_; clear hF; clear a; intro a hF
      refine RL.val  hF rfl rfl rfl (r_assign hF rfl rfl) ?_; clear hF; clear a; intro a hF
      refine RL.nil (hK37 _ _ ?_)
      clear hK37 K36
      refine wp_ret ?_
      exact ret_of hF (res2 hF rfl rfl rfl) ⟨_, _, rfl, h⟩
    · replace h := hf hc; clear ht hf
      refine wp_skip ?_
      exact jn16 () _ _ (hF.sub rfl) h
  clear hJ
  refine seq_region fun K38 hK39 => ?_
  refine RL.val  hF rfl rfl rfl (r_fieldAddr0 hF rfl rfl Try.runUnderlying34 rfl Try.sizeOf3 rfl) ?_; clear hF; clear a; intro a hF
  obtain ⟨t40, hct40, h⟩ := h
  refine RL.val  hF rfl rfl rfl (r_load hF rfl rfl Try.isAgg3 hct40) ?_; clear hF; clear a; intro a hF
  refine RL.call hF rfl rfl rfl (r_call (xs := [.int .i64 t40]) hF rfl rfl Try.call15) (CallsV.mono h ?_)
  clear h; rintro _ w41 ⟨r42, rfl, h⟩; clear hF; clear a; intro a hF
  refine RL.val  hF rfl rfl rfl (r_not hF rfl rfl) ?_; clear hF; clear a; intro a hF
  refine RL.nil (hK39 _ _ ?_)
  clear hK39 K38
  obtain ⟨ht, hf⟩ := h
  refine cond_ hF rfl (fun hc => ?_) (fun hc => ?_)
  · replace h := ht hc; clear ht hf
    refine seq_region fun K43 hK44 => ?_
    refine RL.val  hF rfl rfl rfl (r_assign hF rfl rfl) ?_; clear hF; clear a; intro a hF
    refine RL.val  hF rfl rfl rfl (r_assign hF rfl rfl) ?_; clear hF; clear a; intro a hF
    refine RL.nil (hK44 _ _ ?_)
    clear hK44 K43
    refine wp_ret ?_
    exact ret_of hF (res2 hF rfl rfl rfl) ⟨_, _, rfl, h⟩
  · replace h := hf hc; clear ht hf
    refine wp_skip ?_
    exact jn10 () _ _ (hF.sub rfl) h

set_option maxRecDepth 20000 in
theorem br8 {a0 : Array Value} {w : World} {K : Slc → Int → World → Prop} (h : sh8 a0 w K) : C8 a0 w K := by
  unfold sh8 at h
  refine enter (n := 28) (l := [(0, .agg a0)]) 27 Try.func8 rfl _ rfl rfl rfl fun a hF => ?_
  refine seq_region fun K1 hK2 => ?_
  obtain ⟨p3, w4, hp_, hw_, h⟩ := h
  refine RL.val (v := .pointer (some p3)) (w' := w4) hF rfl rfl rfl (by rw [hp_, hw_]; exact r_box hF rfl rfl rfl) ?_; clear hF; clear a; intro a hF
  refine RL.val  hF rfl rfl rfl (r_assign hF rfl rfl) ?_; clear hF; clear a; intro a hF
  refine RL.val  hF rfl rfl rfl (r_assign hF rfl rfl) ?_; clear hF; clear a; intro a hF
  refine RL.nil (hK2 _ _ ?_)
  clear hK2 K1
  refine seq_k fun K5 hK6 => ?_
  obtain ⟨J, hJ, h⟩ := jn_open h
  have jn10 : ∀ (v7 : Unit) (w8 : World) a, Fr 28 a [(1, .pointer (some p3))] → J v7 w8 → K5 a w8 := by
    intro v7 w8 a hF h
    replace h := hJ _ _ h
    clear hJ
    refine hK6 _ _ ?_
    refine seq_region fun K11 hK12 => ?_
    obtain ⟨t13, hct13, h⟩ := h
    refine RL.val  hF rfl rfl rfl (r_loadA hF rfl rfl Try.isAgg34 Try.sizeOf34 hct13) ?_; clear hF; clear a; intro a hF
    refine RL.call hF rfl rfl rfl (r_call (xs := [.agg t13]) hF rfl rfl Try.call6) (CallsV.mono h ?_)
    clear h; rintro _ w14 ⟨r15, r16, rfl, h⟩; clear hF; clear a; intro a hF
    refine RL.val  hF rfl rfl rfl (r_move hF rfl rfl) ?_; clear hF; clear a; intro a hF
    refine RL.val  hF rfl rfl rfl (r_extract hF rfl rfl rfl) ?_; clear hF; clear a; intro a hF
    refine RL.val  hF rfl rfl rfl (r_extract hF rfl rfl rfl) ?_; clear hF; clear a; intro a hF
    refine RL.val  hF rfl rfl rfl (r_assign hF rfl rfl) ?_; clear hF; clear a; intro a hF
    refine RL.val  hF rfl rfl rfl (r_assign hF rfl rfl) ?_; clear hF; clear a; intro a hF
    refine RL.nil (hK12 _ _ ?_)
    clear hK12 K11
    refine seq_k fun K17 hK18 => ?_
    obtain ⟨J, hJ, h⟩ := jn_open h
    have jn22 : ∀ (v19 : Unit) (w20 : World) a, Fr 28 a [(4, r15.v)] → J v19 w20 → K17 a w20 := by
      intro v19 w20 a hF h
      replace h := hJ _ _ h
      clear hJ
      refine hK18 _ _ ?_
      refine seq_region fun K23 hK24 => ?_
      refine RL.val  hF rfl rfl rfl (r_move hF rfl rfl) ?_; clear hF; clear a; intro a hF
      refine RL.val  hF rfl rfl rfl (r_move hF rfl rfl) ?_; clear hF; clear a; intro a hF
      refine RL.val  hF rfl rfl rfl (r_len_slice hF rfl rfl Try.runUnderlying25) ?_; clear hF; clear a; intro a hF
      refine RL.val  hF rfl rfl rfl (r_sub hF rfl rfl rfl) ?_; clear hF; clear a; intro a hF
      obtain ⟨hs25, hs26, h⟩ := h
      refine RL.val  hF rfl rfl rfl (r_slice (lo' := none) (hi' := some (.int .i64 (IntKind.i64.wrap ((r15.len : Int) - 16)))) (mx' := none) hF rfl rfl rfl rfl rfl (slc_at Try.runUnderlying25 Try.sizeOf5 (bounds01 hs25 hs26))) ?_; clear hF; clear a; intro a hF
      refine RL.val  hF rfl rfl rfl (r_assign hF rfl rfl) ?_; clear hF; clear a; intro a hF
      refine RL.val  hF rfl rfl rfl (r_assign hF rfl rfl) ?_; clear hF; clear a; intro a hF
      refine RL.nil (hK24 _ _ ?_)
      clear hK24 K23
      refine wp_ret ?_
      exact ret_of hF (res2 hF rfl rfl rfl) ⟨_, _, rfl, h⟩
    clear hJ
    refine seq_region fun K27 hK28 => ?_
    refine RL.val  hF rfl rfl rfl (r_move hF rfl rfl) ?_; clear hF; clear a; intro a hF
    refine RL.val  hF rfl rfl rfl (r_neq hF rfl rfl rfl) ?_; clear hF; clear a; intro a hF
    refine RL.nil (hK28 _ _ ?_)
    clear hK28 K27
    obtain ⟨ht, hf⟩ := h
    refine cond_ hF rfl (fun hc => ?_) (fun hc => ?_)
    · replace h := ht hc; clear ht hf
      refine seq_region fun K29 hK30 => ?_
      refine RL.val  hF rfl rfl rfl (r_move hF rfl rfl) ?_; clear hF; clear a; intro a hF
      refine RL.val  hF rfl rfl rfl (r_assign hF rfl rfl) ?_; clear hF; clear a; intro a hF
      refine RL.val  hF rfl rfl rfl (r_assign hF rfl rfl) ?_; clear hF; clear a; intro a hF
      refine RL.nil (hK30 _ _ ?_)
      clear hK30 K29
      refine wp_ret ?_
      exact ret_of hF (res2 hF rfl rfl rfl) ⟨_, _, rfl, h⟩
    · replace h := hf hc; clear ht hf
      refine wp_skip ?_
      exact jn22 () _ _ (hF.sub rfl) h
  clear hJ
  refine seq_region fun K31 hK32 => ?_
  obtain ⟨J35, hJ, h⟩ := jn_open h
  have jn36 : ∀ (v33 : Bool) (w34 : World) a, Fr 28 a [(1, .pointer (some p3)), (14, .bool v33)] → J35 v33 w34 → K31 a w34 := by
    clear hF
    intro v33 w34 a hF h; replace h := hJ _ _ h; refine hK32 _ _ ?_; clear hJ hK32 K31
    obtain ⟨ht, hf⟩ := h
    refine cond_ hF rfl (fun hc => ?_) (fun hc => ?_)
    · replace h := ht hc; clear ht hf
      refine seq_region fun K37 hK38 => ?_
      refine RL.val  hF rfl rfl rfl (r_assign hF rfl rfl) ?_; clear hF; clear a; intro a hF
      refine RL.val  hF rfl rfl rfl (r_assign hF rfl rfl) ?_; clear hF; clear a; intro a hF
      refine RL.nil (hK38 _ _ ?_)
      clear hK38 K37
      refine wp_ret ?_
      exact ret_of hF (res2 hF rfl rfl rfl) ⟨_, _, rfl, h⟩
    · replace h := hf hc; clear ht hf
      refine wp_skip ?_
      exact jn10 () _ _ (hF.sub rfl) h
  clear hJ hK32
  refine RL.val  hF rfl rfl rfl (r_fieldAddr0 hF rfl rfl Try.runUnderlying34 rfl Try.sizeOf3 rfl) ?_; clear hF; clear a; intro a hF
  obtain ⟨t39, hct39, h⟩ := h
  refine RL.val  hF rfl rfl rfl (r_load hF rfl rfl Try.isAgg3 hct39) ?_; clear hF; clear a; intro a hF
  refine RL.val  hF rfl rfl rfl (r_neq hF rfl rfl rfl) ?_; clear hF; clear a; intro a hF
  refine RL.val  hF rfl rfl rfl (r_move hF rfl rfl) ?_; clear hF; clear a; intro a hF
  obtain ⟨ht, hf⟩ := h
  rcases bool_cases (t39 != 1) with hg40 | hg40
  · replace h := ht hg40; clear ht hf
    refine RL.skip hF rfl rfl (lkb rfl hg40) (.inl rfl) rfl rfl ?_; clear hF; clear a; intro a hF
    refine RL.skip hF rfl rfl (lkb rfl hg40) (.inl rfl) rfl rfl ?_; clear hF; clear a; intro a hF
    refine RL.skip hF rfl rfl (lkb rfl hg40) (.inl rfl) rfl rfl ?_; clear hF; clear a; intro a hF
    refine RL.skip hF rfl rfl (lkb rfl hg40) (.inl rfl) rfl rfl ?_; clear hF; clear a; intro a hF
    refine RL.val (v := .bool true) (w' := w4) hF rfl rfl rfl (r_pick hF rfl rfl rfl rfl (fun _ => rfl) (fun e => absurd (hg40.symm.trans e) (by decide))) ?_; clear hF; clear a; intro a hF
    refine RL.nil ?_
    exact jn36 true _ _ (hF.sub rfl) h
  · replace h := hf hg40; clear ht hf
    refine RL.gval  hF rfl rfl (lkb rfl hg40) rfl rfl (r_fieldAddr hF rfl rfl Try.runUnderlying34 rfl Try.sizeOf25 rfl) ?_; clear hF; clear a; intro a hF
    obtain ⟨t41, hct41, h⟩ := h
    refine RL.gval  hF rfl rfl (lkb rfl hg40) rfl rfl (r_load hF rfl rfl Try.isAgg25 hct41) ?_; clear hF; clear a; intro a hF
    refine RL.gval  hF rfl rfl (lkb rfl hg40) rfl rfl (r_len_slice hF rfl rfl Try.runUnderlying25) ?_; clear hF; clear a; intro a hF
    refine RL.gval  hF rfl rfl (lkb rfl hg40) rfl rfl (r_eql hF rfl rfl rfl) ?_; clear hF; clear a; intro a hF
    refine RL.val (v := .bool ((t41.len : Int) == 0)) (w' := w4) hF rfl rfl rfl (r_pick hF rfl rfl rfl rfl (fun e => absurd (hg40.symm.trans e) (by decide)) (fun _ => rfl)) ?_; clear hF; clear a; intro a hF
    refine RL.nil ?_
    exact jn36 ((t41.len : Int) == 0) _ _ (hF.sub rfl) h

set_option maxRecDepth 20000 in
theorem br9 {w : World} {K : Bool → World → Prop} (h : sh9 w K) : C9 w K := by
  unfold sh9 at h
  refine enter (n := 1) (l := []) 1 Try.func9 rfl _ rfl rfl rfl fun a hF => ?_
  refine seq_region fun K1 hK2 => ?_
  refine RL.val  hF rfl rfl rfl (r_assign hF rfl rfl) ?_; clear hF; clear a; intro a hF
  refine RL.nil (hK2 _ _ ?_)
  clear hK2 K1
  refine seq_region fun K3 hK4 => ?_
  refine RL.val  hF rfl rfl rfl (r_assign hF rfl rfl) ?_; clear hF; clear a; intro a hF
  refine RL.nil (hK4 _ _ ?_)
  clear hK4 K3
  refine wp_ret ?_
  exact ret_of hF (res1 hF rfl rfl) ⟨_, rfl, h⟩

set_option maxRecDepth 20000 in
theorem br3 {a0 : Array Value} {w : World} {K : Bool → World → Prop} (h : sh3 a0 w K) : C3 a0 w K := by
  unfold sh3 at h
  refine enter (n := 85) (l := [(0, .agg a0)]) 84 Try.func3 rfl _ rfl rfl rfl fun a hF => ?_
  refine seq_region fun K1 hK2 => ?_
  obtain ⟨p3, w4, hp_, hw_, h⟩ := h
  refine RL.val (v := .pointer (some p3)) (w' := w4) hF rfl rfl rfl (by rw [hp_, hw_]; exact r_box hF rfl rfl rfl) ?_; clear hF; clear a; intro a hF
  refine RL.val  hF rfl rfl rfl (r_assign hF rfl rfl) ?_; clear hF; clear a; intro a hF
  refine RL.nil (hK2 _ _ ?_)
  clear hK2 K1
  refine seq_region fun K5 hK6 => ?_
  obtain ⟨t7, hct7, h⟩ := h
  refine RL.val  hF rfl rfl rfl (r_loadA hF rfl rfl Try.isAgg27 Try.sizeOf27 hct7) ?_; clear hF; clear a; intro a hF
  refine RL.call hF rfl rfl rfl (r_call (xs := [.agg t7]) hF rfl rfl Try.call4) (CallsV.mono h ?_)
  clear h; rintro _ w8 ⟨r9, r10, rfl, h⟩; clear hF; clear a; intro a hF
  refine RL.val  hF rfl rfl rfl (r_move hF rfl rfl) ?_; clear hF; clear a; intro a hF
  refine RL.val  hF rfl rfl rfl (r_extract hF rfl rfl rfl) ?_; clear hF; clear a; intro a hF
  refine RL.val  hF rfl rfl rfl (r_extract hF rfl rfl rfl) ?_; clear hF; clear a; intro a hF
  refine RL.val  hF rfl rfl rfl (r_assign hF rfl rfl) ?_; clear hF; clear a; intro a hF
  refine RL.val  hF rfl rfl rfl (r_assign hF rfl rfl) ?_; clear hF; clear a; intro a hF
  refine RL.nil (hK6 _ _ ?_)
  clear hK6 K5
  refine seq_region fun K11 hK12 => ?_
  obtain ⟨t13, hct13, h⟩ := h
  refine RL.val  hF rfl rfl rfl (r_loadA hF rfl rfl Try.isAgg27 Try.sizeOf27 hct13) ?_; clear hF; clear a; intro a hF
  refine RL.call hF rfl rfl rfl (r_call (xs := [.agg t13]) hF rfl rfl Try.call5) (CallsV.mono h ?_)
  clear h; rintro _ w14 ⟨r15, r16, rfl, h⟩; clear hF; clear a; intro a hF
  refine RL.val  hF rfl rfl rfl (r_move hF rfl rfl) ?_; clear hF; clear a; intro a hF
  refine RL.val  hF rfl rfl rfl (r_extract hF rfl rfl rfl) ?_; clear hF; clear a; intro a hF
  refine RL.val  hF rfl rfl rfl (r_extract hF rfl rfl rfl) ?_; clear hF; clear a; intro a hF
  refine RL.val  hF rfl rfl rfl (r_assign hF rfl rfl) ?_; clear hF; clear a; intro a hF
  refine RL.val  hF rfl rfl rfl (r_assign hF rfl rfl) ?_; clear hF; clear a; intro a hF
  refine RL.nil (hK12 _ _ ?_)
  clear hK12 K11
  refine seq_region fun K17 hK18 => ?_
  obtain ⟨t19, hct19, h⟩ := h
  refine RL.val  hF rfl rfl rfl (r_loadA hF rfl rfl Try.isAgg27 Try.sizeOf27 hct19) ?_; clear hF; clear a; intro a hF
  refine RL.call hF rfl rfl rfl (r_call (xs := [.agg t19]) hF rfl rfl Try.call7) (CallsV.mono h ?_)
  clear h; rintro _ w20 ⟨r21, rfl, h⟩; clear hF; clear a; intro a hF
  refine RL.call hF rfl rfl rfl (r_call (xs := [.agg r21]) hF rfl rfl Try.call6) (CallsV.mono h ?_)
  clear h; rintro _ w22 ⟨r23, r24, rfl, h⟩; clear hF; clear a; intro a hF
  refine RL.val  hF rfl rfl rfl (r_move hF rfl rfl) ?_; clear hF; clear a; intro a hF
  refine RL.val  hF rfl rfl rfl (r_extract hF rfl rfl rfl) ?_; clear hF; clear a; intro a hF
  refine RL.val  hF rfl rfl rfl (r_extract hF rfl rfl rfl) ?_; clear hF; clear a; intro a hF
  refine RL.val  hF rfl rfl rfl (r_assign hF rfl rfl) ?_; clear hF; clear a; intro a hF
  refine RL.val  hF rfl rfl rfl (r_assign hF rfl rfl) ?_; clear hF; clear a; intro a hF
  refine RL.nil (hK18 _ _ ?_)
  clear hK18 K17
  refine seq_region fun K25 hK26 => ?_
  obtain ⟨t27, hct27, h⟩ := h
  refine RL.val  hF rfl rfl rfl (r_loadA hF rfl rfl Try.isAgg27 Try.sizeOf27 hct27) ?_; clear hF; clear a; intro a hF
  refine RL.call hF rfl rfl rfl (r_call (xs := [.agg t27]) hF rfl rfl Try.call7) (CallsV.mono h ?_)
  clear h; rintro _ w28 ⟨r29, rfl, h⟩; clear hF; clear a; intro a hF
  refine RL.call hF rfl rfl rfl (r_call (xs := [.agg r29]) hF rfl rfl Try.call8) (CallsV.mono h ?_)
  clear h; rintro _ w30 ⟨r31, r32, rfl, h⟩; clear hF; clear a; intro a hF
  refine RL.val  hF rfl rfl rfl (r_move hF rfl rfl) ?_; clear hF; clear a; intro a hF
  refine RL.val  hF rfl rfl rfl (r_extract hF rfl rfl rfl) ?_; clear hF; clear a; intro a hF
  refine RL.val  hF rfl rfl rfl (r_extract hF rfl rfl rfl) ?_; clear hF; clear a; intro a hF
  refine RL.val  hF rfl rfl rfl (r_assign hF rfl rfl) ?_; clear hF; clear a; intro a hF
  refine RL.val  hF rfl rfl rfl (r_assign hF rfl rfl) ?_; clear hF; clear a; intro a hF
  refine RL.nil (hK26 _ _ ?_)
  clear hK26 K25
  refine seq_k fun K33 hK34 => ?_
  obtain ⟨J, hJ, h⟩ := jn_open h
  have jn38 : ∀ (v35 : Unit) (w36 : World) a, Fr 85 a [(1, .pointer (some p3)), (3, r9.v), (7, r23.v)] → J v35 w36 → K33 a w36 := by
    intro v35 w36 a hF h
    replace h := hJ _ _ h
    clear hJ
    refine hK34 _ _ ?_
    refine seq_k fun K39 hK40 => ?_
    obtain ⟨J, hJ, h⟩ := jn_open h
    have jn44 : ∀ (v41 : Unit) (w42 : World) a, Fr 85 a [(1, .pointer (some p3)), (7, r23.v)] → J v41 w42 → K39 a w42 := by
      intro v41 w42 a hF h
      replace h := hJ _ _ h
      clear hJ
      refine hK40 _ _ ?_
      refine seq_region fun K45 hK46 => ?_
      obtain ⟨t47, hct47, h⟩ := h
      refine RL.val  hF rfl rfl rfl (r_loadA hF rfl rfl Try.isAgg27 Try.sizeOf27 hct47) ?_; clear hF; clear a; intro a hF
      refine RL.call hF rfl rfl rfl (r_call (xs := [.agg t47]) hF rfl rfl Try.call4) (CallsV.mono h ?_)
      clear h; rintro _ w48 ⟨r49, r50, rfl, h⟩; clear hF; clear a; intro a hF
      refine RL.val  hF rfl rfl rfl (r_move hF rfl rfl) ?_; clear hF; clear a; intro a hF
      refine RL.val  hF rfl rfl rfl (r_extract hF rfl rfl rfl) ?_; clear hF; clear a; intro a hF
      refine RL.val  hF rfl rfl rfl (r_extract hF rfl rfl rfl) ?_; clear hF; clear a; intro a hF
      refine RL.val  hF rfl rfl rfl (r_assign hF rfl rfl) ?_; clear hF; clear a; intro a hF
      refine RL.val  hF rfl rfl rfl (r_assign hF rfl rfl) ?_; clear hF; clear a; intro a hF
      refine RL.nil (hK46 _ _ ?_)
      clear hK46 K45
      refine seq_region fun K51 hK52 => ?_
      obtain ⟨J55, hJ, h⟩ := jn_open h
      have jn56 : ∀ (v53 : Bool) (w54 : World) a, Fr 85 a [(2, .bool v53)] → J55 v53 w54 → K51 a w54 := by
        clear hF
        intro v53 w54 a hF h; replace h := hJ _ _ h; refine hK52 _ _ ?_; clear hJ hK52 K51
        refine wp_ret ?_
        exact ret_of hF (res1 hF rfl rfl) ⟨_, rfl, h⟩
      clear hJ hK52
      refine RL.val  hF rfl rfl rfl (r_move hF rfl rfl) ?_; clear hF; clear a; intro a hF
      obtain ⟨t57, hct57, h⟩ := h
      refine RL.val  hF rfl rfl rfl (r_conv hF rfl rfl hct57) ?_; clear hF; clear a; intro a hF
      refine RL.val  hF rfl rfl rfl (r_move hF rfl rfl) ?_; clear hF; clear a; intro a hF
      obtain ⟨t58, hct58, h⟩ := h
      refine RL.val  hF rfl rfl rfl (r_conv hF rfl rfl hct58) ?_; clear hF; clear a; intro a hF
      refine RL.val  hF rfl rfl rfl (r_streq hF rfl rfl rfl) ?_; clear hF; clear a; intro a hF
      refine RL.val  hF rfl rfl rfl (r_move hF rfl rfl) ?_; clear hF; clear a; intro a hF
      obtain ⟨ht, hf⟩ := h
      rcases bool_cases (t57.toList == t58.toList) with hg59 | hg59
      · replace h := ht hg59; clear ht hf
        refine RL.gcall hF rfl rfl (lkb rfl hg59) rfl rfl (r_call (xs := []) hF rfl rfl Try.call9) (CallsV.mono h ?_)
        clear h; rintro _ w60 ⟨r61, rfl, h⟩; clear hF; clear a; intro a hF
        refine RL.val (v := .bool r61) (w' := w60) hF rfl rfl rfl (r_pick hF rfl rfl rfl rfl (fun _ => rfl) (fun e => absurd (hg59.symm.trans e) (by decide))) ?_; clear hF; clear a; intro a hF
        refine RL.val  hF rfl rfl rfl (r_assign hF rfl rfl) ?_; clear hF; clear a; intro a hF
        refine RL.nil ?_
        exact jn56 r61 _ _ (hF.sub rfl) h
      · replace h := hf hg59; clear ht hf
        refine RL.skip hF rfl rfl (lkb rfl hg59) (.inl rfl) rfl rfl ?_; clear hF; clear a; intro a hF
        refine RL.val (v := .bool false) (w' := w48) hF rfl rfl rfl (r_pick hF rfl rfl rfl rfl (fun e => absurd (hg59.symm.trans e) (by decide)) (fun _ => rfl)) ?_; clear hF; clear a; intro a hF
        refine RL.val  hF rfl rfl rfl (r_assign hF rfl rfl) ?_; clear hF; clear a; intro a hF
        refine RL.nil ?_
        exact jn56 false _ _ (hF.sub rfl) h
    clear hJ
    refine seq_region fun K62 hK63 => ?_
    refine RL.val  hF rfl rfl rfl (r_assign hF rfl rfl) ?_; clear hF; clear a; intro a hF
    refine RL.nil (hK63 _ _ ?_)
    clear hK63 K62
    refine wp_block ?_
    refine loop_ (fun (s64 : Int) => [(1, .pointer (some p3)), (3, r9.v), (7, r23.v), (11, .int .i64 s64)]) (hF.sub rfl) h ?_
    clear hF h
    intro s64 w65 N66 KL hN67 h a hF
    refine seq_k fun K68 hK69 => ?_
    obtain ⟨J, hJ, h⟩ := jn_open h
    have jn73 : ∀ (v70 : Unit) (w71 : World) a, Fr 85 a [(1, .pointer (some p3)), (3, r9.v), (7, r23.v), (11, .int .i64 s64)] → J v70 w71 → K68 a w71 := by
      intro v70 w71 a hF h
      replace h := hJ _ _ h
      clear hJ
      refine hK69 _ _ ?_
      refine seq_k fun K74 hK75 => ?_
      obtain ⟨J, hJ, h⟩ := jn_open h
      have jn79 : ∀ (v76 : Unit) (w77 : World) a, Fr 85 a [(1, .pointer (some p3)), (3, r9.v), (7, r23.v), (11, .int .i64 s64)] → J v76 w77 → K74 a w77 := by
        intro v76 w77 a hF h
        replace h := hJ _ _ h
        clear hJ
        refine hK75 _ _ ?_
        refine end_region fun K80 hK81 => ?_
        refine RL.val  hF rfl rfl rfl (r_move hF rfl rfl) ?_; clear hF; clear a; intro a hF
        refine RL.val  hF rfl rfl rfl (r_add hF rfl rfl rfl) ?_; clear hF; clear a; intro a hF
        refine RL.val  hF rfl rfl rfl (r_assign hF rfl rfl) ?_; clear hF; clear a; intro a hF
        refine RL.nil (hK81 _ _ ?_)
        clear hK81 K80
        exact hN67 (IntKind.i64.wrap (s64 + 1)) _ _ (hF.sub rfl) h
      clear hJ
      refine wp_block ?_
      refine end_region fun K82 hK83 => ?_
      refine RL.val  hF rfl rfl rfl (r_move hF rfl rfl) ?_; clear hF; clear a; intro a hF
      refine RL.val  hF rfl rfl rfl (r_move hF rfl rfl) ?_; clear hF; clear a; intro a hF
      refine RL.val  hF rfl rfl rfl (r_move hF rfl rfl) ?_; clear hF; clear a; intro a hF
      refine RL.val  hF rfl rfl rfl (r_move hF rfl rfl) ?_; clear hF; clear a; intro a hF
      obtain ⟨b85, p84, hb_, h0_, h1_, hp_, h⟩ := h
      refine RL.val (v := .pointer (some p84)) (w' := w71) hF rfl rfl rfl (by rw [hp_]; exact r_indexAddr hF rfl (lks rfl hb_) rfl Try.runUnderlying25 Try.sizeOf5 h0_ h1_) ?_; clear hF; clear a; intro a hF
      obtain ⟨t86, hct86, h⟩ := h
      refine RL.val  hF rfl rfl rfl (r_load hF rfl rfl Try.isAgg5 hct86) ?_; clear hF; clear a; intro a hF
      refine RL.val  hF rfl rfl rfl (r_add hF rfl rfl rfl) ?_; clear hF; clear a; intro a hF
      obtain ⟨b88, p87, hb_, h0_, h1_, hp_, h⟩ := h
      refine RL.val (v := .pointer (some p87)) (w' := w71) hF rfl rfl rfl (by rw [hp_]; exact r_indexAddr hF rfl (lks rfl hb_) rfl Try.runUnderlying25 Try.sizeOf5 h0_ h1_) ?_; clear hF; clear a; intro a hF
      obtain ⟨u_, w89, hs1_, hs2_, hs3_, h⟩ := h
      refine RL.unit (w' := w89) hF rfl rfl (by rw [hs3_]; exact r_store hF rfl rfl rfl rfl Try.sizeOf5 hs1_ hs2_) ?_; clear hF; clear a; intro a hF
      refine RL.nil (hK83 _ _ ?_)
      clear hK83 K82
      exact jn79 () _ _ (hF.sub rfl) h
    clear hJ
    refine seq_region fun K90 hK91 => ?_
    refine RL.val  hF rfl rfl rfl (r_move hF rfl rfl) ?_; clear hF; clear a; intro a hF
    refine RL.val  hF rfl rfl rfl (r_move hF rfl rfl) ?_; clear hF; clear a; intro a hF
    refine RL.val  hF rfl rfl rfl (r_len_slice hF rfl rfl Try.runUnderlying25) ?_; clear hF; clear a; intro a hF
    refine RL.val  hF rfl rfl rfl (r_lss hF rfl rfl rfl) ?_; clear hF; clear a; intro a hF
    refine RL.nil (hK91 _ _ ?_)
    clear hK91 K90
    obtain ⟨ht, hf⟩ := h
    refine cond_ hF rfl (fun hc => ?_) (fun hc => ?_)
    · replace h := ht hc; clear ht hf
      refine wp_skip ?_
      exact jn73 () _ _ (hF.sub rfl) h
    · replace h := hf hc; clear ht hf
      refine wp_exit ?_
      exact jn44 () _ _ (hF.sub rfl) h
  clear hJ
  refine seq_region fun K92 hK93 => ?_
  obtain ⟨J96, hJ, h⟩ := jn_open h
  have jn97 : ∀ (v94 : Bool) (w95 : World) a, Fr 85 a [(1, .pointer (some p3)), (3, r9.v), (7, r23.v), (57, .bool v94)] → J96 v94 w95 → K92 a w95 := by
    clear hF
    intro v94 w95 a hF h; replace h := hJ _ _ h; refine hK93 _ _ ?_; clear hJ hK93 K92
    obtain ⟨ht, hf⟩ := h
    refine cond_ hF rfl (fun hc => ?_) (fun hc => ?_)
    · replace h := ht hc; clear ht hf
      refine seq_region fun K98 hK99 => ?_
      refine RL.val  hF rfl rfl rfl (r_assign hF rfl rfl) ?_; clear hF; clear a; intro a hF
      refine RL.nil (hK99 _ _ ?_)
      clear hK99 K98
      refine wp_ret ?_
      exact ret_of hF (res1 hF rfl rfl) ⟨_, rfl, h⟩
    · replace h := hf hc; clear ht hf
      refine wp_skip ?_
      exact jn38 () _ _ (hF.sub rfl) h
  clear hJ hK93
  refine RL.val  hF rfl rfl rfl (r_move hF rfl rfl) ?_; clear hF; clear a; intro a hF
  obtain ⟨t100, hct100, h⟩ := h
  refine RL.val  hF rfl rfl rfl (r_conv hF rfl rfl hct100) ?_; clear hF; clear a; intro a hF
  refine RL.val  hF rfl rfl rfl (r_move hF rfl rfl) ?_; clear hF; clear a; intro a hF
  obtain ⟨t101, hct101, h⟩ := h
  refine RL.val  hF rfl rfl rfl (r_conv hF rfl rfl hct101) ?_; clear hF; clear a; intro a hF
  refine RL.val  hF rfl rfl rfl (r_strne hF rfl rfl rfl) ?_; clear hF; clear a; intro a hF
  refine RL.val  hF rfl rfl rfl (r_move hF rfl rfl) ?_; clear hF; clear a; intro a hF
  obtain ⟨ht, hf⟩ := h
  rcases bool_cases (!(t100.toList == t101.toList)) with hg102 | hg102
  · replace h := ht hg102; clear ht hf
    refine RL.skip hF rfl rfl (lkb rfl hg102) (.inl rfl) rfl rfl ?_; clear hF; clear a; intro a hF
    refine RL.skip hF rfl rfl (lkb rfl hg102) (.inl rfl) rfl rfl ?_; clear hF; clear a; intro a hF
    refine RL.skip hF rfl rfl (lkb rfl hg102) (.inl rfl) rfl rfl ?_; clear hF; clear a; intro a hF
    refine RL.val (v := .bool true) (w' := w30) hF rfl rfl rfl (r_pick hF rfl rfl rfl rfl (fun _ => rfl) (fun e => absurd (hg102.symm.trans e) (by decide))) ?_; clear hF; clear a; intro a hF
    refine RL.val  hF rfl rfl rfl (r_move hF rfl rfl) ?_; clear hF; clear a; intro a hF
    refine RL.skip hF rfl rfl rfl (.inl rfl) rfl rfl ?_; clear hF; clear a; intro a hF
    refine RL.skip hF rfl rfl rfl (.inl rfl) rfl rfl ?_; clear hF; clear a; intro a hF
    refine RL.skip hF rfl rfl rfl (.inl rfl) rfl rfl ?_; clear hF; clear a; intro a hF
    refine RL.skip hF rfl rfl rfl (.inl rfl) rfl rfl ?_; clear hF; clear a; intro a hF
    refine RL.skip hF rfl rfl rfl (.inl rfl) rfl rfl ?_; clear hF; clear a; intro a hF
    refine RL.val (v := .bool true) (w' := w30) hF rfl rfl rfl (r_pick hF rfl rfl rfl rfl (fun _ => rfl) (fun e => absurd e (by decide))) ?_; clear hF; clear a; intro a hF
    refine RL.val  hF rfl rfl rfl (r_move hF rfl rfl) ?_; clear hF; clear a; intro a hF
    refine RL.skip hF rfl rfl rfl (.inl rfl) rfl rfl ?_; clear hF; clear a; intro a hF
    refine RL.skip hF rfl rfl rfl (.inl rfl) rfl rfl ?_; clear hF; clear a; intro a hF
    refine RL.skip hF rfl rfl rfl (.inl rfl) rfl rfl ?_; clear hF; clear a; intro a hF
    refine RL.val (v := .bool true) (w' := w30) hF rfl rfl rfl (r_pick hF rfl rfl rfl rfl (fun _ => rfl) (fun e => absurd e (by decide))) ?_; clear hF; clear a; intro a hF
    refine RL.nil ?_
    exact jn97 true _ _ (hF.sub rfl) h
  · replace h := hf hg102; clear ht hf
    refine RL.gval  hF rfl rfl (lkb rfl hg102) rfl rfl (r_move hF rfl rfl) ?_; clear hF; clear a; intro a hF
    refine RL.gval  hF rfl rfl (lkb rfl hg102) rfl rfl (r_move hF rfl rfl) ?_; clear hF; clear a; intro a hF
    refine RL.gval  hF rfl rfl (lkb rfl hg102) rfl rfl (r_neq hF rfl rfl rfl) ?_; clear hF; clear a; intro a hF
    refine RL.val (v := .bool (r10 != r24)) (w' := w30) hF rfl rfl rfl (r_pick hF rfl rfl rfl rfl (fun e => absurd (hg102.symm.trans e) (by decide)) (fun _ => rfl)) ?_; clear hF; clear a; intro a hF
    refine RL.val  hF rfl rfl rfl (r_move hF rfl rfl) ?_; clear hF; clear a; intro a hF
    obtain ⟨ht, hf⟩ := h
    rcases bool_cases (r10 != r24) with hg103 | hg103
    · replace h := ht hg103; clear ht hf
      refine RL.skip hF rfl rfl (lkb rfl hg103) (.inl rfl) rfl rfl ?_; clear hF; clear a; intro a hF
      refine RL.skip hF rfl rfl (lkb rfl hg103) (.inl rfl) rfl rfl ?_; clear hF; clear a; intro a hF
      refine RL.skip hF rfl rfl (lkb rfl hg103) (.inl rfl) rfl rfl ?_; clear hF; clear a; intro a hF
      refine RL.skip hF rfl rfl (lkb rfl hg103) (.inl rfl) rfl rfl ?_; clear hF; clear a; intro a hF
      refine RL.skip hF rfl rfl (lkb rfl hg103) (.inl rfl) rfl rfl ?_; clear hF; clear a; intro a hF
      refine RL.val (v := .bool true) (w' := w30) hF rfl rfl rfl (r_pick hF rfl rfl rfl rfl (fun _ => rfl) (fun e => absurd (hg103.symm.trans e) (by decide))) ?_; clear hF; clear a; intro a hF
      refine RL.val  hF rfl rfl rfl (r_move hF rfl rfl) ?_; clear hF; clear a; intro a hF
      refine RL.skip hF rfl rfl rfl (.inl rfl) rfl rfl ?_; clear hF; clear a; intro a hF
      refine RL.skip hF rfl rfl rfl (.inl rfl) rfl rfl ?_; clear hF; clear a; intro a hF
      refine RL.skip hF rfl rfl rfl (.inl rfl) rfl rfl ?_; clear hF; clear a; intro a hF
      refine RL.val (v := .bool true) (w' := w30) hF rfl rfl rfl (r_pick hF rfl rfl rfl rfl (fun _ => rfl) (fun e => absurd e (by decide))) ?_; clear hF; clear a; intro a hF
      refine RL.nil ?_
      exact jn97 true _ _ (hF.sub rfl) h
    · replace h := hf hg103; clear ht hf
      refine RL.gval  hF rfl rfl (lkb rfl hg103) rfl rfl (r_move hF rfl rfl) ?_; clear hF; clear a; intro a hF
      obtain ⟨t104, hct104, h⟩ := h
      refine RL.gval  hF rfl rfl (lkb rfl hg103) rfl rfl (r_conv hF rfl rfl hct104) ?_; clear hF; clear a; intro a hF
      refine RL.gval  hF rfl rfl (lkb rfl hg103) rfl rfl (r_move hF rfl rfl) ?_; clear hF; clear a; intro a hF
      obtain ⟨t105, hct105, h⟩ := h
      refine RL.gval  hF rfl rfl (lkb rfl hg103) rfl rfl (r_conv hF rfl rfl hct105) ?_; clear hF; clear a; intro a hF
      refine RL.gval  hF rfl rfl (lkb rfl hg103) rfl rfl (r_strne hF rfl rfl rfl) ?_; clear hF; clear a; intro a hF
      refine RL.val (v := .bool (!(t104.toList == t105.toList))) (w' := w30) hF rfl rfl rfl (r_pick hF rfl rfl rfl rfl (fun e => absurd (hg103.symm.trans e) (by decide)) (fun _ => rfl)) ?_; clear hF; clear a; intro a hF
      refine RL.val  hF rfl rfl rfl (r_move hF rfl rfl) ?_; clear hF; clear a; intro a hF
      obtain ⟨ht, hf⟩ := h
      rcases bool_cases (!(t104.toList == t105.toList)) with hg106 | hg106
      · replace h := ht hg106; clear ht hf
        refine RL.skip hF rfl rfl (lkb rfl hg106) (.inl rfl) rfl rfl ?_; clear hF; clear a; intro a hF
        refine RL.skip hF rfl rfl (lkb rfl hg106) (.inl rfl) rfl rfl ?_; clear hF; clear a; intro a hF
        refine RL.skip hF rfl rfl (lkb rfl hg106) (.inl rfl) rfl rfl ?_; clear hF; clear a; intro a hF
        refine RL.val (v := .bool true) (w' := w30) hF rfl rfl rfl (r_pick hF rfl rfl rfl rfl (fun _ => rfl) (fun e => absurd (hg106.symm.trans e) (by decide))) ?_; clear hF; clear a; intro a hF
        refine RL.nil ?_
        exact jn97 true _ _ (hF.sub rfl) h
      · replace h := hf hg106; clear ht hf
        refine RL.gval  hF rfl rfl (lkb rfl hg106) rfl rfl (r_move hF rfl rfl) ?_; clear hF; clear a; intro a hF
        refine RL.gval  hF rfl rfl (lkb rfl hg106) rfl rfl (r_move hF rfl rfl) ?_; clear hF; clear a; intro a hF
        refine RL.gval  hF rfl rfl (lkb rfl hg106) rfl rfl (r_neq hF rfl rfl rfl) ?_; clear hF; clear a; intro a hF
        refine RL.val (v := .bool (r16 != r32)) (w' := w30) hF rfl rfl rfl (r_pick hF rfl rfl rfl rfl (fun e => absurd (hg106.symm.trans e) (by decide)) (fun _ => rfl)) ?_; clear hF; clear a; intro a hF
        refine RL.nil ?_
        exact jn97 (r16 != r32) _ _ (hF.sub rfl) h

set_option maxRecDepth 20000 in
theorem br26 {a0 : ByteArray} {w : World} {K : Bool → World → Prop} (h : sh26 a0 w K) : C26 a0 w K := by
  unfold sh26 at h
  refine enter (n := 11) (l := [(0, .string a0)]) 10 Try.func26 rfl _ rfl rfl rfl fun a hF => ?_
  refine seq_region fun K1 hK2 => ?_
  refine RL.val  hF rfl rfl rfl (r_assign hF rfl rfl) ?_; clear hF; clear a; intro a hF
  refine RL.nil (hK2 _ _ ?_)
  clear hK2 K1
  refine seq_region fun K3 hK4 => ?_
  obtain ⟨J7, hJ, h⟩ := jn_open h
  have jn8 : ∀ (v5 : Bool) (w6 : World) a, Fr 11 a [(2, .bool v5)] → J7 v5 w6 → K3 a w6 := by
    clear hF
    intro v5 w6 a hF h; replace h := hJ _ _ h; refine hK4 _ _ ?_; clear hJ hK4 K3
    refine wp_ret ?_
    exact ret_of hF (res1 hF rfl rfl) ⟨_, rfl, h⟩
  clear hJ hK4
  refine RL.val  hF rfl rfl rfl (r_move hF rfl rfl) ?_; clear hF; clear a; intro a hF
  refine RL.val  hF rfl rfl rfl (r_len_str hF rfl rfl Try.runUnderlying9) ?_; clear hF; clear a; intro a hF
  refine RL.val  hF rfl rfl rfl (r_lss hF rfl rfl rfl) ?_; clear hF; clear a; intro a hF
  refine RL.val  hF rfl rfl rfl (r_move hF rfl rfl) ?_; clear hF; clear a; intro a hF
  obtain ⟨ht, hf⟩ := h
  rcases bool_cases (decide ((a0.size : Int) < 1)) with hg9 | hg9
  · replace h := ht hg9; clear ht hf
    refine RL.skip hF rfl rfl (lkb rfl hg9) (.inl rfl) rfl rfl ?_; clear hF; clear a; intro a hF
    refine RL.skip hF rfl rfl (lkb rfl hg9) (.inl rfl) rfl rfl ?_; clear hF; clear a; intro a hF
    refine RL.skip hF rfl rfl (lkb rfl hg9) (.inl rfl) rfl rfl ?_; clear hF; clear a; intro a hF
    refine RL.val (v := .bool true) (w' := w) hF rfl rfl rfl (r_pick hF rfl rfl rfl rfl (fun _ => rfl) (fun e => absurd (hg9.symm.trans e) (by decide))) ?_; clear hF; clear a; intro a hF
    refine RL.val  hF rfl rfl rfl (r_assign hF rfl rfl) ?_; clear hF; clear a; intro a hF
    refine RL.nil ?_
    exact jn8 true _ _ (hF.sub rfl) h
  · replace h := hf hg9; clear ht hf
    refine RL.gval  hF rfl rfl (lkb rfl hg9) rfl rfl (r_move hF rfl rfl) ?_; clear hF; clear a; intro a hF
    refine RL.gval  hF rfl rfl (lkb rfl hg9) rfl rfl (r_len_str hF rfl rfl Try.runUnderlying9) ?_; clear hF; clear a; intro a hF
    refine RL.gval  hF rfl rfl (lkb rfl hg9) rfl rfl (r_gtr hF rfl rfl rfl) ?_; clear hF; clear a; intro a hF
    refine RL.val (v := .bool (decide ((a0.size : Int) > 255))) (w' := w) hF rfl rfl rfl (r_pick hF rfl rfl rfl rfl (fun e => absurd (hg9.symm.trans e) (by decide)) (fun _ => rfl)) ?_; clear hF; clear a; intro a hF
    refine RL.val  hF rfl rfl rfl (r_assign hF rfl rfl) ?_; clear hF; clear a; intro a hF
    refine RL.nil ?_
    exact jn8 (decide ((a0.size : Int) > 255)) _ _ (hF.sub rfl) h

end Go.Proofs.Yteoikkmpkhnalaa
