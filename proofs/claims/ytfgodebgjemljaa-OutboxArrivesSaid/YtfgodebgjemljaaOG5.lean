/-
  Outbox: sets of at most one span: Add, Remove, Has, Gap.
-/
import Derived.Test.YtfgodebgjemljaaOD5
import Derived.Test.YtfgodebgjemljaaHs4
namespace Go.Proofs.Ytfgodebgjemljaa
open Go Go.Sh
set_option linter.unusedVariables false
set_option linter.unusedSimpArgs false

variable {w w' : World}

/-! ### 1. Insert and Replace, of one span -/

/-- what becomes of a slice of spans: the call's own again -/
def SlTo (w : World) (s : Slc) (cs : List Value) (K : Slc → World → Prop) : Prop :=
  ∀ r w', OwnS w' 94 2 r cs → Mod (fun b => s.a = some ⟨b, 0, none⟩) w w' → (∀ b, r.a = some ⟨b, 0, none⟩ → s.a = some ⟨b, 0, none⟩ ∨ w.heap.size ≤ b) → K r w'

theorem sp_two (p : Int × Int) : ∀ v ∈ spanC (some p), one v = true := one_span (some p)

theorem app_sp {s x : Slc} {cs : List Value} {p : Int × Int} (hs : OwnS w 94 2 s cs) (hsl : s.len ≤ 1) (hx : RdS w 2 x (spanC (some p))) :
    ∃ (r : Slc) (w' : World), (∀ ty, rn Try.prog (Builtin.append_ #[87, 87] ty #[s.v, x.v]) r.v w w') ∧ OwnS w' 94 2 r (cs ++ spanC (some p)) ∧ r.len = s.len + 1 ∧
      Mod (fun b => s.a = some ⟨b, 0, none⟩) w w' ∧ (∀ b, r.a = some ⟨b, 0, none⟩ → s.a = some ⟨b, 0, none⟩ ∨ w.heap.size ≤ b) := by
  have hl : x.len = 1 := by have := hx.1; simp [spanC] at this; omega
  obtain ⟨r, w2, hr, ho, hrl, hm, hp⟩ := run_append (t := 87) (t' := 87) elSpan Try.runUnderlying87 Try.runUnderlying87 (fun k h => by cases h) hs hx (sp_two p) (by omega) (by omega)
  refine ⟨r, w2, hr, ho, by omega, hm, fun b hb => ?_⟩
  rcases hp with e | ⟨c, e, hc, _⟩
  · exact .inl (e ▸ hb)
  · rw [e] at hb
    have : c = b := by simpa using hb
    exact .inr (by omega)

theorem insert1_spec {s x : Slc} {p : Int × Int} {K : Slc → World → Prop} (hs : OwnS w 94 2 s []) (hx : RdS w 2 x (spanC (some p))) (h : SlTo w s (spanC (some p)) K) : C59 s 0 x w K := by
  refine br59 ?_
  unfold sh59
  have hl : x.len = 1 := by have := hx.1; simp [spanC] at this; omega
  have hl0 : s.len = 0 := by have := hs.1; simp at this; omega
  obtain ⟨r, w2, hr, ho, hrl, hm, hp⟩ := app_sp hs (by omega) hx
  exact ⟨by decide, by omega, jn_in (ifM.f (by simp; omega) (jn_in (ifM.t (by simp; omega) ⟨r, w2, hr, h r w2 (by simpa using ho) hm hp⟩)))⟩

theorem replaceI_spec {s x : Slc} {p : Int × Int} {K : Slc → World → Prop} (hs : OwnS w 94 2 s []) (hx : RdS w 2 x (spanC (some p))) (h : SlTo w s (spanC (some p)) K) : C51 s 0 0 x w K := by
  refine br51 ?_
  unfold sh51
  exact ⟨by decide, by decide, by omega, jn_in (ifM.t (by simp) (insert1_spec hs hx h))⟩

theorem front_a {s : Slc} {cs : List Value} (hs : OwnS w 94 2 s cs) {b : Nat} : (s.sub 2 0 0 s.cap).a = some ⟨b, 0, none⟩ ↔ s.a = some ⟨b, 0, none⟩ := by
  rcases hs.2 with rfl | ⟨c, rest, h2, _⟩
  · simp [Slc.sub]
  · simp only [Slc.sub, h2]
    split
    · rfl
    · simp [Addr.add]

theorem replace1_spec {s x : Slc} {p q : Int × Int} {K : Slc → World → Prop} (hs : OwnS w 94 2 s (spanC (some q))) (hc : s.len ≤ s.cap) (hx : RdS w 2 x (spanC (some p))) (h : SlTo w s (spanC (some p)) K) : C51 s 0 1 x w K := by
  refine br51 ?_
  unfold sh51
  have hl0 : s.len = 1 := by have := hs.1; simp [spanC] at this; omega
  obtain ⟨r, w2, hr, ho, hrl, hm, hp⟩ := app_sp hs.front (by simp [Slc.sub]) hx
  have hrl : r.len = 1 := by simpa [Slc.sub] using hrl
  refine ⟨by decide, by decide, by omega, jn_in (ifM.f rfl (jn_in (ifM.t (by simp; omega) ⟨by decide, by omega, r, w2, hr, jn_in (ifM.f (by simp; omega) ?_)⟩)))⟩
  exact h r w2 (by simpa using ho) (hm.weaken fun b _ e => (front_a hs).1 e) fun b hb => (hp b hb).imp_left (front_a hs).1

theorem replaceE_spec {s : Slc} {q : Int × Int} {K : Slc → World → Prop} (hs : OwnS w 94 2 s (spanC (some q))) (hc : s.len ≤ s.cap) (h : SlTo w s [] K) : C51 s 0 1 Slc.nil w K := by
  refine br51 ?_
  unfold sh51
  have hl0 : s.len = 1 := by have := hs.1; simp [spanC] at this; omega
  have hx : RdS w 2 Slc.nil [] := ⟨rfl, .inl ⟨rfl, rfl⟩⟩
  obtain ⟨r, w2, hr, ho, hrl, hm, hp, hold⟩ := run_append' (t := 87) (t' := 87) elSpan Try.runUnderlying87 Try.runUnderlying87 (fun k h => by cases h) hs.front hx (fun v hv => by cases hv) (by simp [Slc.sub, Slc.nil]) (by omega)
  have hrl : r.len = 0 := by simpa [Slc.sub, Slc.nil] using hrl
  refine ⟨by decide, by decide, by omega, jn_in (ifM.f rfl (jn_in (ifM.t (by simp; omega) ⟨by decide, by omega, r, w2, hr, jn_in (ifM.t (by simp; omega) ⟨by omega, by omega, ?_⟩)⟩)))⟩
  obtain ⟨b, rest, h2, h3, h4, h5⟩ : ∃ b rest, s.a = some ⟨b, 0, none⟩ ∧ Blk w b (spanC (some q) ++ rest) 94 ∧ (spanC (some q)).length + rest.length = s.cap * 2 ∧ s.len ≤ s.cap := by
    rcases hs.2 with rfl | h
    · simp at hl0
    · exact h
  obtain ⟨c, rest2, g2, g3, g4, g5⟩ : ∃ b rest, (s.sub 2 0 0 s.cap).a = some ⟨b, 0, none⟩ ∧ Blk w2 b ([] ++ rest) 94 ∧ ([] : List Value).length + rest.length = (s.sub 2 0 0 s.cap).cap * 2 ∧ (s.sub 2 0 0 s.cap).len ≤ (s.sub 2 0 0 s.cap).cap := by
    rcases hold.2 with e | h
    · have : (s.sub 2 0 0 s.cap).a = none := by rw [e]
      have h6 := (front_a hs (b := b)).2 h2
      rw [this] at h6
      cases h6
    · exact h
  obtain rfl : c = b := by
    have := (front_a hs).1 g2
    rw [h2] at this
    simpa using this.symm
  have hcl : rest2.length = s.cap * 2 := by simpa [Slc.sub] using g4
  obtain ⟨w3, hr3, hB3, hm3⟩ := run_clear1 (t := 87) (e := 94) (m := 2) (c := s.cap) (zs := [.int .i64 0, .int .i64 0]) Try.runUnderlying87 Try.zeroValue94 rfl rfl (by simp [one]) g3 (by simp; omega)
  have hsub : s.sub 2 ((r.len : Int).toNat) s.len s.cap = Slc.mk (some ⟨c, 0, none⟩) 1 s.cap := by
    rw [hrl, hl0]
    simp only [Slc.sub, h2]
    have : ¬ s.cap = ((0 : Nat) : Int).toNat := by simp; omega
    rw [if_neg this]
    simp [Addr.add]
  rw [hsub]
  refine ⟨w3, hr3, ?_⟩
  have hS : ∀ d, d = c → s.a = some ⟨d, 0, none⟩ := fun d e => by rw [e]; exact h2
  refine h r w3 ?_ ((hm.weaken fun b _ e => (front_a hs).1 e).on hm3 fun d _ e => hS d e) fun d hd => ?_
  · refine ⟨by simpa using ho.1, ?_⟩
    rcases ho.2 with e | ⟨d, rest, i2, i3, i4, i5⟩
    · exact .inl e
    · by_cases hdc : d = c
      · subst hdc
        have e1 : (([] : List Value) ++ [] ++ rest).length = rest2.length := by
          obtain ⟨_, j1, _⟩ := i3
          obtain ⟨_, j2, _⟩ := g3
          rw [j1] at j2
          have : ([] ++ [] ++ rest).toArray = ([] ++ rest2).toArray := by
            injection j2 with j2
            injection j2
          have := congrArg Array.size this
          simpa using this
        refine .inr ⟨d, _, i2, hB3, ?_, i5⟩
        simp at e1 i4 ⊢
        omega
      · exact .inr ⟨d, rest, i2, by simpa using i3.mod hm3 hdc, by simpa using i4, i5⟩
  · rcases hp with e | ⟨d', e, hd', _⟩
    · rw [e] at hd
      exact .inl ((front_a hs).1 hd)
    · rw [e] at hd
      have : d' = d := by simpa using hd
      exact .inr (by omega)

/-! ### 2. The set's calls -/

/-- what becomes of a set -/
def StTo (w : World) (sb : Nat) (sl : Slc) (o : Option (Int × Int)) (K : World → Prop) : Prop :=
  ∀ w' sl', SetAt w' sb sl' o → (∀ b, sfp sb sl' b → sfp sb sl b ∨ w.heap.size ≤ b) → Mod (sfp sb sl) w w' → K w'

theorem put_set {sb : Nat} {sl r : Slc} {o o' : Option (Int × Int)} {w0 w1 : World} {K : World → Prop} (hs : SetAt w sb sl o) (hm0 : Mod No w w0) (ho : OwnS w1 94 2 r (spanC o')) (hm : Mod (fun b => sl.a = some ⟨b, 0, none⟩) w0 w1)
    (hp : ∀ b, r.a = some ⟨b, 0, none⟩ → sl.a = some ⟨b, 0, none⟩ ∨ w0.heap.size ≤ b) (hok : SpOk o') (h : StTo w sb sl o' K) : stV ⟨sb, 1, none⟩ r.v w1 K := by
  have hB : Blk w1 sb [.bool true, sl.v] 89 := (hs.box.mod hm0 fun h => h).mod hm fun e => hs.ne sb e rfl
  have z0 := hm0.size
  have hnb : ∀ b, r.a = some ⟨b, 0, none⟩ → b ≠ sb := fun b hb e => by
    rcases hp b hb with h | h
    · exact hs.ne b h e
    · have := hs.lt sb (.inl rfl)
      omega
  refine stV.mk hB (by simp) fun w3 hB3 hm3 => h w3 r ⟨hB3, ho.mod hm3 hnb, hnb, hok⟩ ?_ ((hm0.of0.on hm fun b _ e => .inr e).on hm3 fun b _ e => .inl e)
  rintro b (rfl | hb)
  · exact .inl (.inl rfl)
  · rcases hp b hb with h | h
    · exact .inl (.inr h)
    · exact .inr (by omega)

theorem sp1 {w : World} {p : Int × Int} {K : Slc → World → Prop} {cs : List Value} (e : cs = spanC (some p)) (h : ∀ w1, RdS w1 2 (Slc.mk (some ⟨w.heap.size, 0, none⟩) 1 1) (spanC (some p)) → Mod No w w1 → w.heap.size < w1.heap.size → K (Slc.mk (some ⟨w.heap.size, 0, none⟩) 1 1) w1) :
    ∃ (x : Slc) (w1 : World), rn Try.prog (Instr.buildSlice 87 1 ([(0, .agg cs.toArray)] : List (Nat × Value)).toArray) x.v w w1 ∧ K x w1 := by
  subst e
  refine ⟨_, _, run_slice1 Try.runUnderlying87 Try.sizeOf94 Try.zeroValue94 rfl rfl (by decide) (by decide), h _ ?_ (Mod.alloc ..) (by simp)⟩
  have hB := Blk.new w (spanC (some p)).toArray 94
  exact ⟨rfl, .inr ⟨w.heap.size, 0, rfl, fun _ => hB.lt, fun i hi => by rw [Nat.zero_add]; exact hB.cell' i⟩⟩

/-- what a span makes of a set, that it touches -/
inductive AdTo : Option (Int × Int) → Int → Int → Option (Int × Int) → Prop
  | new {a b : Int} : AdTo none a b (some (a, b))
  | touch {x y a b : Int} : x ≤ b + 1 → a - 1 ≤ y → AdTo (some (x, y)) a b (some (if x < a then x else a, if y > b then y else b))

set_option maxHeartbeats 1000000 in
theorem add_spec {sb : Nat} {sl : Slc} {o o' : Option (Int × Int)} {a b : Int} {K : Int → World → Prop} (hs : SetAt w sb sl o) (h0 : 0 ≤ a) (h1 : a ≤ b) (h2 : b ≤ 4611686018427387903 - 1) (ht : AdTo o a b o') (h : StTo w sb sl o' (K 0)) : C36 (some ⟨sb, 0, none⟩) a b w K := by
  refine br36 ?_
  unfold sh36
  have hl := hs.len
  have hc := hs.cap
  have ea : IntKind.i64.wrap (a - 1) = a - 1 := wrap_i64 (by omega) (by omega)
  have eb : IntKind.i64.wrap (b + 1) = b + 1 := wrap_i64 (by omega) (by omega)
  refine jn_in (rwrong_spec hs h0 h1 (by omega) (ifM.f rfl ?_))
  rw [ea]
  refine from_spec hs ⟨by omega, by omega⟩ fun w1 m1 => newV.mk fun bp w2 hbp Bp m2 => stA.all Bp rfl rfl (by simp [one]) fun w3 Bp m3 => ?_
  have z1 := m1.size
  have z2 := m2.size
  have z3 := m3.size
  have m03 : Mod No w w3 := (m1.on0 m2).onNew m3 (by omega)
  have hs3 := hs.mod0 m03
  have hsz := hs.lt sb (.inl rfl)
  have lbp := Bp.lt
  rw [eb]
  cases ht with
  | new =>
    have hl0 : sl.len = 0 := hl
    have e0 : fromI none (a - 1) = 0 := rfl
    rw [e0]
    refine jn_in (Lp.unroll (jn_in (nn.mk ?_)))
    rw [add_at]
    refine ldL.mk hs3.box rfl ?_
    rw [hl0]
    refine ifM.f (by decide) (jn_in (nn.mk ?_))
    rw [add_at]
    refine ldL.mk hs3.box rfl ?_
    rw [hl0]
    refine ifM.f (by decide) (drw.mk fun w4 m4 => nn.mk ?_)
    have hs4 := hs3.mod0 m4
    refine ldL.mk hs4.box rfl (ldA.all (Bp.mod0 m4) rfl (sp1 (p := (a, b)) rfl fun w5 hx m5 _ => ?_))
    have m05 := (m03.on0 m4).on0 m5
    have hs5 := hs4.mod0 m5
    refine ⟨hs5.box.cell rfl, replaceI_spec (p := (a, b)) hs5.sp hx fun r w6 ho hm hp => nn.mk ?_⟩
    rw [add_at]
    exact put_set hs m05 ho hm hp (by rintro p ⟨⟩; exact ⟨h0, h1, by omega⟩) h
  | @touch x y _ _ hx hy =>
    have hok := hs.ok (x, y) rfl
    simp only at hok
    have hl1 : sl.len = 1 := hl
    have e0 : fromI (some (x, y)) (a - 1) = 0 := if_neg (show ¬ y < a - 1 by omega)
    rw [e0]
    refine jn_in (Lp.unroll (jn_in (nn.mk ?_)))
    rw [add_at]
    refine ldL.mk hs3.box rfl ?_
    rw [hl1]
    refine ifM.t (by decide) (jn_in (jn_in (nn.mk ?_)))
    rw [add_at]
    refine ldL.mk hs3.box rfl (span_ld0 hs3.sp (ifM.f (by simp; omega) (drw.mk fun w4 m4 => ?_)))
    have hs4 := hs3.mod0 m4
    refine ldI.mk (Bp.mod0 m4) rfl (nn.mk ?_)
    rw [add_at]
    refine ldL.mk hs4.box rfl (span_ld0 hs4.sp ?_)
    rw [add_at]
    refine ldI.mk (Bp.mod0 m4) rfl (nn.mk ?_)
    rw [add_at]
    refine ldL.mk hs4.box rfl (span_ld1 hs4.sp (stA.all (Bp.mod0 m4) rfl rfl (by simp [one]) fun w5 Bp m5 => ?_))
    have m05 : Mod No w w5 := (m03.on0 m4).onNew m5 (by omega)
    have hs5 := hs.mod0 m05
    have e1 : IntKind.i64.wrap ((0 : Int) + 1) = 1 := by decide
    rw [e1]
    refine Lp.unroll (jn_in (nn.mk ?_))
    rw [add_at]
    refine ldL.mk hs5.box rfl ?_
    rw [hl1]
    refine ifM.f (by decide) (jn_in (nn.mk ?_))
    rw [add_at]
    refine ldL.mk hs5.box rfl ?_
    rw [hl1]
    refine ifM.f (by decide) (drw.mk fun w6 m6 => nn.mk ?_)
    have hs6 := hs5.mod0 m6
    rw [add_at]
    refine ldL.mk hs6.box rfl (ldA.all (Bp.mod0 m6) rfl (sp1 (p := (if x < a then x else a, if y > b then y else b)) rfl fun w7 hx m7 _ => ?_))
    have m07 := (m05.on0 m6).on0 m7
    have hs7 := hs6.mod0 m7
    refine ⟨hs7.box.cell rfl, replace1_spec hs7.sp hc hx fun r w8 ho hm hp => nn.mk ?_⟩
    rw [add_at]
    refine put_set hs m07 ho hm hp ?_ h
    rintro p ⟨⟩
    simp only
    split <;> split <;> omega

/-- what is left of a set -/
inductive RmTo : Option (Int × Int) → Int → Int → Option (Int × Int) → Prop
  | none {a b : Int} : RmTo none a b none
  | ahead {x y a b : Int} : b < x → RmTo (some (x, y)) a b (some (x, y))
  | all {a b : Int} : RmTo (some (a, b)) a b none
  | front {y a b : Int} : b < y → RmTo (some (a, y)) a b (some (b + 1, y))

set_option maxHeartbeats 1000000 in
theorem remove_spec {sb : Nat} {sl : Slc} {o o' : Option (Int × Int)} {a b : Int} {K : Int → World → Prop} (hs : SetAt w sb sl o) (h0 : 0 ≤ a) (h1 : a ≤ b) (h2 : b ≤ 4611686018427387903 - 1) (ht : RmTo o a b o') (h : StTo w sb sl o' (K 0)) : C31 (some ⟨sb, 0, none⟩) a b w K := by
  have hl := hs.len
  have hc := hs.cap
  have hsz := hs.lt sb (.inl rfl)
  cases ht with
  | none => exact remove0_spec hs h0 h1 (by omega) fun w' hs' hm => h w' sl hs' (fun b hb => .inl hb) (hm.weaken fun c _ e => .inl e)
  | @ahead x y _ _ hx =>
    have hok := hs.ok (x, y) rfl
    simp only at hok
    have hl1 : sl.len = 1 := hl
    refine br31 ?_
    unfold sh31
    refine jn_in (rwrong_spec hs h0 h1 (by omega) (ifM.f rfl (from_spec hs ⟨by omega, by omega⟩ fun w1 m1 => ?_)))
    have hs1 := hs.mod0 m1
    have e0 : fromI (some (x, y)) a = 0 := if_neg (show ¬ y < a by omega)
    rw [e0]
    refine jn_in (Lp.unroll (jn_in (jn_in (nn.mk ?_))))
    rw [add_at]
    refine ldL.mk hs1.box rfl ?_
    rw [hl1]
    refine ifM.t (by decide) (nn.mk ?_)
    rw [add_at]
    refine ldL.mk hs1.box rfl (span_ld0 hs1.sp (ifM.f (by simp; omega) (jn_in (nn.mk ?_))))
    rw [add_at]
    refine ldL.mk hs1.box rfl ?_
    rw [hl1]
    refine ifM.f (by decide) (nn.mk ?_)
    rw [add_at]
    refine ldL.mk hs1.box rfl (replace0_spec (by decide) (by omega) hc (nn.mk ?_))
    rw [add_at]
    exact put_set hs m1 hs1.sp (Mod.refl _ _) (fun b hb => .inl hb) hs.ok h
  | all =>
    have hok := hs.ok (a, b) rfl
    simp only at hok
    have hl1 : sl.len = 1 := hl
    refine br31 ?_
    unfold sh31
    refine jn_in (rwrong_spec hs h0 h1 (by omega) (ifM.f rfl (from_spec hs ⟨by omega, by omega⟩ fun w1 m1 => ?_)))
    have hs1 := hs.mod0 m1
    have e0 : fromI (some (a, b)) a = 0 := if_neg (show ¬ b < a by omega)
    rw [e0]
    refine jn_in (Lp.unroll (jn_in (jn_in (nn.mk ?_))))
    rw [add_at]
    refine ldL.mk hs1.box rfl ?_
    rw [hl1]
    refine ifM.t (by decide) (nn.mk ?_)
    rw [add_at]
    refine ldL.mk hs1.box rfl (span_ld0 hs1.sp (ifM.t (by simp; omega) (jn_in (jn_in (nn.mk ?_)))))
    rw [add_at]
    refine ldL.mk hs1.box rfl (span_ld hs1.sp (newV.mk fun b2 w2 hb2 B2 m2 => stA.all B2 rfl rfl (by simp [one]) fun w3 B2 m3 => ldI.mk B2 rfl (ifM.f (by simp) (nn.mk ?_))))
    have m03 : Mod No w w3 := (m1.on0 m2).onNew m3 (by have := m1.size; omega)
    have hs3 := hs.mod0 m03
    rw [add_at]
    refine ldL.mk hs3.box rfl (span_ld hs3.sp (newV.mk fun b4 w4 hb4 B4 m4 => stA.all B4 rfl rfl (by simp [one]) fun w5 B4 m5 => ?_))
    have m05 : Mod No w w5 := (m03.on0 m4).onNew m5 (by have := m03.size; omega)
    have hs5 := hs.mod0 m05
    rw [add_at]
    have e1 : IntKind.i64.wrap ((0 : Int) + 1) = 1 := by decide
    refine ldI.mk B4 rfl (ifM.f (by simp) ?_)
    rw [e1]
    refine Lp.unroll (jn_in (jn_in (nn.mk ?_)))
    rw [add_at]
    refine ldL.mk hs5.box rfl ?_
    rw [hl1]
    refine ifM.f (by decide) (ifM.f rfl (jn_in (nn.mk ?_)))
    rw [add_at]
    refine ldL.mk hs5.box rfl ?_
    rw [hl1]
    refine ifM.f (by decide) (nn.mk ?_)
    rw [add_at]
    refine ldL.mk hs5.box rfl (replaceE_spec hs5.sp hc fun r w6 ho hm hp => nn.mk ?_)
    rw [add_at]
    exact put_set (o' := none) hs m05 ho hm hp (by rintro p ⟨⟩) h
  | @front y _ _ hy =>
    have hok := hs.ok (a, y) rfl
    simp only at hok
    have hl1 : sl.len = 1 := hl
    refine br31 ?_
    unfold sh31
    refine jn_in (rwrong_spec hs h0 h1 (by omega) (ifM.f rfl (from_spec hs ⟨by omega, by omega⟩ fun w1 m1 => ?_)))
    have hs1 := hs.mod0 m1
    have e0 : fromI (some (a, y)) a = 0 := if_neg (show ¬ y < a by omega)
    rw [e0]
    refine jn_in (Lp.unroll (jn_in (jn_in (nn.mk ?_))))
    rw [add_at]
    refine ldL.mk hs1.box rfl ?_
    rw [hl1]
    refine ifM.t (by decide) (nn.mk ?_)
    rw [add_at]
    refine ldL.mk hs1.box rfl (span_ld0 hs1.sp (ifM.t (by simp; omega) (jn_in (jn_in (nn.mk ?_)))))
    rw [add_at]
    refine ldL.mk hs1.box rfl (span_ld hs1.sp (newV.mk fun b2 w2 hb2 B2 m2 => stA.all B2 rfl rfl (by simp [one]) fun w3 B2 m3 => ldI.mk B2 rfl (ifM.f (by simp) (nn.mk ?_))))
    have m03 : Mod No w w3 := (m1.on0 m2).onNew m3 (by have := m1.size; omega)
    have hs3 := hs.mod0 m03
    rw [add_at]
    refine ldL.mk hs3.box rfl (span_ld hs3.sp (newV.mk fun b4 w4 hb4 B4 m4 => stA.all B4 rfl rfl (by simp [one]) fun w5 B4 m5 => ?_))
    have m05 : Mod No w w5 := (m03.on0 m4).onNew m5 (by have := m03.size; omega)
    have hs5 := hs.mod0 m05
    rw [add_at]
    have e1 : IntKind.i64.wrap ((0 : Int) + 1) = 1 := by decide
    have eb : IntKind.i64.wrap (b + 1) = b + 1 := wrap_i64 (by omega) (by omega)
    refine ldI.mk B4 rfl (ifM.t (by simp; omega) (ldI.mk B4 rfl ?_))
    rw [eb]
    refine sp1 (p := (b + 1, y)) rfl fun w6 hx m6 _ => ?_
    have hn : OwnS w6 94 2 Slc.nil [] := OwnS.nil ..
    obtain ⟨r, w7, hr, ho, hrl, hm, hp⟩ := app_sp hn (by decide) hx
    refine ⟨r, w7, hr, ?_⟩
    have hrl : r.len = 1 := hrl
    have m07 : Mod No w w7 := (m05.on0 m6).on hm fun c _ e => by cases e
    have hs7 := hs.mod0 m07
    rw [e1]
    refine Lp.unroll (jn_in (jn_in (nn.mk ?_)))
    rw [add_at]
    refine ldL.mk hs7.box rfl ?_
    rw [hl1]
    refine ifM.f rfl (ifM.f rfl (jn_in (nn.mk ?_)))
    rw [add_at]
    refine ldL.mk hs7.box rfl ?_
    rw [hl1, hrl]
    refine ifM.f rfl (nn.mk ?_)
    rw [add_at]
    refine ldL.mk hs7.box rfl (replace1_spec (p := (b + 1, y)) hs7.sp hc (by simpa using ho.rd) fun r w6 ho hm hp => nn.mk ?_)
    rw [add_at]
    exact put_set hs m07 ho hm hp (by rintro p ⟨⟩; exact ⟨by simp only; omega, by simp only; omega, by simp only; omega⟩) h

def hasS (o : Option (Int × Int)) (n : Int) : Bool := match o with
  | none => false
  | some p => decide (p.1 ≤ n ∧ n ≤ p.2)

theorem has_spec {sb : Nat} {sl : Slc} {o : Option (Int × Int)} {n : Int} {K : Bool → World → Prop} (hs : SetAt w sb sl o) (hn : 0 ≤ n ∧ n ≤ 4611686018427387903) (h : ∀ w', Mod No w w' → K (hasS o n) w') : C39 (some ⟨sb, 0, none⟩) n w K := by
  refine br39 ?_
  unfold sh39
  have hl := hs.len
  refine jn_in (jn_in (rnone_spec hs (ifM.f rfl (ifM.f (by simp; omega) (from_spec hs ⟨by omega, by omega⟩ fun w1 m1 => jn_in (nn.mk ?_))))))
  have hs1 := hs.mod0 m1
  rw [add_at]
  refine ldL.mk hs1.box rfl ?_
  cases o with
  | none =>
    have hl0 : sl.len = 0 := hl
    rw [hl0]
    exact ifM.f rfl (h w1 m1)
  | some p =>
    have hl1 : sl.len = 1 := hl
    rw [hl1]
    by_cases hp : p.2 < n
    · have e : fromI (some p) n = 1 := if_pos hp
      rw [e]
      have := h w1 m1
      rw [show hasS (some p) n = false by simp [hasS]; omega] at this
      exact ifM.f rfl this
    · have e : fromI (some p) n = 0 := if_neg hp
      rw [e]
      have := h w1 m1
      rw [show hasS (some p) n = decide (p.1 ≤ n) by simp [hasS]; omega] at this
      refine ifM.t rfl (nn.mk ?_)
      rw [add_at]
      exact ldL.mk hs1.box rfl (span_ld0 hs1.sp this)

def gapS (o : Option (Int × Int)) (n : Int) : Int := match o with
  | none => n
  | some p => if p.1 ≤ n ∧ n ≤ p.2 then p.2 + 1 else n

theorem gap_spec {sb : Nat} {sl : Slc} {o : Option (Int × Int)} {n : Int} {K : Int → World → Prop} (hs : SetAt w sb sl o) (hn : 0 ≤ n ∧ n ≤ 4611686018427387902) (hb : ∀ p, o = some p → p.2 ≤ 4611686018427387902) (h : ∀ w', Mod No w w' → K (gapS o n) w') : C37 (some ⟨sb, 0, none⟩) n w K := by
  refine br37 ?_
  unfold sh37
  have hl := hs.len
  rw [if_neg (show ¬ (0 : Int) > n by omega)]
  refine jn_in (rnone_spec hs (ifM.f rfl (jn_in (from_spec hs ⟨by omega, by omega⟩ fun w1 m1 => jn_in (nn.mk ?_)))))
  have hs1 := hs.mod0 m1
  rw [add_at]
  refine ldL.mk hs1.box rfl ?_
  cases o with
  | none =>
    have hl0 : sl.len = 0 := hl
    rw [hl0]
    exact ifM.f rfl (ifM.f rfl (jn_in (ifM.f (by simp; omega) (h w1 m1))))
  | some p =>
    have hl1 : sl.len = 1 := hl
    have hp2 := hb p rfl
    have hok := hs.ok p rfl
    rw [hl1]
    by_cases hp : p.2 < n
    · have e : fromI (some p) n = 1 := if_pos hp
      rw [e]
      have := h w1 m1
      rw [show gapS (some p) n = n by simp [gapS]; omega] at this
      exact ifM.f rfl (ifM.f rfl (jn_in (ifM.f (by simp; omega) this)))
    · have e : fromI (some p) n = 0 := if_neg hp
      rw [e]
      have := h w1 m1
      refine ifM.t rfl (nn.mk ?_)
      rw [add_at]
      refine ldL.mk hs1.box rfl (span_ld0 hs1.sp ?_)
      by_cases h3 : p.1 ≤ n
      · rw [show gapS (some p) n = p.2 + 1 by simp [gapS]; omega] at this
        refine ifM.t (by simpa using h3) (nn.mk ?_)
        rw [add_at]
        refine ldL.mk hs1.box rfl (span_ld1 hs1.sp ?_)
        rw [show IntKind.i64.wrap (p.2 + 1) = p.2 + 1 from wrap_i64 (by omega) (by omega)]
        exact jn_in (ifM.f (by simp; omega) this)
      · rw [show gapS (some p) n = n by simp [gapS]; omega] at this
        exact ifM.f (by simpa using h3) (jn_in (ifM.f (by simp; omega) this))
end Go.Proofs.Ytfgodebgjemljaa
