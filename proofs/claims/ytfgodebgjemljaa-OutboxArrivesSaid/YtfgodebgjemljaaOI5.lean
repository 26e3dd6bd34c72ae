/-
  Outbox: Finish, Next, Lost, Acked, where the bytes ahead of a place arrived, and those behind it, that were sent, are lost or away.
-/
import Derived.Test.YtfgodebgjemljaaOG5
namespace Go.Proofs.Ytfgodebgjemljaa
open Go Go.Sh
set_option linter.unusedVariables false
set_option linter.unusedSimpArgs false

variable {w w' : World} {v : OF} {z : St}

/-! ### 1. A box whose parts turn -/

/-- a box goes on: at its place, in its own blocks or new ones -/
structure OTo (w : World) (v : OF) (w' : World) (v' : OF) : Prop where
  ob : v'.ob = v.ob
  fp : ∀ b, v'.fp b → v.fp b ∨ w.heap.size ≤ b
  mod : Mod v.fp w w'

theorem OTo.refl (w : World) (v : OF) : OTo w v w v := ⟨rfl, fun b h => .inl h, Mod.refl _ _⟩
theorem OTo.trans {w1 w2 : World} {v1 v2 : OF} (h : OTo w v w1 v1) (h' : OTo w1 v1 w2 v2) : OTo w v w2 v2 := by
  refine ⟨h'.ob.trans h.ob, fun b hb => ?_, h.mod.on h'.mod fun b hb e => ?_⟩
  · rcases h'.fp b hb with e | e
    · exact h.fp b e
    · exact .inr (Nat.le_trans h.mod.size e)
  · rcases h.fp b e with e | e
    · exact e
    · omega
theorem OTo.mod0 {w1 : World} {v1 : OF} (h : OTo w v w1 v1) (hm : Mod No w1 w') : OTo w v w' v1 := ⟨h.ob, h.fp, h.mod.on0 hm⟩
theorem OTo.of0 (hm : Mod No w w') : OTo w v w' v := (OTo.refl w v).mod0 hm
/-- a block that is newer than the first world -/
theorem OTo.onNew {w1 : World} {v1 : OF} {b : Nat} (h : OTo w v w1 v1) (hm : Mod (· = b) w1 w') (hb : w.heap.size ≤ b) : OTo w v w' v1 := ⟨h.ob, h.fp, h.mod.onNew hm hb⟩
theorem OTo.from0 {w1 : World} {v1 : OF} (hm : Mod No w w1) (h : OTo w1 v w' v1) : OTo w v w' v1 := (OTo.of0 hm).trans h

theorem BoxAt.setGone {gs' : Slc} {g' : Option (Int × Int)} (hv : BoxAt w v z) (hs : SetAt w' v.gb gs' g') (hn : ∀ b, sfp v.gb gs' b → sfp v.gb v.gs b ∨ w.heap.size ≤ b) (hm : Mod (sfp v.gb v.gs) w w') :
    BoxAt w' { v with gs := gs' } { z with g := g' } ∧ OTo w v w' { v with gs := gs' } := by
  have hlt := hv.lt
  have old : ∀ b, v.fp b → sfp v.gb gs' b → sfp v.gb v.gs b := fun b hb h => by
    rcases hn b h with h | h
    · exact h
    · have := hlt b hb
      omega
  refine ⟨⟨hv.box.mod hm hv.d1, hv.kept.mod hm fun b hb e => (hv.d5 b hb).1 e, hs, hv.here.mod hm fun b hb e => hv.d4 b e hb, ?_, hv.d2, hv.d3, ?_, ?_⟩, rfl, ?_, hm.weaken fun b _ e => .inr (.inl e)⟩
  · exact fun e => hv.d1 (old _ (.inl rfl) e)
  · exact fun b hb e => hv.d4 b (old b (.inr (.inr (.inl e))) hb) e
  · exact fun b hb => ⟨fun e => (hv.d5 b hb).1 (old b (.inr (.inr (.inr hb))) e), (hv.d5 b hb).2⟩
  · rintro b (h | h | h | h)
    · exact .inl (.inl h)
    · rcases hn b h with h | h
      · exact .inl (.inr (.inl h))
      · exact .inr h
    · exact .inl (.inr (.inr (.inl h)))
    · exact .inl (.inr (.inr (.inr h)))

theorem BoxAt.setHere {hs' : Slc} {h' : Option (Int × Int)} (hv : BoxAt w v z) (hs : SetAt w' v.hb hs' h') (hn : ∀ b, sfp v.hb hs' b → sfp v.hb v.hs b ∨ w.heap.size ≤ b) (hm : Mod (sfp v.hb v.hs) w w') :
    BoxAt w' { v with hs := hs' } { z with h := h' } ∧ OTo w v w' { v with hs := hs' } := by
  have hlt := hv.lt
  have old : ∀ b, v.fp b → sfp v.hb hs' b → sfp v.hb v.hs b := fun b hb h => by
    rcases hn b h with h | h
    · exact h
    · have := hlt b hb
      omega
  refine ⟨⟨hv.box.mod hm hv.d2, hv.kept.mod hm fun b hb e => (hv.d5 b hb).2 e, hv.gone.mod hm fun b hb e => hv.d4 b hb e, hs, hv.d1, ?_, hv.d3, ?_, ?_⟩, rfl, ?_, hm.weaken fun b _ e => .inr (.inr (.inl e))⟩
  · exact fun e => hv.d2 (old _ (.inl rfl) e)
  · exact fun b hb e => hv.d4 b hb (old b (.inr (.inl hb)) e)
  · exact fun b hb => ⟨(hv.d5 b hb).1, fun e => (hv.d5 b hb).2 (old b (.inr (.inr (.inr hb))) e)⟩
  · rintro b (h | h | h | h)
    · exact .inl (.inl h)
    · exact .inl (.inr (.inl h))
    · rcases hn b h with h | h
      · exact .inl (.inr (.inr (.inl h)))
      · exact .inr h
    · exact .inl (.inr (.inr (.inr h)))

theorem BoxAt.setBox {z' : St} {cs : List Value} (hv : BoxAt w v z) (hB : Blk w' v.ob cs 70) (hc : cs = bcells v z') (hm : Mod (· = v.ob) w w') (hk : z'.kept = z.kept) (hg : z'.g = z.g) (hh : z'.h = z.h) :
    BoxAt w' v z' ∧ OTo w v w' v :=
  ⟨⟨hc ▸ hB, by rw [hk]; exact hv.kept.mod hm fun b hb e => hv.d3 (e ▸ hb), by rw [hg]; exact hv.gone.mod hm fun b hb e => hv.d1 (e ▸ hb), by rw [hh]; exact hv.here.mod hm fun b hb e => hv.d2 (e ▸ hb), hv.d1, hv.d2, hv.d3, hv.d4, hv.d5⟩,
    rfl, fun b h => .inl h, hm.weaken fun b _ e => .inl e⟩

/-! ### 2. Where it stands -/

def sp (a b : Nat) : Option (Int × Int) := if a < b then some ((a : Int), (b : Int) - 1) else none
/-- bytes ahead of b arrived; those from t to s are lost -/
abbrev aS (bs : List UInt8) (b t s : Nat) (f : Int) : St := ⟨bs.length, b, s, f, bs.drop b, sp t s, sp 0 b⟩

variable {bs : List UInt8} {b t s u : Nat} {f : Int}

theorem aS_written (hb : b ≤ bs.length) : (aS bs b t s f).written = bs.length := by
  show (b : Int) + ((bs.drop b).length : Int) = _
  rw [List.length_drop]
  omega
theorem aS_nb (hl : bs.length ≤ 1048576) (hb : b ≤ bs.length) (hs : s ≤ bs.length) : Nb (aS bs b t s f) :=
  ⟨⟨by show (0 : Int) ≤ b; omega, by show (b : Int) ≤ 4000000; omega⟩, by show (bs.drop b).length ≤ 4000000; rw [List.length_drop]; omega, ⟨by show (0 : Int) ≤ s; omega, by show (s : Int) ≤ 8000000; omega⟩, ⟨by show (0 : Int) ≤ bs.length; omega, by show (bs.length : Int) ≤ 1048576; omega⟩⟩

theorem finish_spec {K : Int → World → Prop} (hv : BoxAt w v z) (hf : z.fin = 0) (h : ∀ w', BoxAt w' v { z with fin := 1 } → OTo w v w' v → K 0 w') : C15 v.ptr w K := by
  refine br15 ?_
  unfold sh15
  refine jn_in (onone_spec hv (ifM.f rfl (nn.mk ?_)))
  rw [add_at]
  refine ldI.mk hv.box rfl (ifM.f (by simp [hf]) (nn.mk ?_))
  rw [add_at]
  refine stV.mk hv.box (by simp) fun w1 B1 m1 => ?_
  obtain ⟨h1, h2⟩ := hv.setBox (z' := { z with fin := 1 }) B1 rfl m1 rfl rfl rfl
  exact h w1 h1 h2

theorem wrong_spec {x : Slc} {n : Nat} {pf : Bool} {K : Int → World → Prop} (hv : BoxAt w v (aS bs b u s f)) (hl : bs.length ≤ 1048576) (hb : b ≤ bs.length) (hs : s ≤ bs.length) (hx : x.len = n) (hn : b + n ≤ s) (hpf : pf = true → b + n = bs.length ∧ f ≠ 0 ∧ f ≠ 1)
    (h : ∀ w', Mod No w w' → K 0 w') : C35 v.ptr #[.int .i64 b, x.v, .bool pf] w K := by
  refine br35 ?_
  unfold sh35
  refine newV.mk fun b3 w1 h3 B3 m1 => jn_in (onone_spec (hv.mod0 m1) (ifM.f rfl (drw.mk fun w2 m2 => jn_in ?_)))
  have m02 := m1.on0 m2
  have hv2 := hv.mod0 m02
  have B3 := B3.mod0 m2
  refine ldI.mk B3 rfl (ifM.f (by simp) (ldI.mk B3 rfl (nn.mk ?_)))
  rw [add_at, add_at]
  refine ldI.mk hv2.box rfl (ldL.mk B3 rfl ?_)
  rw [hx, show (aS bs b u s f).sent = (s : Int) from rfl, wrap_i64 (by omega) (by omega)]
  refine ifM.f (by simp; omega) (drw.mk fun w3 m3 => jn_in ?_)
  have m03 := m02.on0 m3
  have hv3 := hv2.mod0 m3
  have B3 := B3.mod0 m3
  rw [add_at]
  refine ldB.mk B3 rfl ⟨fun hc => ?_, fun hc => ?_⟩
  · obtain ⟨e1, e2, e3⟩ := hpf hc
    refine ldI.mk B3 rfl (ldL.mk B3 rfl (written_spec hv3 (aS_nb hl hb hs) fun w4 m4 => ?_))
    have hv4 := hv3.mod0 m4
    have B3 := B3.mod0 m4
    refine ⟨B3.cell rfl, B3.cell rfl, ?_⟩
    rw [hx, aS_written hb, wrap_i64 (by omega) (by omega)]
    refine ifM.f (by simp; omega) (nn.mk ?_)
    rw [add_at]
    refine ldI.mk hv4.box rfl (ifM.f (by simpa using e2) (nn.mk ?_))
    rw [add_at]
    exact ldI.mk hv4.box rfl (ifM.f (by simpa using e3) (h w4 (m03.on0 m4)))
  · exact ifM.f rfl (h w3 m03)

theorem nextA_spec {m : Nat} {K : Array Value → Bool → World → Prop} (hv : BoxAt w v (aS bs b b s f)) (hl : bs.length ≤ 1048576) (hbs : b ≤ s) (hs : s ≤ bs.length) (hf : f = 1 ∨ f = 3) (hm : m ≤ 2000000) (hm1 : b < bs.length → 1 ≤ m)
    (h : ∀ t w' v' r, b ≤ t → t ≤ bs.length → (b < bs.length → b < t) → BoxAt w' v' (aS bs b t (max s t) (if t = bs.length then 2 else f)) → OTo w v w' v' → Mine w.heap.size w' r ((bs.drop b).take (t - b)) → (∀ c, r.a = some ⟨c, 0, none⟩ → ¬ v'.fp c) →
      K #[.int .i64 b, r.v, .bool (decide (t = bs.length))] true w') : C8 v.ptr m bs.length w K := by
  have hb : b ≤ bs.length := by omega
  have hwr : (aS bs b b s f).written = bs.length := aS_written hb
  -- what is due
  obtain ⟨t, hd, ht1, ht2, ht3, ht4⟩ : ∃ t : Nat, dueB (aS bs b b s f) m bs.length = ((b : Int), (t : Int), true) ∧ b ≤ t ∧ t ≤ bs.length ∧ (b < bs.length → b < t) ∧ (b < s → t ≤ s) := by
    unfold dueB
    rw [if_neg (show ¬ (m : Int) < 0 by omega)]
    by_cases hlt : b < s
    · refine ⟨b + min m (s - b), ?_, by omega, by omega, fun h => by have := hm1 h; omega, fun _ => by omega⟩
      have hg : (aS bs b b s f).g = some ((b : Int), (s : Int) - 1) := if_pos hlt
      rw [hg]
      have e : duTo m b ((s : Int) - 1) = ((b + min m (s - b) : Nat) : Int) := by
        unfold duTo
        rw [wrap_i64 (x := (s : Int) - 1 - b) (by omega) (by omega), wrap_i64 (x := (s : Int) - 1 - b + 1) (by omega) (by omega)]
        rw [wrap_i64 (by split <;> omega) (by split <;> omega)]
        split <;> omega
      have := hm1 (by omega)
      simp only [e, Prod.mk.injEq, true_and, decide_eq_true_eq]
      omega
    · have hg : (aS bs b b s f).g = none := if_neg hlt
      obtain rfl : s = b := by omega
      rw [hg]
      simp only [hwr]
      by_cases hbl : s < bs.length
      · refine ⟨s + min m (bs.length - s), ?_, by omega, by omega, fun h => by have := hm1 h; omega, fun h => absurd h hlt⟩
        rw [if_pos (by omega), if_neg (by omega)]
        have := hm1 hbl
        have e : (s : Int) + (if (if (bs.length : Int) < (bs.length : Int) then (bs.length : Int) else (bs.length : Int)) - (s : Int) < (m : Int) then (if (bs.length : Int) < (bs.length : Int) then (bs.length : Int) else (bs.length : Int)) - (s : Int) else (m : Int)) = ((s + min m (bs.length - s) : Nat) : Int) := by
          split <;> omega
        simp only [e, Prod.mk.injEq, true_and, decide_eq_true_eq]
        omega
      · refine ⟨s, ?_, Nat.le_refl _, hb, fun h => absurd h hbl, fun h => absurd h hlt⟩
        rw [if_neg (by omega)]
        rcases hf with rfl | rfl <;> rfl
  have hfin : finB (aS bs b b s f) (t : Int) = decide (t = bs.length) := by
    unfold finB
    rw [hwr]
    have : ((f == 1) || (f == 3)) = true := by rcases hf with rfl | rfl <;> rfl
    rw [this, Bool.and_true]
    by_cases h : t = bs.length
    · simp [h]
    · have : ¬ (t : Int) = (bs.length : Int) := by omega
      simp [h, this]
  have hD1 : (dueB (aS bs b b s f) m bs.length).1 = (b : Int) := by rw [hd]
  have hD2 : (dueB (aS bs b b s f) m bs.length).2.1 = (t : Int) := by rw [hd]
  have hD3 : (dueB (aS bs b b s f) m bs.length).2.2 = true := by rw [hd]
  refine next_spec (g' := sp t (max s t)) hv (aS_nb hl hb hs) (by omega) ⟨by omega, by omega⟩ ?_ ?_ ?_ ?_ ?_
  · intro _
    rw [hD1, hD2, hwr]
    show (b : Int) ≤ _ ∧ _
    omega
  · intro _ hlt
    rw [hD1, hD2] at hlt ⊢
    intro w K hs' hK
    refine remove_spec hs' (by omega) (by omega) (by omega) ?_ hK
    show RmTo (sp b s) b ((t : Int) - 1) (sp t (max s t))
    by_cases hbs2 : b < s
    · have := ht4 hbs2
      rw [show max s t = s by omega]
      unfold sp
      rw [if_pos hbs2]
      by_cases hts : t < s
      · rw [if_pos hts]
        have := RmTo.front (a := (b : Int)) (b := (t : Int) - 1) (y := (s : Int) - 1) (by omega)
        rwa [show (t : Int) - 1 + 1 = t by omega] at this
      · rw [if_neg hts]
        obtain rfl : t = s := by omega
        exact .all
    · obtain rfl : s = b := by omega
      rw [show max s t = t by omega]
      unfold sp
      rw [if_neg (Nat.lt_irrefl _), if_neg (Nat.lt_irrefl _)]
      exact .none
  · intro _ hlt
    rw [hD1, hD2] at hlt
    obtain rfl : t = b := by omega
    have : ¬ t < s := fun h => by have := ht3 (by omega); omega
    show sp t (max s t) = sp t s
    rw [show max s t = s by omega]
  · intro h
    rw [hD3] at h
    cases h
  · intro _ w' v' r hv' hob hfp hmod hr hrn
    rw [hD1, hD2] at hr ⊢
    rw [hD2] at hv'
    rw [hfin] at hv' ⊢
    refine h t w' v' r ht1 ht2 ht3 ?_ ⟨hob, hfp, hmod⟩ ?_ hrn
    · have e : (if (t : Int) > ((aS bs b b s f).sent : Int) then (t : Int) else (aS bs b b s f).sent) = ((max s t : Nat) : Int) := by
        show (if (t : Int) > (s : Int) then (t : Int) else (s : Int)) = _
        split <;> omega
      rw [e] at hv'
      have e2 : (if decide (t = bs.length) = true then (2 : Int) else (aS bs b b s f).fin) = (if t = bs.length then 2 else f) := by
        by_cases h : t = bs.length <;> simp [h]
      rw [e2] at hv'
      exact hv'
    · have : nextB (aS bs b b s f) (b : Int) (t : Int) = (bs.drop b).take (t - b) := by
        show (List.drop ((b : Int) - (b : Int)).toNat (bs.drop b)).take ((t : Int) - (b : Int)).toNat = _
        rw [show ((b : Int) - (b : Int)).toNat = 0 by omega, show ((t : Int) - (b : Int)).toNat = t - b by omega, List.drop_zero]
      rwa [this] at hr

theorem lost_spec {x : Slc} {pf : Bool} {K : Int → World → Prop} (hv : BoxAt w v (aS bs b t s f)) (hl : bs.length ≤ 1048576) (hbt : b ≤ t) (hts : t ≤ s) (hs : s ≤ bs.length) (hx : x.len = t - b) (hpf : pf = true → t = bs.length ∧ f ≠ 0 ∧ f ≠ 1)
    (h : ∀ w' v', BoxAt w' v' (aS bs b b s (if pf = true ∧ f = 2 then 3 else f)) → OTo w v w' v' → K 0 w') : C21 v.ptr #[.int .i64 b, x.v, .bool pf] w K := by
  refine br21 ?_
  unfold sh21
  have hb : b ≤ bs.length := by omega
  refine newV.mk fun b3 w1 h3 B3 m1 => jn_in (ldA.all B3 rfl (wrong_spec (n := t - b) (hv.mod0 m1) hl hb hs hx (by omega) (fun h => by obtain ⟨e1, e2, e3⟩ := hpf h; exact ⟨by omega, e2, e3⟩) fun w2 m2 => ifM.f rfl ?_))
  have m02 := m1.on0 m2
  have z02 := m02.size
  have hv2 := hv.mod0 m02
  have B3 := B3.mod0 m2
  have l3 := B3.lt
  have ew : IntKind.i64.wrap ((b : Int) + ((x.len : Nat) : Int)) = t := by rw [hx, wrap_i64 (by omega) (by omega)]; omega
  -- what comes behind the loop
  refine jn.mk (fun _ w' => ∃ v', BoxAt w' v' (aS bs b b s f) ∧ OTo w v w' v' ∧ Blk w' b3 [.int .i64 b, x.v, .bool pf] 30) ?_ ?_
  · intro kk hkk
    have fin : ∀ w' v', BoxAt w' v' (aS bs b b s f) → OTo w v w' v' → Blk w' b3 [.int .i64 b, x.v, .bool pf] 30 → ∀ (body : Int → (Int → World → Prop) → World → Prop), True := fun _ _ _ _ _ _ => trivial
    refine ldI.mk B3 rfl (Lp.unroll (jn_in ?_))
    refine ldI.mk B3 rfl ?_
    rw [add_at]
    refine ldL.mk B3 rfl ?_
    rw [ew]
    by_cases hlt : b < t
    · refine ifM.t (by simp; omega) (nn.mk ?_)
      rw [add_at]
      have hgap : gapS (sp 0 b) (b : Int) = b := by
        unfold sp
        split
        · unfold gapS
          simp only
          rw [if_neg (by omega)]
        · rfl
      refine ldP.mk hv2.box rfl (gap_spec hv2.here ⟨by omega, by omega⟩ (fun p hp => by
        have hp : sp 0 b = some p := hp
        unfold sp at hp
        split at hp
        · simp only [Option.some.injEq] at hp
          subst hp
          simp only
          omega
        · cases hp) fun w3 m3 => ?_)
      have hgap' : gapS (aS bs b t s f).h (b : Int) = b := hgap
      rw [hgap']
      have m03 := m02.on0 m3
      have hv3 := hv2.mod0 m3
      have B3 := B3.mod0 m3
      refine jn.mk (fun (a : Int) w' => a = t ∧ Mod No w3 w') ?_ ?_
      · intro kj hkj
        refine Lp.inv (fun (a : Int) w' => ∃ k : Nat, a = (k : Int) ∧ b ≤ k ∧ k ≤ t ∧ Mod No w3 w') (fun a _ => (t - a).toNat) ⟨b, rfl, Nat.le_refl _, hbt, Mod.refl _ _⟩ ?_
        rintro _ w4 ⟨k, rfl, hk1, hk2, m4⟩
        have hv4 := hv3.mod0 m4
        have B4 := B3.mod0 m4
        refine jn_in (jn_in (ldI.mk B4 rfl (ldL.mk B4 rfl ?_)))
        rw [ew]
        by_cases hkt : k < t
        · refine ifM.t (by simp; omega) (nn.mk ?_)
          rw [add_at]
          refine ldP.mk hv4.box rfl (has_spec hv4.here ⟨by omega, by omega⟩ fun w5 m5 => ?_)
          have hh : hasS (aS bs b t s f).h (k : Int) = false := by
            show hasS (sp 0 b) (k : Int) = false
            unfold sp
            split
            · simp [hasS]
              omega
            · rfl
          rw [hh]
          refine ifM.t rfl ?_
          rw [show IntKind.i64.wrap ((k : Int) + 1) = ((k + 1 : Nat) : Int) by rw [wrap_i64 (by omega) (by omega)]; omega]
          exact ⟨⟨k + 1, rfl, by omega, by omega, m4.on0 m5⟩, by omega⟩
        · refine ifM.f (by simp; omega) (ifM.f rfl (hkj _ _ ⟨by omega, m4⟩))
      · rintro _ w4 ⟨rfl, m4⟩
        have hv4 := hv3.mod0 m4
        have B3 := B3.mod0 m4
        have m04 := m03.on0 m4
        refine jn_in (ifM.t (by simp; omega) (nn.mk ?_))
        rw [add_at]
        refine ldP.mk hv4.box rfl ?_
        rw [show IntKind.i64.wrap ((t : Int) - 1) = t - 1 from wrap_i64 (by omega) (by omega)]
        refine add_spec (o' := sp b s) hv4.gone (by omega) (by omega) (by omega) ?_ fun w5 gs' hs5 hn5 m5 => ?_
        · show AdTo (sp t s) b ((t : Int) - 1) (sp b s)
          unfold sp
          rw [if_pos (show b < s by omega)]
          by_cases hts2 : t < s
          · rw [if_pos hts2]
            have := AdTo.touch (x := (t : Int)) (y := (s : Int) - 1) (a := (b : Int)) (b := (t : Int) - 1) (by omega) (by omega)
            rwa [if_neg (by omega), if_pos (by omega)] at this
          · rw [if_neg hts2]
            obtain rfl : t = s := by omega
            exact .new
        · obtain ⟨hv5, o5⟩ := hv4.setGone hs5 hn5 m5
          have B5 := B3.mod m5 fun e => by have := hv.lt b3 (.inr (.inl e)); omega
          refine Lp.unroll (jn_in (ldI.mk B5 rfl (ldL.mk B5 rfl ?_)))
          rw [ew]
          exact ifM.f (by simp) (hkk _ _ ⟨_, hv5, OTo.from0 m04 o5, B5⟩)
    · obtain rfl : t = b := by omega
      exact ifM.f (by simp) (hkk _ _ ⟨v, hv2, OTo.of0 m02, B3⟩)
  · rintro _ w3 ⟨v3, hv3, o3, B3⟩
    rw [show v.ptr = v3.ptr by unfold OF.ptr; rw [o3.ob]]
    refine jn_in ?_
    rw [add_at]
    have no : ¬ (pf = true ∧ f = 2) → K 0 w3 := fun hn => h w3 v3 (by rwa [if_neg hn]) o3
    refine jn_in (ldB.mk B3 rfl ⟨fun hc => nn.mk ?_, fun hc => ifM.f rfl (no fun e => by rw [hc] at e; cases e.1)⟩)
    rw [add_at]
    refine ldI.mk hv3.box rfl ⟨fun hf => nn.mk ?_, fun hf => no fun e => ?_⟩
    · have hf2 : f = 2 := by simpa using hf
      rw [add_at]
      refine stV.mk hv3.box (by simp) fun w4 B4 m4 => ?_
      obtain ⟨hv4, o4⟩ := hv3.setBox (z' := aS bs b b s 3) B4 rfl m4 rfl rfl rfl
      exact h w4 v3 (by rwa [if_pos ⟨hc, hf2⟩]) (o3.trans o4)
    · have : (f == 2) = false := hf
      simp [e.2] at this

theorem acked_spec {x : Slc} {pf : Bool} {K : Int → World → Prop} (hv : BoxAt w v (aS bs b u s f)) (hu : u = b ∨ u = t) (hl : bs.length ≤ 1048576) (hbt : b ≤ t) (hts : t ≤ s) (hs : s ≤ bs.length) (hx : x.len = t - b) (hpf : pf = true → t = bs.length ∧ f ≠ 0 ∧ f ≠ 1)
    (h : ∀ w' v', BoxAt w' v' (aS bs t t s (if pf = true then 4 else f)) → OTo w v w' v' → K 0 w') : C19 v.ptr #[.int .i64 b, x.v, .bool pf] w K := by
  refine br19 ?_
  unfold sh19
  have hb : b ≤ bs.length := by omega
  refine newV.mk fun b3 w1 h3 B3 m1 => jn_in (ldA.all B3 rfl (wrong_spec (n := t - b) (hv.mod0 m1) hl hb hs hx (by omega) (fun h => by obtain ⟨e1, e2, e3⟩ := hpf h; exact ⟨by omega, e2, e3⟩) fun w2 m2 => ifM.f rfl ?_))
  have m02 := m1.on0 m2
  have z02 := m02.size
  have hv2 := hv.mod0 m02
  have B3 := B3.mod0 m2
  have l3 := B3.lt
  have ew : IntKind.i64.wrap (IntKind.i64.wrap ((b : Int) + ((x.len : Nat) : Int)) - 1) = t - 1 := by rw [hx, wrap_i64 (x := (b : Int) + _) (by omega) (by omega), wrap_i64 (by omega) (by omega)]; omega
  have nb3 : ∀ {u : OF} {w' : World}, OTo w v w' u → ¬ u.fp b3 ∨ True := fun _ => .inr trivial
  -- the two sets
  refine jn.mk (fun _ w' => ∃ v', BoxAt w' v' { aS bs b t s f with h := sp 0 t } ∧ OTo w v w' v' ∧ Blk w' b3 [.int .i64 b, x.v, .bool pf] 30 ∧ ¬ v'.fp b3) ?_ ?_
  · intro kk hkk
    rw [add_at]
    refine ldL.mk B3 rfl ?_
    by_cases hlt : b < t
    · refine ifM.t (by simp; omega) (drw.mk fun w3 m3 => nn.mk ?_)
      have hv3 := hv2.mod0 m3
      have B3 := B3.mod0 m3
      have m03 := m02.on0 m3
      rw [add_at]
      refine ldP.mk hv3.box rfl (ldI.mk B3 rfl (ldI.mk B3 rfl ?_))
      rw [ew]
      have n3 : ¬ v.fp b3 := fun e => by have := hv.lt b3 e; omega
      refine add_spec (o' := sp 0 t) hv3.here (by omega) (by omega) (by omega) ?_ fun w4 hs4' hs4 hn4 m4 => ?_
      · show AdTo (sp 0 b) b ((t : Int) - 1) (sp 0 t)
        unfold sp
        rw [if_pos (show 0 < t by omega)]
        by_cases hb0 : 0 < b
        · rw [if_pos hb0]
          have := AdTo.touch (x := ((0 : Nat) : Int)) (y := (b : Int) - 1) (a := (b : Int)) (b := (t : Int) - 1) (by omega) (by omega)
          rwa [if_pos (by omega), if_neg (by omega)] at this
        · rw [if_neg hb0]
          obtain rfl : b = 0 := by omega
          exact .new
      · obtain ⟨hv4, o4⟩ := hv3.setHere hs4 hn4 m4
        have B3 := B3.mod m4 fun e => n3 (.inr (.inr (.inl e)))
        have z3 := m03.size
        have n4 : ¬ OF.fp { v with hs := hs4' } b3 := fun e => by
          rcases o4.fp b3 e with h | h
          · exact n3 h
          · have := B3.lt
            have := m3.size
            omega
        have o04 := OTo.from0 m03 o4
        refine drw.mk fun w5 m5 => nn.mk ?_
        have hv5 := hv4.mod0 m5
        have B3 := B3.mod0 m5
        have o05 := o04.mod0 m5
        rw [add_at]
        refine ldP.mk hv5.box rfl (ldI.mk B3 rfl (ldI.mk B3 rfl ?_))
        rw [ew]
        refine remove_spec (o' := sp t s) hv5.gone (by omega) (by omega) (by omega) ?_ fun w6 gs6 hs6 hn6 m6 => ?_
        · show RmTo (sp u s) b ((t : Int) - 1) (sp t s)
          unfold sp
          rcases hu with rfl | rfl
          · rw [if_pos (show u < s by omega)]
            by_cases hts2 : t < s
            · rw [if_pos hts2]
              have := RmTo.front (a := (u : Int)) (b := (t : Int) - 1) (y := (s : Int) - 1) (by omega)
              rwa [show (t : Int) - 1 + 1 = t by omega] at this
            · rw [if_neg hts2]
              obtain rfl : t = s := by omega
              exact .all
          · by_cases hts2 : u < s
            · rw [if_pos hts2]
              exact .ahead (by omega)
            · rw [if_neg hts2]
              exact .none
        · obtain ⟨hv6, o6⟩ := hv5.setGone hs6 hn6 m6
          have n5 : ¬ sfp (OF.gb { v with hs := hs4' }) (OF.gs { v with hs := hs4' }) b3 := fun e => n4 (.inr (.inl e))
          have l5 := B3.lt
          refine hkk _ _ ⟨_, hv6, o05.trans o6, B3.mod m6 n5, fun e => ?_⟩
          rcases o6.fp b3 e with h | h
          · exact n4 h
          · omega
    · obtain rfl : t = b := by omega
      have e : u = t := by omega
      subst e
      exact ifM.f (by simp; omega) (hkk _ _ ⟨v, hv2, OTo.of0 m02, B3, fun e => by have := hv.lt b3 e; omega⟩)
  · rintro _ w3 ⟨v3, hv3, o3, B3, n3⟩
    rw [show v.ptr = v3.ptr by unfold OF.ptr; rw [o3.ob]]
    -- the end
    refine jn.mk (fun _ w' => BoxAt w' v3 { aS bs b t s (if pf = true then 4 else f) with h := sp 0 t } ∧ OTo w v w' v3) ?_ ?_
    · intro kk hkk
      rw [add_at]
      refine ldB.mk B3 rfl ⟨fun hc => nn.mk ?_, fun hc => hkk _ _ ⟨by rwa [if_neg (by rw [hc]; decide)], o3⟩⟩
      rw [add_at]
      refine stV.mk hv3.box (by simp) fun w4 B4 m4 => ?_
      obtain ⟨hv4, o4⟩ := hv3.setBox (z' := { aS bs b t s 4 with h := sp 0 t }) B4 rfl m4 rfl rfl rfl
      exact hkk _ _ ⟨by rwa [if_pos hc], o3.trans o4⟩
    · rintro _ w4 ⟨hv4, o4⟩
      generalize (if pf = true then (4 : Int) else f) = F at hv4 h
      refine jn_in (drw.mk fun w5 m5 => nn.mk ?_)
      have hv5 := hv4.mod0 m5
      rw [add_at]
      refine ldP.mk hv5.box rfl (nn.mk ?_)
      rw [add_at]
      refine ldI.mk hv5.box rfl (gap_spec hv5.here ⟨by show (0 : Int) ≤ (b : Int); omega, by show (b : Int) ≤ _; omega⟩ (fun p hp => by
        have hp : sp 0 t = some p := hp
        unfold sp at hp
        split at hp
        · simp only [Option.some.injEq] at hp
          subst hp
          simp only
          omega
        · cases hp) fun w6 m6 => ?_)
      have hv6 := hv5.mod0 m6
      have o6 := (o4.mod0 m5).mod0 m6
      have hgap : gapS (sp 0 t) (b : Int) = t := by
        unfold sp
        split
        · unfold gapS
          simp only
          by_cases hbt' : b < t
          · rw [if_pos (by omega)]
            omega
          · rw [if_neg (by omega)]
            omega
        · unfold gapS
          simp only
          omega
      have hgap' : gapS ({ aS bs b t s F with h := sp 0 t } : St).h ({ aS bs b t s F with h := sp 0 t } : St).base = t := hgap
      rw [hgap']
      refine nn.mk ?_
      rw [add_at]
      refine ldI.mk hv6.box rfl ⟨fun hc => drw.mk fun w7 m7 => nn.mk ?_, fun hc => ?_⟩
      · have hlt : b < t := by
          have : (t : Int) > (b : Int) := of_decide_eq_true hc
          omega
        have hv7 := hv6.mod0 m7
        have o7 := o6.mod0 m7
        rw [add_at]
        refine ldL.mk hv7.box rfl (nn.mk ?_)
        rw [add_at]
        refine ldI.mk hv7.box rfl ?_
        have hkl : v3.kp.len = bs.length - b := by
          have h1 := hv7.klen
          have h2 : ({ aS bs b t s F with h := sp 0 t } : St).kept.length = bs.length - b := List.length_drop ..
          omega
        have hkc := hv7.kcap
        rw [show IntKind.i64.wrap ((t : Int) - ({ aS bs b t s F with h := sp 0 t } : St).base) = ((t - b : Nat) : Int) by
          show IntKind.i64.wrap ((t : Int) - (b : Int)) = _
          rw [wrap_i64 (by omega) (by omega)]
          omega]
        refine ⟨by omega, by omega, ?_⟩
        have hsub : RdB w7 (v3.kp.sub 1 ((t - b : Nat) : Int).toNat v3.kp.len v3.kp.cap) (bs.drop t) := by
          have := RdS.sub (lo := t - b) (hi := v3.kp.len) hv7.kept.rd (by omega) (Nat.le_refl _) hkc
          simp only [Nat.mul_one, ← List.map_drop, ← List.map_take] at this
          rw [List.drop_drop, show b + (t - b) = t by omega, List.take_of_length_le (by rw [List.length_drop]; omega)] at this
          exact this
        refine cloneB_spec hsub (by rw [List.length_drop]; omega) fun r w8 hr m8 => nn.mk ?_
        have hv8 := hv7.mod0 m8
        have z7 := m7.size
        rw [add_at]
        have hlt7 := hv7.lt
        refine stV.mk hv8.box (by simp) fun w9 B9 m9 => nn.mk ?_
        rw [add_at]
        refine stV.mk B9 (by simp) fun w10 B10 m10 => ?_
        have m810 : Mod (· = v3.ob) w8 w10 := m9.on m10 fun _ _ e => e
        have hrn : ∀ c, r.a = some ⟨c, 0, none⟩ → ¬ v3.fp c := fun c hc e => by
          have := (hr.new c hc).1
          have := hlt7 c e
          omega
        refine h w10 { v3 with kp := r } ⟨B10, ?_, ?_, ?_, hv8.d1, hv8.d2, ?_, hv8.d4, ?_⟩ (o7.trans ⟨rfl, ?_, ?_⟩)
        · exact hr.own.mod m810 fun c hc e => hrn c hc (.inl e)
        · exact hv8.gone.mod m810 fun c hc e => hv8.d1 (e ▸ hc)
        · exact hv8.here.mod m810 fun c hc e => hv8.d2 (e ▸ hc)
        · exact fun e => hrn _ e (.inl rfl)
        · exact fun c hc => ⟨fun e => hrn c hc (.inr (.inl e)), fun e => hrn c hc (.inr (.inr (.inl e)))⟩
        · rintro c (e | e | e | e)
          · exact .inl (.inl e)
          · exact .inl (.inr (.inl e))
          · exact .inl (.inr (.inr (.inl e)))
          · exact .inr (hr.new c e).1
        · exact (m8.of0.on m810 fun c _ e => .inl e)
      · have : ¬ (t : Int) > (b : Int) := of_decide_eq_false hc
        obtain rfl : t = b := by omega
        exact h w6 v3 hv6 o6
end Go.Proofs.Ytfgodebgjemljaa
