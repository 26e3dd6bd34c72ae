/-
  The vault: what is hidden, what is spied.
-/
import Derived.Test.YtkehoneadedmhaaDoorVG
namespace Go.Proofs.YtkehoneadedmhaaDoor
open Go Go.Sh
set_option linter.unusedVariables false
set_option linter.unusedSimpArgs false

/-- a name that is hidden from who knows k -/
def HidW (V : List Term) (k : List Bool) (h : Hd) : Prop := (∃ n, lastN V.length h = some (Int.ofNat n) ∧ ¬ kn k n) ∨ (lastN V.length h = none ∧ isNameB h = true)
def Hid (V : List Term) (k : List Bool) (bs : List UInt8) : Prop := ∃ i, i + 16 ≤ bs.length ∧ HidW V k (winH bs i)

theorem Hidden_spec {w : World} {v : VF} {V : List Term} {b a : Slc} {bs : List UInt8} {xs : List (Slc × List UInt8)} {K : Bool → World → Prop} (hv : VaultAt w v V) (hw : WfV V) (hVl : V.length < 1000000000)
    (hb : Txt w b bs) (ha : RdS w 1 a (xs.map (·.1.v))) (hxl : xs.length < 1000000000000) (hx : ∀ x ∈ xs, Txt w x.1 x.2)
    (h : ∀ w' r k, Mod No w w' → k.length = V.length → (∀ n, kn k n ↔ Kn V (xs.map (·.2)) n) → (r = true ↔ Hid V k bs) → K r w') :
    C10 v.ptr b a w K := by
  refine br10 ?_
  unfold sh10
  refine jn_in (none_spec hv (ifM.f rfl ?_))
  refine knows_spec hv hw hVl ha hxl hx fun w1 sb kb k tds hm1 hbox hkb hkl hkn => ?_
  have hlen : (b.len : Int) = bs.length := by rw [hb.1.len]
  have hbig := hb.2.2
  refine jn_in ?_
  refine Lp.inv (fun (s : Int) w' => 0 ≤ s ∧ s ≤ bs.length ∧ Mod No w1 w' ∧ ∀ i : Nat, (i : Int) < s → i + 16 ≤ bs.length → ¬ HidW V k (winH bs i)) (fun s _ => (bs.length - s).toNat) ⟨by omega, by omega, Mod.refl _ _, fun i hi => by omega⟩ ?_
  rintro s w2 ⟨h0, hsl, hm2, hno⟩
  have e1 : IntKind.i64.wrap (s + 16) = s + 16 := wrap_i64 (by omega) (by omega)
  have e2 : IntKind.i64.wrap (s + 1) = s + 1 := wrap_i64 (by omega) (by omega)
  rw [e1, e2, hlen]
  refine ⟨fun hc => ?_, fun hc => ?_⟩
  · have hs : s + 16 ≤ bs.length := of_decide_eq_true hc
    obtain ⟨i, rfl⟩ := Int.eq_ofNat_of_zero_le h0
    have hmw2 : Mod No w w2 := hm1.on0 hm2
    refine jn_in (win_mk (hb.mod0 hmw2) h0 hs ?_)
    simp only [Int.toNat_natCast]
    refine newV.mk fun bt w3 hbt hB3 hm3 => ?_
    refine stA.all hB3 rfl (by simp [(winH bs i).2]) (fun x hx => u8_one (l := (winH bs i).1) x (by simpa using hx)) fun w4 hB4 hm4 => ?_
    refine drw.mk fun w5 hm5 => nn.mk ?_
    rw [add_at]
    have hm25 : Mod No w2 w5 := (hm3.onNew hm4 hbt).on0 hm5
    have hm15 : Mod No w1 w5 := hm2.on0 hm25
    have hmw5 : Mod No w w5 := hm1.on0 hm15
    have hv5 := hv.mod0 hmw5
    have hB5 := hB4.mod0 hm5
    refine ldM.mk hv5.box rfl (ldA.all hB5 (by simp [(winH bs i).2]) ?_)
    have hlook := run_lookup keyHandle Tryd.runUnderlying49 zero_int hv5.names (winH bs i)
    refine ⟨_, _, hlook, ?_⟩
    refine jn.mk (fun r w' => Mod No w1 w' ∧ (r = true ↔ HidW V k (winH bs i))) ?_ ?_
    · intro kk hkk
      refine ⟨fun hc => ?_, fun hc => ?_⟩
      · obtain ⟨n, hn⟩ := Option.isSome_iff_exists.1 hc
        have hbn := lastN_lt hn
        rw [hn]
        obtain ⟨m, rfl⟩ := Int.eq_ofNat_of_zero_le hbn.1
        refine nn.mk ?_
        rw [add_at]
        refine ldL.mk (hbox.mod0 hm15) rfl (idx.mk (by simp) (by simp; omega) ?_)
        simp only [Option.getD_some, Int.toNat_natCast, Nat.mul_one, Nat.zero_add]
        have hw' : HidW V k (winH bs i) ↔ ¬ kn k m := by
          unfold HidW
          rw [hn]
          constructor
          · rintro (⟨n, hn', h⟩ | ⟨h, _⟩)
            · have := Int.ofNat.inj (Option.some.inj hn')
              exact this ▸ h
            · cases h
          · exact fun h => .inl ⟨m, rfl, h⟩
        refine ldB.mk (hkb.mod0 hm15) (bool_at (by omega)) ⟨fun hc => ?_, fun hc => ifM.f rfl ?_⟩
        · refine hkk _ _ ⟨hm15, ?_⟩
          rw [hw', ← getD_kn]
          simp only [Bool.not_eq_true'] at hc
          simp [hc]
        · refine hkk _ _ ⟨hm15, ?_⟩
          rw [hw', ← getD_kn]
          simp only [Bool.not_eq_false'] at hc
          simp [hc]
      · have hn : lastN V.length (winH bs i) = none := by simpa using hc
        rw [hn]
        have hw' : HidW V k (winH bs i) ↔ isNameB (winH bs i) = true := by
          unfold HidW
          rw [hn]
          constructor
          · rintro (⟨n, hn', h⟩ | ⟨h, h'⟩)
            · cases hn'
            · exact h'
          · exact fun h => .inr ⟨rfl, h⟩
        refine ifM.t rfl (ldA.all hB5 (by simp [(winH bs i).2]) ?_)
        refine isName_spec fun w6 hm6 => hkk _ _ ⟨hm15.on0 hm6, hw'.symm⟩
    · rintro r w6 ⟨hm6, hr⟩
      refine ⟨fun hcr => ?_, fun hcr => ⟨⟨by omega, by omega, hm6, fun j hj hj' => ?_⟩, by omega⟩⟩
      · exact h w6 true k (hm1.on0 hm6) hkl hkn ⟨fun _ => ⟨i, by omega, hr.1 hcr⟩, fun _ => rfl⟩
      · by_cases e : j = i
        · subst e
          intro h'
          rw [hr.2 h'] at hcr
          cases hcr
        · exact hno j (by omega) hj'
  · have hs : ¬ s + 16 ≤ bs.length := of_decide_eq_false hc
    refine h w2 false k (hm1.on0 hm2) hkl hkn ⟨fun h => (by cases h), fun ⟨i, hi, h'⟩ => absurd h' (hno i (by omega) hi)⟩

/-! ### Spied -/

instance (k : List Bool) (n : Nat) : Decidable (kn k n) := inferInstanceAs (Decidable (k[n]? = some true))
def spiedT (V : List Term) (k : List Bool) (n : Nat) : List (List UInt8) :=
  match V[n]? with
  | some t => if t.kind = 6 ∧ kn k n ∧ kn k t.a.toNat then [t.bytes.data.toList] else []
  | none => []
def spiedL (V : List Term) (k : List Bool) (m : Nat) : List (List UInt8) := (List.range m).flatMap (spiedT V k)
theorem spiedL_succ (V : List Term) (k : List Bool) (m : Nat) : spiedL V k (m + 1) = spiedL V k m ++ spiedT V k m := by simp [spiedL, List.range_succ]

/-- a list of texts of the call's own -/
def SL (w0 w : World) (l : Slc) (ys : List (Slc × List UInt8)) : Prop :=
  OwnS w 22 1 l (ys.map (·.1.v)) ∧ (∀ b, l.a = some ⟨b, 0, none⟩ → w0.heap.size ≤ b ∧ b < w.heap.size) ∧
  ∀ x ∈ ys, ∃ b, x.1.a = some ⟨b, 0, none⟩ ∧ w0.heap.size ≤ b ∧ b < w.heap.size ∧ l.a ≠ some ⟨b, 0, none⟩ ∧ Txt w x.1 x.2
theorem SL.nil (w0 w : World) : SL w0 w Slc.nil [] := ⟨OwnS.nil .., fun b h => (by cases h), fun x h => (by cases h)⟩
theorem SL.mod0 {w0 w w' : World} {l : Slc} {ys : List (Slc × List UInt8)} (h : SL w0 w l ys) (hm : Mod No w w') : SL w0 w' l ys :=
  ⟨h.1.mod hm fun _ _ h => h, fun b hb => ⟨(h.2.1 b hb).1, Nat.lt_of_lt_of_le (h.2.1 b hb).2 hm.size⟩, fun x hx => by
    obtain ⟨b, e, g1, g2, g3, g4⟩ := h.2.2 x hx
    exact ⟨b, e, g1, Nat.lt_of_lt_of_le g2 hm.size, g3, g4.mod0 hm⟩⟩
theorem SL.base {w w0 w' : World} {l : Slc} {ys : List (Slc × List UInt8)} (h : SL w0 w' l ys) (hs : w.heap.size ≤ w0.heap.size) : SL w w' l ys :=
  ⟨h.1, fun b hb => ⟨Nat.le_trans hs (h.2.1 b hb).1, (h.2.1 b hb).2⟩, fun x hx => by
    obtain ⟨b, e, g1, g⟩ := h.2.2 x hx
    exact ⟨b, e, Nat.le_trans hs g1, g⟩⟩
theorem SL.len {w0 w : World} {l : Slc} {ys : List (Slc × List UInt8)} (h : SL w0 w l ys) : l.len = ys.length := by have := h.1.1; simpa using this.symm

/-- one more text -/
theorem SL.push {w0 w w' : World} {l l' s : Slc} {ys : List (Slc × List UInt8)} {bs : List UInt8} {bx : Nat} (h : SL w0 w l ys) (hs : s.a = some ⟨bx, 0, none⟩) (hb : w0.heap.size ≤ bx) (hb' : bx < w.heap.size) (hl : l.a ≠ some ⟨bx, 0, none⟩) (ht : Txt w s bs)
    (ho : OwnS w' 22 1 l' (ys.map (·.1.v) ++ [s.v])) (hm : Mod (fun b => l.a = some ⟨b, 0, none⟩) w w') (hp : l'.a = l.a ∨ ∃ b, l'.a = some ⟨b, 0, none⟩ ∧ w.heap.size ≤ b ∧ b < w'.heap.size) (hw : w0.heap.size ≤ w.heap.size) : SL w0 w' l' (ys ++ [(s, bs)]) := by
  have hsz := hm.size
  refine ⟨by rw [List.map_append]; exact ho, fun b hb2 => ?_, fun x hx => ?_⟩
  · rcases hp with e | ⟨c, e, hc, hc'⟩
    · have := h.2.1 b (e ▸ hb2)
      omega
    · rw [e] at hb2
      have : c = b := by simpa using hb2
      omega
  · have key : ∀ b, w0.heap.size ≤ b → b < w.heap.size → l.a ≠ some ⟨b, 0, none⟩ → l'.a ≠ some ⟨b, 0, none⟩ := fun b g1 g2 g3 => by
      rcases hp with e | ⟨c, e, hc, hc'⟩
      · exact e ▸ g3
      · rw [e]
        intro e'
        have : c = b := by simpa using e'
        omega
    have tx : ∀ (x : Slc × List UInt8) b, x.1.a = some ⟨b, 0, none⟩ → l.a ≠ some ⟨b, 0, none⟩ → Txt w x.1 x.2 → Txt w' x.1 x.2 := fun x b e g3 g4 => by
      refine g4.mod hm fun c o' e' h' => ?_
      rw [e] at e'
      have : b = c := by simp at e'; exact e'.1
      exact g3 (this ▸ h')
    rcases List.mem_append.1 hx with hx | hx
    · obtain ⟨b, e, g1, g2, g3, g4⟩ := h.2.2 x hx
      exact ⟨b, e, g1, by omega, key b g1 g2 g3, tx x b e g3 g4⟩
    · have := List.mem_singleton.1 hx
      subst this
      exact ⟨bx, hs, hb, by omega, key bx hb hb' hl, tx (s, bs) bx hs hl ht⟩

theorem Spied_spec {w : World} {v : VF} {V : List Term} {a : Slc} {xs : List (Slc × List UInt8)} {K : Slc → World → Prop} (hv : VaultAt w v V) (hw : WfV V) (hVl : V.length < 1000000000)
    (ha : RdS w 1 a (xs.map (·.1.v))) (hxl : xs.length < 1000000000000) (hx : ∀ x ∈ xs, Txt w x.1 x.2)
    (h : ∀ w' r k ys, Mod No w w' → k.length = V.length → (∀ n, kn k n ↔ Kn V (xs.map (·.2)) n) → SL w w' r ys → ys.map (·.2) = spiedL V k V.length → K r w') :
    C9 v.ptr a w K := by
  refine br9 ?_
  unfold sh9
  refine jn_in (none_spec hv (ifM.f rfl ?_))
  refine knows_spec hv hw hVl ha hxl hx fun w1 sb kb k tds hm1 hbox hkb hkl hkn => ?_
  refine jn_in (nn.mk ?_)
  have hv1 := hv.mod0 hm1
  refine ldL.mk hv1.box rfl ?_
  have hlenV := hv.len
  refine Lp.inv (fun (s : Slc × Int) w' => 0 ≤ s.2 ∧ s.2 ≤ V.length ∧ Mod No w1 w' ∧ ∃ ys, SL w1 w' s.1 ys ∧ ys.length ≤ s.2.toNat ∧ ys.map (·.2) = spiedL V k s.2.toNat) (fun s _ => (V.length - s.2).toNat) ⟨by simp, by simp, Mod.refl _ _, [], SL.nil .., by simp, rfl⟩ ?_
  rintro ⟨l, s⟩ w2 ⟨h0, hsl, hm2, ys, hS, hyl, hys⟩
  simp only at h0 hsl hS hyl hys ⊢
  rw [hlenV]
  refine ⟨fun hc => ?_, fun hc => ?_⟩
  · have hs : s < V.length := of_decide_eq_true hc
    obtain ⟨n, rfl⟩ := Int.eq_ofNat_of_zero_le h0
    simp only [Int.toNat_natCast] at hyl hys
    have hn : n < V.length := by omega
    have hV := List.getElem?_eq_getElem hn
    generalize V[n] = t at hV
    have htV : t ∈ V := List.mem_of_getElem? hV
    have hta := hw.a t htV
    have e1 : IntKind.i64.wrap ((n : Int) + 1) = ((n + 1 : Nat) : Int) := wrap_i64 (by omega) (by omega)
    rw [e1]
    have hmw2 : Mod No w w2 := hm1.on0 hm2
    have hv2 := hv.mod0 hmw2
    refine jn_in (rd_at hv2.terms.rd cells_len (by omega) hV fun _ _ _ => ?_)
    refine newV.mk fun bt w3 hbt hB3 hm3 => ?_
    refine stA.all hB3 rfl rfl (fun x hx => t.cells_one x (by simpa using hx)) fun w4 hB4 hm4 => ?_
    refine drw.mk fun w5 hm5 => ?_
    have hm25 : Mod No w2 w5 := (hm3.onNew hm4 hbt).on0 hm5
    have hm15 : Mod No w1 w5 := hm2.on0 hm25
    have hB5 := hB4.mod0 hm5
    have hS5 := hS.mod0 hm25
    refine jn.mk (fun c w' => w' = w5 ∧ (c = true ↔ t.kind = 6 ∧ kn k n ∧ kn k t.a.toNat)) ?_ ?_
    · intro kk hkk
      have ldk : ∀ {i : Int} {k' : Bool → Prop}, 0 ≤ i ∧ i < k.length → k' (k[i.toNat]?.getD false) → idx 1 (own kb k.length) i fun p => ldB p w5 k' := fun {i k'} hi h => by
        refine idx.mk hi.1 hi.2 ?_
        rw [Nat.mul_one, Nat.zero_add]
        exact ldB.mk (hkb.mod0 hm15) (bool_at (by omega)) h
      refine ldI.mk hB5 rfl ⟨fun hc1 => ?_, fun hc1 => hkk _ _ ⟨rfl, by simp only [beq_eq_false_iff_ne, ne_eq] at hc1; simp [hc1]⟩⟩
      have ht6' : t.kind = 6 := by simpa using hc1
      refine nn.mk ?_
      rw [add_at]
      refine ldL.mk (hbox.mod0 hm15) rfl (ldk (by omega) ⟨fun hc2 => ?_, fun hc2 => hkk _ _ ⟨rfl, by simp only [Int.toNat_natCast] at hc2; simp [← getD_kn, hc2]⟩⟩)
      have hk1 : kn k n := getD_kn.1 hc2
      refine nn.mk ?_
      rw [add_at]
      refine ldL.mk (hbox.mod0 hm15) rfl ?_
      rw [add_at]
      refine ldI.mk hB5 rfl (ldk (by omega) (hkk _ _ ⟨rfl, ?_⟩))
      rw [getD_kn]
      simp [ht6', hk1]
    · rintro c w5 ⟨rfl, hcc⟩
      refine ⟨fun hc1 => ?_, fun hc1 => ?_⟩
      · have hcd := hcc.1 hc1
        rw [add_at]
        refine ldS.mk hB5 rfl ?_
        have hby : t.bytes = ⟨t.bytes.data.toList.toArray⟩ := by simp
        obtain ⟨s, w6, bx, hr6, hsa, hsl', hown, hm6, hbx, hbx'⟩ := run_s2b (P := Tryd.prog) (w := w5) (bs := t.bytes.data.toList) Tryd.runUnderlying22 Tryd.runUnderlying5 Tryd.runUnderlying9
        rw [← hby] at hr6
        refine ⟨s, w6, hr6, ?_⟩
        refine newV.mk fun bp w7 hbp hB7 hm7 => ?_
        have hS7 := (hS5.mod0 hm6).mod0 hm7
        have hrd : RdS w7 1 (Slc.mk (some ⟨bp, 0, none⟩) 1 1) [s.v] := ⟨rfl, .inr ⟨bp, 0, rfl, fun _ => hB7.lt, fun i hi => by rw [Nat.zero_add]; exact hB7.cell' i⟩⟩
        have hl3 := hS7.len
        obtain ⟨l', w8, hr8, hown8, hlen8, hm8, hpl⟩ := run_append (t := 31) (t' := 31) elBytes Tryd.runUnderlying31 Tryd.runUnderlying31 (fun k h => by cases h) hS7.1 hrd (by intro v hv; rw [List.mem_singleton.1 hv]; rfl)
          (by show (2 * (l.len + 1) + 192) * 24 ≤ _; omega) (by omega)
        refine ⟨l', w8, hr8, ?_⟩
        have z2 := hm2.size
        have z5 := hm25.size
        have z6 := hm6.size
        have z7 := hm7.size
        have hto : Txt w6 s t.bytes.data.toList := ⟨hown.rd, by rcases hown.2 with rfl | ⟨_, _, _, _, _, h⟩ <;> simp_all, hw.bytes t htV⟩
        have hS8 := hS7.push (w' := w8) hsa (by omega) (by omega) (fun e => by have := (hS5.2.1 _ e).2; omega) (hto.mod0 hm7) hown8 hm8 hpl (by omega)
        refine ⟨⟨by omega, by omega, ?_, _, hS8, by simp; omega, ?_⟩, by omega⟩
        · refine ((hm15.on0 hm6).on0 hm7).on hm8 fun b hb h => ?_
          have := (hS.2.1 b h).1
          omega
        · rw [Int.toNat_natCast, spiedL_succ, List.map_append, hys]
          simp [spiedT, hV, hcd]
      · refine ⟨⟨by omega, by omega, hm15, ys, hS5, by simp; omega, ?_⟩, by omega⟩
        rw [Int.toNat_natCast, spiedL_succ, hys]
        have : ¬ (t.kind = 6 ∧ kn k n ∧ kn k t.a.toNat) := fun h => by
          rw [hcc.2 h] at hc1
          cases hc1
        simp [spiedT, hV, this]
  · have hs : ¬ s < V.length := of_decide_eq_false hc
    have e : s = V.length := by omega
    subst e
    exact h w2 l k ys (hm1.on0 hm2) hkl hkn (hS.base hm1.size) (by simpa using hys)
end Go.Proofs.YtkehoneadedmhaaDoor
