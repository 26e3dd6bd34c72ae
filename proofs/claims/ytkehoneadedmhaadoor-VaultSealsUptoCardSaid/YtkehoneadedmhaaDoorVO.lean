/-
  The vault: a sealed text opened.
-/
import Derived.Test.YtkehoneadedmhaaDoorVH
namespace Go.Proofs.YtkehoneadedmhaaDoor
open Go Go.Sh
set_option linter.unusedVariables false
set_option linter.unusedSimpArgs false

/-! ### 1. Bytes trimmed -/

theorem rdb_at {w : World} {s : Slc} {bs : List UInt8} {i : Nat} {k : Int → Prop} (h : RdB w s bs) (hi : i < bs.length) (hk : k (bs[i].toNat : Int)) : idx 1 s (i : Int) fun p => ldI .u8 p w k := by
  obtain ⟨h1, h2⟩ := h
  obtain ⟨a, n, c⟩ := s
  simp only [List.length_map, Nat.mul_one] at h1 h2
  rcases h2 with ⟨_, h2⟩ | ⟨b, o, rfl, _, hc⟩
  · omega
  refine idx.mk (by omega) (by omega) ⟨_, ?_, hk⟩
  simp only [Int.toNat_natCast, Nat.mul_one]
  rw [hc i hi]
  simp [u8, hi]

theorem txt_take {w : World} {s : Slc} {bs : List UInt8} {m : Nat} (h : Txt w s bs) (hm : m ≤ bs.length) : Txt w (s.sub 1 0 m s.cap) (bs.take m) := by
  obtain ⟨h1, h2, h3⟩ := h
  have hl := h1.len
  have := RdS.sub (lo := 0) (hi := m) h1 (by omega) (by omega) (by omega)
  simp only [Nat.zero_mul, List.drop_zero, Nat.sub_zero, Nat.mul_one, ← List.map_take] at this
  exact ⟨this, by simp [Slc.sub]; omega, by simp; omega⟩

theorem txt_drop {w : World} {s : Slc} {bs : List UInt8} {m : Nat} (h : Txt w s bs) (hm : m ≤ bs.length) : Txt w (s.sub 1 m s.len s.cap) (bs.drop m) := by
  obtain ⟨h1, h2, h3⟩ := h
  have hl := h1.len
  have := RdS.sub (lo := m) (hi := s.len) h1 (by omega) (by omega) (by omega)
  simp only [Nat.mul_one, ← List.map_drop, ← List.map_take] at this
  rw [List.take_of_length_le (by simp; omega)] at this
  exact ⟨this, by simp [Slc.sub]; omega, by simp; omega⟩

theorem trimRight_spec {w : World} {x : Slc} {bs : List UInt8} {c : UInt8} {K : Slc → World → Prop} (hx : Txt w x bs)
    (h : ∀ r m, m ≤ bs.length → Txt w r (bs.take m) → (∀ b ∈ bs.drop m, b = c) → (∀ b, (bs.take m).getLast? = some b → b ≠ c) → K r w) : C45 x (c.toNat : Int) w K := by
  refine br45 ?_
  unfold sh45
  refine jn_in (Lp.inv (fun (s : Slc) w' => w' = w ∧ ∃ m, m ≤ bs.length ∧ Txt w s (bs.take m) ∧ ∀ b ∈ bs.drop m, b = c) (fun s _ => s.len) ⟨rfl, bs.length, Nat.le_refl _, by rw [List.take_length]; exact hx, by simp⟩ ?_)
  rintro s w' ⟨rfl, m, hm, hs, hd⟩
  have hl : s.len = m := by rw [hs.1.len, List.length_take]; omega
  refine jn_in (jn_in ⟨fun hc => ?_, fun hc => ifM.f rfl ?_⟩)
  · have hpos : 0 < m := by have : (s.len : Int) > 0 := of_decide_eq_true hc; omega
    have hb := hx.2.2
    have e1 : IntKind.i64.wrap ((s.len : Int) - 1) = ((m - 1 : Nat) : Int) := by rw [hl, wrap_i64 (by omega) (by omega)]; omega
    rw [e1]
    have hm1 : m - 1 < (bs.take m).length := by rw [List.length_take]; omega
    refine rdb_at hs.1 hm1 ⟨fun hc => ?_, fun hc => ?_⟩
    · have e : bs[m - 1]'(by omega) = c := by
        have : ((bs.take m)[m - 1].toNat : Int) = c.toNat := by simpa using hc
        rw [List.getElem_take] at this
        exact UInt8.toNat_inj.1 (by omega)
      refine ⟨by omega, by have := hs.2.1; omega, ⟨rfl, m - 1, by omega, ?_, ?_⟩, ?_⟩
      · have := txt_take (m := m - 1) hs (by omega)
        rw [List.take_take, Nat.min_eq_left (by omega)] at this
        exact this
      · intro b hb
        rw [List.drop_eq_getElem_cons (by omega), show m - 1 + 1 = m by omega] at hb
        rcases List.mem_cons.1 hb with h' | h'
        · exact h'.trans e
        · exact hd b h'
      · simp [Slc.sub]
        omega
    · refine h s m hm hs hd fun b hb => ?_
      rw [List.getLast?_eq_getElem?, List.getElem?_eq_getElem (by rw [List.length_take]; omega)] at hb
      have hb' := Option.some.inj hb
      intro e
      subst e
      have : (bs.take m).length - 1 = m - 1 := by rw [List.length_take]; omega
      simp only [this] at hb'
      rw [hb'] at hc
      simp at hc
  · have : ¬ (s.len : Int) > 0 := of_decide_eq_false hc
    have e : m = 0 := by omega
    subst e
    exact h s 0 hm hs hd fun b hb => by simp at hb

theorem trimLeft_spec {w : World} {x : Slc} {bs : List UInt8} {c : UInt8} {K : Slc → World → Prop} (hx : Txt w x bs)
    (h : ∀ r m, m ≤ bs.length → r.len = bs.length - m → (∀ b ∈ bs.take m, b = c) → (∀ b, (bs.drop m).head? = some b → b ≠ c) → K r w) : C44 x (c.toNat : Int) w K := by
  refine br44 ?_
  unfold sh44
  refine jn.mk (fun s w' => w' = w ∧ ∃ m, m ≤ bs.length ∧ s.len = bs.length - m ∧ (∀ b ∈ bs.take m, b = c) ∧ ∀ b, (bs.drop m).head? = some b → b ≠ c) ?_ ?_
  · intro kk hkk
    refine Lp.inv (fun (s : Slc) w' => w' = w ∧ ∃ m, m ≤ bs.length ∧ Txt w s (bs.drop m) ∧ ∀ b ∈ bs.take m, b = c) (fun s _ => s.len) ⟨rfl, 0, by omega, by simpa using hx, by simp⟩ ?_
    rintro s w' ⟨rfl, m, hm, hs, hd⟩
    have hl : s.len = bs.length - m := by rw [hs.1.len, List.length_drop]
    refine jn_in (jn_in ⟨fun hc => ?_, fun hc => ifM.f rfl ?_⟩)
    · have hpos : 0 < bs.length - m := by have : (s.len : Int) > 0 := of_decide_eq_true hc; omega
      have h0 : 0 < (bs.drop m).length := by rw [List.length_drop]; omega
      refine rdb_at (i := 0) hs.1 h0 ⟨fun hc => ?_, fun hc => ?_⟩
      · have e : bs[m]'(by omega) = c := by
          have : ((bs.drop m)[0].toNat : Int) = c.toNat := by simpa using hc
          rw [List.getElem_drop] at this
          exact UInt8.toNat_inj.1 (by simp only [Nat.add_zero] at this; omega)
        refine ⟨by omega, by omega, ⟨rfl, m + 1, by omega, ?_, ?_⟩, ?_⟩
        · have := txt_drop (m := 1) hs (by omega)
          rw [List.drop_drop] at this
          exact this
        · intro b hb
          rw [List.take_add_one, List.getElem?_eq_getElem (by omega)] at hb
          rcases List.mem_append.1 hb with h' | h'
          · exact hd b h'
          · have := List.mem_singleton.1 (by simpa using h')
            exact this.trans e
        · simp [Slc.sub]
          omega
      · refine hkk s _ ⟨rfl, m, hm, hl, hd, fun b hb => ?_⟩
        rw [List.head?_eq_getElem?, List.getElem?_eq_getElem h0] at hb
        have hb' := Option.some.inj hb
        intro e
        subst e
        rw [hb'] at hc
        simp at hc
    · have : ¬ (s.len : Int) > 0 := of_decide_eq_false hc
      refine hkk s _ ⟨rfl, m, hm, hl, hd, fun b hb => ?_⟩
      rw [List.drop_eq_nil_of_le (by omega)] at hb
      cases hb
  · rintro s _ ⟨rfl, m, hm, hl, hd, hh⟩
    refine jn_in ⟨fun hc => ?_, fun hc => h s m hm hl hd hh⟩
    have : (s.len : Int) = 0 := by simpa using hc
    have e : m = bs.length := by omega
    subst e
    exact h Slc.nil _ (Nat.le_refl _) (by simp [Slc.nil]) hd hh

theorem trim_spec {w : World} {x : Slc} {bs : List UInt8} {K : Slc → World → Prop} (hx : Txt w x bs)
    (h : ∀ r w', Mod No w w' → (r.len = 0 ↔ ∀ b ∈ bs, b = 0) → K r w') : C18 x (⟨#[0]⟩ : ByteArray) w K := by
  refine br18 ?_
  unfold sh18
  have hl := hx.1.len
  refine jn_in ⟨fun hc => ?_, fun hc => ?_⟩
  · have : (x.len : Int) = 0 := by simpa using hc
    have e : bs = [] := List.eq_nil_of_length_eq_zero (by omega)
    subst e
    exact h _ _ (Mod.refl _ _) (by simp [Slc.nil])
  · refine jn_in (ifM.f (by decide +kernel) (jn_in (ifM.t (by decide) ?_)))
    refine ⟨by omega, by decide, _, rfl, (ifM.t (by decide) (drw.mk fun w2 hm2 => ⟨by omega, by decide, _, rfl, by omega, by decide, _, rfl, ?_⟩))⟩
    have hx2 := hx.mod0 hm2
    show C45 x ((0 : UInt8).toNat : Int) w2 _
    refine trimRight_spec hx2 fun r m hm hr hd hlast => ?_
    show C44 r ((0 : UInt8).toNat : Int) w2 _
    refine trimLeft_spec hr fun r' m' hm' hl' hd' hh' => h r' w2 hm2 ?_
    constructor
    · intro e b hb
      have e' : m' = (bs.take m).length := by omega
      subst e'
      rw [List.take_length] at hd'
      rw [← List.take_append_drop m bs] at hb
      exact (List.mem_append.1 hb).elim (hd' b) (hd b)
    · intro ha
      rw [hl']
      rcases Nat.lt_or_ge m' (bs.take m).length with hlt | hge
      · exfalso
        have h0 : (List.drop m' (bs.take m)).head? = some ((bs.take m)[m']) := by rw [List.head?_drop, List.getElem?_eq_getElem hlt]
        exact hh' _ h0 (ha _ (List.mem_of_mem_take (List.getElem_mem hlt)))
      · omega

/-! ### 2. Opened -/

def OpenOk (V : List Term) (k number : Int) (ab bb : List UInt8) (t : Term) : Prop :=
  16 ≤ bb.length ∧ (∃ s : Nat, lastN V.length (winH bb (bb.length - 16)) = some (s : Int) ∧ V[s]? = some t) ∧ t = ⟨6, k, 0, number, ⟨#[]⟩, ⟨ab.toArray⟩, t.bytes⟩ ∧ t.bytes.size = bb.length - 16 ∧ ∀ b ∈ bb.take (bb.length - 16), b = 0

theorem win_end {w : World} {x : Slc} {bs : List UInt8} {k : Array Value → Prop} (ht : Txt w x bs) (h1 : 16 ≤ bs.length) (h : k ((winH bs (bs.length - 16)).1.map u8).toArray) :
    (0 : Int) ≤ ((bs.length - 16 : Nat) : Int) ∧ ((bs.length - 16 : Nat) : Int) ≤ (x.len : Int) ∧ (16 ≤ (x.sub 1 (bs.length - 16) x.len x.cap).len) ∧ nn ((x.sub 1 (bs.length - 16) x.len x.cap).a) fun p => ldA 16 p w k := by
  have hl := ht.1.len
  obtain ⟨g0, g1, g2, g3, g4⟩ := win_mk (i := ((bs.length - 16 : Nat) : Int)) ht (by omega) (by omega) h
  have e : (((bs.length - 16 : Nat) : Int) + 16).toNat = x.len := by omega
  rw [e, Int.toNat_natCast] at g3 g4
  exact ⟨g0, by omega, g3, g4⟩

theorem bytes_len (b : ByteArray) : b.size = b.data.toList.length := by simp

theorem Open_spec {w : World} {v : VF} {V : List Term} {key : Hd} {number : Int} {also b : Slc} {ab bb : List UInt8} {K : Slc → Int → World → Prop} (hv : VaultAt w v V) (hw : WfV V) (hVl : V.length < 1000000000)
    (ha : RdB w also ab) (hb : Txt w b bb)
    (hnone : lastN V.length key = none → ∀ w', Mod No w w' → K Slc.nil 15 w') (harg : number < 0 → ∀ w', Mod No w w' → K Slc.nil 2 w')
    (hbad : ∀ k, lastN V.length key = some k → 0 ≤ number → (∀ t, ¬ OpenOk V k number ab bb t) → ∀ w', Mod No w w' → K Slc.nil 20 w')
    (hok : ∀ k t, lastN V.length key = some k → 0 ≤ number → OpenOk V k number ab bb t → ∀ w' r, Mod No w w' → Txt w' r t.bytes.data.toList → K r 0 w') :
    C8 v.ptr (key.1.map u8).toArray number also b w K := by
  refine br8 ?_
  unfold sh8
  refine newV.mk fun bk w1 hbk hBk hm1 => ?_
  have hv1 := hv.mod0 hm1
  refine jn_in (none_spec hv1 (ifM.f rfl ?_))
  refine drw.mk fun w2 hm2 => nn.mk ?_
  have hv2 := hv1.mod0 hm2
  rw [add_at]
  refine ldM.mk hv2.box rfl (ldA.all (hBk.mod0 hm2) (by simp [key.2]) ?_)
  have hM2 : Mod No w w2 := hm1.on0 hm2
  have hl := hb.1.len
  have hbig := hb.2.2
  have e1 : IntKind.i64.wrap ((b.len : Int) - 16) = (bb.length : Int) - 16 := by rw [hl, wrap_i64 (by omega) (by omega)]
  rw [e1]
  refine ⟨_, _, run_lookup keyHandle Tryd.runUnderlying49 zero_int hv2.names key, ?_⟩
  cases hk : lastN V.length key with
  | none => exact jn_in (ifM.t rfl (hnone hk w2 hM2))
  | some k =>
    refine jn_in (ifM.f rfl ⟨fun hc => harg (of_decide_eq_true hc) w2 hM2, fun hc => ?_⟩)
    have hn : 0 ≤ number := by have : ¬ number < 0 := of_decide_eq_false hc; omega
    refine ⟨fun hc => hbad k hk hn (fun t h => ?_) w2 hM2, fun hc => ?_⟩
    · have : (bb.length : Int) - 16 < 0 := of_decide_eq_true hc
      have := h.1
      omega
    · have h16 : 16 ≤ bb.length := by have : ¬ (bb.length : Int) - 16 < 0 := of_decide_eq_false hc; omega
      have e2 : (bb.length : Int) - 16 = ((bb.length - 16 : Nat) : Int) := by omega
      rw [e2]
      refine drw.mk fun w3 hm3 => nn.mk ?_
      have hv3 := hv2.mod0 hm3
      have hM3 : Mod No w w3 := hM2.on0 hm3
      rw [add_at]
      refine ldM.mk hv3.box rfl ?_
      simp only [Int.toNat_natCast, Option.getD_some]
      refine win_end (hb.mod0 hM3) h16 ?_
      refine ⟨_, _, run_lookup keyHandle Tryd.runUnderlying49 zero_int hv3.names (winH bb (bb.length - 16)), ?_⟩
      cases hs : lastN V.length (winH bb (bb.length - 16)) with
      | none =>
        refine jn_in (ifM.t rfl (hbad k hk hn (fun t h => ?_) w3 hM3))
        obtain ⟨s, h1, _⟩ := h.2.1
        rw [hs] at h1
        cases h1
      | some sI =>
        have hsb := lastN_lt hs
        obtain ⟨s, rfl⟩ := Int.eq_ofNat_of_zero_le hsb.1
        have hsn : s < V.length := by omega
        have hV := List.getElem?_eq_getElem hsn
        generalize V[s] = t at hV
        have htV : t ∈ V := List.mem_of_getElem? hV
        refine jn_in (ifM.f rfl (nn.mk (ldL.mk hv3.box rfl ?_)))
        simp only [Option.getD_some]
        refine rd_at hv3.terms.rd cells_len (by omega) hV fun _ _ _ => ?_
        refine newV.mk fun bt w4 hbt hB4 hm4 => ?_
        refine stA.all hB4 rfl rfl (fun x hx => t.cells_one x (by simpa using hx)) fun w5 hB5 hm5 => ?_
        have hs4 := hm4.size
        have hs5 := hm5.size
        have hbt4 := hB4.lt
        have hM5 : Mod No w w5 := hM3.on0 (hm4.onNew hm5 hbt)
        have ha5 : RdB w5 also ab := ha.mod hM5 fun _ _ _ h => h
        refine ⟨_, run_b2s Tryd.underlying22 Tryd.underlying5 Tryd.underlying9 ha5, ?_⟩
        rw [add_at]
        refine ldS.mk hB5 rfl ?_
        refine newV.mk fun bw w6 hbw hB6 hm6 => ?_
        have hs6 := hm6.size
        have hbw6 := hB6.lt
        let want : Term := ⟨6, k, 0, number, ⟨#[]⟩, ⟨ab.toArray⟩, t.bytes⟩
        refine stA.all (vs := want.cells.toArray) hB6 rfl rfl (fun x hx => want.cells_one x (by simpa using hx)) fun w7 hB7 hm7 => ?_
        have hM7 : Mod No w w7 := hM5.on0 (hm6.onNew hm7 hbw)
        have hB57 : Blk w7 bt t.cells 55 := (hB5.mod0 hm6).ne hm7 (by omega)
        -- what follows
        refine jn.mk (fun _ w' => Mod No w w' ∧ Blk w' bt t.cells 55 ∧ OpenOk V k number ab bb t) ?_ ?_
        · intro kk hkk
          refine jn.mk (fun c w' => Mod No w w' ∧ Blk w' bt t.cells 55 ∧ (c = false ↔ OpenOk V k number ab bb t)) ?_ ?_
          · intro kk2 hkk2
            refine ldA.all hB57 rfl (ldA.all hB7 rfl ?_)
            obtain ⟨d, LT⟩ := keyTerm
            refine ⟨decide (t = want), fun w => LT.eq t want w, ⟨fun hc => ?_, fun hc => ?_⟩⟩
            · refine hkk2 _ _ ⟨hM7, hB57, fun h => (by cases h), fun h => ?_⟩
              have : t ≠ want := by simpa using hc
              exact absurd h.2.2.1 this
            · have hteq : t = want := by simpa using hc
              refine ldS.mk hB57 rfl ⟨fun hc => ?_, fun hc => ?_⟩
              · refine hkk2 _ _ ⟨hM7, hB57, fun h => (by cases h), fun h => ?_⟩
                have h1 := h.2.2.2.1
                rw [h1] at hc
                simp at hc
              · have hsz : t.bytes.size = bb.length - 16 := by
                  have : (t.bytes.size : Int) = ((bb.length - 16 : Nat) : Int) := by simpa using hc
                  omega
                refine ⟨by omega, by have := hb.2.1; omega, ?_⟩
                refine trim_spec (txt_take (m := bb.length - 16) (hb.mod0 hM7) (by omega)) fun r w8 hm8 hr => hkk2 _ _ ⟨hM7.on0 hm8, hB57.mod0 hm8, ?_⟩
                have hr' : (decide ((r.len : Int) > 0) = false) ↔ r.len = 0 := by
                  rw [decide_eq_false_iff_not]
                  omega
                rw [hr', hr]
                exact ⟨fun h => ⟨h16, ⟨s, hs, hV⟩, hteq, hsz, h⟩, fun h => h.2.2.2.2⟩
          · rintro c w8 ⟨hM8, hB8, hcc⟩
            refine ⟨fun hc => hbad k hk hn (fun t' h => ?_) w8 hM8, fun hc => hkk _ _ ⟨hM8, hB8, hcc.1 hc⟩⟩
            obtain ⟨s', h1, h2⟩ := h.2.1
            rw [hs] at h1
            have : s = s' := Int.ofNat.inj (Option.some.inj h1)
            subst this
            rw [hV] at h2
            have := Option.some.inj h2
            subst this
            rw [hcc.2 h] at hc
            cases hc
        · rintro _ w8 ⟨hM8, hB8, hO⟩
          refine ldS.mk hB8 rfl ?_
          have hby : t.bytes = ⟨t.bytes.data.toList.toArray⟩ := by simp
          obtain ⟨r, w9, bx, hr9, hsa, hsl, hown, hmd9, hbx, hbx'⟩ := run_s2b (P := Tryd.prog) (w := w8) (bs := t.bytes.data.toList) Tryd.runUnderlying22 Tryd.runUnderlying5 Tryd.runUnderlying9
          rw [← hby] at hr9
          refine ⟨r, w9, hr9, hok k t hk hn hO w9 r (hM8.on0 hmd9) ⟨hown.rd, by rcases hown.2 with rfl | ⟨_, _, _, _, _, h⟩ <;> simp_all, hw.bytes t htV⟩⟩
end Go.Proofs.YtkehoneadedmhaaDoor
