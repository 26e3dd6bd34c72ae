/-
  The vault: what somebody knows; texts that are read.
-/
import Derived.Test.YtkehoneadedmhaaDoorVC
namespace Go.Proofs.YtkehoneadedmhaaDoor
open Go Go.Sh
set_option linter.unusedVariables false
set_option linter.unusedSimpArgs false

/-! ### 1. Names of any number -/

def unmixZ (z : Int) : Int :=
  let z := IntKind.u64.wrap ((bitsZ .xor .u64 (bitsZ .xor .u64 z (shrZ .u64 z 31)) (shrZ .u64 z 62)) * 3573116690164977347)
  let z := IntKind.u64.wrap ((bitsZ .xor .u64 (bitsZ .xor .u64 z (shrZ .u64 z 27)) (shrZ .u64 z 54)) * 10871156337175269513)
  IntKind.u64.wrap ((IntKind.u64.wrap ((bitsZ .xor .u64 (bitsZ .xor .u64 z (shrZ .u64 z 30)) (shrZ .u64 z 60)) * 17428512612931826493)) - 1)

theorem unmix_spec {x : Int} {w : World} {K : Int → World → Prop} (h : K (unmixZ x) w) : C55 x w K := br55 h

def halfS (a : Int) (b : UInt8) : Int := bitsZ .or .u64 (shlZ .u64 a 8) (IntKind.u64.wrap b.toNat)
def halfF (l : List UInt8) : Int := l.foldl halfS 0
def isNameB (h : Hd) : Bool := (((unmixZ (halfF (h.1.take 8))).tmod 2) == 0) && (mixZ (IntKind.u64.wrap (unmixZ (halfF (h.1.take 8)) + 1)) == halfF (h.1.drop 8))

theorem half_step {l : List UInt8} {i : Nat} (hi : i < l.length) : halfS (halfF (l.take i)) l[i] = halfF (l.take (i + 1)) := by
  unfold halfF
  rw [List.take_add_one, List.getElem?_eq_getElem hi, List.foldl_append]
  rfl

theorem isName_spec {h : Hd} {w : World} {K : Bool → World → Prop} (hk : ∀ w', Mod No w w' → K (isNameB h) w') : C20 (h.1.map u8).toArray w K := by
  refine br20 ?_
  unfold sh20
  refine newV.mk fun b1 w1 hb1 hB1 hm1 => newV.mk fun b2 w2 hb2 hB2 hm2 => ?_
  have hs1 := hm1.size
  have hs2 := hm2.size
  refine jn_in ?_
  refine ldA.all (hB1.mod0 hm2) (by simp [h.2]) ?_
  refine Lp.inv (fun (s : Int) w' => 0 ≤ s ∧ s ≤ 16 ∧ Blk w' b2 [.int .u64 (halfF (h.1.take (min s.toNat 8))), .int .u64 (halfF ((h.1.drop 8).take (s.toNat - 8)))] 101 ∧ Mod No w w') (fun s _ => (16 - s).toNat) ⟨by omega, by omega, hB2, hm1.on0 hm2⟩ ?_
  rintro s w' ⟨h0, h16, hB, hm⟩
  have hlen := h.2
  refine jn_in ⟨fun hc => ?_, fun hc => ?_⟩
  · have hs : s < 16 := of_decide_eq_true hc
    refine jn_in ⟨h0, hs, ?_⟩
    obtain ⟨i, rfl⟩ := Int.eq_ofNat_of_zero_le h0
    simp only [Int.toNat_natCast] at hB ⊢
    have hl : i < h.1.length := by omega
    refine ⟨(h.1[i].toNat : Int), by simp [hl, u8], ?_⟩
    have e8 : IntKind.i64.wrap ((i : Int).tdiv 8) = ((i / 8 : Nat) : Int) := by
      rw [Int.tdiv_eq_ediv_of_nonneg h0]
      rw [wrap_i64 (by omega) (by omega)]
      omega
    rw [e8]
    have e81 : i / 8 < 2 := by omega
    refine idxA.mk (by omega) (by omega) ?_
    simp only [Nat.mul_one, Nat.zero_add, Int.toNat_natCast]
    have e9 : IntKind.i64.wrap ((i : Int) + 1) = ((i + 1 : Nat) : Int) := wrap_i64 (by omega) (by omega)
    by_cases hi8 : i < 8
    · have e82 : i / 8 = 0 := by omega
      rw [e82]
      refine ldI.mk hB rfl (idxA.mk (by omega) (by omega) ?_)
      simp only [Nat.mul_one, Nat.zero_add, Int.toNat_natCast]
      refine stV.mk hB (by simp) fun w3 hB3 hm3 => ?_
      rw [e9]
      refine ⟨⟨by omega, by omega, ?_, hm.onNew hm3 (by omega)⟩, by omega⟩
      have := half_step hl
      unfold halfS at this
      simp only [List.set_cons_zero, Nat.min_eq_left (show i ≤ 8 by omega), this, show i - 8 = 0 by omega] at hB3
      simp only [Int.toNat_natCast, Nat.min_eq_left (show i + 1 ≤ 8 by omega), show i + 1 - 8 = 0 by omega]
      exact hB3
    · have e82 : i / 8 = 1 := by omega
      rw [e82]
      refine ldI.mk hB rfl (idxA.mk (by omega) (by omega) ?_)
      simp only [Nat.mul_one, Nat.zero_add, Int.toNat_natCast]
      refine stV.mk hB (by simp) fun w3 hB3 hm3 => ?_
      rw [e9]
      refine ⟨⟨by omega, by omega, ?_, hm.onNew hm3 (by omega)⟩, by omega⟩
      have := half_step (l := h.1.drop 8) (i := i - 8) (by simp; omega)
      unfold halfS at this
      simp only [List.getElem_drop, show 8 + (i - 8) = i by omega] at this
      simp only [List.set_cons_zero, List.set_cons_succ, Nat.min_eq_right (show 8 ≤ i by omega), this] at hB3
      simp only [Int.toNat_natCast, Nat.min_eq_right (show 8 ≤ i + 1 by omega), show i + 1 - 8 = i - 8 + 1 by omega]
      exact hB3
  · have hs : ¬ s < 16 := of_decide_eq_false hc
    have e1 : s = 16 := by omega
    subst e1
    have f1 : (h.1.drop 8).take (Int.toNat 16 - 8) = h.1.drop 8 := List.take_of_length_le (by simp; omega)
    have f2 : min (Int.toNat 16) 8 = 8 := rfl
    rw [f1, f2] at hB
    refine idxA.mk (by omega) (by omega) (ldI.mk hB rfl (unmix_spec ?_))
    refine drw.mk fun w3 hm3 => jn_in ⟨fun hc => ?_, fun hc => ?_⟩
    · have hB3 := hB.mod0 hm3
      refine idxA.mk (by omega) (by omega) (ldI.mk hB3 rfl (mix_spec ⟨hB3.cell rfl, ?_⟩))
      have := hk w3 (hm.on0 hm3)
      unfold isNameB at this
      rw [hc, Bool.true_and] at this
      exact this
    · have := hk w3 (hm.on0 hm3)
      unfold isNameB at this
      rw [hc, Bool.false_and] at this
      exact this

/-! ### 2. Sixteen bytes of a text -/

def winH (bs : List UInt8) (i : Nat) : Hd := if h : i + 16 ≤ bs.length then ⟨(bs.drop i).take 16, by simp; omega⟩ else ⟨List.replicate 16 0, by simp⟩
theorem winH_eq {bs : List UInt8} {i : Nat} (h : i + 16 ≤ bs.length) : (winH bs i).1 = (bs.drop i).take 16 := by simp [winH, h]

/-- a text: bytes of a slice, no longer than its room -/
def Txt (w : World) (x : Slc) (bs : List UInt8) : Prop := RdB w x bs ∧ x.len ≤ x.cap ∧ bs.length < 4611686018427387904
theorem Txt.mod0 {w w' : World} {x : Slc} {bs : List UInt8} (h : Txt w x bs) (hm : Mod No w w') : Txt w' x bs := ⟨h.1.mod hm fun _ _ _ h => h, h.2⟩

theorem win_mk {w : World} {x : Slc} {bs : List UInt8} {i : Int} {k : Array Value → Prop} (ht : Txt w x bs) (h0 : 0 ≤ i) (h1 : i + 16 ≤ bs.length) (h : k ((winH bs i.toNat).1.map u8).toArray) :
    0 ≤ i ∧ i ≤ i + 16 ∧ i + 16 ≤ (x.cap : Int) ∧ (16 ≤ (x.sub 1 i.toNat ((i + 16).toNat) x.cap).len) ∧ nn ((x.sub 1 i.toNat ((i + 16).toNat) x.cap).a) fun p => ldA 16 p w k := by
  obtain ⟨h2, h3, h4⟩ := ht
  have hl := h2.len
  have hsub := RdS.sub (lo := i.toNat) (hi := (i + 16).toNat) h2 (by omega) (by omega) (by omega)
  have e16 : (i + 16).toNat - i.toNat = 16 := by omega
  have hlen : (x.sub 1 i.toNat ((i + 16).toNat) x.cap).len = 16 := by simpa [Slc.sub] using e16
  refine ⟨h0, by omega, by omega, by rw [hlen]; omega, ?_⟩
  obtain ⟨h5, h6⟩ := hsub
  rw [hlen] at h5 h6
  rcases h6 with ⟨_, h6⟩ | ⟨b, o, ha, _, hc⟩
  · omega
  · rw [ha]
    refine nn.mk ⟨_, ⟨?_, fun j hj => ?_⟩, h⟩
    · simp [(winH bs i.toNat).2]
    · rw [add_at, hc j (by omega), winH_eq (by omega)]
      simp [e16, List.map_take, List.map_drop]

/-! ### 3. What can be known -/

/-- a name stands in a text -/
def Win (bs : List UInt8) (h : Hd) : Prop := ∃ i, i + 16 ≤ bs.length ∧ winH bs i = h

inductive Kn (V : List Term) (seen : List (List UInt8)) : Nat → Prop
  | root : Kn V seen 0
  | seen {bs h n} : bs ∈ seen → Win bs h → lastN V.length h = some (Int.ofNat n) → Kn V seen n
  | made {n t} : V[n]? = some t → t.kind = 2 ∨ t.kind = 3 ∨ t.kind = 5 ∨ t.kind = 4 → Kn V seen t.a.toNat → Kn V seen n
  | madeB {n t} : V[n]? = some t → t.kind = 4 → Kn V seen t.b.toNat → Kn V seen n
  | opened {s t h n} : V[s]? = some t → t.kind = 6 → Kn V seen s → Kn V seen t.a.toNat → Win t.bytes.data.toList h → lastN V.length h = some (Int.ofNat n) → Kn V seen n

def kn (k : List Bool) (n : Nat) : Prop := k[n]? = some true
theorem kn_set {k : List Bool} {i n : Nat} (hi : i < k.length) : kn (k.set i true) n ↔ n = i ∨ kn k n := by
  unfold kn
  rw [List.getElem?_set]
  by_cases h : i = n
  · subst h; simp [hi]
  · have : ¬ n = i := fun e => h e.symm
    simp [h, this]

/-- what somebody reads who knows k -/
def Reads (n : Nat) (bs : List UInt8) (k : List Bool) : Prop := ∀ h i, Win bs h → lastN n h = some (Int.ofNat i) → kn k i

/-! ### 4. Somebody, in memory -/

structure Spy where
  cb : Nat
  sb : Nat
  vc : Nat
  oc : Nat
  kb : Nat
  ob : Nat

def Spy.fp (y : Spy) (b : Nat) : Prop := b = y.cb ∨ b = y.sb ∨ b = y.vc ∨ b = y.oc ∨ b = y.kb ∨ b = y.ob

abbrev own (b n : Nat) : Slc := ⟨some ⟨b, 0, none⟩, n, n⟩

structure SpyAt (w0 w : World) (y : Spy) (v : VF) (k : List Bool) (tds : Slc) : Prop where
  mod : Mod No w0 w
  cell : Blk w y.cb [.pointer (some ⟨y.sb, 0, none⟩)] 58
  box : Blk w y.sb [.pointer v.ptr, (own y.kb k.length).v, tds.v] 62
  vcell : Blk w y.vc [.pointer v.ptr] 23
  known : Blk w y.kb (k.map .bool) 4
  nd : [y.cb, y.sb, y.vc, y.oc, y.kb, y.ob].Nodup
  ge : ∀ b, y.fp b → w0.heap.size ≤ b

theorem SpyAt.on {w0 w w' : World} {S : Nat → Prop} {y : Spy} {v : VF} {k : List Bool} {tds : Slc} (h : SpyAt w0 w y v k tds) (hm : Mod S w w') (h1 : ∀ b, y.fp b → ¬ S b) (h2 : ∀ b, b < w0.heap.size → ¬ S b) : SpyAt w0 w' y v k tds where
  mod := h.mod.on hm fun b hb hs => h2 b hb hs
  cell := h.cell.mod hm (h1 _ (.inl rfl))
  box := h.box.mod hm (h1 _ (.inr (.inl rfl)))
  vcell := h.vcell.mod hm (h1 _ (.inr (.inr (.inl rfl))))
  known := h.known.mod hm (h1 _ (.inr (.inr (.inr (.inr (.inl rfl))))))
  nd := h.nd
  ge := h.ge
theorem SpyAt.on0 {w0 w w' : World} {y : Spy} {v : VF} {k : List Bool} {tds : Slc} (h : SpyAt w0 w y v k tds) (hm : Mod No w w') : SpyAt w0 w' y v k tds := h.on hm (fun _ _ h => h) fun _ _ h => h

theorem SpyAt.lt {w0 w : World} {y : Spy} {v : VF} {k : List Bool} {tds : Slc} (h : SpyAt w0 w y v k tds) : y.cb < w.heap.size ∧ y.sb < w.heap.size ∧ y.vc < w.heap.size ∧ y.kb < w.heap.size := ⟨h.cell.lt, h.box.lt, h.vcell.lt, h.known.lt⟩

theorem Spy.ne {y : Spy} (h : [y.cb, y.sb, y.vc, y.oc, y.kb, y.ob].Nodup) : (y.cb ≠ y.sb ∧ y.cb ≠ y.vc ∧ y.cb ≠ y.oc ∧ y.cb ≠ y.kb ∧ y.cb ≠ y.ob) ∧ (y.sb ≠ y.vc ∧ y.sb ≠ y.oc ∧ y.sb ≠ y.kb ∧ y.sb ≠ y.ob) ∧ (y.vc ≠ y.oc ∧ y.vc ≠ y.kb ∧ y.vc ≠ y.ob) ∧ (y.oc ≠ y.kb ∧ y.oc ≠ y.ob) ∧ y.kb ≠ y.ob := by
  simpa using h

/-- known[i] = true -/
theorem stKnown {w0 w : World} {y : Spy} {v : VF} {k : List Bool} {tds : Slc} {i : Nat} {K : World → Prop} (h : SpyAt w0 w y v k tds) (hi : i < k.length) (hk : ∀ w', SpyAt w0 w' y v (k.set i true) tds → Mod (· = y.kb) w w' → K w') : stV ⟨y.kb, 0 + i * 1, none⟩ (.bool true) w K := by
  rw [Nat.mul_one, Nat.zero_add]
  refine stV.mk h.known (by simpa using hi) fun w' hB hm => hk w' ?_ hm
  have hne := Spy.ne h.nd
  have hg := h.ge y.kb (.inr (.inr (.inr (.inr (.inl rfl)))))
  refine ⟨h.mod.onNew hm hg, h.cell.ne hm (by omega), ?_, h.vcell.ne hm (by omega), ?_, h.nd, h.ge⟩
  · have := h.box.ne hm (by omega)
    simpa using this
  · have : (k.map Value.bool).set i (.bool true) = (k.set i true).map .bool := by rw [List.map_set]
    rw [← this]; exact hB

/-! ### 5. A text is read -/

theorem read_spec {w0 w : World} {y : Spy} {v : VF} {V : List Term} {k : List Bool} {tds x : Slc} {bs : List UInt8} {K : World → Prop} (hv : VaultAt w0 v V) (hy : SpyAt w0 w y v k tds) (hl : k.length = V.length)
    (hx : ∀ w', Mod (· = y.kb) w w' → Txt w' x bs)
    (h : ∀ w' k', SpyAt w0 w' y v k' tds → k'.length = V.length → Mod (· = y.kb) w w' → (∀ n, kn k' n ↔ kn k n ∨ ∃ h, Win bs h ∧ lastN V.length h = some (Int.ofNat n)) → K w') :
    C53 (some ⟨y.sb, 0, none⟩) x w K := by
  refine br53 ?_
  unfold sh53
  have hlen : (x.len : Int) = bs.length := by rw [(hx w (Mod.refl _ _)).1.len]
  have hbig := (hx w (Mod.refl _ _)).2.2
  refine Lp.inv (fun (s : Int) w' => 0 ≤ s ∧ s ≤ bs.length ∧ Mod (· = y.kb) w w' ∧ ∃ k', SpyAt w0 w' y v k' tds ∧ k'.length = V.length ∧ (∀ n, kn k' n ↔ kn k n ∨ ∃ i : Nat, i < s ∧ i + 16 ≤ bs.length ∧ lastN V.length (winH bs i) = some (Int.ofNat n)))
    (fun s _ => (bs.length - s).toNat) ⟨by omega, by omega, Mod.refl _ _, k, hy, hl, fun n => ⟨.inl, fun h => h.elim id fun ⟨i, hi, _⟩ => by omega⟩⟩ ?_
  rintro s w1 ⟨h0, hsl, hm, k', hy', hl', hk'⟩
  have e1 : IntKind.i64.wrap (s + 16) = s + 16 := wrap_i64 (by omega) (by omega)
  have e2 : IntKind.i64.wrap (s + 1) = s + 1 := wrap_i64 (by omega) (by omega)
  rw [e1, e2, hlen]
  refine jn_in ⟨fun hc => ?_, fun hc => ?_⟩
  · have hs : s + 16 ≤ bs.length := of_decide_eq_true hc
    refine jn_in (drw.mk fun w2 hm2 => nn.mk ?_)
    have hy2 := hy'.on0 hm2
    refine ldP.mk hy2.box rfl (nn.mk ?_)
    rw [add_at]
    have hv2 := hv.mod0 hy2.mod
    refine ldM.mk hv2.box rfl ?_
    have hM2 : Mod (· = y.kb) w w2 := hm.on0 hm2
    refine win_mk (hx w2 hM2) h0 hs ?_
    have hlook := run_lookup keyHandle Tryd.runUnderlying49 zero_int hv2.names (winH bs s.toNat)
    refine ⟨_, _, hlook, fun hc => ?_, fun hc => ?_⟩
    · obtain ⟨n, hn⟩ := Option.isSome_iff_exists.1 hc
      have hb := lastN_lt hn
      rw [hn]
      refine nn.mk ?_
      rw [add_at]
      refine ldL.mk hy2.box rfl (idx.mk hb.1 (by simp; omega) ?_)
      obtain ⟨m, rfl⟩ := Int.eq_ofNat_of_zero_le hb.1
      refine stKnown hy2 (by simp only [Option.getD_some, Int.toNat_natCast]; omega) fun w3 hy3 hm3 => ?_
      refine ⟨⟨by omega, by omega, hM2.on hm3 fun _ _ h => h, _, hy3, by simpa using hl', fun n => ?_⟩, by omega⟩
      rw [kn_set (by simp only [Option.getD_some, Int.toNat_natCast]; omega), hk' n]
      simp only [Option.getD_some, Int.toNat_natCast]
      constructor
      · rintro (rfl | h | ⟨i, hi, h⟩)
        · exact .inr ⟨s.toNat, by omega, by omega, hn⟩
        · exact .inl h
        · exact .inr ⟨i, by omega, h⟩
      · rintro (h | ⟨i, hi, hi', h⟩)
        · exact .inr (.inl h)
        · by_cases e : (i : Int) = s
          · subst e
            simp only [Int.toNat_natCast] at hn
            rw [hn] at h
            have := Option.some.inj h
            exact .inl (Int.ofNat.inj this.symm)
          · exact .inr (.inr ⟨i, by omega, hi', h⟩)
    · have hn : lastN V.length (winH bs s.toNat) = none := by simpa using hc
      refine ⟨⟨by omega, by omega, hM2, k', hy2, hl', fun n => ?_⟩, by omega⟩
      rw [hk' n]
      refine or_congr Iff.rfl ⟨fun ⟨i, hi, h⟩ => ⟨i, by omega, h⟩, fun ⟨i, hi, hi', h⟩ => ⟨i, ?_, hi', h⟩⟩
      by_cases e : (i : Int) = s
      · subst e
        simp only [Int.toNat_natCast] at hn
        rw [hn] at h
        cases h
      · omega
  · have hs : ¬ s + 16 ≤ bs.length := of_decide_eq_false hc
    refine h w1 k' hy' hl' hm fun n => ?_
    rw [hk' n]
    refine or_congr Iff.rfl ⟨fun ⟨i, hi, hi', h⟩ => ⟨_, ⟨i, hi', rfl⟩, h⟩, fun ⟨_, ⟨i, hi', rfl⟩, h⟩ => ⟨i, by omega, hi', h⟩⟩

/-! ### 6. A term that can be made -/

def reachB (k : List Bool) (t : Term) : Bool :=
  if t.kind = 2 ∨ t.kind = 3 ∨ t.kind = 5 then k[t.a.toNat]?.getD false else if t.kind = 4 then k[t.a.toNat]?.getD false || k[t.b.toNat]?.getD false else false

theorem bool_at {k : List Bool} {i : Nat} (hi : i < k.length) : (k.map Value.bool)[i]? = some (.bool (k[i]?.getD false)) := by simp [hi]

theorem reaches_spec {w0 w : World} {y : Spy} {v : VF} {k : List Bool} {tds : Slc} {t : Term} {K : Bool → World → Prop} (hy : SpyAt w0 w y v k tds) (ha : 0 ≤ t.a ∧ t.a < k.length) (hb : 0 ≤ t.b ∧ t.b < k.length)
    (h : ∀ w', Mod No w w' → K (reachB k t) w') : C54 (some ⟨y.sb, 0, none⟩) t.cells.toArray w K := by
  refine br54 ?_
  unfold sh54
  refine newV.mk fun b w1 hb1 hB hm1 => ?_
  refine jn_in (ldI.mk hB rfl (jn_in ?_))
  have hA : ∀ w2, Mod No w1 w2 → (ldI .i64 ((⟨b, 0, none⟩ : Addr).add 1) w2 fun x => x = t.a) := fun w2 hm => by rw [add_at]; exact ldI.mk (hB.mod0 hm) rfl rfl
  have lda : ∀ {w2} {k' : Int → Prop}, Mod No w1 w2 → k' t.a → ldI .i64 ((⟨b, 0, none⟩ : Addr).add 1) w2 k' := fun hm h => by rw [add_at]; exact ldI.mk (hB.mod0 hm) rfl h
  have ldb : ∀ {w2} {k' : Int → Prop}, Mod No w1 w2 → k' t.b → ldI .i64 ((⟨b, 0, none⟩ : Addr).add 2) w2 k' := fun hm h => by rw [add_at]; exact ldI.mk (hB.mod0 hm) rfl h
  have ldk : ∀ {w2} {i : Int} {k' : Bool → Prop}, Mod No w1 w2 → 0 ≤ i ∧ i < k.length → k' (k[i.toNat]?.getD false) → idx 1 (own y.kb k.length) i fun p => ldB p w2 k' := fun {w2 i k'} hm hi h => by
    refine idx.mk hi.1 hi.2 ?_
    rw [Nat.mul_one, Nat.zero_add]
    exact ldB.mk ((hy.on0 hm1).on0 hm).known (bool_at (by omega)) h
  have hbx : ∀ w2, Mod No w1 w2 → Blk w2 y.sb [.pointer v.ptr, (own y.kb k.length).v, tds.v] 62 := fun w2 hm => ((hy.on0 hm1).on0 hm).box
  have one1 : ∀ {R : Prop}, (t.kind = 2 ∨ t.kind = 3 ∨ t.kind = 5 → R) → (t.kind ≠ 2 → t.kind ≠ 3 → t.kind ≠ 5 → R) → R := fun f g => by
    by_cases h : t.kind = 2 ∨ t.kind = 3 ∨ t.kind = 5
    · exact f h
    · exact g (by omega) (by omega) (by omega)
  have body1 : (t.kind = 2 ∨ t.kind = 3 ∨ t.kind = 5) → drw w1 fun w24 => nn (some (⟨y.sb, 0, none⟩ : Addr)) fun p25 => ldL (p25.add 1) w24 fun t26 => ldI .i64 ((⟨b, 0, none⟩ : Addr).add 1) w24 fun t27 => idx 1 t26 t27 fun p28 => ldB p28 w24 fun t30 => K t30 w24 := fun hk => by
    refine drw.mk fun w2 hm2 => nn.mk ?_
    rw [add_at]
    refine ldL.mk (hbx w2 hm2) rfl (lda hm2 (ldk hm2 ha ?_))
    have := h w2 (hm1.on0 hm2)
    rwa [reachB, if_pos hk] at this
  refine one1 (fun hk => ?_) fun h2 h3 h5 => ?_
  · refine ⟨fun c => ifM.t c (body1 hk), fun c => ⟨fun c' => ifM.t c' (body1 hk), fun c' => ?_⟩⟩
    simp only [beq_eq_false_iff_ne, ne_eq] at c c'
    refine ifM.t (by simpa using (by omega : t.kind = 5)) (body1 hk)
  · refine ifM.f (by simpa using h2) (ifM.f (by simpa using h3) (ifM.f (by simpa using h5) ⟨fun c => ?_, fun c => ?_⟩))
    · have h4 : t.kind = 4 := by simpa using c
      have hr : reachB k t = (k[t.a.toNat]?.getD false || k[t.b.toNat]?.getD false) := by simp [reachB, h4]
      refine drw.mk fun w2 hm2 => jn_in (nn.mk ?_)
      rw [add_at]
      refine ldL.mk (hbx w2 hm2) rfl (lda hm2 (ldk hm2 ha ⟨fun e => ?_, fun e => nn.mk ?_⟩))
      · have := h w2 (hm1.on0 hm2)
        rwa [hr, e, Bool.true_or] at this
      · rw [add_at]
        refine ldL.mk (hbx w2 hm2) rfl (ldb hm2 (ldk hm2 hb ?_))
        have := h w2 (hm1.on0 hm2)
        rwa [hr, e, Bool.false_or] at this
    · have h4 : t.kind ≠ 4 := by simpa using c
      have := h w1 hm1
      rwa [reachB, if_neg (by omega), if_neg h4] at this
end Go.Proofs.YtkehoneadedmhaaDoor
