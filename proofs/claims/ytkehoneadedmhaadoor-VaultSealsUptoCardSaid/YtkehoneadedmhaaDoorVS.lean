/-
  VaultSeals: the law's walk.
-/
import Derived.Test.YtkehoneadedmhaaDoorVK
import Derived.Test.YtkehoneadedmhaaDoorVO
namespace Go.Proofs.YtkehoneadedmhaaDoor
open Go Go.Sh
set_option linter.unusedVariables false
set_option linter.unusedSimpArgs false

/-! ### 1. Bytes of the call's own -/

def Mine (w0 w : World) (s : Slc) (bs : List UInt8) : Prop := OwnS w 5 1 s (bs.map u8) ∧ ∀ b, s.a = some ⟨b, 0, none⟩ → w0.heap.size ≤ b

theorem Mine.mod {w0 w w' : World} {S : Nat → Prop} {s : Slc} {bs : List UInt8} (h : Mine w0 w s bs) (hm : Mod S w w') (hs : ∀ b, s.a = some ⟨b, 0, none⟩ → ¬ S b) : Mine w0 w' s bs := ⟨h.1.mod hm hs, h.2⟩
theorem Mine.mod0 {w0 w w' : World} {s : Slc} {bs : List UInt8} (h : Mine w0 w s bs) (hm : Mod No w w') : Mine w0 w' s bs := h.mod hm fun _ _ h => h
theorem Mine.txt {w0 w : World} {s : Slc} {bs : List UInt8} (h : Mine w0 w s bs) (hl : bs.length < 4611686018427387904) : Txt w s bs := ⟨h.1.rd, by rcases h.1.2 with e | ⟨_, _, _, _, _, h⟩ <;> simp_all, hl⟩
theorem Mine.empty {w0 w : World} {b : Nat} (hB : Blk w b [] 5) (hb : w0.heap.size ≤ b) : Mine w0 w (Slc.mk (some ⟨b, 0, none⟩) 0 0) [] :=
  ⟨⟨rfl, .inr ⟨b, [], rfl, hB, rfl, Nat.le_refl _⟩⟩, fun c hc => (show b = c by simpa using hc) ▸ hb⟩

theorem Mine.app {w0 w : World} {s x : Slc} {bs ys : List UInt8} (h : Mine w0 w s bs) (hx : RdB w x ys) (hl : bs.length + ys.length < 1000000000000) (hw : w0.heap.size ≤ w.heap.size) :
    ∃ (s' : Slc) (w' : World), (∀ ty, (Builtin.append_ #[22, 22] ty #[s.v, x.v]).run Tryd.prog w = .ok s'.v w') ∧ Mine w0 w' s' (bs ++ ys) ∧ Mod (fun b => s.a = some ⟨b, 0, none⟩) w w' := by
  have h1 := h.1.1
  have h2 := hx.len
  rw [List.length_map, Nat.mul_one] at h1
  obtain ⟨s', w', hr, ho, _, hm, hp, _⟩ := run_append' (t := 22) (t' := 22) elByte Tryd.runUnderlying22 Tryd.runUnderlying22 (fun k h => by cases h) h.1 hx u8_one (by omega) (by omega)
  refine ⟨s', w', hr, ⟨by rw [List.map_append]; exact ho, fun b hb => ?_⟩, hm⟩
  rcases hp with e | ⟨c, e, hc, _⟩
  · exact h.2 b (e ▸ hb)
  · rw [e] at hb
    have : c = b := by simpa using hb
    omega

theorem rd_blk {w : World} {b : Nat} {cs : List Value} {T : TypeId} {n : Nat} (hB : Blk w b cs T) (hn : cs.length = n) : RdS w 1 (Slc.mk (some ⟨b, 0, none⟩) n n) cs :=
  ⟨by rw [hn, Nat.mul_one], .inr ⟨b, 0, rfl, fun _ => hB.lt, fun i hi => by rw [Nat.zero_add]; exact hB.cell' i⟩⟩

theorem andM (a : Int) : ∃ m : Nat, m ≤ 16777215 ∧ bitsZ .and .i64 a 16777215 = (m : Int) := by
  refine ⟨(BitVec.ofInt 64 a &&& BitVec.ofInt 64 16777215).toNat, ?_, ?_⟩
  · rw [BitVec.toNat_and]
    exact Nat.and_le_right
  · have h : (BitVec.ofInt 64 a &&& BitVec.ofInt 64 16777215).toNat ≤ 16777215 := by rw [BitVec.toNat_and]; exact Nat.and_le_right
    show IntKind.i64.wrap ((BitVec.ofInt 64 a &&& BitVec.ofInt 64 16777215).toNat : Int) = _
    exact wrap_i64 (by omega) (by omega)

theorem xor_all : ∀ n : Nat, n < 256 → bitsZ .xor .u8 (n : Int) 1 = ((UInt8.ofNat n ^^^ 1).toNat : Int) := by decide +kernel
theorem xor_u8 (x : UInt8) : Value.int .u8 (bitsZ .xor .u8 (x.toNat : Int) 1) = u8 (x ^^^ 1) := by
  have := xor_all x.toNat x.toNat_lt
  rw [this, UInt8.ofNat_toNat]
  rfl

/-! ### 2. One seal -/

def names3 : List UInt8 := nameB ((3 : Nat) : Int)
theorem flips : ∀ q, q < 16 → ∀ m, m < 4 → (nameB ((3 : Nat) : Int)).set q ((nameB ((3 : Nat) : Int)).getD q 0 ^^^ 1) ≠ nameB (Int.ofNat m) := by decide +kernel
def zw (z : Nat) : Hd := ⟨(List.replicate z 0 ++ nameB ((3 : Nat) : Int)).take 16, by simp [nameB_len]⟩
theorem no_names : ∀ z, z < 17 → 0 < z → isNameB (zw z) = false := by decide +kernel

def one1 (k n : Int) (ab pb : List UInt8) : Term := sealT k n ab pb
def V3 (n : Int) (ab pb : List UInt8) : List Term := [rootT, freshT, freshT, sealT 1 n ab pb]
def B3 (pb : List UInt8) : List UInt8 := List.replicate pb.length 0 ++ nameB ((3 : Nat) : Int)
theorem B3_len (pb : List UInt8) : (B3 pb).length = pb.length + 16 := by simp [B3, nameB_len]
theorem V3_len (n : Int) (ab pb : List UInt8) : (V3 n ab pb).length = 4 := rfl

theorem V3_wf {n : Int} {ab pb : List UInt8} (hb : pb.length < 1000000000) : WfV (V3 n ab pb) where
  pos := by rw [V3_len]; omega
  a t ht := by
    simp only [V3, List.mem_cons, List.not_mem_nil, or_false] at ht
    rw [V3_len]
    rcases ht with rfl | rfl | rfl | rfl <;> simp [rootT, freshT, sealT]
  b t ht := by
    simp only [V3, List.mem_cons, List.not_mem_nil, or_false] at ht
    rw [V3_len]
    rcases ht with rfl | rfl | rfl | rfl <;> simp [rootT, freshT, sealT]
  bytes t ht := by
    simp only [V3, List.mem_cons, List.not_mem_nil, or_false] at ht
    rcases ht with rfl | rfl | rfl | rfl <;> simp [rootT, freshT, sealT] <;> omega

theorem V3_at {n : Int} {ab pb : List UInt8} {m : Nat} {t : Term} (h : (V3 n ab pb)[m]? = some t) : t = rootT ∨ t = freshT ∨ (m = 3 ∧ t = sealT 1 n ab pb) := by
  match m with
  | 0 => exact .inl (Option.some.inj h).symm
  | 1 => exact .inr (.inl (Option.some.inj h).symm)
  | 2 => exact .inr (.inl (Option.some.inj h).symm)
  | 3 => exact .inr (.inr ⟨rfl, (Option.some.inj h).symm⟩)
  | m + 4 => simp [V3] at h

/-- the last sixteen bytes are the seal's name -/
theorem B3_win (pb : List UInt8) : winH (B3 pb) ((B3 pb).length - 16) = nameH ((3 : Nat) : Int) := by
  have := win_append (xs := List.replicate pb.length 0) (h := nameH ((3 : Nat) : Int))
  rw [List.length_replicate] at this
  rw [B3_len, Nat.add_sub_cancel]
  exact this

theorem B3_zero (pb : List UInt8) : ∀ b ∈ (B3 pb).take ((B3 pb).length - 16), b = 0 := by
  rw [B3_len, Nat.add_sub_cancel]
  unfold B3
  rw [List.take_append_of_le_length (by simp), List.take_of_length_le (by simp)]
  intro b hb
  exact List.eq_of_mem_replicate hb

theorem open_yes {n : Int} {ab pb : List UInt8} : OpenOk (V3 n ab pb) 1 n ab (B3 pb) (sealT 1 n ab pb) :=
  ⟨by rw [B3_len]; omega, ⟨3, by rw [B3_win]; exact lastN_name (by rw [V3_len]; omega) (by rw [V3_len]; omega), rfl⟩, rfl, by rw [B3_len]; simp [sealT, ByteArray.size], B3_zero pb⟩

theorem open_is {n n' k : Int} {ab ab' pb bb : List UInt8} {t : Term} (h : OpenOk (V3 n ab pb) k n' ab' bb t) : k = 1 ∧ n' = n ∧ ab' = ab ∧ t = sealT 1 n ab pb := by
  obtain ⟨_, ⟨s, _, h1⟩, h2, _⟩ := h
  rcases V3_at h1 with rfl | rfl | ⟨_, rfl⟩
  · have := congrArg Term.kind h2
    simp [rootT] at this
  · have := congrArg Term.kind h2
    simp [freshT] at this
  · have e1 := congrArg Term.a h2
    have e2 := congrArg Term.number h2
    have e3 := congrArg Term.also h2
    simp only [sealT] at e1 e2 e3
    refine ⟨e1.symm, e2.symm, ?_, rfl⟩
    have := congrArg ByteArray.data e3
    simp at this
    exact this.symm

/-- with one bit turned it is not opened -/
theorem open_flip {n : Int} {ab pb : List UInt8} {j : Nat} (hj : j < (B3 pb).length) (t : Term) : ¬ OpenOk (V3 n ab pb) 1 n ab ((B3 pb).set j ((B3 pb)[j] ^^^ 1)) t := by
  rintro ⟨h16, ⟨s, hs, hV⟩, ht, hsz, hz⟩
  rw [List.length_set, B3_len] at h16 hs hsz hz
  rw [Nat.add_sub_cancel] at hs hz
  rw [B3_len] at hj
  by_cases e : j < pb.length
  · have h0 : (B3 pb)[j]'(by rw [B3_len]; omega) = 0 := by
      simp [B3, List.getElem_append_left, e]
    have := hz ((0 : UInt8) ^^^ 1) (by
      rw [h0, List.mem_take_iff_getElem]
      exact ⟨j, by simp [B3_len]; omega, by simp⟩)
    exact absurd this (by decide)
  · have hb := lastN_lt hs
    rw [V3_len] at hb
    have h1 := congrArg Subtype.val hb.2.2
    rw [winH_eq (by rw [List.length_set, B3_len]; omega)] at h1
    have hset : (B3 pb).set j ((B3 pb)[j]'(by rw [B3_len]; omega) ^^^ 1) = List.replicate pb.length 0 ++ (nameB ((3 : Nat) : Int)).set (j - pb.length) ((nameB ((3 : Nat) : Int)).getD (j - pb.length) 0 ^^^ 1) := by
      have hg : (B3 pb)[j]'(by rw [B3_len]; omega) = (nameB ((3 : Nat) : Int)).getD (j - pb.length) 0 := by
        unfold B3
        rw [List.getElem_append_right (by simp; omega)]
        simp only [List.length_replicate]
        rw [List.getD_eq_getElem?_getD, List.getElem?_eq_getElem (by rw [nameB_len]; omega)]
        rfl
      rw [hg]
      unfold B3
      rw [List.set_append, if_neg (by simp; omega)]
      simp
    rw [hset] at h1
    have hlr : (List.replicate pb.length (0 : UInt8)).length = pb.length := by simp
    have h2 : (List.drop pb.length (List.replicate pb.length (0 : UInt8) ++ (nameB ((3 : Nat) : Int)).set (j - pb.length) ((nameB ((3 : Nat) : Int)).getD (j - pb.length) 0 ^^^ 1))) = (nameB ((3 : Nat) : Int)).set (j - pb.length) ((nameB ((3 : Nat) : Int)).getD (j - pb.length) 0 ^^^ 1) := by
      conv => lhs; arg 1; rw [← hlr]
      rw [List.drop_left]
    rw [h2, List.take_of_length_le (by rw [List.length_set, nameB_len]; omega)] at h1
    exact flips (j - pb.length) (by omega) s (by omega) h1.symm

/-! ### 3. What is known -/

theorem B3_names {pb : List UInt8} {h : Hd} {m : Nat} (hw : Win (B3 pb) h) (hl : lastN 4 h = some (Int.ofNat m)) : m = 3 := by
  obtain ⟨i, hi, rfl⟩ := hw
  have := zero_win (m := 3) (L := 4) (by omega) (by omega) hi hl
  exact Int.ofNat.inj this

theorem win0 (q : Nat) : winH (nameB (q : Int)) 0 = nameH (q : Int) := by
  apply Subtype.ext
  rw [winH_eq (by rw [nameB_len]; omega), List.drop_zero, List.take_of_length_le (by rw [nameB_len]; omega)]
  rfl
theorem one_names {q m : Nat} {h : Hd} (hq : q < 4) (hw : Win (nameB (q : Int)) h) (hl : lastN 4 h = some (Int.ofNat m)) : m = q := by
  obtain ⟨i, hi, hh⟩ := hw
  rw [nameB_len] at hi
  have e : i = 0 := by omega
  subst e
  rw [win0] at hh
  subst hh
  rw [lastN_name hq (by omega)] at hl
  exact (Int.ofNat.inj (Option.some.inj hl)).symm

theorem kn3 {n : Int} {ab pb : List UInt8} {S : List (List UInt8)} {m : Nat} (hS : ∀ b ∈ S, b = B3 pb ∨ b = nameB ((2 : Nat) : Int)) (h : Kn (V3 n ab pb) S m) : m ≠ 1 := by
  induction h with
  | root => omega
  | seen hb hw hl =>
    rcases hS _ hb with rfl | rfl
    · have := B3_names hw hl
      omega
    · have := one_names (by omega) hw hl
      omega
  | made ht hk _ _ =>
    rcases V3_at ht with rfl | rfl | ⟨_, rfl⟩ <;> simp [rootT, freshT, sealT] at hk
  | madeB ht hk _ _ =>
    rcases V3_at ht with rfl | rfl | ⟨_, rfl⟩ <;> simp [rootT, freshT, sealT] at hk
  | opened ht hk _ ha _ _ _ ih =>
    rcases V3_at ht with rfl | rfl | ⟨_, rfl⟩
    · simp [rootT] at hk
    · simp [freshT] at hk
    · exact absurd rfl ih

theorem kn3_seal {n : Int} {ab pb : List UInt8} {S : List (List UInt8)} (h : B3 pb ∈ S) : Kn (V3 n ab pb) S 3 :=
  Kn.seen h ⟨_, by rw [B3_len]; omega, B3_win pb⟩ (lastN_name (m := 3) (by rw [V3_len]; omega) (by rw [V3_len]; omega))
theorem win_self (m : Nat) : Win (nameB (m : Int)) (nameH (m : Int)) := by
  exact ⟨0, by rw [nameB_len]; omega, win0 m⟩
theorem kn3_key {n : Int} {ab pb : List UInt8} {S : List (List UInt8)} (h : nameB ((1 : Nat) : Int) ∈ S) : Kn (V3 n ab pb) S 1 :=
  Kn.seen h (win_self 1) (lastN_name (m := 1) (by rw [V3_len]; omega) (by rw [V3_len]; omega))

theorem spied3 {n : Int} {ab pb : List UInt8} {k : List Bool} : spiedL (V3 n ab pb) k 4 = if kn k 3 ∧ kn k 1 then [pb] else [] := by
  have h0 : ∀ m, m < 3 → spiedT (V3 n ab pb) k m = [] := fun m hm => by
    unfold spiedT
    split
    · rename_i t ht
      rcases V3_at ht with rfl | rfl | ⟨h, rfl⟩
      · simp [rootT]
      · simp [freshT]
      · omega
    · rfl
  rw [spiedL_succ, spiedL_succ, spiedL_succ, spiedL_succ, h0 0 (by omega), h0 1 (by omega), h0 2 (by omega)]
  have e : spiedL (V3 n ab pb) k 0 = [] := rfl
  have hV : (V3 n ab pb)[3]? = some (sealT 1 n ab pb) := rfl
  rw [e]
  unfold spiedT
  rw [hV]
  simp [sealT]

theorem hid3 {n : Int} {ab pb : List UInt8} {k : List Bool} (hk : kn k 3) : ¬ Hid (V3 n ab pb) k (B3 pb) := by
  rintro ⟨i, hi, h⟩
  rw [B3_len] at hi
  rcases h with ⟨m, h1, h2⟩ | ⟨h1, h2⟩
  · have := B3_names ⟨i, by rw [B3_len]; omega, rfl⟩ h1
    subst this
    exact h2 hk
  · by_cases e : i = pb.length
    · subst e
      have := B3_win pb
      rw [B3_len, Nat.add_sub_cancel] at this
      rw [this, lastN_name (by rw [V3_len]; omega) (by rw [V3_len]; omega)] at h1
      cases h1
    · have hz : winH (B3 pb) i = zw (min 16 (pb.length - i)) := by
        apply Subtype.ext
        rw [winH_eq (by rw [B3_len]; omega)]
        show _ = (List.replicate _ 0 ++ nameB ((3 : Nat) : Int)).take 16
        unfold B3
        rw [List.drop_append_of_le_length (by simp; omega), List.drop_replicate]
        by_cases e2 : 16 ≤ pb.length - i
        · rw [Nat.min_eq_left e2, List.take_append_of_le_length (by simp; omega), List.take_append_of_le_length (by simp), List.take_replicate, List.take_replicate, Nat.min_eq_left e2, Nat.min_self]
        · rw [Nat.min_eq_right (by omega)]
      rw [hz, no_names _ (by omega) (by omega)] at h2
      cases h2
end Go.Proofs.YtkehoneadedmhaaDoor
