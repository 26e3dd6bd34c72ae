/-
  The vault of fresh terms, each sealing the name of the next one: the plain law.
-/
import Derived.Test.YtkehoneadedmhaaDoorVH
namespace Go.Proofs.YtkehoneadedmhaaDoor
open Go Go.Sh
set_option linter.unusedVariables false
set_option linter.unusedSimpArgs false

/-! ### 1. Names of small numbers -/

theorem names_far : ∀ i, i < 40 → ∀ j, j < 40 → nameB (Int.ofNat i) = nameB (Int.ofNat j) → i = j := by decide +kernel
theorem names_head : ∀ i, i < 40 → (nameB (Int.ofNat i))[0]? ≠ some 0 := by decide +kernel

theorem nameH_inj {i j : Nat} (hi : i < 40) (hj : j < 40) (h : nameH (i : Int) = nameH (j : Int)) : i = j := names_far i hi j hj (congrArg Subtype.val h)

theorem lastN_name {L m : Nat} (hm : m < L) (hL : L ≤ 40) : lastN L (nameH (m : Int)) = some (m : Int) := by
  induction L with
  | zero => omega
  | succ L ih =>
    rw [lastN_succ]
    by_cases e : nameH (m : Int) = nameH (L : Int)
    · rw [if_pos e, nameH_inj (by omega) (by omega) e]
    · rw [if_neg e]
      refine ih ?_ (by omega)
      by_cases e' : m = L
      · subst e'; exact absurd rfl e
      · omega

theorem lastT_none {V : List Term} {t : Term} (h : t ∉ V) : lastT V t = none := by
  cases hl : lastT V t with
  | none => rfl
  | some n =>
    have := lastT_lt hl
    exact absurd (List.mem_of_getElem? this.2.2) h

/-! ### 2. The vault of the law -/

def hcell (m : Nat) : List Value := (nameB (m : Int)).map u8
theorem hcell_len (m : Nat) : (hcell m).length = 16 := by simp [hcell, nameB_len]

def sealI (bs : List UInt8) (j : Nat) : Term := sealT ((j + 1 : Nat) : Int) (j : Int) [] (bs ++ nameB ((j + 2 : Nat) : Int))
def VN (bs : List UInt8) (n i : Nat) : List Term := (rootT :: List.replicate n freshT) ++ (List.range i).map (sealI bs)
theorem VN_len (bs : List UInt8) (n i : Nat) : (VN bs n i).length = n + 1 + i := by simp [VN]; omega
theorem VN_succ (bs : List UInt8) (n i : Nat) : VN bs n (i + 1) = VN bs n i ++ [sealI bs i] := by simp [VN, List.range_succ]

theorem VN_old {bs : List UInt8} {n i m : Nat} {t : Term} (hm : m ≤ n) (h : (VN bs n i)[m]? = some t) : t = rootT ∨ t = freshT := by
  unfold VN at h
  rw [List.getElem?_append_left (by simp; omega)] at h
  have := List.mem_of_getElem? h
  rcases List.mem_cons.1 this with e | e
  · exact .inl e
  · exact .inr (List.eq_of_mem_replicate e)

theorem VN_seal {bs : List UInt8} {n i j : Nat} (hj : j < i) : (VN bs n i)[n + 1 + j]? = some (sealI bs j) := by
  unfold VN
  rw [List.getElem?_append_right (by simp)]
  simp [hj]

theorem VN_mem {bs : List UInt8} {n i : Nat} {t : Term} (h : t ∈ VN bs n i) : t = rootT ∨ t = freshT ∨ ∃ j, j < i ∧ t = sealI bs j := by
  unfold VN at h
  rcases List.mem_append.1 h with h | h
  · rcases List.mem_cons.1 h with e | e
    · exact .inl e
    · exact .inr (.inl (List.eq_of_mem_replicate e))
  · obtain ⟨j, hj, rfl⟩ := List.mem_map.1 h
    exact .inr (.inr ⟨j, List.mem_range.1 hj, rfl⟩)

theorem sealI_bytes (bs : List UInt8) (j : Nat) : (sealI bs j).bytes.data.toList = bs ++ nameB ((j + 2 : Nat) : Int) := by simp [sealI, sealT]

theorem VN_wf {bs : List UInt8} {n i : Nat} (hi : i ≤ n) (hb : bs.length < 1000000000) : WfV (VN bs n i) where
  pos := by rw [VN_len]; omega
  a t ht := by
    rw [VN_len]
    rcases VN_mem ht with rfl | rfl | ⟨j, hj, rfl⟩
    · simp only [rootT]; omega
    · simp only [freshT]; omega
    · simp only [sealI, sealT]; omega
  b t ht := by
    rw [VN_len]
    rcases VN_mem ht with rfl | rfl | ⟨j, hj, rfl⟩
    · simp only [rootT]; omega
    · simp only [freshT]; omega
    · simp only [sealI, sealT]; omega
  bytes t ht := by
    rcases VN_mem ht with rfl | rfl | ⟨j, hj, rfl⟩
    · simp [rootT]
    · simp [freshT]
    · rw [sealI_bytes, List.length_append, nameB_len]; omega

theorem seal_new {bs : List UInt8} {n i : Nat} : lastT (VN bs n i) (sealI bs i) = none := by
  refine lastT_none fun h => ?_
  rcases VN_mem h with e | e | ⟨j, hj, e⟩
  · have := congrArg Term.kind e
    simp [sealI, sealT, rootT] at this
  · have := congrArg Term.kind e
    simp [sealI, sealT, freshT] at this
  · have := congrArg Term.number e
    simp [sealI, sealT] at this
    omega

/-! ### 3. What is known -/

def sealB (bs : List UInt8) (n j : Nat) : List UInt8 := List.replicate (bs.length + 16) 0 ++ nameB ((n + 1 + j : Nat) : Int)

theorem win_append {xs : List UInt8} {h : Hd} : winH (xs ++ h.1) xs.length = h := by
  apply Subtype.ext
  rw [winH_eq (by simp [h.2]), List.drop_left, List.take_of_length_le (by simp [h.2])]

theorem Win_append {xs : List UInt8} {h : Hd} : Win (xs ++ h.1) h := ⟨xs.length, by simp [h.2], win_append⟩

theorem zero_win {z m L : Nat} {i : Nat} (hL : L ≤ 40) (hm : m < 40) (hi : i + 16 ≤ (List.replicate z (0 : UInt8) ++ nameB (m : Int)).length) {x : Int} (h : lastN L (winH (List.replicate z 0 ++ nameB (m : Int)) i) = some x) : x = m := by
  have hx := lastN_lt h
  obtain ⟨k, rfl⟩ := Int.eq_ofNat_of_zero_le hx.1
  by_cases e : i < z
  · exfalso
    have h2 := congrArg Subtype.val hx.2.2
    rw [winH_eq hi] at h2
    have h3 : (nameB (k : Int))[0]? = some 0 := by
      have : (nameH (k : Int)).val = nameB (k : Int) := rfl
      rw [← this, h2]
      simp [List.getElem?_take, List.getElem?_append_left, e]
    exact names_head k (by omega) h3
  · rw [List.length_append, List.length_replicate, nameB_len] at hi
    have e' : i = (List.replicate z (0 : UInt8)).length := by simp; omega
    have h2 := hx.2.2
    rw [e'] at h2
    have := win_append (xs := List.replicate z 0) (h := nameH (m : Int))
    have h3 : nameH (k : Int) = nameH (m : Int) := h2.trans this
    rw [nameH_inj (by omega) hm h3]

def sealsB (bs : List UInt8) (n i : Nat) : List (List UInt8) := (List.range i).map (sealB bs n)

theorem kn_low {bs : List UInt8} {n m : Nat} (hn : 2 ≤ n) (hn' : n ≤ 17) (h : Kn (VN bs n (n - 1)) (sealsB bs n (n - 1)) m) : m = 0 ∨ n + 1 ≤ m := by
  have inl : ∀ {m : Nat} {t : Term}, (VN bs n (n - 1))[m]? = some t → m < n + 1 + (n - 1) := fun h => by have := (List.getElem?_eq_some_iff.1 h).1; rwa [VN_len] at this
  have kinds : ∀ {m : Nat} {t : Term}, (VN bs n (n - 1))[m]? = some t → t.kind = 0 ∨ t.kind = 1 ∨ t.kind = 6 := fun h => by
    rcases VN_mem (List.mem_of_getElem? h) with rfl | rfl | ⟨j, _, rfl⟩ <;> simp [rootT, freshT, sealI, sealT]
  induction h with
  | root => exact .inl rfl
  | @seen b h m hb hw hl =>
    obtain ⟨j, hj, rfl⟩ := List.mem_map.1 hb
    have hj' := List.mem_range.1 hj
    obtain ⟨i, hi, rfl⟩ := hw
    have := zero_win (by rw [VN_len]; omega) (by omega) hi hl
    have : m = n + 1 + j := Int.ofNat.inj this
    omega
  | made ht hk _ _ =>
    have := kinds ht
    omega
  | madeB ht hk _ _ =>
    have := kinds ht
    omega
  | @opened s t h m ht hk _ ha hw hl ih1 ih2 =>
    exfalso
    rcases VN_mem (List.mem_of_getElem? ht) with rfl | rfl | ⟨j, hj, rfl⟩
    · simp [rootT] at hk
    · simp [freshT] at hk
    · simp only [sealI, sealT, Int.toNat_natCast] at ih2
      omega

theorem kn_high {bs : List UInt8} {n : Nat} {S : List (List UInt8)} (hn : 2 ≤ n) (hn' : n ≤ 17) (h1 : ∀ b ∈ sealsB bs n (n - 1), b ∈ S) (h2 : nameB (1 : Int) ∈ S) :
    (∀ j, j < n - 1 → Kn (VN bs n (n - 1)) S (n + 1 + j)) ∧ ∀ j, j < n → Kn (VN bs n (n - 1)) S (j + 1) := by
  have hs : ∀ j, j < n - 1 → Kn (VN bs n (n - 1)) S (n + 1 + j) := fun j hj =>
    Kn.seen (h1 _ (List.mem_map.2 ⟨j, List.mem_range.2 hj, rfl⟩)) (Win_append (xs := List.replicate (bs.length + 16) 0) (h := nameH ((n + 1 + j : Nat) : Int))) (lastN_name (by rw [VN_len]; omega) (by rw [VN_len]; omega))
  refine ⟨hs, fun j => ?_⟩
  induction j with
  | zero =>
    intro _
    exact Kn.seen h2 (Win_append (xs := []) (h := nameH (1 : Int))) (lastN_name (m := 1) (by rw [VN_len]; omega) (by rw [VN_len]; omega))
  | succ j ih =>
    intro hj
    have hk := ih (by omega)
    refine Kn.opened (VN_seal (j := j) (by omega)) rfl (hs j (by omega)) (by simpa [sealI, sealT] using hk) ?_ (lastN_name (m := j + 1 + 1) (by rw [VN_len]; omega) (by rw [VN_len]; omega))
    rw [sealI_bytes]
    exact Win_append (xs := bs) (h := nameH ((j + 2 : Nat) : Int))

/-! ### 4. What is spied -/

theorem spied_old {bs : List UInt8} {n i : Nat} {k : List Bool} {m : Nat} (hm : m ≤ n + 1) : spiedL (VN bs n i) k m = [] := by
  induction m with
  | zero => rfl
  | succ m ih =>
    rw [spiedL_succ, ih (by omega), List.nil_append]
    unfold spiedT
    split
    · rename_i t ht
      rcases VN_old (by omega) ht with rfl | rfl <;> simp [rootT, freshT]
    · rfl

theorem spied_all {bs : List UInt8} {n N : Nat} {k : List Bool} {i : Nat} (hi : i ≤ N) (h1 : ∀ j, j < N → kn k (n + 1 + j)) (h2 : ∀ j, j < N → kn k (j + 1)) : (spiedL (VN bs n N) k (n + 1 + i)).length = i := by
  induction i with
  | zero => rw [Nat.add_zero, spied_old (Nat.le_refl _)]; rfl
  | succ i ih =>
    rw [← Nat.add_assoc, spiedL_succ, List.length_append, ih (by omega)]
    have : spiedT (VN bs n N) k (n + 1 + i) = [(sealI bs i).bytes.data.toList] := by
      unfold spiedT
      rw [VN_seal (by omega)]
      simp only
      rw [if_pos ⟨rfl, h1 i (by omega), by simpa [sealI, sealT] using h2 i (by omega)⟩]
    rw [this]
    rfl

theorem spied_none {bs : List UInt8} {n N : Nat} {k : List Bool} {i : Nat} (hi : i ≤ N) (h2 : ∀ j, j < N → ¬ kn k (j + 1)) : spiedL (VN bs n N) k (n + 1 + i) = [] := by
  induction i with
  | zero => rw [Nat.add_zero, spied_old (Nat.le_refl _)]
  | succ i ih =>
    rw [← Nat.add_assoc, spiedL_succ, ih (by omega), List.nil_append]
    unfold spiedT
    rw [VN_seal (by omega)]
    simp only
    rw [if_neg]
    rintro ⟨_, _, h⟩
    exact h2 i (by omega) (by simpa [sealI, sealT] using h)
end Go.Proofs.YtkehoneadedmhaaDoor
