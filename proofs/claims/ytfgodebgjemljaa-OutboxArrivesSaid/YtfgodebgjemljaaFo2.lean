/-
  Arguments opened: slices of whatever elements.
-/
import Derived.Test.YtfgodebgjemljaaFo
namespace Go.Sh
open Go.ChangeShapes Go.WideShapes Go.ChangeAt Go.RowKit
set_option linter.unusedVariables false
set_option linter.unusedSimpArgs false

theorem flat_length {α : Type} {f : α → List Value} {m : Nat} (hf : ∀ x, (f x).length = m) : ∀ l : List α, (l.flatMap f).length = l.length * m
  | [] => by simp
  | x :: l => by rw [List.flatMap_cons, List.length_append, hf, flat_length hf l, List.length_cons, Nat.add_mul]; omega

theorem flat_get {α : Type} {f : α → List Value} {m : Nat} (hf : ∀ x, (f x).length = m) : ∀ (l : List α) (i j : Nat) (x : α), l[i]? = some x → j < m → (l.flatMap f)[i * m + j]? = (f x)[j]?
  | [], _, _, _, h, _ => by simp at h
  | y :: l, 0, j, x, h, hj => by
    have : y = x := by simpa using h
    subst this
    rw [List.flatMap_cons, Nat.zero_mul, Nat.zero_add, List.getElem?_append_left (by rw [hf]; exact hj)]
  | y :: l, i + 1, j, x, h, hj => by
    rw [List.flatMap_cons, List.getElem?_append_right (by rw [hf, Nat.add_mul]; omega), hf, show (i + 1) * m + j - m = i * m + j by rw [Nat.add_mul]; omega]
    exact flat_get hf l i j x (by simpa using h) hj

section
variable {H : Type} {enc : TypeId × Value → H} {P : Program} {W : World} {base : Nat} {t e : TypeId} {v : Value} {d : DataW H} {p : List MemPlace} {α : Type} {f : α → List Value} {m : Nat}

theorem open_elemsC {fuel : Nat} (hf : ∀ x, (f x).length = m) (hm : 0 < m) (ht : P.underlying t = some (.slice e)) (hc : P.cellsOf e = m) (hok : Cell.okWide P W .any base t v) (h : DataW.trod enc P W 0 (fun _ => true) true fuel t [v] = some (d, p))
    (hel : ∀ (n : Nat) (cs : List Value) (y : DataW H × List MemPlace) (a : Addr), a.block < W.heap.size → (∀ j, j < m → W.cell? (a.add j) = cs[j]?) → cs.length = m → DataW.trod enc P W 0 (fun _ => true) true n e cs = some y → ∃ x : α, cs = f x) :
    ∃ (y : Slc) (xs : List α), v = y.v ∧ RdS W m y (xs.flatMap f) ∧ y.len ≤ y.cap ∧ ((xs = [] ∧ y = Slc.nil ∧ d = .nil) ∨ ∃ elems spare, d = .slice elems spare ∧ xs.length = elems.length) := by
  rcases DataW.trod_slice ht h with ⟨hcs, hx⟩ | ⟨a, len, cap, elems, rest, n, _, hcs, hx, hb, hl, hmx, hlen, hei, _, _⟩
  · simp only [List.cons.injEq, and_true] at hcs
    subst hcs
    simp only [Prod.mk.injEq] at hx
    exact ⟨Slc.nil, [], rfl, ⟨by simp [Slc.nil], .inl ⟨rfl, rfl⟩⟩, Nat.le_refl _, .inl ⟨rfl, rfl, hx.1⟩⟩
  · simp only [List.cons.injEq, and_true] at hcs
    subst hcs
    simp only [Prod.mk.injEq] at hx
    obtain ⟨rfl, _⟩ := hx
    obtain ⟨hs, hbl⟩ := cell_slice ht hok
    obtain ⟨b, o, sp⟩ := a
    simp only at hs hbl
    subst hs
    have each : ∀ i, i < len → ∃ x : α, ∀ j, j < m → W.cell? ⟨b, o + (i * m + j), none⟩ = (f x)[j]? := fun i hi => by
      have h1 := hei i hi
      rw [List.getElem?_eq_getElem (by omega)] at h1
      rw [hc, Option.bind_eq_some_iff] at h1
      obtain ⟨cs, h2, h3⟩ := h1
      rw [add_at] at h2
      have h4 := h2
      unfold World.cells? at h4
      rw [if_pos (Nat.zero_le _)] at h4
      have hcl : cs.length = m := by simpa using mapM_some_length h4
      have hcell : ∀ j, j < m → W.cell? ((⟨b, o + i * m, none⟩ : Addr).add j) = cs[j]? := fun j hj => by
        have := mapM_some_get h4 j j (by simp [hj])
        exact this
      obtain ⟨x, rfl⟩ := hel n cs _ ⟨b, o + i * m, none⟩ hbl hcell hcl h3
      refine ⟨x, fun j hj => ?_⟩
      have := hcell j hj
      rwa [add_at, Nat.add_assoc] at this
    have all : ∀ k, k ≤ len → ∃ xs : List α, xs.length = k ∧ ∀ i x, xs[i]? = some x → ∀ j, j < m → W.cell? ⟨b, o + (i * m + j), none⟩ = (f x)[j]? := by
      intro k
      induction k with
      | zero => exact fun _ => ⟨[], rfl, fun i x h => by simp at h⟩
      | succ k ih =>
        intro hk
        obtain ⟨xs, h1, h2⟩ := ih (by omega)
        obtain ⟨x, hx⟩ := each k (by omega)
        refine ⟨xs ++ [x], by simp [h1], fun i y hy j hj => ?_⟩
        by_cases hi : i < k
        · rw [List.getElem?_append_left (by omega)] at hy
          exact h2 i y hy j hj
        · rw [List.getElem?_append_right (by omega)] at hy
          have hik : i = k := by
            have := (List.getElem?_eq_some_iff.1 hy).1
            simp at this
            omega
          subst hik
          have : x = y := by simpa [h1] using hy
          subst this
          exact hx j hj
    obtain ⟨xs, hxl, hxs⟩ := all len (Nat.le_refl _)
    refine ⟨⟨some ⟨b, o, none⟩, len, cap⟩, xs, rfl, ⟨by rw [flat_length hf, hxl], .inr ⟨b, o, rfl, fun _ => hbl, fun i hi => ?_⟩⟩, hl, .inr ⟨_, _, rfl, by simp [hxl, hlen]⟩⟩
    rw [flat_length hf, hxl] at hi
    have hq : i / m < len := Nat.div_lt_of_lt_mul (by rw [Nat.mul_comm]; exact hi)
    have hr : i % m < m := Nat.mod_lt _ hm
    have e1 : i = i / m * m + i % m := by rw [Nat.mul_comm]; exact (Nat.div_add_mod i m).symm
    obtain ⟨x, hx⟩ : ∃ x, xs[i / m]? = some x := ⟨_, List.getElem?_eq_getElem (by omega)⟩
    have h1 := hxs (i / m) x hx (i % m) hr
    have h2 := flat_get hf xs (i / m) (i % m) x hx hr
    rw [← e1] at h1 h2
    rw [h1, h2]

theorem open_elems (hf : ∀ x, (f x).length = m) (hm : 0 < m) (ht : P.underlying t = some (.slice e)) (hc : P.cellsOf e = m) (hok : Value.okWide P W .any base t v) (h : DataW.Trod enc P W 0 (fun _ => true) true t v d p)
    (hel : ∀ (n : Nat) (cs : List Value) (y : DataW H × List MemPlace) (a : Addr), a.block < W.heap.size → (∀ j, j < m → W.cell? (a.add j) = cs[j]?) → cs.length = m → DataW.trod enc P W 0 (fun _ => true) true n e cs = some y → ∃ x : α, cs = f x) :
    ∃ (y : Slc) (xs : List α), v = y.v ∧ RdS W m y (xs.flatMap f) ∧ y.len ≤ y.cap ∧ ((xs = [] ∧ y = Slc.nil ∧ d = .nil) ∨ ∃ elems spare, d = .slice elems spare ∧ xs.length = elems.length) := by
  obtain ⟨a0, len, cap, rfl⟩ := okWide_slice ht hok
  obtain ⟨fuel, hfu⟩ := h
  have hokc : Cell.okWide P W .any base t (.slice a0 len cap) := by
    simp only [Value.okWide, ht] at hok
    exact hok
  exact open_elemsC hf hm ht hc hokc hfu hel
end
end Go.Sh
