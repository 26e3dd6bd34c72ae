/-
  Arguments opened: parts of structs, as they are handed in.
-/
import Derived.Test.YtfgodebgjemljaaFr
import Derived.SliceStrings
namespace Go.Sh
open Go.ChangeShapes Go.WideShapes Go.ChangeAt Go.RowKit
set_option linter.unusedVariables false
set_option linter.unusedSimpArgs false

section
variable {H : Type} {enc : TypeId × Value → H} {P : Program} {W : World} {base : Nat} {t e : TypeId} {v : Value} {d : DataW H} {p : List MemPlace} {fuel : Nat}

theorem cell_slice {a : Addr} {len cap : Nat} (ht : P.underlying t = some (.slice e)) (hok : Cell.okWide P W .any base t (.slice (some a) len cap)) : a.spot = none ∧ a.block < W.heap.size := by
  simp only [ht, Cell.okWide, Cell.ok, World.has] at hok
  obtain ⟨_, _, _, h1, row, cells, h2, _⟩ := hok
  refine ⟨h1, ?_⟩
  unfold World.shape? at h2
  split at h2
  · rename_i h3
    exact (Array.getElem?_eq_some_iff.1 h3).1
  · cases h2

theorem open_bytesC (ht : P.underlying t = some (.slice e)) (he : P.underlying e = some (.int .u8)) (hc : P.cellsOf e = 1)
    (hok : Cell.okWide P W .any base t v) (hf : DataW.trod enc P W 0 (fun _ => true) true fuel t [v] = some (d, p)) :
    ∃ (x : Slc) (bs : List UInt8), v = x.v ∧ RdB W x bs ∧ x.len ≤ x.cap ∧ (bs = [] ∨ ∃ elems spare, d = .slice elems spare ∧ bs.length = elems.length) := by
  rcases open_ints ht he hc hf with ⟨hcs, hx⟩ | ⟨a, len, cap, zs, hcs, _, hl, hm, hz, hx, hcell, hwz⟩
  · simp only [List.cons.injEq, and_true] at hcs
    subst hcs
    exact ⟨Slc.nil, [], rfl, ⟨rfl, .inl ⟨rfl, rfl⟩⟩, Nat.le_refl _, .inl rfl⟩
  · simp only [List.cons.injEq, and_true] at hcs
    subst hcs
    simp only [Prod.mk.injEq] at hx
    obtain ⟨rfl, rfl⟩ := hx
    simp only [if_true] at hz
    have hhas := cell_slice ht hok
    refine ⟨⟨some a, len, cap⟩, _, rfl, rd_ints (cap := cap) hhas.1 (by omega) hcell hwz hhas.2, hl, .inr ⟨_, _, rfl, ?_⟩⟩
    simp [lits]

def strV (s : List UInt8) : Value := .string ⟨s.toArray⟩

theorem open_strsC (ht : P.underlying t = some (.slice e)) (he : P.underlying e = some .string) (hc : P.cellsOf e = 1)
    (hok : Cell.okWide P W .any base t v) (hf : DataW.trod enc P W 0 (fun _ => true) true fuel t [v] = some (d, p)) :
    ∃ (x : Slc) (ss : List (List UInt8)), v = x.v ∧ RdS W 1 x (ss.map strV) ∧ x.len ≤ x.cap ∧ (ss = [] ∨ ∃ spare, d = .slice (ss.map fun s => .lit (.string s)) spare) := by
  rcases open_strings ht he hc hf with ⟨hcs, hx⟩ | ⟨a, len, cap, ss, hcs, _, hl, hm, hz, hx, hcell, hwz⟩
  · simp only [List.cons.injEq, and_true] at hcs
    subst hcs
    exact ⟨Slc.nil, [], rfl, ⟨rfl, .inl ⟨rfl, rfl⟩⟩, Nat.le_refl _, .inl rfl⟩
  · simp only [List.cons.injEq, and_true] at hcs
    subst hcs
    simp only [Prod.mk.injEq] at hx
    obtain ⟨rfl, rfl⟩ := hx
    simp only [if_true] at hz
    obtain ⟨hs, hb⟩ := cell_slice ht hok
    obtain ⟨b, o, sp⟩ := a
    simp only at hs hb
    subst hs
    refine ⟨⟨some ⟨b, o, none⟩, len, cap⟩, (ss.take len).map fun s => s.data.toList, rfl, ⟨by simp; omega, .inr ⟨b, o, rfl, fun _ => hb, fun i hi => ?_⟩⟩, hl, .inr ⟨strs (ss.drop len), ?_⟩⟩
    · simp only [List.length_map, List.length_take] at hi
      have h1 := hcell i (by omega)
      rw [add_at] at h1
      rw [h1]
      have hi' : i < ss.length := by omega
      simp [List.getElem?_take, show i < len by omega, List.getD, List.getElem?_eq_getElem hi', strV]
    · simp only [strs, List.map_map]
      rfl

/-- sixteen bytes -/
theorem open_hd (ht : P.underlying t = some (.array 16 e)) (he : P.underlying e = some (.int .u8)) (hc : P.cellsOf e = 1) {cs : List Value} (hcs : cs.length = 16) (hf : DataW.trod enc P W 0 (fun _ => true) true fuel t cs = some (d, p)) :
    ∃ h : Hd, cs = h.1.map u8 := by
  obtain ⟨xs, m, _, _, _, hlen, hel⟩ := DataW.trod_array ht hf
  have each : ∀ i (hi : i < 16), ∃ b : UInt8, cs[i] = u8 b := fun i hi => by
    have h1 := hel i hi
    rw [hc, Nat.mul_one, List.getElem?_eq_getElem (by omega)] at h1
    obtain ⟨n, h2, _, h3⟩ := DataW.trod_int he h1
    have h4 : ((cs.drop i).take 1)[0]? = some cs[i] := by simp [List.getElem?_take, show i < cs.length by omega]
    rw [h2] at h4
    simp only [List.getElem?_cons_zero, Option.some.injEq] at h4
    have hz : 0 ≤ n ∧ n ≤ 255 := by simpa [Lit.wf, IntKind.min, IntKind.max, IntKind.signed, IntKind.bits] using h3
    refine ⟨UInt8.ofNat n.toNat, ?_⟩
    rw [← h4, u8, UInt8.toNat_ofNat']
    congr 1
    omega
  let f : Nat → UInt8 := fun i => match cs[i]? with | some (.int _ n) => UInt8.ofNat n.toNat | _ => 0
  refine ⟨⟨(List.range 16).map f, by simp⟩, ?_⟩
  apply List.ext_getElem
  · simp [hcs]
  · intro i h1 h2
    obtain ⟨b, hb⟩ := each i (by omega)
    have hf : f i = b := by
      simp only [f, List.getElem?_eq_getElem h1, hb, u8]
      simp
    simp [hf, hb]

theorem cut_at (l : List Value) (o s : Nat) : l.drop o = (l.drop o).take s ++ l.drop (o + s) := by rw [← List.drop_drop, List.take_append_drop]

theorem take1 {l : List Value} {o : Nat} {v : Value} (h : (l.drop o).take 1 = [v]) : l[o]? = some v := by
  have : ((l.drop o).take 1)[0]? = some v := by rw [h]; rfl
  simpa [List.getElem?_take] using this

theorem agg_cells {fs : Array Field} (ht : P.underlying t = some (.struct fs)) (hok : Value.okWide P W .any base t v) :
    ∃ cs, v = .agg cs ∧ cs.size = P.cellsOf t ∧ ∃ ts, P.cellTypes P.depth t = some ts ∧ ∀ i v, cs[i]? = some v → ∃ u, ts[i % ts.length]? = some u ∧ Cell.okWide P W .any base u v := by
  simp only [Value.okWide, ht] at hok
  obtain ⟨cs, h1, h2, ts, h3, _, h4⟩ := hok
  exact ⟨cs, h1, h2, ts, h3, h4⟩
end
end Go.Sh
