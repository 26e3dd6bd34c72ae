/-
  A struct that is built of its parts.
-/
import Derived.Test.YteoikkmpkhnalaaHe
namespace Go.Sh
set_option linter.unusedVariables false
set_option linter.unusedSimpArgs false

theorem fold_setO (off : Nat) : ∀ (cs : List Value) (k : Nat) (A : Array Value), off + k + cs.length ≤ A.size →
    ((cs.zipIdx k).foldl (fun A (p : Value × Nat) => A.setIfInBounds (off + p.2) p.1) A).toList = A.toList.take (off + k) ++ cs ++ A.toList.drop (off + k + cs.length)
  | [], k, A, h => by simp
  | c :: cs, k, A, h => by
    simp only [List.length_cons] at h
    have hk : off + k < A.size := by omega
    rw [List.zipIdx_cons, List.foldl_cons, fold_setO off cs (k + 1) _ (by simp; omega)]
    simp only [Array.toList_setIfInBounds, List.length_cons]
    have h1 : List.take (off + (k + 1)) (A.toList.set (off + k) c) = List.take (off + k) A.toList ++ [c] := by
      rw [show off + (k + 1) = off + k + 1 by omega, List.take_add_one, List.take_set_of_le (Nat.le_refl _)]
      simp [hk]
    have h2 : List.drop (off + (k + 1) + cs.length) (A.toList.set (off + k) c) = List.drop (off + k + (cs.length + 1)) A.toList := by
      rw [List.drop_set_of_lt (by omega)]
      congr 1
      omega
    rw [h1, h2]
    simp

/-- the cells of the parts, one behind the other -/
def cat (parts : List (Nat × Value)) : List Value := parts.flatMap fun p => p.2.cells.toList

def Contig (place : Nat → Option (Nat × Nat)) : Nat → List (Nat × Value) → Prop
  | _, [] => True
  | o, p :: r => place p.1 = some (o, p.2.cells.size) ∧ Contig place (o + p.2.cells.size) r

theorem fill_cat {place : Nat → Option (Nat × Nat)} : ∀ (parts : List (Nat × Value)) (o : Nat) (A : Array Value), Contig place o parts → o + (cat parts).length ≤ A.size →
    Instr.fill place A parts = some (A.toList.take o ++ cat parts ++ A.toList.drop (o + (cat parts).length)).toArray
  | [], o, A, _, h => by simp [Instr.fill, cat]
  | (i, v) :: r, o, A, hc, h => by
    obtain ⟨h1, h2⟩ := hc
    simp only at h1 h2
    have e : cat ((i, v) :: r) = v.cells.toList ++ cat r := by simp [cat]
    rw [e] at h ⊢
    simp only [List.length_append, Array.length_toList] at h
    simp only [Instr.fill, h1]
    rw [if_neg (by simp; omega)]
    have hf := fold_setO o v.cells.toList 0 A (by simp; omega)
    have hz : v.cells.zipIdx = (v.cells.toList.zipIdx 0).toArray := by
      apply Array.ext'
      simp
    rw [hz, List.foldl_toArray]
    have hsz : (List.foldl (fun cs x => cs.setIfInBounds (o + x.2) x.1) A (v.cells.toList.zipIdx 0)).size = A.size := by
      rw [← Array.length_toList, hf]
      simp
      omega
    rw [fill_cat r (o + v.cells.size) _ h2 (by rw [hsz]; omega), hf]
    congr 2
    simp only [Nat.add_zero, Array.length_toList]
    have l0 : (A.toList.take o ++ v.cells.toList).length = o + v.cells.size := by simp; omega
    rw [List.take_left' l0]
    have : List.drop (o + v.cells.size + (cat r).length) (List.take o A.toList ++ v.cells.toList ++ List.drop (o + v.cells.size) A.toList) = List.drop (o + (v.cells.toList ++ cat r).length) A.toList := by
      rw [← l0, ← List.drop_drop, List.drop_left, l0, List.drop_drop]
      congr 1
      simp
      omega
    rw [this]
    simp

theorem run_buildS {P : Program} {t : TypeId} {fields : Array Field} {places : Array (Nat × Nat)} {z : Array Value} {parts : List (Nat × Value)} {cs : List Value} (hu : ∀ w, (underlying t).run P w = .ok (.struct fields) w) (hz : ∀ w, (zeroValue t).run P w = .ok (.agg z) w)
    (hp : ∀ w, (fields.mapM fun (f : Field) => (do pure (f.offset, ← sizeOf f.type) : Sem (Nat × Nat))).run P w = .ok places w) (hc : Contig (places[·]?) 0 parts) (hcat : cat parts = cs) (hl : cs.length = z.size) (w : World) :
    (Instr.build t parts.toArray).run P w = .ok (.agg cs.toArray) w := by
  have hf := fill_cat parts 0 z hc (by rw [hcat, hl]; omega)
  subst hcat
  simp only [Instr.build, Sem.run_bind, hz, hu, Result.andThen_ok, hp, Value.cells]
  rw [hf]
  have e : List.drop (0 + (cat parts).length) z.toList = [] := List.drop_eq_nil_of_le (by simp; omega)
  simp only [e, List.take_zero, List.nil_append, List.append_nil, Sem.run_pure]
end Go.Sh
