/-
  Append, of whatever source; of a string.
-/
import Derived.Test.YtfgodebgjemljaaHs2
namespace Go.Sh
set_option linter.unusedVariables false
set_option linter.unusedSimpArgs false
section
variable {P : Program} {e t t' : TypeId} {m B : Nat} {z : Value} {d : TypeDesc}

/-- 'append(s, x...)', s the call's own. -/
theorem run_appendG (E : ElemT P e m B z) {w : World} {s : Slc} {x : Value} {xl : Nat} {cs xs : List Value} (hu : ∀ w, (underlying t).run P w = .ok (.slice e) w) (hu' : ∀ w, (underlying t').run P w = .ok d w) (hd : ∀ k, d ≠ .int k)
    (hs : OwnS w e m s cs) (hxl : xs.length = xl * m) (hlo : ∀ w, (Builtin.lenOf x).run P w = .ok xl w) (hfx : (Builtin.firstCells m xl x).run P w = .ok xs.toArray w) (hfx' : (Builtin.firstCells m xl x).run P { w with drawn := w.drawn + 1 } = .ok xs.toArray { w with drawn := w.drawn + 1 }) (h1 : ∀ v ∈ xs, one v = true) (hb : (2 * (s.len + xl) + 192) * B ≤ 281474976710656) (hB : 0 < B) :
    ∃ (s' : Slc) (w' : World), (∀ ty, (Builtin.append_ #[t, t'] ty #[s.v, x]).run P w = .ok s'.v w') ∧ OwnS w' e m s' (cs ++ xs) ∧ s'.len = s.len + xl ∧
      Mod (fun b => s.a = some ⟨b, 0, none⟩) w w' ∧ (s'.a = s.a ∨ ∃ b, s'.a = some ⟨b, 0, none⟩ ∧ w.heap.size ≤ b ∧ b < w'.heap.size) ∧ OwnS w' e m s cs := by
  have hlen := hs.1
  by_cases hfit : s.len + xl ≤ s.cap
  · -- in place
    rcases hs.2 with rfl | ⟨b, rest, hsa, hblk, hrest, hle⟩
    · have hx0 : xl = 0 := by simp at hfit; exact hfit
      have : xs = [] := List.eq_nil_of_length_eq_zero (by rw [hxl, hx0]; simp)
      subst this
      refine ⟨⟨none, 0, 0⟩, w, fun ty => ?_, by simpa using hs, by simp [hx0], Mod.refl _ _, .inl rfl, hs⟩
      simp [hx0] at hfx
      cases d <;> first | exact absurd rfl (hd _) | (
      simp only [Builtin.append_, List.getElem?_toArray, List.getElem?_cons_zero, List.getElem?_cons_succ, Sem.run_bind, hu, hu', Result.andThen_ok, E.size, Bool.false_eq_true, if_false, hlo, Sem.run_pure, hx0]
      simp [hfx, hx0])
    · obtain ⟨h2, h3⟩ := puts_blk (b := b) (T := e) (i0 := s.len * m) xs 0 w (cs ++ rest) hblk (by
        simp only [List.length_append]
        have : (s.len + xl) * m ≤ s.cap * m := Nat.mul_le_mul_right _ hfit
        rw [Nat.add_mul] at this
        omega)
      have hst : (storeCells (⟨b, s.len * m, none⟩ : Addr) xs).run P w = .ok () (World.puts w ⟨b, s.len * m, none⟩ xs 0) :=
        run_storeCells xs 0 w h1 (fun j hj => by
          rw [Nat.zero_add, add_at]
          have hl : s.len * m + j < (cs ++ rest).length := by
            simp only [List.length_append]
            have : (s.len + xl) * m ≤ s.cap * m := Nat.mul_le_mul_right _ hfit
            rw [Nat.add_mul] at this
            omega
          exact ⟨⟨_, hblk.cell (List.getElem?_eq_getElem hl)⟩, hblk.thaw hl⟩) (fun _ => .inr rfl)
      have e1 : List.take (s.len * m + 0) (cs ++ rest) ++ xs ++ List.drop (s.len * m + 0 + xs.length) (cs ++ rest) = (cs ++ xs) ++ rest.drop xs.length := by
        rw [Nat.add_zero, ← hlen, List.take_left]
        rw [List.drop_append]
        simp
      rw [e1] at h2
      refine ⟨⟨s.a, s.len + xl, s.cap⟩, World.puts w ⟨b, s.len * m, none⟩ xs 0, fun ty => ?_, ⟨?_, .inr ⟨b, rest.drop xs.length, hsa, h2, ?_, hfit⟩⟩, rfl, h3.weaken fun c _ h => by rw [hsa, h], .inl rfl, ⟨hlen, .inr ⟨b, xs ++ rest.drop xs.length, hsa, by rw [← List.append_assoc]; exact h2, ?_, hle⟩⟩⟩
      · obtain ⟨sa, sl, sc⟩ := s
        simp only at hsa
        subst hsa
        simp only at hfit
        cases d <;> first | exact absurd rfl (hd _) | (
        simp only [Builtin.append_, List.getElem?_toArray, List.getElem?_cons_zero, List.getElem?_cons_succ, Sem.run_bind, hu, hu', Result.andThen_ok, E.size, Bool.false_eq_true, if_false, hlo, Sem.run_pure]
        simp only [if_pos hfit, Bool.not_false, if_true, Sem.run_bind, hfx, Result.andThen_ok, add_at, Nat.zero_add, hst, Sem.run_pure])
      · simp [hlen, hxl, Nat.add_mul]
      · simp only [List.length_append, List.length_drop]
        have : (s.len + xl) * m ≤ s.cap * m := Nat.mul_le_mul_right _ hfit
        rw [Nat.add_mul] at this
        omega
      · simp only [List.length_append, List.length_drop]
        have : (s.len + xl) * m ≤ s.cap * m := Nat.mul_le_mul_right _ hfit
        rw [Nat.add_mul] at this
        omega
  · -- a new block
    have hn : s.cap < s.len + xl := by omega
    obtain ⟨info, hi, hiB⟩ := E.info w
    have hfs : (Builtin.firstCells m s.len s.v).run P w = .ok cs.toArray w := hs.rd.cells
    let q : Question := .appendCap (s.len + xl) s.cap e
    let nc := q.cut (w.tape w.drawn q)
    have hnc : s.len + xl ≤ nc := Nat.le_add_right _ _
    let W : World := { w with drawn := w.drawn + 1 }
    have hi' : (typeInfo e).run P W = .ok info W := by
      obtain ⟨i2, h2, h3⟩ := E.info W
      have : (typeInfo e).run P w = .ok info w := hi
      simp only [typeInfo, program, Sem.run_bind, Sem.run, Result.andThen_ok] at h2 this ⊢
      cases hp : P.info? e with
      | none => simp [hp, stuck] at this
      | some i => simp [hp] at this ⊢; exact this
    have hfs' : (Builtin.firstCells m s.len s.v).run P W = .ok cs.toArray W := (hs.mod (S := No) (Mod.drew w) (fun _ _ h => h)).rd.cells
    have hfx2 : (Builtin.firstCells m xl x).run P W = .ok xs.toArray W := hfx'
    let zs := Builtin.zeroCells z.cells (nc - (s.len + xl))
    have hzs : zs.size = (nc - (s.len + xl)) * m := by rw [zeroCells_size, E.zsize]
    refine ⟨⟨some ⟨w.heap.size, 0, none⟩, s.len + xl, nc⟩, W.alloc (.cells (cs.toArray ++ xs.toArray ++ zs) e), fun ty => ?_, ⟨by simp [hlen, hxl, Nat.add_mul], .inr ⟨w.heap.size, zs.toList, rfl, ?_, ?_, hnc⟩⟩, rfl, ?_, .inr ⟨_, rfl, Nat.le_refl _, by simp [W]⟩, hs.mod (S := No) ((Mod.drew w).on0 (Mod.alloc ..)) fun _ _ h => h⟩
    · have h48 : Builtin.nextslicecap (s.len + xl) s.cap * B ≤ 281474976710656 := Nat.le_trans (Nat.mul_le_mul_right _ (nextcap_le hn)) hb
      obtain ⟨sa, sl, sc⟩ := s
      simp only at hn hfit h48 hfs' hfx' hnc hB hi' hi
      have hch : (choose (.appendCap (sl + xl) sc e)).run P w = .ok nc W := by
        simp [choose, Sem.run, Question.forced, nc, W, q]
      cases d <;> first | exact absurd rfl (hd _) | (
      simp only [Builtin.append_, List.getElem?_toArray, List.getElem?_cons_zero, List.getElem?_cons_succ, Sem.run_bind, hu, hu', Result.andThen_ok, E.size, Bool.false_eq_true, if_false, hlo, Sem.run_pure]
      rw [if_neg hfit]
      simp only [Sem.run_bind, Sem.run_ite, hi, Result.andThen_ok, hiB, Sem.run_pure, Bool.false_eq_true, false_or]
      rw [if_neg (fun h => by omega)]
      rw [if_neg (by simpa using h48)]
      simp only [hch, Result.andThen_ok, hi', run_askRoom, hfs', Bool.not_false, if_true, hfx2, E.zero, newRow, newObj, Sem.run_bind, Sem.run, Sem.run_pure]
      rfl)
    · have := Blk.new W (cs.toArray ++ xs.toArray ++ zs) e
      simpa using this
    · simp only [List.length_append, Array.length_toList, hzs, hlen, hxl]
      rw [← Nat.add_mul, ← Nat.add_mul]
      congr 1
      omega
    · exact ((Mod.drew w).on0 (Mod.alloc ..)).of0


end
end Go.Sh
namespace Go.Sh
section
variable {P : Program} {e t t' : TypeId} {B : Nat} {z : Value}

/-- 'append(s, x...)', x a string -/
theorem run_appendS (E : ElemT P e 1 B z) {w : World} {s : Slc} {bs : List UInt8} {cs : List Value} (hu : ∀ w, (underlying t).run P w = .ok (.slice e) w) (hu' : ∀ w, (underlying t').run P w = .ok .string w)
    (hs : OwnS w e 1 s cs) (hb : (2 * (s.len + bs.length) + 192) * B ≤ 281474976710656) (hB : 0 < B) :
    ∃ (s' : Slc) (w' : World), (∀ ty, (Builtin.append_ #[t, t'] ty #[s.v, .string ⟨bs.toArray⟩]).run P w = .ok s'.v w') ∧ OwnS w' e 1 s' (cs ++ bs.map u8) ∧ s'.len = s.len + bs.length ∧
      Mod (fun b => s.a = some ⟨b, 0, none⟩) w w' ∧ (s'.a = s.a ∨ ∃ b, s'.a = some ⟨b, 0, none⟩ ∧ w.heap.size ≤ b ∧ b < w'.heap.size) ∧ OwnS w' e 1 s cs := by
  have hsz : (⟨bs.toArray⟩ : ByteArray).size = bs.length := by simp [ByteArray.size]
  have hf : ∀ w : World, (Builtin.firstCells 1 bs.length (.string ⟨bs.toArray⟩)).run P w = .ok (bs.map u8).toArray w := fun w => by
    have : ((⟨bs.toArray⟩ : ByteArray).extract 0 bs.length) = ⟨bs.toArray⟩ := by
      rw [← hsz, ByteArray.extract_zero_size]
    simp only [Builtin.firstCells, this, Sem.run_pure]
    congr 1
    apply Array.ext'
    simp [u8]
  exact run_appendG E hu hu' (fun k h => by cases h) hs (by simp) (fun w => by simp [Builtin.lenOf, hsz]) (hf w) (hf _) (by
    intro v hv
    obtain ⟨y, _, rfl⟩ := List.mem_map.1 hv
    rfl) hb hB
end
end Go.Sh
