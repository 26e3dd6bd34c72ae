/-
  Slices: what is read of them; a slice of the call's own, appended to; make; bytes and strings.
-/
import Derived.Test.YtfgodebgjemljaaHm
namespace Go.Sh
set_option linter.unusedVariables false
set_option linter.unusedSimpArgs false

/-- An element's type, with what the model's table says of it. -/
structure ElemT (P : Program) (e : TypeId) (m B : Nat) (z : Value) : Prop where
  size : ∀ w, (sizeOf e).run P w = .ok m w
  info : ∀ w, ∃ i, (typeInfo e).run P w = .ok i w ∧ i.bytes = B
  zero : ∀ w, (zeroValue e).run P w = .ok z w
  zsize : z.cells.size = m

/-- What a slice reads as, cell by cell. -/
def RdS (w : World) (m : Nat) (s : Slc) (cs : List Value) : Prop :=
  cs.length = s.len * m ∧ ((s.a = none ∧ s.len = 0) ∨ ∃ b o, s.a = some ⟨b, o, none⟩ ∧ (0 < cs.length → b < w.heap.size) ∧ ∀ i, i < cs.length → w.cell? ⟨b, o + i, none⟩ = cs[i]?)

/-- A slice of the call's own, at the head of its block. -/
def OwnS (w : World) (e : TypeId) (m : Nat) (s : Slc) (cs : List Value) : Prop :=
  cs.length = s.len * m ∧ (s = ⟨none, 0, 0⟩ ∨ ∃ b rest, s.a = some ⟨b, 0, none⟩ ∧ Blk w b (cs ++ rest) e ∧ cs.length + rest.length = s.cap * m ∧ s.len ≤ s.cap)

theorem OwnS.nil (w : World) (e : TypeId) (m : Nat) : OwnS w e m Slc.nil [] := ⟨by simp [Slc.nil], .inl rfl⟩

theorem OwnS.mod {S : Nat → Prop} {w w' : World} {e : TypeId} {m : Nat} {s : Slc} {cs : List Value} (h : OwnS w e m s cs) (hm : Mod S w w') (hb : ∀ b, s.a = some ⟨b, 0, none⟩ → ¬ S b) : OwnS w' e m s cs := by
  refine ⟨h.1, ?_⟩
  rcases h.2 with h2 | ⟨b, rest, h2, h3, h4⟩
  · exact .inl h2
  · exact .inr ⟨b, rest, h2, h3.mod hm (hb b h2), h4⟩

theorem OwnS.rd {w : World} {e : TypeId} {m : Nat} {s : Slc} {cs : List Value} (h : OwnS w e m s cs) : RdS w m s cs := by
  refine ⟨h.1, ?_⟩
  rcases h.2 with rfl | ⟨b, rest, h2, h3, h4⟩
  · exact .inl ⟨rfl, rfl⟩
  · exact .inr ⟨b, 0, h2, fun _ => h3.lt, fun i hi => by rw [h3.cell']; simp [List.getElem?_append_left hi]⟩

theorem RdS.mod {S : Nat → Prop} {w w' : World} {m : Nat} {s : Slc} {cs : List Value} (h : RdS w m s cs) (hm : Mod S w w') (hb : ∀ b o, s.a = some ⟨b, o, none⟩ → ¬ S b) : RdS w' m s cs := by
  refine ⟨h.1, ?_⟩
  rcases h.2 with h2 | ⟨b, o, h1, h2, h3⟩
  · exact .inl h2
  · refine .inr ⟨b, o, h1, fun hp => Nat.lt_of_lt_of_le (h2 hp) hm.size, fun i hi => ?_⟩
    rw [← h3 i hi]
    simp only [World.cell?]
    rw [hm.blk b (h2 (by omega)) (hb b o h1)]

theorem RdS.cells {P : Program} {w : World} {m : Nat} {s : Slc} {cs : List Value} (h : RdS w m s cs) : (Builtin.firstCells m s.len s.v).run P w = .ok cs.toArray w := by
  obtain ⟨h1, h2⟩ := h
  obtain ⟨a, n, c⟩ := s
  simp only at h1 h2
  rcases h2 with ⟨rfl, rfl⟩ | ⟨b, o, rfl, hb, hc⟩
  · obtain rfl : cs = [] := List.eq_nil_of_length_eq_zero (by simpa using h1)
    simp [Builtin.firstCells]
  · simp only [Builtin.firstCells]
    have : CellsAt w ⟨b, o, none⟩ (n * m) cs.toArray := ⟨by simpa using h1, fun i hi => by
      rw [add_at, hc i (by rw [h1]; exact hi)]; simp⟩
    exact run_cells this

theorem growBy_le (n : Nat) : ∀ (r c : Nat), c < n → Builtin.growBy n r c ≤ 2 * n + 192
  | 0, c, h => by simp [Builtin.growBy]; omega
  | r + 1, c, h => by
    unfold Builtin.growBy
    rw [if_neg (by omega)]
    by_cases h2 : c + (c + 768) / 4 < n
    · exact growBy_le n r _ h2
    · cases r with
      | zero => simp [Builtin.growBy]; omega
      | succ r => unfold Builtin.growBy; rw [if_pos (by omega)]; omega

theorem nextcap_le {n c : Nat} (h : c < n) : Builtin.nextslicecap n c ≤ 2 * n + 192 := by
  unfold Builtin.nextslicecap
  split
  · omega
  · split
    · omega
    · exact growBy_le n 4 c h

theorem zeroCells_size (z : Array Value) (n : Nat) : (Builtin.zeroCells z n).size = n * z.size := by simp [Builtin.zeroCells]

theorem run_askRoom {P : Program} {w : World} {n : Nat} : (askRoom n).run P w = .ok () w := by
  unfold askRoom
  split <;> simp [mark, Sem.run]

theorem Value.v_eq (s : Slc) : (Value.slice s.a s.len s.cap) = s.v := rfl

section
variable {P : Program} {e t t' : TypeId} {m B : Nat} {z : Value} {d : TypeDesc}

/-- 'append(s, x...)', s the call's own. -/
theorem run_append' (E : ElemT P e m B z) {w : World} {s x : Slc} {cs xs : List Value} (hu : ∀ w, (underlying t).run P w = .ok (.slice e) w) (hu' : ∀ w, (underlying t').run P w = .ok d w) (hd : ∀ k, d ≠ .int k)
    (hs : OwnS w e m s cs) (hx : RdS w m x xs) (h1 : ∀ v ∈ xs, one v = true) (hb : (2 * (s.len + x.len) + 192) * B ≤ 281474976710656) (hB : 0 < B) :
    ∃ (s' : Slc) (w' : World), (∀ ty, (Builtin.append_ #[t, t'] ty #[s.v, x.v]).run P w = .ok s'.v w') ∧ OwnS w' e m s' (cs ++ xs) ∧ s'.len = s.len + x.len ∧
      Mod (fun b => s.a = some ⟨b, 0, none⟩) w w' ∧ (s'.a = s.a ∨ ∃ b, s'.a = some ⟨b, 0, none⟩ ∧ w.heap.size ≤ b ∧ b < w'.heap.size) ∧ OwnS w' e m s cs := by
  have hfx := hx.cells (P := P)
  have hlen := hs.1
  have hxl := hx.1
  by_cases hfit : s.len + x.len ≤ s.cap
  · -- in place
    rcases hs.2 with rfl | ⟨b, rest, hsa, hblk, hrest, hle⟩
    · have hx0 : x.len = 0 := by simp at hfit; exact hfit
      have : xs = [] := List.eq_nil_of_length_eq_zero (by rw [hxl, hx0]; simp)
      subst this
      refine ⟨⟨none, 0, 0⟩, w, fun ty => ?_, by simpa using hs, by simp [hx0], Mod.refl _ _, .inl rfl, hs⟩
      simp [hx0] at hfx
      cases d <;> first | exact absurd rfl (hd _) | (
      simp only [Builtin.append_, List.getElem?_toArray, List.getElem?_cons_zero, List.getElem?_cons_succ, Sem.run_bind, hu, hu', Result.andThen_ok, E.size, Bool.false_eq_true, if_false, Builtin.lenOf, Sem.run_pure, hx0]
      simp [hfx, hx0])
    · obtain ⟨h2, h3⟩ := puts_blk (b := b) (T := e) (i0 := s.len * m) xs 0 w (cs ++ rest) hblk (by
        simp only [List.length_append]
        have : (s.len + x.len) * m ≤ s.cap * m := Nat.mul_le_mul_right _ hfit
        rw [Nat.add_mul] at this
        omega)
      have hst : (storeCells (⟨b, s.len * m, none⟩ : Addr) xs).run P w = .ok () (World.puts w ⟨b, s.len * m, none⟩ xs 0) :=
        run_storeCells xs 0 w h1 (fun j hj => by
          rw [Nat.zero_add, add_at]
          have hl : s.len * m + j < (cs ++ rest).length := by
            simp only [List.length_append]
            have : (s.len + x.len) * m ≤ s.cap * m := Nat.mul_le_mul_right _ hfit
            rw [Nat.add_mul] at this
            omega
          exact ⟨⟨_, hblk.cell (List.getElem?_eq_getElem hl)⟩, hblk.thaw hl⟩) (fun _ => .inr rfl)
      have e1 : List.take (s.len * m + 0) (cs ++ rest) ++ xs ++ List.drop (s.len * m + 0 + xs.length) (cs ++ rest) = (cs ++ xs) ++ rest.drop xs.length := by
        rw [Nat.add_zero, ← hlen, List.take_left]
        rw [List.drop_append]
        simp
      rw [e1] at h2
      refine ⟨⟨s.a, s.len + x.len, s.cap⟩, World.puts w ⟨b, s.len * m, none⟩ xs 0, fun ty => ?_, ⟨?_, .inr ⟨b, rest.drop xs.length, hsa, h2, ?_, hfit⟩⟩, rfl, h3.weaken fun c _ h => by rw [hsa, h], .inl rfl, ⟨hlen, .inr ⟨b, xs ++ rest.drop xs.length, hsa, by rw [← List.append_assoc]; exact h2, ?_, hle⟩⟩⟩
      · obtain ⟨sa, sl, sc⟩ := s
        simp only at hsa
        subst hsa
        simp only at hfit
        cases d <;> first | exact absurd rfl (hd _) | (
        simp only [Builtin.append_, List.getElem?_toArray, List.getElem?_cons_zero, List.getElem?_cons_succ, Sem.run_bind, hu, hu', Result.andThen_ok, E.size, Bool.false_eq_true, if_false, Builtin.lenOf, Sem.run_pure]
        simp only [if_pos hfit, Bool.not_false, if_true, Sem.run_bind, hfx, Result.andThen_ok, add_at, Nat.zero_add, hst, Sem.run_pure])
      · simp [hlen, hxl, Nat.add_mul]
      · simp only [List.length_append, List.length_drop]
        have : (s.len + x.len) * m ≤ s.cap * m := Nat.mul_le_mul_right _ hfit
        rw [Nat.add_mul] at this
        omega
      · simp only [List.length_append, List.length_drop]
        have : (s.len + x.len) * m ≤ s.cap * m := Nat.mul_le_mul_right _ hfit
        rw [Nat.add_mul] at this
        omega
  · -- a new block
    have hn : s.cap < s.len + x.len := by omega
    obtain ⟨info, hi, hiB⟩ := E.info w
    have hfs : (Builtin.firstCells m s.len s.v).run P w = .ok cs.toArray w := hs.rd.cells
    let q : Question := .appendCap (s.len + x.len) s.cap e
    let nc := q.cut (w.tape w.drawn q)
    have hnc : s.len + x.len ≤ nc := Nat.le_add_right _ _
    let W : World := { w with drawn := w.drawn + 1 }
    have hi' : (typeInfo e).run P W = .ok info W := by
      obtain ⟨i2, h2, h3⟩ := E.info W
      have : (typeInfo e).run P w = .ok info w := hi
      simp only [typeInfo, program, Sem.run_bind, Sem.run, Result.andThen_ok] at h2 this ⊢
      cases hp : P.info? e with
      | none => simp [hp, stuck] at this
      | some i => simp [hp] at this ⊢; exact this
    have hfs' : (Builtin.firstCells m s.len s.v).run P W = .ok cs.toArray W := (hs.mod (S := No) (Mod.drew w) (fun _ _ h => h)).rd.cells
    have hfx' : (Builtin.firstCells m x.len x.v).run P W = .ok xs.toArray W := (hx.mod (S := No) (Mod.drew w) (fun _ _ _ h => h)).cells
    let zs := Builtin.zeroCells z.cells (nc - (s.len + x.len))
    have hzs : zs.size = (nc - (s.len + x.len)) * m := by rw [zeroCells_size, E.zsize]
    refine ⟨⟨some ⟨w.heap.size, 0, none⟩, s.len + x.len, nc⟩, W.alloc (.cells (cs.toArray ++ xs.toArray ++ zs) e), fun ty => ?_, ⟨by simp [hlen, hxl, Nat.add_mul], .inr ⟨w.heap.size, zs.toList, rfl, ?_, ?_, hnc⟩⟩, rfl, ?_, .inr ⟨_, rfl, Nat.le_refl _, by simp [W]⟩, hs.mod (S := No) ((Mod.drew w).on0 (Mod.alloc ..)) fun _ _ h => h⟩
    · have h48 : Builtin.nextslicecap (s.len + x.len) s.cap * B ≤ 281474976710656 := Nat.le_trans (Nat.mul_le_mul_right _ (nextcap_le hn)) hb
      obtain ⟨sa, sl, sc⟩ := s
      obtain ⟨xa, xl, xc⟩ := x
      simp only at hn hfit h48 hfs' hfx' hnc hB hi' hi
      have hch : (choose (.appendCap (sl + xl) sc e)).run P w = .ok nc W := by
        simp [choose, Sem.run, Question.forced, nc, W, q]
      cases d <;> first | exact absurd rfl (hd _) | (
      simp only [Builtin.append_, List.getElem?_toArray, List.getElem?_cons_zero, List.getElem?_cons_succ, Sem.run_bind, hu, hu', Result.andThen_ok, E.size, Bool.false_eq_true, if_false, Builtin.lenOf, Sem.run_pure]
      rw [if_neg hfit]
      simp only [Sem.run_bind, Sem.run_ite, hi, Result.andThen_ok, hiB, Sem.run_pure, Bool.false_eq_true, false_or]
      rw [if_neg (fun h => by omega)]
      rw [if_neg (by simpa using h48)]
      simp only [hch, Result.andThen_ok, hi', run_askRoom, hfs', Bool.not_false, if_true, hfx', E.zero, newRow, newObj, Sem.run_bind, Sem.run, Sem.run_pure]
      rfl)
    · have := Blk.new W (cs.toArray ++ xs.toArray ++ zs) e
      simpa using this
    · simp only [List.length_append, Array.length_toList, hzs, hlen, hxl]
      rw [← Nat.add_mul, ← Nat.add_mul]
      congr 1
      omega
    · exact ((Mod.drew w).on0 (Mod.alloc ..)).of0

theorem run_append (E : ElemT P e m B z) {w : World} {s x : Slc} {cs xs : List Value} (hu : ∀ w, (underlying t).run P w = .ok (.slice e) w) (hu' : ∀ w, (underlying t').run P w = .ok d w) (hd : ∀ k, d ≠ .int k)
    (hs : OwnS w e m s cs) (hx : RdS w m x xs) (h1 : ∀ v ∈ xs, one v = true) (hb : (2 * (s.len + x.len) + 192) * B ≤ 281474976710656) (hB : 0 < B) :
    ∃ (s' : Slc) (w' : World), (∀ ty, (Builtin.append_ #[t, t'] ty #[s.v, x.v]).run P w = .ok s'.v w') ∧ OwnS w' e m s' (cs ++ xs) ∧ s'.len = s.len + x.len ∧
      Mod (fun b => s.a = some ⟨b, 0, none⟩) w w' ∧ (s'.a = s.a ∨ ∃ b, s'.a = some ⟨b, 0, none⟩ ∧ w.heap.size ≤ b ∧ b < w'.heap.size) :=
  let ⟨s', w', h1, h2, h3, h4, h5, _⟩ := run_append' E hu hu' hd hs hx h1 hb hB
  ⟨s', w', h1, h2, h3, h4, h5⟩
end
end Go.Sh
