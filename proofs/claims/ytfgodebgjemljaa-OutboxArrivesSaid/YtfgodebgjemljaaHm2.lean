/-
  Maps, told by their entries: what is laid into them, what is deleted, ranges over them.
-/
import Derived.Test.YtfgodebgjemljaaHm
import Derived.Maps.RangeRun
namespace Go.Sh
set_option linter.unusedVariables false
set_option linter.unusedSimpArgs false
set_option linter.unusedSectionVars false

theorem map_eraseIdx {α β : Type} (f : α → β) : ∀ (l : List α) (i : Nat), (l.map f).eraseIdx i = (l.eraseIdx i).map f
  | [], _ => by simp
  | x :: l, 0 => by simp
  | x :: l, i + 1 => by simp [map_eraseIdx f l i]

theorem inj_nodup {α β : Type} {f : α → β} : ∀ {l : List α}, (l.map f).Nodup → ∀ {a b : α}, a ∈ l → b ∈ l → f a = f b → a = b
  | [], _, _, _, h, _, _ => by cases h
  | x :: l, hn, a, b, ha, hb, he => by
    have hn' : f x ∉ l.map f ∧ (l.map f).Nodup := by simpa using hn
    rcases List.mem_cons.1 ha with rfl | ha'
    · rcases List.mem_cons.1 hb with rfl | hb'
      · rfl
      · exact absurd (List.mem_map.2 ⟨b, hb', he.symm⟩) hn'.1
    · rcases List.mem_cons.1 hb with rfl | hb'
      · exact absurd (List.mem_map.2 ⟨a, ha', he⟩) hn'.1
      · exact inj_nodup hn'.2 ha' hb' he

/-- Block b is a map with these entries (in the order in which they lie), each laid at a time of its own before c. -/
structure MapS {κ β : Type} (w : World) (b : Nat) (enc : κ → Value) (ve : β → Value) (l : List (κ × β × Nat)) (c : Nat) : Prop where
  blk : w.heap[b]? = some (.map (l.map (ent enc ve)).toArray c)
  keys : (l.map (·.1)).Nodup
  born : (l.map (·.2.2)).Nodup
  old : ∀ e ∈ l, e.2.2 < c

section
variable {P : Program} {K E T : TypeId} {κ β : Type} [DecidableEq κ] {enc : κ → Value} {d : TypeDesc} {ve : β → Value} {w w' : World} {b : Nat} {l : List (κ × β × Nat)} {c : Nat}

theorem MapS.lt (h : MapS w b enc ve l c) : b < w.heap.size := (Array.getElem?_eq_some_iff.1 h.blk).1
theorem MapS.mod {S : Nat → Prop} (h : MapS w b enc ve l c) (hm : Mod S w w') (hb : ¬ S b) : MapS w' b enc ve l c := ⟨(hm.blk b h.lt hb).trans h.blk, h.keys, h.born, h.old⟩
theorem MapS.at (h : MapS w b enc ve l c) : MapAt w b enc ve (lookP l) := ⟨l, c, h.blk, fun k => rfl⟩

theorem newM.mkS {k : Option Nat → World → Prop} (h : ∀ b w', w.heap.size ≤ b → MapS w' b enc ve [] 0 → Mod No w w' → k (some b) w') : newM w k :=
  ⟨_, _, rfl, rfl, h w.heap.size _ (Nat.le_refl _) ⟨by show (w.heap.push _)[w.heap.size]? = _; simp, List.nodup_nil, List.nodup_nil, fun e h => by cases h⟩ (Mod.alloc ..)⟩

theorem look_none : ∀ {l : List (κ × β × Nat)} {k : κ}, lookP l k = none → ∀ e ∈ l, e.1 ≠ k
  | [], _, _, _, h => by cases h
  | e :: r, k, hn, x, hx => by
    unfold lookP at hn
    split at hn
    · cases hn
    · rename_i hk
      rcases List.mem_cons.1 hx with rfl | hx
      · exact fun e => hk e.symm
      · exact look_none hn x hx
theorem look_mem : ∀ {l : List (κ × β × Nat)} {k : κ}, (lookP l k).isSome = true ↔ k ∈ l.map (·.1)
  | [], _ => by simp [lookP]
  | e :: r, k => by
    unfold lookP
    by_cases hk : k = e.1
    · simp [hk]
    · rw [if_neg hk, look_mem]
      simp [hk]

/-- a new key -/
theorem run_update_new (L : KeyT P K enc d) (hu : ∀ w, (underlying T).run P w = .ok (.map K E) w) (h : MapS w b enc ve l c) (k : κ) (v : β) (hn : lookP l k = none) :
    ∃ w', (Instr.mapUpdate T (.map (some b)) (enc k) (ve v)).run P w = .ok () w' ∧ MapS w' b enc ve (l ++ [(k, v, c)]) (c + 1) ∧ Mod (· = b) w w' := by
  have hlt := h.lt
  have hk := run_findKey (ve := ve) L w k l
  have hg : (getObj b).run P w = .ok (.map (l.map (ent enc ve)).toArray c) w := by simp [getObj, Sem.run, h.blk]
  have hset : ∀ o : Obj, (setObj b o).run P w = .ok () { w with heap := w.heap.setIfInBounds b o } := fun o => by simp [setObj, Sem.run, h.blk]
  have hmod : ∀ o : Obj, Mod (· = b) w { w with heap := w.heap.setIfInBounds b o } := fun o => ⟨rfl, rfl, rfl, by simp, fun c hc hn => by
    show (w.heap.setIfInBounds b o)[c]? = _
    rw [Array.getElem?_setIfInBounds_ne (fun e => hn e.symm)]⟩
  have hget : ∀ o : Obj, (w.heap.setIfInBounds b o)[b]? = some o := fun o => by simp [hlt]
  have hp : findP l k 0 = none := by
    cases hp : findP l k 0 with
    | none => rfl
    | some p =>
      have := findP_look l k 0
      rw [hp, hn] at this
      cases this
  refine ⟨_, ?_, ⟨hget _, ?_, ?_, ?_⟩, hmod _⟩
  · simp only [Instr.mapUpdate, Sem.run_bind, hu, Result.andThen_ok, hg, L.chk, hk, hp, Option.map_none, hset]
    simp [ent]
  · rw [List.map_append, List.nodup_append]
    refine ⟨h.keys, by simp, fun x hx y hy e => ?_⟩
    obtain ⟨z, hz, rfl⟩ := List.mem_map.1 hx
    have : y = k := by simpa using hy
    exact look_none hn z hz (e.trans this)
  · rw [List.map_append, List.nodup_append]
    refine ⟨h.born, by simp, fun x hx y hy e => ?_⟩
    obtain ⟨z, hz, rfl⟩ := List.mem_map.1 hx
    have : y = c := by simpa using hy
    have := h.old z hz
    omega
  · intro e he
    rcases List.mem_append.1 he with he | he
    · have := h.old e he
      omega
    · have : e = (k, v, c) := by simpa using he
      subst this
      simp

theorem look_erase : ∀ (l : List (κ × β × Nat)) (k : κ) (i j : Nat) (v : β), (l.map (·.1)).Nodup → findP l k i = some (j, v) → ∀ x, lookP (l.eraseIdx (j - i)) x = if x = k then none else lookP l x
  | [], _, _, _, _, _, h, _ => by simp [findP] at h
  | e :: r, k, i, j, v, hn, h, x => by
    have hn' : e.1 ∉ r.map (·.1) ∧ (r.map (·.1)).Nodup := by simpa using hn
    unfold findP at h
    by_cases hk : k = e.1
    · rw [if_pos hk] at h
      simp only [Option.some.injEq, Prod.mk.injEq] at h
      obtain ⟨rfl, rfl⟩ := h
      simp only [Nat.sub_self, List.eraseIdx_cons_zero]
      by_cases hx : x = k
      · rw [if_pos hx]
        cases hl : lookP r x with
        | none => rfl
        | some u =>
          have : x ∈ r.map (·.1) := look_mem.1 (by rw [hl]; rfl)
          rw [hx, hk] at this
          exact absurd this hn'.1
      · rw [if_neg hx]
        unfold lookP
        rw [if_neg (fun e' => hx (e'.trans hk.symm))]
        cases r <;> rfl
    · rw [if_neg hk] at h
      obtain ⟨h1, _⟩ := findP_some r k (i + 1) j v h
      have ih := look_erase r k (i + 1) j v hn'.2 h x
      rw [show j - i = j - (i + 1) + 1 by omega, List.eraseIdx_cons_succ]
      unfold lookP
      by_cases hxe : x = e.1
      · have : ¬ x = k := fun e' => hk (e'.symm.trans hxe)
        rw [if_pos hxe, if_neg this, if_pos hxe]
      · rw [if_neg hxe, ih, if_neg hxe]

/-- 'delete(m, k)', of a key that is there -/
theorem run_delete (L : KeyT P K enc d) (hu : ∀ w, (underlying T).run P w = .ok (.map K E) w) (h : MapS w b enc ve l c) (k : κ) (hs : (lookP l k).isSome = true) (T' : TypeId) :
    ∃ w' l', (∀ t, (Builtin.delete_ #[T, T'] t #[.map (some b), enc k]).run P w = .ok (.tuple #[]) w') ∧ MapS w' b enc ve l' c ∧ (∀ x, lookP l' x = if x = k then none else lookP l x) ∧ Mod (· = b) w w' := by
  have hlt := h.lt
  have hk := run_findKey (ve := ve) L w k l
  have hg : (getObj b).run P w = .ok (.map (l.map (ent enc ve)).toArray c) w := by simp [getObj, Sem.run, h.blk]
  have hset : ∀ o : Obj, (setObj b o).run P w = .ok () { w with heap := w.heap.setIfInBounds b o } := fun o => by simp [setObj, Sem.run, h.blk]
  have hmod : ∀ o : Obj, Mod (· = b) w { w with heap := w.heap.setIfInBounds b o } := fun o => ⟨rfl, rfl, rfl, by simp, fun c hc hn => by
    show (w.heap.setIfInBounds b o)[c]? = _
    rw [Array.getElem?_setIfInBounds_ne (fun e => hn e.symm)]⟩
  have hget : ∀ o : Obj, (w.heap.setIfInBounds b o)[b]? = some o := fun o => by simp [hlt]
  cases hp : findP l k 0 with
  | none =>
    have := findP_look l k 0
    rw [hp] at this
    rw [← this] at hs
    cases hs
  | some p =>
    obtain ⟨j, v⟩ := p
    have hl := look_erase l k 0 j v h.keys hp
    rw [Nat.sub_zero] at hl
    have hsub : (l.eraseIdx j).Sublist l := List.eraseIdx_sublist l j
    have he : ((l.map (ent enc ve)).toArray.eraseIdxIfInBounds j) = ((l.eraseIdx j).map (ent enc ve)).toArray := by
      apply Array.ext'
      simp [map_eraseIdx]
    refine ⟨_, l.eraseIdx j, fun t => ?_, ⟨(hget _).trans (by rw [he]), h.keys.sublist (hsub.map _), h.born.sublist (hsub.map _), fun e hx => h.old e (hsub.subset hx)⟩, hl, hmod (.map ((l.map (ent enc ve)).toArray.eraseIdxIfInBounds j) c)⟩
    simp only [Builtin.delete_, List.getElem?_toArray, List.getElem?_cons_zero, List.getElem?_cons_succ, Sem.run_bind, hu, Result.andThen_ok, hg, L.chk, hk, hp, Option.map_some, hset, Sem.run_pure]
end

/-! ### Ranges: the keys, as they come -/

/-- an iterator over the map in block b, behind which the keys ks came -/
structure IterS {κ β : Type} (w : World) (r b : Nat) (l : List (κ × β × Nat)) (c : Nat) (ks : List κ) (left : Nat) : Prop where
  seen : ∃ s : Array Nat, w.heap[r]? = some (.mapIter (some b) c s c) ∧ ks.Nodup ∧ (∀ k ∈ ks, ∃ e ∈ l, e.1 = k ∧ s.contains e.2.2 = true) ∧ (∀ e ∈ l, s.contains e.2.2 = true → e.1 ∈ ks) ∧ left = (l.filter fun e => !s.contains e.2.2).length

section
variable {P : Program} {κ β : Type} [DecidableEq κ] {enc : κ → Value} {ve : β → Value} {w w' : World} {b r : Nat} {l : List (κ × β × Nat)} {c : Nat} {ks : List κ} {n : Nat}

theorem IterS.lt (h : IterS w r b l c ks n) : r < w.heap.size := by
  obtain ⟨s, hs, _⟩ := h.seen
  exact (Array.getElem?_eq_some_iff.1 hs).1
theorem IterS.mod {S : Nat → Prop} (h : IterS w r b l c ks n) (hm : Mod S w w') (hr : ¬ S r) : IterS w' r b l c ks n := by
  have hl := h.lt
  obtain ⟨s, hs, h2⟩ := h.seen
  exact ⟨s, (hm.blk r hl hr).trans hs, h2⟩

theorem run_rangeS {t K E : TypeId} (ht : P.underlying t = some (.map K E)) (h : MapS w b enc ve l c) :
    ∃ w', (Instr.range t (.map (some b))).run P w = .ok (.pointer (some ⟨w.heap.size, 0, none⟩)) w' ∧ IterS w' w.heap.size b l c [] l.length ∧ Mod No w w' := by
  refine ⟨_, run_range_map w t K E b _ c ht h.blk, ⟨#[], heap_alloc_new .., List.nodup_nil, (fun k h => by cases h), (fun e _ h => by simp at h), by simp [List.filter_eq_self.2]⟩, Mod.alloc ..⟩

theorem left_ent (s : Array Nat) : (leftOf (l.map (ent enc ve)).toArray s).toList = (l.filter fun e => !s.contains e.2.2).map (ent enc ve) := by
  unfold leftOf
  rw [Array.toList_filter, List.filter_map]
  congr 1

/-- 'next': nothing is left, or a key that has not come -/
theorem run_nextS (ty : TypeId) (h : MapS w b enc ve l c) (hi : IterS w r b l c ks n) :
    (n = 0 ∧ (Instr.next (.pointer (some ⟨r, 0, none⟩)) false ty).run P w = .ok (.tuple #[.bool false]) w) ∨
    ∃ e ∈ l, ∃ w', (Instr.next (.pointer (some ⟨r, 0, none⟩)) false ty).run P w = .ok (.tuple #[.bool true, enc e.1, ve e.2.1]) w' ∧ (∃ m, m < n ∧ IterS w' r b l c (ks ++ [e.1]) m) ∧
      (∀ w2, w2.heap[r]? = w'.heap[r]? → w2.heap[b]? = w.heap[b]? → (Instr.entry (.pointer (some ⟨r, 0, none⟩))).run P w2 = .ok (.tuple #[enc e.1, ve e.2.1]) w2) ∧ Mod (· = r) w w' := by
  obtain ⟨s, hs, hnd, hin, hout, rfl⟩ := hi.seen
  have hlt := hi.lt
  rcases run_next_at (P := P) w ty r b c c s _ c hs h.blk (fun x hx => by
    have hx : x ∈ l.map (ent enc ve) := hx
    obtain ⟨e, he, rfl⟩ := List.mem_map.1 hx
    exact h.old e he) (Nat.le_refl c) with ⟨h0, hr⟩ | ⟨x, hx, w1, hw1, hr⟩
  · refine .inl ⟨?_, hr⟩
    have := left_ent (enc := enc) (ve := ve) (l := l) s
    have := congrArg List.length this
    rw [Array.length_toList, h0, List.length_map] at this
    exact this.symm
  · rw [left_ent] at hx
    obtain ⟨e, he, rfl⟩ := List.mem_map.1 hx
    obtain ⟨hel, hes⟩ := List.mem_filter.1 he
    have hes : s.contains e.2.2 = false := by simpa using hes
    have hget : ∀ o : Obj, (ChangeMaps.setBlock w1 r o).heap[r]? = some o := fun o => by
      have : r < w1.heap.size := by rcases hw1 with rfl | rfl <;> exact hlt
      simp [ChangeMaps.setBlock, this]
    have hmod : ∀ o : Obj, Mod (· = r) w (ChangeMaps.setBlock w1 r o) := fun o => by
      have h1 : Mod No w w1 := by
        rcases hw1 with rfl | rfl
        · exact Mod.refl _ _
        · exact Mod.drew _
      refine h1.of0.on (S' := (· = r)) ⟨rfl, rfl, rfl, by simp [ChangeMaps.setBlock], fun b hb hn => ?_⟩ fun _ _ e => e
      show (w1.heap.setIfInBounds r o)[b]? = _
      rw [Array.getElem?_setIfInBounds_ne (fun e => hn e.symm)]
    refine .inr ⟨e, hel, _, hr, ⟨_, ?_, ⟨s.push e.2.2, hget _, ?_, ?_, ?_, rfl⟩⟩, ?_, hmod _⟩
    · refine filter_lt (fun e' => !s.contains e'.2.2) (fun e' => !(s.push e.2.2).contains e'.2.2) (fun x hx => ?_) e (by rw [hes]; rfl) (by rw [contains_push, beq_self_eq_true, Bool.or_true]; rfl) l hel
      rw [contains_push] at hx
      cases hc : s.contains x.2.2 with
      | false => rfl
      | true => rw [hc, Bool.true_or] at hx; exact absurd hx (by decide)
    · rw [List.nodup_append]
      refine ⟨hnd, by simp, fun x hx y hy e' => ?_⟩
      have hy : y = e.1 := by simpa using hy
      obtain ⟨z, hz, h1, h2⟩ := hin x hx
      have : z = e := inj_nodup h.keys hz hel (h1.trans (e'.trans hy))
      rw [this, hes] at h2
      cases h2
    · intro k hk
      rcases List.mem_append.1 hk with hk | hk
      · obtain ⟨z, hz, h1, h2⟩ := hin k hk
        exact ⟨z, hz, h1, by rw [contains_push, h2, Bool.true_or]⟩
      · have : k = e.1 := by simpa using hk
        exact ⟨e, hel, this.symm, by rw [contains_push, beq_self_eq_true, Bool.or_true]⟩
    · intro z hz hc
      rw [contains_push] at hc
      cases hs2 : s.contains z.2.2 with
      | true => exact List.mem_append_left _ (hout z hz hs2)
      | false =>
        rw [hs2, Bool.false_or] at hc
        have hb : z.2.2 = e.2.2 := by simpa using hc
        have : z = e := inj_nodup h.born hz hel hb
        rw [this]
        simp
    · intro w2 h1 h2
      exact run_entry_at (P := P) w2 r b c s _ c (ent enc ve e) (h1.trans (hget _)) (h2.trans h.blk) (by simpa using ⟨e.1, e.2.1, e.2.2, hel, rfl⟩) (by simpa [ent, Function.comp_def] using h.born)

theorem iter_end (h : MapS w b enc ve l c) (hi : IterS w r b l c ks 0) : ∀ k, k ∈ ks ↔ (lookP l k).isSome = true := by
  obtain ⟨s, hs, hnd, hin, hout, h0⟩ := hi.seen
  intro k
  rw [look_mem]
  constructor
  · intro hk
    obtain ⟨e, he, rfl, _⟩ := hin k hk
    exact List.mem_map.2 ⟨e, he, rfl⟩
  · intro hk
    obtain ⟨e, he, rfl⟩ := List.mem_map.1 hk
    refine hout e he ?_
    cases hc : s.contains e.2.2 with
    | true => rfl
    | false =>
      have : e ∈ l.filter fun e => !s.contains e.2.2 := List.mem_filter.2 ⟨he, by rw [hc]; rfl⟩
      rw [List.eq_nil_of_length_eq_zero h0.symm] at this
      cases this
end
end Go.Sh
