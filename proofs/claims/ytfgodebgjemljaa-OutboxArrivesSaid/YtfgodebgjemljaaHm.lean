/-
  Maps, told by what is found at each key.
-/
import Derived.Test.YtfgodebgjemljaaHp
namespace Go.Sh
set_option linter.unusedVariables false
set_option linter.unusedSimpArgs false

/-- What is needed of a key's type. -/
structure KeyT (P : Program) (K : TypeId) {κ : Type} [DecidableEq κ] (enc : κ → Value) (d : TypeDesc) : Prop where
  und : ∀ w, (underlying K).run P w = .ok d w
  now : (∀ a b, Instr.sameNow d (enc a) (enc b) = none) ∨ (∀ a b, Instr.sameNow d (enc a) (enc b) = some (decide (a = b)))
  eq : ∀ a b w, (Op.equal K (enc a) (enc b)).run P w = .ok (decide (a = b)) w
  chk : ∀ a w e, (Instr.checkKey e 10000 K (enc a)).run P w = .ok () w
  bits : ∀ a, Instr.sameBits 10000 (enc a) (enc a) = true

section
variable {P : Program} {K E T : TypeId} {κ β : Type} [DecidableEq κ] {enc : κ → Value} {d : TypeDesc} {ve : β → Value}

def ent (enc : κ → Value) (ve : β → Value) (e : κ × β × Nat) : MapEntry := { key := enc e.1, val := ve e.2.1, born := e.2.2 }

def findP (l : List (κ × β × Nat)) (k : κ) (i : Nat) : Option (Nat × β) :=
  match l with
  | [] => none
  | e :: r => if k = e.1 then some (i, e.2.1) else findP r k (i + 1)

def lookP (l : List (κ × β × Nat)) (k : κ) : Option β :=
  match l with
  | [] => none
  | e :: r => if k = e.1 then some e.2.1 else lookP r k

theorem findP_look : ∀ (l : List (κ × β × Nat)) (k : κ) (i : Nat), (findP l k i).map (·.2) = lookP l k
  | [], _, _ => rfl
  | e :: r, k, i => by
    unfold findP lookP
    split
    · rfl
    · exact findP_look r k (i + 1)

theorem run_findAsking (L : KeyT P K enc d) (w : World) (k : κ) : ∀ (l : List (κ × β × Nat)) (i : Nat), (Instr.findAsking K (enc k) (l.map (ent enc ve)) i).run P w = .ok ((findP l k i).map fun p => (p.1, ve p.2)) w
  | [], i => rfl
  | e :: r, i => by
    have h := L.eq k e.1 w
    simp only [List.map_cons, Instr.findAsking, ent, Sem.run_bind, h, Result.andThen_ok]
    unfold findP
    by_cases hk : k = e.1
    · simp [hk]
    · simpa [hk] using run_findAsking L w k r (i + 1)

theorem find_now (hd : ∀ a b, Instr.sameNow d (enc a) (enc b) = some (decide (a = b))) (k : κ) : ∀ (l : List (κ × β × Nat)) (i : Nat), Instr.findNow d (enc k) (l.map (ent enc ve)) i = some ((findP l k i).map fun p => (p.1, ve p.2))
  | [], i => rfl
  | e :: r, i => by
    have ih := find_now hd k r (i + 1)
    simp only [List.map_cons, Instr.findNow, ent, hd]
    unfold findP
    by_cases hk : k = e.1
    · simp [hk]
    · simpa [hk] using ih

theorem run_findKey (L : KeyT P K enc d) (w : World) (k : κ) (l : List (κ × β × Nat)) : (Instr.findKey K (enc k) (l.map (ent enc ve))).run P w = .ok ((findP l k 0).map fun p => (p.1, ve p.2)) w := by
  have h := run_findAsking (ve := ve) L w k l 0
  simp only [Instr.findKey, Sem.run_bind, L.und, Result.andThen_ok]
  rcases L.now with hn | hn
  · cases l with
    | nil => simp [Instr.findNow, findP]
    | cons e r =>
      have : Instr.findNow d (enc k) ((e :: r).map (ent enc ve)) 0 = none := by
        simp only [List.map_cons, Instr.findNow, ent, hn]
      rw [this]
      exact h
  · rw [find_now hn k l 0]
    rfl

/-- Block b is a map that holds just what f tells. -/
def MapAt (w : World) (b : Nat) (enc : κ → Value) (ve : β → Value) (f : κ → Option β) : Prop :=
  ∃ (l : List (κ × β × Nat)) (clock : Nat), w.heap[b]? = some (.map (l.map (ent enc ve)).toArray clock) ∧ ∀ k, f k = lookP l k

theorem MapAt.lt {w : World} {b : Nat} {f : κ → Option β} (h : MapAt w b enc ve f) : b < w.heap.size := by
  obtain ⟨l, c, h, _⟩ := h
  exact (Array.getElem?_eq_some_iff.1 h).1

theorem MapAt.mod {S : Nat → Prop} {w w' : World} {b : Nat} {f : κ → Option β} (h : MapAt w b enc ve f) (hm : Mod S w w') (hb : ¬ S b) : MapAt w' b enc ve f := by
  have hl := h.lt
  obtain ⟨l, c, h, h2⟩ := h
  exact ⟨l, c, (hm.blk b hl hb).trans h, h2⟩

theorem newM.mk {w : World} {k : Option Nat → World → Prop} (h : ∀ b w', w.heap.size ≤ b → b < w'.heap.size → (∀ (κ β : Type) [DecidableEq κ] (enc : κ → Value) (ve : β → Value), MapAt w' b enc ve (fun _ => none)) → Mod No w w' → k (some b) w') : newM w k :=
  ⟨_, _, rfl, rfl, h w.heap.size _ (Nat.le_refl _) (by simp) (fun κ β _ enc ve => ⟨[], 0, by show (w.heap.push _)[w.heap.size]? = _; simp, fun k => rfl⟩) (Mod.alloc ..)⟩

theorem run_lookup (L : KeyT P K enc d) {w : World} {b : Nat} {f : κ → Option β} {z : β} (hu : ∀ w, (underlying T).run P w = .ok (.map K E) w) (hz : ∀ w, (zeroValue E).run P w = .ok (ve z) w) (h : MapAt w b enc ve f) (k : κ) :
    (Instr.lookup T (.map (some b)) (enc k) true).run P w = .ok (.tuple #[ve ((f k).getD z), .bool (f k).isSome]) w := by
  obtain ⟨l, c, h, hf⟩ := h
  have hk := run_findKey (ve := ve) L w k l
  have hg : (getObj b).run P w = .ok (.map (l.map (ent enc ve)).toArray c) w := by simp [getObj, Sem.run, h]
  rw [hf k, ← findP_look l k 0]
  simp only [Instr.lookup, Sem.run_bind, hu, Result.andThen_ok, hg, Sem.run_pure, L.chk, hk]
  cases hp : findP l k 0 with
  | none => simp [hz]
  | some p => simp

theorem run_lookup1 (L : KeyT P K enc d) {w : World} {b : Nat} {f : κ → Option β} {z : β} (hu : ∀ w, (underlying T).run P w = .ok (.map K E) w) (hz : ∀ w, (zeroValue E).run P w = .ok (ve z) w) (h : MapAt w b enc ve f) (k : κ) :
    (Instr.lookup T (.map (some b)) (enc k) false).run P w = .ok (ve ((f k).getD z)) w := by
  obtain ⟨l, c, h, hf⟩ := h
  have hk := run_findKey (ve := ve) L w k l
  have hg : (getObj b).run P w = .ok (.map (l.map (ent enc ve)).toArray c) w := by simp [getObj, Sem.run, h]
  rw [hf k, ← findP_look l k 0]
  simp only [Instr.lookup, Sem.run_bind, hu, Result.andThen_ok, hg, Sem.run_pure, L.chk, hk]
  cases hp : findP l k 0 with
  | none => simp [hz]
  | some p => simp

theorem findP_some : ∀ (l : List (κ × β × Nat)) (k : κ) (i j : Nat) (v : β), findP l k i = some (j, v) → i ≤ j ∧ ∃ e, l[j - i]? = some e ∧ e.1 = k ∧ e.2.1 = v
  | [], _, _, _, _, h => by simp [findP] at h
  | e :: r, k, i, j, v, h => by
    unfold findP at h
    split at h
    · rename_i hk
      simp only [Option.some.injEq, Prod.mk.injEq] at h
      obtain ⟨rfl, rfl⟩ := h
      exact ⟨Nat.le_refl _, e, by simp, hk.symm, rfl⟩
    · obtain ⟨h1, e', h2, h3⟩ := findP_some r k (i + 1) j v h
      refine ⟨by omega, e', ?_, h3⟩
      rw [show j - i = j - (i + 1) + 1 by omega]
      simpa using h2

/-- the list behind a store at a key that is there -/
def setP (l : List (κ × β × Nat)) (k : κ) (v : β) : List (κ × β × Nat) :=
  match l with
  | [] => []
  | e :: r => if k = e.1 then (k, v, e.2.2) :: r else e :: setP r k v

theorem look_setP (k : κ) (v : β) : ∀ (l : List (κ × β × Nat)) (x : κ), (lookP l k).isSome → lookP (setP l k v) x = if x = k then some v else lookP l x
  | [], x, h => by simp [lookP] at h
  | e :: r, x, h => by
    unfold setP
    unfold lookP at h
    by_cases hk : k = e.1
    · rw [if_pos hk]
      by_cases hx : x = k
      · simp [lookP, hx]
      · have : ¬ x = e.1 := fun h => hx (h.trans hk.symm)
        simp [lookP, hx, this]
    · rw [if_neg hk]
      rw [if_neg hk] at h
      have ih := look_setP k v r x h
      by_cases hx : x = e.1
      · have : ¬ x = k := fun h => hk (h.symm.trans hx)
        simp only [lookP]
        rw [if_pos hx, if_neg this, if_pos hx]
      · simp only [lookP]
        rw [if_neg hx, if_neg hx, ih]

theorem modify_setP (k : κ) (v : β) : ∀ (l : List (κ × β × Nat)) (i j : Nat) (u : β), findP l k i = some (j, u) → (l.map (ent enc ve)).modify (j - i) (fun e => { e with key := enc k, val := ve v }) = (setP l k v).map (ent enc ve)
  | [], _, _, _, h => by simp [findP] at h
  | e :: r, i, j, u, h => by
    unfold findP at h
    unfold setP
    by_cases hk : k = e.1
    · rw [if_pos hk] at h ⊢
      simp only [Option.some.injEq, Prod.mk.injEq] at h
      obtain ⟨rfl, rfl⟩ := h
      simp [ent]
    · rw [if_neg hk] at h ⊢
      obtain ⟨h1, _⟩ := findP_some r k (i + 1) j u h
      have ih := modify_setP k v r (i + 1) j u h
      rw [show j - i = j - (i + 1) + 1 by omega]
      simpa using ih

theorem look_push (k : κ) (v : β) (n : Nat) : ∀ (l : List (κ × β × Nat)) (x : κ), lookP l k = none → lookP (l ++ [(k, v, n)]) x = if x = k then some v else lookP l x
  | [], x, _ => by simp [lookP]
  | e :: r, x, h => by
    simp only [lookP] at h
    split at h
    · cases h
    · rename_i hk
      have ih := look_push k v n r x h
      simp only [List.cons_append, lookP]
      by_cases hx : x = e.1
      · have : ¬ x = k := fun h => hk (h.symm.trans hx)
        rw [if_pos hx, if_neg this, if_pos hx]
      · rw [if_neg hx, if_neg hx, ih]

theorem run_mapUpdate (L : KeyT P K enc d) {w : World} {b : Nat} {f : κ → Option β} (hu : ∀ w, (underlying T).run P w = .ok (.map K E) w) (h : MapAt w b enc ve f) (k : κ) (v : β) :
    ∃ w', (Instr.mapUpdate T (.map (some b)) (enc k) (ve v)).run P w = .ok () w' ∧ MapAt w' b enc ve (fun x => if x = k then some v else f x) ∧ Mod (· = b) w w' := by
  have hlt := h.lt
  obtain ⟨l, c, h, hf⟩ := h
  have hk := run_findKey (ve := ve) L w k l
  have hg : (getObj b).run P w = .ok (.map (l.map (ent enc ve)).toArray c) w := by simp [getObj, Sem.run, h]
  have hset : ∀ o : Obj, (setObj b o).run P w = .ok () { w with heap := w.heap.setIfInBounds b o } := fun o => by simp [setObj, Sem.run, h]
  have hmod : ∀ o : Obj, Mod (· = b) w { w with heap := w.heap.setIfInBounds b o } := fun o => ⟨rfl, rfl, rfl, by simp, fun c hc hn => by
    show (w.heap.setIfInBounds b o)[c]? = _
    rw [Array.getElem?_setIfInBounds_ne (fun e => hn e.symm)]⟩
  have hget : ∀ o : Obj, (w.heap.setIfInBounds b o)[b]? = some o := fun o => by simp [hlt]
  cases hp : findP l k 0 with
  | none =>
    have hn : lookP l k = none := by rw [← findP_look l k 0, hp]; rfl
    refine ⟨_, ?_, ⟨l ++ [(k, v, c)], c + 1, hget _, fun x => by simp only [look_push k v c l x hn, hf x]⟩, hmod _⟩
    simp only [Instr.mapUpdate, Sem.run_bind, hu, Result.andThen_ok, hg, L.chk, hk, hp, Option.map_none, hset]
    simp [ent]
  | some p =>
    obtain ⟨j, u⟩ := p
    have hs : (lookP l k).isSome := by rw [← findP_look l k 0, hp]; rfl
    refine ⟨_, ?_, ⟨setP l k v, c, hget _, fun x => by simp only [look_setP k v l x hs, hf x]⟩, hmod _⟩
    obtain ⟨_, e, h2, h3, h4⟩ := findP_some l k 0 j u hp
    have h5 := modify_setP (enc := enc) (ve := ve) k v l 0 j u hp
    simp only [Nat.sub_zero] at h2 h5
    have h6 : (((l.map (ent enc ve)).toArray[j]?).map (·.key)).getD (enc k) = enc k := by simp [h2, ent, h3]
    simp only [Instr.mapUpdate, Sem.run_bind, hu, Result.andThen_ok, hg, L.chk, hk, hp, Option.map_some, h6, Instr.keyThatStays, L.bits, if_true, Sem.run_pure, hset]
    congr 3
    rw [← h5]
    simp
end
end Go.Sh
