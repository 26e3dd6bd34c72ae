/-
  Memory, for proofs over the plain texts: blocks of cells, slices, what a step leaves as it was.
-/
import Derived.Test.YtfgodebgjemljaaSh3
namespace Go.Sh
set_option linter.unusedVariables false
set_option linter.unusedSimpArgs false

/-! ### 1. What a step leaves as it was -/

/-- From w to w' no block but those of S is turned; there may be new ones. -/
structure Mod (S : Nat → Prop) (w w' : World) : Prop where
  os : w'.os = w.os
  tape : w'.tape = w.tape
  output : w'.output = w.output
  size : w.heap.size ≤ w'.heap.size
  blk : ∀ b, b < w.heap.size → ¬ S b → w'.heap[b]? = w.heap[b]?

def No : Nat → Prop := fun _ => False

theorem Mod.refl (S : Nat → Prop) (w : World) : Mod S w w := ⟨rfl, rfl, rfl, Nat.le_refl _, fun _ _ _ => rfl⟩

theorem Mod.trans {S S' S'' : Nat → Prop} {w w1 w2 : World} (h : Mod S w w1) (h' : Mod S' w1 w2) (hs : ∀ b, b < w.heap.size → S b → S'' b) (hs' : ∀ b, b < w.heap.size → S' b → S'' b) : Mod S'' w w2 :=
  ⟨h'.os.trans h.os, h'.tape.trans h.tape, h'.output.trans h.output, Nat.le_trans h.size h'.size, fun b hb hn =>
    (h'.blk b (Nat.lt_of_lt_of_le hb h.size) fun h => hn (hs' b hb h)).trans (h.blk b hb fun h => hn (hs b hb h))⟩

/-- on, with what is turned below the first world told -/
theorem Mod.on {S S' : Nat → Prop} {w w1 w2 : World} (h : Mod S w w1) (h' : Mod S' w1 w2) (hs' : ∀ b, b < w.heap.size → S' b → S b) : Mod S w w2 := h.trans h' (fun _ _ h => h) hs'
theorem Mod.on0 {S : Nat → Prop} {w w1 w2 : World} (h : Mod S w w1) (h' : Mod No w1 w2) : Mod S w w2 := h.on h' fun _ _ h => h.elim
/-- a block that is newer than the first world -/
theorem Mod.onNew {S : Nat → Prop} {w w1 w2 : World} {b : Nat} (h : Mod S w w1) (h' : Mod (· = b) w1 w2) (hb : w.heap.size ≤ b) : Mod S w w2 := h.on h' fun c hc e => by omega
theorem Mod.weaken {S S' : Nat → Prop} {w w' : World} (h : Mod S w w') (hs : ∀ b, b < w.heap.size → S b → S' b) : Mod S' w w' := ⟨h.os, h.tape, h.output, h.size, fun b hb hn => h.blk b hb fun h => hn (hs b hb h)⟩
theorem Mod.of0 {S : Nat → Prop} {w w' : World} (h : Mod No w w') : Mod S w w' := h.weaken fun _ _ h => h.elim

theorem Mod.alloc (w : World) (o : Obj) : Mod No w (w.alloc o) := ⟨rfl, rfl, rfl, by simp, fun b hb _ => by show (w.heap.push o)[b]? = _; rw [Array.getElem?_push, if_neg (Nat.ne_of_lt hb)]⟩
theorem Mod.drew (w : World) : Mod No w w.drew := ⟨rfl, rfl, rfl, Nat.le_refl _, fun _ _ _ => rfl⟩
theorem Mod.setCell (w : World) (a : Addr) (v : Value) : Mod (· = a.block) w (w.setCell a v) := ⟨rfl, rfl, rfl, by simp, fun b hb hn => by
  simp only [World.setCell, Array.getElem?_modify]
  rw [if_neg (fun e => hn e.symm)]⟩

/-! ### 2. Blocks of cells -/

def Blk (w : World) (b : Nat) (cs : List Value) (T : TypeId) : Prop := ∃ fz : Nat × Nat, w.heap[b]? = some (.cells cs.toArray T fz) ∧ ∀ i, i < cs.length → ¬ (fz.1 ≤ i ∧ i < fz.2)

theorem Blk.lt {w : World} {b : Nat} {cs : List Value} {T : TypeId} (h : Blk w b cs T) : b < w.heap.size := by
  obtain ⟨fz, h, _⟩ := h
  exact (Array.getElem?_eq_some_iff.1 h).1

theorem Blk.mod {S : Nat → Prop} {w w' : World} {b : Nat} {cs : List Value} {T : TypeId} (h : Blk w b cs T) (hm : Mod S w w') (hb : ¬ S b) : Blk w' b cs T := by
  have hl := h.lt
  obtain ⟨fz, h, h2⟩ := h
  exact ⟨fz, (hm.blk b hl hb).trans h, h2⟩
theorem Blk.mod0 {w w' : World} {b : Nat} {cs : List Value} {T : TypeId} (h : Blk w b cs T) (hm : Mod No w w') : Blk w' b cs T := h.mod hm fun h => h
theorem Blk.ne {w w' : World} {b c : Nat} {cs : List Value} {T : TypeId} (h : Blk w b cs T) (hm : Mod (· = c) w w') (hb : b ≠ c) : Blk w' b cs T := h.mod hm hb

theorem Blk.cell {w : World} {b : Nat} {cs : List Value} {T : TypeId} (h : Blk w b cs T) {i : Nat} {v : Value} (hi : cs[i]? = some v) : w.cell? ⟨b, i, none⟩ = some v := by
  obtain ⟨fz, h, _⟩ := h
  simp [World.cell?, h, hi]

theorem Blk.cell' {w : World} {b : Nat} {cs : List Value} {T : TypeId} (h : Blk w b cs T) (i : Nat) : w.cell? ⟨b, i, none⟩ = cs[i]? := by
  obtain ⟨fz, h, _⟩ := h
  simp [World.cell?, h]

theorem Blk.thaw {w : World} {b : Nat} {cs : List Value} {T : TypeId} (h : Blk w b cs T) {i : Nat} (hi : i < cs.length) : w.frozen? ⟨b, i, none⟩ = false := by
  obtain ⟨⟨lo, hi'⟩, h, h2⟩ := h
  have := h2 i hi
  simp only [World.frozen?, h]
  simp only at this
  rw [Bool.and_eq_false_iff]
  simp only [decide_eq_false_iff_not]
  omega

theorem Blk.new (w : World) (cs : Array Value) (T : TypeId) : Blk (w.alloc (.cells cs T)) w.heap.size cs.toList T := ⟨(0, 0), by show (w.heap.push _)[w.heap.size]? = _; simp, fun i _ h => by simp at h⟩

theorem add_at (b i j : Nat) : (⟨b, i, none⟩ : Addr).add j = ⟨b, i + j, none⟩ := by unfold Addr.add; split <;> simp_all

theorem Blk.set {w : World} {b : Nat} {cs : List Value} {T : TypeId} (h : Blk w b cs T) {i : Nat} (v : Value) : Blk (w.setCell ⟨b, i, none⟩ v) b (cs.set i v) T := by
  obtain ⟨fz, h, h2⟩ := h
  refine ⟨fz, ?_, fun j hj => h2 j (by simpa using hj)⟩
  simp [World.setCell, Array.getElem?_modify, h]

theorem cells_at {w : World} {b : Nat} {cs : List Value} {T : TypeId} (h : Blk w b cs T) (i m : Nat) (hi : i + m ≤ cs.length) : CellsAt w ⟨b, i, none⟩ m ((cs.drop i).take m).toArray := by
  refine ⟨by simp; omega, fun j hj => ?_⟩
  rw [add_at, h.cell' (i + j)]
  simp [List.getElem?_take, hj]

/-- several cells of one block -/
theorem puts_blk {b : Nat} {T : TypeId} {i0 : Nat} : ∀ (vs : List Value) (j : Nat) (w : World) (cs : List Value), Blk w b cs T → i0 + j + vs.length ≤ cs.length →
    Blk (World.puts w ⟨b, i0, none⟩ vs j) b (cs.take (i0 + j) ++ vs ++ cs.drop (i0 + j + vs.length)) T ∧ Mod (· = b) w (World.puts w ⟨b, i0, none⟩ vs j)
  | [], j, w, cs, h, hl => by simpa [World.puts] using ⟨h, Mod.refl _ _⟩
  | v :: r, j, w, cs, h, hl => by
    simp only [List.length_cons] at hl
    have h1 := h.set (i := i0 + j) v
    have hm : Mod (· = b) w (w.setCell ⟨b, i0 + j, none⟩ v) := Mod.setCell w ⟨b, i0 + j, none⟩ v
    obtain ⟨h2, h3⟩ := puts_blk (b := b) (T := T) (i0 := i0) r (j + 1) _ _ h1 (by simp; omega)
    simp only [World.puts, add_at]
    refine ⟨?_, hm.on h3 fun _ _ h => h⟩
    have e : (cs.set (i0 + j) v).take (i0 + (j + 1)) ++ r ++ (cs.set (i0 + j) v).drop (i0 + (j + 1) + r.length) = cs.take (i0 + j) ++ v :: r ++ cs.drop (i0 + j + (v :: r).length) := by
      rw [show i0 + (j + 1) = i0 + j + 1 by omega, List.drop_set_of_lt (by omega), List.take_add_one, List.take_set_of_le (Nat.le_refl _)]
      simp only [List.length_cons]
      rw [show i0 + j + 1 + r.length = i0 + j + (r.length + 1) by omega]
      have : (cs.set (i0 + j) v)[i0 + j]? = some v := by simp [show i0 + j < cs.length by omega]
      rw [this]
      simp
    rw [e] at h2
    exact h2

/-! ### 3. The words of the plain texts, over blocks -/

theorem newV.mk {T : TypeId} {cs : Array Value} {w : World} {k : Addr → World → Prop} (h : ∀ b w', w.heap.size ≤ b → Blk w' b cs.toList T → Mod No w w' → k ⟨b, 0, none⟩ w') : newV T cs w k :=
  ⟨_, _, rfl, rfl, h _ _ (Nat.le_refl _) (Blk.new ..) (Mod.alloc ..)⟩

theorem drw.mk {w : World} {k : World → Prop} (h : ∀ w', Mod No w w' → k w') : drw w k := ⟨_, rfl, h _ (Mod.drew w)⟩

theorem stV.mk {w : World} {b i : Nat} {cs : List Value} {T : TypeId} {v : Value} {k : World → Prop} (hb : Blk w b cs T) (hi : i < cs.length) (h : ∀ w', Blk w' b (cs.set i v) T → Mod (· = b) w w' → k w') : stV ⟨b, i, none⟩ v w k :=
  ⟨cs[i], _, hb.cell (by simp [hi]), hb.thaw hi, rfl, h _ (hb.set v) (Mod.setCell w ⟨b, i, none⟩ v)⟩

theorem stA.mk {w : World} {b i m : Nat} {cs : List Value} {T : TypeId} {vs : Array Value} {k : World → Prop} (hb : Blk w b cs T) (hs : vs.size = m) (h1 : ∀ v ∈ vs.toList, one v = true) (hi : i + m ≤ cs.length)
    (h : ∀ w', Blk w' b (cs.take i ++ vs.toList ++ cs.drop (i + m)) T → Mod (· = b) w w' → k w') : stA m ⟨b, i, none⟩ vs w k := by
  obtain ⟨h2, h3⟩ := puts_blk (b := b) (T := T) (i0 := i) vs.toList 0 w cs hb (by simpa [hs] using hi)
  refine ⟨_, hs, h1, fun j hj => ?_, rfl, h _ ?_ h3⟩
  · rw [add_at]
    exact ⟨⟨cs[i + j]'(by omega), hb.cell (by simp [show i + j < cs.length by omega])⟩, hb.thaw (by omega)⟩
  · simpa [hs] using h2

/-- the whole of a block -/
theorem stA.all {w : World} {b m : Nat} {cs : List Value} {T : TypeId} {vs : Array Value} {k : World → Prop} (hb : Blk w b cs T) (hc : cs.length = m) (hs : vs.size = m) (h1 : ∀ v ∈ vs.toList, one v = true)
    (h : ∀ w', Blk w' b vs.toList T → Mod (· = b) w w' → k w') : stA m ⟨b, 0, none⟩ vs w k :=
  stA.mk hb hs h1 (by omega) fun w' h2 h3 => h w' (by have e : List.drop m cs = [] := List.drop_eq_nil_of_le (by omega); simpa [e] using h2) h3

theorem ldA.all {w : World} {b m : Nat} {cs : List Value} {T : TypeId} {k : Array Value → Prop} (hb : Blk w b cs T) (hc : cs.length = m) (h : k cs.toArray) : ldA m ⟨b, 0, none⟩ w k :=
  ⟨_, by have := cells_at hb 0 m (by omega); simpa [← hc] using this, h⟩
theorem ldA.part {w : World} {b i m : Nat} {cs : List Value} {T : TypeId} {k : Array Value → Prop} (hb : Blk w b cs T) (hi : i + m ≤ cs.length) (h : k ((cs.drop i).take m).toArray) : ldA m ⟨b, i, none⟩ w k :=
  ⟨_, cells_at hb i m hi, h⟩

theorem ldI.mk {w : World} {b i : Nat} {cs : List Value} {T : TypeId} {q : IntKind} {x : Int} {k : Int → Prop} (hb : Blk w b cs T) (hi : cs[i]? = some (.int q x)) (h : k x) : ldI q ⟨b, i, none⟩ w k := ⟨x, hb.cell hi, h⟩
theorem ldB.mk {w : World} {b i : Nat} {cs : List Value} {T : TypeId} {x : Bool} {k : Bool → Prop} (hb : Blk w b cs T) (hi : cs[i]? = some (.bool x)) (h : k x) : ldB ⟨b, i, none⟩ w k := ⟨x, hb.cell hi, h⟩
theorem ldS.mk {w : World} {b i : Nat} {cs : List Value} {T : TypeId} {x : ByteArray} {k : ByteArray → Prop} (hb : Blk w b cs T) (hi : cs[i]? = some (.string x)) (h : k x) : ldS ⟨b, i, none⟩ w k := ⟨x, hb.cell hi, h⟩
theorem ldP.mk {w : World} {b i : Nat} {cs : List Value} {T : TypeId} {x : Option Addr} {k : Option Addr → Prop} (hb : Blk w b cs T) (hi : cs[i]? = some (.pointer x)) (h : k x) : ldP ⟨b, i, none⟩ w k := ⟨x, hb.cell hi, h⟩
theorem ldL.mk {w : World} {b i : Nat} {cs : List Value} {T : TypeId} {x : Slc} {k : Slc → Prop} (hb : Blk w b cs T) (hi : cs[i]? = some x.v) (h : k x) : ldL ⟨b, i, none⟩ w k := ⟨x, hb.cell hi, h⟩
theorem ldM.mk {w : World} {b i : Nat} {cs : List Value} {T : TypeId} {x : Option Nat} {k : Option Nat → Prop} (hb : Blk w b cs T) (hi : cs[i]? = some (.map x)) (h : k x) : ldM ⟨b, i, none⟩ w k := ⟨x, hb.cell hi, h⟩

theorem nn.mk {a : Addr} {k : Addr → Prop} (h : k a) : nn (some a) k := ⟨a, rfl, h⟩

theorem idx.mk {sz b o len cap : Nat} {i : Int} {k : Addr → Prop} (h0 : 0 ≤ i) (h1 : i < len) (h : k ⟨b, o + i.toNat * sz, none⟩) : idx sz ⟨some ⟨b, o, none⟩, len, cap⟩ i k :=
  ⟨_, _, rfl, h0, h1, rfl, by rw [add_at]; exact h⟩
theorem idxA.mk {sz len b o : Nat} {i : Int} {k : Addr → Prop} (h0 : 0 ≤ i) (h1 : i < len) (h : k ⟨b, o + i.toNat * sz, none⟩) : idxA sz len ⟨b, o, none⟩ i k :=
  ⟨_, h0, h1, rfl, by rw [add_at]; exact h⟩

theorem ifM.t {c : Bool} {A B : Prop} (hc : c = true) (h : A) : ifM c A B := ⟨fun _ => h, fun e => absurd (hc.symm.trans e) (by decide)⟩
theorem ifM.f {c : Bool} {A B : Prop} (hc : c = false) (h : B) : ifM c A B := ⟨fun e => absurd (hc.symm.trans e) (by decide), fun _ => h⟩

/-! ### 4. Sizes of integers -/
theorem wrap_i64 {x : Int} (h0 : -9223372036854775808 ≤ x) (h1 : x ≤ 9223372036854775807) : IntKind.i64.wrap x = x := by
  simp only [IntKind.wrap, IntKind.signed, IntKind.bits, Bool.true_and, decide_eq_true_eq, Nat.reduceSub, Int.reducePow, ge_iff_le]
  split <;> omega
theorem wrap_u8 {x : Int} (h0 : 0 ≤ x) (h1 : x ≤ 255) : IntKind.u8.wrap x = x := by
  simp only [IntKind.wrap, IntKind.signed, IntKind.bits, Bool.false_and, Bool.false_eq_true, if_false]
  omega
theorem wrap_u64 {x : Int} (h0 : 0 ≤ x) (h1 : x ≤ 18446744073709551615) : IntKind.u64.wrap x = x := by
  simp only [IntKind.wrap, IntKind.signed, IntKind.bits, Bool.false_and, Bool.false_eq_true, if_false]
  omega
end Go.Sh
namespace Go.Sh
theorem jn_in {V : Type} {J : V → World → Prop} {body : (V → World → Prop) → Prop} (h : body J) : jn J body := h
end Go.Sh
