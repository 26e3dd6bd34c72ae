/-
  Equality of structs and of arrays of bytes, and what a map's key of such a type needs.
-/
import Derived.Test.YtfgodebgjemljaaHs2
import Derived.Laws.StructEq
import Derived.ChangeKeysEq
namespace Go.Sh
set_option linter.unusedVariables false
set_option linter.unusedSimpArgs false

theorem bytes_beq (x y : ByteArray) : (x == y) = decide (x = y) := by
  rw [beq_toListBytes, ByteArray.toList_eq, ByteArray.toList_eq, Bool.eq_iff_iff]
  obtain ⟨⟨x⟩⟩ := x
  obtain ⟨⟨y⟩⟩ := y
  simp

section
variable {P : Program} {w : World} {d : Nat}

theorem eqIn_int {T : TypeId} {k k' : IntKind} (hu : ∀ w, (underlying T).run P w = .ok (.int k') w) (x y : Int) : (Op.equalIn (d + 1) T (.int k x) (.int k y)).run P w = .ok (decide (x = y)) w := by
  simp [Op.equalIn, hu]
  rw [Bool.eq_iff_iff]; simp
theorem eqIn_str {T : TypeId} (hu : ∀ w, (underlying T).run P w = .ok .string w) (x y : ByteArray) : (Op.equalIn (d + 1) T (.string x) (.string y)).run P w = .ok (decide (x = y)) w := by
  simp only [Op.equalIn, Sem.run_bind, hu, Result.andThen_ok, Sem.run_pure, bytes_beq]

theorem eqF {f : Field} {fs : List Field} {xs ys : Array Value} {v u : Value} {r : Bool} (hn : f.name ≠ "_") (h1 : (part f.type xs f.offset).run P w = .ok v w) (h2 : (part f.type ys f.offset).run P w = .ok u w)
    (h3 : (Op.equalIn d f.type v u).run P w = .ok r w) : (Op.eqFields d xs ys (f :: fs)).run P w = if r then (Op.eqFields d xs ys fs).run P w else .ok false w := by
  simp only [Op.eqFields, if_pos hn, Sem.run_bind, h1, h2, h3, Result.andThen_ok]
  cases r <;> simp

theorem if_dec {p q : Prop} [Decidable p] [Decidable q] : (if decide p = true then (Result.ok (decide q) w : Result Bool) else .ok false w) = .ok (decide (p ∧ q)) w := by
  by_cases h : p <;> simp [h]

theorem eqItems_u8 {e : TypeId} (hu : ∀ w, (underlying e).run P w = .ok (.int .u8) w) (ha : ∀ w, (isAgg e).run P w = .ok false w) (xs ys : List UInt8) (hl : xs.length = ys.length) : ∀ (m i : Nat), i + m = xs.length →
    (Op.eqItems (d + 1) e 1 (xs.map u8).toArray (ys.map u8).toArray (List.range' i m)).run P w = .ok (decide (xs.drop i = ys.drop i)) w
  | 0, i, h => by
    have h1 : xs.drop i = [] := List.drop_eq_nil_of_le (by omega)
    have h2 : ys.drop i = [] := List.drop_eq_nil_of_le (by omega)
    simp [Op.eqItems, h1, h2]
  | m + 1, i, h => by
    have hx : i < xs.length := by omega
    have hy : i < ys.length := by omega
    have p1 : (part e (xs.map u8).toArray (i * 1)).run P w = .ok (u8 xs[i]) w := part1 ha (by simp [hx])
    have p2 : (part e (ys.map u8).toArray (i * 1)).run P w = .ok (u8 ys[i]) w := part1 ha (by simp [hy])
    have p3 := eqIn_int (P := P) (w := w) (d := d) (k := .u8) hu (xs[i].toNat : Int) (ys[i].toNat : Int)
    have ih := eqItems_u8 hu ha xs ys hl m (i + 1) (by omega)
    rw [List.range'_succ]
    simp only [Op.eqItems, Sem.run_bind, p1, p2, u8, p3, Result.andThen_ok]
    have e1 : xs.drop i = xs[i] :: xs.drop (i + 1) := List.drop_eq_getElem_cons hx
    have e2 : ys.drop i = ys[i] :: ys.drop (i + 1) := List.drop_eq_getElem_cons hy
    rw [e1, e2]
    by_cases hxy : xs[i] = ys[i]
    · have : ((xs[i].toNat : Int) = (ys[i].toNat : Int)) := by rw [hxy]
      simp only [this, decide_true, Bool.not_true, Bool.false_eq_true, if_false]
      rw [ih]
      congr 1
      simp only [List.cons.injEq, hxy, true_and]
    · have : ¬ ((xs[i].toNat : Int) = (ys[i].toNat : Int)) := fun e => hxy (UInt8.toNat_inj.1 (by omega))
      simp only [this, decide_false, Bool.not_false, if_true, Sem.run_pure, List.cons.injEq, hxy, false_and]

theorem sameBits_agg {cs : List Value} {n : Nat} (h : ∀ v ∈ cs, Instr.sameBits n v v = true) : Instr.sameBits (n + 1) (.agg cs.toArray) (.agg cs.toArray) = true := by
  simp only [Instr.sameBits, beq_self_eq_true, Bool.true_and, List.all_eq_true]
  intro p hp
  have : ∀ (l : List Value), p ∈ l.zip l → p.1 = p.2 ∧ p.1 ∈ l := by
    intro l
    induction l with
    | nil => intro h; simp at h
    | cons x r ih =>
      intro h
      simp only [List.zip_cons_cons, List.mem_cons] at h
      rcases h with rfl | h
      · exact ⟨rfl, List.mem_cons_self ..⟩
      · exact ⟨(ih h).1, List.mem_cons_of_mem _ (ih h).2⟩
  obtain ⟨h1, h2⟩ := this cs hp
  obtain ⟨x, y⟩ := p
  simp only at h1 h2 ⊢
  subst h1
  exact h x h2
theorem sameBits_int {n : Nat} {k : IntKind} {x : Int} : Instr.sameBits n (.int k x) (.int k x) = true := by
  cases n <;> simp [Instr.sameBits]
theorem sameBits_str {n : Nat} {x : ByteArray} : Instr.sameBits n (.string x) (.string x) = true := by
  cases n <;> simp [Instr.sameBits, bytes_beq]

/-- handles: sixteen bytes -/
abbrev Hd := { l : List UInt8 // l.length = 16 }
def Hd.enc (h : Hd) : Value := .agg (h.1.map u8).toArray

theorem chk_int {e : TypeId} {k k' : IntKind} {n : Nat} {b : Bool} {x : Int} (hu : ∀ w, (underlying e).run P w = .ok (.int k') w) : (Instr.checkKey b (n + 1) e (.int k x)).run P w = .ok () w := by
  simp only [Instr.checkKey, Sem.run_bind, hu, Result.andThen_ok]
  rfl
theorem chk_str {e : TypeId} {n : Nat} {b : Bool} {x : ByteArray} (hu : ∀ w, (underlying e).run P w = .ok .string w) : (Instr.checkKey b (n + 1) e (.string x)).run P w = .ok () w := by
  simp only [Instr.checkKey, Sem.run_bind, hu, Result.andThen_ok]
  rfl

theorem chk_array {K e : TypeId} {len sz n : Nat} {b : Bool} {cs : Array Value} (hu : ∀ w, (underlying K).run P w = .ok (.array len e) w) (hz : ∀ w, (sizeOf e).run P w = .ok sz w)
    (h : ∀ i, i < len → ∃ v, (∀ w, (part e cs (i * sz)).run P w = .ok v w) ∧ ∀ w, (Instr.checkKey b n e v).run P w = .ok () w) : (Instr.checkKey b (n + 1) K (.agg cs)).run P w = .ok () w := by
  simp only [Instr.checkKey, Sem.run_bind, hu, Result.andThen_ok]
  simp only [Std.Legacy.Range.forIn_eq_forIn_range', Std.Legacy.Range.size, Nat.sub_zero, Nat.add_one_sub_one, Nat.div_one]
  have key : ∀ (l : List Nat), (∀ i ∈ l, i < len) → ∀ w : World, (forIn (m := Sem) l PUnit.unit fun i _ => do
      let __do_lift ← sizeOf e
      let __do_lift ← part e cs (i * __do_lift)
      Instr.checkKey b n e __do_lift
      pure (ForInStep.yield PUnit.unit)).run P w = .ok PUnit.unit w := by
    intro l
    induction l with
    | nil => intro _ w; simp
    | cons i r ih =>
      intro hl w
      obtain ⟨v, h1, h2⟩ := h i (hl i (by simp))
      simp only [List.forIn_cons, Sem.run_bind, hz, Result.andThen_ok, h1, h2, Sem.run_pure]
      exact ih (fun j hj => hl j (by simp [hj])) w
  have := key (List.range' 0 len) (fun i hi => by simp at hi; omega) w
  simp at this ⊢
  rw [this]
  rfl

theorem chk_struct {K : TypeId} {n : Nat} {b : Bool} {fs : List Field} {cs : Array Value} (hu : ∀ w, (underlying K).run P w = .ok (.struct fs.toArray) w)
    (h : ∀ f ∈ fs, ∃ v, (∀ w, (part f.type cs f.offset).run P w = .ok v w) ∧ ∀ w, (Instr.checkKey b n f.type v).run P w = .ok () w) : (Instr.checkKey b (n + 1) K (.agg cs)).run P w = .ok () w := by
  simp only [Instr.checkKey, Sem.run_bind, hu, Result.andThen_ok, List.forIn_toArray]
  have key : ∀ (l : List Field), (∀ f ∈ l, f ∈ fs) → ∀ w : World, (forIn (m := Sem) l PUnit.unit fun f _ =>
      if f.name ≠ "_" then do
        let __do_lift ← part f.type cs f.offset
        Instr.checkKey b n f.type __do_lift
        pure (ForInStep.yield PUnit.unit)
      else pure (ForInStep.yield PUnit.unit)).run P w = .ok PUnit.unit w := by
    intro l
    induction l with
    | nil => intro _ w; simp
    | cons f r ih =>
      intro hl w
      obtain ⟨v, h1, h2⟩ := h f (hl f (by simp))
      simp only [List.forIn_cons, Sem.run_bind, Sem.run_ite]
      split
      · simp only [Sem.run_bind, h1, h2, Result.andThen_ok, Sem.run_pure]
        exact ih (fun j hj => hl j (by simp [hj])) w
      · simp only [Result.andThen_ok, Sem.run_pure]
        exact ih (fun j hj => hl j (by simp [hj])) w
  have := key fs (fun _ h => h) w
  simp at this ⊢
  rw [this]
  rfl
end

theorem keyHd {P : Program} {K e : TypeId} {i : TypeInfo} (hu : P.underlying K = some (.array 16 e)) (hu' : ∀ w, (underlying K).run P w = .ok (.array 16 e) w) (hi : P.info? e = some i) (hz : ∀ w, (sizeOf e).run P w = .ok 1 w) (hc : P.cellsOf e = 1)
    (he : ∀ w, (underlying e).run P w = .ok (.int .u8) w) (ha : ∀ w, (isAgg e).run P w = .ok false w) : KeyT P K Hd.enc (.array 16 e) where
  und := hu'
  now := .inl fun a b => rfl
  eq a b w := by
    obtain ⟨xs, hx⟩ := a
    obtain ⟨ys, hy⟩ := b
    have key : ∀ d, (Op.equalIn (d + 2) K (Hd.enc ⟨xs, hx⟩) (Hd.enc ⟨ys, hy⟩)).run P w = .ok (decide (xs = ys)) w := fun d => by
      unfold Hd.enc
      rw [run_equalIn_array (P := P) (w := w) (d + 1) _ _ hu hi, hc, List.range_eq_range']
      have := eqItems_u8 (P := P) (w := w) (d := d) he ha xs ys (hx.trans hy.symm) 16 0 (by omega)
      simpa using this
    have := key 9998
    simpa [Op.equal, Op.maxDepth] using this
  chk a w b := by
    obtain ⟨xs, hx⟩ := a
    refine chk_array (n := 9999) hu' hz fun i hi => ?_
    have hi' : i < xs.length := by omega
    exact ⟨u8 xs[i], fun w => part1 ha (by simp [hi']), fun w => chk_int (n := 9998) he⟩
  bits a := sameBits_agg (n := 9999) fun v hv => by
    obtain ⟨x, _, rfl⟩ := List.mem_map.1 hv
    exact sameBits_int
end Go.Sh
namespace Go.Sh
theorem fold_set : ∀ (cs : List Value) (k : Nat) (A : Array Value), k + cs.length ≤ A.size →
    ((cs.zipIdx k).foldl (fun A (p : Value × Nat) => A.setIfInBounds (0 + p.2) p.1) A).toList = A.toList.take k ++ cs ++ A.toList.drop (k + cs.length)
  | [], k, A, h => by simp
  | c :: cs, k, A, h => by
    simp only [List.length_cons] at h
    have hk : k < A.size := by omega
    rw [List.zipIdx_cons, List.foldl_cons, fold_set cs (k + 1) _ (by simp; omega)]
    simp only [Nat.zero_add, Array.toList_setIfInBounds, List.length_cons]
    have h1 : List.take (k + 1) (A.toList.set k c) = List.take k A.toList ++ [c] := by
      rw [List.take_add_one, List.take_set_of_le (Nat.le_refl _)]
      simp [hk]
    have h2 : List.drop (k + 1 + cs.length) (A.toList.set k c) = List.drop (k + (cs.length + 1)) A.toList := by
      rw [List.drop_set_of_lt (by omega)]
      congr 1
      omega
    rw [h1, h2]
    simp


set_option linter.unusedVariables false in
theorem run_slice1 {P : Program} {t e : TypeId} {m : Nat} {z : Value} {w : World} {cs : List Value} (hu : ∀ w, (underlying t).run P w = .ok (.slice e) w) (hs : ∀ w, (sizeOf e).run P w = .ok m w) (hz : ∀ w, (zeroValue e).run P w = .ok z w) (hzs : z.cells.size = m) (hc : cs.length = m) (hm : 0 < m) (hm2 : m ≤ 16777216) :
    (Instr.buildSlice t 1 ([(0, .agg cs.toArray)] : List (Nat × Value)).toArray).run P w = .ok (Slc.mk (some ⟨w.heap.size, 0, none⟩) 1 1).v (w.alloc (.cells cs.toArray e)) := by
  have hf : ∀ A : Array Value, A.size = m → Instr.fill (fun i => some (i * m, m)) A [(0, .agg cs.toArray)] = some cs.toArray := fun A hA => by
    simp only [Instr.fill, Value.cells, List.size_toArray, hc, Nat.zero_mul, Nat.zero_add, hA]
    rw [if_neg (by simp)]
    congr 1
    apply Array.ext'
    have := fold_set cs 0 A (by omega)
    simp only [Nat.zero_add, List.take_zero, List.nil_append] at this
    have h2 : List.drop cs.length A.toList = [] := List.drop_eq_nil_of_le (by simp; omega)
    rw [h2, List.append_nil] at this
    have e : (List.toArray cs).zipIdx = (cs.zipIdx 0).toArray := by simp
    rw [e, List.foldl_toArray]
    exact this
  unfold Instr.buildSlice
  simp only [Sem.run_bind, hu, Result.andThen_ok, hs, Nat.one_mul]
  rw [if_neg (by omega), if_neg (by omega)]
  simp only [Sem.run_bind, hz, Sem.run_pure, Result.andThen_ok]
  rw [hf _ (by simp)]
  simp only [newRow, newObj, Sem.run_bind, Sem.run, Result.andThen_ok, Sem.run_pure]
  rfl
end Go.Sh
namespace Go.Sh
/-- keys that are numbers -/
theorem keyInt {P : Program} {K : TypeId} {k : IntKind} (hu : ∀ w, (underlying K).run P w = .ok (.int k) w) : KeyT P K (fun n : Int => Value.int k n) (.int k) where
  und := hu
  now := .inr fun a b => by
    simp only [Instr.sameNow, if_true]
    congr 1
  eq a b w := eqIn_int (P := P) (d := 9999) hu a b
  chk a w e := chk_int (n := 9999) hu
  bits a := sameBits_int
end Go.Sh
