/-
  The vault: one round of what somebody comes to know.
-/
import Derived.Test.YtkehoneadedmhaaDoorVD
namespace Go.Proofs.YtkehoneadedmhaaDoor
open Go Go.Sh
set_option linter.unusedVariables false
set_option linter.unusedSimpArgs false

/-! ### 1. Elements of slices -/

theorem flat_at {α β : Type} {f : α → List β} {m : Nat} (hf : ∀ a, (f a).length = m) : ∀ (V : List α) (i : Nat) (t : α) (rest : List β), V[i]? = some t → ((V.flatMap f ++ rest).drop (i * m)).take m = f t
  | [], i, t, rest, h => by simp at h
  | a :: V, 0, t, rest, h => by
    have e : a = t := by simpa using h
    subst e
    rw [List.flatMap_cons, Nat.zero_mul, List.drop_zero, List.append_assoc, ← hf a, List.take_left]
  | a :: V, i + 1, t, rest, h => by
    have e : V[i]? = some t := by simpa using h
    have := flat_at hf V i t rest e
    rw [List.flatMap_cons, List.append_assoc, Nat.add_mul, Nat.one_mul, Nat.add_comm, ← List.drop_drop, show List.drop m (f a ++ (V.flatMap f ++ rest)) = V.flatMap f ++ rest from by rw [← hf a, List.drop_left]]
    exact this

theorem flat_len {α β : Type} {f : α → List β} {m : Nat} (hf : ∀ a, (f a).length = m) : ∀ (V : List α), (V.flatMap f).length = V.length * m
  | [] => by simp
  | a :: V => by rw [List.flatMap_cons, List.length_append, hf, flat_len hf V, List.length_cons]; rw [Nat.add_mul]; omega

theorem rd_at {α : Type} {f : α → List Value} {m : Nat} {w : World} {s : Slc} {V : List α} {i : Nat} {t : α} {k : Addr → Array Value → Prop} (h : RdS w m s (V.flatMap f)) (hf : ∀ a, (f a).length = m) (hm : 0 < m) (hi : V[i]? = some t)
    (hk : ∀ p, s.a.map (fun a => a.add (i * m)) = some p → CellsAt w p m (f t).toArray → k p (f t).toArray) : idx m s (i : Int) fun p => ldA m p w (k p) := by
  obtain ⟨h1, h2⟩ := h
  obtain ⟨a, n, c⟩ := s
  simp only at h1 h2 hk
  rw [flat_len hf] at h1
  have hn : V.length = n := Nat.eq_of_mul_eq_mul_right hm h1
  have hin : i < V.length := (List.getElem?_eq_some_iff.1 hi).1
  rcases h2 with ⟨_, h2⟩ | ⟨b, o, rfl, _, hc⟩
  · omega
  refine idx.mk (by omega) (by omega) ?_
  simp only [Int.toNat_natCast]
  have hfa := flat_at hf V i t [] hi
  rw [List.append_nil] at hfa
  have hca : CellsAt w ⟨b, o + i * m, none⟩ m (f t).toArray := by
    refine ⟨by simp [hf], fun j hj => ?_⟩
    have hlen := flat_len hf V
    have : i * m + m ≤ V.length * m := by rw [← Nat.succ_mul]; exact Nat.mul_le_mul_right _ hin
    rw [add_at, Nat.add_assoc, hc _ (by omega), ← hfa]
    simp [List.getElem?_take, hj]
  exact ⟨_, hca, hk _ (by simp [add_at]) hca⟩

theorem rd1 {w : World} {s : Slc} {cs : List Value} {i : Nat} {x : Slc} {k : Slc → Prop} (h : RdS w 1 s cs) (hi : cs[i]? = some x.v) (hk : k x) : idx 1 s (i : Int) fun p => ldL p w k := by
  obtain ⟨h1, h2⟩ := h
  obtain ⟨a, n, c⟩ := s
  simp only at h1 h2
  have hin : i < cs.length := (List.getElem?_eq_some_iff.1 hi).1
  rcases h2 with ⟨_, h2⟩ | ⟨b, o, rfl, _, hc⟩
  · omega
  refine idx.mk (by omega) (by omega) ⟨x, ?_, hk⟩
  simp only [Int.toNat_natCast, Nat.mul_one]
  rw [hc i hin, hi]

theorem elBytes : ElemT Tryd.prog 22 1 24 Slc.nil.v where
  size := Tryd.sizeOf22
  info w := ⟨_, Tryd.typeInfo22 w, by kernel_rfl⟩
  zero := Tryd.zeroValue22
  zsize := rfl

/-! ### 2. How many are not known -/

def nf (k : List Bool) : Nat := k.count false
theorem nf_mono : ∀ (k k' : List Bool), k.length = k'.length → (∀ n, kn k n → kn k' n) → nf k' ≤ nf k
  | [], [], _, _ => Nat.le_refl _
  | [], _ :: _, h, _ => by simp at h
  | _ :: _, [], h, _ => by simp at h
  | a :: r, a' :: r', hl, h => by
    have ih := nf_mono r r' (by simpa using hl) fun n hn => by simpa [kn] using h (n + 1) (by simpa [kn] using hn)
    have h0 : a = true → a' = true := fun e => by simpa [kn] using h 0 (by simp [kn, e])
    unfold nf at *
    rw [List.count_cons, List.count_cons]
    cases a <;> cases a' <;> simp at * <;> omega
theorem nf_lt : ∀ (k k' : List Bool), k.length = k'.length → (∀ n, kn k n → kn k' n) → ∀ n, n < k.length → ¬ kn k n → kn k' n → nf k' < nf k
  | [], _, _, _, n, hn, _, _ => by simp at hn
  | _ :: _, [], h, _, _, _, _, _ => by simp at h
  | a :: r, a' :: r', hl, h, n, hn, h1, h2 => by
    have hm : ∀ n, kn r n → kn r' n := fun n hn => by simpa [kn] using h (n + 1) (by simpa [kn] using hn)
    have ih0 := nf_mono r r' (by simpa using hl) hm
    have h0 : a = true → a' = true := fun e => by simpa [kn] using h 0 (by simp [kn, e])
    cases n with
    | zero =>
      have e1 : a = false := by cases a <;> simp_all [kn]
      have e2 : a' = true := by simpa [kn] using h2
      subst e1 e2
      unfold nf at *
      rw [List.count_cons, List.count_cons]
      simp
      omega
    | succ n =>
      have ih := nf_lt r r' (by simpa using hl) hm n (by simpa using hn) (by simpa [kn] using h1) (by simpa [kn] using h2)
      unfold nf at *
      rw [List.count_cons, List.count_cons]
      cases a <;> cases a' <;> simp at * <;> omega
theorem nf_set {k : List Bool} {i : Nat} (hi : i < k.length) (h : ¬ kn k i) : nf (k.set i true) < nf k :=
  nf_lt k _ (by simp) (fun n hn => (kn_set hi).2 (.inr hn)) i hi h ((kn_set hi).2 (.inl rfl))

/-! ### 3. What holds between rounds -/

structure WfV (V : List Term) : Prop where
  pos : 0 < V.length
  a : ∀ t ∈ V, 0 ≤ t.a ∧ t.a < V.length
  b : ∀ t ∈ V, 0 ≤ t.b ∧ t.b < V.length
  bytes : ∀ t ∈ V, t.bytes.data.toList.length < 4611686018427387904

structure Inv (V : List Term) (seen : List (List UInt8)) (k o : List Bool) (T : List (List UInt8)) : Prop where
  kl : k.length = V.length
  ol : o.length = V.length
  k0 : kn k 0
  snd : ∀ n, kn k n → Kn V seen n
  tsnd : ∀ bs ∈ T, bs ∈ seen ∨ ∃ s t, V[s]? = some t ∧ t.kind = 6 ∧ Kn V seen s ∧ Kn V seen t.a.toNat ∧ bs = t.bytes.data.toList
  sC : ∀ bs ∈ seen, bs ∈ T ∨ Reads V.length bs k
  oC : ∀ s t, V[s]? = some t → kn o s → t.bytes.data.toList ∈ T ∨ Reads V.length t.bytes.data.toList k

theorem Reads.mono {n : Nat} {bs : List UInt8} {k k' : List Bool} (h : Reads n bs k) (hk : ∀ n, kn k n → kn k' n) : Reads n bs k' := fun h' i hw hl => hk _ (h h' i hw hl)

theorem Inv.more {V : List Term} {seen : List (List UInt8)} {k k' o : List Bool} {T : List (List UInt8)} (h : Inv V seen k o T) (hl : k'.length = V.length) (hk : ∀ n, kn k n → kn k' n) (hs : ∀ n, kn k' n → Kn V seen n) : Inv V seen k' o T where
  kl := hl
  ol := h.ol
  k0 := hk _ h.k0
  snd := hs
  tsnd := h.tsnd
  sC := fun bs hb => (h.sC bs hb).imp id fun h => h.mono hk
  oC := fun s t h1 h2 => (h.oC s t h1 h2).imp id fun h => h.mono hk

def Closed (V : List Term) (k o : List Bool) (n : Nat) : Prop := ∀ t, V[n]? = some t → (reachB k t = true → kn k n) ∧ (t.kind = 6 → kn k n → kn k t.a.toNat → kn o n)

theorem getD_kn {k : List Bool} {n : Nat} : k[n]?.getD false = true ↔ kn k n := by
  unfold kn
  cases k[n]? <;> simp

theorem reach_kn {V : List Term} {seen : List (List UInt8)} {k : List Bool} {n : Nat} {t : Term} (hs : ∀ n, kn k n → Kn V seen n) (ht : V[n]? = some t) (h : reachB k t = true) : Kn V seen n := by
  unfold reachB at h
  split at h
  · rename_i hk
    exact Kn.made ht (by omega) (hs _ (getD_kn.1 h))
  · split at h
    · rename_i hk
      rw [Bool.or_eq_true] at h
      rcases h with h | h
      · exact Kn.made ht (by omega) (hs _ (getD_kn.1 h))
      · exact Kn.madeB ht hk (hs _ (getD_kn.1 h))
    · cases h

/-- at the end -/
theorem Inv.done {V : List Term} {seen : List (List UInt8)} {k o : List Bool} (h : Inv V seen k o []) (hc : ∀ n, n < V.length → Closed V k o n) (n : Nat) : kn k n ↔ Kn V seen n := by
  have inl : ∀ {n t}, V[n]? = some t → n < V.length := fun h => (List.getElem?_eq_some_iff.1 h).1
  refine ⟨h.snd n, fun hk => ?_⟩
  induction hk with
  | root => exact h.k0
  | seen hb hw hl =>
    rcases h.sC _ hb with h' | h'
    · cases h'
    · exact h' _ _ hw hl
  | made ht hk ha ih =>
    refine ((hc _ (inl ht)) _ ht).1 ?_
    have := getD_kn.2 ih
    unfold reachB
    split
    · exact this
    · rw [if_pos (by omega), this, Bool.true_or]
  | madeB ht hk hb ih =>
    refine ((hc _ (inl ht)) _ ht).1 ?_
    have := getD_kn.2 ih
    unfold reachB
    rw [if_neg (by omega), if_pos hk, this, Bool.or_true]
  | opened ht hk hs ha hw hl ih1 ih2 =>
    have ho := ((hc _ (inl ht)) _ ht).2 hk ih1 ih2
    rcases h.oC _ _ ht ho with h' | h'
    · cases h'
    · exact h' _ _ hw hl

/-! ### 4. The list of what is still to be read -/

def TD (w0 w : World) (y : Spy) (tds : Slc) (xs : List (Slc × List UInt8)) : Prop :=
  OwnS w 22 1 tds (xs.map (·.1.v)) ∧ (∀ b, tds.a = some ⟨b, 0, none⟩ → w0.heap.size ≤ b ∧ ¬ y.fp b) ∧
  ∀ x ∈ xs, Txt w0 x.1 x.2 ∨ (∃ b, x.1.a = some ⟨b, 0, none⟩ ∧ w0.heap.size ≤ b ∧ b < w.heap.size ∧ ¬ y.fp b ∧ tds.a ≠ some ⟨b, 0, none⟩ ∧ Txt w x.1 x.2)

theorem Txt.mod {w w' : World} {S : Nat → Prop} {x : Slc} {bs : List UInt8} (h : Txt w x bs) (hm : Mod S w w') (hs : ∀ b o, x.a = some ⟨b, o, none⟩ → ¬ S b) : Txt w' x bs := ⟨h.1.mod hm hs, h.2⟩

theorem TD.mod {w0 w w' : World} {S : Nat → Prop} {y : Spy} {tds : Slc} {xs : List (Slc × List UInt8)} (h : TD w0 w y tds xs) (hm : Mod S w w') (hs : ∀ b, S b → y.fp b) : TD w0 w' y tds xs := by
  obtain ⟨h1, h2, h3⟩ := h
  refine ⟨h1.mod hm fun b hb h => (h2 b hb).2 (hs b h), h2, fun x hx => (h3 x hx).imp id fun ⟨b, e, g1, g2, g3, g4, g5⟩ => ⟨b, e, g1, Nat.lt_of_lt_of_le g2 hm.size, g3, g4, g5.mod hm fun c o e' h => ?_⟩⟩
  rw [e] at e'
  have : b = c := by simp at e'; exact e'.1
  exact g3 (this ▸ hs c h)
theorem TD.mod0 {w0 w w' : World} {y : Spy} {tds : Slc} {xs : List (Slc × List UInt8)} (h : TD w0 w y tds xs) (hm : Mod No w w') : TD w0 w' y tds xs := h.mod hm fun _ h => h.elim
theorem TD.nil (w0 w : World) (y : Spy) : TD w0 w y Slc.nil [] := ⟨OwnS.nil .., fun b h => (by cases h), fun x hx => (by cases hx)⟩

structure OpAt (w : World) (y : Spy) (o : List Bool) : Prop where
  cell : Blk w y.oc [(own y.ob o.length).v] 60
  opened : Blk w y.ob (o.map .bool) 4
theorem OpAt.mod {w w' : World} {S : Nat → Prop} {y : Spy} {o : List Bool} (h : OpAt w y o) (hm : Mod S w w') (h1 : ¬ S y.oc) (h2 : ¬ S y.ob) : OpAt w' y o := ⟨h.cell.mod hm h1, h.opened.mod hm h2⟩
theorem OpAt.mod0 {w w' : World} {y : Spy} {o : List Bool} (h : OpAt w y o) (hm : Mod No w w') : OpAt w' y o := h.mod hm (fun h => h) fun h => h

theorem OpAt.set {w : World} {y : Spy} {o : List Bool} {i : Nat} {K : World → Prop} (h : OpAt w y o) (hne : y.oc ≠ y.ob) (hi : i < o.length) (hk : ∀ w', OpAt w' y (o.set i true) → Mod (· = y.ob) w w' → K w') : stV ⟨y.ob, 0 + i * 1, none⟩ (.bool true) w K := by
  rw [Nat.mul_one, Nat.zero_add]
  refine stV.mk h.opened (by simpa using hi) fun w' hB hm => hk w' ⟨?_, ?_⟩ hm
  · have := h.cell.ne hm hne
    simpa using this
  · have : (o.map Value.bool).set i (.bool true) = (o.set i true).map .bool := by rw [List.map_set]
    rw [← this]; exact hB

/-- all that is in memory between two acts -/
structure Mem (w0 w : World) (y : Spy) (v : VF) (k o : List Bool) (tds : Slc) (xs : List (Slc × List UInt8)) : Prop where
  spy : SpyAt w0 w y v k tds
  op : OpAt w y o
  td : TD w0 w y tds xs

theorem Mem.on0 {w0 w w' : World} {y : Spy} {v : VF} {k o : List Bool} {tds : Slc} {xs : List (Slc × List UInt8)} (h : Mem w0 w y v k o tds xs) (hm : Mod No w w') : Mem w0 w' y v k o tds xs := ⟨h.spy.on0 hm, h.op.mod0 hm, h.td.mod0 hm⟩
theorem Mem.onNew {w0 w w' : World} {y : Spy} {v : VF} {k o : List Bool} {tds : Slc} {xs : List (Slc × List UInt8)} {b : Nat} (h : Mem w0 w y v k o tds xs) (hm : Mod (· = b) w w') (h1 : w0.heap.size ≤ b) (h2 : ¬ y.fp b) (h3 : tds.a ≠ some ⟨b, 0, none⟩) (h4 : ∀ x ∈ xs, x.1.a ≠ some ⟨b, 0, none⟩) : Mem w0 w' y v k o tds xs := by
  refine ⟨h.spy.on hm (fun c hc e => h2 (e ▸ hc)) (fun c hc e => by omega), h.op.mod hm (fun e => h2 (e ▸ .inr (.inr (.inr (.inl rfl))))) (fun e => h2 (e ▸ .inr (.inr (.inr (.inr (.inr rfl)))))), ?_⟩
  obtain ⟨g1, g2, g3⟩ := h.td
  refine ⟨g1.mod hm fun c hc e => h3 (e ▸ hc), g2, fun x hx => (g3 x hx).imp id fun ⟨c, e, f1, f2, f3, f4, f5⟩ => ⟨c, e, f1, Nat.lt_of_lt_of_le f2 hm.size, f3, f4, f5.mod hm fun d o e' h => ?_⟩⟩
  subst h
  rw [e] at e'
  have : c = d := by simp at e'; exact e'.1
  exact h4 x hx (this ▸ e)
end Go.Proofs.YtkehoneadedmhaaDoor
