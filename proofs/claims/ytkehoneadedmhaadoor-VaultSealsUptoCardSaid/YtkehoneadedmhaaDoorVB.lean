/-
  The vault: its terms in memory; a term made or found.
-/
import Derived.Test.YtkehoneadedmhaaDoorVA
namespace Go.Proofs.YtkehoneadedmhaaDoor
open Go Go.Sh
set_option linter.unusedVariables false
set_option linter.unusedSimpArgs false

/-! ### 1. Terms -/

structure Term where
  kind : Int
  a : Int
  b : Int
  number : Int
  label : ByteArray
  also : ByteArray
  bytes : ByteArray
deriving DecidableEq

def Term.cells (t : Term) : List Value := [.int .i64 t.kind, .int .i64 t.a, .int .i64 t.b, .int .i64 t.number, .string t.label, .string t.also, .string t.bytes]
def Term.enc (t : Term) : Value := .agg t.cells.toArray
theorem Term.cells_one (t : Term) : ∀ v ∈ t.cells, one v = true := by
  intro v hv
  simp only [Term.cells, List.mem_cons, List.not_mem_nil, or_false] at hv
  rcases hv with rfl | rfl | rfl | rfl | rfl | rfl | rfl <;> rfl

theorem info_int (w : World) : (underlying 3).run Tryd.prog w = .ok (.int .i64) w := Tryd.runUnderlying3 w

set_option maxRecDepth 20000 in
theorem keyTerm : ∃ d, KeyT Tryd.prog 55 Term.enc d := by
  refine ⟨_, Tryd.runUnderlying55, fun a b => rfl, fun s t w => ?_, fun t w b => ?_, fun t => sameBits_agg (n := 9999) fun v hv => ?_⟩
  · have key : ∀ d, (Op.equalIn (d + 2) 55 s.enc t.enc).run Tryd.prog w = .ok (decide (s = t)) w := by
      intro d
      obtain ⟨k, a, b, n, l, o, y⟩ := s
      obtain ⟨k', a', b', n', l', o', y'⟩ := t
      unfold Term.enc Term.cells
      rw [run_equalIn_struct w (d + 1) 55 _ _ (by rw [Program.fieldsOf, Tryd.underlying55]) Tryd.stoodInHeld55]
      rw [Program.fieldsOf, Tryd.underlying55]
      rw [eqF (by decide) (part1 Tryd.isAgg3 rfl) (part1 Tryd.isAgg3 rfl) (eqIn_int Tryd.runUnderlying3 ..), eqF (by decide) (part1 Tryd.isAgg3 rfl) (part1 Tryd.isAgg3 rfl) (eqIn_int Tryd.runUnderlying3 ..),
        eqF (by decide) (part1 Tryd.isAgg3 rfl) (part1 Tryd.isAgg3 rfl) (eqIn_int Tryd.runUnderlying3 ..), eqF (by decide) (part1 Tryd.isAgg3 rfl) (part1 Tryd.isAgg3 rfl) (eqIn_int Tryd.runUnderlying3 ..),
        eqF (by decide) (part1 Tryd.isAgg9 rfl) (part1 Tryd.isAgg9 rfl) (eqIn_str Tryd.runUnderlying9 ..), eqF (by decide) (part1 Tryd.isAgg9 rfl) (part1 Tryd.isAgg9 rfl) (eqIn_str Tryd.runUnderlying9 ..),
        eqF (by decide) (part1 Tryd.isAgg9 rfl) (part1 Tryd.isAgg9 rfl) (eqIn_str Tryd.runUnderlying9 ..)]
      simp only [Op.eqFields, Sem.run_pure, Term.mk.injEq, decide_eq_true_eq]
      by_cases h1 : k = k' <;> simp only [h1, if_true, if_false, true_and, false_and, decide_false]
      by_cases h2 : a = a' <;> simp only [h2, if_true, if_false, true_and, false_and, decide_false]
      by_cases h3 : b = b' <;> simp only [h3, if_true, if_false, true_and, false_and, decide_false]
      by_cases h4 : n = n' <;> simp only [h4, if_true, if_false, true_and, false_and, decide_false]
      by_cases h5 : l = l' <;> simp only [h5, if_true, if_false, true_and, false_and, decide_false]
      by_cases h6 : o = o' <;> simp only [h6, if_true, if_false, true_and, false_and, decide_false]
      by_cases h7 : y = y' <;> simp only [h7, if_true, if_false, decide_true, decide_false]
    exact key 9998
  · refine chk_struct (n := 9999) Tryd.runUnderlying55 fun f hf => ?_
    simp only [List.mem_cons, List.not_mem_nil, or_false] at hf
    rcases hf with rfl | rfl | rfl | rfl | rfl | rfl | rfl
    · exact ⟨_, fun w => part1 Tryd.isAgg3 rfl, fun w => chk_int (n := 9998) Tryd.runUnderlying3⟩
    · exact ⟨_, fun w => part1 Tryd.isAgg3 rfl, fun w => chk_int (n := 9998) Tryd.runUnderlying3⟩
    · exact ⟨_, fun w => part1 Tryd.isAgg3 rfl, fun w => chk_int (n := 9998) Tryd.runUnderlying3⟩
    · exact ⟨_, fun w => part1 Tryd.isAgg3 rfl, fun w => chk_int (n := 9998) Tryd.runUnderlying3⟩
    · exact ⟨_, fun w => part1 Tryd.isAgg9 rfl, fun w => chk_str (n := 9998) Tryd.runUnderlying9⟩
    · exact ⟨_, fun w => part1 Tryd.isAgg9 rfl, fun w => chk_str (n := 9998) Tryd.runUnderlying9⟩
    · exact ⟨_, fun w => part1 Tryd.isAgg9 rfl, fun w => chk_str (n := 9998) Tryd.runUnderlying9⟩
  · simp only [Term.cells, List.mem_cons, List.not_mem_nil, or_false] at hv
    rcases hv with rfl | rfl | rfl | rfl | rfl | rfl | rfl <;> first | exact sameBits_int | exact sameBits_str

theorem keyHandle : KeyT Tryd.prog 26 Hd.enc (.array 16 5) :=
  keyHd Tryd.underlying26 Tryd.runUnderlying26 (i := Tryd.t5) (by kernel_rfl) Tryd.sizeOf5 (by kernel_rfl) Tryd.runUnderlying5 Tryd.isAgg5

def vi (n : Int) : Value := .int .i64 n

theorem elTerm : ElemT Tryd.prog 55 7 80 (.agg #[.int .i64 0, .int .i64 0, .int .i64 0, .int .i64 0, .string (⟨#[]⟩ : ByteArray), .string (⟨#[]⟩ : ByteArray), .string (⟨#[]⟩ : ByteArray)]) where
  size := Tryd.sizeOf55
  info w := ⟨_, Tryd.typeInfo55 w, by kernel_rfl⟩
  zero := Tryd.zeroValue55
  zsize := rfl

/-! ### 2. The vault in memory -/

structure VF where
  vb : Nat
  tb : Slc
  fb : Nat
  nb : Nat

/-- the last place of a term, of a name -/
def lastT (V : List Term) (t : Term) : Option Int := (V.zipIdx.reverse.find? fun p => decide (p.1 = t)).map fun p => (p.2 : Int)
def lastN (n : Nat) (h : Hd) : Option Int := Option.map (fun (i : Nat) => (i : Int)) (List.find? (fun (i : Nat) => decide (nameH (i : Int) = h)) (List.range n).reverse)

structure VaultAt (w : World) (v : VF) (V : List Term) : Prop where
  box : Blk w v.vb [v.tb.v, .map (some v.fb), .map (some v.nb)] 52
  terms : OwnS w 55 7 v.tb (V.flatMap Term.cells)
  len : v.tb.len = V.length
  found : MapAt w v.fb Term.enc vi (lastT V)
  names : MapAt w v.nb Hd.enc vi (lastN V.length)
  d1 : v.fb ≠ v.nb
  d2 : v.vb ≠ v.fb
  d3 : v.vb ≠ v.nb
  d4 : ∀ b, v.tb.a = some ⟨b, 0, none⟩ → b ≠ v.vb ∧ b ≠ v.fb ∧ b ≠ v.nb ∧ b < w.heap.size

/-- the blocks that the vault's calls may turn -/
def VF.fp (v : VF) : Nat → Prop := fun b => b = v.vb ∨ b = v.fb ∨ b = v.nb ∨ v.tb.a = some ⟨b, 0, none⟩

theorem VaultAt.mod {S : Nat → Prop} {w w' : World} {v : VF} {V : List Term} (h : VaultAt w v V) (hm : Mod S w w') (hs : ∀ b, v.fp b → ¬ S b) : VaultAt w' v V where
  box := h.box.mod hm (hs _ (.inl rfl))
  terms := h.terms.mod hm fun b hb => hs b (.inr (.inr (.inr hb)))
  len := h.len
  found := h.found.mod hm (hs _ (.inr (.inl rfl)))
  names := h.names.mod hm (hs _ (.inr (.inr (.inl rfl))))
  d1 := h.d1
  d2 := h.d2
  d3 := h.d3
  d4 := fun b hb => ⟨(h.d4 b hb).1, (h.d4 b hb).2.1, (h.d4 b hb).2.2.1, Nat.lt_of_lt_of_le (h.d4 b hb).2.2.2 hm.size⟩
theorem VaultAt.mod0 {w w' : World} {v : VF} {V : List Term} (h : VaultAt w v V) (hm : Mod No w w') : VaultAt w' v V := h.mod hm fun _ _ h => h
theorem VaultAt.lt {w : World} {v : VF} {V : List Term} (h : VaultAt w v V) : ∀ b, v.fp b → b < w.heap.size := by
  rintro b (rfl | rfl | rfl | hb)
  · exact h.box.lt
  · exact h.found.lt
  · exact h.names.lt
  · exact (h.d4 b hb).2.2.2
/-- what is newer than the vault is not its own -/
theorem VaultAt.new {w w' : World} {v : VF} {V : List Term} {b : Nat} (h : VaultAt w v V) (hm : Mod (· = b) w w') (hb : w.heap.size ≤ b) : VaultAt w' v V := h.mod hm fun c hc e => by
  have := h.lt c hc
  omega

/-- from v to v': the same vault; its terms may lie in a new block -/
structure VF.to (v v' : VF) (n : Nat) : Prop where
  vb : v'.vb = v.vb
  fb : v'.fb = v.fb
  nb : v'.nb = v.nb
  tb : v'.tb.a = v.tb.a ∨ ∃ b, v'.tb.a = some ⟨b, 0, none⟩ ∧ n ≤ b

theorem VF.to.refl (v : VF) (n : Nat) : v.to v n := ⟨rfl, rfl, rfl, .inl rfl⟩
theorem VF.to.fp {v v' : VF} {n : Nat} (h : v.to v' n) {b : Nat} (hb : v'.fp b) : v.fp b ∨ n ≤ b := by
  rcases hb with rfl | rfl | rfl | hb
  · exact .inl (.inl h.vb)
  · exact .inl (.inr (.inl h.fb))
  · exact .inl (.inr (.inr (.inl h.nb)))
  · rcases h.tb with e | ⟨c, e, hc⟩
    · exact .inl (.inr (.inr (.inr (e ▸ hb))))
    · rw [e] at hb
      have : c = b := by simpa using hb
      exact .inr (this ▸ hc)

/-! ### 3. Places of terms -/

theorem lastT_push (V : List Term) (t x : Term) : lastT (V ++ [t]) x = if x = t then some (V.length : Int) else lastT V x := by
  unfold lastT
  rw [List.zipIdx_append, List.reverse_append]
  simp only [List.zipIdx_cons, List.zipIdx_nil, List.reverse_cons, List.reverse_nil, List.nil_append, List.cons_append, List.find?_cons, Nat.zero_add]
  by_cases h : x = t
  · subst h
    simp
  · have : ¬ t = x := fun e => h e.symm
    simp [h, this]

theorem lastN_succ (n : Nat) (h : Hd) : lastN (n + 1) h = if h = nameH n then some (n : Int) else lastN n h := by
  unfold lastN
  rw [List.range_succ, List.reverse_append]
  simp only [List.reverse_cons, List.reverse_nil, List.nil_append, List.cons_append, List.find?_cons]
  by_cases e : h = nameH n
  · subst e
    simp
  · have : ¬ nameH n = h := fun e' => e e'.symm
    simp [e, this]

theorem lastT_lt {V : List Term} {t : Term} {n : Int} (h : lastT V t = some n) : 0 ≤ n ∧ n < V.length ∧ V[n.toNat]? = some t := by
  unfold lastT at h
  obtain ⟨p, hp, rfl⟩ := Option.map_eq_some_iff.1 h
  have h1 := List.mem_of_find?_eq_some hp
  have h2 := List.find?_some hp
  simp only [decide_eq_true_eq] at h2
  rw [List.mem_reverse] at h1
  obtain ⟨a, i⟩ := p
  have h3 := List.mem_zipIdx h1
  simp only at h2 h3 ⊢
  subst h2
  refine ⟨by omega, by omega, ?_⟩
  simp only [Int.toNat_natCast]
  have : i < V.length := by omega
  rw [List.getElem?_eq_getElem this]
  exact congrArg some h3.2.2.symm

theorem lastN_lt {n : Nat} {h : Hd} {i : Int} (hi : lastN n h = some i) : 0 ≤ i ∧ i < n ∧ nameH i = h := by
  unfold lastN at hi
  obtain ⟨p, hp, rfl⟩ := Option.map_eq_some_iff.1 hi
  have h1 := List.mem_of_find?_eq_some hp
  have h2 := List.find?_some hp
  simp only [decide_eq_true_eq] at h2
  rw [List.mem_reverse, List.mem_range] at h1
  exact ⟨by omega, by omega, h2⟩

theorem zero_int (w : World) : (zeroValue 3).run Tryd.prog w = .ok (vi 0) w := Tryd.zeroValue3 w

/-! ### 4. A term made or found -/

theorem make_spec {t : Term} {w : World} {v : VF} {V : List Term} {K : Array Value → World → Prop} (hv : VaultAt w v V) (hV : V.length < 1000000000)
    (h1 : ∀ w' n, t.kind ≠ 1 → lastT V t = some n → Mod No w w' → K ((nameB n).map u8).toArray w')
    (h2 : t.kind = 1 ∨ lastT V t = none → ∀ w' v', VaultAt w' v' (V ++ [t]) → v.to v' w.heap.size → Mod v.fp w w' → K ((nameB V.length).map u8).toArray w') :
    C16 (some ⟨v.vb, 0, none⟩) t.cells.toArray w K := by
  refine br16 ?_
  unfold sh16
  obtain ⟨dT, LT⟩ := keyTerm
  have LH := keyHandle
  refine newV.mk fun bt w1 hbt hBt hm1 => ?_
  refine newV.mk fun bh w2 hbh hBh hm2 => ?_
  have hlt1 := hBt.lt
  have hlt2 := hBh.lt
  have hBt2 : Blk w2 bt t.cells 55 := hBt.mod0 hm2
  have hv2 := (hv.mod0 hm1).mod0 hm2
  have hm02 : Mod No w w2 := hm1.on0 hm2
  refine jn.mk (fun _ w' => Mod No w w' ∧ Blk w' bt t.cells 55 ∧ Blk w' bh (laid [] 0) 26 ∧ (t.kind = 1 ∨ lastT V t = none)) ?_ ?_
  · -- the look
    intro J hJ
    refine drw.mk fun w3 hm3 => nn.mk ?_
    have hv3 := hv2.mod0 hm3
    rw [add_at]
    refine ldM.mk hv3.box rfl ?_
    refine ldA.all (hBt2.mod0 hm3) rfl ?_
    refine ⟨_, _, run_lookup LT Tryd.runUnderlying48 zero_int hv3.found t, ?_⟩
    have hm03 : Mod No w w3 := hm02.on0 hm3
    have hJ' : t.kind = 1 ∨ lastT V t = none → J () w3 := fun h => hJ () w3 ⟨hm03, hBt2.mod0 hm3, by simpa [laid] using hBh.mod0 hm3, h⟩
    cases hl : lastT V t with
    | none =>
      refine jn_in (ifM.f rfl ?_)
      exact ifM.f rfl (hJ' (.inr hl))
    | some n =>
      obtain ⟨hn0, hn1, _⟩ := lastT_lt hl
      refine jn_in (ifM.t rfl ?_)
      refine ldI.mk (hBt2.mod0 hm3) rfl ?_
      by_cases hk : t.kind = 1
      · exact ifM.f (by simp [hk]) (hJ' (.inl hk))
      · refine ifM.t (by simp [hk]) ?_
        show C21 n w3 _
        refine name_spec hn0 (by omega) fun w4 hm4 => ?_
        have hB4 := (hBh.mod0 hm3).mod0 hm4
        refine stA.all hB4 rfl (by simp [nameB_len]) (fun x hx => ?_) fun w5 hB5 hm5 => ?_
        · obtain ⟨y, _, rfl⟩ := List.mem_map.1 (by simpa using hx)
          rfl
        · refine ldA.all hB5 (by simp [nameB_len]) ?_
          exact h1 w5 n hk hl ((hm03.on0 hm4).onNew hm5 (Nat.le_trans hm1.size hbh))
  · -- a new one
    rintro _ w3 ⟨hm3, hBt3, hBh3, hcase⟩
    have hv3 := hv.mod0 hm3
    refine nn.mk (ldL.mk hv3.box rfl ?_)
    refine drw.mk fun w4 hm4 => nn.mk ?_
    have hv4 := hv3.mod0 hm4
    refine ldL.mk hv4.box rfl ?_
    have hBt4 := hBt3.mod0 hm4
    have hBh4 := hBh3.mod0 hm4
    refine ldA.all hBt4 rfl ?_
    -- the one-cell slice
    have hlt4 := hv4.lt
    refine ⟨Slc.mk (some ⟨w4.heap.size, 0, none⟩) 1 1, w4.alloc (.cells t.cells.toArray 55), by unfold rn; kernel_rfl, ?_⟩
    have hm5 := Mod.alloc w4 (.cells t.cells.toArray 55)
    have hB5 := Blk.new w4 t.cells.toArray 55
    generalize hw5 : w4.alloc (.cells t.cells.toArray 55) = w5 at hm5 hB5 ⊢
    have hsz5 : w5.heap.size = w4.heap.size + 1 := by rw [← hw5]; simp
    have hv5 := hv4.mod0 hm5
    refine ⟨hv5.box.cell rfl, ?_⟩
    have hx5 : RdS w5 7 (Slc.mk (some ⟨w4.heap.size, 0, none⟩) 1 1) t.cells := ⟨rfl, .inr ⟨_, _, rfl, fun _ => by omega, fun i _ => by rw [Nat.zero_add]; exact hB5.cell' i⟩⟩
    obtain ⟨s', w6, hrun, hown, hlen', hmod6, hplace⟩ := run_append (t := 50) (t' := 50) elTerm (w := w5) (s := v.tb) (x := Slc.mk (some ⟨w4.heap.size, 0, none⟩) 1 1) Tryd.runUnderlying50 Tryd.runUnderlying50 (fun k h => by cases h) hv5.terms hx5 t.cells_one (by rw [hv5.len]; simp only; omega) (by omega)
    refine ⟨s', w6, hrun, nn.mk ?_⟩
    have hbox6 : Blk w6 v.vb [v.tb.v, .map (some v.fb), .map (some v.nb)] 52 := hv5.box.mod hmod6 fun h => (hv5.d4 _ h).1 rfl
    refine stV.mk hbox6 (by simp) fun w7 hB7 hm7 => ?_
    have hf7 : MapAt w7 v.fb Term.enc vi (lastT V) := (hv5.found.mod hmod6 fun h => (hv5.d4 _ h).2.1 rfl).mod hm7 fun h => hv.d2 h.symm
    have hn7 : MapAt w7 v.nb Hd.enc vi (lastN V.length) := (hv5.names.mod hmod6 fun h => (hv5.d4 _ h).2.2.1 rfl).mod hm7 fun h => hv.d3 h.symm
    have hsz34 := hm3.size
    have hsz44 := hm4.size
    have hsz56 := hmod6.size
    -- what is new
    have fpw : ∀ b, v.fp b → b < w.heap.size := hv.lt
    have hbt6 : Blk w6 bt t.cells 55 := (hBt4.mod0 hm5).mod hmod6 fun h => by have := fpw _ (.inr (.inr (.inr h))); omega
    have hbh6 : Blk w6 bh (laid [] 0) 26 := ((hBh3.mod0 hm4).mod0 hm5).mod hmod6 fun h => by have := fpw _ (.inr (.inr (.inr h))); have := hm1.size; omega
    have hvb := fpw _ (.inl rfl)
    have hm1s := hm1.size
    have hbt7 := hbt6.ne hm7 (by omega)
    have hbh7 := hbh6.ne hm7 (by omega)
    have hM5 : Mod v.fp w w5 := ((hm3.on0 hm4).on0 hm5).of0
    have hM6 : Mod v.fp w w6 := hM5.on hmod6 fun b _ h => .inr (.inr (.inr h))
    have hM7 : Mod v.fp w w7 := hM6.on hm7 fun b _ h => .inl h
    have hown7 : OwnS w7 55 7 s' ((V ++ [t]).flatMap Term.cells) := by
      rw [List.flatMap_append]
      simp only [List.flatMap_cons, List.flatMap_nil, List.append_nil]
      refine hown.mod hm7 fun b hb e => ?_
      subst e
      rcases hplace with h | ⟨c, h, hc, _⟩
      · exact (hv.d4 _ (h ▸ hb)).1 rfl
      · rw [h] at hb
        have : c = v.vb := by simpa using hb
        omega
    have hs'd : ∀ b, s'.a = some ⟨b, 0, none⟩ → b ≠ v.vb ∧ b ≠ v.fb ∧ b ≠ v.nb ∧ b < w7.heap.size := fun b hb => by
      have hs7 := hm7.size
      rcases hplace with h | ⟨c, h, hc, hc2⟩
      · have := hv.d4 _ (h ▸ hb)
        exact ⟨this.1, this.2.1, this.2.2.1, by omega⟩
      · rw [h] at hb
        have : c = b := by simpa using hb
        have h1 := hv.lt v.fb (.inr (.inl rfl))
        have h2 := hv.lt v.nb (.inr (.inr (.inl rfl)))
        exact ⟨by omega, by omega, by omega, by omega⟩
    -- found
    refine drw.mk fun w8 hm8 => nn.mk ?_
    rw [add_at]
    have hB8 := hB7.mod0 hm8
    simp only [List.set_cons_zero] at hB8
    refine ldM.mk hB8 rfl ?_
    refine ldA.all (hbt7.mod0 hm8) rfl ?_
    obtain ⟨w9, hr9, hf9, hm9⟩ := run_mapUpdate LT (T := 48) Tryd.runUnderlying48 (hf7.mod hm8 fun h => h) t (V.length : Int)
    have hlen16 : (v.tb.len : Int) = V.length := by rw [hv.len]
    rw [hlen16]
    refine ⟨w9, hr9, ?_⟩
    have hB9 := hB8.ne hm9 hv.d2
    have hn9 : MapAt w9 v.nb Hd.enc vi (lastN V.length) := (hn7.mod hm8 fun h => h).mod hm9 fun h => hv.d1 h.symm
    have hM9 : Mod v.fp w w9 := (hM7.on0 hm8).on hm9 fun b _ h => .inr (.inl h)
    have hfb := fpw _ (.inr (.inl rfl))
    have hnb := fpw _ (.inr (.inr (.inl rfl)))
    have hbh9 := (hbh7.mod0 hm8).ne hm9 (by omega)
    -- names
    refine drw.mk fun w10 hm10 => nn.mk ?_
    rw [add_at]
    have hB10 := hB9.mod0 hm10
    refine ldM.mk hB10 rfl ?_
    refine name_spec (by omega) (by omega) fun w11 hm11 => ?_
    have hB11 := hB10.mod0 hm11
    refine ⟨hB11.cell rfl, ?_⟩
    obtain ⟨w12, hr12, hn12, hm12⟩ := run_mapUpdate LH (T := 49) Tryd.runUnderlying49 ((hn9.mod hm10 fun h => h).mod hm11 fun h => h) (nameH V.length) (V.length : Int)
    refine ⟨w12, hr12, ?_⟩
    have hM12 : Mod v.fp w w12 := ((hM9.on0 hm10).on0 hm11).on hm12 fun b _ h => .inr (.inr (.inl h))
    refine name_spec (by omega) (by omega) fun w13 hm13 => ?_
    have hbh13 := (((hbh9.mod0 hm10).mod0 hm11).ne hm12 (by omega)).mod0 hm13
    refine stA.all hbh13 rfl (by simp [nameB_len]) (fun x hx => ?_) fun w14 hB14 hm14 => ?_
    · obtain ⟨y, _, rfl⟩ := List.mem_map.1 (by simpa using hx)
      rfl
    refine ldA.all hB14 (by simp [nameB_len]) ?_
    have hbhs : w.heap.size ≤ bh := by omega
    have hM14 : Mod v.fp w w14 := (hM12.on0 hm13).onNew hm14 hbhs
    refine h2 hcase w14 ⟨v.vb, s', v.fb, v.nb⟩ ?_ ⟨rfl, rfl, rfl, ?_⟩ hM14
    · have ne14 : ∀ b, b < w.heap.size → b ≠ bh := fun b hb => by omega
      refine ⟨?_, ?_, ?_, ?_, ?_, hv.d1, hv.d2, hv.d3, ?_⟩
      · exact (((hB11.ne hm12 hv.d3).mod0 hm13).ne hm14 (ne14 _ hvb))
      · refine ((((((hown7.mod hm8 fun _ _ h => h).mod hm9 ?_).mod hm10 fun _ _ h => h).mod hm11 fun _ _ h => h).mod hm12 ?_).mod hm13 fun _ _ h => h).mod hm14 ?_
        · exact fun b hb e => (hs'd b hb).2.1 e
        · exact fun b hb e => (hs'd b hb).2.2.1 e
        · intro b hb e
          subst e
          rcases hplace with h | ⟨c, h, hc, hc2⟩
          · exact absurd (hv.d4 _ (h ▸ hb)).2.2.2 (by omega)
          · rw [h] at hb
            have : c = b := by simpa using hb
            have := hbh7.lt
            have := hBh4.lt
            omega
      · rw [hlen', hv.len]; simp
      · have : lastT (V ++ [t]) = fun x => if x = t then some (V.length : Int) else lastT V x := funext fun x => lastT_push V t x
        rw [this]
        exact ((((hf9.mod hm10 fun h => h).mod hm11 fun h => h).mod hm12 fun h => hv.d1 h).mod hm13 fun h => h).mod hm14 (ne14 _ hfb)
      · have : lastN (V ++ [t]).length = fun x => if x = nameH V.length then some (V.length : Int) else lastN V.length x := funext fun x => by
          rw [List.length_append]; exact lastN_succ V.length x
        rw [this]
        exact (hn12.mod hm13 fun h => h).mod hm14 (ne14 _ hnb)
      · intro b hb
        have h1 := hs'd b hb
        have s1 := hm8.size
        have s2 := hm9.size
        have s3 := hm10.size
        have s4 := hm11.size
        have s5 := hm12.size
        have s6 := hm13.size
        have s7 := hm14.size
        exact ⟨h1.1, h1.2.1, h1.2.2.1, by omega⟩
    · rcases hplace with h | ⟨c, h, hc, _⟩
      · exact .inl h
      · exact .inr ⟨c, h, by omega⟩
end Go.Proofs.YtkehoneadedmhaaDoor
