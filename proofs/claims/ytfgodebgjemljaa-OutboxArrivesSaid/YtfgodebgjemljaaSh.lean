/-
  A layer between the model's walk and plain Lean: for each operation of the translated code one lemma that needs no rewriting, frames told by what is read of them.
-/
import Derived.Tactics2
import Derived.OrdersHeld
import Derived.Laws.World
import Derived.KernelRfl
import Derived.TacticsIn
import Derived.OrdersIn
import Derived.CallsIn
namespace Go.Sh
set_option linter.unusedVariables false

/-! ### 1. Frames, told by what is read of them -/

/-- What stands in a slot, by a list whose first row counts. -/
def lk : List (Nat × Value) → Nat → Option Value
  | [], _ => none
  | (d, v) :: l, t => match Nat.beq d t with
    | true => some v
    | false => lk l t

def look (l : List (Nat × Value)) : Operand → Option Value
  | .tmp t => lk l t
  | .const v => some v
  | .global g => some (.pointer (some ⟨g, 0, none⟩))
  | .func f => some (.func (.func f) #[] #[])

structure Fr (n : Nat) (a : Act) (l : List (Nat × Value)) (ds : List Deferred := []) : Prop where
  size : a.tmps.size = n
  nodef : a.defers = ds
  reads : ∀ t v, lk l t = some v → a.tmps[t]? = some v

theorem Fr.eval {n : Nat} {a : Act} {l : List (Nat × Value)} {ds : List Deferred} (h : Fr n a l ds) {x : Operand} {v : Value} (hx : look l x = some v) : a.eval x = v := by
  cases x with
  | tmp t =>
    have := h.reads t v hx
    simp [Act.eval, Array.getD_eq_getD_getElem?, this]
  | const u => simpa [look, Act.eval] using hx
  | global g => simpa [look, Act.eval] using hx
  | func f => simpa [look, Act.eval] using hx

theorem beq_true {d t : Nat} (h : Nat.beq d t = true) : d = t := Nat.eq_of_beq_eq_true h
theorem beq_false {d t : Nat} (h : Nat.beq d t = false) : d ≠ t := Nat.ne_of_beq_eq_false h

theorem lk_cons {d t : Nat} {u v : Value} {l : List (Nat × Value)} (h : lk ((d, u) :: l) t = some v) : (d = t ∧ u = v) ∨ (d ≠ t ∧ lk l t = some v) := by
  unfold lk at h
  cases hb : Nat.beq d t with
  | true => rw [hb] at h; exact .inl ⟨beq_true hb, Option.some.inj h⟩
  | false => rw [hb] at h; exact .inr ⟨beq_false hb, h⟩

theorem Fr.put {n : Nat} {a : Act} {l : List (Nat × Value)} {ds : List Deferred} (h : Fr n a l ds) (d : Nat) (v : Value) (hd : Nat.blt d n = true) : Fr n (a.put (some d) v) ((d, v) :: l) ds := by
  have hd' : d < n := Nat.le_of_ble_eq_true hd
  refine ⟨by simp [Act.put, h.size], by simp [Act.put, h.nodef], ?_⟩
  intro t u ht
  simp only [Act.put]
  rcases lk_cons ht with ⟨rfl, rfl⟩ | ⟨e, ht⟩
  · simp [h.size, hd']
  · rw [Array.getElem?_setIfInBounds_ne e]
    exact h.reads t u ht

theorem Fr.putNone {n : Nat} {a : Act} {l : List (Nat × Value)} {ds : List Deferred} (h : Fr n a l ds) (v : Value) : Fr n (a.put none v) l ds := h

/-- Forget, and bring into another order. -/
theorem Fr.sub {n : Nat} {a : Act} {l l' : List (Nat × Value)} {ds : List Deferred} (h : Fr n a l ds) (he : l'.map (fun p => lk l p.1) = l'.map (fun p => some p.2)) : Fr n a l' ds := by
  refine ⟨h.size, h.nodef, ?_⟩
  intro t v ht
  have key : ∀ l' : List (Nat × Value), l'.map (fun p => lk l p.1) = l'.map (fun p => some p.2) → lk l' t = some v → lk l t = some v := by
    intro l'
    induction l' with
    | nil => intro _ h; simp [lk] at h
    | cons p r ih =>
      intro he ht
      obtain ⟨d, u⟩ := p
      simp only [List.map_cons, List.cons.injEq] at he
      rcases lk_cons ht with ⟨rfl, rfl⟩ | ⟨_, ht⟩
      · exact he.1
      · exact ih he.2 ht
  exact h.reads t v (key l' he ht)

theorem Fr.enter (args : Array Value) (n k : Nat) (l : List (Nat × Value)) (hn : args.size + k = n) (hl : l.map (fun p => args[p.1]?) = l.map (fun p => some p.2)) :
    Fr n { tmps := args ++ Array.replicate k undef, defers := [] } l := by
  refine ⟨by simp [hn], rfl, ?_⟩
  intro t v ht
  have key : ∀ l : List (Nat × Value), l.map (fun p => args[p.1]?) = l.map (fun p => some p.2) → lk l t = some v → args[t]? = some v := by
    intro l'
    induction l' with
    | nil => intro _ h; simp [lk] at h
    | cons p r ih =>
      intro he ht
      obtain ⟨d, u⟩ := p
      simp only [List.map_cons, List.cons.injEq] at he
      rcases lk_cons ht with ⟨rfl, rfl⟩ | ⟨_, ht⟩
      · exact he.1
      · exact ih he.2 ht
  have h1 := key l hl ht
  have hlt : t < args.size := (Array.getElem?_eq_some_iff.1 h1).1
  rw [Array.getElem?_append_left hlt]
  exact h1

/-! ### 2. Regions in the order of the text -/

/-- Only the normal end is let. -/
def NP (K : Act → World → Prop) : Exit → Act → World → Prop
  | .normal, a, w => K a w
  | _, _, _ => False

/-- the fence that asks nothing, in an activation (none) or in a round -/
abbrev FW (ro : Option Nat) : Fence := { Fence.wide with round := ro }

def RL (P : Program) (ops : Array Oper) (K : Act → World → Prop) (l : List Oper) (a : Act) (w : World) : Prop := wpListIn Fence.wide 0 P ops (NP K) l a w

theorem not_letsOut {K : Act → World → Prop} : ¬ LetsOut (NP K) := fun ⟨_, _, h⟩ => h

theorem region_noPanic {P : Program} {id : Nat} {ops : Array Oper} {b : Bool} {K : Act → World → Prop} {Q : Exit → Act → World → Prop} {a : Act} {w : World}
    (h : (Code.region id ops b).wp P (NP K) a w) (hQ : ∀ a w, K a w → Q .normal a w) : (Code.region id ops b).wp P Q a w :=
  Code.wp_mono (fun e a w q => by cases e <;> first | exact hQ _ _ q | exact q.elim) h

section
variable {P : Program} {ops : Array Oper} {K : Act → World → Prop} {Q : Exit → Act → World → Prop} {a : Act} {w : World} {rest : List Oper} {o : Oper} {x y : Code}

/-- Statement by statement. -/
theorem seq_k (h : ∀ K : Act → World → Prop, (∀ a w, y.wp P Q a w → K a w) → x.wp P (Exit.then K Q) a w) : (Code.seq x y).wp P Q a w := wp_seq_k h

/-- A region in the text's order, and what follows. -/
theorem seq_region {id : Nat} {l : List Oper} (h : ∀ K : Act → World → Prop, (∀ a w, y.wp P Q a w → K a w) → RL P l.toArray K l a w) : (Code.seq (Code.region id l.toArray false) y).wp P Q a w :=
  wp_seq_k fun K hK => region_noPanic (wpIn_wide.1 (wpIn_region_lit (h K hK))) fun _ _ h => h

/-- A region at the end of a body. -/
theorem end_region {id : Nat} {l : List Oper} (h : ∀ K : Act → World → Prop, (∀ a w, Q .normal a w → K a w) → RL P l.toArray K l a w) : (Code.region id l.toArray false).wp P Q a w :=
  region_noPanic (wpIn_wide.1 (wpIn_region_lit (h _ fun _ _ h => h))) fun _ _ h => h

theorem RL.nil (h : K a w) : RL P ops K [] a w := h

theorem op_in {ro : Option Nat} {Q : Exit → Act → World → Prop} {next : Act → World → Prop} (hn : ro = none ∨ ∀ c, o.op ≠ .defer c) (h : o.wp P a w next Q) : o.wpIn (FW ro) 0 P a w next Q := by
  refine ⟨fun _ _ => trivial, ?_⟩
  have e : o.semAt (FW ro).round a.eval = execOp a.eval o := by
    rcases hn with rfl | hn
    · rfl
    · exact Oper.semAt_eq _ _ _ hn
  rw [e]
  unfold Oper.wp at h
  generalize (execOp a.eval o).run P w = r at h ⊢
  cases r with
  | ok x w' =>
    cases x with
    | enter f args => exact ⟨fun hd => (by cases hd), (callsIn_wide (n := 0)).2 h⟩
    | row r args => exact ⟨fun hd => (by cases hd), fun c cs _ =>
        let ⟨v, w1, h1, h2⟩ := h c cs
        ⟨v, w1, h1, stepsIn_wide.2 h2⟩⟩
    | round l f tmps assign body => exact False.elim h
    | _ => exact h
  | halt x w' => cases x <;> exact h

theorem RL_go (hg : o.guard = none) (h : o.wp P a w (RL P ops K rest) (NP K)) : RL P ops K (o :: rest) a w := by
  unfold RL wpListIn
  rw [if_pos (by simp [Region.wanted, hg])]
  exact op_in (.inl rfl) h

theorem RL_yes {n : Nat} {l : List (Nat × Value)} {ds : List Deferred} (hF : Fr n a l ds) {j d : Nat} {b : Bool} (hg : o.guard = some (j, b)) (hj : (ops[j]?).bind (·.dst) = some d) (hd : lk l d = some (.bool b))
    (h : o.wp P a w (RL P ops K rest) (NP K)) : RL P ops K (o :: rest) a w := by
  unfold RL wpListIn
  rw [if_pos (by simp [Region.wanted, hg, yielded, hj, hF.reads d _ hd])]
  exact op_in (.inl rfl) h

theorem wanted_false {n : Nat} {l : List (Nat × Value)} {ds : List Deferred} (hF : Fr n a l ds) {j d : Nat} {b : Bool} (hg : o.guard = some (j, b)) (hj : (ops[j]?).bind (·.dst) = some d) {u : Value} (hd : lk l d = some u) (hu : u = .bool (!b) ∨ u = undef) :
    Region.wanted o (yielded ops a.tmps) = false := by
  have h1 := hF.reads d _ hd
  rcases hu with rfl | rfl
  · simp only [Region.wanted, hg, yielded, hj, Option.bind_some, h1]
    cases b <;> rfl
  · simp only [Region.wanted, hg, yielded, hj, Option.bind_some, h1]
    cases b <;> rfl

theorem RL_no {n : Nat} {l : List (Nat × Value)} {ds : List Deferred} (hF : Fr n a l ds) {j d : Nat} {b : Bool} (hg : o.guard = some (j, b)) (hj : (ops[j]?).bind (·.dst) = some d) {u : Value} (hd : lk l d = some u) (hu : u = .bool (!b) ∨ u = undef)
    (h : RL P ops K rest (a.put o.dst undef) w) : RL P ops K (o :: rest) a w := by
  unfold RL wpListIn
  rw [if_neg (by rw [wanted_false hF hg hj hd hu]; simp)]
  exact ⟨fun _ _ => trivial, h⟩

/-- An operation that yields a value and leaves the world alone. -/
theorem RL.val {n : Nat} {l : List (Nat × Value)} {ds : List Deferred} (hF : Fr n a l ds) {v : Value} {d : Nat} {w' : World} (hg : o.guard = none) (hd : o.dst = some d) (hn : Nat.blt d n = true) (hr : (execOp a.eval o).run P w = .ok (.value v) w')
    (h : ∀ a', Fr n a' ((d, v) :: l) ds → RL P ops K rest a' w') : RL P ops K (o :: rest) a w :=
  RL_go hg (by unfold Oper.wp; rw [hr, Oper.upon_value, hd]; exact h _ (hF.put d v hn))

theorem RL.unit {n : Nat} {l : List (Nat × Value)} {ds : List Deferred} (hF : Fr n a l ds) {w' : World} (hg : o.guard = none) (hd : o.dst = none) (hr : (execOp a.eval o).run P w = .ok .skip w')
    (h : ∀ a', Fr n a' l ds → RL P ops K rest a' w') : RL P ops K (o :: rest) a w :=
  RL_go hg (by unfold Oper.wp; rw [hr, Oper.upon_skip, hd]; exact h _ hF)

theorem RL.gval {n : Nat} {l : List (Nat × Value)} {ds : List Deferred} (hF : Fr n a l ds) {v : Value} {d : Nat} {w' : World} {j dj : Nat} {b : Bool} (hg : o.guard = some (j, b)) (hj : (ops[j]?).bind (·.dst) = some dj) (hb : lk l dj = some (.bool b))
    (hd : o.dst = some d) (hn : Nat.blt d n = true) (hr : (execOp a.eval o).run P w = .ok (.value v) w')
    (h : ∀ a', Fr n a' ((d, v) :: l) ds → RL P ops K rest a' w') : RL P ops K (o :: rest) a w :=
  RL_yes hF hg hj hb (by unfold Oper.wp; rw [hr, Oper.upon_value, hd]; exact h _ (hF.put d v hn))

theorem RL.gunit {n : Nat} {l : List (Nat × Value)} {ds : List Deferred} (hF : Fr n a l ds) {w' : World} {j dj : Nat} {b : Bool} (hg : o.guard = some (j, b)) (hj : (ops[j]?).bind (·.dst) = some dj) (hb : lk l dj = some (.bool b))
    (hd : o.dst = none) (hr : (execOp a.eval o).run P w = .ok .skip w')
    (h : ∀ a', Fr n a' l ds → RL P ops K rest a' w') : RL P ops K (o :: rest) a w :=
  RL_yes hF hg hj hb (by unfold Oper.wp; rw [hr, Oper.upon_skip, hd]; exact h _ hF)

theorem RL.skip {n : Nat} {l : List (Nat × Value)} {ds : List Deferred} (hF : Fr n a l ds) {d : Nat} {j dj : Nat} {b : Bool} (hg : o.guard = some (j, b)) (hj : (ops[j]?).bind (·.dst) = some dj) {u : Value} (hb : lk l dj = some u) (hu : u = .bool (!b) ∨ u = undef)
    (hd : o.dst = some d) (hn : Nat.blt d n = true)
    (h : ∀ a', Fr n a' ((d, undef) :: l) ds → RL P ops K rest a' w) : RL P ops K (o :: rest) a w :=
  RL_no hF hg hj hb hu (by rw [hd]; exact h _ (hF.put d undef hn))

theorem RL.skip0 {n : Nat} {l : List (Nat × Value)} {ds : List Deferred} (hF : Fr n a l ds) {j dj : Nat} {b : Bool} (hg : o.guard = some (j, b)) (hj : (ops[j]?).bind (·.dst) = some dj) {u : Value} (hb : lk l dj = some u) (hu : u = .bool (!b) ∨ u = undef)
    (hd : o.dst = none)
    (h : ∀ a', Fr n a' l ds → RL P ops K rest a' w) : RL P ops K (o :: rest) a w :=
  RL_no hF hg hj hb hu (by rw [hd]; exact h _ hF)

end

/-- What a call leaves: a value, and a world. -/
def CallsV (P : Program) (f : FuncId) (args : Array Value) (w : World) (R : Value → World → Prop) : Prop :=
  Calls P f args w fun e w' => match e with | .returned v => R v w' | _ => False

theorem CallsV.mono {P : Program} {f : FuncId} {args : Array Value} {w : World} {R R' : Value → World → Prop} (h : CallsV P f args w R) (hr : ∀ v w', R v w' → R' v w') : CallsV P f args w R' :=
  Calls.mono h fun e w' he => by cases e <;> first | exact hr _ _ he | exact he

section
variable {P : Program} {ops : Array Oper} {K : Act → World → Prop} {a : Act} {w : World} {rest : List Oper} {o : Oper}

/-- A call. -/
theorem wp_call {n : Nat} {l : List (Nat × Value)} {ds : List Deferred} (hF : Fr n a l ds) {f : FuncId} {args : Array Value} {d : Nat} {K' : Act → World → Prop} (hd : o.dst = some d) (hn : Nat.blt d n = true)
    (hr : (execOp a.eval o).run P w = .ok (.enter f args) w)
    (h : CallsV P f args w fun v w' => ∀ a', Fr n a' ((d, v) :: l) ds → K' a' w') : o.wp P a w K' (NP K) := by
  unfold Oper.wp
  rw [hr, Oper.upon_enter, hd]
  exact Calls.mono h fun e w' he => by
    cases e with
    | returned v => exact he _ (hF.put d v hn)
    | panicked c => exact he
    | outgrown => exact he.elim

theorem RL.call {n : Nat} {l : List (Nat × Value)} {ds : List Deferred} (hF : Fr n a l ds) {f : FuncId} {args : Array Value} {d : Nat} (hg : o.guard = none) (hd : o.dst = some d) (hn : Nat.blt d n = true)
    (hr : (execOp a.eval o).run P w = .ok (.enter f args) w)
    (h : CallsV P f args w fun v w' => ∀ a', Fr n a' ((d, v) :: l) ds → RL P ops K rest a' w') : RL P ops K (o :: rest) a w :=
  RL_go hg (wp_call hF hd hn hr h)

theorem RL.gcall {n : Nat} {l : List (Nat × Value)} {ds : List Deferred} (hF : Fr n a l ds) {f : FuncId} {args : Array Value} {d : Nat} {j dj : Nat} {b : Bool} (hg : o.guard = some (j, b)) (hj : (ops[j]?).bind (·.dst) = some dj) (hb : lk l dj = some (.bool b))
    (hd : o.dst = some d) (hn : Nat.blt d n = true) (hr : (execOp a.eval o).run P w = .ok (.enter f args) w)
    (h : CallsV P f args w fun v w' => ∀ a', Fr n a' ((d, v) :: l) ds → RL P ops K rest a' w') : RL P ops K (o :: rest) a w :=
  RL_yes hF hg hj hb (wp_call hF hd hn hr h)
end

/-! ### 3. Regions that draw their order -/

section
variable {P : Program} {ops : Array Oper} {md : Region.Mode} {Q : Exit → Act → World → Prop}

def Dep (D : Array Nat) (j i : Nat) : Bool := (D.getD j 0).testBit i

/-- 'D j i': i comes ahead of j in whatever order. -/
def depOk (ops : Array Oper) (D : Array Nat) : Bool :=
  (List.range ops.size).all fun j => (List.range ops.size).all fun i => !Dep D j i || match ops[j]? with
    | some o => o.after.any fun e => Region.binds .any e && (e.on == i || Dep D e.on i)
    | none => false

theorem depOk_spec {D : Array Nat} (h : depOk ops D = true) {j i : Nat} {o : Oper} (hj : ops[j]? = some o) (hi : i < ops.size) (hD : Dep D j i = true) :
    ∃ e ∈ o.after, Region.binds .any e = true ∧ (e.on = i ∨ Dep D e.on i = true) := by
  simp only [depOk, List.all_eq_true, List.mem_range] at h
  have h1 := h j (Array.getElem?_eq_some_iff.1 hj).1 i hi
  simp only [hD, Bool.not_true, Bool.false_or, hj] at h1
  obtain ⟨e, he, hb⟩ := Array.any_eq_true'.1 h1
  simp only [Bool.and_eq_true, Bool.or_eq_true, beq_iff_eq] at hb
  exact ⟨e, he, hb.1, hb.2⟩

/-- What stays to be kept behind operation j: what may come behind it still. -/
def kept (E : Nat → Bool) (D : Array Nat) (pend : List (Nat × (World → Prop))) (j : Nat) : List (Nat × (World → Prop)) :=
  match E j with
  | true => pend.filter fun p => !Dep D j p.1
  | false => pend

theorem kept_sub {E : Nat → Bool} {D : Array Nat} {pend : List (Nat × (World → Prop))} {j : Nat} {p : Nat × (World → Prop)} (h : p ∈ kept E D pend j) : p ∈ pend := by
  unfold kept at h
  split at h
  · exact (List.mem_filter.1 h).1
  · exact h

theorem kept_cons {E : Nat → Bool} {D : Array Nat} {q : Nat × (World → Prop)} {pend : List (Nat × (World → Prop))} {j : Nat} (h : Dep D j q.1 = false) : kept E D (q :: pend) j = q :: kept E D pend j := by
  unfold kept
  split <;> simp [h]

theorem kept_tail {E : Nat → Bool} {D : Array Nat} {q : Nat × (World → Prop)} {pend : List (Nat × (World → Prop))} {j : Nat} : kept E D (q :: pend) j = q :: kept E D pend j ∨ kept E D (q :: pend) j = kept E D pend j := by
  unfold kept
  split
  · cases h : Dep D j q.1 <;> simp [h]
  · exact .inl rfl

/-- Whatever order is picked from here on; what was taken first ('pend') keeps its value behind all that may come ahead of it. -/
def wpG (P : Program) (ops : Array Oper) (Q : Exit → Act → World → Prop) (E : Nat → Bool) (D : Array Nat) : Nat → Array Bool → List (Nat × (World → Prop)) → Act → World → Prop
  | 0, listed, _, a, w => Region.ready .any ops listed = [] ∧ Q .normal a w
  | fuel + 1, listed, pend, a, w =>
    (Region.ready .any ops listed = [] → Q .normal a w) ∧
    ∀ j ∈ Region.ready .any ops listed, wpOp P ops Q j (fun a' w' => (∀ p ∈ kept E D pend j, p.2 w') ∧ wpG P ops Q E D fuel (listed.setIfInBounds j true) (kept E D pend j) a' w') a w

theorem wpAny_of_G {E : Nat → Bool} {D : Array Nat} : ∀ (fuel : Nat) (listed : Array Bool) (pend : List (Nat × (World → Prop))) (a : Act) (w : World), wpG P ops Q E D fuel listed pend a w → wpAny P .any ops Q fuel listed a w
  | 0, _, _, _, _, h => h
  | fuel + 1, _, _, _, _, h => ⟨h.1, fun i hi => wpOp_mono (fun a' w' h' => wpAny_of_G fuel _ _ a' w' h'.2) (h.2 i hi)⟩

theorem wpG_drop {E : Nat → Bool} {D : Array Nat} {p : Nat × (World → Prop)} : ∀ (fuel : Nat) (listed : Array Bool) (pend : List (Nat × (World → Prop))) (a : Act) (w : World), wpG P ops Q E D fuel listed (p :: pend) a w → wpG P ops Q E D fuel listed pend a w
  | 0, _, _, _, _, h => h
  | fuel + 1, listed, pend, a, w, h => ⟨h.1, fun i hi => wpOp_mono (fun a' w' h' => by
      rcases kept_tail (E := E) (D := D) (q := p) (pend := pend) (j := i) with e | e
      · rw [e] at h'
        exact ⟨fun q hq => h'.1 q (List.mem_cons_of_mem _ hq), wpG_drop fuel _ _ a' w' h'.2⟩
      · rw [e] at h'
        exact h') (h.2 i hi)⟩

def Down (D : Array Nat) (listed : Array Bool) : Prop := ∀ k i, i < listed.size → listed.getD k false = true → Dep D k i = true → listed.getD i false = true

theorem Down.step {D : Array Nat} (hok : depOk ops D = true) {listed : Array Bool} (hsz : listed.size = ops.size) (h : Down D listed) {j : Nat} (hj : j ∈ Region.ready .any ops listed) : Down D (listed.setIfInBounds j true) := by
  intro k i hi hk hD
  obtain ⟨_, o, ho, hall⟩ := mem_ready.1 hj
  have hi' : i < listed.size := by simpa using hi
  by_cases e : j = k
  · subst e
    obtain ⟨e, he, hb, h1⟩ := depOk_spec hok ho (by omega) hD
    have h2 := hall e he hb
    rcases h1 with h1 | h1
    · exact getD_set_true (h1 ▸ h2)
    · exact getD_set_true (h _ _ hi' h2 h1)
  · rw [getD_set_ne false e] at hk
    exact getD_set_true (h _ _ hi' hk hD)

theorem dep_not {D : Array Nat} (hok : depOk ops D = true) {listed : Array Bool} (hsz : listed.size = ops.size) (h : Down D listed) {i j : Nat} (hj : j ∈ Region.ready .any ops listed) (hi : i ∈ Region.ready .any ops listed) : Dep D j i = false := by
  cases hD : Dep D j i with
  | false => rfl
  | true =>
    exfalso
    obtain ⟨hun, oi, hoi, _⟩ := mem_ready.1 hi
    obtain ⟨_, o, ho, hall⟩ := mem_ready.1 hj
    have hlt : i < ops.size := (Array.getElem?_eq_some_iff.1 hoi).1
    obtain ⟨e, he, hb, h1⟩ := depOk_spec hok ho hlt hD
    have h2 := hall e he hb
    have h3 : listed.getD i false = true := by
      rcases h1 with h1 | h1
      · exact h1 ▸ h2
      · exact h _ _ (by omega) h2 h1
    have hl : i < listed.size := by omega
    simp [Array.getElem?_eq_getElem hl] at hun h3
    rw [hun] at h3
    cases h3

theorem wpG_first {E : Nat → Bool} {D : Array Nat} (hok : depOk ops D = true) {S : World → Prop} {i : Nat} {oi : Oper} {v : Value} (hE : E i = false) (hi : ops[i]? = some oi) (hsel : ∀ (j : Nat) (o : Oper) cs b, ops[j]? = some o → o.op ≠ .select cs b)
    (hQ : ∀ c a w, Q (.panic c) (a.put oi.dst v) w → Q (.panic c) a w) :
    ∀ (fuel : Nat) (listed : Array Bool) (pend : List (Nat × (World → Prop))) (a : Act) (w : World), listed.size = ops.size → Down D listed →
      (∀ j oj, ops[j]? = some oj → j ≠ i → listed.getD j true = false → (∀ e ∈ oj.after, Region.binds .any e = true → e.on ≠ i) → oi.apart ops oj = true) →
      i ∈ Region.ready .any ops listed → YieldsIf P ops S oi v a → S w → (∀ p ∈ pend, p.2 w) →
      wpG P ops Q E D fuel (listed.setIfInBounds i true) ((i, S) :: pend) (a.put oi.dst v) w → wpG P ops Q E D (fuel + 1) listed pend a w := by
  have kE : ∀ pend, kept E D pend i = pend := fun pend => by unfold kept; rw [hE]
  intro fuel
  induction fuel with
  | zero =>
    intro listed pend a w hsz hdn _ hr hy hS hp H
    refine ⟨fun h => (by rw [h] at hr; cases hr), fun j hj => ?_⟩
    by_cases hji : j = i
    · subst hji; exact hy.wpOp hi hS ⟨fun p hp' => hp p (kept_sub hp'), H⟩
    · have := ready_mono hj hji
      rw [H.1] at this
      cases this
  | succ fuel ih =>
    intro listed pend a w hsz hdn hfree hr hy hS hp H
    refine ⟨fun h => (by rw [h] at hr; cases hr), fun j hj => ?_⟩
    by_cases hji : j = i
    · subst hji; exact hy.wpOp hi hS ⟨fun p hp' => hp p (kept_sub hp'), by rw [kE]; exact wpG_drop _ _ _ _ _ H⟩
    · have h1 := H.2 j (ready_mono hj hji)
      obtain ⟨hjun, oj, hoj, hall⟩ := mem_ready.1 hj
      have hnot : ∀ e ∈ oj.after, Region.binds .any e = true → e.on ≠ i := fun e he hb heq => by
        have h1 := hall e he hb
        have h0 := (mem_ready.1 hr).1
        rw [heq] at h1
        rcases Nat.lt_or_ge i listed.size with h' | h'
        · simp [h'] at h0 h1; rw [h0] at h1; cases h1
        · simp [Array.getElem?_eq_none h'] at h1
      have hDji := dep_not hok hsz hdn hj hr
      rw [kept_cons (q := (i, S)) hDji] at h1
      have h2 := wpOp_putIf hoj (hfree j oj hoj hji hjun hnot) (fun cs b => hsel i oi cs b hi) (fun cs b => hsel j oj cs b hoj) hQ hy h1
      have hfree' : ∀ k ok, ops[k]? = some ok → k ≠ i → (listed.setIfInBounds j true).getD k true = false →
          (∀ e ∈ ok.after, Region.binds .any e = true → e.on ≠ i) → oi.apart ops ok = true := fun k ok hk hki hun hno => by
        refine hfree k ok hk hki ?_ hno
        by_cases hjk : j = k
        · subst hjk; exact hjun
        · rw [getD_set_ne true hjk] at hun; exact hun
      refine wpOp_mono (fun a' w' h3 => ?_) h2
      obtain ⟨hy', h4, h5⟩ := h3
      have hkeep : ∀ p ∈ kept E D pend j, p.2 w' := fun p hp' => h4 p (List.mem_cons_of_mem _ hp')
      refine ⟨hkeep, ih (listed.setIfInBounds j true) (kept E D pend j) a' w' (by simpa using hsz) (hdn.step hok hsz hj) hfree' (ready_mono hr (Ne.symm hji)) hy' (h4 _ (List.mem_cons_self ..)) hkeep ?_⟩
      rw [Array.setIfInBounds_comm _ _ hji]
      exact h5

theorem wpG_addTrue {E : Nat → Bool} {D : Array Nat} {i : Nat} : ∀ (fuel : Nat) (listed : Array Bool) (pend : List (Nat × (World → Prop))) (a : Act) (w : World), wpG P ops Q E D fuel listed pend a w → wpG P ops Q E D fuel listed ((i, fun _ => True) :: pend) a w
  | 0, _, _, _, _, h => h
  | fuel + 1, listed, pend, a, w, h => ⟨h.1, fun j hj => wpOp_mono (fun a' w' h' => by
      rcases kept_tail (E := E) (D := D) (q := (i, fun _ => True)) (pend := pend) (j := j) with e | e
      · rw [e]
        exact ⟨fun q hq => (List.mem_cons.1 hq).elim (fun h => by subst h; trivial) (h'.1 q), wpG_addTrue fuel _ _ a' w' h'.2⟩
      · rw [e]
        exact h') (h.2 j hj)⟩

/-- What has come up, as the bits of a number. -/
def lst (n m : Nat) : Array Bool := (Array.range n).map fun i => m.testBit i

theorem lst_size (n m : Nat) : (lst n m).size = n := by simp [lst]

theorem lst_set (n m i : Nat) : (lst n m).setIfInBounds i true = lst n (m ||| 2 ^ i) := by
  apply Array.ext
  · simp [lst]
  · intro j h1 h2
    have hj : j < n := by simpa [lst] using h2
    have hj' : j < (lst n m).size := by simpa [lst] using hj
    rw [Array.getElem_setIfInBounds hj']
    simp only [lst, Array.getElem_map, Array.getElem_range, Nat.testBit_or, Nat.testBit_two_pow]
    by_cases e : i = j
    · simp [e]
    · simp [e]

theorem lst_zero (n : Nat) : lst n 0 = Array.replicate n false := by
  apply Array.ext
  · simp [lst]
  · intro j h1 h2
    simp [lst]

def Chk : List (Nat × (World → Prop)) → World → Prop
  | [], _ => True
  | p :: r, w => p.2 w ∧ Chk r w

theorem Chk.all {pend : List (Nat × (World → Prop))} {w : World} (h : Chk pend w) : ∀ p ∈ pend, p.2 w := by
  induction pend with
  | nil => intro p hp; cases hp
  | cons q r ih =>
    intro p hp
    rcases List.mem_cons.1 hp with rfl | hp
    · exact h.1
    · exact ih h.2 p hp

/-- Which operations act: the bits of a number. -/
def eb (e : Nat) : Nat → Bool := fun i => e.testBit i

/-- What of a region is fixed: its dependences are its own, and it holds no select. -/
structure Reg (ops : Array Oper) (D : Array Nat) : Prop where
  dep : depOk ops D = true
  sel : Region.noSelect ops = true

def GL (P : Program) (ops : Array Oper) (K : Act → World → Prop) (e : Nat) (D : Array Nat) (fuel m : Nat) (pend : List (Nat × (World → Prop))) (a : Act) (w : World) : Prop :=
  Down D (lst ops.size m) → (∀ p ∈ pend, p.2 w) → wpG P ops (NP K) (eb e) D fuel (lst ops.size m) pend a w

def takeOk (ops : Array Oper) (m i : Nat) : Bool := (Region.ready .any ops (lst ops.size m)).contains i && Region.free .any ops (lst ops.size m) i

variable {K : Act → World → Prop} {e fuel m m' i : Nat} {D : Array Nat} {pend pend' : List (Nat × (World → Prop))} {a : Act} {w : World} {o : Oper}

theorem GL.yields {S : World → Prop} {v : Value} (hS : Reg ops D) (hE : Nat.testBit e i = false) (ho : ops[i]? = some o) (ht : takeOk ops m i = true) (hm : m ||| 2 ^ i = m') (hy : YieldsIf P ops S o v a) (hSw : S w)
    (h : GL P ops K e D fuel m' ((i, S) :: pend) (a.put o.dst v) w) : GL P ops K e D (fuel + 1) m pend a w := by
  intro hdn hp
  simp only [takeOk, Bool.and_eq_true] at ht
  have hr : i ∈ Region.ready .any ops (lst ops.size m) := by simpa using ht.1
  refine wpG_first hS.dep hE ho (Region.noSelect_spec hS.sel) (fun c a w h => h.elim) fuel _ pend a w (lst_size ..) hdn (Region.free_spec ho ht.2) hr hy hSw hp ?_
  have hd := hdn.step hS.dep (lst_size ..) hr
  rw [lst_set, hm] at hd ⊢
  exact h hd fun p hp' => (List.mem_cons.1 hp').elim (fun h => by subst h; exact hSw) (hp p)

theorem GL.yields0 {v : Value} (hS : Reg ops D) (hE : Nat.testBit e i = false) (ho : ops[i]? = some o) (ht : takeOk ops m i = true) (hm : m ||| 2 ^ i = m') (hy : YieldsIf P ops (fun _ => True) o v a)
    (h : GL P ops K e D fuel m' pend (a.put o.dst v) w) : GL P ops K e D (fuel + 1) m pend a w :=
  GL.yields (S := fun _ => True) hS hE ho ht hm hy trivial fun hd hp => wpG_addTrue _ _ _ _ _ (h hd fun p hp' => hp p (List.mem_cons_of_mem _ hp'))

/-- An operation that only looks at the world: its value is to stay. -/
theorem GL.read {n : Nat} {l : List (Nat × Value)} {ds : List Deferred} (hF : Fr n a l ds) (S : World → Prop) {v : Value} {d : Nat} (hS : Reg ops D) (hE : Nat.testBit e i = false) (ho : ops[i]? = some o) (ht : takeOk ops m i = true) (hm : m ||| 2 ^ i = m')
    (hg : o.guard = none) (hd : o.dst = some d) (hn : Nat.blt d n = true) (hSw : S w) (hr : ∀ x, S x → (execOp a.eval o).run P x = .ok (.value v) x)
    (h : ∀ a', Fr n a' ((d, v) :: l) ds → GL P ops K e D fuel m' ((i, S) :: pend) a' w) : GL P ops K e D (fuel + 1) m pend a w :=
  GL.yields hS hE ho ht hm (.inl ⟨by simp [Region.wanted, hg], hr⟩) hSw (by rw [hd]; exact h _ (hF.put d v hn))

theorem GL.gread {n : Nat} {l : List (Nat × Value)} {ds : List Deferred} (hF : Fr n a l ds) (S : World → Prop) {v : Value} {d : Nat} (hS : Reg ops D) (hE : Nat.testBit e i = false) (ho : ops[i]? = some o) (ht : takeOk ops m i = true) (hm : m ||| 2 ^ i = m')
    {j dj : Nat} {b : Bool} (hg : o.guard = some (j, b)) (hj : (ops[j]?).bind (·.dst) = some dj) (hb : lk l dj = some (.bool b)) (hd : o.dst = some d) (hn : Nat.blt d n = true) (hSw : S w) (hr : ∀ x, S x → (execOp a.eval o).run P x = .ok (.value v) x)
    (h : ∀ a', Fr n a' ((d, v) :: l) ds → GL P ops K e D fuel m' ((i, S) :: pend) a' w) : GL P ops K e D (fuel + 1) m pend a w :=
  GL.yields hS hE ho ht hm (.inl ⟨by simp [Region.wanted, hg, yielded, hj, hF.reads dj _ hb], hr⟩) hSw (by rw [hd]; exact h _ (hF.put d v hn))

/-- An operation that only reckons. -/
theorem GL.val {n : Nat} {l : List (Nat × Value)} {ds : List Deferred} (hF : Fr n a l ds) {v : Value} {d : Nat} (hS : Reg ops D) (hE : Nat.testBit e i = false) (ho : ops[i]? = some o) (ht : takeOk ops m i = true) (hm : m ||| 2 ^ i = m')
    (hg : o.guard = none) (hd : o.dst = some d) (hn : Nat.blt d n = true) (hr : ∀ x, (execOp a.eval o).run P x = .ok (.value v) x)
    (h : ∀ a', Fr n a' ((d, v) :: l) ds → GL P ops K e D fuel m' pend a' w) : GL P ops K e D (fuel + 1) m pend a w :=
  GL.yields0 hS hE ho ht hm (.inl ⟨by simp [Region.wanted, hg], fun x _ => hr x⟩) (by rw [hd]; exact h _ (hF.put d v hn))

theorem GL.gval {n : Nat} {l : List (Nat × Value)} {ds : List Deferred} (hF : Fr n a l ds) {v : Value} {d : Nat} (hS : Reg ops D) (hE : Nat.testBit e i = false) (ho : ops[i]? = some o) (ht : takeOk ops m i = true) (hm : m ||| 2 ^ i = m')
    {j dj : Nat} {b : Bool} (hg : o.guard = some (j, b)) (hj : (ops[j]?).bind (·.dst) = some dj) (hb : lk l dj = some (.bool b)) (hd : o.dst = some d) (hn : Nat.blt d n = true) (hr : ∀ x, (execOp a.eval o).run P x = .ok (.value v) x)
    (h : ∀ a', Fr n a' ((d, v) :: l) ds → GL P ops K e D fuel m' pend a' w) : GL P ops K e D (fuel + 1) m pend a w :=
  GL.yields0 hS hE ho ht hm (.inl ⟨by simp [Region.wanted, hg, yielded, hj, hF.reads dj _ hb], fun x _ => hr x⟩) (by rw [hd]; exact h _ (hF.put d v hn))

/-- An operation that its guard lets not. -/
theorem GL.skip {n : Nat} {l : List (Nat × Value)} {ds : List Deferred} (hF : Fr n a l ds) {d : Nat} (hS : Reg ops D) (hE : Nat.testBit e i = false) (ho : ops[i]? = some o) (ht : takeOk ops m i = true) (hm : m ||| 2 ^ i = m')
    {j dj : Nat} {b : Bool} (hg : o.guard = some (j, b)) (hj : (ops[j]?).bind (·.dst) = some dj) {u : Value} (hb : lk l dj = some u) (hu : u = .bool (!b) ∨ u = undef) (hd : o.dst = some d) (hn : Nat.blt d n = true)
    (h : ∀ a', Fr n a' ((d, undef) :: l) ds → GL P ops K e D fuel m' pend a' w) : GL P ops K e D (fuel + 1) m pend a w :=
  GL.yields0 hS hE ho ht hm (.inr ⟨wanted_false hF hg hj hb hu, rfl⟩) (by rw [hd]; exact h _ (hF.put d undef hn))

theorem GL.acts {rs : List Nat} (hS : Reg ops D) (hr : Region.ready .any ops (lst ops.size m) = rs) (hne : rs ≠ [])
    (h : ∀ i ∈ rs, wpOp P ops (NP K) i (fun a' w' => (∀ p ∈ kept (eb e) D pend i, p.2 w') ∧ GL P ops K e D fuel (m ||| 2 ^ i) (kept (eb e) D pend i) a' w') a w) : GL P ops K e D (fuel + 1) m pend a w := by
  intro hdn hp
  refine ⟨fun h0 => absurd (hr ▸ h0) hne, fun j hj => ?_⟩
  refine wpOp_mono (fun a' w' h' => ⟨h'.1, ?_⟩) (h j (hr ▸ hj))
  have hd := hdn.step hS.dep (lst_size ..) hj
  rw [lst_set] at hd ⊢
  exact h'.2 hd h'.1

/-- The one operation that acts and may come up. -/
theorem GL.act (hS : Reg ops D) (hr : Region.ready .any ops (lst ops.size m) = [i]) (hm : m ||| 2 ^ i = m') (hk : kept (eb e) D pend i = pend')
    (h : wpOp P ops (NP K) i (fun a' w' => Chk pend' w' ∧ GL P ops K e D fuel m' pend' a' w') a w) : GL P ops K e D (fuel + 1) m pend a w := by
  refine GL.acts hS hr (by simp) fun j hj => ?_
  obtain rfl : j = i := by simpa using hj
  exact wpOp_mono (fun a' w' h' => ⟨by rw [hk]; exact h'.1.all, by rw [hm, hk]; exact h'.2⟩) h

/-- Either of two. -/
theorem GL.act2 {i1 i2 m1 m2 : Nat} {pend1 pend2 : List (Nat × (World → Prop))} (hS : Reg ops D) (hr : Region.ready .any ops (lst ops.size m) = [i1, i2]) (hm1 : m ||| 2 ^ i1 = m1) (hm2 : m ||| 2 ^ i2 = m2)
    (hk1 : kept (eb e) D pend i1 = pend1) (hk2 : kept (eb e) D pend i2 = pend2)
    (h1 : wpOp P ops (NP K) i1 (fun a' w' => Chk pend1 w' ∧ GL P ops K e D fuel m1 pend1 a' w') a w)
    (h2 : wpOp P ops (NP K) i2 (fun a' w' => Chk pend2 w' ∧ GL P ops K e D fuel m2 pend2 a' w') a w) : GL P ops K e D (fuel + 1) m pend a w := by
  refine GL.acts hS hr (by simp) fun j hj => ?_
  simp only [List.mem_cons, List.not_mem_nil, or_false] at hj
  rcases hj with rfl | rfl
  · exact wpOp_mono (fun a' w' h' => ⟨by rw [hk1]; exact h'.1.all, by rw [hm1, hk1]; exact h'.2⟩) h1
  · exact wpOp_mono (fun a' w' h' => ⟨by rw [hk2]; exact h'.1.all, by rw [hm2, hk2]; exact h'.2⟩) h2

theorem GL.act3 {i1 i2 i3 m1 m2 m3 : Nat} {pend1 pend2 pend3 : List (Nat × (World → Prop))} (hS : Reg ops D) (hr : Region.ready .any ops (lst ops.size m) = [i1, i2, i3]) (hm1 : m ||| 2 ^ i1 = m1) (hm2 : m ||| 2 ^ i2 = m2) (hm3 : m ||| 2 ^ i3 = m3)
    (hk1 : kept (eb e) D pend i1 = pend1) (hk2 : kept (eb e) D pend i2 = pend2) (hk3 : kept (eb e) D pend i3 = pend3)
    (h1 : wpOp P ops (NP K) i1 (fun a' w' => Chk pend1 w' ∧ GL P ops K e D fuel m1 pend1 a' w') a w)
    (h2 : wpOp P ops (NP K) i2 (fun a' w' => Chk pend2 w' ∧ GL P ops K e D fuel m2 pend2 a' w') a w)
    (h3 : wpOp P ops (NP K) i3 (fun a' w' => Chk pend3 w' ∧ GL P ops K e D fuel m3 pend3 a' w') a w) : GL P ops K e D (fuel + 1) m pend a w := by
  refine GL.acts hS hr (by simp) fun j hj => ?_
  simp only [List.mem_cons, List.not_mem_nil, or_false] at hj
  rcases hj with rfl | rfl | rfl
  · exact wpOp_mono (fun a' w' h' => ⟨by rw [hk1]; exact h'.1.all, by rw [hm1, hk1]; exact h'.2⟩) h1
  · exact wpOp_mono (fun a' w' h' => ⟨by rw [hk2]; exact h'.1.all, by rw [hm2, hk2]; exact h'.2⟩) h2
  · exact wpOp_mono (fun a' w' h' => ⟨by rw [hk3]; exact h'.1.all, by rw [hm3, hk3]; exact h'.2⟩) h3

theorem GL.done (hr : Region.ready .any ops (lst ops.size m) = []) (h : K a w) : GL P ops K e D fuel m pend a w := by
  intro _ _
  cases fuel with
  | zero => exact ⟨hr, h⟩
  | succ f => exact ⟨fun _ => h, by rw [hr]; simp⟩

/-! what an acting operation leaves -/

theorem op_val {n : Nat} {l : List (Nat × Value)} {ds : List Deferred} (hF : Fr n a l ds) {v : Value} {d : Nat} {w' : World} {K' : Act → World → Prop} (ho : ops[i]? = some o) (hg : o.guard = none) (hd : o.dst = some d) (hn : Nat.blt d n = true)
    (hr : (execOp a.eval o).run P w = .ok (.value v) w') {C : World → Prop} (hC : C w') (h : ∀ a', Fr n a' ((d, v) :: l) ds → K' a' w') : wpOp P ops (NP K) i (fun a' w' => C w' ∧ K' a' w') a w := by
  unfold wpOp
  simp only [ho]
  rw [if_pos (by simp [Region.wanted, hg])]
  exact .inl (by unfold Oper.wp; rw [hr, Oper.upon_value, hd]; exact ⟨hC, h _ (hF.put d v hn)⟩)

theorem op_unit {n : Nat} {l : List (Nat × Value)} {ds : List Deferred} (hF : Fr n a l ds) {w' : World} {K' : Act → World → Prop} (ho : ops[i]? = some o) (hg : o.guard = none) (hd : o.dst = none)
    (hr : (execOp a.eval o).run P w = .ok .skip w') {C : World → Prop} (hC : C w') (h : ∀ a', Fr n a' l ds → K' a' w') : wpOp P ops (NP K) i (fun a' w' => C w' ∧ K' a' w') a w := by
  unfold wpOp
  simp only [ho]
  rw [if_pos (by simp [Region.wanted, hg])]
  exact .inl (by unfold Oper.wp; rw [hr, Oper.upon_skip, hd]; exact ⟨hC, h _ hF⟩)

theorem op_call {n : Nat} {l : List (Nat × Value)} {ds : List Deferred} (hF : Fr n a l ds) {f : FuncId} {args : Array Value} {d : Nat} {K' : Act → World → Prop} (ho : ops[i]? = some o) (hg : o.guard = none) (hd : o.dst = some d) (hn : Nat.blt d n = true)
    (hr : (execOp a.eval o).run P w = .ok (.enter f args) w) {C : World → Prop}
    (h : CallsV P f args w fun v w' => C w' ∧ ∀ a', Fr n a' ((d, v) :: l) ds → K' a' w') : wpOp P ops (NP K) i (fun a' w' => C w' ∧ K' a' w') a w := by
  unfold wpOp
  simp only [ho]
  rw [if_pos (by simp [Region.wanted, hg])]
  refine .inl ?_
  unfold Oper.wp
  rw [hr, Oper.upon_enter, hd]
  exact Calls.mono h fun e w' he => by
    cases e with
    | returned v => exact ⟨he.1, he.2 _ (hF.put d v hn)⟩
    | panicked c => exact he
    | outgrown => exact he.elim

theorem op_gval {n : Nat} {l : List (Nat × Value)} {ds : List Deferred} (hF : Fr n a l ds) {v : Value} {d : Nat} {w' : World} {K' : Act → World → Prop} (ho : ops[i]? = some o) {j dj : Nat} {b : Bool} (hg : o.guard = some (j, b)) (hj : (ops[j]?).bind (·.dst) = some dj) (hb : lk l dj = some (.bool b)) (hd : o.dst = some d) (hn : Nat.blt d n = true)
    (hr : (execOp a.eval o).run P w = .ok (.value v) w') {C : World → Prop} (hC : C w') (h : ∀ a', Fr n a' ((d, v) :: l) ds → K' a' w') : wpOp P ops (NP K) i (fun a' w' => C w' ∧ K' a' w') a w := by
  unfold wpOp
  simp only [ho]
  rw [if_pos (by simp [Region.wanted, hg, yielded, hj, hF.reads dj _ hb])]
  exact .inl (by unfold Oper.wp; rw [hr, Oper.upon_value, hd]; exact ⟨hC, h _ (hF.put d v hn)⟩)

theorem op_gcall {n : Nat} {l : List (Nat × Value)} {ds : List Deferred} (hF : Fr n a l ds) {f : FuncId} {args : Array Value} {d : Nat} {K' : Act → World → Prop} (ho : ops[i]? = some o) {j dj : Nat} {b : Bool} (hg : o.guard = some (j, b)) (hj : (ops[j]?).bind (·.dst) = some dj) (hb : lk l dj = some (.bool b)) (hd : o.dst = some d) (hn : Nat.blt d n = true)
    (hr : (execOp a.eval o).run P w = .ok (.enter f args) w) {C : World → Prop}
    (h : CallsV P f args w fun v w' => C w' ∧ ∀ a', Fr n a' ((d, v) :: l) ds → K' a' w') : wpOp P ops (NP K) i (fun a' w' => C w' ∧ K' a' w') a w := by
  unfold wpOp
  simp only [ho]
  rw [if_pos (by simp [Region.wanted, hg, yielded, hj, hF.reads dj _ hb])]
  refine .inl ?_
  unfold Oper.wp
  rw [hr, Oper.upon_enter, hd]
  exact Calls.mono h fun e w' he => by
    cases e with
    | returned v => exact ⟨he.1, he.2 _ (hF.put d v hn)⟩
    | panicked c => exact he
    | outgrown => exact he.elim

theorem op_skip {n : Nat} {l : List (Nat × Value)} {ds : List Deferred} (hF : Fr n a l ds) {d : Nat} {K' : Act → World → Prop} (ho : ops[i]? = some o) {j dj : Nat} {b : Bool} (hg : o.guard = some (j, b)) (hj : (ops[j]?).bind (·.dst) = some dj) {u : Value} (hb : lk l dj = some u) (hu : u = .bool (!b) ∨ u = undef) (hd : o.dst = some d) (hn : Nat.blt d n = true)
    {C : World → Prop} (hC : C w) (h : ∀ a', Fr n a' ((d, undef) :: l) ds → K' a' w) : wpOp P ops (NP K) i (fun a' w' => C w' ∧ K' a' w') a w := by
  unfold wpOp
  simp only [ho]
  rw [if_neg (by rw [wanted_false hF hg hj hb hu]; simp)]
  rw [hd]
  exact ⟨hC, h _ (hF.put d undef hn)⟩

theorem Chk.of {pend : List (Nat × (World → Prop))} {w : World} (h : ∀ p ∈ pend, p.2 w) : Chk pend w := by
  induction pend with
  | nil => trivial
  | cons q r ih => exact ⟨h q (List.mem_cons_self ..), ih fun p hp => h p (List.mem_cons_of_mem _ hp)⟩

/-- An operation that would act, and its guard lets it not. -/
theorem GL.actSkip {n : Nat} {l : List (Nat × Value)} {ds : List Deferred} (hF : Fr n a l ds) {d : Nat} (hS : Reg ops D) (hr : Region.ready .any ops (lst ops.size m) = [i]) (hm : m ||| 2 ^ i = m') (hk : kept (eb e) D pend i = pend')
    (ho : ops[i]? = some o) {j dj : Nat} {b : Bool} (hg : o.guard = some (j, b)) (hj : (ops[j]?).bind (·.dst) = some dj) {u : Value} (hb : lk l dj = some u) (hu : u = .bool (!b) ∨ u = undef) (hd : o.dst = some d) (hn : Nat.blt d n = true)
    (h : ∀ a', Fr n a' ((d, undef) :: l) ds → GL P ops K e D fuel m' pend' a' w) : GL P ops K e D (fuel + 1) m pend a w := fun hdn hp =>
  GL.act hS hr hm hk (op_skip hF ho hg hj hb hu hd hn (C := fun w => Chk pend' w) (Chk.of fun p hp' => hp p (kept_sub (hk ▸ hp'))) h) hdn hp
end

section
variable {P : Program} {ops : Array Oper} {K : Act → World → Prop} {Q : Exit → Act → World → Prop} {a : Act} {w : World} {o : Oper} {y : Code}

theorem Down.zero (D : Array Nat) (n : Nat) : Down D (lst n 0) := by
  intro k i hi hk _
  rw [lst_zero] at hk
  simp only [Array.getD_eq_getD_getElem?, Array.getElem?_replicate] at hk
  split at hk <;> simp at hk

/-- A region that draws its order, and what follows: it begins behind the draw. -/
theorem seq_draw {id : Nat} {l : List Oper} (e : Nat) (D : Array Nat) (fuel : Nat) (hm : P.follows .mixedOrders = true) (hf : l.toArray.size = fuel) (hdep : depOk l.toArray D = true) (hsel : Region.noSelect l.toArray = true)
    (h : Reg l.toArray D → ∀ K : Act → World → Prop, (∀ a w, y.wp P Q a w → K a w) → GL P l.toArray K e D fuel 0 [] a w.drew) : (Code.seq (Code.region id l.toArray true) y).wp P Q a w :=
  wp_seq_k fun K hK => region_noPanic (wp_region_any hm (by rw [hf, ← hf, ← lst_zero]; exact wpAny_of_G _ _ _ _ _ (by rw [hf]; have := h ⟨hdep, hsel⟩ K hK (Down.zero D _) (fun _ hp => by cases hp); rw [hf] at this; exact this))) fun _ _ h => h

theorem end_draw {id : Nat} {l : List Oper} (e : Nat) (D : Array Nat) (fuel : Nat) (hm : P.follows .mixedOrders = true) (hf : l.toArray.size = fuel) (hdep : depOk l.toArray D = true) (hsel : Region.noSelect l.toArray = true)
    (h : Reg l.toArray D → ∀ K : Act → World → Prop, (∀ a w, Q .normal a w → K a w) → GL P l.toArray K e D fuel 0 [] a w.drew) : (Code.region id l.toArray true).wp P Q a w :=
  region_noPanic (wp_region_any hm (by rw [hf, ← hf, ← lst_zero]; exact wpAny_of_G _ _ _ _ _ (by rw [hf]; have := h ⟨hdep, hsel⟩ _ (fun _ _ h => h) (Down.zero D _) (fun _ hp => by cases hp); rw [hf] at this; exact this))) fun _ _ h => h
end
end Go.Sh
