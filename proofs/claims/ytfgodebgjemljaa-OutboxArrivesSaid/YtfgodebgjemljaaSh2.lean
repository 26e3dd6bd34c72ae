/-
  What each operation comes to, over frames that are told by what is read of them.
-/
import Derived.Test.YtfgodebgjemljaaSh
import Derived.Laws.Sem
import Derived.Laws.Cells
namespace Go.Sh
set_option linter.unusedVariables false
set_option linter.unusedSimpArgs false

structure Slc where
  a : Option Addr
  len : Nat
  cap : Nat

@[reducible] def Slc.v (s : Slc) : Value := .slice s.a s.len s.cap

/-- The cells of an aggregate that lies at an address. -/
def CellsAt (w : World) (a : Addr) (m : Nat) (cs : Array Value) : Prop := cs.size = m ∧ ∀ i, i < m → w.cell? (a.add i) = cs[i]?

/-- Several cells written. -/
def World.puts (w : World) (a : Addr) : List Value → Nat → World
  | [], _ => w
  | v :: r, i => World.puts (w.setCell (a.add i) v) a r (i + 1)

def Writable (w : World) (a : Addr) (m : Nat) : Prop := ∀ i, i < m → (∃ u, w.cell? (a.add i) = some u) ∧ w.frozen? (a.add i) = false

def bitsZ (op : BinOp) (k : IntKind) (x y : Int) : Int :=
  let a := BitVec.ofInt k.bits x
  let b := BitVec.ofInt k.bits y
  match op with
  | .and => k.wrap (a &&& b).toNat
  | .or => k.wrap (a ||| b).toNat
  | .xor => k.wrap (a ^^^ b).toNat
  | .andNot => k.wrap (a &&& ~~~b).toNat
  | _ => 0

section
variable {P : Program} {w : World} {n : Nat} {a : Act} {l : List (Nat × Value)} {ds : List Deferred} {o : Oper}

theorem run_pure' {α : Type} (x : α) : (pure x : Sem α).run P w = .ok x w := rfl

theorem r_move {x : Operand} {v : Value} (hF : Fr n a l ds) (hop : o.op = .move x) (hx : look l x = some v) : (execOp a.eval o).run P w = .ok (.value v) w := by
  simp only [execOp, hop, hF.eval hx]; rfl
theorem r_assign {x : Operand} {v : Value} (hF : Fr n a l ds) (hop : o.op = .assign x) (hx : look l x = some v) : (execOp a.eval o).run P w = .ok (.value v) w := by
  simp only [execOp, hop, hF.eval hx]; rfl

theorem pick_t {b x y : Bool} (h : b = true) : Value.bool x = Value.bool (cond b x y) := by subst h; rfl
theorem pick_f {b x y : Bool} (h : b = false) : Value.bool y = Value.bool (cond b x y) := by subst h; rfl
theorem r_pick {c x y : Operand} {b : Bool} {u v t : Value} (hF : Fr n a l ds) (hop : o.op = .pick c x y) (hc : look l c = some (.bool b)) (hx : look l x = some u) (hy : look l y = some v) (h1 : b = true → u = t) (h2 : b = false → v = t) :
    (execOp a.eval o).run P w = .ok (.value t) w := by
  simp only [execOp, hop, hF.eval hx, hF.eval hy, hF.eval hc]
  cases b
  · rw [← h2 rfl]; rfl
  · rw [← h1 rfl]; rfl

theorem r_not {x : Operand} {t : TypeId} {b : Bool} (hF : Fr n a l ds) (hop : o.op = .unOp .not t x) (hx : look l x = some (.bool b)) : (execOp a.eval o).run P w = .ok (.value (.bool !b)) w := by
  simp only [execOp, hop, hF.eval hx]; rfl
theorem r_neg {x : Operand} {t : TypeId} {k : IntKind} {m : Int} (hF : Fr n a l ds) (hop : o.op = .unOp .neg t x) (hx : look l x = some (.int k m)) : (execOp a.eval o).run P w = .ok (.value (.int k (k.wrap (0 - m)))) w := by
  simp only [execOp, hop, hF.eval hx]; rfl

theorem guard_int {op : BinOp} {t : TypeId} {x y : Operand} {k k' : IntKind} {m m' : Int} : (eqGuard op t x y (.int k m) (.int k' m')).run P w = .ok () w := by
  cases op <;> rfl

theorem r_binInt {op : BinOp} {t t' : TypeId} {x y : Operand} {k k' : IntKind} {m m' : Int} {v : Value} (hF : Fr n a l ds) (hop : o.op = .binOp op t x y t') (hx : look l x = some (.int k m)) (hy : look l y = some (.int k' m'))
    (h : (binOp op t (.int k m) (.int k' m')).run P w = .ok v w) : (execOp a.eval o).run P w = .ok (.value v) w := by
  simp only [execOp, hop, hF.eval hx, hF.eval hy]
  simp [guard_int, h]

theorem r_add {t t' : TypeId} {x y : Operand} {k : IntKind} {m m' : Int} (hF : Fr n a l ds) (hop : o.op = .binOp .add t x y t') (hx : look l x = some (.int k m)) (hy : look l y = some (.int k m')) :
    (execOp a.eval o).run P w = .ok (.value (.int k (k.wrap (m + m')))) w := r_binInt hF hop hx hy (by simp [binOp, Op.intArith])
theorem r_sub {t t' : TypeId} {x y : Operand} {k : IntKind} {m m' : Int} (hF : Fr n a l ds) (hop : o.op = .binOp .sub t x y t') (hx : look l x = some (.int k m)) (hy : look l y = some (.int k m')) :
    (execOp a.eval o).run P w = .ok (.value (.int k (k.wrap (m - m')))) w := r_binInt hF hop hx hy (by simp [binOp, Op.intArith])
theorem r_mul {t t' : TypeId} {x y : Operand} {k : IntKind} {m m' : Int} (hF : Fr n a l ds) (hop : o.op = .binOp .mul t x y t') (hx : look l x = some (.int k m)) (hy : look l y = some (.int k m')) :
    (execOp a.eval o).run P w = .ok (.value (.int k (k.wrap (m * m')))) w := r_binInt hF hop hx hy (by simp [binOp, Op.intArith])
theorem r_quo {t t' : TypeId} {x y : Operand} {k : IntKind} {m m' : Int} (hF : Fr n a l ds) (hop : o.op = .binOp .quo t x y t') (hx : look l x = some (.int k m)) (hy : look l y = some (.int k m')) (h : m' ≠ 0) :
    (execOp a.eval o).run P w = .ok (.value (.int k (k.wrap (m.tdiv m')))) w := r_binInt hF hop hx hy (by simp [binOp, Op.intDiv, h])
theorem r_rem {t t' : TypeId} {x y : Operand} {k : IntKind} {m m' : Int} (hF : Fr n a l ds) (hop : o.op = .binOp .rem t x y t') (hx : look l x = some (.int k m)) (hy : look l y = some (.int k m')) (h : m' ≠ 0) :
    (execOp a.eval o).run P w = .ok (.value (.int k (m.tmod m'))) w := r_binInt hF hop hx hy (by simp [binOp, Op.intDiv, h])
theorem r_and {t t' : TypeId} {x y : Operand} {k : IntKind} {m m' : Int} (hF : Fr n a l ds) (hop : o.op = .binOp .and t x y t') (hx : look l x = some (.int k m)) (hy : look l y = some (.int k m')) :
    (execOp a.eval o).run P w = .ok (.value (.int k (bitsZ .and k m m'))) w := r_binInt hF hop hx hy (by simp [binOp, Op.intBits, bitsZ])
theorem r_or {t t' : TypeId} {x y : Operand} {k : IntKind} {m m' : Int} (hF : Fr n a l ds) (hop : o.op = .binOp .or t x y t') (hx : look l x = some (.int k m)) (hy : look l y = some (.int k m')) :
    (execOp a.eval o).run P w = .ok (.value (.int k (bitsZ .or k m m'))) w := r_binInt hF hop hx hy (by simp [binOp, Op.intBits, bitsZ])
theorem r_xor {t t' : TypeId} {x y : Operand} {k : IntKind} {m m' : Int} (hF : Fr n a l ds) (hop : o.op = .binOp .xor t x y t') (hx : look l x = some (.int k m)) (hy : look l y = some (.int k m')) :
    (execOp a.eval o).run P w = .ok (.value (.int k (bitsZ .xor k m m'))) w := r_binInt hF hop hx hy (by simp [binOp, Op.intBits, bitsZ])
theorem r_andNot {t t' : TypeId} {x y : Operand} {k : IntKind} {m m' : Int} (hF : Fr n a l ds) (hop : o.op = .binOp .andNot t x y t') (hx : look l x = some (.int k m)) (hy : look l y = some (.int k m')) :
    (execOp a.eval o).run P w = .ok (.value (.int k (bitsZ .andNot k m m'))) w := r_binInt hF hop hx hy (by simp [binOp, Op.intBits, bitsZ])
def shlZ (k : IntKind) (m m' : Int) : Int := k.wrap (m * 2 ^ (min m'.toNat k.bits))
def shrZ (k : IntKind) (m m' : Int) : Int := m.fdiv (2 ^ (min m'.toNat k.bits))
theorem r_shl {t t' : TypeId} {x y : Operand} {k k' : IntKind} {m m' : Int} (hF : Fr n a l ds) (hop : o.op = .binOp .shl t x y t') (hx : look l x = some (.int k m)) (hy : look l y = some (.int k' m')) (h : 0 ≤ m') :
    (execOp a.eval o).run P w = .ok (.value (.int k (shlZ k m m'))) w := r_binInt hF hop hx hy (by simp [binOp, Op.shift, Int.not_lt.2 h, shlZ])
theorem r_shr {t t' : TypeId} {x y : Operand} {k k' : IntKind} {m m' : Int} (hF : Fr n a l ds) (hop : o.op = .binOp .shr t x y t') (hx : look l x = some (.int k m)) (hy : look l y = some (.int k' m')) (h : 0 ≤ m') :
    (execOp a.eval o).run P w = .ok (.value (.int k (shrZ k m m'))) w := r_binInt hF hop hx hy (by simp [binOp, Op.shift, Int.not_lt.2 h, shrZ])
theorem r_eql {t t' : TypeId} {x y : Operand} {k : IntKind} {m m' : Int} (hF : Fr n a l ds) (hop : o.op = .binOp .eql t x y t') (hx : look l x = some (.int k m)) (hy : look l y = some (.int k m')) :
    (execOp a.eval o).run P w = .ok (.value (.bool (m == m'))) w := r_binInt hF hop hx hy (by simp [binOp, Op.intCmp])
theorem r_neq {t t' : TypeId} {x y : Operand} {k : IntKind} {m m' : Int} (hF : Fr n a l ds) (hop : o.op = .binOp .neq t x y t') (hx : look l x = some (.int k m)) (hy : look l y = some (.int k m')) :
    (execOp a.eval o).run P w = .ok (.value (.bool (m != m'))) w := r_binInt hF hop hx hy (by simp [binOp, Op.intCmp])
theorem r_lss {t t' : TypeId} {x y : Operand} {k : IntKind} {m m' : Int} (hF : Fr n a l ds) (hop : o.op = .binOp .lss t x y t') (hx : look l x = some (.int k m)) (hy : look l y = some (.int k m')) :
    (execOp a.eval o).run P w = .ok (.value (.bool (decide (m < m')))) w := r_binInt hF hop hx hy (by simp [binOp, Op.intCmp])
theorem r_leq {t t' : TypeId} {x y : Operand} {k : IntKind} {m m' : Int} (hF : Fr n a l ds) (hop : o.op = .binOp .leq t x y t') (hx : look l x = some (.int k m)) (hy : look l y = some (.int k m')) :
    (execOp a.eval o).run P w = .ok (.value (.bool (decide (m ≤ m')))) w := r_binInt hF hop hx hy (by simp [binOp, Op.intCmp])
theorem r_gtr {t t' : TypeId} {x y : Operand} {k : IntKind} {m m' : Int} (hF : Fr n a l ds) (hop : o.op = .binOp .gtr t x y t') (hx : look l x = some (.int k m)) (hy : look l y = some (.int k m')) :
    (execOp a.eval o).run P w = .ok (.value (.bool (decide (m > m')))) w := r_binInt hF hop hx hy (by simp [binOp, Op.intCmp])
theorem r_geq {t t' : TypeId} {x y : Operand} {k : IntKind} {m m' : Int} (hF : Fr n a l ds) (hop : o.op = .binOp .geq t x y t') (hx : look l x = some (.int k m)) (hy : look l y = some (.int k m')) :
    (execOp a.eval o).run P w = .ok (.value (.bool (decide (m ≥ m')))) w := r_binInt hF hop hx hy (by simp [binOp, Op.intCmp])

theorem r_bin {op : BinOp} {t t' : TypeId} {x y : Operand} {u u' v : Value} (hF : Fr n a l ds) (hop : o.op = .binOp op t x y t') (hx : look l x = some u) (hy : look l y = some u')
    (hg : (eqGuard op t x y u u').run P w = .ok () w) (h : (binOp op t u u').run P w = .ok v w) : (execOp a.eval o).run P w = .ok (.value v) w := by
  simp only [execOp, hop, hF.eval hx, hF.eval hy]
  simp [hg, h]

theorem guard_str {op : BinOp} {t : TypeId} {x y : Operand} {s s' : ByteArray} : (eqGuard op t x y (.string s) (.string s')).run P w = .ok () w := by
  cases op <;> rfl
theorem r_streq {t t' : TypeId} {x y : Operand} {s s' : ByteArray} (hF : Fr n a l ds) (hop : o.op = .binOp .eql t x y t') (hx : look l x = some (.string s)) (hy : look l y = some (.string s')) :
    (execOp a.eval o).run P w = .ok (.value (.bool (s.toList == s'.toList))) w := r_bin hF hop hx hy guard_str (by simp [binOp, Op.stringOp])
theorem r_strne {t t' : TypeId} {x y : Operand} {s s' : ByteArray} (hF : Fr n a l ds) (hop : o.op = .binOp .neq t x y t') (hx : look l x = some (.string s)) (hy : look l y = some (.string s')) :
    (execOp a.eval o).run P w = .ok (.value (.bool !(s.toList == s'.toList))) w := r_bin hF hop hx hy guard_str (by simp [binOp, Op.stringOp])
theorem r_stradd {t t' : TypeId} {x y : Operand} {s s' : ByteArray} (hF : Fr n a l ds) (hop : o.op = .binOp .add t x y t') (hx : look l x = some (.string s)) (hy : look l y = some (.string s')) (h : ((s.size + s'.size : Nat) : Int) ≤ IntKind.i64.max) :
    (execOp a.eval o).run P w = .ok (.value (.string (s ++ s'))) w := r_bin hF hop hx hy guard_str (by simp only [binOp, Op.stringOp]; rw [if_neg (by omega)]; rfl)
theorem equal_of {t : TypeId} {x y : Value} {b : Bool} (h : ∀ d, (Op.equalIn (d + 1) t x y).run P w = .ok b w) : (Op.equal t x y).run P w = .ok b w := h 9999
theorem run_pureB {c : Bool} {e : Sem Bool} (h : e.run P w = .ok c w) : (do pure (Value.bool (← e)) : Sem Value).run P w = .ok (.bool c) w := by
  simp [h]
theorem run_pureN {c : Bool} {e : Sem Bool} (h : e.run P w = .ok c w) : (do pure (Value.bool (!(← e))) : Sem Value).run P w = .ok (.bool !c) w := by
  simp [h]
theorem eq_bool {t : TypeId} {b c : Bool} (hu : ∀ w, (underlying t).run P w = .ok .bool w) : (Op.equal t (.bool b) (.bool c)).run P w = .ok (b == c) w :=
  equal_of fun d => by simp [Op.equalIn, hu]
theorem eq_ptr {t e : TypeId} {p : Option Addr} (hu : ∀ w, (underlying t).run P w = .ok (.pointer e) w) : (Op.equal t (.pointer p) (.pointer none)).run P w = .ok p.isNone w :=
  equal_of fun d => by cases p <;> simp [Op.equalIn, hu]
theorem eq_map {t k e : TypeId} {p : Option Nat} (hu : ∀ w, (underlying t).run P w = .ok (.map k e) w) : (Op.equal t (.map p) (.map none)).run P w = .ok p.isNone w :=
  equal_of fun d => by cases p <;> simp [Op.equalIn, hu]
theorem eq_slc {t e : TypeId} {p : Option Addr} {m c : Nat} (hu : ∀ w, (underlying t).run P w = .ok (.slice e) w) : (Op.equal t (.slice p m c) (.slice none 0 0)).run P w = .ok p.isNone w :=
  equal_of fun d => by cases p <;> simp [Op.equalIn, hu]
theorem r_beq {t t' : TypeId} {x y : Operand} {b c : Bool} (hF : Fr n a l ds) (hop : o.op = .binOp .eql t x y t') (hx : look l x = some (.bool b)) (hy : look l y = some (.bool c)) (hu : ∀ w, (underlying t).run P w = .ok .bool w) :
    (execOp a.eval o).run P w = .ok (.value (.bool (b == c))) w := r_bin hF hop hx hy (by rfl) (run_pureB (eq_bool hu))
theorem r_bne {t t' : TypeId} {x y : Operand} {b c : Bool} (hF : Fr n a l ds) (hop : o.op = .binOp .neq t x y t') (hx : look l x = some (.bool b)) (hy : look l y = some (.bool c)) (hu : ∀ w, (underlying t).run P w = .ok .bool w) :
    (execOp a.eval o).run P w = .ok (.value (.bool (b != c))) w := r_bin hF hop hx hy (by rfl) (run_pureN (eq_bool hu))
theorem r_ptrnil {t t' e : TypeId} {x y : Operand} {p : Option Addr} (hF : Fr n a l ds) (hop : o.op = .binOp .eql t x y t') (hx : look l x = some (.pointer p)) (hy : look l y = some (.pointer none)) (hu : ∀ w, (underlying t).run P w = .ok (.pointer e) w) :
    (execOp a.eval o).run P w = .ok (.value (.bool p.isNone)) w := r_bin hF hop hx hy (by rfl) (run_pureB (eq_ptr hu))
theorem r_ptrnnil {t t' e : TypeId} {x y : Operand} {p : Option Addr} (hF : Fr n a l ds) (hop : o.op = .binOp .neq t x y t') (hx : look l x = some (.pointer p)) (hy : look l y = some (.pointer none)) (hu : ∀ w, (underlying t).run P w = .ok (.pointer e) w) :
    (execOp a.eval o).run P w = .ok (.value (.bool !p.isNone)) w := r_bin hF hop hx hy (by rfl) (run_pureN (eq_ptr hu))
theorem r_mapnil {t t' e k : TypeId} {x y : Operand} {p : Option Nat} (hF : Fr n a l ds) (hop : o.op = .binOp .eql t x y t') (hx : look l x = some (.map p)) (hy : look l y = some (.map none)) (hu : ∀ w, (underlying t).run P w = .ok (.map k e) w) :
    (execOp a.eval o).run P w = .ok (.value (.bool p.isNone)) w := r_bin hF hop hx hy (by rfl) (run_pureB (eq_map hu))
theorem r_mapnnil {t t' e k : TypeId} {x y : Operand} {p : Option Nat} (hF : Fr n a l ds) (hop : o.op = .binOp .neq t x y t') (hx : look l x = some (.map p)) (hy : look l y = some (.map none)) (hu : ∀ w, (underlying t).run P w = .ok (.map k e) w) :
    (execOp a.eval o).run P w = .ok (.value (.bool !p.isNone)) w := r_bin hF hop hx hy (by rfl) (run_pureN (eq_map hu))
theorem r_slcnil {t t' e : TypeId} {x y : Operand} {s : Slc} (hF : Fr n a l ds) (hop : o.op = .binOp .eql t x y t') (hx : look l x = some s.v) (hy : look l y = some (.slice none 0 0)) (hu : ∀ w, (underlying t).run P w = .ok (.slice e) w) :
    (execOp a.eval o).run P w = .ok (.value (.bool s.a.isNone)) w := r_bin hF hop hx hy (by rfl) (run_pureB (eq_slc hu))
theorem r_slcnnil {t t' e : TypeId} {x y : Operand} {s : Slc} (hF : Fr n a l ds) (hop : o.op = .binOp .neq t x y t') (hx : look l x = some s.v) (hy : look l y = some (.slice none 0 0)) (hu : ∀ w, (underlying t).run P w = .ok (.slice e) w) :
    (execOp a.eval o).run P w = .ok (.value (.bool !s.a.isNone)) w := r_bin hF hop hx hy (by rfl) (run_pureN (eq_slc hu))
theorem r_aggeq {t t' : TypeId} {x y : Operand} {xs ys : Array Value} {b : Bool} (hF : Fr n a l ds) (hop : o.op = .binOp .eql t x y t') (hx : look l x = some (.agg xs)) (hy : look l y = some (.agg ys))
    (hg : P.eqGuardType P.depth t = false) (h : (Op.equal t (.agg xs) (.agg ys)).run P w = .ok b w) : (execOp a.eval o).run P w = .ok (.value (.bool b)) w :=
  r_bin hF hop hx hy (by simp [eqGuard, program, Sem.run, hg]) (by simp [binOp, h])
theorem r_aggne {t t' : TypeId} {x y : Operand} {xs ys : Array Value} {b : Bool} (hF : Fr n a l ds) (hop : o.op = .binOp .neq t x y t') (hx : look l x = some (.agg xs)) (hy : look l y = some (.agg ys))
    (hg : P.eqGuardType P.depth t = false) (h : (Op.equal t (.agg xs) (.agg ys)).run P w = .ok b w) : (execOp a.eval o).run P w = .ok (.value (.bool !b)) w :=
  r_bin hF hop hx hy (by simp [eqGuard, program, Sem.run, hg]) (by simp [binOp, h])

/-! builtins that only look -/
theorem r_builtin {b : Builtin} {x : Array Operand} {ts : Array TypeId} {xs : List Value} {v : Value} (hF : Fr n a l ds) (hop : o.op = .call { callee := .builtin b, args := x, argTypes := ts }) (hx : x.toList.map (look l) = xs.map some)
    (h : ∀ consts, (builtin b ts o.type consts xs.toArray).run P w = .ok (.value v) w) : (execOp a.eval o).run P w = .ok (.value v) w := by
  have hargs : x.map a.eval = xs.toArray := by
    apply Array.ext'
    have key : ∀ (l1 : List Operand) (l2 : List Value), l1.map (look l) = l2.map some → l1.map a.eval = l2 := by
      intro l1
      induction l1 with
      | nil => intro l2 h; cases l2 <;> simp_all
      | cons p r ih =>
        intro l2 h
        cases l2 with
        | nil => simp at h
        | cons q s =>
          simp only [List.map_cons, List.cons.injEq] at h ⊢
          exact ⟨hF.eval h.1, ih s h.2⟩
    simpa using key _ _ hx
  simp only [execOp, hop, resolve, invoke, hargs]
  simpa using h _
theorem r_len_slice {x : Operand} {t e : TypeId} {s : Slc} (hF : Fr n a l ds) (hop : o.op = .call { callee := .builtin .len, args := #[x], argTypes := #[t] }) (hx : look l x = some s.v) (hu : ∀ w, (underlying t).run P w = .ok (.slice e) w) :
    (execOp a.eval o).run P w = .ok (.value (.int .i64 s.len)) w := r_builtin hF hop (xs := [s.v]) (by simp [hx]) (by intro c; simp [builtin, Builtin.len_, hu, goInt])
theorem r_len_str {x : Operand} {t : TypeId} {s : ByteArray} (hF : Fr n a l ds) (hop : o.op = .call { callee := .builtin .len, args := #[x], argTypes := #[t] }) (hx : look l x = some (.string s)) (hu : ∀ w, (underlying t).run P w = .ok .string w) :
    (execOp a.eval o).run P w = .ok (.value (.int .i64 s.size)) w := r_builtin hF hop (xs := [.string s]) (by simp [hx]) (by intro c; simp [builtin, Builtin.len_, hu, goInt])
theorem r_cap_slice {x : Operand} {t e : TypeId} {s : Slc} (hF : Fr n a l ds) (hop : o.op = .call { callee := .builtin .cap, args := #[x], argTypes := #[t] }) (hx : look l x = some s.v) (hu : ∀ w, (underlying t).run P w = .ok (.slice e) w) :
    (execOp a.eval o).run P w = .ok (.value (.int .i64 s.cap)) w := r_builtin hF hop (xs := [s.v]) (by simp [hx]) (by intro c; simp [builtin, Builtin.cap_, hu, goInt])
theorem r_min {x y : Operand} {t t' : TypeId} {k : IntKind} {m m' : Int} (hF : Fr n a l ds) (hop : o.op = .call { callee := .builtin .min, args := #[x, y], argTypes := #[t, t'] }) (hx : look l x = some (.int k m)) (hy : look l y = some (.int k m')) :
    (execOp a.eval o).run P w = .ok (.value (.int k (if m' < m then m' else m))) w := r_builtin hF hop (xs := [.int k m, .int k m']) (by simp [hx, hy]) (by intro c; simp [builtin, Builtin.min_, Builtin.min2])
theorem r_max {x y : Operand} {t t' : TypeId} {k : IntKind} {m m' : Int} (hF : Fr n a l ds) (hop : o.op = .call { callee := .builtin .max, args := #[x, y], argTypes := #[t, t'] }) (hx : look l x = some (.int k m)) (hy : look l y = some (.int k m')) :
    (execOp a.eval o).run P w = .ok (.value (.int k (if m' > m then m' else m))) w := r_builtin hF hop (xs := [.int k m, .int k m']) (by simp [hx, hy]) (by intro c; simp [builtin, Builtin.max_, Builtin.max2])
/-- a builtin of one or two arguments whose run is known -/
theorem r_bi {b : Builtin} {x : Array Operand} {ts : Array TypeId} {xs : List Value} {v : Value} {w' : World} (hF : Fr n a l ds) (hop : o.op = .call { callee := .builtin b, args := x, argTypes := ts }) (hx : x.toList.map (look l) = xs.map some)
    (h : ∀ consts, (builtin b ts o.type consts xs.toArray).run P w = .ok (.value v) w') : (execOp a.eval o).run P w = .ok (.value v) w' := by
  have hargs : x.map a.eval = xs.toArray := by
    apply Array.ext'
    have key : ∀ (l1 : List Operand) (l2 : List Value), l1.map (look l) = l2.map some → l1.map a.eval = l2 := by
      intro l1
      induction l1 with
      | nil => intro l2 h; cases l2 <;> simp_all
      | cons p r ih =>
        intro l2 h
        cases l2 with
        | nil => simp at h
        | cons q s =>
          simp only [List.map_cons, List.cons.injEq] at h ⊢
          exact ⟨hF.eval h.1, ih s h.2⟩
    simpa using key _ _ hx
  simp only [execOp, hop, resolve, invoke, hargs]
  simpa using h _
theorem r_append {x : Array Operand} {ts : Array TypeId} {xs : List Value} {v : Value} {w' : World} (hF : Fr n a l ds) (hop : o.op = .call { callee := .builtin .append, args := x, argTypes := ts }) (hx : x.toList.map (look l) = xs.map some)
    (h : ∀ t, (Builtin.append_ ts t xs.toArray).run P w = .ok v w') : (execOp a.eval o).run P w = .ok (.value v) w' := r_bi hF hop hx (by intro c; simp [builtin, h])
theorem r_copy {x : Array Operand} {ts : Array TypeId} {xs : List Value} {v : Value} {w' : World} (hF : Fr n a l ds) (hop : o.op = .call { callee := .builtin .copy, args := x, argTypes := ts }) (hx : x.toList.map (look l) = xs.map some)
    (h : ∀ t, (Builtin.copy_ ts t xs.toArray).run P w = .ok v w') : (execOp a.eval o).run P w = .ok (.value v) w' := r_bi hF hop hx (by intro c; simp [builtin, h])
theorem r_clear {x : Array Operand} {ts : Array TypeId} {xs : List Value} {v : Value} {w' : World} (hF : Fr n a l ds) (hop : o.op = .call { callee := .builtin .clear, args := x, argTypes := ts }) (hx : x.toList.map (look l) = xs.map some)
    (h : ∀ t, (Builtin.clear_ ts t xs.toArray).run P w = .ok v w') : (execOp a.eval o).run P w = .ok (.value v) w' := r_bi hF hop hx (by intro c; simp [builtin, h])
theorem r_delete {x : Array Operand} {ts : Array TypeId} {xs : List Value} {v : Value} {w' : World} (hF : Fr n a l ds) (hop : o.op = .call { callee := .builtin .delete, args := x, argTypes := ts }) (hx : x.toList.map (look l) = xs.map some)
    (h : ∀ t, (Builtin.delete_ ts t xs.toArray).run P w = .ok v w') : (execOp a.eval o).run P w = .ok (.value v) w' := r_bi hF hop hx (by intro c; simp [builtin, h])
theorem r_len {x : Array Operand} {ts : Array TypeId} {xs : List Value} {v : Value} {w' : World} (hF : Fr n a l ds) (hop : o.op = .call { callee := .builtin .len, args := x, argTypes := ts }) (hx : x.toList.map (look l) = xs.map some)
    (h : ∀ t, (Builtin.len_ ts t xs.toArray).run P w = .ok v w') : (execOp a.eval o).run P w = .ok (.value v) w' := r_bi hF hop hx (by intro c; simp [builtin, h])

theorem r_extract {x : Operand} {i : Nat} {vs : Array Value} {v : Value} (hF : Fr n a l ds) (hop : o.op = .extract x i) (hx : look l x = some (.tuple vs)) (hi : vs[i]? = some v) : (execOp a.eval o).run P w = .ok (.value v) w := by
  simp only [execOp, hop, hF.eval hx]
  simp [Instr.extract, hi]

/-! addresses -/
theorem r_nilCheck {x : Operand} {p : Addr} (hF : Fr n a l ds) (hop : o.op = .nilCheck x) (hx : look l x = some (.pointer (some p))) : (execOp a.eval o).run P w = .ok (.value (.pointer (some p))) w := by
  simp only [execOp, hop, hF.eval hx]; rfl
theorem r_nilCheckF {x : Operand} {f : FuncId} {fi ca : Array Value} (hF : Fr n a l ds) (hop : o.op = .nilCheck x) (hx : look l x = some (.func (.func f) fi ca)) : (execOp a.eval o).run P w = .ok (.value (.func (.func f) fi ca)) w := by
  simp only [execOp, hop, hF.eval hx]; rfl
theorem r_nilCheckI {x : Operand} {t : TypeId} {v : Value} (hF : Fr n a l ds) (hop : o.op = .nilCheck x) (hx : look l x = some (.iface t v)) : (execOp a.eval o).run P w = .ok (.value (.iface t v)) w := by
  simp only [execOp, hop, hF.eval hx]; rfl

theorem r_fieldAddr {x : Operand} {s : TypeId} {f off m : Nat} {fields : Array Field} {fl : Field} {p : Addr} (hF : Fr n a l ds) (hop : o.op = .fieldAddr s x f) (hx : look l x = some (.pointer (some p)))
    (hu : ∀ w, (underlying s).run P w = .ok (.struct fields) w) (hf : fields[f]? = some fl) (hz : ∀ w, (sizeOf fl.type).run P w = .ok (m + 1) w) (ho : fl.offset = off) :
    (execOp a.eval o).run P w = .ok (.value (.pointer (some (p.add off)))) w := by
  simp only [execOp, hop, hF.eval hx]
  simp [Instr.fieldAt, hu, hf, Instr.sureAddr, fieldPlace, hz, ho]

theorem r_fieldAddr0 {x : Operand} {s : TypeId} {f m : Nat} {fields : Array Field} {fl : Field} {p : Addr} (hF : Fr n a l ds) (hop : o.op = .fieldAddr s x f) (hx : look l x = some (.pointer (some p)))
    (hu : ∀ w, (underlying s).run P w = .ok (.struct fields) w) (hf : fields[f]? = some fl) (hz : ∀ w, (sizeOf fl.type).run P w = .ok (m + 1) w) (ho : fl.offset = 0) :
    (execOp a.eval o).run P w = .ok (.value (.pointer (some p))) w := r_fieldAddr hF hop hx hu hf hz ho

theorem r_indexAddr {x ix : Operand} {t e : TypeId} {sz len cap : Nat} {k : IntKind} {i : Int} {p : Addr} (hF : Fr n a l ds) (hop : o.op = .indexAddr t x ix) (hx : look l x = some (.slice (some p) len cap)) (hi : look l ix = some (.int k i))
    (hu : ∀ w, (underlying t).run P w = .ok (.slice e) w) (hz : ∀ w, (sizeOf e).run P w = .ok sz w) (h0 : 0 ≤ i) (h1 : i < len) :
    (execOp a.eval o).run P w = .ok (.value (.pointer (some (p.add (i.toNat * sz))))) w := by
  simp only [execOp, hop, hF.eval hx, hF.eval hi]
  simp [Instr.indexAt, hu, asIntOf, hz, h0, h1]

theorem r_indexAddrA {x ix : Operand} {t e : TypeId} {sz len : Nat} {k : IntKind} {i : Int} {p : Addr} (hF : Fr n a l ds) (hop : o.op = .indexAddr t x ix) (hx : look l x = some (.pointer (some p))) (hi : look l ix = some (.int k i))
    (hu : ∀ w, (underlying t).run P w = .ok (.array len e) w) (hz : ∀ w, (sizeOf e).run P w = .ok sz w) (h0 : 0 ≤ i) (h1 : i < len) :
    (execOp a.eval o).run P w = .ok (.value (.pointer (some (p.add (i.toNat * sz))))) w := by
  simp only [execOp, hop, hF.eval hx, hF.eval hi]
  simp [Instr.indexAt, hu, asIntOf, hz, h0, h1, Instr.sureAddr]

/-! memory -/
theorem r_load {x : Operand} {t : TypeId} {p : Addr} {v : Value} (hF : Fr n a l ds) (hop : o.op = .load t x) (hx : look l x = some (.pointer (some p))) (ha : ∀ w, (isAgg t).run P w = .ok false w) (hc : w.cell? p = some v) :
    (execOp a.eval o).run P w = .ok (.value v) w := by
  simp only [execOp, hop, hF.eval hx]
  simp [Instr.loadAt, Instr.sureAddr, loadVar, ha, load, Sem.run, hc]

theorem run_cells {p : Addr} {m : Nat} {cs : Array Value} (h : CellsAt w p m cs) : (loadCells p m).run P w = .ok cs w := by
  have := Go.run_loadCells_list (P := P) w p cs.toList (fun j v hj => by
    have hj' : j < m := by
      have := (List.getElem?_eq_some_iff.1 hj).1
      simpa [h.1] using this
    rw [h.2 j hj']
    simpa using hj)
  have hl : cs.toList.length = m := by simp [h.1]
  rw [hl] at this
  simpa using this

theorem r_loadA {x : Operand} {t : TypeId} {m : Nat} {p : Addr} {cs : Array Value} (hF : Fr n a l ds) (hop : o.op = .load t x) (hx : look l x = some (.pointer (some p))) (ha : ∀ w, (isAgg t).run P w = .ok true w) (hz : ∀ w, (sizeOf t).run P w = .ok m w) (hc : CellsAt w p m cs) :
    (execOp a.eval o).run P w = .ok (.value (.agg cs)) w := by
  simp only [execOp, hop, hF.eval hx]
  simp [Instr.loadAt, Instr.sureAddr, loadVar, ha, hz, run_cells hc]

def one (v : Value) : Bool := match v with | .agg _ => false | .tuple _ => false | _ => true

theorem run_store1 {p : Addr} {v u : Value} (hv : one v = true) (hc : w.cell? p = some u) (hf : w.frozen? p = false) : (store p v).run P w = .ok () (w.setCell p v) := by
  cases v <;> first | (simp [one] at hv; done) | simp [store, Sem.run, hc, hf]

theorem cells_one {v : Value} (hv : one v = true) : v.cells = #[v] := by cases v <;> first | rfl | (simp [one] at hv; done)

theorem r_store {x y : Operand} {t : TypeId} {p : Addr} {v u : Value} (hF : Fr n a l ds) (hop : o.op = .store t x y) (hx : look l x = some (.pointer (some p))) (hy : look l y = some v) (hv : one v = true) (hz : ∀ w, (sizeOf t).run P w = .ok 1 w) (hc : w.cell? p = some u) (hf : w.frozen? p = false) :
    (execOp a.eval o).run P w = .ok .skip (w.setCell p v) := by
  have h0 : p.add 0 = p := rfl
  simp only [execOp, hop, hF.eval hx, hF.eval hy]
  simp [Instr.storeAt, Instr.sureAddr, storeVar, cells_one hv, hz, storeCells, h0, run_store1 hv hc hf]

theorem add_ne {p : Addr} {i j : Nat} (h : p.spot = none) (hne : i ≠ j) : p.add i ≠ p.add j := by
  obtain ⟨b, f, s⟩ := p
  simp only at h
  subst h
  unfold Addr.add
  intro e
  split at e <;> split at e <;> simp at e <;> omega

theorem spot_of_cell {p : Addr} {u : Value} (h : w.cell? p = some u) : p.spot = none := by
  unfold World.cell? at h
  split at h
  · cases hs : p.spot with
    | none => rfl
    | some x => simp [hs] at h
  · simp at h

theorem run_storeCells {p : Addr} : ∀ (vs : List Value) (i : Nat) (w : World), (∀ v ∈ vs, one v = true) → (∀ j, j < vs.length → (∃ u, w.cell? (p.add (i + j)) = some u) ∧ w.frozen? (p.add (i + j)) = false) → (i = 0 → vs = [] ∨ p.spot = none) →
    (storeCells p vs i).run P w = .ok () (World.puts w p vs i) := by
  intro vs
  induction vs with
  | nil => intro i w _ _ _; rfl
  | cons v r ih =>
    intro i w hv hc hs
    obtain ⟨⟨u, h1⟩, h2⟩ := hc 0 (by simp)
    rw [Nat.add_zero] at h1 h2
    have hsp : i = 0 → p.spot = none := fun h => (hs h).resolve_left (by simp)
    simp only [storeCells, Sem.run_bind, run_store1 (hv v (by simp)) h1 h2, Result.andThen_ok, World.puts]
    refine ih (i + 1) _ (fun x hx => hv x (by simp [hx])) (fun j hj => ?_) (fun h => by omega)
    obtain ⟨⟨u', h3⟩, h4⟩ := hc (j + 1) (by simpa using hj)
    rw [show i + (j + 1) = i + 1 + j by omega] at h3 h4
    have hne : p.add i ≠ p.add (i + 1 + j) := by
      by_cases hp : p.spot = none
      · exact add_ne hp (by omega)
      · have hi : i ≠ 0 := fun h => hp (hsp h)
        unfold Addr.add
        rw [if_neg hi, if_neg (by omega)]
        intro e
        simp at e
        omega
    exact ⟨⟨u', by rw [World.cell?_setCell_other _ _ _ _ hne]; exact h3⟩, by rw [World.frozen?_setCell]; exact h4⟩

theorem r_storeA {x y : Operand} {t : TypeId} {m : Nat} {p : Addr} {cs : Array Value} (hF : Fr n a l ds) (hop : o.op = .store t x y) (hx : look l x = some (.pointer (some p))) (hy : look l y = some (.agg cs)) (hz : ∀ w, (sizeOf t).run P w = .ok m w)
    (hs : cs.size = m) (hv : ∀ v ∈ cs.toList, one v = true) (hw : Writable w p m) : (execOp a.eval o).run P w = .ok .skip (World.puts w p cs.toList 0) := by
  simp only [execOp, hop, hF.eval hx, hF.eval hy]
  have hsp : cs.toList = [] ∨ p.spot = none := by
    rcases Nat.eq_zero_or_pos m with h | h
    · exact .inl (List.eq_nil_of_length_eq_zero (by simp [hs, h]))
    · obtain ⟨⟨u, h1⟩, _⟩ := hw 0 h
      exact .inr (spot_of_cell h1)
  have := run_storeCells (P := P) (p := p) cs.toList 0 w hv (fun j hj => by
    have hj' : j < m := by simpa [hs] using hj
    rw [Nat.zero_add]; exact hw j hj') (fun _ => hsp)
  simp [Instr.storeAt, Instr.sureAddr, storeVar, Value.cells, hz, hs, this]

theorem r_alloc {t : TypeId} {z : Value} {cs : Array Value} (hop : o.op = .alloc t) (hz : ∀ w, (zeroValue t).run P w = .ok z w) (hc : z.cells = cs) :
    (execOp a.eval o).run P w = .ok (.value (.pointer (some ⟨w.heap.size, 0, none⟩))) (w.alloc (.cells cs t)) := by
  simp only [execOp, hop]
  simp [Instr.alloc, hz, newVar, newRow, newObj, Sem.run, hc]

theorem r_box {x : Operand} {t : TypeId} {v : Value} {cs : Array Value} (hF : Fr n a l ds) (hop : o.op = .box t x) (hx : look l x = some v) (hc : v.cells = cs) :
    (execOp a.eval o).run P w = .ok (.value (.pointer (some ⟨w.heap.size, 0, none⟩))) (w.alloc (.cells cs t)) := by
  simp only [execOp, hop, hF.eval hx]
  simp [Instr.box, newVar, newRow, newObj, Sem.run, hc]

theorem map_parts {ps : Array (Nat × Operand)} {xs : List (Nat × Value)} (hF : Fr n a l ds) (h : ps.toList.map (fun p => (p.1, look l p.2)) = xs.map (fun p => (p.1, some p.2))) : (ps.map fun (i, x) => (i, a.eval x)) = xs.toArray := by
  apply Array.ext'
  have key : ∀ (l1 : List (Nat × Operand)) (l2 : List (Nat × Value)), l1.map (fun p => (p.1, look l p.2)) = l2.map (fun p => (p.1, some p.2)) → l1.map (fun (i, x) => (i, a.eval x)) = l2 := by
    intro l1
    induction l1 with
    | nil => intro l2 h; cases l2 <;> simp_all
    | cons p r ih =>
      intro l2 h
      cases l2 with
      | nil => simp at h
      | cons q s =>
        simp only [List.map_cons, List.cons.injEq, Prod.mk.injEq] at h ⊢
        obtain ⟨⟨h1, h2⟩, h3⟩ := h
        refine ⟨?_, ih s h3⟩
        obtain ⟨i, x⟩ := p
        obtain ⟨j, v⟩ := q
        simp only at h1 h2 ⊢
        rw [h1, hF.eval h2]
  simpa using key _ _ h

theorem map_ops {ps : Array Operand} {xs : List Value} (hF : Fr n a l ds) (h : ps.toList.map (look l) = xs.map some) : ps.map a.eval = xs.toArray := by
  apply Array.ext'
  have key : ∀ (l1 : List Operand) (l2 : List Value), l1.map (look l) = l2.map some → l1.map a.eval = l2 := by
    intro l1
    induction l1 with
    | nil => intro l2 h; cases l2 <;> simp_all
    | cons p r ih =>
      intro l2 h
      cases l2 with
      | nil => simp at h
      | cons q s =>
        simp only [List.map_cons, List.cons.injEq] at h ⊢
        exact ⟨hF.eval h.1, ih s h.2⟩
  simpa using key _ _ h

theorem r_build {t : TypeId} {ps : Array (Nat × Operand)} {xs : List (Nat × Value)} {v : Value} (hF : Fr n a l ds) (hop : o.op = .build t ps) (hx : ps.toList.map (fun p => (p.1, look l p.2)) = xs.map (fun p => (p.1, some p.2)))
    (h : (Instr.build t xs.toArray).run P w = .ok v w) : (execOp a.eval o).run P w = .ok (.value v) w := by
  have e := map_parts hF hx
  simp only [execOp, hop, e]
  simp [h]

theorem r_buildSlice {t : TypeId} {ps : Array (Nat × Operand)} {xs : List (Nat × Value)} {v : Value} {m : Nat} {w' : World} (hF : Fr n a l ds) (hop : o.op = .buildSlice t m ps) (hx : ps.toList.map (fun p => (p.1, look l p.2)) = xs.map (fun p => (p.1, some p.2)))
    (h : (Instr.buildSlice t m xs.toArray).run P w = .ok v w') : (execOp a.eval o).run P w = .ok (.value v) w' := by
  have e := map_parts hF hx
  simp only [execOp, hop, e]
  simp [h]

theorem r_makeMap {t : TypeId} (hop : o.op = .makeMap t none) : (execOp a.eval o).run P w = .ok (.value (.map (some w.heap.size))) (w.alloc (.map #[] 0)) := by
  simp only [execOp, hop]
  simp [Instr.makeMap, newObj, Sem.run]

theorem r_makeSlice {x y : Operand} {t : TypeId} {k k' : IntKind} {i j : Int} {v : Value} {w' : World} (hF : Fr n a l ds) (hop : o.op = .makeSlice t x y) (hx : look l x = some (.int k i)) (hy : look l y = some (.int k' j))
    (h : (Instr.makeSlice t (.int k i) (.int k' j)).run P w = .ok v w') : (execOp a.eval o).run P w = .ok (.value v) w' := by
  simp only [execOp, hop, hF.eval hx, hF.eval hy]
  simp [h]

theorem r_makeFunc {fn : Fn} {fi ca : Array Operand} {xs ys : List Value} (hF : Fr n a l ds) (hop : o.op = .makeFunc fn fi ca) (hx : fi.toList.map (look l) = xs.map some) (hy : ca.toList.map (look l) = ys.map some) :
    (execOp a.eval o).run P w = .ok (.value (.func fn xs.toArray ys.toArray)) w := by
  have e1 := map_ops hF hx
  have e2 := map_ops hF hy
  simp only [execOp, hop, e1, e2]
  rfl

theorem r_makeInterface {x : Operand} {t : TypeId} {v v' : Value} (hF : Fr n a l ds) (hop : o.op = .makeInterface t x) (hx : look l x = some v) (h : (Instr.makeInterface t v).run P w = .ok v' w) : (execOp a.eval o).run P w = .ok (.value v') w := by
  simp only [execOp, hop, hF.eval hx]
  simp [h]

theorem r_convInt {x : Operand} {s d : TypeId} {k k' : IntKind} {sd : TypeDesc} {m : Int} (hF : Fr n a l ds) (hop : o.op = .convert s d x) (hx : look l x = some (.int k m)) (hs : ∀ w, (underlying s).run P w = .ok sd w) (hd : ∀ w, (underlying d).run P w = .ok (.int k') w) :
    (execOp a.eval o).run P w = .ok (.value (.int k' (k'.wrap m))) w := by
  simp only [execOp, hop, hF.eval hx]
  simp [convert, hs, hd, Conv.intToInt]

theorem r_convStr {x : Operand} {s d : TypeId} {st : ByteArray} {sd : TypeDesc} (hF : Fr n a l ds) (hop : o.op = .convert s d x) (hx : look l x = some (.string st)) (hs : ∀ w, (underlying s).run P w = .ok sd w) (hd : ∀ w, (underlying d).run P w = .ok .string w) :
    (execOp a.eval o).run P w = .ok (.value (.string st)) w := by
  simp only [execOp, hop, hF.eval hx]
  cases sd <;> simp [convert, hs, hd]

theorem r_conv {x : Operand} {s d : TypeId} {u v : Value} {w' : World} (hF : Fr n a l ds) (hop : o.op = .convert s d x) (hx : look l x = some u) (h : (convert s d u).run P w = .ok v w') :
    (execOp a.eval o).run P w = .ok (.value v) w' := by
  simp only [execOp, hop, hF.eval hx]
  simp [h]

theorem r_s2ap {x : Operand} {t e : TypeId} {m : Nat} {s : Slc} (hF : Fr n a l ds) (hop : o.op = .sliceToArrayPointer t x) (hx : look l x = some s.v) (hu : ∀ w, (underlying t).run P w = .ok (.array m e) w) (h : m ≤ s.len) :
    (execOp a.eval o).run P w = .ok (.value (.pointer s.a)) w := by
  simp only [execOp, hop, hF.eval hx]
  simp [Instr.arrayAt, hu, Nat.not_lt.2 h]

theorem r_field {x : Operand} {t u : TypeId} {f : Nat} {fields : Array Field} {fl : Field} {cs : Array Value} {v : Value} (hF : Fr n a l ds) (hop : o.op = .field t x f) (hx : look l x = some (.agg cs)) (hu : ∀ w, (underlying t).run P w = .ok (.struct fields) w)
    (hf : fields[f]? = some fl) (h : (part fl.type cs fl.offset).run P w = .ok v w) : (execOp a.eval o).run P w = .ok (.value v) w := by
  simp only [execOp, hop, hF.eval hx]
  simp [Instr.field, hu, hf, asAgg, h]

theorem part1 {t : TypeId} {cs : Array Value} {off : Nat} {v : Value} (ha : ∀ w, (isAgg t).run P w = .ok false w) (hc : cs[off]? = some v) : (part t cs off).run P w = .ok v w := by
  simp [part, ha, hc]
theorem partA {t : TypeId} {cs : Array Value} {off m : Nat} (ha : ∀ w, (isAgg t).run P w = .ok true w) (hz : ∀ w, (sizeOf t).run P w = .ok m w) : (part t cs off).run P w = .ok (.agg (cs.extract off (off + m))) w := by
  simp [part, ha, hz]

theorem r_index {x ix : Operand} {t e : TypeId} {sz len : Nat} {k : IntKind} {i : Int} {cs : Array Value} {v : Value} (hF : Fr n a l ds) (hop : o.op = .index t x ix) (hx : look l x = some (.agg cs)) (hi : look l ix = some (.int k i))
    (hu : ∀ w, (underlying t).run P w = .ok (.array len e) w) (hz : ∀ w, (sizeOf e).run P w = .ok sz w) (h0 : 0 ≤ i) (h1 : i < len) (h : (part e cs (i.toNat * sz)).run P w = .ok v w) : (execOp a.eval o).run P w = .ok (.value v) w := by
  simp only [execOp, hop, hF.eval hx, hF.eval hi]
  simp [Instr.index, hu, asIntOf, hz, h0, h1, h]

theorem r_indexS {x ix : Operand} {t : TypeId} {k : IntKind} {i : Int} {s : ByteArray} (hF : Fr n a l ds) (hop : o.op = .index t x ix) (hx : look l x = some (.string s)) (hi : look l ix = some (.int k i))
    (hu : ∀ w, (underlying t).run P w = .ok .string w) (h0 : 0 ≤ i) (h1 : i.toNat < s.size) : (execOp a.eval o).run P w = .ok (.value (.int .u8 (s[i.toNat]'h1).toNat)) w := by
  simp only [execOp, hop, hF.eval hx, hF.eval hi]
  have e : s[i.toNat]? = some (s[i.toNat]'h1) := by simp [h1]
  simp [Instr.index, hu, asIntOf, h0, e]

theorem r_slice {x : Operand} {t : TypeId} {u v : Value} {lo hi mx : Option Operand} {lo' hi' mx' : Option Value} (hF : Fr n a l ds) (hop : o.op = .slice t x lo hi mx) (hx : look l x = some u)
    (h1 : lo.map (look l) = lo'.map some) (h2 : hi.map (look l) = hi'.map some) (h3 : mx.map (look l) = mx'.map some)
    (h : (Instr.sliceAt t u lo' hi' mx').run P w = .ok v w) : (execOp a.eval o).run P w = .ok (.value v) w := by
  have e : ∀ (p : Option Operand) (q : Option Value), p.map (look l) = q.map some → p.map a.eval = q := by
    intro p q h
    cases p <;> cases q <;> simp at h ⊢
    exact hF.eval h
  simp only [execOp, hop, hF.eval hx, e _ _ h1, e _ _ h2, e _ _ h3]
  simp [h]

/-- 's[lo:hi]' and 's[lo:hi:mx]' of a slice. -/
def Slc.sub (s : Slc) (sz lo hi mx : Nat) : Slc := ⟨if mx = lo then s.a else s.a.map (·.add (lo * sz)), hi - lo, mx - lo⟩

theorem run_bound {k : IntKind} {i : Int} {y : Nat} {c : BoundsCode} (h0 : 0 ≤ i) (h1 : i ≤ y) : (Instr.sliceBound (.int k i) y c).run P w = .ok i.toNat w := by
  simp [Instr.sliceBound, asIntOf, h0, h1]

theorem slc_at {t e : TypeId} {sz : Nat} {s : Slc} {lo hi mx : Option Value} {b h m : Nat} (hu : ∀ w, (underlying t).run P w = .ok (.slice e) w) (hz : ∀ w, (sizeOf e).run P w = .ok sz w)
    (hb : (Instr.sliceBounds true s.len s.cap lo hi mx).run P w = .ok (b, h, m) w) : (Instr.sliceAt t s.v lo hi mx).run P w = .ok (s.sub sz b h m).v w := by
  simp [Instr.sliceAt, Instr.slice, hu, hz, hb, Slc.sub]

theorem bounds00 {len cap : Nat} {b : Bool} : (Instr.sliceBounds b len cap none none none).run P w = .ok (0, len, cap) w := by simp [Instr.sliceBounds]
theorem bounds10 {len cap : Nat} {b : Bool} {k : IntKind} {i : Int} (h0 : 0 ≤ i) (h1 : i ≤ len) : (Instr.sliceBounds b len cap (some (.int k i)) none none).run P w = .ok (i.toNat, len, cap) w := by simp [Instr.sliceBounds, run_bound h0 h1]
theorem bounds01 {len cap : Nat} {b : Bool} {k : IntKind} {j : Int} (h0 : 0 ≤ j) (h1 : j ≤ cap) : (Instr.sliceBounds b len cap none (some (.int k j)) none).run P w = .ok (0, j.toNat, cap) w := by simp [Instr.sliceBounds, run_bound h0 h1]
theorem bounds11 {len cap : Nat} {b : Bool} {k k' : IntKind} {i j : Int} (h0 : 0 ≤ i) (h1 : i ≤ j) (h2 : j ≤ cap) : (Instr.sliceBounds b len cap (some (.int k i)) (some (.int k' j)) none).run P w = .ok (i.toNat, j.toNat, cap) w := by
  have e : i ≤ (j.toNat : Int) := by omega
  simp [Instr.sliceBounds, run_bound (Int.le_trans h0 h1) h2, run_bound h0 e]
theorem bounds111 {len cap : Nat} {b : Bool} {k k' k'' : IntKind} {i j m : Int} (h0 : 0 ≤ i) (h1 : i ≤ j) (h2 : j ≤ m) (h3 : m ≤ cap) : (Instr.sliceBounds b len cap (some (.int k i)) (some (.int k' j)) (some (.int k'' m))).run P w = .ok (i.toNat, j.toNat, m.toNat) w := by
  have e : i ≤ (j.toNat : Int) := by omega
  have e' : j ≤ (m.toNat : Int) := by omega
  simp [Instr.sliceBounds, run_bound (k := k'') (Int.le_trans h0 (Int.le_trans h1 h2)) h3, run_bound (Int.le_trans h0 h1) e', run_bound h0 e]
theorem bounds011 {len cap : Nat} {b : Bool} {k' k'' : IntKind} {j m : Int} (h1 : 0 ≤ j) (h2 : j ≤ m) (h3 : m ≤ cap) : (Instr.sliceBounds b len cap none (some (.int k' j)) (some (.int k'' m))).run P w = .ok (0, j.toNat, m.toNat) w := by
  have e' : j ≤ (m.toNat : Int) := by omega
  simp [Instr.sliceBounds, run_bound (k := k'') (Int.le_trans h1 h2) h3, run_bound h1 e']

theorem str_at {t : TypeId} {s : ByteArray} {lo hi : Option Value} {b h m : Nat} (hu : ∀ w, (underlying t).run P w = .ok .string w)
    (hb : (Instr.sliceBounds false s.size s.size lo hi none).run P w = .ok (b, h, m) w) : (Instr.sliceAt t (.string s) lo hi none).run P w = .ok (.string (s.extract b h)) w := by
  simp [Instr.sliceAt, Instr.slice, hu, hb]

theorem arr_at {t e : TypeId} {sz len : Nat} {p : Addr} {lo hi mx : Option Value} {b h m : Nat} (hu : ∀ w, (underlying t).run P w = .ok (.array len e) w) (hz : ∀ w, (sizeOf e).run P w = .ok sz w)
    (hb : (Instr.sliceBounds false len len lo hi mx).run P w = .ok (b, h, m) w) : (Instr.sliceAt t (.pointer (some p)) lo hi mx).run P w = .ok (Slc.sub ⟨some p, len, len⟩ sz b h m).v w := by
  simp [Instr.sliceAt, hu, hz, hb, Slc.sub, Instr.sureAddr]
  split <;> simp

theorem r_lookup {x ix : Operand} {t : TypeId} {b : Bool} {u i v : Value} (hF : Fr n a l ds) (hop : o.op = .lookup t x ix b) (hx : look l x = some u) (hi : look l ix = some i) (h : (Instr.lookup t u i b).run P w = .ok v w) :
    (execOp a.eval o).run P w = .ok (.value v) w := by
  simp only [execOp, hop, hF.eval hx, hF.eval hi]
  simp [h]
theorem r_mapUpdate {x y z : Operand} {t : TypeId} {u i v : Value} {w' : World} (hF : Fr n a l ds) (hop : o.op = .mapUpdate t x y z) (hx : look l x = some u) (hi : look l y = some i) (hv : look l z = some v) (h : (Instr.mapUpdate t u i v).run P w = .ok () w') :
    (execOp a.eval o).run P w = .ok .skip w' := by
  simp only [execOp, hop, hF.eval hx, hF.eval hi, hF.eval hv]
  simp [h]
theorem r_insert {x y z : Operand} {t : TypeId} {u i v : Value} {w' : World} (hF : Fr n a l ds) (hop : o.op = .insert t x y z) (hx : look l x = some u) (hi : look l y = some i) (hv : look l z = some v) (h : (Instr.mapUpdate t u i v).run P w = .ok () w') :
    (execOp a.eval o).run P w = .ok .skip w' := by
  simp only [execOp, hop, hF.eval hx, hF.eval hi, hF.eval hv]
  simp [h]
theorem r_range {x : Operand} {t : TypeId} {u v : Value} {w' : World} (hF : Fr n a l ds) (hop : o.op = .range t x) (hx : look l x = some u) (h : (Instr.range t u).run P w = .ok v w') : (execOp a.eval o).run P w = .ok (.value v) w' := by
  simp only [execOp, hop, hF.eval hx]
  simp [h]
theorem r_next {x : Operand} {b : Bool} {u v : Value} {w' : World} (hF : Fr n a l ds) (hop : o.op = .next x b) (hx : look l x = some u) (h : (Instr.next u b o.type).run P w = .ok v w') : (execOp a.eval o).run P w = .ok (.value v) w' := by
  simp only [execOp, hop, hF.eval hx]
  simp [h]

/-! calls -/
theorem r_call {f : FuncId} {x : Array Operand} {ts : Array TypeId} {xs : List Value} (hF : Fr n a l ds) (hop : o.op = .call { callee := .value (.func f), args := x, argTypes := ts }) (hx : x.toList.map (look l) = xs.map some)
    (hc : ∀ args w, (callFunc f args).run P w = .ok (.enter f args) w) : (execOp a.eval o).run P w = .ok (.enter f xs.toArray) w := by
  have e := map_ops hF hx
  simp only [execOp, hop, resolve, e]
  simp [Act.eval, Deferred.ofValue, invoke, hc]

theorem r_callV {g : Operand} {f : FuncId} {fi ca : Array Value} {x : Array Operand} {ts : Array TypeId} {xs : List Value} (hF : Fr n a l ds) (hop : o.op = .call { callee := .value g, args := x, argTypes := ts }) (hg : look l g = some (.func (.func f) fi ca)) (hx : x.toList.map (look l) = xs.map some)
    (hc : ∀ args w, (callFunc f args).run P w = .ok (.enter f args) w) : (execOp a.eval o).run P w = .ok (.enter f (fi ++ xs.toArray ++ ca)) w := by
  have e := map_ops hF hx
  have e2 := hF.eval hg
  simp only [execOp, hop, resolve, e, e2]
  simp [Deferred.ofValue, invoke, hc]
end
end Go.Sh
