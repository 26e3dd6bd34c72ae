/-
  The code's own forms (statements, tests, loops, returns), and the words of the plain text that stands for a function.
-/
import Derived.Test.YtfgodebgjemljaaSh2
namespace Go.Sh
set_option linter.unusedVariables false

/-! ### 1. The words of the plain text -/

def ifM (c : Bool) (A B : Prop) : Prop := (c = true → A) ∧ (c = false → B)
/-- A test, a block: what follows stands once. -/
def jn {V : Type} (J : V → World → Prop) (body : (V → World → Prop) → Prop) : Prop := body J
/-- What '&&' and '||' guard. -/
def gif {V : Type} (g : Bool) (w : World) (d : V) (body : (V → World → Prop) → Prop) (k : V → World → Prop) : Prop := (g = true → body k) ∧ (g = false → k d w)
def lt {V : Type} (e : V) (k : V → Prop) : Prop := ∃ t, t = e ∧ k t
def Lp {S : Type} (body : S → (S → World → Prop) → World → Prop) (s : S) (w : World) : Prop :=
  ∀ X : S → World → Prop, (∀ s w (Y : S → World → Prop), (∀ s w, Y s w → X s w) → body s Y w → X s w) → X s w

theorem jn.mk {V : Type} {J : V → World → Prop} {body : (V → World → Prop) → Prop} (J' : V → World → Prop) (hb : ∀ k : V → World → Prop, (∀ v w, J' v w → k v w) → body k) (hJ : ∀ v w, J' v w → J v w) : jn J body := hb J hJ

theorem Lp.unroll {S : Type} {body : S → (S → World → Prop) → World → Prop} {s : S} {w : World} (h : body s (Lp body) w) : Lp body s w :=
  fun X hX => hX s w (Lp body) (fun _ _ h => h X hX) h

theorem Lp.inv {S : Type} {body : S → (S → World → Prop) → World → Prop} {s : S} {w : World} (I : S → World → Prop) (μ : S → World → Nat) (h0 : I s w)
    (step : ∀ s w, I s w → body s (fun s' w' => I s' w' ∧ μ s' w' < μ s w) w) : Lp body s w := by
  intro X hX
  have key : ∀ n s w, μ s w = n → I s w → X s w := by
    intro n
    induction n using Nat.strongRecOn with
    | _ n ih =>
      intro s w hn hI
      exact hX s w _ (fun s' w' ⟨hI', hlt⟩ => ih (μ s' w') (hn ▸ hlt) s' w' rfl hI') (step s w hI)
  exact key _ s w rfl h0

/-- a pointer that is not nil -/
def nn (p : Option Addr) (k : Addr → Prop) : Prop := ∃ a, p = some a ∧ k a
def drw (w : World) (k : World → Prop) : Prop := ∃ w', w' = w.drew ∧ k w'
def newV (t : TypeId) (cs : Array Value) (w : World) (k : Addr → World → Prop) : Prop := ∃ a w', a = ⟨w.heap.size, 0, none⟩ ∧ w' = w.alloc (.cells cs t) ∧ k a w'
def newM (w : World) (k : Option Nat → World → Prop) : Prop := ∃ r w', r = some w.heap.size ∧ w' = w.alloc (.map #[] 0) ∧ k r w'
def ldI (q : IntKind) (a : Addr) (w : World) (k : Int → Prop) : Prop := ∃ x, w.cell? a = some (.int q x) ∧ k x
def ldB (a : Addr) (w : World) (k : Bool → Prop) : Prop := ∃ x, w.cell? a = some (.bool x) ∧ k x
def ldS (a : Addr) (w : World) (k : ByteArray → Prop) : Prop := ∃ x, w.cell? a = some (.string x) ∧ k x
def ldP (a : Addr) (w : World) (k : Option Addr → Prop) : Prop := ∃ x, w.cell? a = some (.pointer x) ∧ k x
def ldL (a : Addr) (w : World) (k : Slc → Prop) : Prop := ∃ x : Slc, w.cell? a = some x.v ∧ k x
def ldM (a : Addr) (w : World) (k : Option Nat → Prop) : Prop := ∃ x, w.cell? a = some (.map x) ∧ k x
def ldV (a : Addr) (w : World) (k : Value → Prop) : Prop := ∃ x, w.cell? a = some x ∧ k x
def ldA (m : Nat) (a : Addr) (w : World) (k : Array Value → Prop) : Prop := ∃ x, CellsAt w a m x ∧ k x
def stV (a : Addr) (v : Value) (w : World) (k : World → Prop) : Prop := ∃ u w', w.cell? a = some u ∧ w.frozen? a = false ∧ w' = w.setCell a v ∧ k w'
def stA (m : Nat) (a : Addr) (cs : Array Value) (w : World) (k : World → Prop) : Prop := ∃ w', cs.size = m ∧ (∀ v ∈ cs.toList, one v = true) ∧ Writable w a m ∧ w' = World.puts w a cs.toList 0 ∧ k w'
def fI (q : IntKind) (cs : Array Value) (off : Nat) (k : Int → Prop) : Prop := ∃ x, cs[off]? = some (.int q x) ∧ k x
def fB (cs : Array Value) (off : Nat) (k : Bool → Prop) : Prop := ∃ x, cs[off]? = some (.bool x) ∧ k x
def fS (cs : Array Value) (off : Nat) (k : ByteArray → Prop) : Prop := ∃ x, cs[off]? = some (.string x) ∧ k x
def fP (cs : Array Value) (off : Nat) (k : Option Addr → Prop) : Prop := ∃ x, cs[off]? = some (.pointer x) ∧ k x
def fL (cs : Array Value) (off : Nat) (k : Slc → Prop) : Prop := ∃ x : Slc, cs[off]? = some x.v ∧ k x
def fM (cs : Array Value) (off : Nat) (k : Option Nat → Prop) : Prop := ∃ x, cs[off]? = some (.map x) ∧ k x
def fV (cs : Array Value) (off : Nat) (k : Value → Prop) : Prop := ∃ x, cs[off]? = some x ∧ k x
/-- the place of an element -/
def idx (sz : Nat) (s : Slc) (i : Int) (k : Addr → Prop) : Prop := ∃ a p, s.a = some a ∧ 0 ≤ i ∧ i < s.len ∧ p = a.add (i.toNat * sz) ∧ k p
def idxA (sz len : Nat) (a : Addr) (i : Int) (k : Addr → Prop) : Prop := ∃ p, 0 ≤ i ∧ i < len ∧ p = a.add (i.toNat * sz) ∧ k p
/-- an operation of the model's own whose run is known -/
def rn {α : Type} (P : Program) (e : Sem α) (v : α) (w w' : World) : Prop := e.run P w = .ok v w'

/-! ### 2. The code's forms -/
section
variable {P : Program} {Q : Exit → Act → World → Prop} {a : Act} {w : World} {n : Nat} {l : List (Nat × Value)} {ds : List Deferred} {c x y : Code}

def Ret (R : Value → World → Prop) : Ending → World → Prop := fun e w' => match e with | .returned v => R v w' | _ => False

theorem enter {f : FuncId} {fn : Func} {R : Value → World → Prop} (k : Nat) (hf : P.funcs[f]? = some fn) (hb : fn.body = some c) (args : Array Value) (hn : fn.ntmps = n) (hk : args.size + k = n)
    (hl : l.map (fun p => args[p.1]?) = l.map (fun p => some p.2)) (h : ∀ a, Fr n a l → c.wp P (bodyPost P fn (Ret R)) a w) : CallsV P f args w R := by
  refine calls_of_wp hf hb (h _ ?_)
  have e : fn.ntmps - args.size = k := by omega
  rw [e]
  exact Fr.enter args n k l hk hl

theorem cond_ {o : Operand} {b : Bool} (hF : Fr n a l ds) (hc : look l o = some (.bool b)) (ht : b = true → x.wp P Q a w) (hf : b = false → y.wp P Q a w) : (Code.cond o x y).wp P Q a w :=
  wp_cond_split (hF.eval hc) ht hf

/-- at a loop's head -/
def LH (P : Program) (c : Code) (Q : Exit → Act → World → Prop) (a : Act) (w : World) : Prop :=
  ∀ (b : Frame) (k : List Item) (cs : List Frame), ∃ e a' w', Q e a' w' ∧ Arrives P (lone (b.at a (.code c :: .inLoop c :: k)) cs w) b k cs e a' w'

theorem loop_of_LH (h : LH P c Q a w) : (Code.loop c).wp P Q a w := fun b k cs =>
  let ⟨e, a', w', q, r⟩ := h b k cs
  ⟨e, a', w', q, .of_steps (.one step_loop) r⟩

theorem LH.round (h : c.wp P (Exit.then (LH P c Q) Q) a w) : LH P c Q a w := by
  intro b k cs
  obtain ⟨e, a₁, w₁, hq, harr⟩ := h b (.inLoop c :: k) cs
  cases e with
  | normal =>
    obtain ⟨e₂, a₂, w₂, hq₂, harr₂⟩ := hq b k cs
    exact ⟨e₂, a₂, w₂, hq₂, .of_steps (Steps.trans harr (.one step_inLoop)) harr₂⟩
  | exit id => exact ⟨_, a₁, w₁, hq, .pass (x := .inLoop c) rfl (fun _ _ => .inl (by simp)) harr⟩
  | goto l => exact ⟨_, a₁, w₁, hq, .pass (x := .inLoop c) rfl (fun _ _ => .inl (by simp)) harr⟩
  | ret => exact ⟨_, a₁, w₁, hq, .pass (x := .inLoop c) rfl (fun _ _ => .inl (by simp)) harr⟩
  | panic ch => exact ⟨_, a₁, w₁, hq, .pass (x := .inLoop c) rfl (fun _ _ => .inl (by simp)) harr⟩
  | outgrown => exact ⟨_, a₁, w₁, hq, .pass (x := .inLoop c) rfl (fun _ _ => .inl (by simp)) harr⟩

theorem loop_ {S : Type} {body : S → (S → World → Prop) → World → Prop} (l : S → List (Nat × Value)) {s : S} (hF : Fr n a (l s) ds) (h : Lp body s w)
    (step : ∀ s w (Y : S → World → Prop) (K : Act → World → Prop), (∀ s w a, Fr n a (l s) ds → Y s w → K a w) → body s Y w → ∀ a, Fr n a (l s) ds → c.wp P (Exit.then K Q) a w) : (Code.loop c).wp P Q a w :=
  loop_of_LH (h (fun s w => ∀ a, Fr n a (l s) ds → LH P c Q a w) (fun s w Y hY hb a hF => LH.round (step s w Y (LH P c Q) (fun s w a hF hy => hY s w hy a hF) hb a hF)) a hF)

/-! results -/
def ResOk (P : Program) (l : List (Nat × Value)) (w : World) : ResultVar → Value → Prop
  | .tmp t, v => lk l t = some v
  | .cell t T, v => ∃ p, lk l t = some (.pointer (some p)) ∧ (loadVar T p).run P w = .ok v w

def rval (tmps : Array Value) : ResultVar → Sem Value
  | .tmp t => pure (tmps.getD t undef)
  | .cell a t => do loadVar t (← asAddr (tmps.getD a undef))
theorem results_eq (fn : Func) (tmps : Array Value) : results fn tmps = (do
    let vs ← fn.results.mapM (rval tmps)
    pure (if h : vs.size = 1 then vs[0] else .tuple vs)) := rfl

theorem run_res1 {r : ResultVar} {v : Value} (hF : Fr n a l ds) (h : ResOk P l w r v) : (rval a.tmps r).run P w = .ok v w := by
  cases r with
  | tmp t =>
    have := hF.eval (x := .tmp t) (v := v) h
    simp only [Act.eval] at this
    simp only [rval, this]
    rfl
  | cell t T =>
    obtain ⟨p, h1, h2⟩ := h
    have := hF.eval (x := .tmp t) (v := .pointer (some p)) h1
    simp only [Act.eval] at this
    simp only [rval, this, asAddr]
    simpa using h2

theorem ret_of {fn : Func} {R : Value → World → Prop} {v : Value} (hF : Fr n a l) (hr : (results fn a.tmps).run P w = .ok v w) (h : R v w) : bodyPost P fn (Ret R) .ret a w :=
  ⟨hF.nodef, v, hr, h⟩
theorem end_of {fn : Func} {R : Value → World → Prop} {v : Value} (hF : Fr n a l) (hr : (results fn a.tmps).run P w = .ok v w) (h : R v w) : bodyPost P fn (Ret R) .normal a w :=
  ⟨hF.nodef, v, hr, h⟩

theorem res0 {fn : Func} (hf : fn.results = #[]) : (results fn a.tmps).run P w = .ok (.tuple #[]) w := by
  simp [results, hf]
theorem res1 {fn : Func} {r : ResultVar} {v : Value} (hF : Fr n a l ds) (hf : fn.results = #[r]) (h : ResOk P l w r v) : (results fn a.tmps).run P w = .ok v w := by
  have h1 := run_res1 hF h
  rw [results_eq, hf]
  simp [h1]
theorem res2 {fn : Func} {r s : ResultVar} {v u : Value} (hF : Fr n a l ds) (hf : fn.results = #[r, s]) (h : ResOk P l w r v) (h' : ResOk P l w s u) : (results fn a.tmps).run P w = .ok (.tuple #[v, u]) w := by
  have h1 := run_res1 hF h
  have h2 := run_res1 hF h'
  rw [results_eq, hf]
  simp [h1, h2]
theorem res3 {fn : Func} {r s t : ResultVar} {v u x : Value} (hF : Fr n a l ds) (hf : fn.results = #[r, s, t]) (h : ResOk P l w r v) (h' : ResOk P l w s u) (h'' : ResOk P l w t x) : (results fn a.tmps).run P w = .ok (.tuple #[v, u, x]) w := by
  have h1 := run_res1 hF h
  have h2 := run_res1 hF h'
  have h3 := run_res1 hF h''
  rw [results_eq, hf]
  simp [h1, h2, h3]

theorem ld1 {t : TypeId} {p : Addr} {v : Value} (ha : ∀ w, (isAgg t).run P w = .ok false w) (hc : w.cell? p = some v) : (loadVar t p).run P w = .ok v w := by
  simp [loadVar, ha, load, Sem.run, hc]
theorem ldAg {t : TypeId} {m : Nat} {p : Addr} {cs : Array Value} (ha : ∀ w, (isAgg t).run P w = .ok true w) (hz : ∀ w, (sizeOf t).run P w = .ok m w) (hc : CellsAt w p m cs) : (loadVar t p).run P w = .ok (.agg cs) w := by
  simp [loadVar, ha, hz, run_cells hc]

/-! addresses that are known not to be nil -/
theorem lkp {o : Operand} {p : Option Addr} {ad : Addr} (h : look l o = some (.pointer p)) (e : p = some ad) : look l o = some (.pointer (some ad)) := e ▸ h
theorem lks {o : Operand} {s : Slc} {ad : Addr} (h : look l o = some s.v) (e : s.a = some ad) : look l o = some (.slice (some ad) s.len s.cap) := by rw [← e]; exact h
end
end Go.Sh
namespace Go.Sh
def Slc.nil : Slc := ⟨none, 0, 0⟩
theorem jn_open {V : Type} {J : V → World → Prop} {body : (V → World → Prop) → Prop} (h : jn J body) : ∃ J' : V → World → Prop, (∀ v w, J' v w → J v w) ∧ body J' := ⟨J, fun _ _ h => h, h⟩
theorem bool_cases (b : Bool) : b = true ∨ b = false := by cases b <;> simp
theorem lkb {l : List (Nat × Value)} {d : Nat} {b c : Bool} (h : lk l d = some (.bool b)) (e : b = c) : lk l d = some (.bool c) := e ▸ h
end Go.Sh
