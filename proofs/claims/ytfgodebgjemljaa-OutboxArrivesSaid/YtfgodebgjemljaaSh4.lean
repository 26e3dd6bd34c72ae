/-
  Functions that hold a range over a function: their endings.
-/
import Derived.Test.YtfgodebgjemljaaSh3
import Derived.RangeFuncLeaves
import Derived.RangeFuncRecord
import Derived.Scope
import Derived.RangeFuncSeq
namespace Go.Sh
set_option linter.unusedVariables false

/-- the mark of a range over a function among what is deferred -/
def mkD (D : Nat) : List Deferred := [{ target := .collected D, args := #[] }]

/-- the function returns: the block for the rounds' deferred calls is shut -/
def rtD (D : Nat) (w : World) (k : World → Prop) : Prop := w.heap[D]? = some (.deferred (some [])) ∧ k (w.putObj D (.deferred none))

section
variable {P : Program} {a : Act} {w : World} {n : Nat} {l : List (Nat × Value)} {c : Code}

def RetM (P : Program) (fn : Func) (R : Value → World → Prop) (a : Act) (w : World) : Prop :=
  (a.defers = [] ∧ ∃ v, (results fn a.tmps).run P w = .ok v w ∧ R v w) ∨
  (∃ D, a.defers = mkD D ∧ w.heap[D]? = some (.deferred (some [])) ∧ ∃ v, (results fn a.tmps).run P (w.putObj D (.deferred none)) = .ok v (w.putObj D (.deferred none)) ∧ R v (w.putObj D (.deferred none)))

def PostM (P : Program) (fn : Func) (R : Value → World → Prop) : Exit → Act → World → Prop
  | .normal, a, w => RetM P fn R a w
  | .ret, a, w => RetM P fn R a w
  | _, _, _ => False

theorem postM_of {fn : Func} {R : Value → World → Prop} : ∀ e a w, PostM P fn R e a w → bodyPostM Fence.wide 0 P fn (Ret R) e a w := by
  have key : ∀ a w, RetM P fn R a w → LeavesInM Fence.wide 0 P fn a.tmps (Ret R) a.defers .returning w := by
    rintro a w (⟨h1, v, h2, h3⟩ | ⟨D, h1, hD, v, h2, h3⟩)
    · rw [h1]
      exact ⟨v, h2, h3⟩
    · rw [h1]
      exact ⟨by simp, .inl ⟨_, _, rfl, run_takeDeferred hD, v, h2, h3⟩⟩
  intro e a w h
  cases e with
  | normal => exact key a w h
  | ret => exact key a w h
  | exit id => exact h.elim
  | goto t => exact h.elim
  | panic ch => exact h.elim
  | outgrown => exact h.elim

theorem enterM {f : FuncId} {fn : Func} {R : Value → World → Prop} (k : Nat) (hf : P.funcs[f]? = some fn) (hb : fn.body = some c) (args : Array Value) (hn : fn.ntmps = n) (hk : args.size + k = n)
    (hl : l.map (fun p => args[p.1]?) = l.map (fun p => some p.2)) (h : ∀ a, Fr n a l → c.wp P (PostM P fn R) a w) : CallsV P f args w R := by
  refine (callsIn_wide (n := 0) (R := Ret R)).1 (callsIn_of_wp_marks hf hb trivial (wpIn_wide.2 (Code.wp_mono (fun e a w q => postM_of e a w q) (h _ ?_))))
  have e : fn.ntmps - args.size = k := by omega
  rw [e]
  exact Fr.enter args n k l hk hl

theorem retM0 {fn : Func} {R : Value → World → Prop} {v : Value} (hF : Fr n a l) (hr : (results fn a.tmps).run P w = .ok v w) (h : R v w) : PostM P fn R .ret a w := .inl ⟨hF.nodef, v, hr, h⟩
theorem retM1 {fn : Func} {R : Value → World → Prop} {v : Value} {D : Nat} (hF : Fr n a l (mkD D)) (hD : w.heap[D]? = some (.deferred (some []))) (hr : (results fn a.tmps).run P (w.putObj D (.deferred none)) = .ok v (w.putObj D (.deferred none)))
    (h : R v (w.putObj D (.deferred none))) : PostM P fn R .ret a w := .inr ⟨D, hF.nodef, hD, v, hr, h⟩
end
end Go.Sh
namespace Go.Sh
section
variable {P : Program} {ops : Array Oper} {K : Act → World → Prop} {a : Act} {w : World} {rest : List Oper} {o : Oper} {n : Nat} {l : List (Nat × Value)} {ds : List Deferred}

/-- what a call of the loop's own function leaves -/
def Yl (P : Program) (g : Value) (args : Array Value) (w : World) (k : Bool → World → Prop) : Prop :=
  ∃ l, g = .func (.yield l) #[] #[] ∧ YieldAt Fence.wide 0 P l args w fun e w' => ∃ b, e = .returned (.bool b) ∧ k b w'

theorem RL.yield (hF : Fr n a l ds) {x : Array Operand} {ts : Array TypeId} {xs : List Value} {g : Operand} {gv : Value} {d : Nat} (hop : o.op = .call { callee := .value g, args := x, argTypes := ts }) (hg : look l g = some gv) (hx : x.toList.map (look l) = xs.map some)
    (hgd : o.guard = none) (hd : o.dst = some d) (hn : Nat.blt d n = true) (h : Yl P gv xs.toArray w fun b w' => ∀ a', Fr n a' ((d, .bool b) :: l) ds → RL P ops K rest a' w') : RL P ops K (o :: rest) a w := by
  obtain ⟨lr, rfl, fn, tmps, assign, body, hy, hR⟩ := h
  unfold RL wpListIn
  rw [if_pos (by simp [Region.wanted, hgd])]
  refine ⟨fun _ _ => trivial, ?_⟩
  have hr : (execOp a.eval o).run P w = .ok (.round lr fn tmps assign body) w := by
    have e := map_ops hF hx
    have e2 := hF.eval hg
    simp only [execOp, hop, resolve, e, e2]
    simp [Deferred.ofValue, invoke, hy]
  show o.uponIn Fence.wide 0 P a _ _ ((execOp a.eval o).run P w)
  rw [hr, Oper.uponIn_round, hd]
  refine ⟨fun h => (by cases h), hR.mono fun e w' h => ?_⟩
  obtain ⟨b, rfl, h⟩ := h
  exact h _ (hF.put d (.bool b) hn)

/-! regions of a round -/
theorem wpListIn_round {lr : Nat} {Q : Exit → Act → World → Prop} : ∀ {L : List Oper} {a : Act} {w : World}, (∀ o ∈ L, ∀ c, o.op ≠ .defer c) → wpListIn Fence.wide 0 P ops Q L a w → wpListIn (FW (some lr)) 0 P ops Q L a w
  | [], a, w, _, h => h
  | o :: L, a, w, hd, h => by
    have hr := hd o (by simp)
    have hrest := fun x hx => hd x (List.mem_cons_of_mem o hx)
    unfold wpListIn at h ⊢
    split
    · rename_i hw
      rw [if_pos hw] at h
      have h2 := Oper.wpIn_mono (fun a w h => wpListIn_round (lr := lr) hrest h) h
      refine ⟨fun _ _ => trivial, ?_⟩
      have e : o.semAt (FW (some lr)).round a.eval = execOp a.eval o := Oper.semAt_eq _ _ _ hr
      rw [e]
      exact h2.2
    · rename_i hw
      rw [if_neg hw] at h
      exact ⟨fun _ _ => trivial, wpListIn_round hrest h.2⟩

theorem round_region {lr : Nat} {id : Nat} {L : List Oper} {Q : Exit → Act → World → Prop} (hd : ∀ o ∈ L, ∀ c, o.op ≠ .defer c) (h : RL P L.toArray (Q .normal) L a w) : (Code.region id L.toArray false).wpIn (FW (some lr)) 0 P Q a w :=
  wpIn_mono (wpIn_region_lit (wpListIn_round hd h)) fun e a w q => by cases e <;> first | exact q | exact q.elim

theorem wpAny_round {lr : Nat} {md : Region.Mode} : ∀ {fuel : Nat} {listed : Array Bool} {a : Act} {w : World}, (∀ o ∈ ops.toList, ∀ c, o.op ≠ .defer c) → wpAny P md ops (NP K) fuel listed a w → wpAnyIn (FW (some lr)) 0 P md ops (NP K) fuel listed a w
  | 0, _, _, _, _, h => h
  | fuel + 1, listed, a, w, hd, h => by
    refine ⟨h.1, fun i hi => ?_⟩
    have h2 := h.2 i hi
    unfold wpOp at h2
    unfold wpOpIn
    split
    · rename_i hn
      rw [hn] at h2
      exact wpAny_round hd h2
    · rename_i o ho
      rw [ho] at h2
      simp only at h2
      have hm : o ∈ ops.toList := by
        have := Array.mem_of_getElem? ho
        simpa using this
      split
      · rename_i hw
        rw [if_pos hw] at h2
        rcases h2 with h2 | ⟨_, h2⟩
        · exact Oper.wpIn_mono (fun a w h => wpAny_round hd h) (op_in (.inr (hd o hm)) h2)
        · exact absurd h2 not_letsOut
      · rename_i hw
        rw [if_neg hw] at h2
        exact ⟨fun _ _ => trivial, wpAny_round hd h2⟩

theorem round_draw {lr : Nat} {id : Nat} {L : List Oper} {Q : Exit → Act → World → Prop} (e : Nat) (D : Array Nat) (fuel : Nat) (hd : ∀ o ∈ L, ∀ c, o.op ≠ .defer c) (hm : P.follows .mixedOrders = true) (hf : L.toArray.size = fuel) (hdep : depOk L.toArray D = true) (hsel : Region.noSelect L.toArray = true)
    (h : Reg L.toArray D → GL P L.toArray (Q .normal) e D fuel 0 [] a w.drew) : (Code.region id L.toArray true).wpIn (FW (some lr)) 0 P Q a w := by
  refine wpIn_mono (wpIn_region_any hm (wpAny_round (K := Q .normal) (by simpa using hd) ?_)) fun e a w q => by cases e <;> first | exact q | exact q.elim
  rw [hf, ← hf, ← lst_zero]
  refine wpAny_of_G (E := eb e) (D := D) _ _ [] _ _ ?_
  rw [hf]
  have := h ⟨hdep, hsel⟩ (Down.zero D _) (fun _ hp => by cases hp)
  rw [hf] at this
  exact this
end
end Go.Sh
namespace Go.Sh
theorem Yl.mono {P : Program} {g : Value} {args : Array Value} {w : World} {k k' : Bool → World → Prop} (h : Yl P g args w k) (hk : ∀ b w', k b w' → k' b w') : Yl P g args w k' := by
  obtain ⟨l, e, fn, tmps, assign, body, hy, hR⟩ := h
  exact ⟨l, e, fn, tmps, assign, body, hy, hR.mono fun e w' ⟨b, h1, h2⟩ => ⟨b, h1, hk _ _ h2⟩⟩
end Go.Sh
namespace Go.Sh
section
variable {P : Program} {ops : Array Oper} {K : Act → World → Prop} {a : Act} {w : World} {rest : List Oper} {o : Oper}
/-- a builtin called for what it does alone -/
theorem RL.vunit {n : Nat} {l : List (Nat × Value)} {ds : List Deferred} (hF : Fr n a l ds) {v : Value} {w' : World} (hg : o.guard = none) (hd : o.dst = none) (hr : (execOp a.eval o).run P w = .ok (.value v) w')
    (h : ∀ a', Fr n a' l ds → RL P ops K rest a' w') : RL P ops K (o :: rest) a w :=
  RL_go hg (by unfold Oper.wp; rw [hr, Oper.upon_value, hd]; exact h _ hF)
end
end Go.Sh
namespace Go.Sh
section
variable {P : Program} {ops : Array Oper} {K : Act → World → Prop} {a : Act} {w : World} {o : Oper} {i : Nat}
theorem op_vunit {n : Nat} {l : List (Nat × Value)} {ds : List Deferred} (hF : Fr n a l ds) {v : Value} {w' : World} {K' : Act → World → Prop} (ho : ops[i]? = some o) (hg : o.guard = none) (hd : o.dst = none)
    (hr : (execOp a.eval o).run P w = .ok (.value v) w') {C : World → Prop} (hC : C w') (h : ∀ a', Fr n a' l ds → K' a' w') : wpOp P ops (NP K) i (fun a' w' => C w' ∧ K' a' w') a w := by
  unfold wpOp
  simp only [ho]
  rw [if_pos (by simp [Region.wanted, hg])]
  exact .inl (by unfold Oper.wp; rw [hr, Oper.upon_value, hd]; exact ⟨hC, h _ hF⟩)
end
end Go.Sh
namespace Go.Sh
section
variable {P : Program} {a : Act} {w : World} {n : Nat} {l : List (Nat × Value)} {ds : List Deferred} {o : Oper}
theorem r_entry {x : Operand} {u v : Value} (hF : Fr n a l ds) (hop : o.op = .entry x) (hx : look l x = some u) (h : (Instr.entry u).run P w = .ok v w) : (execOp a.eval o).run P w = .ok (.value v) w := by
  simp only [execOp, hop, hF.eval hx]
  simp [h]
end
end Go.Sh
