/-
  Outbox: the range over a function in 'due': its statement, and a round of it.
-/
import Derived.Test.YtfgodebgjemljaaProg
import Derived.Test.YtfgodebgjemljaaSh4
import Derived.Test.YtfgodebgjemljaaHp
namespace Go.Proofs.Ytfgodebgjemljaa
open Go Go.Sh
set_option linter.unusedVariables false
set_option linter.unusedSimpArgs false

def rfA : Code := (Go.Code.region 4 #[{ dst := some 9, op := Go.Op.alloc 94, type := 0, pos := "outbox.go:80", after := #[], guard := none }, { dst := none, op := Go.Op.store 94 (Go.Operand.tmp 9) (Go.Operand.tmp 18), type := 0, pos := "outbox.go:80", after := #[{ on := 0, ground := Go.Ground.data }, { on := 0, ground := Go.Ground.phase }], guard := none }] false)
def rfB : Code := (Go.Code.block 1 ((Go.Code.region 5 #[{ dst := some 19, op := Go.Op.fieldAddr 94 (Go.Operand.tmp 9) 0, type := 0, pos := "outbox.go:81", after := #[], guard := none }, { dst := some 20, op := Go.Op.load 3 (Go.Operand.tmp 19), type := 3, pos := "outbox.go:81", after := #[{ on := 0, ground := Go.Ground.data }], guard := none }, { dst := some 21, op := Go.Op.load 3 (Go.Operand.tmp 4), type := 3, pos := "outbox.go:81", after := #[], guard := none }, { dst := some 22, op := Go.Op.fieldAddr 94 (Go.Operand.tmp 9) 1, type := 0, pos := "outbox.go:81", after := #[], guard := none }, { dst := some 23, op := Go.Op.load 3 (Go.Operand.tmp 22), type := 3, pos := "outbox.go:81", after := #[{ on := 3, ground := Go.Ground.data }], guard := none }, { dst := some 24, op := Go.Op.fieldAddr 94 (Go.Operand.tmp 9) 0, type := 0, pos := "outbox.go:81", after := #[], guard := none }, { dst := some 25, op := Go.Op.load 3 (Go.Operand.tmp 24), type := 3, pos := "outbox.go:81", after := #[{ on := 5, ground := Go.Ground.data }], guard := none }, { dst := some 26, op := Go.Op.binOp Go.BinOp.sub 3 (Go.Operand.tmp 23) (Go.Operand.tmp 25) 3, type := 3, pos := "outbox.go:81", after := #[{ on := 4, ground := Go.Ground.data }, { on := 6, ground := Go.Ground.data }], guard := none }, { dst := some 27, op := Go.Op.binOp Go.BinOp.add 3 (Go.Operand.tmp 26) (Go.Operand.const (Go.Value.int Go.IntKind.i64 1)) 3, type := 3, pos := "outbox.go:81", after := #[{ on := 7, ground := Go.Ground.data }], guard := none }, { dst := some 28, op := Go.Op.call { callee := Go.Callee.builtin Go.Builtin.min, args := #[Go.Operand.tmp 21, Go.Operand.tmp 27], argTypes := #[3, 3] }, type := 3, pos := "outbox.go:81", after := #[{ on := 2, ground := Go.Ground.data }, { on := 8, ground := Go.Ground.data }], guard := none }, { dst := some 29, op := Go.Op.binOp Go.BinOp.add 3 (Go.Operand.tmp 20) (Go.Operand.tmp 28) 3, type := 3, pos := "outbox.go:81", after := #[{ on := 1, ground := Go.Ground.data }, { on := 9, ground := Go.Ground.data }], guard := none }, { dst := none, op := Go.Op.store 3 (Go.Operand.tmp 7) (Go.Operand.tmp 29), type := 0, pos := "outbox.go:81", after := #[{ on := 10, ground := Go.Ground.data }, { on := 0, ground := Go.Ground.phase }, { on := 1, ground := Go.Ground.phase }, { on := 2, ground := Go.Ground.phase }, { on := 3, ground := Go.Ground.phase }, { on := 4, ground := Go.Ground.phase }, { on := 5, ground := Go.Ground.phase }, { on := 6, ground := Go.Ground.phase }, { on := 7, ground := Go.Ground.phase }, { on := 8, ground := Go.Ground.phase }, { on := 9, ground := Go.Ground.phase }, { on := 10, ground := Go.Ground.phase }], guard := none }] false).seq ((Go.Code.region 6 #[{ dst := some 30, op := Go.Op.fieldAddr 94 (Go.Operand.tmp 9) 0, type := 0, pos := "outbox.go:82", after := #[], guard := none }, { dst := some 31, op := Go.Op.load 3 (Go.Operand.tmp 30), type := 3, pos := "outbox.go:82", after := #[{ on := 0, ground := Go.Ground.data }], guard := none }, { dst := some 32, op := Go.Op.load 3 (Go.Operand.tmp 7), type := 3, pos := "outbox.go:82", after := #[], guard := none }, { dst := some 33, op := Go.Op.load 3 (Go.Operand.tmp 7), type := 3, pos := "outbox.go:82", after := #[], guard := none }, { dst := some 34, op := Go.Op.fieldAddr 94 (Go.Operand.tmp 9) 0, type := 0, pos := "outbox.go:82", after := #[], guard := none }, { dst := some 35, op := Go.Op.load 3 (Go.Operand.tmp 34), type := 3, pos := "outbox.go:82", after := #[{ on := 4, ground := Go.Ground.data }], guard := none }, { dst := some 36, op := Go.Op.binOp Go.BinOp.gtr 3 (Go.Operand.tmp 33) (Go.Operand.tmp 35) 3, type := 4, pos := "outbox.go:82", after := #[{ on := 3, ground := Go.Ground.data }, { on := 5, ground := Go.Ground.data }], guard := none }, { dst := none, op := Go.Op.store 3 (Go.Operand.tmp 6) (Go.Operand.tmp 31), type := 0, pos := "outbox.go:82", after := #[{ on := 1, ground := Go.Ground.data }, { on := 0, ground := Go.Ground.phase }, { on := 1, ground := Go.Ground.phase }, { on := 2, ground := Go.Ground.textOnly Go.Departure.inlinedCapture }, { on := 3, ground := Go.Ground.phase }, { on := 4, ground := Go.Ground.textOnly Go.Departure.lateStores }, { on := 5, ground := Go.Ground.textOnly Go.Departure.lateStores }, { on := 6, ground := Go.Ground.textOnly Go.Departure.lateStoresUnsure }], guard := none }, { dst := none, op := Go.Op.store 3 (Go.Operand.tmp 7) (Go.Operand.tmp 32), type := 0, pos := "outbox.go:82", after := #[{ on := 2, ground := Go.Ground.data }, { on := 7, ground := Go.Ground.chain }, { on := 0, ground := Go.Ground.phase }, { on := 1, ground := Go.Ground.phase }, { on := 2, ground := Go.Ground.phase }, { on := 3, ground := Go.Ground.phase }, { on := 4, ground := Go.Ground.textOnly Go.Departure.lateStores }, { on := 5, ground := Go.Ground.textOnly Go.Departure.lateStores }, { on := 6, ground := Go.Ground.textOnly Go.Departure.lateStoresUnsure }, { on := 7, ground := Go.Ground.phase }], guard := none }, { dst := none, op := Go.Op.store 4 (Go.Operand.tmp 8) (Go.Operand.tmp 36), type := 0, pos := "outbox.go:82", after := #[{ on := 6, ground := Go.Ground.data }, { on := 8, ground := Go.Ground.chain }, { on := 0, ground := Go.Ground.phase }, { on := 1, ground := Go.Ground.phase }, { on := 2, ground := Go.Ground.phase }, { on := 3, ground := Go.Ground.phase }, { on := 4, ground := Go.Ground.phase }, { on := 5, ground := Go.Ground.phase }, { on := 6, ground := Go.Ground.phase }, { on := 7, ground := Go.Ground.phase }, { on := 8, ground := Go.Ground.phase }], guard := none }] true).seq Go.Code.ret)))

/-- the loop's record, as the rounds find it -/
structure RfRec (p4 p6 p7 p8 : Addr) (rec : Loop) : Prop where
  state : rec.state = .ready
  pend : rec.pending = none
  params : rec.params = #[18]
  assign : rec.assign = rfA
  body : rec.body = rfB
  size : rec.tmps.size = 96
  r4 : rec.tmps[4]? = some (.pointer (some p4))
  r6 : rec.tmps[6]? = some (.pointer (some p6))
  r7 : rec.tmps[7]? = some (.pointer (some p7))
  r8 : rec.tmps[8]? = some (.pointer (some p8))

/-- what the statement does: the function that is gone through is called; a round that returned, or none -/
def rf29 (g : Value) (p4 p6 p7 p8 : Addr) (w : World) (N R : Nat → World → Prop) : Prop :=
  ∃ c0, g = .func (.func 55) #[] #[.pointer c0] ∧ ∀ rec W, RfRec p4 p6 p7 p8 rec → W = (w.alloc (.deferred (some []))).alloc (.loop rec) →
    CallsV Try.prog 55 #[.func (.yield (w.heap.size + 1)) #[] #[], .pointer c0] W fun v w' =>
      ∃ r : Loop, w'.heap[w.heap.size + 1]? = some (.loop r) ∧ r.state ≠ .busy ∧
        ((r.pending = none ∧ N w.heap.size (w'.putObj (w.heap.size + 1) (.loop { r with state := .exhausted }))) ∨
         (r.pending = some .ret ∧ R w.heap.size (w'.putObj (w.heap.size + 1) (.loop { r with state := .exhausted }))))

theorem rf29_ok {K : Act → World → Prop} {Q : Exit → Act → World → Prop} {a : Act} {w : World} {l l' : List (Nat × Value)} {g : Value} {p4 p6 p7 p8 : Addr} {N R : Nat → World → Prop} (hF : Fr 96 a l) (hg : lk l 17 = some g)
    (h4 : lk l 4 = some (.pointer (some p4))) (h6 : lk l 6 = some (.pointer (some p6))) (h7 : lk l 7 = some (.pointer (some p7))) (h8 : lk l 8 = some (.pointer (some p8))) (hF' : Fr 96 a l') (h : rf29 g p4 p6 p7 p8 w N R)
    (hN : ∀ D w' a', Fr 96 a' l' (mkD D) → N D w' → K a' w') (hR : ∀ D w' a', Fr 96 a' l' (mkD D) → R D w' → Q .ret a' w') :
    (Code.block 0 (Code.rangeFunc (.tmp 17) #[18] rfA rfB)).wp Try.prog (Exit.then K Q) a w := by
  obtain ⟨c0, rfl, h⟩ := h
  refine (wpIn_wide (n := 0)).1 (wpIn_block (wpIn_rangeFunc fun fn _ => ?_))
  let rc : Loop := { state := .ready, pending := none, fn := fn, tmps := a.tmps, params := #[18], assign := rfA, body := rfB, defers := w.heap.size }
  have hrec : RfRec p4 p6 p7 p8 rc := ⟨rfl, rfl, rfl, rfl, rfl, hF.size, hF.reads _ _ h4, hF.reads _ _ h6, hF.reads _ _ h7, hF.reads _ _ h8⟩
  have hfr : Fr 96 { a with defers := mkD w.heap.size ++ a.defers } l' (mkD w.heap.size) := ⟨hF'.size, by simp [hF'.nodef], hF'.reads⟩
  let W1 : World := (w.alloc (.deferred (some []))).alloc (.loop rc)
  refine ⟨w.heap.size + 1, [{ target := .collected w.heap.size, args := #[] }], W1, { target := .fn (.func 55) #[.pointer c0], args := #[.func (.yield (w.heap.size + 1)) #[] #[]] }, W1, 55,
    #[.func (.yield (w.heap.size + 1)) #[] #[], .pointer c0], W1, run_enterLoop_outer .., ?_, fun _ _ => trivial, ?_, (fun h => by cases h), ?_⟩
  · have e := hF.eval (x := .tmp 17) hg
    simp only [resolve, e]
    simp [go_sem]
  · simp [invoke, go_sem, Try.call55]
  · refine (callsIn_wide (n := 0 - 1)).2 (Calls.mono (h rc _ hrec rfl) fun e w' he => ?_)
    cases e with
    | returned v =>
      obtain ⟨r, h1, h2, h3 | h3⟩ := he
      · exact ⟨none, _, by rw [← h3.1]; exact run_endLoop h1 h2, hN _ _ _ hfr h3.2⟩
      · exact ⟨some .ret, _, by rw [← h3.1]; exact run_endLoop h1 h2, wpIn_ret (hR _ _ _ hfr h3.2)⟩
    | panicked c => exact he.elim
    | outgrown => exact he.elim

theorem moF : Try.prog.follows .mixedOrders = true := by kernel_rfl
theorem noDefer {L : List Oper} (h : (L.all fun o => match o.op with | .defer _ => false | _ => true) = true) : ∀ o ∈ L, ∀ c, o.op ≠ .defer c := by
  intro o ho c e
  have := List.all_eq_true.1 h o ho
  rw [e] at this
  cases this

def duTo (most x0 x1 : Int) : Int := IntKind.i64.wrap (x0 + (if IntKind.i64.wrap (IntKind.i64.wrap (x1 - x0) + 1) < most then IntKind.i64.wrap (IntKind.i64.wrap (x1 - x0) + 1) else most))

/-- one round: the first span that is told -/
theorem rf29_yield {w : World} {lr b4 b6 b7 b8 : Nat} {rec : Loop} {most x0 x1 v6 v7 : Int} {v8 : Bool} (hr : RfRec ⟨b4, 0, none⟩ ⟨b6, 0, none⟩ ⟨b7, 0, none⟩ ⟨b8, 0, none⟩ rec) (hl : w.heap[lr]? = some (.loop rec))
    (B4 : Blk w b4 [.int .i64 most] 3) (B6 : Blk w b6 [.int .i64 v6] 3) (B7 : Blk w b7 [.int .i64 v7] 3) (B8 : Blk w b8 [.bool v8] 4)
    (n67 : b6 ≠ b7) (n68 : b6 ≠ b8) (n78 : b7 ≠ b8) (n46 : b4 ≠ b6) (n47 : b4 ≠ b7) (n48 : b4 ≠ b8) {k : Bool → World → Prop}
    (h : ∀ w' r', w'.heap[lr]? = some (.loop r') → r'.state ≠ .busy → r'.pending = some .ret → Blk w' b6 [.int .i64 x0] 3 → Blk w' b7 [.int .i64 (duTo most x0 x1)] 3 → Blk w' b8 [.bool (decide (duTo most x0 x1 > x0))] 4 →
      Mod (fun b => b = b6 ∨ b = b7 ∨ b = b8 ∨ b = lr) w w' → k false w') :
    Yl Try.prog (.func (.yield lr) #[] #[]) #[.agg #[.int .i64 x0, .int .i64 x1]] w k := by
  have hneq : ∀ {b : Nat} {cs : List Value} {T : TypeId}, Blk w b cs T → b ≠ lr := fun hB e => by
    obtain ⟨fz, hb, _⟩ := hB
    rw [e, hl] at hb
    cases hb
  have n4 := hneq B4
  have n6 := hneq B6
  have n7 := hneq B7
  have n8 := hneq B8
  have hlt : lr < w.heap.size := (Array.getElem?_eq_some_iff.1 hl).1
  have put : ∀ (w : World) (o : Obj), Mod (· = lr) w (w.putObj lr o) := fun w o => ⟨rfl, rfl, rfl, by simp, fun b hb hn => World.putObj_heap_other hn⟩
  refine ⟨lr, rfl, rec.fn, _, rec.assign, rec.body, run_yield hl (by rw [hr.params]; rfl), ?_⟩
  rw [hr.params, hr.assign, hr.body]
  let tm : Array Value := rec.tmps.setIfInBounds 18 (.agg #[.int .i64 x0, .int .i64 x1])
  have hF0 : Fr 96 { tmps := tm, defers := [] } [(18, .agg #[.int .i64 x0, .int .i64 x1]), (4, .pointer (some ⟨b4, 0, none⟩)), (6, .pointer (some ⟨b6, 0, none⟩)), (7, .pointer (some ⟨b7, 0, none⟩)), (8, .pointer (some ⟨b8, 0, none⟩))] := by
    refine ⟨by simp [tm, hr.size], rfl, fun t v ht => ?_⟩
    have g : ∀ i v, i ≠ 18 → rec.tmps[i]? = some v → tm[i]? = some v := fun i v hi h => by
      simp only [tm]
      rw [Array.getElem?_setIfInBounds_ne (Ne.symm hi)]
      exact h
    rcases lk_cons ht with ⟨rfl, rfl⟩ | ⟨_, ht⟩
    · simp [tm, hr.size]
    rcases lk_cons ht with ⟨rfl, rfl⟩ | ⟨_, ht⟩
    · exact g _ _ (by decide) hr.r4
    rcases lk_cons ht with ⟨rfl, rfl⟩ | ⟨_, ht⟩
    · exact g _ _ (by decide) hr.r6
    rcases lk_cons ht with ⟨rfl, rfl⟩ | ⟨_, ht⟩
    · exact g _ _ (by decide) hr.r7
    rcases lk_cons ht with ⟨rfl, rfl⟩ | ⟨_, ht⟩
    · exact g _ _ (by decide) hr.r8
    · simp [lk] at ht
  have htm : ((#[18].zip #[Value.agg #[.int .i64 x0, .int .i64 x1]]).foldl (fun tmps (t, a) => tmps.setIfInBounds t a) rec.tmps) = tm := by simp [tm]
  rw [htm]
  refine roundIn_of_wpIn (F := Fence.wide) trivial ?_
  -- the round, over blocks
  have hplain : newV 94 #[.int .i64 0, .int .i64 0] w fun p3 w4 => stA 2 p3 (#[.int .i64 x0, .int .i64 x1]) w4 fun w5 => w5.heap[lr]? = some (.loop rec) ∧ (fun w6 =>
      ldI .i64 p3 w6 fun t8 => ldI .i64 ⟨b4, 0, none⟩ w6 fun t9 => ldI .i64 (p3.add 1) w6 fun t10 => ldI .i64 p3 w6 fun t11 =>
      stV ⟨b7, 0, none⟩ (.int .i64 (IntKind.i64.wrap (t8 + (if (IntKind.i64.wrap ((IntKind.i64.wrap (t10 - t11)) + 1)) < t9 then (IntKind.i64.wrap ((IntKind.i64.wrap (t10 - t11)) + 1)) else t9)))) w6 fun w12 =>
      drw w12 fun w15 => ldI .i64 p3 w15 fun t16 => ldI .i64 ⟨b7, 0, none⟩ w15 fun t17 => ldI .i64 ⟨b7, 0, none⟩ w15 fun t18 => ldI .i64 p3 w15 fun t19 =>
      stV ⟨b6, 0, none⟩ (.int .i64 t16) w15 fun w20 => World.cell? w20 p3 = some (.int .i64 t19) ∧ World.cell? w20 ⟨b7, 0, none⟩ = some (.int .i64 t17) ∧ stV ⟨b7, 0, none⟩ (.int .i64 t17) w20 fun w23 =>
      World.cell? w23 p3 = some (.int .i64 t19) ∧ stV ⟨b8, 0, none⟩ (.bool (decide (t18 > t19))) w23 fun w25 =>
      w25.heap[lr]? = some (.loop { rec with state := .busy }) ∧ k false (w25.putObj lr (.loop { rec with state := .done, pending := some .ret }))) (w5.putObj lr (.loop { rec with state := .busy })) := by
    refine newV.mk fun bx w1 hbx hB1 hm1 => stA.all hB1 rfl rfl (by intro v hv; simp at hv; rcases hv with rfl | rfl <;> rfl) fun w2 hB2 hm2 => ?_
    have l4 := B4.lt
    have l6 := B6.lt
    have l7 := B7.lt
    have l8 := B8.lt
    have lk0 : ∀ {S : Nat → Prop} {w w' : World} {o : Obj}, Sh.Mod S w w' → w.heap[lr]? = some o → ¬ S lr → w'.heap[lr]? = some o := fun hm h hs => (hm.blk lr (Array.getElem?_eq_some_iff.1 h).1 hs).trans h
    have e2 : w2.heap[lr]? = some (.loop rec) := lk0 hm2 (lk0 hm1 hl fun h => h) (by omega)
    have hlt2 : lr < w2.heap.size := (Array.getElem?_eq_some_iff.1 e2).1
    refine ⟨e2, ?_⟩
    generalize hw3 : w2.putObj lr (.loop { rec with state := .busy }) = w3
    have hm3 : Sh.Mod (· = lr) w2 w3 := hw3 ▸ put _ _
    have e3 : w3.heap[lr]? = some (.loop { rec with state := .busy }) := by rw [← hw3]; exact World.putObj_heap_same hlt2
    have hm13 : Sh.Mod (fun b => b = lr) w w3 := (hm1.of0.onNew hm2 hbx).on hm3 fun _ _ h => h
    have C4 := B4.mod hm13 n4
    have C6 := B6.mod hm13 n6
    have C7 := B7.mod hm13 n7
    have C8 := B8.mod hm13 n8
    have CX : Blk w3 bx [.int .i64 x0, .int .i64 x1] 94 := hB2.mod hm3 (by omega)
    refine ldI.mk CX rfl (ldI.mk C4 rfl ?_)
    rw [add_at]
    refine ldI.mk CX rfl (ldI.mk CX rfl (stV.mk C7 (by simp) fun w4 C7 hm4 => drw.mk fun w5 hm5 => ?_))
    have D7 := C7.mod0 hm5
    have CX := (CX.ne hm4 (by omega)).mod0 hm5
    have C6 := (C6.ne hm4 n67).mod0 hm5
    have C8 := (C8.ne hm4 (Ne.symm n78)).mod0 hm5
    have e5 := lk0 hm5 (lk0 hm4 e3 (Ne.symm n7)) fun h => h
    refine ldI.mk CX rfl (ldI.mk D7 rfl (ldI.mk D7 rfl (ldI.mk CX rfl (stV.mk C6 (by simp) fun w6 C6 hm6 => ?_))))
    have CX := CX.ne hm6 (by omega)
    have D7 := D7.ne hm6 (Ne.symm n67)
    refine ⟨CX.cell rfl, D7.cell rfl, stV.mk D7 (by simp) fun w7 D7 hm7 => ⟨(CX.ne hm7 (by omega)).cell rfl, ?_⟩⟩
    have C6 := C6.ne hm7 n67
    have C8 := (C8.ne hm6 (Ne.symm n68)).ne hm7 (Ne.symm n78)
    refine stV.mk C8 (by simp) fun w8 C8 hm8 => ?_
    have e8 := lk0 hm8 (lk0 hm7 (lk0 hm6 e5 (Ne.symm n6)) (Ne.symm n7)) (Ne.symm n8)
    have hlt8 : lr < w8.heap.size := (Array.getElem?_eq_some_iff.1 e8).1
    refine ⟨e8, ?_⟩
    have hm9 := put w8 (.loop { rec with state := .done, pending := some .ret })
    have C6 := C6.ne hm8 n68
    have D7 := D7.ne hm8 n78
    refine h _ _ (World.putObj_heap_same hlt8) (by simp) rfl (C6.mod hm9 n6) (D7.mod hm9 n7) (C8.mod hm9 n8) ?_
    have w1' : Sh.Mod (fun b => b = b6 ∨ b = b7 ∨ b = b8 ∨ b = lr) w w3 := hm13.weaken fun c _ e => .inr (.inr (.inr e))
    exact (((((w1'.on hm4 fun c _ e => .inr (.inl e)).on0 hm5).on hm6 fun c _ e => .inl e).on hm7 fun c _ e => .inr (.inl e)).on hm8 fun c _ e => .inr (.inr (.inl e))).on hm9 fun c _ e => .inr (.inr (.inr e))
  clear h
  have h := hplain
  clear hplain
  have hF := hF0
  generalize ({ tmps := tm, defers := [] } : Act) = a at hF ⊢
  clear hF0
  show rfA.wpIn (FW (some lr)) 0 Try.prog _ a w
  unfold rfA
  refine round_region (noDefer (by rfl)) ?_
  obtain ⟨p3, w4, hp_, hw_, h⟩ := h
  refine RL.val (v := .pointer (some p3)) (w' := w4) hF rfl rfl rfl (by rw [hp_, hw_]; exact r_alloc rfl Try.zeroValue94 rfl) ?_; clear hF; clear a; intro a hF
  obtain ⟨w5, hs1_, hs2_, hs3_, hs4_, h⟩ := h
  refine RL.unit (w' := w5) hF rfl rfl (by rw [hs4_]; exact r_storeA hF rfl rfl rfl Try.sizeOf94 hs1_ hs2_ hs3_) ?_; clear hF; clear a; intro a hF
  refine RL.nil ?_
  obtain ⟨hl5, h⟩ := h
  refine ⟨_, run_beginRound hl5 hr.state, ?_⟩
  show rfB.wpIn (FW (some lr)) 0 Try.prog _ a _
  generalize w5.putObj lr (.loop { rec with state := .busy }) = w6 at h ⊢
  unfold rfB
  refine wpIn_block (wpIn_seq (round_region (noDefer (by rfl)) ?_))
  refine RL.val  hF rfl rfl rfl (r_fieldAddr0 hF rfl rfl Try.runUnderlying94 rfl Try.sizeOf3 rfl) ?_; clear hF; clear a; intro a hF
  obtain ⟨t8, hct8, h⟩ := h
  refine RL.val  hF rfl rfl rfl (r_load hF rfl rfl Try.isAgg3 hct8) ?_; clear hF; clear a; intro a hF
  obtain ⟨t9, hct9, h⟩ := h
  refine RL.val  hF rfl rfl rfl (r_load hF rfl rfl Try.isAgg3 hct9) ?_; clear hF; clear a; intro a hF
  refine RL.val  hF rfl rfl rfl (r_fieldAddr hF rfl rfl Try.runUnderlying94 rfl Try.sizeOf3 rfl) ?_; clear hF; clear a; intro a hF
  obtain ⟨t10, hct10, h⟩ := h
  refine RL.val  hF rfl rfl rfl (r_load hF rfl rfl Try.isAgg3 hct10) ?_; clear hF; clear a; intro a hF
  refine RL.val  hF rfl rfl rfl (r_fieldAddr0 hF rfl rfl Try.runUnderlying94 rfl Try.sizeOf3 rfl) ?_; clear hF; clear a; intro a hF
  obtain ⟨t11, hct11, h⟩ := h
  refine RL.val  hF rfl rfl rfl (r_load hF rfl rfl Try.isAgg3 hct11) ?_; clear hF; clear a; intro a hF
  refine RL.val  hF rfl rfl rfl (r_sub hF rfl rfl rfl) ?_; clear hF; clear a; intro a hF
  refine RL.val  hF rfl rfl rfl (r_add hF rfl rfl rfl) ?_; clear hF; clear a; intro a hF
  refine RL.val  hF rfl rfl rfl (r_min hF rfl rfl rfl) ?_; clear hF; clear a; intro a hF
  refine RL.val  hF rfl rfl rfl (r_add hF rfl rfl rfl) ?_; clear hF; clear a; intro a hF
  obtain ⟨u_, w12, hs1_, hs2_, hs3_, h⟩ := h
  refine RL.unit (w' := w12) hF rfl rfl (by rw [hs3_]; exact r_store hF rfl rfl rfl rfl Try.sizeOf3 hs1_ hs2_) ?_; clear hF; clear a; intro a hF
  refine RL.nil ?_
  refine wpIn_seq (round_draw 896 #[0, 1, 0, 0, 0, 16, 56, 11, 143, 511] 10 (noDefer (by rfl)) moF rfl (by kernel_rfl) (by kernel_rfl) fun hS => ?_)
  obtain ⟨w15, hw, h⟩ := h; rw [← hw]; clear hw
  refine GL.val (v := .pointer (some p3)) (i := 0) hF hS rfl rfl (by kernel_rfl) rfl rfl rfl rfl (fun x => r_fieldAddr0 hF rfl rfl Try.runUnderlying94 rfl Try.sizeOf3 rfl) ?_; clear hF; clear a; intro a hF
  obtain ⟨t16, hct16, h⟩ := h
  refine GL.read (v := .int .i64 t16) (i := 1) hF (fun x => World.cell? x p3 = some (.int .i64 t16)) hS rfl rfl (by kernel_rfl) rfl rfl rfl rfl hct16 (fun x hx => r_load hF rfl rfl Try.isAgg3 hx) ?_; clear hF; clear a; intro a hF
  obtain ⟨t17, hct17, h⟩ := h
  refine GL.read (v := .int .i64 t17) (i := 2) hF (fun x => World.cell? x ⟨b7, 0, none⟩ = some (.int .i64 t17)) hS rfl rfl (by kernel_rfl) rfl rfl rfl rfl hct17 (fun x hx => r_load hF rfl rfl Try.isAgg3 hx) ?_; clear hF; clear a; intro a hF
  obtain ⟨t18, hct18, h⟩ := h
  refine GL.read (v := .int .i64 t18) (i := 3) hF (fun x => World.cell? x ⟨b7, 0, none⟩ = some (.int .i64 t18)) hS rfl rfl (by kernel_rfl) rfl rfl rfl rfl hct18 (fun x hx => r_load hF rfl rfl Try.isAgg3 hx) ?_; clear hF; clear a; intro a hF
  refine GL.val (v := .pointer (some p3)) (i := 4) hF hS rfl rfl (by kernel_rfl) rfl rfl rfl rfl (fun x => r_fieldAddr0 hF rfl rfl Try.runUnderlying94 rfl Try.sizeOf3 rfl) ?_; clear hF; clear a; intro a hF
  obtain ⟨t19, hct19, h⟩ := h
  refine GL.read (v := .int .i64 t19) (i := 5) hF (fun x => World.cell? x p3 = some (.int .i64 t19)) hS rfl rfl (by kernel_rfl) rfl rfl rfl rfl hct19 (fun x hx => r_load hF rfl rfl Try.isAgg3 hx) ?_; clear hF; clear a; intro a hF
  refine GL.val (v := .bool (decide (t18 > t19))) (i := 6) hF hS rfl rfl (by kernel_rfl) rfl rfl rfl rfl (fun x => r_gtr hF rfl rfl rfl) ?_; clear hF; clear a; intro a hF
  refine GL.act (i := 7) (pend' := [(5, fun x => World.cell? x p3 = some (.int .i64 t19)), (2, fun x => World.cell? x ⟨b7, 0, none⟩ = some (.int .i64 t17))]) hS (by kernel_rfl) rfl (by kernel_rfl) ?_
  obtain ⟨u_, w20, hs1_, hs2_, hs3_, h⟩ := h
  obtain ⟨hk21, hk22, h⟩ := h
  refine op_unit (w' := w20) hF rfl rfl rfl (by rw [hs3_]; exact r_store hF rfl rfl rfl rfl Try.sizeOf3 hs1_ hs2_) ⟨hk21, hk22, trivial⟩ ?_; clear hF; clear a; intro a hF
  refine GL.act (i := 8) (pend' := [(5, fun x => World.cell? x p3 = some (.int .i64 t19))]) hS (by kernel_rfl) rfl (by kernel_rfl) ?_
  obtain ⟨u_, w23, hs1_, hs2_, hs3_, h⟩ := h
  obtain ⟨hk24, h⟩ := h
  refine op_unit (w' := w23) hF rfl rfl rfl (by rw [hs3_]; exact r_store hF rfl rfl rfl rfl Try.sizeOf3 hs1_ hs2_) ⟨hk24, trivial⟩ ?_; clear hF; clear a; intro a hF
  refine GL.act (i := 9) (pend' := []) hS (by kernel_rfl) rfl (by kernel_rfl) ?_
  obtain ⟨u_, w25, hs1_, hs2_, hs3_, h⟩ := h
  refine op_unit (w' := w25) hF rfl rfl rfl (by rw [hs3_]; exact r_store hF rfl rfl rfl rfl Try.sizeOf4 hs1_ hs2_) trivial ?_; clear hF; clear a; intro a hF
  refine GL.done (by kernel_rfl) ?_
  obtain ⟨hl25, h⟩ := h
  refine wpIn_ret ?_
  exact ⟨_, _, run_endRound (some .ret) hl25, false, rfl, h⟩
end Go.Proofs.Ytfgodebgjemljaa
