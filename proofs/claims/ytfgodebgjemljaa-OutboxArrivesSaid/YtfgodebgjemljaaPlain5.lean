/-
  Printed by a program: the plain texts of the functions, and their ties to the code.
-/
import Derived.Test.YtfgodebgjemljaaProg
import Derived.Test.YtfgodebgjemljaaSh4
import Derived.KernelRfl
import Derived.Test.YtfgodebgjemljaaOF5
namespace Go.Proofs.Ytfgodebgjemljaa
open Go Go.Sh
set_option linter.unusedVariables false
set_option linter.unusedSimpArgs false
theorem mo : Try.prog.follows .mixedOrders = true := by kernel_rfl
/-- caravel/ranges.New -/
def C27 (w : World) (K : Option Addr → World → Prop) : Prop := CallsV Try.prog 27 #[] w fun v w' => ∃ (r0 : Option Addr), v = .pointer r0 ∧ K r0 w'
theorem C27.mono {w : World} {K : Option Addr → World → Prop} (h : C27 w K) {K' : Option Addr → World → Prop} (hk : ∀ r0 w', K r0 w' → K' r0 w') : C27 w K' :=
  CallsV.mono h fun v w' ⟨r0, e, h⟩ => ⟨r0, e, hk _ w' h⟩
def sh27 (w : World) (K : Option Addr → World → Prop) : Prop :=
  newV 89 #[.bool true, Slc.nil.v] w fun p5 w6 =>
  K (some p5) w6

/-- caravel/outbox.New -/
def C6 (a0 : Int) (w : World) (K : Option Addr → Int → World → Prop) : Prop := CallsV Try.prog 6 #[.int .i64 a0] w fun v w' => ∃ (r0 : Option Addr) (r1 : Int), v = .tuple #[.pointer r0, .int .i64 r1] ∧ K r0 r1 w'
theorem C6.mono {a0 : Int} {w : World} {K : Option Addr → Int → World → Prop} (h : C6 a0 w K) {K' : Option Addr → Int → World → Prop} (hk : ∀ r0 r1 w', K r0 r1 w' → K' r0 r1 w') : C6 a0 w K' :=
  CallsV.mono h fun v w' ⟨r0, r1, e, h⟩ => ⟨r0, r1, e, hk _ _ w' h⟩
def sh6 (a0 : Int) (w : World) (K : Option Addr → Int → World → Prop) : Prop :=
  jn (fun (v5 : Unit) w6 =>
  C27 w6 fun r12 w11 =>
  C27 w11 fun r14 w13 =>
  newV 70 #[.int .i64 a0, .int .i64 0, Slc.nil.v, .int .i64 0, .pointer r12, .pointer r14, .int .i64 0] w13 fun p15 w16 =>
  K (some p15) 0 w16) fun J7 =>
  jn (fun (v19 : Bool) w20 =>
  ifM v19
  (K none 2 w20)
  (J7 () w20)) fun J21 =>
  ifM (decide (a0 < 0))
  (J21 true w)
  (J21 (decide (a0 > 1048576)) w)

/-- caravel/inbox.New -/
def C24 (a0 : Int) (w : World) (K : Option Addr → Int → World → Prop) : Prop := CallsV Try.prog 24 #[.int .i64 a0] w fun v w' => ∃ (r0 : Option Addr) (r1 : Int), v = .tuple #[.pointer r0, .int .i64 r1] ∧ K r0 r1 w'
theorem C24.mono {a0 : Int} {w : World} {K : Option Addr → Int → World → Prop} (h : C24 a0 w K) {K' : Option Addr → Int → World → Prop} (hk : ∀ r0 r1 w', K r0 r1 w' → K' r0 r1 w') : C24 a0 w K' :=
  CallsV.mono h fun v w' ⟨r0, r1, e, h⟩ => ⟨r0, r1, e, hk _ _ w' h⟩
def sh24 (a0 : Int) (w : World) (K : Option Addr → Int → World → Prop) : Prop :=
  jn (fun (v5 : Unit) w6 =>
  newM w6 fun m11 w12 =>
  newV 83 #[.bool true, .int .i64 a0, .int .i64 0, .int .i64 a0, .int .i64 0, .int .i64 0, .bool false, .map m11] w12 fun p13 w14 =>
  K (some p13) 0 w14) fun J7 =>
  jn (fun (v17 : Bool) w18 =>
  ifM v17
  (K none 2 w18)
  (J7 () w18)) fun J19 =>
  ifM (decide (a0 < 0))
  (J19 true w)
  (J19 (decide (a0 > 1048576)) w)

/-- (*caravel/outbox.Outbox).none -/
def C28 (a0 : Option Addr) (w : World) (K : Bool → World → Prop) : Prop := CallsV Try.prog 28 #[.pointer a0] w fun v w' => ∃ (r0 : Bool), v = .bool r0 ∧ K r0 w'
theorem C28.mono {a0 : Option Addr} {w : World} {K : Bool → World → Prop} (h : C28 a0 w K) {K' : Bool → World → Prop} (hk : ∀ r0 w', K r0 w' → K' r0 w') : C28 a0 w K' :=
  CallsV.mono h fun v w' ⟨r0, e, h⟩ => ⟨r0, e, hk _ w' h⟩
def sh28 (a0 : Option Addr) (w : World) (K : Bool → World → Prop) : Prop :=
  jn (fun (v5 : Bool) w6 =>
  K v5 w6) fun J7 =>
  ifM a0.isNone
  (J7 true w)
  (nn a0 fun p10 =>
  ldP (p10.add 4) w fun t11 =>
  J7 t11.isNone w)

/-- (*caravel/outbox.Outbox).Write -/
def C7 (a0 : Option Addr) (a1 : Slc) (w : World) (K : Int → Int → World → Prop) : Prop := CallsV Try.prog 7 #[.pointer a0, a1.v] w fun v w' => ∃ (r0 : Int) (r1 : Int), v = .tuple #[.int .i64 r0, .int .i64 r1] ∧ K r0 r1 w'
theorem C7.mono {a0 : Option Addr} {a1 : Slc} {w : World} {K : Int → Int → World → Prop} (h : C7 a0 a1 w K) {K' : Int → Int → World → Prop} (hk : ∀ r0 r1 w', K r0 r1 w' → K' r0 r1 w') : C7 a0 a1 w K' :=
  CallsV.mono h fun v w' ⟨r0, r1, e, h⟩ => ⟨r0, r1, e, hk _ _ w' h⟩
def sh7 (a0 : Option Addr) (a1 : Slc) (w : World) (K : Int → Int → World → Prop) : Prop :=
  jn (fun (v5 : Unit) w6 =>
  drw w6 fun w11 =>
  nn a0 fun p12 =>
  ldI .i64 p12 w11 fun t13 =>
  nn a0 fun p14 =>
  ldL (p14.add 2) w11 fun t15 =>
  drw w11 fun w18 =>
  nn a0 fun p19 =>
  ldL (p19.add 2) w18 fun t20 =>
  0 ≤ (if (IntKind.i64.wrap (t13 - (t15.len : Int))) < (a1.len : Int) then (IntKind.i64.wrap (t13 - (t15.len : Int))) else (a1.len : Int)) ∧ (if (IntKind.i64.wrap (t13 - (t15.len : Int))) < (a1.len : Int) then (IntKind.i64.wrap (t13 - (t15.len : Int))) else (a1.len : Int)) ≤ (a1.cap : Int) ∧ 
  ∃ (t24 : Slc) (w23 : World), (∀ t, rn Try.prog (Builtin.append_ #[22, 22] t #[t20.v, (a1.sub 1 0 ((if (IntKind.i64.wrap (t13 - (t15.len : Int))) < (a1.len : Int) then (IntKind.i64.wrap (t13 - (t15.len : Int))) else (a1.len : Int)).toNat) a1.cap).v]) t24.v w18 w23) ∧
  nn a0 fun p25 =>
  stV (p25.add 2) (t24.v) w23 fun w26 =>
  K (if (IntKind.i64.wrap (t13 - (t15.len : Int))) < (a1.len : Int) then (IntKind.i64.wrap (t13 - (t15.len : Int))) else (a1.len : Int)) 0 w26) fun J7 =>
  C28 a0 w fun r32 w31 =>
  ifM r32
  (K 0 1 w31)
  (nn a0 fun p37 =>
  ldI .i64 (p37.add 6) w31 fun t38 =>
  ifM (t38 != 0)
  (K 0 32 w31)
  (J7 () w31))

/-- (*caravel/outbox.Outbox).Finish -/
def C15 (a0 : Option Addr) (w : World) (K : Int → World → Prop) : Prop := CallsV Try.prog 15 #[.pointer a0] w fun v w' => ∃ (r0 : Int), v = .int .i64 r0 ∧ K r0 w'
theorem C15.mono {a0 : Option Addr} {w : World} {K : Int → World → Prop} (h : C15 a0 w K) {K' : Int → World → Prop} (hk : ∀ r0 w', K r0 w' → K' r0 w') : C15 a0 w K' :=
  CallsV.mono h fun v w' ⟨r0, e, h⟩ => ⟨r0, e, hk _ w' h⟩
def sh15 (a0 : Option Addr) (w : World) (K : Int → World → Prop) : Prop :=
  jn (fun (v5 : Unit) w6 =>
  nn a0 fun p11 =>
  stV (p11.add 6) (.int .i64 1) w6 fun w12 =>
  K 0 w12) fun J7 =>
  C28 a0 w fun r18 w17 =>
  ifM r18
  (K 1 w17)
  (nn a0 fun p23 =>
  ldI .i64 (p23.add 6) w17 fun t24 =>
  ifM (t24 != 0)
  (K 32 w17)
  (J7 () w17))

/-- (*caravel/outbox.Outbox).Done -/
def C11 (a0 : Option Addr) (w : World) (K : Bool → World → Prop) : Prop := CallsV Try.prog 11 #[.pointer a0] w fun v w' => ∃ (r0 : Bool), v = .bool r0 ∧ K r0 w'
theorem C11.mono {a0 : Option Addr} {w : World} {K : Bool → World → Prop} (h : C11 a0 w K) {K' : Bool → World → Prop} (hk : ∀ r0 w', K r0 w' → K' r0 w') : C11 a0 w K' :=
  CallsV.mono h fun v w' ⟨r0, e, h⟩ => ⟨r0, e, hk _ w' h⟩
def sh11 (a0 : Option Addr) (w : World) (K : Bool → World → Prop) : Prop :=
  drw w fun w5 =>
  jn (fun (v6 : Bool) w7 =>
  K v6 w7) fun J8 =>
  C28 a0 w5 fun r11 w10 =>
  ifM (!r11)
  (nn a0 fun p13 =>
  ldI .i64 (p13.add 6) w10 fun t14 =>
  nn a0 fun p15 =>
  ldL (p15.add 2) w10 fun t16 =>
  ∃ t17 : Bool, (∀ w, rn Try.prog (Op.equal 75 (.agg (#[.int .i64 t14, .int .i64 (t16.len : Int)])) (.agg (#[.int .i64 4, .int .i64 0]))) t17 w w) ∧
  J8 t17 w10)
  (J8 false w10)

/-- (*caravel/ranges.Set).none -/
def C53 (a0 : Option Addr) (w : World) (K : Bool → World → Prop) : Prop := CallsV Try.prog 53 #[.pointer a0] w fun v w' => ∃ (r0 : Bool), v = .bool r0 ∧ K r0 w'
theorem C53.mono {a0 : Option Addr} {w : World} {K : Bool → World → Prop} (h : C53 a0 w K) {K' : Bool → World → Prop} (hk : ∀ r0 w', K r0 w' → K' r0 w') : C53 a0 w K' :=
  CallsV.mono h fun v w' ⟨r0, e, h⟩ => ⟨r0, e, hk _ w' h⟩
def sh53 (a0 : Option Addr) (w : World) (K : Bool → World → Prop) : Prop :=
  jn (fun (v5 : Bool) w6 =>
  K v5 w6) fun J7 =>
  ifM a0.isNone
  (J7 true w)
  (nn a0 fun p10 =>
  ldB p10 w fun t11 =>
  J7 (!t11) w)

/-- slices.Clone[[]caravel/api.Span,caravel/api.Span] -/
def C56 (a0 : Slc) (w : World) (K : Slc → World → Prop) : Prop := CallsV Try.prog 56 #[a0.v] w fun v w' => ∃ (r0 : Slc), v = r0.v ∧ K r0 w'
theorem C56.mono {a0 : Slc} {w : World} {K : Slc → World → Prop} (h : C56 a0 w K) {K' : Slc → World → Prop} (hk : ∀ r0 w', K r0 w' → K' r0 w') : C56 a0 w K' :=
  CallsV.mono h fun v w' ⟨r0, e, h⟩ => ⟨r0, e, hk _ w' h⟩
def sh56 (a0 : Slc) (w : World) (K : Slc → World → Prop) : Prop :=
  jn (fun (v5 : Unit) w6 =>
  ∃ (t12 : Slc) (w11 : World), rn Try.prog (Instr.buildSlice 87 0 ([] : List (Nat × Value)).toArray) t12.v w6 w11 ∧
  ∃ (t14 : Slc) (w13 : World), (∀ t, rn Try.prog (Builtin.append_ #[87, 87] t #[t12.v, a0.v]) t14.v w11 w13) ∧
  K t14 w13) fun J7 =>
  ifM a0.a.isNone
  (K Slc.nil w)
  (J7 () w)

/-- (*caravel/ranges.Set).All$1 -/
def C55 (a0 : Value) (c0 : Option Addr) (w : World) (K : World → Prop) : Prop := CallsV Try.prog 55 #[a0, .pointer c0] w fun v w' => v = .tuple #[] ∧ K w'
theorem C55.mono {a0 : Value} {c0 : Option Addr} {w : World} {K : World → Prop} (h : C55 a0 c0 w K) {K' : World → Prop} (hk : ∀ w', K  w' → K'  w') : C55 a0 c0 w K' :=
  CallsV.mono h fun v w' ⟨e, h⟩ => ⟨e, hk w' h⟩
def sh55 (a0 : Value) (c0 : Option Addr) (w : World) (K : World → Prop) : Prop :=
  jn (fun (v3 : Unit) w4 =>
  nn c0 fun p10 =>
  ldP p10 w4 fun t9 =>
  nn t9 fun p11 =>
  ldL (p11.add 1) w4 fun t12 =>
  C56 t12 w4 fun r14 w13 =>
  Lp (fun (s15 : Int) N17 w16 =>
  jn (fun (v23 : Unit) w24 =>
  jn (fun (v29 : Unit) w30 =>
  N17 (IntKind.i64.wrap (s15 + 1)) w30) fun J31 =>
  idx 2 r14 s15 fun p37 =>
  ldA 2 p37 w24 fun t39 =>
  newV 94 #[.int .i64 0, .int .i64 0] w24 fun p40 w41 =>
  stA 2 p40 t39 w41 fun w42 =>
  ldA 2 p40 w42 fun t45 =>
  Yl Try.prog a0 #[.agg t45] w42 fun r47 w46 =>
  ifM (!r47)
  (K w46)
  (J31 () w46)) fun J25 =>
  ifM (decide (s15 < (r14.len : Int)))
  (J25 () w16)
  (K w16)) 0 w13) fun J5 =>
  nn c0 fun p51 =>
  ldP p51 w fun t50 =>
  C53 t50 w fun r53 w52 =>
  ifM r53
  (K w52)
  (J5 () w52)

/-- (*caravel/ranges.Set).All -/
def C47 (a0 : Option Addr) (w : World) (K : Value → World → Prop) : Prop := CallsV Try.prog 47 #[.pointer a0] w fun v w' => ∃ (r0 : Value), v = r0 ∧ K r0 w'
theorem C47.mono {a0 : Option Addr} {w : World} {K : Value → World → Prop} (h : C47 a0 w K) {K' : Value → World → Prop} (hk : ∀ r0 w', K r0 w' → K' r0 w') : C47 a0 w K' :=
  CallsV.mono h fun v w' ⟨r0, e, h⟩ => ⟨r0, e, hk _ w' h⟩
def sh47 (a0 : Option Addr) (w : World) (K : Value → World → Prop) : Prop :=
  newV 67 #[.pointer a0] w fun p3 w4 =>
  K (Value.func (Fn.func 55) #[] #[.pointer (some p3)]) w4

/-- (*caravel/outbox.Outbox).written -/
def C32 (a0 : Option Addr) (w : World) (K : Int → World → Prop) : Prop := CallsV Try.prog 32 #[.pointer a0] w fun v w' => ∃ (r0 : Int), v = .int .i64 r0 ∧ K r0 w'
theorem C32.mono {a0 : Option Addr} {w : World} {K : Int → World → Prop} (h : C32 a0 w K) {K' : Int → World → Prop} (hk : ∀ r0 w', K r0 w' → K' r0 w') : C32 a0 w K' :=
  CallsV.mono h fun v w' ⟨r0, e, h⟩ => ⟨r0, e, hk _ w' h⟩
def sh32 (a0 : Option Addr) (w : World) (K : Int → World → Prop) : Prop :=
  drw w fun w5 =>
  nn a0 fun p6 =>
  ldI .i64 (p6.add 1) w5 fun t7 =>
  nn a0 fun p8 =>
  ldL (p8.add 2) w5 fun t9 =>
  K (IntKind.i64.wrap (t7 + (t9.len : Int))) w5

/-- (*caravel/outbox.Outbox).due$1 -/
def C48 (c0 : Option Addr) (c1 : Option Addr) (w : World) (K : Int → World → Prop) : Prop := CallsV Try.prog 48 #[.pointer c0, .pointer c1] w fun v w' => ∃ (r0 : Int), v = .int .i64 r0 ∧ K r0 w'
theorem C48.mono {c0 : Option Addr} {c1 : Option Addr} {w : World} {K : Int → World → Prop} (h : C48 c0 c1 w K) {K' : Int → World → Prop} (hk : ∀ r0 w', K r0 w' → K' r0 w') : C48 c0 c1 w K' :=
  CallsV.mono h fun v w' ⟨r0, e, h⟩ => ⟨r0, e, hk _ w' h⟩
def sh48 (c0 : Option Addr) (c1 : Option Addr) (w : World) (K : Int → World → Prop) : Prop :=
  drw w fun w5 =>
  nn c0 fun p7 =>
  ldP p7 w5 fun t6 =>
  nn c1 fun p9 =>
  ldI .i64 p9 w5 fun t8 =>
  C32 t6 w5 fun r11 w10 =>
  World.cell? w10 p9 = some (.int .i64 t8) ∧ K (if t8 < r11 then t8 else r11) w10

/-- (*caravel/outbox.Outbox).due -/
def C29 (a0 : Option Addr) (a1 : Int) (a2 : Int) (w : World) (K : Int → Int → Bool → World → Prop) : Prop := CallsV Try.prog 29 #[.pointer a0, .int .i64 a1, .int .i64 a2] w fun v w' => ∃ (r0 : Int) (r1 : Int) (r2 : Bool), v = .tuple #[.int .i64 r0, .int .i64 r1, .bool r2] ∧ K r0 r1 r2 w'
theorem C29.mono {a0 : Option Addr} {a1 : Int} {a2 : Int} {w : World} {K : Int → Int → Bool → World → Prop} (h : C29 a0 a1 a2 w K) {K' : Int → Int → Bool → World → Prop} (hk : ∀ r0 r1 r2 w', K r0 r1 r2 w' → K' r0 r1 r2 w') : C29 a0 a1 a2 w K' :=
  CallsV.mono h fun v w' ⟨r0, r1, r2, e, h⟩ => ⟨r0, r1, r2, e, hk _ _ _ w' h⟩
def sh29 (a0 : Option Addr) (a1 : Int) (a2 : Int) (w : World) (K : Int → Int → Bool → World → Prop) : Prop :=
  newV 23 #[.pointer a0] w fun p3 w4 =>
  newV 3 #[.int .i64 a1] w4 fun p5 w6 =>
  newV 3 #[.int .i64 a2] w6 fun p7 w8 =>
  newV 3 #[.int .i64 0] w8 fun p9 w10 =>
  newV 3 #[.int .i64 0] w10 fun p11 w12 =>
  newV 4 #[.bool false] w12 fun p13 w14 =>
  jn (fun (v17 : Unit) w18 =>
  ldP p3 w18 fun t25 =>
  nn t25 fun p26 =>
  ldP (p26.add 4) w18 fun t27 =>
  C47 t27 w18 fun r29 w28 =>
  rf29 r29 p5 p9 p11 p13 w28 (fun D30 w31 =>
  jn (fun (v36 : Unit) w37 =>
  drw w37 fun w42 =>
  jn (fun (v43 : Unit) w44 =>
  rtD D30 w44 fun w47 =>
  ldI .i64 p9 w47 fun t48 =>
  ldI .i64 p11 w47 fun t49 =>
  ldB p13 w47 fun t50 =>
  K t48 t49 t50 w47) fun J45 =>
  ldP p3 w42 fun t51 =>
  nn t51 fun p52 =>
  ldI .i64 (p52.add 3) w42 fun t53 =>
  ldP p3 w42 fun t54 =>
  nn t54 fun p55 =>
  ldI .i64 (p55.add 3) w42 fun t56 =>
  ldP p3 w42 fun t57 =>
  nn t57 fun p58 =>
  ldI .i64 (p58.add 6) w42 fun t59 =>
  ifM (t59 == 1)
  (stV p9 (.int .i64 t53) w42 fun w61 =>
  World.cell? w61 (p55.add 3) = some (.int .i64 t56) ∧ World.cell? w61 p3 = some (.pointer t54) ∧ stV p11 (.int .i64 t56) w61 fun w64 =>
  stV p13 (.bool true) w64 fun w65 =>
  J45 () w65)
  (ldP p3 w42 fun t66 =>
  nn t66 fun p67 =>
  ldI .i64 (p67.add 6) w42 fun t68 =>
  stV p9 (.int .i64 t53) w42 fun w69 =>
  World.cell? w69 (p67.add 6) = some (.int .i64 t68) ∧ World.cell? w69 p3 = some (.pointer t66) ∧ World.cell? w69 (p55.add 3) = some (.int .i64 t56) ∧ World.cell? w69 p3 = some (.pointer t54) ∧ stV p11 (.int .i64 t56) w69 fun w74 =>
  World.cell? w74 (p67.add 6) = some (.int .i64 t68) ∧ World.cell? w74 p3 = some (.pointer t66) ∧ stV p13 (.bool (t68 == 3)) w74 fun w77 =>
  J45 () w77)) fun J38 =>
  drw w31 fun w80 =>
  ldP p3 w80 fun t81 =>
  nn t81 fun p82 =>
  ldI .i64 (p82.add 3) w80 fun t83 =>
  ldP p3 w80 fun t84 =>
  C32 t84 w80 fun r86 w85 =>
  World.cell? w85 (p82.add 3) = some (.int .i64 t83) ∧ World.cell? w85 p3 = some (.pointer t81) ∧ ifM (decide (t83 < r86))
  (jn (fun (v91 : Unit) w92 =>
  drw w92 fun w97 =>
  ldP p3 w97 fun t98 =>
  nn t98 fun p99 =>
  ldI .i64 (p99.add 3) w97 fun t100 =>
  ldI .i64 p5 w97 fun t101 =>
  ldP p3 w97 fun t102 =>
  nn t102 fun p103 =>
  ldI .i64 (p103.add 3) w97 fun t104 =>
  ∃ f107 x108 y109, (Value.func (Fn.func 48) #[] #[.pointer (some p3), .pointer (some p7)]) = .func (.func f107) x108 y109 ∧ (∀ args w, (callFunc f107 args).run Try.prog w = .ok (.enter f107 args) w) ∧ CallsV Try.prog f107 (x108 ++ #[] ++ y109) w97 fun v_ w105 => ∃ (r106 : Int), v_ = .int .i64 r106 ∧ 
  World.cell? w105 (p103.add 3) = some (.int .i64 t104) ∧ World.cell? w105 p3 = some (.pointer t102) ∧ World.cell? w105 p5 = some (.int .i64 t101) ∧ World.cell? w105 (p99.add 3) = some (.int .i64 t100) ∧ World.cell? w105 p3 = some (.pointer t98) ∧ stV p11 (.int .i64 (IntKind.i64.wrap (t100 + (if (IntKind.i64.wrap (r106 - t104)) < t101 then (IntKind.i64.wrap (r106 - t104)) else t101)))) w105 fun w115 =>
  drw w115 fun w118 =>
  ldP p3 w118 fun t119 =>
  nn t119 fun p120 =>
  ldI .i64 (p120.add 3) w118 fun t121 =>
  ldI .i64 p11 w118 fun t122 =>
  ldI .i64 p11 w118 fun t123 =>
  ldP p3 w118 fun t124 =>
  nn t124 fun p125 =>
  ldI .i64 (p125.add 3) w118 fun t126 =>
  stV p9 (.int .i64 t121) w118 fun w127 =>
  World.cell? w127 (p125.add 3) = some (.int .i64 t126) ∧ World.cell? w127 p3 = some (.pointer t124) ∧ World.cell? w127 p11 = some (.int .i64 t122) ∧ stV p11 (.int .i64 t122) w127 fun w131 =>
  World.cell? w131 (p125.add 3) = some (.int .i64 t126) ∧ World.cell? w131 p3 = some (.pointer t124) ∧ stV p13 (.bool (decide (t123 > t126))) w131 fun w134 =>
  rtD D30 w134 fun w135 =>
  ldI .i64 p9 w135 fun t136 =>
  ldI .i64 p11 w135 fun t137 =>
  ldB p13 w135 fun t138 =>
  K t136 t137 t138 w135) fun J93 =>
  drw w85 fun w141 =>
  ldP p3 w141 fun t142 =>
  nn t142 fun p143 =>
  ldI .i64 (p143.add 3) w141 fun t144 =>
  ldI .i64 p7 w141 fun t145 =>
  ifM (decide (t144 ≥ t145))
  (stV p9 (.int .i64 0) w141 fun w148 =>
  stV p11 (.int .i64 0) w148 fun w149 =>
  stV p13 (.bool false) w149 fun w150 =>
  rtD D30 w150 fun w151 =>
  ldI .i64 p9 w151 fun t152 =>
  ldI .i64 p11 w151 fun t153 =>
  ldB p13 w151 fun t154 =>
  K t152 t153 t154 w151)
  (J93 () w141))
  (J38 () w85)) (fun D30 w31 =>
  rtD D30 w31 fun w155 =>
  ldI .i64 p9 w155 fun t156 =>
  ldI .i64 p11 w155 fun t157 =>
  ldB p13 w155 fun t158 =>
  K t156 t157 t158 w155)) fun J19 =>
  ldI .i64 p5 w14 fun t161 =>
  ifM (decide (t161 < 0))
  (stV p9 (.int .i64 0) w14 fun w164 =>
  stV p11 (.int .i64 0) w164 fun w165 =>
  stV p13 (.bool false) w165 fun w166 =>
  ldI .i64 p9 w166 fun t167 =>
  ldI .i64 p11 w166 fun t168 =>
  ldB p13 w166 fun t169 =>
  K t167 t168 t169 w166)
  (J19 () w14)

/-- slices.Clone[[]byte,byte] -/
def C30 (a0 : Slc) (w : World) (K : Slc → World → Prop) : Prop := CallsV Try.prog 30 #[a0.v] w fun v w' => ∃ (r0 : Slc), v = r0.v ∧ K r0 w'
theorem C30.mono {a0 : Slc} {w : World} {K : Slc → World → Prop} (h : C30 a0 w K) {K' : Slc → World → Prop} (hk : ∀ r0 w', K r0 w' → K' r0 w') : C30 a0 w K' :=
  CallsV.mono h fun v w' ⟨r0, e, h⟩ => ⟨r0, e, hk _ w' h⟩
def sh30 (a0 : Slc) (w : World) (K : Slc → World → Prop) : Prop :=
  jn (fun (v5 : Unit) w6 =>
  newV 5 #[] w6 fun p12 w11 =>
  ∃ (t14 : Slc) (w13 : World), (∀ t, rn Try.prog (Builtin.append_ #[22, 22] t #[(Slc.mk (some p12) 0 0).v, a0.v]) t14.v w11 w13) ∧
  K t14 w13) fun J7 =>
  ifM a0.a.isNone
  (K Slc.nil w)
  (J7 () w)

/-- (*caravel/ranges.Set).wrong -/
def C49 (a0 : Option Addr) (a1 : Int) (a2 : Int) (w : World) (K : Int → World → Prop) : Prop := CallsV Try.prog 49 #[.pointer a0, .int .i64 a1, .int .i64 a2] w fun v w' => ∃ (r0 : Int), v = .int .i64 r0 ∧ K r0 w'
theorem C49.mono {a0 : Option Addr} {a1 : Int} {a2 : Int} {w : World} {K : Int → World → Prop} (h : C49 a0 a1 a2 w K) {K' : Int → World → Prop} (hk : ∀ r0 w', K r0 w' → K' r0 w') : C49 a0 a1 a2 w K' :=
  CallsV.mono h fun v w' ⟨r0, e, h⟩ => ⟨r0, e, hk _ w' h⟩
def sh49 (a0 : Option Addr) (a1 : Int) (a2 : Int) (w : World) (K : Int → World → Prop) : Prop :=
  jn (fun (v5 : Unit) w6 =>
  K 0 w6) fun J7 =>
  C53 a0 w fun r14 w13 =>
  ifM r14
  (K 1 w13)
  (jn (fun (v19 : Bool) w20 =>
  ifM v19
  (K 2 w20)
  (J7 () w20)) fun J21 =>
  ifM (decide (a1 < 0))
  (J21 true w13)
  (ifM (decide (a2 > 4611686018427387903))
  (J21 true w13)
  (J21 (decide (a1 > a2)) w13)))

/-- slices.BinarySearchFunc[[]caravel/api.Span,caravel/api.Span,int] -/
def C57 (a0 : Slc) (a1 : Int) (a2 : Value) (w : World) (K : Int → Bool → World → Prop) : Prop := CallsV Try.prog 57 #[a0.v, .int .i64 a1, a2] w fun v w' => ∃ (r0 : Int) (r1 : Bool), v = .tuple #[.int .i64 r0, .bool r1] ∧ K r0 r1 w'
theorem C57.mono {a0 : Slc} {a1 : Int} {a2 : Value} {w : World} {K : Int → Bool → World → Prop} (h : C57 a0 a1 a2 w K) {K' : Int → Bool → World → Prop} (hk : ∀ r0 r1 w', K r0 r1 w' → K' r0 r1 w') : C57 a0 a1 a2 w K' :=
  CallsV.mono h fun v w' ⟨r0, r1, e, h⟩ => ⟨r0, r1, e, hk _ _ w' h⟩
def sh57 (a0 : Slc) (a1 : Int) (a2 : Value) (w : World) (K : Int → Bool → World → Prop) : Prop :=
  jn (fun (v9 : Int) w10 =>
  jn (fun (v15 : Int × Bool) w16 =>
  K v15.1 v15.2 w16) fun J17 =>
  ifM (decide (v9 < (a0.len : Int)))
  (idx 2 a0 v9 fun p20 =>
  ldA 2 p20 w10 fun t22 =>
  ∃ f25 x26 y27, a2 = .func (.func f25) x26 y27 ∧ (∀ args w, (callFunc f25 args).run Try.prog w = .ok (.enter f25 args) w) ∧ CallsV Try.prog f25 (x26 ++ #[.agg t22, .int .i64 a1] ++ y27) w10 fun v_ w23 => ∃ (r24 : Int), v_ = .int .i64 r24 ∧ 
  J17 (v9, r24 == 0) w23)
  (J17 (v9, false) w10)) fun J11 =>
  Lp (fun (s28 : Int × Int) N30 w29 =>
  jn (fun (v34 : Unit) w35 =>
  idx 2 a0 (IntKind.i64.wrap (shrZ .u64 (IntKind.u64.wrap (IntKind.i64.wrap (s28.1 + s28.2))) 1)) fun p42 =>
  ldA 2 p42 w35 fun t44 =>
  ∃ f47 x48 y49, a2 = .func (.func f47) x48 y49 ∧ (∀ args w, (callFunc f47 args).run Try.prog w = .ok (.enter f47 args) w) ∧ CallsV Try.prog f47 (x48 ++ #[.agg t44, .int .i64 a1] ++ y49) w35 fun v_ w45 => ∃ (r46 : Int), v_ = .int .i64 r46 ∧ 
  ifM (decide (r46 < 0))
  (N30 (IntKind.i64.wrap ((IntKind.i64.wrap (shrZ .u64 (IntKind.u64.wrap (IntKind.i64.wrap (s28.1 + s28.2))) 1)) + 1), s28.2) w45)
  (N30 (s28.1, IntKind.i64.wrap (shrZ .u64 (IntKind.u64.wrap (IntKind.i64.wrap (s28.1 + s28.2))) 1)) w45)) fun J36 =>
  ifM (decide (s28.1 < s28.2))
  (J36 () w29)
  (J11 s28.1 w29)) (0, (a0.len : Int)) w

/-- (*caravel/ranges.Set).from$1 -/
def C58 (a0 : Array Value) (a1 : Int) (w : World) (K : Int → World → Prop) : Prop := CallsV Try.prog 58 #[.agg a0, .int .i64 a1] w fun v w' => ∃ (r0 : Int), v = .int .i64 r0 ∧ K r0 w'
theorem C58.mono {a0 : Array Value} {a1 : Int} {w : World} {K : Int → World → Prop} (h : C58 a0 a1 w K) {K' : Int → World → Prop} (hk : ∀ r0 w', K r0 w' → K' r0 w') : C58 a0 a1 w K' :=
  CallsV.mono h fun v w' ⟨r0, e, h⟩ => ⟨r0, e, hk _ w' h⟩
def sh58 (a0 : Array Value) (a1 : Int) (w : World) (K : Int → World → Prop) : Prop :=
  newV 94 a0 w fun p3 w4 =>
  ldI .i64 (p3.add 1) w4 fun t7 =>
  K (IntKind.i64.wrap (t7 - a1)) w4

/-- (*caravel/ranges.Set).from -/
def C50 (a0 : Option Addr) (a1 : Int) (w : World) (K : Int → World → Prop) : Prop := CallsV Try.prog 50 #[.pointer a0, .int .i64 a1] w fun v w' => ∃ (r0 : Int), v = .int .i64 r0 ∧ K r0 w'
theorem C50.mono {a0 : Option Addr} {a1 : Int} {w : World} {K : Int → World → Prop} (h : C50 a0 a1 w K) {K' : Int → World → Prop} (hk : ∀ r0 w', K r0 w' → K' r0 w') : C50 a0 a1 w K' :=
  CallsV.mono h fun v w' ⟨r0, e, h⟩ => ⟨r0, e, hk _ w' h⟩
def sh50 (a0 : Option Addr) (a1 : Int) (w : World) (K : Int → World → Prop) : Prop :=
  nn a0 fun p5 =>
  ldL (p5.add 1) w fun t6 =>
  C57 t6 a1 (Value.func (Fn.func 58) #[] #[]) w fun r8 r9 w7 =>
  K r8 w7

/-- slices.overlaps[caravel/api.Span] -/
def C60 (a0 : Slc) (a1 : Slc) (w : World) (K : Bool → World → Prop) : Prop := CallsV Try.prog 60 #[a0.v, a1.v] w fun v w' => ∃ (r0 : Bool), v = .bool r0 ∧ K r0 w'
theorem C60.mono {a0 : Slc} {a1 : Slc} {w : World} {K : Bool → World → Prop} (h : C60 a0 a1 w K) {K' : Bool → World → Prop} (hk : ∀ r0 w', K r0 w' → K' r0 w') : C60 a0 a1 w K' :=
  CallsV.mono h fun v w' ⟨r0, e, h⟩ => ⟨r0, e, hk _ w' h⟩

/-- slices.rotateRight[caravel/api.Span] -/
def C61 (a0 : Slc) (a1 : Int) (w : World) (K : World → Prop) : Prop := CallsV Try.prog 61 #[a0.v, .int .i64 a1] w fun v w' => v = .tuple #[] ∧ K w'
theorem C61.mono {a0 : Slc} {a1 : Int} {w : World} {K : World → Prop} (h : C61 a0 a1 w K) {K' : World → Prop} (hk : ∀ w', K  w' → K'  w') : C61 a0 a1 w K' :=
  CallsV.mono h fun v w' ⟨e, h⟩ => ⟨e, hk w' h⟩

/-- slices.Insert[[]caravel/api.Span,caravel/api.Span] -/
def C59 (a0 : Slc) (a1 : Int) (a2 : Slc) (w : World) (K : Slc → World → Prop) : Prop := CallsV Try.prog 59 #[a0.v, .int .i64 a1, a2.v] w fun v w' => ∃ (r0 : Slc), v = r0.v ∧ K r0 w'
theorem C59.mono {a0 : Slc} {a1 : Int} {a2 : Slc} {w : World} {K : Slc → World → Prop} (h : C59 a0 a1 a2 w K) {K' : Slc → World → Prop} (hk : ∀ r0 w', K r0 w' → K' r0 w') : C59 a0 a1 a2 w K' :=
  CallsV.mono h fun v w' ⟨r0, e, h⟩ => ⟨r0, e, hk _ w' h⟩
def sh59 (a0 : Slc) (a1 : Int) (a2 : Slc) (w : World) (K : Slc → World → Prop) : Prop :=
  0 ≤ a1 ∧ a1 ≤ (a0.len : Int) ∧ 
  jn (fun (v11 : Unit) w12 =>
  jn (fun (v19 : Unit) w20 =>
  jn (fun (v25 : Unit) w26 =>
  0 ≤ (IntKind.i64.wrap ((a0.len : Int) + (a2.len : Int))) ∧ (IntKind.i64.wrap ((a0.len : Int) + (a2.len : Int))) ≤ (a0.cap : Int) ∧ 
  jn (fun (v35 : Unit) w36 =>
  0 ≤ (a0.len : Int) ∧ (a0.len : Int) ≤ ((a0.sub 2 0 ((IntKind.i64.wrap ((a0.len : Int) + (a2.len : Int))).toNat) a0.cap).len : Int) ∧ 
  ∃ (t44 : Int) (w43 : World), (∀ t, rn Try.prog (Builtin.copy_ #[87, 87] t #[((a0.sub 2 0 ((IntKind.i64.wrap ((a0.len : Int) + (a2.len : Int))).toNat) a0.cap).sub 2 ((a0.len : Int).toNat) ((a0.sub 2 0 ((IntKind.i64.wrap ((a0.len : Int) + (a2.len : Int))).toNat) a0.cap).len) ((a0.sub 2 0 ((IntKind.i64.wrap ((a0.len : Int) + (a2.len : Int))).toNat) a0.cap).cap)).v, a2.v]) (.int .i64 t44) w36 w43) ∧
  0 ≤ a1 ∧ a1 ≤ ((a0.sub 2 0 ((IntKind.i64.wrap ((a0.len : Int) + (a2.len : Int))).toNat) a0.cap).len : Int) ∧ 
  C61 ((a0.sub 2 0 ((IntKind.i64.wrap ((a0.len : Int) + (a2.len : Int))).toNat) a0.cap).sub 2 a1.toNat ((a0.sub 2 0 ((IntKind.i64.wrap ((a0.len : Int) + (a2.len : Int))).toNat) a0.cap).len) ((a0.sub 2 0 ((IntKind.i64.wrap ((a0.len : Int) + (a2.len : Int))).toNat) a0.cap).cap)) (a2.len : Int) w43 fun w49 =>
  K (a0.sub 2 0 ((IntKind.i64.wrap ((a0.len : Int) + (a2.len : Int))).toNat) a0.cap) w49) fun J37 =>
  0 ≤ (IntKind.i64.wrap (a1 + (a2.len : Int))) ∧ (IntKind.i64.wrap (a1 + (a2.len : Int))) ≤ ((a0.sub 2 0 ((IntKind.i64.wrap ((a0.len : Int) + (a2.len : Int))).toNat) a0.cap).len : Int) ∧ 
  False) fun J27 =>
  ifM (decide ((IntKind.i64.wrap ((a0.len : Int) + (a2.len : Int))) > (a0.cap : Int)))
  (0 ≤ a1 ∧ a1 ≤ (a0.cap : Int) ∧ 
  ∃ (t64 : Slc) (w63 : World), (∀ t, rn Try.prog (Builtin.append_ #[87, 3] t #[(a0.sub 2 0 a1.toNat a0.cap).v, .int .i64 (IntKind.i64.wrap ((IntKind.i64.wrap ((a0.len : Int) + (a2.len : Int))) - a1))]) t64.v w20 w63) ∧
  0 ≤ a1 ∧ a1 ≤ (t64.len : Int) ∧ 
  ∃ (t70 : Int) (w69 : World), (∀ t, rn Try.prog (Builtin.copy_ #[87, 87] t #[(t64.sub 2 a1.toNat t64.len t64.cap).v, a2.v]) (.int .i64 t70) w63 w69) ∧
  drw w69 fun w73 =>
  0 ≤ (IntKind.i64.wrap (a1 + (a2.len : Int))) ∧ (IntKind.i64.wrap (a1 + (a2.len : Int))) ≤ (t64.len : Int) ∧ 
  0 ≤ a1 ∧ a1 ≤ (a0.len : Int) ∧ 
  ∃ (t79 : Int) (w78 : World), (∀ t, rn Try.prog (Builtin.copy_ #[87, 87] t #[(t64.sub 2 ((IntKind.i64.wrap (a1 + (a2.len : Int))).toNat) t64.len t64.cap).v, (a0.sub 2 a1.toNat a0.len a0.cap).v]) (.int .i64 t79) w73 w78) ∧
  K t64 w78)
  (J27 () w20)) fun J21 =>
  ifM (a1 == (a0.len : Int))
  (∃ (t87 : Slc) (w86 : World), (∀ t, rn Try.prog (Builtin.append_ #[87, 87] t #[a0.v, a2.v]) t87.v w12 w86) ∧
  K t87 w86)
  (J21 () w12)) fun J13 =>
  ifM ((a2.len : Int) == 0)
  (K a0 w)
  (J13 () w)

/-- slices.startIdx[caravel/api.Span] -/
def C62 (a0 : Slc) (a1 : Slc) (w : World) (K : Int → World → Prop) : Prop := CallsV Try.prog 62 #[a0.v, a1.v] w fun v w' => ∃ (r0 : Int), v = .int .i64 r0 ∧ K r0 w'
theorem C62.mono {a0 : Slc} {a1 : Slc} {w : World} {K : Int → World → Prop} (h : C62 a0 a1 w K) {K' : Int → World → Prop} (hk : ∀ r0 w', K r0 w' → K' r0 w') : C62 a0 a1 w K' :=
  CallsV.mono h fun v w' ⟨r0, e, h⟩ => ⟨r0, e, hk _ w' h⟩

/-- slices.Replace[[]caravel/api.Span,caravel/api.Span] -/
def C51 (a0 : Slc) (a1 : Int) (a2 : Int) (a3 : Slc) (w : World) (K : Slc → World → Prop) : Prop := CallsV Try.prog 51 #[a0.v, .int .i64 a1, .int .i64 a2, a3.v] w fun v w' => ∃ (r0 : Slc), v = r0.v ∧ K r0 w'
theorem C51.mono {a0 : Slc} {a1 : Int} {a2 : Int} {a3 : Slc} {w : World} {K : Slc → World → Prop} (h : C51 a0 a1 a2 a3 w K) {K' : Slc → World → Prop} (hk : ∀ r0 w', K r0 w' → K' r0 w') : C51 a0 a1 a2 a3 w K' :=
  CallsV.mono h fun v w' ⟨r0, e, h⟩ => ⟨r0, e, hk _ w' h⟩
def sh51 (a0 : Slc) (a1 : Int) (a2 : Int) (a3 : Slc) (w : World) (K : Slc → World → Prop) : Prop :=
  0 ≤ a1 ∧ a1 ≤ a2 ∧ a2 ≤ (a0.cap : Int) ∧ 
  jn (fun (v10 : Unit) w11 =>
  jn (fun (v16 : Unit) w17 =>
  drw w17 fun w22 =>
  0 ≤ a1 ∧ a1 ≤ (a0.cap : Int) ∧ 
  0 ≤ a2 ∧ a2 ≤ (a0.len : Int) ∧ 
  jn (fun (v29 : Unit) w30 =>
  0 ≤ (IntKind.i64.wrap ((IntKind.i64.wrap (((a0.sub 2 0 a1.toNat a0.cap).len : Int) + (a3.len : Int))) + ((a0.sub 2 a2.toNat a0.len a0.cap).len : Int))) ∧ (IntKind.i64.wrap ((IntKind.i64.wrap (((a0.sub 2 0 a1.toNat a0.cap).len : Int) + (a3.len : Int))) + ((a0.sub 2 a2.toNat a0.len a0.cap).len : Int))) ≤ (a0.cap : Int) ∧ 
  jn (fun (v39 : Unit) w40 =>
  jn (fun (v45 : Unit) w46 =>
  jn (fun (v53 : Unit) w54 =>
  jn (fun (v59 : Unit) w60 =>
  0 ≤ a2 ∧ a2 ≤ (a0.len : Int) ∧ 
  C62 a3 (a0.sub 2 a2.toNat a0.len a0.cap) w60 fun r68 w67 =>
  0 ≤ a1 ∧ a1 ≤ ((a0.sub 2 0 ((IntKind.i64.wrap ((IntKind.i64.wrap (((a0.sub 2 0 a1.toNat a0.cap).len : Int) + (a3.len : Int))) + ((a0.sub 2 a2.toNat a0.len a0.cap).len : Int))).toNat) a0.cap).len : Int) ∧ 
  ∃ (t74 : Int) (w73 : World), (∀ t, rn Try.prog (Builtin.copy_ #[87, 87] t #[((a0.sub 2 0 ((IntKind.i64.wrap ((IntKind.i64.wrap (((a0.sub 2 0 a1.toNat a0.cap).len : Int) + (a3.len : Int))) + ((a0.sub 2 a2.toNat a0.len a0.cap).len : Int))).toNat) a0.cap).sub 2 a1.toNat ((a0.sub 2 0 ((IntKind.i64.wrap ((IntKind.i64.wrap (((a0.sub 2 0 a1.toNat a0.cap).len : Int) + (a3.len : Int))) + ((a0.sub 2 a2.toNat a0.len a0.cap).len : Int))).toNat) a0.cap).len) ((a0.sub 2 0 ((IntKind.i64.wrap ((IntKind.i64.wrap (((a0.sub 2 0 a1.toNat a0.cap).len : Int) + (a3.len : Int))) + ((a0.sub 2 a2.toNat a0.len a0.cap).len : Int))).toNat) a0.cap).cap)).v, a3.v]) (.int .i64 t74) w67 w73) ∧
  drw w73 fun w77 =>
  0 ≤ (IntKind.i64.wrap (a1 + (a3.len : Int))) ∧ (IntKind.i64.wrap (a1 + (a3.len : Int))) ≤ ((a0.sub 2 0 ((IntKind.i64.wrap ((IntKind.i64.wrap (((a0.sub 2 0 a1.toNat a0.cap).len : Int) + (a3.len : Int))) + ((a0.sub 2 a2.toNat a0.len a0.cap).len : Int))).toNat) a0.cap).len : Int) ∧ 
  0 ≤ (IntKind.i64.wrap (a1 + r68)) ∧ (IntKind.i64.wrap (a1 + r68)) ≤ ((a0.sub 2 0 ((IntKind.i64.wrap ((IntKind.i64.wrap (((a0.sub 2 0 a1.toNat a0.cap).len : Int) + (a3.len : Int))) + ((a0.sub 2 a2.toNat a0.len a0.cap).len : Int))).toNat) a0.cap).len : Int) ∧ 
  ∃ (t83 : Int) (w82 : World), (∀ t, rn Try.prog (Builtin.copy_ #[87, 87] t #[((a0.sub 2 0 ((IntKind.i64.wrap ((IntKind.i64.wrap (((a0.sub 2 0 a1.toNat a0.cap).len : Int) + (a3.len : Int))) + ((a0.sub 2 a2.toNat a0.len a0.cap).len : Int))).toNat) a0.cap).sub 2 ((IntKind.i64.wrap (a1 + (a3.len : Int))).toNat) ((a0.sub 2 0 ((IntKind.i64.wrap ((IntKind.i64.wrap (((a0.sub 2 0 a1.toNat a0.cap).len : Int) + (a3.len : Int))) + ((a0.sub 2 a2.toNat a0.len a0.cap).len : Int))).toNat) a0.cap).len) ((a0.sub 2 0 ((IntKind.i64.wrap ((IntKind.i64.wrap (((a0.sub 2 0 a1.toNat a0.cap).len : Int) + (a3.len : Int))) + ((a0.sub 2 a2.toNat a0.len a0.cap).len : Int))).toNat) a0.cap).cap)).v, ((a0.sub 2 0 ((IntKind.i64.wrap ((IntKind.i64.wrap (((a0.sub 2 0 a1.toNat a0.cap).len : Int) + (a3.len : Int))) + ((a0.sub 2 a2.toNat a0.len a0.cap).len : Int))).toNat) a0.cap).sub 2 ((IntKind.i64.wrap (a1 + r68)).toNat) ((a0.sub 2 0 ((IntKind.i64.wrap ((IntKind.i64.wrap (((a0.sub 2 0 a1.toNat a0.cap).len : Int) + (a3.len : Int))) + ((a0.sub 2 a2.toNat a0.len a0.cap).len : Int))).toNat) a0.cap).len) ((a0.sub 2 0 ((IntKind.i64.wrap ((IntKind.i64.wrap (((a0.sub 2 0 a1.toNat a0.cap).len : Int) + (a3.len : Int))) + ((a0.sub 2 a2.toNat a0.len a0.cap).len : Int))).toNat) a0.cap).cap)).v]) (.int .i64 t83) w77 w82) ∧
  K (a0.sub 2 0 ((IntKind.i64.wrap ((IntKind.i64.wrap (((a0.sub 2 0 a1.toNat a0.cap).len : Int) + (a3.len : Int))) + ((a0.sub 2 a2.toNat a0.len a0.cap).len : Int))).toNat) a0.cap) w82) fun J61 =>
  0 ≤ (a0.len : Int) ∧ (a0.len : Int) ≤ ((a0.sub 2 0 ((IntKind.i64.wrap ((IntKind.i64.wrap (((a0.sub 2 0 a1.toNat a0.cap).len : Int) + (a3.len : Int))) + ((a0.sub 2 a2.toNat a0.len a0.cap).len : Int))).toNat) a0.cap).len : Int) ∧ 
  False) fun J55 =>
  0 ≤ a1 ∧ a1 ≤ a2 ∧ a2 ≤ ((a0.sub 2 0 ((IntKind.i64.wrap ((IntKind.i64.wrap (((a0.sub 2 0 a1.toNat a0.cap).len : Int) + (a3.len : Int))) + ((a0.sub 2 a2.toNat a0.len a0.cap).len : Int))).toNat) a0.cap).cap : Int) ∧ 
  False) fun J47 =>
  0 ≤ (IntKind.i64.wrap (a1 + (a3.len : Int))) ∧ (IntKind.i64.wrap (a1 + (a3.len : Int))) ≤ ((a0.sub 2 0 ((IntKind.i64.wrap ((IntKind.i64.wrap (((a0.sub 2 0 a1.toNat a0.cap).len : Int) + (a3.len : Int))) + ((a0.sub 2 a2.toNat a0.len a0.cap).len : Int))).toNat) a0.cap).len : Int) ∧ 
  False) fun J41 =>
  ifM (decide ((IntKind.i64.wrap (a1 + (a3.len : Int))) ≤ a2))
  (0 ≤ a1 ∧ a1 ≤ ((a0.sub 2 0 ((IntKind.i64.wrap ((IntKind.i64.wrap (((a0.sub 2 0 a1.toNat a0.cap).len : Int) + (a3.len : Int))) + ((a0.sub 2 a2.toNat a0.len a0.cap).len : Int))).toNat) a0.cap).len : Int) ∧ 
  ∃ (t109 : Int) (w108 : World), (∀ t, rn Try.prog (Builtin.copy_ #[87, 87] t #[((a0.sub 2 0 ((IntKind.i64.wrap ((IntKind.i64.wrap (((a0.sub 2 0 a1.toNat a0.cap).len : Int) + (a3.len : Int))) + ((a0.sub 2 a2.toNat a0.len a0.cap).len : Int))).toNat) a0.cap).sub 2 a1.toNat ((a0.sub 2 0 ((IntKind.i64.wrap ((IntKind.i64.wrap (((a0.sub 2 0 a1.toNat a0.cap).len : Int) + (a3.len : Int))) + ((a0.sub 2 a2.toNat a0.len a0.cap).len : Int))).toNat) a0.cap).len) ((a0.sub 2 0 ((IntKind.i64.wrap ((IntKind.i64.wrap (((a0.sub 2 0 a1.toNat a0.cap).len : Int) + (a3.len : Int))) + ((a0.sub 2 a2.toNat a0.len a0.cap).len : Int))).toNat) a0.cap).cap)).v, a3.v]) (.int .i64 t109) w30 w108) ∧
  drw w108 fun w112 =>
  0 ≤ (IntKind.i64.wrap (a1 + (a3.len : Int))) ∧ (IntKind.i64.wrap (a1 + (a3.len : Int))) ≤ ((a0.sub 2 0 ((IntKind.i64.wrap ((IntKind.i64.wrap (((a0.sub 2 0 a1.toNat a0.cap).len : Int) + (a3.len : Int))) + ((a0.sub 2 a2.toNat a0.len a0.cap).len : Int))).toNat) a0.cap).len : Int) ∧ 
  0 ≤ a2 ∧ a2 ≤ (a0.len : Int) ∧ 
  ∃ (t118 : Int) (w117 : World), (∀ t, rn Try.prog (Builtin.copy_ #[87, 87] t #[((a0.sub 2 0 ((IntKind.i64.wrap ((IntKind.i64.wrap (((a0.sub 2 0 a1.toNat a0.cap).len : Int) + (a3.len : Int))) + ((a0.sub 2 a2.toNat a0.len a0.cap).len : Int))).toNat) a0.cap).sub 2 ((IntKind.i64.wrap (a1 + (a3.len : Int))).toNat) ((a0.sub 2 0 ((IntKind.i64.wrap ((IntKind.i64.wrap (((a0.sub 2 0 a1.toNat a0.cap).len : Int) + (a3.len : Int))) + ((a0.sub 2 a2.toNat a0.len a0.cap).len : Int))).toNat) a0.cap).len) ((a0.sub 2 0 ((IntKind.i64.wrap ((IntKind.i64.wrap (((a0.sub 2 0 a1.toNat a0.cap).len : Int) + (a3.len : Int))) + ((a0.sub 2 a2.toNat a0.len a0.cap).len : Int))).toNat) a0.cap).cap)).v, (a0.sub 2 a2.toNat a0.len a0.cap).v]) (.int .i64 t118) w112 w117) ∧
  0 ≤ (IntKind.i64.wrap ((IntKind.i64.wrap (((a0.sub 2 0 a1.toNat a0.cap).len : Int) + (a3.len : Int))) + ((a0.sub 2 a2.toNat a0.len a0.cap).len : Int))) ∧ (IntKind.i64.wrap ((IntKind.i64.wrap (((a0.sub 2 0 a1.toNat a0.cap).len : Int) + (a3.len : Int))) + ((a0.sub 2 a2.toNat a0.len a0.cap).len : Int))) ≤ (a0.len : Int) ∧ 
  ∃ (w123 : World), (∀ t, rn Try.prog (Builtin.clear_ #[87] t #[(a0.sub 2 ((IntKind.i64.wrap ((IntKind.i64.wrap (((a0.sub 2 0 a1.toNat a0.cap).len : Int) + (a3.len : Int))) + ((a0.sub 2 a2.toNat a0.len a0.cap).len : Int))).toNat) a0.len a0.cap).v]) (.tuple #[]) w117 w123) ∧
  K (a0.sub 2 0 ((IntKind.i64.wrap ((IntKind.i64.wrap (((a0.sub 2 0 a1.toNat a0.cap).len : Int) + (a3.len : Int))) + ((a0.sub 2 a2.toNat a0.len a0.cap).len : Int))).toNat) a0.cap) w123)
  (J41 () w30)) fun J31 =>
  ifM (decide ((IntKind.i64.wrap ((IntKind.i64.wrap (((a0.sub 2 0 a1.toNat a0.cap).len : Int) + (a3.len : Int))) + ((a0.sub 2 a2.toNat a0.len a0.cap).len : Int))) > (a0.cap : Int)))
  (0 ≤ a1 ∧ a1 ≤ (a0.cap : Int) ∧ 
  ∃ (t133 : Slc) (w132 : World), (∀ t, rn Try.prog (Builtin.append_ #[87, 3] t #[(a0.sub 2 0 a1.toNat a0.cap).v, .int .i64 (IntKind.i64.wrap ((IntKind.i64.wrap ((IntKind.i64.wrap (((a0.sub 2 0 a1.toNat a0.cap).len : Int) + (a3.len : Int))) + ((a0.sub 2 a2.toNat a0.len a0.cap).len : Int))) - a1))]) t133.v w22 w132) ∧
  0 ≤ a1 ∧ a1 ≤ (t133.len : Int) ∧ 
  ∃ (t139 : Int) (w138 : World), (∀ t, rn Try.prog (Builtin.copy_ #[87, 87] t #[(t133.sub 2 a1.toNat t133.len t133.cap).v, a3.v]) (.int .i64 t139) w132 w138) ∧
  drw w138 fun w142 =>
  0 ≤ (IntKind.i64.wrap (a1 + (a3.len : Int))) ∧ (IntKind.i64.wrap (a1 + (a3.len : Int))) ≤ (t133.len : Int) ∧ 
  0 ≤ a2 ∧ a2 ≤ (a0.len : Int) ∧ 
  ∃ (t148 : Int) (w147 : World), (∀ t, rn Try.prog (Builtin.copy_ #[87, 87] t #[(t133.sub 2 ((IntKind.i64.wrap (a1 + (a3.len : Int))).toNat) t133.len t133.cap).v, (a0.sub 2 a2.toNat a0.len a0.cap).v]) (.int .i64 t148) w142 w147) ∧
  K t133 w147)
  (J31 () w22)) fun J18 =>
  ifM (a2 == (a0.len : Int))
  (0 ≤ a1 ∧ a1 ≤ (a0.cap : Int) ∧ 
  ∃ (t158 : Slc) (w157 : World), (∀ t, rn Try.prog (Builtin.append_ #[87, 87] t #[(a0.sub 2 0 a1.toNat a0.cap).v, a3.v]) t158.v w11 w157) ∧
  jn (fun (v161 : Unit) w162 =>
  K t158 w162) fun J163 =>
  ifM (decide ((t158.len : Int) < (a0.len : Int)))
  (0 ≤ (t158.len : Int) ∧ (t158.len : Int) ≤ (a0.len : Int) ∧ 
  ∃ (w173 : World), (∀ t, rn Try.prog (Builtin.clear_ #[87] t #[(a0.sub 2 ((t158.len : Int).toNat) a0.len a0.cap).v]) (.tuple #[]) w157 w173) ∧
  J163 () w173)
  (J163 () w157))
  (J18 () w11)) fun J12 =>
  ifM (a1 == a2)
  (C59 a0 a1 a3 w fun r179 w178 =>
  K r179 w178)
  (J12 () w)

/-- (*caravel/ranges.Set).Remove -/
def C31 (a0 : Option Addr) (a1 : Int) (a2 : Int) (w : World) (K : Int → World → Prop) : Prop := CallsV Try.prog 31 #[.pointer a0, .int .i64 a1, .int .i64 a2] w fun v w' => ∃ (r0 : Int), v = .int .i64 r0 ∧ K r0 w'
theorem C31.mono {a0 : Option Addr} {a1 : Int} {a2 : Int} {w : World} {K : Int → World → Prop} (h : C31 a0 a1 a2 w K) {K' : Int → World → Prop} (hk : ∀ r0 w', K r0 w' → K' r0 w') : C31 a0 a1 a2 w K' :=
  CallsV.mono h fun v w' ⟨r0, e, h⟩ => ⟨r0, e, hk _ w' h⟩
def sh31 (a0 : Option Addr) (a1 : Int) (a2 : Int) (w : World) (K : Int → World → Prop) : Prop :=
  jn (fun (v5 : Unit) w6 =>
  C50 a0 a1 w6 fun r12 w11 =>
  jn (fun (v19 : Int × Slc) w20 =>
  jn (fun (v25 : Unit) w26 =>
  nn a0 fun p31 =>
  ldL (p31.add 1) w26 fun t32 =>
  C51 t32 r12 v19.1 v19.2 w26 fun r34 w33 =>
  nn a0 fun p35 =>
  stV (p35.add 1) (r34.v) w33 fun w36 =>
  K 0 w36) fun J27 =>
  nn a0 fun p41 =>
  ldL (p41.add 1) w20 fun t42 =>
  ifM (decide ((IntKind.i64.wrap ((IntKind.i64.wrap ((t42.len : Int) - (IntKind.i64.wrap (v19.1 - r12)))) + (v19.2.len : Int))) > 65536))
  (K 3 w20)
  (J27 () w20)) fun J21 =>
  Lp (fun (s45 : Int × Slc) N47 w46 =>
  jn (fun (v51 : Unit) w52 =>
  jn (fun (v57 : Slc) w58 =>
  N47 (IntKind.i64.wrap (s45.1 + 1), v57) w58) fun J59 =>
  jn (fun (v65 : Slc) w66 =>
  nn a0 fun p71 =>
  ldL (p71.add 1) w66 fun t72 =>
  idx 2 t72 s45.1 fun p73 =>
  ldA 2 p73 w66 fun t75 =>
  newV 94 #[.int .i64 0, .int .i64 0] w66 fun p76 w77 =>
  stA 2 p76 t75 w77 fun w78 =>
  ldI .i64 (p76.add 1) w78 fun t81 =>
  ifM (decide (t81 > a2))
  (ldI .i64 (p76.add 1) w78 fun t84 =>
  ∃ (t86 : Slc) (w85 : World), rn Try.prog (Instr.buildSlice 87 1 ([(0, .agg (#[.int .i64 (IntKind.i64.wrap (a2 + 1)), .int .i64 t84]))] : List (Nat × Value)).toArray) t86.v w78 w85 ∧
  ∃ (t88 : Slc) (w87 : World), (∀ t, rn Try.prog (Builtin.append_ #[87, 87] t #[v65.v, t86.v]) t88.v w85 w87) ∧
  J59 t88 w87)
  (J59 v65 w78)) fun J67 =>
  nn a0 fun p91 =>
  ldL (p91.add 1) w52 fun t92 =>
  idx 2 t92 s45.1 fun p93 =>
  ldA 2 p93 w52 fun t95 =>
  newV 94 #[.int .i64 0, .int .i64 0] w52 fun p96 w97 =>
  stA 2 p96 t95 w97 fun w98 =>
  ldI .i64 p96 w98 fun t101 =>
  ifM (decide (t101 < a1))
  (ldI .i64 p96 w98 fun t104 =>
  ∃ (t106 : Slc) (w105 : World), rn Try.prog (Instr.buildSlice 87 1 ([(0, .agg (#[.int .i64 t104, .int .i64 (IntKind.i64.wrap (a1 - 1))]))] : List (Nat × Value)).toArray) t106.v w98 w105 ∧
  ∃ (t108 : Slc) (w107 : World), (∀ t, rn Try.prog (Builtin.append_ #[87, 87] t #[s45.2.v, t106.v]) t108.v w105 w107) ∧
  J67 t108 w107)
  (J67 s45.2 w98)) fun J53 =>
  jn (fun (v111 : Bool) w112 =>
  ifM v111
  (J53 () w112)
  (J21 (s45.1, s45.2) w112)) fun J113 =>
  nn a0 fun p115 =>
  ldL (p115.add 1) w46 fun t116 =>
  ifM (decide (s45.1 < (t116.len : Int)))
  (nn a0 fun p118 =>
  ldL (p118.add 1) w46 fun t119 =>
  idx 2 t119 s45.1 fun p120 =>
  ldI .i64 p120 w46 fun t122 =>
  J113 (decide (t122 ≤ a2)) w46)
  (J113 false w46)) (r12, Slc.nil) w11) fun J7 =>
  C49 a0 a1 a2 w fun r126 w125 =>
  ifM (r126 != 0)
  (K r126 w125)
  (J7 () w125)

/-- (*caravel/outbox.Outbox).Next -/
def C8 (a0 : Option Addr) (a1 : Int) (a2 : Int) (w : World) (K : Array Value → Bool → World → Prop) : Prop := CallsV Try.prog 8 #[.pointer a0, .int .i64 a1, .int .i64 a2] w fun v w' => ∃ (r0 : Array Value) (r1 : Bool), v = .tuple #[.agg r0, .bool r1] ∧ K r0 r1 w'
theorem C8.mono {a0 : Option Addr} {a1 : Int} {a2 : Int} {w : World} {K : Array Value → Bool → World → Prop} (h : C8 a0 a1 a2 w K) {K' : Array Value → Bool → World → Prop} (hk : ∀ r0 r1 w', K r0 r1 w' → K' r0 r1 w') : C8 a0 a1 a2 w K' :=
  CallsV.mono h fun v w' ⟨r0, r1, e, h⟩ => ⟨r0, r1, e, hk _ _ w' h⟩
def sh8 (a0 : Option Addr) (a1 : Int) (a2 : Int) (w : World) (K : Array Value → Bool → World → Prop) : Prop :=
  newV 30 #[.int .i64 0, Slc.nil.v, .bool false] w fun p3 w4 =>
  jn (fun (v7 : Unit) w8 =>
  C29 a0 a1 a2 w8 fun r14 r15 r16 w13 =>
  jn (fun (v19 : Unit) w20 =>
  drw w20 fun w25 =>
  jn (fun (v26 : Option Addr) w27 =>
  jn (fun (v32 : Unit) w33 =>
  jn (fun (v38 : Unit) w39 =>
  nn a0 fun p44 =>
  ldI .i64 (p44.add 3) w39 fun t45 =>
  nn a0 fun p46 =>
  stV (p46.add 3) (.int .i64 (if r15 > t45 then r15 else t45)) w39 fun w47 =>
  nn v26 fun p51 =>
  ldA 3 p51 w47 fun t50 =>
  stA 3 p3 t50 w47 fun w52 =>
  ldA 3 p3 w52 fun t53 =>
  K t53 true w52) fun J40 =>
  jn (fun (v56 : Bool) w57 =>
  ifM v56
  (nn v26 fun p62 =>
  stV (p62.add 2) (.bool true) w57 fun w63 =>
  nn a0 fun p64 =>
  stV (p64.add 6) (.int .i64 2) w63 fun w65 =>
  J40 () w65)
  (J40 () w57)) fun J58 =>
  C32 a0 w33 fun r67 w66 =>
  ifM (r15 == r67)
  (nn a0 fun p69 =>
  ldI .i64 (p69.add 6) w66 fun t70 =>
  ifM (t70 == 1)
  (J58 true w66)
  (nn a0 fun p72 =>
  ldI .i64 (p72.add 6) w66 fun t73 =>
  J58 (t73 == 3) w66))
  (J58 false w66)) fun J34 =>
  ifM (decide (r15 > r14))
  (nn a0 fun p78 =>
  ldP (p78.add 4) w27 fun t79 =>
  C31 t79 r14 (IntKind.i64.wrap (r15 - 1)) w27 fun r81 w80 =>
  J34 () w80)
  (J34 () w27)) fun J28 =>
  nn a0 fun p82 =>
  ldL (p82.add 2) w25 fun t83 =>
  nn a0 fun p84 =>
  ldI .i64 (p84.add 1) w25 fun t85 =>
  nn a0 fun p86 =>
  ldI .i64 (p86.add 1) w25 fun t87 =>
  0 ≤ (IntKind.i64.wrap (r14 - t85)) ∧ (IntKind.i64.wrap (r14 - t85)) ≤ (IntKind.i64.wrap (r15 - t87)) ∧ (IntKind.i64.wrap (r15 - t87)) ≤ (t83.cap : Int) ∧ 
  (C30 (t83.sub 1 ((IntKind.i64.wrap (r14 - t85)).toNat) ((IntKind.i64.wrap (r15 - t87)).toNat) t83.cap) w25 fun r94 w93 =>
  newV 30 #[.int .i64 0, Slc.nil.v, .bool false] w93 fun p95 w96 =>
  stA 3 p95 (#[.int .i64 r14, r94.v, .bool false]) w96 fun w97 =>
  J28 (some p95) w97) ∧
  (newV 30 #[.int .i64 0, Slc.nil.v, .bool false] w25 fun p98 w99 =>
  World.cell? w99 (p86.add 1) = some (.int .i64 t87) ∧ World.cell? w99 (p84.add 1) = some (.int .i64 t85) ∧ World.cell? w99 (p82.add 2) = some (t83.v) ∧ C30 (t83.sub 1 ((IntKind.i64.wrap (r14 - t85)).toNat) ((IntKind.i64.wrap (r15 - t87)).toNat) t83.cap) w99 fun r104 w103 =>
  stA 3 p98 (#[.int .i64 r14, r104.v, .bool false]) w103 fun w105 =>
  J28 (some p98) w105)) fun J21 =>
  ifM (!r16)
  (stA 3 p3 (#[.int .i64 0, Slc.nil.v, .bool false]) w13 fun w110 =>
  ldA 3 p3 w110 fun t111 =>
  K t111 false w110)
  (J21 () w13)) fun J9 =>
  C28 a0 w4 fun r115 w114 =>
  ifM r115
  (stA 3 p3 (#[.int .i64 0, Slc.nil.v, .bool false]) w114 fun w118 =>
  ldA 3 p3 w118 fun t119 =>
  K t119 false w118)
  (J9 () w114)

/-- (*caravel/inbox.Inbox).none -/
def C42 (a0 : Option Addr) (w : World) (K : Bool → World → Prop) : Prop := CallsV Try.prog 42 #[.pointer a0] w fun v w' => ∃ (r0 : Bool), v = .bool r0 ∧ K r0 w'
theorem C42.mono {a0 : Option Addr} {w : World} {K : Bool → World → Prop} (h : C42 a0 w K) {K' : Bool → World → Prop} (hk : ∀ r0 w', K r0 w' → K' r0 w') : C42 a0 w K' :=
  CallsV.mono h fun v w' ⟨r0, e, h⟩ => ⟨r0, e, hk _ w' h⟩
def sh42 (a0 : Option Addr) (w : World) (K : Bool → World → Prop) : Prop :=
  jn (fun (v5 : Bool) w6 =>
  K v5 w6) fun J7 =>
  ifM a0.isNone
  (J7 true w)
  (nn a0 fun p10 =>
  ldB p10 w fun t11 =>
  J7 (!t11) w)

/-- (*caravel/inbox.Inbox).ends -/
def C43 (a0 : Option Addr) (a1 : Int) (a2 : Bool) (w : World) (K : Int → World → Prop) : Prop := CallsV Try.prog 43 #[.pointer a0, .int .i64 a1, .bool a2] w fun v w' => ∃ (r0 : Int), v = .int .i64 r0 ∧ K r0 w'
theorem C43.mono {a0 : Option Addr} {a1 : Int} {a2 : Bool} {w : World} {K : Int → World → Prop} (h : C43 a0 a1 a2 w K) {K' : Int → World → Prop} (hk : ∀ r0 w', K r0 w' → K' r0 w') : C43 a0 a1 a2 w K' :=
  CallsV.mono h fun v w' ⟨r0, e, h⟩ => ⟨r0, e, hk _ w' h⟩
def sh43 (a0 : Option Addr) (a1 : Int) (a2 : Bool) (w : World) (K : Int → World → Prop) : Prop :=
  jn (fun (v5 : Unit) w6 =>
  K 0 w6) fun J7 =>
  jn (fun (v13 : Bool) w14 =>
  ifM v13
  (K 33 w14)
  (nn a0 fun p21 =>
  ldI .i64 (p21.add 3) w14 fun t22 =>
  ifM (decide (a1 > t22))
  (K 30 w14)
  (J7 () w14))) fun J15 =>
  nn a0 fun p25 =>
  ldB (p25.add 6) w fun t26 =>
  ifM t26
  (nn a0 fun p28 =>
  ldI .i64 (p28.add 5) w fun t29 =>
  ifM (decide (a1 > t29))
  (J15 true w)
  (ifM a2
  (nn a0 fun p32 =>
  ldI .i64 (p32.add 5) w fun t33 =>
  ifM (a1 != t33)
  (J15 true w)
  (nn a0 fun p35 =>
  ldI .i64 (p35.add 4) w fun t36 =>
  J15 (decide (a1 < t36)) w))
  (J15 false w)))
  (ifM a2
  (nn a0 fun p38 =>
  ldI .i64 (p38.add 4) w fun t39 =>
  J15 (decide (a1 < t39)) w)
  (J15 false w))

/-- bytes.Clone -/
def C45 (a0 : Slc) (w : World) (K : Slc → World → Prop) : Prop := CallsV Try.prog 45 #[a0.v] w fun v w' => ∃ (r0 : Slc), v = r0.v ∧ K r0 w'
theorem C45.mono {a0 : Slc} {w : World} {K : Slc → World → Prop} (h : C45 a0 w K) {K' : Slc → World → Prop} (hk : ∀ r0 w', K r0 w' → K' r0 w') : C45 a0 w K' :=
  CallsV.mono h fun v w' ⟨r0, e, h⟩ => ⟨r0, e, hk _ w' h⟩
def sh45 (a0 : Slc) (w : World) (K : Slc → World → Prop) : Prop :=
  jn (fun (v5 : Unit) w6 =>
  newV 5 #[] w6 fun p12 w11 =>
  ∃ (t14 : Slc) (w13 : World), (∀ t, rn Try.prog (Builtin.append_ #[22, 22] t #[(Slc.mk (some p12) 0 0).v, a0.v]) t14.v w11 w13) ∧
  K t14 w13) fun J7 =>
  ifM a0.a.isNone
  (K Slc.nil w)
  (J7 () w)

/-- (*caravel/inbox.Inbox).Put$1 -/
def C44 (a0 : Int) (c0 : Option Addr) (c1 : Option Addr) (c2 : Option Addr) (c3 : Option Addr) (w : World) (K : World → Prop) : Prop := CallsV Try.prog 44 #[.int .i64 a0, .pointer c0, .pointer c1, .pointer c2, .pointer c3] w fun v w' => v = .tuple #[] ∧ K w'
theorem C44.mono {a0 : Int} {c0 : Option Addr} {c1 : Option Addr} {c2 : Option Addr} {c3 : Option Addr} {w : World} {K : World → Prop} (h : C44 a0 c0 c1 c2 c3 w K) {K' : World → Prop} (hk : ∀ w', K  w' → K'  w') : C44 a0 c0 c1 c2 c3 w K' :=
  CallsV.mono h fun v w' ⟨e, h⟩ => ⟨e, hk w' h⟩
def sh44 (a0 : Int) (c0 : Option Addr) (c1 : Option Addr) (c2 : Option Addr) (c3 : Option Addr) (w : World) (K : World → Prop) : Prop :=
  nn c0 fun p4 =>
  ldI .i64 p4 w fun t3 =>
  ifM (decide (a0 > t3))
  (drw w fun w7 =>
  nn c3 fun p9 =>
  ldP p9 w7 fun t8 =>
  nn t8 fun p10 =>
  ldM (p10.add 7) w7 fun t11 =>
  nn c0 fun p13 =>
  ldI .i64 p13 w7 fun t12 =>
  nn c1 fun p15 =>
  ldL p15 w7 fun t14 =>
  nn c0 fun p17 =>
  ldI .i64 p17 w7 fun t16 =>
  nn c2 fun p19 =>
  ldI .i64 p19 w7 fun t18 =>
  nn c2 fun p21 =>
  ldI .i64 p21 w7 fun t20 =>
  0 ≤ (IntKind.i64.wrap (t16 - t18)) ∧ (IntKind.i64.wrap (t16 - t18)) ≤ (IntKind.i64.wrap (a0 - t20)) ∧ (IntKind.i64.wrap (a0 - t20)) ≤ (t14.cap : Int) ∧ 
  C45 (t14.sub 1 ((IntKind.i64.wrap (t16 - t18)).toNat) ((IntKind.i64.wrap (a0 - t20)).toNat) t14.cap) w7 fun r26 w25 =>
  World.cell? w25 p13 = some (.int .i64 t12) ∧ World.cell? w25 (p10.add 7) = some (.map t11) ∧ World.cell? w25 p9 = some (.pointer t8) ∧ ∃ w30 : World, rn Try.prog (Instr.mapUpdate 81 (.map t11) (.int .i64 t12) (r26.v)) () w25 w30 ∧
  K w30)
  (K w)

/-- slices.Sort[[]int,int] -/
def C54 (a0 : Slc) (w : World) (K : World → Prop) : Prop := CallsV Try.prog 54 #[a0.v] w fun v w' => v = .tuple #[] ∧ K w'
theorem C54.mono {a0 : Slc} {w : World} {K : World → Prop} (h : C54 a0 w K) {K' : World → Prop} (hk : ∀ w', K  w' → K'  w') : C54 a0 w K' :=
  CallsV.mono h fun v w' ⟨e, h⟩ => ⟨e, hk w' h⟩

/-- (*caravel/inbox.Inbox).starts -/
def C46 (a0 : Option Addr) (w : World) (K : Slc → World → Prop) : Prop := CallsV Try.prog 46 #[.pointer a0] w fun v w' => ∃ (r0 : Slc), v = r0.v ∧ K r0 w'
theorem C46.mono {a0 : Option Addr} {w : World} {K : Slc → World → Prop} (h : C46 a0 w K) {K' : Slc → World → Prop} (hk : ∀ r0 w', K r0 w' → K' r0 w') : C46 a0 w K' :=
  CallsV.mono h fun v w' ⟨r0, e, h⟩ => ⟨r0, e, hk _ w' h⟩
def sh46 (a0 : Option Addr) (w : World) (K : Slc → World → Prop) : Prop :=
  jn (fun (v7 : Slc) w8 =>
  C54 v7 w8 fun w13 =>
  K v7 w13) fun J9 =>
  nn a0 fun p18 =>
  ldM (p18.add 7) w fun t19 =>
  ∃ (p20 : Addr) (w21 : World), rn Try.prog (Instr.range 81 (.map t19)) (.pointer (some p20)) w w21 ∧
  Lp (fun (s22 : Slc) N24 w23 =>
  ∃ (t28 : Array Value) (b29 : Bool) (w30 : World), rn Try.prog (Instr.next (.pointer (some p20)) false 0) (.tuple t28) w23 w30 ∧ t28[0]? = some (.bool b29) ∧
  jn (fun (v33 : Unit) w34 =>
  ∃ (t39 : Int) (t40 : Slc), rn Try.prog (Instr.entry (.pointer (some p20))) (.tuple #[.int .i64 t39, t40.v]) w34 w34 ∧
  newV 3 #[.int .i64 t39] w34 fun p44 w43 =>
  ∃ (t46 : Slc) (w45 : World), (∀ t, rn Try.prog (Builtin.append_ #[76, 76] t #[s22.v, (Slc.mk (some p44) 1 1).v]) t46.v w43 w45) ∧
  N24 t46 w45) fun J35 =>
  ifM b29
  (J35 () w30)
  (J9 s22 w30)) Slc.nil w21

/-- (*caravel/inbox.Inbox).Put -/
def C25 (a0 : Option Addr) (a1 : Int) (a2 : Slc) (a3 : Bool) (w : World) (K : Int → World → Prop) : Prop := CallsV Try.prog 25 #[.pointer a0, .int .i64 a1, a2.v, .bool a3] w fun v w' => ∃ (r0 : Int), v = .int .i64 r0 ∧ K r0 w'
theorem C25.mono {a0 : Option Addr} {a1 : Int} {a2 : Slc} {a3 : Bool} {w : World} {K : Int → World → Prop} (h : C25 a0 a1 a2 a3 w K) {K' : Int → World → Prop} (hk : ∀ r0 w', K r0 w' → K' r0 w') : C25 a0 a1 a2 a3 w K' :=
  CallsV.mono h fun v w' ⟨r0, e, h⟩ => ⟨r0, e, hk _ w' h⟩
def sh25 (a0 : Option Addr) (a1 : Int) (a2 : Slc) (a3 : Bool) (w : World) (K : Int → World → Prop) : Prop :=
  newV 58 #[.pointer a0] w fun p3 w4 =>
  newV 3 #[.int .i64 a1] w4 fun p5 w6 =>
  newV 22 #[a2.v] w6 fun p7 w8 =>
  jn (fun (v11 : Unit) w12 =>
  ldI .i64 p5 w12 fun t17 =>
  ldL p7 w12 fun t18 =>
  jn (fun (v21 : Unit) w22 =>
  drw w22 fun w27 =>
  ldP p3 w27 fun t28 =>
  ldP p3 w27 fun t29 =>
  nn t29 fun p30 =>
  ldI .i64 (p30.add 4) w27 fun t31 =>
  nn t28 fun p32 =>
  stV (p32.add 4) (.int .i64 (if (IntKind.i64.wrap (t17 + (t18.len : Int))) > t31 then (IntKind.i64.wrap (t17 + (t18.len : Int))) else t31)) w27 fun w33 =>
  jn (fun (v36 : Unit) w37 =>
  drw w37 fun w42 =>
  ldI .i64 p5 w42 fun t43 =>
  ldP p3 w42 fun t44 =>
  nn t44 fun p45 =>
  ldI .i64 (p45.add 2) w42 fun t46 =>
  newV 3 #[.int .i64 0] w42 fun p47 w48 =>
  World.cell? w48 (p45.add 2) = some (.int .i64 t46) ∧ World.cell? w48 p3 = some (.pointer t44) ∧ World.cell? w48 p5 = some (.int .i64 t43) ∧ stV p47 (.int .i64 (if t46 > t43 then t46 else t43)) w48 fun w52 =>
  jn (fun (v57 : Unit) w58 =>
  ∃ f64 x65 y66, (Value.func (Fn.func 44) #[] #[.pointer (some p47), .pointer (some p7), .pointer (some p5), .pointer (some p3)]) = .func (.func f64) x65 y66 ∧ (∀ args w, (callFunc f64 args).run Try.prog w = .ok (.enter f64 args) w) ∧ CallsV Try.prog f64 (x65 ++ #[.int .i64 (IntKind.i64.wrap (t17 + (t18.len : Int)))] ++ y66) w58 fun v_ w63 => v_ = .tuple #[] ∧ 
  K 0 w63) fun J59 =>
  ldP p3 w52 fun t71 =>
  C46 t71 w52 fun r73 w72 =>
  Lp (fun (s74 : Int) N76 w75 =>
  jn (fun (v82 : Unit) w83 =>
  jn (fun (v88 : Unit) w89 =>
  N76 (IntKind.i64.wrap (s74 + 1)) w89) fun J90 =>
  idx 1 r73 s74 fun p96 =>
  ldI .i64 p96 w83 fun t98 =>
  ldP p3 w83 fun t101 =>
  nn t101 fun p102 =>
  ldM (p102.add 7) w83 fun t103 =>
  ∃ (t104 : Slc), rn Try.prog (Instr.lookup 81 (.map t103) (.int .i64 t98) false) (t104.v) w83 w83 ∧
  jn (fun (v107 : Unit) w108 =>
  jn (fun (v113 : Unit) w114 =>
  ∃ f120 x121 y122, (Value.func (Fn.func 44) #[] #[.pointer (some p47), .pointer (some p7), .pointer (some p5), .pointer (some p3)]) = .func (.func f120) x121 y122 ∧ (∀ args w, (callFunc f120 args).run Try.prog w = .ok (.enter f120 args) w) ∧ CallsV Try.prog f120 (x121 ++ #[.int .i64 t98] ++ y122) w114 fun v_ w119 => v_ = .tuple #[] ∧ 
  ldI .i64 p47 w119 fun t125 =>
  stV p47 (.int .i64 (if (IntKind.i64.wrap (t98 + (t104.len : Int))) > t125 then (IntKind.i64.wrap (t98 + (t104.len : Int))) else t125)) w119 fun w126 =>
  J90 () w126) fun J115 =>
  ifM (decide (t98 ≥ (IntKind.i64.wrap (t17 + (t18.len : Int)))))
  (J59 () w108)
  (J115 () w108)) fun J109 =>
  ldI .i64 p47 w83 fun t131 =>
  ifM (decide ((IntKind.i64.wrap (t98 + (t104.len : Int))) ≤ t131))
  (J90 () w83)
  (J109 () w83)) fun J84 =>
  ifM (decide (s74 < (r73.len : Int)))
  (J84 () w75)
  (J59 () w75)) 0 w72) fun J38 =>
  ifM a3
  (drw w33 fun w136 =>
  ldP p3 w136 fun t137 =>
  ldP p3 w136 fun t138 =>
  nn t137 fun p139 =>
  stV (p139.add 6) (.bool true) w136 fun w140 =>
  World.cell? w140 p3 = some (.pointer t138) ∧ nn t138 fun p142 =>
  stV (p142.add 5) (.int .i64 (IntKind.i64.wrap (t17 + (t18.len : Int)))) w140 fun w143 =>
  J38 () w143)
  (J38 () w33)) fun J23 =>
  ldP p3 w12 fun t146 =>
  C43 t146 (IntKind.i64.wrap (t17 + (t18.len : Int))) a3 w12 fun r148 w147 =>
  ifM (r148 != 0)
  (K r148 w147)
  (J23 () w147)) fun J13 =>
  ldP p3 w8 fun t155 =>
  C42 t155 w8 fun r157 w156 =>
  ifM r157
  (K 1 w156)
  (jn (fun (v162 : Bool) w163 =>
  ifM v162
  (K 2 w163)
  (J13 () w163)) fun J164 =>
  ldI .i64 p5 w156 fun t168 =>
  ifM (decide (t168 < 0))
  (J164 true w156)
  (ldI .i64 p5 w156 fun t170 =>
  ldL p7 w156 fun t171 =>
  J164 (decide (t170 > (IntKind.i64.wrap (4611686018427387903 - (t171.len : Int))))) w156))

/-- (*caravel/outbox.Outbox).wrong -/
def C35 (a0 : Option Addr) (a1 : Array Value) (w : World) (K : Int → World → Prop) : Prop := CallsV Try.prog 35 #[.pointer a0, .agg a1] w fun v w' => ∃ (r0 : Int), v = .int .i64 r0 ∧ K r0 w'
theorem C35.mono {a0 : Option Addr} {a1 : Array Value} {w : World} {K : Int → World → Prop} (h : C35 a0 a1 w K) {K' : Int → World → Prop} (hk : ∀ r0 w', K r0 w' → K' r0 w') : C35 a0 a1 w K' :=
  CallsV.mono h fun v w' ⟨r0, e, h⟩ => ⟨r0, e, hk _ w' h⟩
def sh35 (a0 : Option Addr) (a1 : Array Value) (w : World) (K : Int → World → Prop) : Prop :=
  newV 30 a1 w fun p3 w4 =>
  jn (fun (v7 : Unit) w8 =>
  K 0 w8) fun J9 =>
  C28 a0 w4 fun r16 w15 =>
  ifM r16
  (K 1 w15)
  (drw w15 fun w21 =>
  jn (fun (v22 : Bool) w23 =>
  ifM v22
  (K 2 w23)
  (drw w23 fun w30 =>
  jn (fun (v31 : Bool) w32 =>
  ifM v31
  (K 2 w32)
  (J9 () w32)) fun J33 =>
  ldB (p3.add 2) w30 fun t37 =>
  ifM t37
  (ldI .i64 p3 w30 fun t39 =>
  ldL (p3.add 1) w30 fun t40 =>
  C32 a0 w30 fun r42 w41 =>
  World.cell? w41 (p3.add 1) = some (t40.v) ∧ World.cell? w41 p3 = some (.int .i64 t39) ∧ ifM ((IntKind.i64.wrap (t39 + (t40.len : Int))) != r42)
  (J33 true w41)
  (nn a0 fun p46 =>
  ldI .i64 (p46.add 6) w41 fun t47 =>
  ifM (t47 == 0)
  (J33 true w41)
  (nn a0 fun p49 =>
  ldI .i64 (p49.add 6) w41 fun t50 =>
  J33 (t50 == 1) w41)))
  (J33 false w30))) fun J24 =>
  ldI .i64 p3 w21 fun t51 =>
  ifM (decide (t51 < 0))
  (J24 true w21)
  (ldI .i64 p3 w21 fun t53 =>
  nn a0 fun p54 =>
  ldI .i64 (p54.add 3) w21 fun t55 =>
  ldL (p3.add 1) w21 fun t56 =>
  J24 (decide (t53 > (IntKind.i64.wrap (t55 - (t56.len : Int))))) w21))

/-- (*caravel/ranges.Set).Gap -/
def C37 (a0 : Option Addr) (a1 : Int) (w : World) (K : Int → World → Prop) : Prop := CallsV Try.prog 37 #[.pointer a0, .int .i64 a1] w fun v w' => ∃ (r0 : Int), v = .int .i64 r0 ∧ K r0 w'
theorem C37.mono {a0 : Option Addr} {a1 : Int} {w : World} {K : Int → World → Prop} (h : C37 a0 a1 w K) {K' : Int → World → Prop} (hk : ∀ r0 w', K r0 w' → K' r0 w') : C37 a0 a1 w K' :=
  CallsV.mono h fun v w' ⟨r0, e, h⟩ => ⟨r0, e, hk _ w' h⟩
def sh37 (a0 : Option Addr) (a1 : Int) (w : World) (K : Int → World → Prop) : Prop :=
  jn (fun (v5 : Unit) w6 =>
  jn (fun (v13 : Int) w14 =>
  jn (fun (v19 : Unit) w20 =>
  K v13 w20) fun J21 =>
  ifM (decide (v13 > 4611686018427387903))
  (K (-1) w14)
  (J21 () w14)) fun J15 =>
  C50 a0 (if 0 > a1 then 0 else a1) w6 fun r32 w31 =>
  jn (fun (v35 : Bool) w36 =>
  ifM v35
  (nn a0 fun p41 =>
  ldL (p41.add 1) w36 fun t42 =>
  idx 2 t42 r32 fun p43 =>
  ldI .i64 (p43.add 1) w36 fun t45 =>
  J15 (IntKind.i64.wrap (t45 + 1)) w36)
  (J15 (if 0 > a1 then 0 else a1) w36)) fun J37 =>
  nn a0 fun p46 =>
  ldL (p46.add 1) w31 fun t47 =>
  ifM (decide (r32 < (t47.len : Int)))
  (nn a0 fun p49 =>
  ldL (p49.add 1) w31 fun t50 =>
  idx 2 t50 r32 fun p51 =>
  ldI .i64 p51 w31 fun t53 =>
  J37 (decide (t53 ≤ (if 0 > a1 then 0 else a1))) w31)
  (J37 false w31)) fun J7 =>
  C53 a0 w fun r57 w56 =>
  ifM r57
  (K 0 w56)
  (J7 () w56)

/-- (*caravel/ranges.Set).Has -/
def C39 (a0 : Option Addr) (a1 : Int) (w : World) (K : Bool → World → Prop) : Prop := CallsV Try.prog 39 #[.pointer a0, .int .i64 a1] w fun v w' => ∃ (r0 : Bool), v = .bool r0 ∧ K r0 w'
theorem C39.mono {a0 : Option Addr} {a1 : Int} {w : World} {K : Bool → World → Prop} (h : C39 a0 a1 w K) {K' : Bool → World → Prop} (hk : ∀ r0 w', K r0 w' → K' r0 w') : C39 a0 a1 w K' :=
  CallsV.mono h fun v w' ⟨r0, e, h⟩ => ⟨r0, e, hk _ w' h⟩
def sh39 (a0 : Option Addr) (a1 : Int) (w : World) (K : Bool → World → Prop) : Prop :=
  jn (fun (v5 : Unit) w6 =>
  C50 a0 a1 w6 fun r12 w11 =>
  jn (fun (v15 : Bool) w16 =>
  K v15 w16) fun J17 =>
  nn a0 fun p19 =>
  ldL (p19.add 1) w11 fun t20 =>
  ifM (decide (r12 < (t20.len : Int)))
  (nn a0 fun p22 =>
  ldL (p22.add 1) w11 fun t23 =>
  idx 2 t23 r12 fun p24 =>
  ldI .i64 p24 w11 fun t26 =>
  J17 (decide (t26 ≤ a1)) w11)
  (J17 false w11)) fun J7 =>
  jn (fun (v29 : Bool) w30 =>
  ifM v29
  (K false w30)
  (J7 () w30)) fun J31 =>
  C53 a0 w fun r36 w35 =>
  ifM r36
  (J31 true w35)
  (J31 (decide (a1 < 0)) w35)

/-- (*caravel/ranges.Set).Add -/
def C36 (a0 : Option Addr) (a1 : Int) (a2 : Int) (w : World) (K : Int → World → Prop) : Prop := CallsV Try.prog 36 #[.pointer a0, .int .i64 a1, .int .i64 a2] w fun v w' => ∃ (r0 : Int), v = .int .i64 r0 ∧ K r0 w'
theorem C36.mono {a0 : Option Addr} {a1 : Int} {a2 : Int} {w : World} {K : Int → World → Prop} (h : C36 a0 a1 a2 w K) {K' : Int → World → Prop} (hk : ∀ r0 w', K r0 w' → K' r0 w') : C36 a0 a1 a2 w K' :=
  CallsV.mono h fun v w' ⟨r0, e, h⟩ => ⟨r0, e, hk _ w' h⟩
def sh36 (a0 : Option Addr) (a1 : Int) (a2 : Int) (w : World) (K : Int → World → Prop) : Prop :=
  jn (fun (v5 : Unit) w6 =>
  C50 a0 (IntKind.i64.wrap (a1 - 1)) w6 fun r12 w11 =>
  newV 94 #[.int .i64 0, .int .i64 0] w11 fun p17 w18 =>
  stA 2 p17 (#[.int .i64 a1, .int .i64 a2]) w18 fun w19 =>
  jn (fun (v22 : Int) w23 =>
  jn (fun (v28 : Unit) w29 =>
  drw w29 fun w34 =>
  nn a0 fun p35 =>
  ldL (p35.add 1) w34 fun t36 =>
  ldA 2 p17 w34 fun t37 =>
  ∃ (t39 : Slc) (w38 : World), rn Try.prog (Instr.buildSlice 87 1 ([(0, .agg t37)] : List (Nat × Value)).toArray) t39.v w34 w38 ∧
  World.cell? w38 (p35.add 1) = some (t36.v) ∧ C51 t36 r12 v22 t39 w38 fun r42 w41 =>
  nn a0 fun p43 =>
  stV (p43.add 1) (r42.v) w41 fun w44 =>
  K 0 w44) fun J30 =>
  nn a0 fun p49 =>
  ldL (p49.add 1) w23 fun t50 =>
  ifM (decide ((IntKind.i64.wrap ((IntKind.i64.wrap ((t50.len : Int) - (IntKind.i64.wrap (v22 - r12)))) + 1)) > 65536))
  (K 3 w23)
  (J30 () w23)) fun J24 =>
  Lp (fun (s53 : Int) N55 w54 =>
  jn (fun (v59 : Unit) w60 =>
  jn (fun (v65 : Unit) w66 =>
  N55 (IntKind.i64.wrap (s53 + 1)) w66) fun J67 =>
  jn (fun (v73 : Unit) w74 =>
  drw w74 fun w79 =>
  ldI .i64 p17 w79 fun t80 =>
  nn a0 fun p81 =>
  ldL (p81.add 1) w79 fun t82 =>
  idx 2 t82 s53 fun p83 =>
  ldI .i64 p83 w79 fun t85 =>
  ldI .i64 (p17.add 1) w79 fun t86 =>
  nn a0 fun p87 =>
  ldL (p87.add 1) w79 fun t88 =>
  idx 2 t88 s53 fun p89 =>
  ldI .i64 (p89.add 1) w79 fun t91 =>
  stA 2 p17 (#[.int .i64 (if t85 < t80 then t85 else t80), .int .i64 (if t91 > t86 then t91 else t86)]) w79 fun w92 =>
  J67 () w92) fun J75 =>
  nn a0 fun p95 =>
  ldL (p95.add 1) w60 fun t96 =>
  idx 2 t96 s53 fun p97 =>
  ldI .i64 p97 w60 fun t99 =>
  ifM (decide (t99 > (IntKind.i64.wrap (a2 + 1))))
  (J24 s53 w60)
  (J75 () w60)) fun J61 =>
  nn a0 fun p102 =>
  ldL (p102.add 1) w54 fun t103 =>
  ifM (decide (s53 < (t103.len : Int)))
  (J61 () w54)
  (J24 s53 w54)) r12 w19) fun J7 =>
  C49 a0 a1 a2 w fun r107 w106 =>
  ifM (r107 != 0)
  (K r107 w106)
  (J7 () w106)

/-- (*caravel/outbox.Outbox).Lost -/
def C21 (a0 : Option Addr) (a1 : Array Value) (w : World) (K : Int → World → Prop) : Prop := CallsV Try.prog 21 #[.pointer a0, .agg a1] w fun v w' => ∃ (r0 : Int), v = .int .i64 r0 ∧ K r0 w'
theorem C21.mono {a0 : Option Addr} {a1 : Array Value} {w : World} {K : Int → World → Prop} (h : C21 a0 a1 w K) {K' : Int → World → Prop} (hk : ∀ r0 w', K r0 w' → K' r0 w') : C21 a0 a1 w K' :=
  CallsV.mono h fun v w' ⟨r0, e, h⟩ => ⟨r0, e, hk _ w' h⟩
def sh21 (a0 : Option Addr) (a1 : Array Value) (w : World) (K : Int → World → Prop) : Prop :=
  newV 30 a1 w fun p3 w4 =>
  jn (fun (v7 : Unit) w8 =>
  jn (fun (v13 : Unit) w14 =>
  jn (fun (v19 : Unit) w20 =>
  K 0 w20) fun J21 =>
  jn (fun (v27 : Bool) w28 =>
  ifM v27
  (nn a0 fun p33 =>
  stV (p33.add 6) (.int .i64 3) w28 fun w34 =>
  J21 () w34)
  (J21 () w28)) fun J29 =>
  ldB (p3.add 2) w14 fun t35 =>
  ifM t35
  (nn a0 fun p37 =>
  ldI .i64 (p37.add 6) w14 fun t38 =>
  J29 (t38 == 2) w14)
  (J29 false w14)) fun J15 =>
  ldI .i64 p3 w8 fun t41 =>
  Lp (fun (s42 : Int) N44 w43 =>
  jn (fun (v48 : Unit) w49 =>
  nn a0 fun p54 =>
  ldP (p54.add 5) w49 fun t55 =>
  C37 t55 s42 w49 fun r57 w56 =>
  jn (fun (v62 : Int) w63 =>
  jn (fun (v68 : Unit) w69 =>
  N44 v62 w69) fun J70 =>
  ifM (decide (v62 > r57))
  (nn a0 fun p78 =>
  ldP (p78.add 4) w63 fun t79 =>
  C36 t79 r57 (IntKind.i64.wrap (v62 - 1)) w63 fun r81 w80 =>
  J70 () w80)
  (J70 () w63)) fun J64 =>
  Lp (fun (s82 : Int) N84 w83 =>
  jn (fun (v88 : Unit) w89 =>
  N84 (IntKind.i64.wrap (s82 + 1)) w89) fun J90 =>
  jn (fun (v96 : Bool) w97 =>
  ifM v96
  (J90 () w97)
  (J64 s82 w97)) fun J98 =>
  ldI .i64 p3 w83 fun t100 =>
  ldL (p3.add 1) w83 fun t101 =>
  ifM (decide (s82 < (IntKind.i64.wrap (t100 + (t101.len : Int)))))
  (nn a0 fun p103 =>
  ldP (p103.add 5) w83 fun t104 =>
  C39 t104 s82 w83 fun r106 w105 =>
  J98 (!r106) w105)
  (J98 false w83)) r57 w56) fun J50 =>
  ldI .i64 p3 w43 fun t109 =>
  ldL (p3.add 1) w43 fun t110 =>
  ifM (decide (s42 < (IntKind.i64.wrap (t109 + (t110.len : Int)))))
  (J50 () w43)
  (J15 () w43)) t41 w8) fun J9 =>
  ldA 3 p3 w4 fun t113 =>
  C35 a0 t113 w4 fun r115 w114 =>
  ifM (r115 != 0)
  (K r115 w114)
  (J9 () w114)

/-- (*caravel/outbox.Outbox).Acked -/
def C19 (a0 : Option Addr) (a1 : Array Value) (w : World) (K : Int → World → Prop) : Prop := CallsV Try.prog 19 #[.pointer a0, .agg a1] w fun v w' => ∃ (r0 : Int), v = .int .i64 r0 ∧ K r0 w'
theorem C19.mono {a0 : Option Addr} {a1 : Array Value} {w : World} {K : Int → World → Prop} (h : C19 a0 a1 w K) {K' : Int → World → Prop} (hk : ∀ r0 w', K r0 w' → K' r0 w') : C19 a0 a1 w K' :=
  CallsV.mono h fun v w' ⟨r0, e, h⟩ => ⟨r0, e, hk _ w' h⟩
def sh19 (a0 : Option Addr) (a1 : Array Value) (w : World) (K : Int → World → Prop) : Prop :=
  newV 30 a1 w fun p3 w4 =>
  jn (fun (v7 : Unit) w8 =>
  jn (fun (v13 : Unit) w14 =>
  jn (fun (v19 : Unit) w20 =>
  jn (fun (v25 : Unit) w26 =>
  K 0 w26) fun J27 =>
  drw w20 fun w33 =>
  nn a0 fun p34 =>
  ldP (p34.add 5) w33 fun t35 =>
  nn a0 fun p36 =>
  ldI .i64 (p36.add 1) w33 fun t37 =>
  C37 t35 t37 w33 fun r39 w38 =>
  nn a0 fun p42 =>
  ldI .i64 (p42.add 1) w38 fun t43 =>
  ifM (decide (r39 > t43))
  (drw w38 fun w46 =>
  nn a0 fun p47 =>
  ldL (p47.add 2) w46 fun t48 =>
  nn a0 fun p49 =>
  ldI .i64 (p49.add 1) w46 fun t50 =>
  0 ≤ (IntKind.i64.wrap (r39 - t50)) ∧ (IntKind.i64.wrap (r39 - t50)) ≤ (t48.len : Int) ∧ 
  C30 (t48.sub 1 ((IntKind.i64.wrap (r39 - t50)).toNat) t48.len t48.cap) w46 fun r54 w53 =>
  nn a0 fun p55 =>
  stV (p55.add 2) (r54.v) w53 fun w56 =>
  nn a0 fun p59 =>
  stV (p59.add 1) (.int .i64 r39) w56 fun w60 =>
  J27 () w60)
  (J27 () w38)) fun J21 =>
  ldB (p3.add 2) w14 fun t63 =>
  ifM t63
  (nn a0 fun p66 =>
  stV (p66.add 6) (.int .i64 4) w14 fun w67 =>
  J21 () w67)
  (J21 () w14)) fun J15 =>
  ldL (p3.add 1) w8 fun t70 =>
  ifM (decide ((t70.len : Int) > 0))
  (drw w8 fun w75 =>
  nn a0 fun p76 =>
  ldP (p76.add 5) w75 fun t77 =>
  ldI .i64 p3 w75 fun t78 =>
  ldI .i64 p3 w75 fun t79 =>
  C36 t77 t78 (IntKind.i64.wrap ((IntKind.i64.wrap (t79 + (t70.len : Int))) - 1)) w75 fun r81 w80 =>
  drw w80 fun w84 =>
  nn a0 fun p85 =>
  ldP (p85.add 4) w84 fun t86 =>
  ldI .i64 p3 w84 fun t87 =>
  ldI .i64 p3 w84 fun t88 =>
  C31 t86 t87 (IntKind.i64.wrap ((IntKind.i64.wrap (t88 + (t70.len : Int))) - 1)) w84 fun r90 w89 =>
  J15 () w89)
  (J15 () w8)) fun J9 =>
  ldA 3 p3 w4 fun t93 =>
  C35 a0 t93 w4 fun r95 w94 =>
  ifM (r95 != 0)
  (K r95 w94)
  (J9 () w94)

/-- (*caravel/inbox.Inbox).Read -/
def C26 (a0 : Option Addr) (a1 : Int) (w : World) (K : Slc → Bool → World → Prop) : Prop := CallsV Try.prog 26 #[.pointer a0, .int .i64 a1] w fun v w' => ∃ (r0 : Slc) (r1 : Bool), v = .tuple #[r0.v, .bool r1] ∧ K r0 r1 w'
theorem C26.mono {a0 : Option Addr} {a1 : Int} {w : World} {K : Slc → Bool → World → Prop} (h : C26 a0 a1 w K) {K' : Slc → Bool → World → Prop} (hk : ∀ r0 r1 w', K r0 r1 w' → K' r0 r1 w') : C26 a0 a1 w K' :=
  CallsV.mono h fun v w' ⟨r0, r1, e, h⟩ => ⟨r0, r1, e, hk _ _ w' h⟩
def sh26 (a0 : Option Addr) (a1 : Int) (w : World) (K : Slc → Bool → World → Prop) : Prop :=
  jn (fun (v5 : Slc) w6 =>
  jn (fun (v11 : Slc) w12 =>
  drw w12 fun w17 =>
  nn a0 fun p18 =>
  ldI .i64 (p18.add 3) w17 fun t19 =>
  nn a0 fun p20 =>
  ldI .i64 (p20.add 2) w17 fun t21 =>
  nn a0 fun p22 =>
  ldI .i64 (p22.add 1) w17 fun t23 =>
  nn a0 fun p24 =>
  stV (p24.add 3) (.int .i64 (if (IntKind.i64.wrap (t21 + t23)) > t19 then (IntKind.i64.wrap (t21 + t23)) else t19)) w17 fun w25 =>
  drw w25 fun w28 =>
  jn (fun (v29 : Slc × Bool) w30 =>
  K v29.1 v29.2 w30) fun J31 =>
  nn a0 fun p33 =>
  ldB (p33.add 6) w28 fun t34 =>
  ifM t34
  (nn a0 fun p36 =>
  ldI .i64 (p36.add 2) w28 fun t37 =>
  nn a0 fun p38 =>
  ldI .i64 (p38.add 5) w28 fun t39 =>
  J31 (v11, t37 == t39) w28)
  (J31 (v11, false) w28)) fun J13 =>
  Lp (fun (s40 : Slc) N42 w41 =>
  jn (fun (v46 : Unit) w47 =>
  drw w47 fun w52 =>
  nn a0 fun p53 =>
  ldM (p53.add 7) w52 fun t54 =>
  nn a0 fun p55 =>
  ldI .i64 (p55.add 2) w52 fun t56 =>
  ∃ (t57 : Slc) (t58 : Bool), rn Try.prog (Instr.lookup 81 (.map t54) (.int .i64 t56) true) (.tuple #[t57.v, .bool t58]) w52 w52 ∧
  jn (fun (v61 : Unit) w62 =>
  drw w62 fun w67 =>
  nn a0 fun p68 =>
  ldM (p68.add 7) w67 fun t69 =>
  nn a0 fun p70 =>
  ldI .i64 (p70.add 2) w67 fun t71 =>
  ∃ (w72 : World), (∀ t, rn Try.prog (Builtin.delete_ #[81, 3] t #[.map t69, .int .i64 t71]) (.tuple #[]) w67 w72) ∧
  0 ≤ (if (IntKind.i64.wrap (a1 - (s40.len : Int))) < (t57.len : Int) then (IntKind.i64.wrap (a1 - (s40.len : Int))) else (t57.len : Int)) ∧ (if (IntKind.i64.wrap (a1 - (s40.len : Int))) < (t57.len : Int) then (IntKind.i64.wrap (a1 - (s40.len : Int))) else (t57.len : Int)) ≤ (t57.cap : Int) ∧ 
  ∃ (t80 : Slc) (w79 : World), (∀ t, rn Try.prog (Builtin.append_ #[22, 22] t #[s40.v, (t57.sub 1 0 ((if (IntKind.i64.wrap (a1 - (s40.len : Int))) < (t57.len : Int) then (IntKind.i64.wrap (a1 - (s40.len : Int))) else (t57.len : Int)).toNat) t57.cap).v]) t80.v w72 w79) ∧
  nn a0 fun p83 =>
  ldI .i64 (p83.add 2) w79 fun t84 =>
  nn a0 fun p85 =>
  stV (p85.add 2) (.int .i64 (IntKind.i64.wrap (t84 + (if (IntKind.i64.wrap (a1 - (s40.len : Int))) < (t57.len : Int) then (IntKind.i64.wrap (a1 - (s40.len : Int))) else (t57.len : Int))))) w79 fun w86 =>
  ifM (decide ((if (IntKind.i64.wrap (a1 - (s40.len : Int))) < (t57.len : Int) then (IntKind.i64.wrap (a1 - (s40.len : Int))) else (t57.len : Int)) < (t57.len : Int)))
  (drw w86 fun w91 =>
  nn a0 fun p92 =>
  ldM (p92.add 7) w91 fun t93 =>
  nn a0 fun p94 =>
  ldI .i64 (p94.add 2) w91 fun t95 =>
  0 ≤ (if (IntKind.i64.wrap (a1 - (s40.len : Int))) < (t57.len : Int) then (IntKind.i64.wrap (a1 - (s40.len : Int))) else (t57.len : Int)) ∧ (if (IntKind.i64.wrap (a1 - (s40.len : Int))) < (t57.len : Int) then (IntKind.i64.wrap (a1 - (s40.len : Int))) else (t57.len : Int)) ≤ (t57.len : Int) ∧ 
  ∃ w98 : World, rn Try.prog (Instr.mapUpdate 81 (.map t93) (.int .i64 t95) ((t57.sub 1 ((if (IntKind.i64.wrap (a1 - (s40.len : Int))) < (t57.len : Int) then (IntKind.i64.wrap (a1 - (s40.len : Int))) else (t57.len : Int)).toNat) t57.len t57.cap).v)) () w91 w98 ∧
  N42 t80 w98)
  (N42 t80 w86)) fun J63 =>
  ifM (!t58)
  (J13 s40 w52)
  (J63 () w52)) fun J48 =>
  ifM (decide ((s40.len : Int) < a1))
  (J48 () w41)
  (J13 s40 w41)) v5 w6) fun J7 =>
  C42 a0 w fun r106 w105 =>
  ifM r106
  (K Slc.nil false w105)
  (J7 Slc.nil w105)

/-- caravel/caravellaw07.OutboxArrives -/
def C5 (a0 : Slc) (a1 : Slc) (w : World) (K : Bool → World → Prop) : Prop := CallsV Try.prog 5 #[a0.v, a1.v] w fun v w' => ∃ (r0 : Bool), v = .bool r0 ∧ K r0 w'
theorem C5.mono {a0 : Slc} {a1 : Slc} {w : World} {K : Bool → World → Prop} (h : C5 a0 a1 w K) {K' : Bool → World → Prop} (hk : ∀ r0 w', K r0 w' → K' r0 w') : C5 a0 a1 w K' :=
  CallsV.mono h fun v w' ⟨r0, e, h⟩ => ⟨r0, e, hk _ w' h⟩
def sh5 (a0 : Slc) (a1 : Slc) (w : World) (K : Bool → World → Prop) : Prop :=
  jn (fun (v5 : Unit) w6 =>
  C6 (a0.len : Int) w6 fun r12 r13 w11 =>
  C24 (a0.len : Int) w11 fun r17 r18 w16 =>
  jn (fun (v21 : Unit) w22 =>
  C7 r12 a0 w22 fun r28 r29 w27 =>
  jn (fun (v32 : Unit) w33 =>
  jn (fun (v40 : ByteArray) w41 =>
  C26 r17 (a0.len : Int) w41 fun r47 r48 w46 =>
  jn (fun (v51 : Bool) w52 =>
  K v51 w52) fun J53 =>
  ifM r48
  (∃ t56, rn Try.prog (convert 22 9 r47.v) (.string t56) w46 w46 ∧ 
  ((v40.size + t56.size : Nat) : Int) ≤ IntKind.i64.max ∧ ∃ t57, rn Try.prog (convert 22 9 a0.v) (.string t57) w46 w46 ∧ 
  J53 ((v40 ++ t56).toList == t57.toList) w46)
  (J53 false w46)) fun J42 =>
  Lp (fun (s60 : ByteArray × Int) N62 w61 =>
  jn (fun (v66 : Unit) w67 =>
  jn (fun (v72 : ByteArray) w73 =>
  N62 (v72, IntKind.i64.wrap (s60.2 + 1)) w73) fun J74 =>
  jn (fun (v80 : Unit) w81 =>
  newV 62 #[.int .i64 0, .bool false, .bool false] w81 fun p86 w87 =>
  stA 3 p86 (#[.int .i64 (a0.len : Int), .bool false, .bool false]) w87 fun w88 =>
  jn (fun (v91 : Unit) w92 =>
  ldI .i64 p86 w92 fun t97 =>
  C8 r12 t97 (a0.len : Int) w92 fun r99 r100 w98 =>
  newV 30 #[.int .i64 0, Slc.nil.v, .bool false] w98 fun p101 w102 =>
  stA 3 p101 r99 w102 fun w103 =>
  jn (fun (v106 : Unit) w107 =>
  jn (fun (v112 : Unit) w113 =>
  jn (fun (v118 : Unit) w119 =>
  jn (fun (v124 : Unit) w125 =>
  jn (fun (v130 : Unit) w131 =>
  jn (fun (v136 : Unit) w137 =>
  C26 r17 (a0.len : Int) w137 fun r143 r144 w142 =>
  ∃ t147, rn Try.prog (convert 22 9 r143.v) (.string t147) w142 w142 ∧ 
  ((s60.1.size + t147.size : Nat) : Int) ≤ IntKind.i64.max ∧ J74 (s60.1 ++ t147) w142) fun J138 =>
  ldA 3 p101 w131 fun t150 =>
  C19 r12 t150 w131 fun r152 w151 =>
  ifM (r152 != 0)
  (K false w151)
  (J138 () w151)) fun J132 =>
  jn (fun (v157 : Bool) w158 =>
  ifM v157
  (K false w158)
  (J132 () w158)) fun J159 =>
  ldB (p86.add 2) w125 fun t163 =>
  ifM t163
  (ldA 3 p101 w125 fun t165 =>
  C21 r12 t165 w125 fun r167 w166 =>
  J159 (r167 != 0) w166)
  (J159 false w125)) fun J126 =>
  ldB (p86.add 1) w119 fun t170 =>
  ifM t170
  (jn (fun (v173 : Unit) w174 =>
  J74 s60.1 w174) fun J175 =>
  ldA 3 p101 w119 fun t179 =>
  C21 r12 t179 w119 fun r181 w180 =>
  ifM (r181 != 0)
  (K false w180)
  (J175 () w180))
  (J126 () w119)) fun J120 =>
  jn (fun (v186 : Bool) w187 =>
  ifM v186
  (ldI .i64 p101 w187 fun t192 =>
  ldL (p101.add 1) w187 fun t193 =>
  ldB (p101.add 2) w187 fun t194 =>
  C25 r17 t192 t193 t194 w187 fun r196 w195 =>
  ifM (r196 != 0)
  (K false w195)
  (J120 () w195))
  (J120 () w187)) fun J188 =>
  ldB (p86.add 1) w113 fun t199 =>
  ifM (!t199)
  (J188 true w113)
  (ldB (p86.add 2) w113 fun t201 =>
  J188 t201 w113)) fun J114 =>
  drw w107 fun w204 =>
  jn (fun (v205 : Bool) w206 =>
  ifM v205
  (K false w206)
  (J114 () w206)) fun J207 =>
  ldI .i64 p101 w204 fun t211 =>
  ifM (decide (t211 < 0))
  (J207 true w204)
  (ldI .i64 p101 w204 fun t213 =>
  ldL (p101.add 1) w204 fun t214 =>
  ifM (decide ((IntKind.i64.wrap (t213 + (t214.len : Int))) > (a0.len : Int)))
  (J207 true w204)
  (ldL (p101.add 1) w204 fun t216 =>
  ∃ t217, rn Try.prog (convert 22 9 t216.v) (.string t217) w204 w204 ∧ 
  ldI .i64 p101 w204 fun t218 =>
  ldI .i64 p101 w204 fun t219 =>
  ldL (p101.add 1) w204 fun t220 =>
  0 ≤ t218 ∧ t218 ≤ (IntKind.i64.wrap (t219 + (t220.len : Int))) ∧ (IntKind.i64.wrap (t219 + (t220.len : Int))) ≤ (a0.cap : Int) ∧ 
  ∃ t224, rn Try.prog (convert 22 9 (a0.sub 1 t218.toNat ((IntKind.i64.wrap (t219 + (t220.len : Int))).toNat) a0.cap).v) (.string t224) w204 w204 ∧ 
  ifM (!(t217.toList == t224.toList))
  (J207 true w204)
  (ldB (p101.add 2) w204 fun t226 =>
  ifM t226
  (ldI .i64 p101 w204 fun t228 =>
  ldL (p101.add 1) w204 fun t229 =>
  J207 ((IntKind.i64.wrap (t228 + (t229.len : Int))) != (a0.len : Int)) w204)
  (J207 false w204))))) fun J108 =>
  ifM (!r100)
  (K false w103)
  (J108 () w103)) fun J93 =>
  ifM (decide (s60.2 < (a1.len : Int)))
  (idx 3 a1 s60.2 fun p238 =>
  ldA 3 p238 w88 fun t240 =>
  stA 3 p86 t240 w88 fun w241 =>
  ldI .i64 p86 w241 fun t244 =>
  stV p86 (.int .i64 (IntKind.i64.wrap (1 + (bitsZ .and .i64 t244 255)))) w241 fun w245 =>
  J93 () w245)
  (J93 () w88)) fun J82 =>
  ifM (decide (s60.2 > (IntKind.i64.wrap ((IntKind.i64.wrap ((a1.len : Int) + (a0.len : Int))) + 2))))
  (K false w67)
  (J82 () w67)) fun J68 =>
  C11 r12 w61 fun r253 w252 =>
  ifM (!r253)
  (J68 () w252)
  (J42 s60.1 w252)) ((⟨#[]⟩ : ByteArray), 0) w33) fun J34 =>
  jn (fun (v256 : Bool) w257 =>
  ifM v256
  (K false w257)
  (J34 () w257)) fun J258 =>
  ifM (r28 != (a0.len : Int))
  (J258 true w27)
  (ifM (r29 != 0)
  (J258 true w27)
  (C15 r12 w27 fun r265 w264 =>
  J258 (r265 != 0) w264))) fun J23 =>
  jn (fun (v268 : Bool) w269 =>
  ifM v268
  (K false w269)
  (J23 () w269)) fun J270 =>
  ifM (r13 != 0)
  (J270 true w16)
  (ifM (r18 != 0)
  (J270 true w16)
  (ifM r12.isNone
  (J270 true w16)
  (J270 r17.isNone w16)))) fun J7 =>
  ifM (decide ((a0.len : Int) > 1048576))
  (K true w)
  (J7 () w)

end Go.Proofs.Ytfgodebgjemljaa
