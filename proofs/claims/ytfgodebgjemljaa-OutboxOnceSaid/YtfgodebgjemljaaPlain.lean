/-
  Printed by a program: the plain texts of the functions, and their ties to the code.
-/
import Derived.Test.YtfgodebgjemljaaProg
import Derived.Test.YtfgodebgjemljaaSh4
import Derived.KernelRfl
import Derived.Test.YtfgodebgjemljaaOF
namespace Go.Proofs.Ytfgodebgjemljaa
open Go Go.Sh
set_option linter.unusedVariables false
set_option linter.unusedSimpArgs false
theorem mo : Try.prog.follows .mixedOrders = true := by kernel_rfl
/-- caravel/ranges.New -/
def C27 (w : World) (K : Option Addr → World → Prop) : Prop := CallsV Try.prog 27 #[] w fun v w' => ∃ (r0 : Option Addr), v = .pointer r0 ∧ K r0 w'
theorem C27.mono {w : World} {K : Option Addr → World → Prop} (h : C27 w K) {K' : Option Addr → World → Prop} (hk : ∀ r0 w', K r0 w' → K' r0 w') : C27 w K' :=
  CallsV.mono h fun v w' ⟨r0, e, h⟩ => ⟨r0, e, hk _ w' h⟩
def sh27 (w : World) (K : Option Addr → World → Prop) : Prop :=
  newV 89 #[.bool true, Slc.nil.v] w fun p5 w6 =>
  K (some p5) w6

/-- caravel/outbox.New -/
def C6 (a0 : Int) (w : World) (K : Option Addr → Int → World → Prop) : Prop := CallsV Try.prog 6 #[.int .i64 a0] w fun v w' => ∃ (r0 : Option Addr) (r1 : Int), v = .tuple #[.pointer r0, .int .i64 r1] ∧ K r0 r1 w'
theorem C6.mono {a0 : Int} {w : World} {K : Option Addr → Int → World → Prop} (h : C6 a0 w K) {K' : Option Addr → Int → World → Prop} (hk : ∀ r0 r1 w', K r0 r1 w' → K' r0 r1 w') : C6 a0 w K' :=
  CallsV.mono h fun v w' ⟨r0, r1, e, h⟩ => ⟨r0, r1, e, hk _ _ w' h⟩
def sh6 (a0 : Int) (w : World) (K : Option Addr → Int → World → Prop) : Prop :=
  jn (fun (v5 : Unit) w6 =>
  C27 w6 fun r12 w11 =>
  C27 w11 fun r14 w13 =>
  newV 70 #[.int .i64 a0, .int .i64 0, Slc.nil.v, .int .i64 0, .pointer r12, .pointer r14, .int .i64 0] w13 fun p15 w16 =>
  K (some p15) 0 w16) fun J7 =>
  jn (fun (v19 : Bool) w20 =>
  ifM v19
  (K none 2 w20)
  (J7 () w20)) fun J21 =>
  ifM (decide (a0 < 0))
  (J21 true w)
  (J21 (decide (a0 > 1048576)) w)

/-- (*caravel/outbox.Outbox).none -/
def C28 (a0 : Option Addr) (w : World) (K : Bool → World → Prop) : Prop := CallsV Try.prog 28 #[.pointer a0] w fun v w' => ∃ (r0 : Bool), v = .bool r0 ∧ K r0 w'
theorem C28.mono {a0 : Option Addr} {w : World} {K : Bool → World → Prop} (h : C28 a0 w K) {K' : Bool → World → Prop} (hk : ∀ r0 w', K r0 w' → K' r0 w') : C28 a0 w K' :=
  CallsV.mono h fun v w' ⟨r0, e, h⟩ => ⟨r0, e, hk _ w' h⟩
def sh28 (a0 : Option Addr) (w : World) (K : Bool → World → Prop) : Prop :=
  jn (fun (v5 : Bool) w6 =>
  K v5 w6) fun J7 =>
  ifM a0.isNone
  (J7 true w)
  (nn a0 fun p10 =>
  ldP (p10.add 4) w fun t11 =>
  J7 t11.isNone w)

/-- (*caravel/outbox.Outbox).Write -/
def C7 (a0 : Option Addr) (a1 : Slc) (w : World) (K : Int → Int → World → Prop) : Prop := CallsV Try.prog 7 #[.pointer a0, a1.v] w fun v w' => ∃ (r0 : Int) (r1 : Int), v = .tuple #[.int .i64 r0, .int .i64 r1] ∧ K r0 r1 w'
theorem C7.mono {a0 : Option Addr} {a1 : Slc} {w : World} {K : Int → Int → World → Prop} (h : C7 a0 a1 w K) {K' : Int → Int → World → Prop} (hk : ∀ r0 r1 w', K r0 r1 w' → K' r0 r1 w') : C7 a0 a1 w K' :=
  CallsV.mono h fun v w' ⟨r0, r1, e, h⟩ => ⟨r0, r1, e, hk _ _ w' h⟩
def sh7 (a0 : Option Addr) (a1 : Slc) (w : World) (K : Int → Int → World → Prop) : Prop :=
  jn (fun (v5 : Unit) w6 =>
  drw w6 fun w11 =>
  nn a0 fun p12 =>
  ldI .i64 p12 w11 fun t13 =>
  nn a0 fun p14 =>
  ldL (p14.add 2) w11 fun t15 =>
  drw w11 fun w18 =>
  nn a0 fun p19 =>
  ldL (p19.add 2) w18 fun t20 =>
  0 ≤ (if (IntKind.i64.wrap (t13 - (t15.len : Int))) < (a1.len : Int) then (IntKind.i64.wrap (t13 - (t15.len : Int))) else (a1.len : Int)) ∧ (if (IntKind.i64.wrap (t13 - (t15.len : Int))) < (a1.len : Int) then (IntKind.i64.wrap (t13 - (t15.len : Int))) else (a1.len : Int)) ≤ (a1.cap : Int) ∧ 
  ∃ (t24 : Slc) (w23 : World), (∀ t, rn Try.prog (Builtin.append_ #[22, 22] t #[t20.v, (a1.sub 1 0 ((if (IntKind.i64.wrap (t13 - (t15.len : Int))) < (a1.len : Int) then (IntKind.i64.wrap (t13 - (t15.len : Int))) else (a1.len : Int)).toNat) a1.cap).v]) t24.v w18 w23) ∧
  nn a0 fun p25 =>
  stV (p25.add 2) (t24.v) w23 fun w26 =>
  K (if (IntKind.i64.wrap (t13 - (t15.len : Int))) < (a1.len : Int) then (IntKind.i64.wrap (t13 - (t15.len : Int))) else (a1.len : Int)) 0 w26) fun J7 =>
  C28 a0 w fun r32 w31 =>
  ifM r32
  (K 0 1 w31)
  (nn a0 fun p37 =>
  ldI .i64 (p37.add 6) w31 fun t38 =>
  ifM (t38 != 0)
  (K 0 32 w31)
  (J7 () w31))

/-- (*caravel/ranges.Set).none -/
def C53 (a0 : Option Addr) (w : World) (K : Bool → World → Prop) : Prop := CallsV Try.prog 53 #[.pointer a0] w fun v w' => ∃ (r0 : Bool), v = .bool r0 ∧ K r0 w'
theorem C53.mono {a0 : Option Addr} {w : World} {K : Bool → World → Prop} (h : C53 a0 w K) {K' : Bool → World → Prop} (hk : ∀ r0 w', K r0 w' → K' r0 w') : C53 a0 w K' :=
  CallsV.mono h fun v w' ⟨r0, e, h⟩ => ⟨r0, e, hk _ w' h⟩
def sh53 (a0 : Option Addr) (w : World) (K : Bool → World → Prop) : Prop :=
  jn (fun (v5 : Bool) w6 =>
  K v5 w6) fun J7 =>
  ifM a0.isNone
  (J7 true w)
  (nn a0 fun p10 =>
  ldB p10 w fun t11 =>
  J7 (!t11) w)

/-- slices.Clone[[]caravel/api.Span,caravel/api.Span] -/
def C56 (a0 : Slc) (w : World) (K : Slc → World → Prop) : Prop := CallsV Try.prog 56 #[a0.v] w fun v w' => ∃ (r0 : Slc), v = r0.v ∧ K r0 w'
theorem C56.mono {a0 : Slc} {w : World} {K : Slc → World → Prop} (h : C56 a0 w K) {K' : Slc → World → Prop} (hk : ∀ r0 w', K r0 w' → K' r0 w') : C56 a0 w K' :=
  CallsV.mono h fun v w' ⟨r0, e, h⟩ => ⟨r0, e, hk _ w' h⟩
def sh56 (a0 : Slc) (w : World) (K : Slc → World → Prop) : Prop :=
  jn (fun (v5 : Unit) w6 =>
  ∃ (t12 : Slc) (w11 : World), rn Try.prog (Instr.buildSlice 87 0 ([] : List (Nat × Value)).toArray) t12.v w6 w11 ∧
  ∃ (t14 : Slc) (w13 : World), (∀ t, rn Try.prog (Builtin.append_ #[87, 87] t #[t12.v, a0.v]) t14.v w11 w13) ∧
  K t14 w13) fun J7 =>
  ifM a0.a.isNone
  (K Slc.nil w)
  (J7 () w)

/-- (*caravel/ranges.Set).All$1 -/
def C55 (a0 : Value) (c0 : Option Addr) (w : World) (K : World → Prop) : Prop := CallsV Try.prog 55 #[a0, .pointer c0] w fun v w' => v = .tuple #[] ∧ K w'
theorem C55.mono {a0 : Value} {c0 : Option Addr} {w : World} {K : World → Prop} (h : C55 a0 c0 w K) {K' : World → Prop} (hk : ∀ w', K  w' → K'  w') : C55 a0 c0 w K' :=
  CallsV.mono h fun v w' ⟨e, h⟩ => ⟨e, hk w' h⟩
def sh55 (a0 : Value) (c0 : Option Addr) (w : World) (K : World → Prop) : Prop :=
  jn (fun (v3 : Unit) w4 =>
  nn c0 fun p10 =>
  ldP p10 w4 fun t9 =>
  nn t9 fun p11 =>
  ldL (p11.add 1) w4 fun t12 =>
  C56 t12 w4 fun r14 w13 =>
  Lp (fun (s15 : Int) N17 w16 =>
  jn (fun (v23 : Unit) w24 =>
  jn (fun (v29 : Unit) w30 =>
  N17 (IntKind.i64.wrap (s15 + 1)) w30) fun J31 =>
  idx 2 r14 s15 fun p37 =>
  ldA 2 p37 w24 fun t39 =>
  newV 94 #[.int .i64 0, .int .i64 0] w24 fun p40 w41 =>
  stA 2 p40 t39 w41 fun w42 =>
  ldA 2 p40 w42 fun t45 =>
  Yl Try.prog a0 #[.agg t45] w42 fun r47 w46 =>
  ifM (!r47)
  (K w46)
  (J31 () w46)) fun J25 =>
  ifM (decide (s15 < (r14.len : Int)))
  (J25 () w16)
  (K w16)) 0 w13) fun J5 =>
  nn c0 fun p51 =>
  ldP p51 w fun t50 =>
  C53 t50 w fun r53 w52 =>
  ifM r53
  (K w52)
  (J5 () w52)

/-- (*caravel/ranges.Set).All -/
def C47 (a0 : Option Addr) (w : World) (K : Value → World → Prop) : Prop := CallsV Try.prog 47 #[.pointer a0] w fun v w' => ∃ (r0 : Value), v = r0 ∧ K r0 w'
theorem C47.mono {a0 : Option Addr} {w : World} {K : Value → World → Prop} (h : C47 a0 w K) {K' : Value → World → Prop} (hk : ∀ r0 w', K r0 w' → K' r0 w') : C47 a0 w K' :=
  CallsV.mono h fun v w' ⟨r0, e, h⟩ => ⟨r0, e, hk _ w' h⟩
def sh47 (a0 : Option Addr) (w : World) (K : Value → World → Prop) : Prop :=
  newV 67 #[.pointer a0] w fun p3 w4 =>
  K (Value.func (Fn.func 55) #[] #[.pointer (some p3)]) w4

/-- (*caravel/outbox.Outbox).written -/
def C32 (a0 : Option Addr) (w : World) (K : Int → World → Prop) : Prop := CallsV Try.prog 32 #[.pointer a0] w fun v w' => ∃ (r0 : Int), v = .int .i64 r0 ∧ K r0 w'
theorem C32.mono {a0 : Option Addr} {w : World} {K : Int → World → Prop} (h : C32 a0 w K) {K' : Int → World → Prop} (hk : ∀ r0 w', K r0 w' → K' r0 w') : C32 a0 w K' :=
  CallsV.mono h fun v w' ⟨r0, e, h⟩ => ⟨r0, e, hk _ w' h⟩
def sh32 (a0 : Option Addr) (w : World) (K : Int → World → Prop) : Prop :=
  drw w fun w5 =>
  nn a0 fun p6 =>
  ldI .i64 (p6.add 1) w5 fun t7 =>
  nn a0 fun p8 =>
  ldL (p8.add 2) w5 fun t9 =>
  K (IntKind.i64.wrap (t7 + (t9.len : Int))) w5

/-- (*caravel/outbox.Outbox).due$1 -/
def C48 (c0 : Option Addr) (c1 : Option Addr) (w : World) (K : Int → World → Prop) : Prop := CallsV Try.prog 48 #[.pointer c0, .pointer c1] w fun v w' => ∃ (r0 : Int), v = .int .i64 r0 ∧ K r0 w'
theorem C48.mono {c0 : Option Addr} {c1 : Option Addr} {w : World} {K : Int → World → Prop} (h : C48 c0 c1 w K) {K' : Int → World → Prop} (hk : ∀ r0 w', K r0 w' → K' r0 w') : C48 c0 c1 w K' :=
  CallsV.mono h fun v w' ⟨r0, e, h⟩ => ⟨r0, e, hk _ w' h⟩
def sh48 (c0 : Option Addr) (c1 : Option Addr) (w : World) (K : Int → World → Prop) : Prop :=
  drw w fun w5 =>
  nn c0 fun p7 =>
  ldP p7 w5 fun t6 =>
  nn c1 fun p9 =>
  ldI .i64 p9 w5 fun t8 =>
  C32 t6 w5 fun r11 w10 =>
  World.cell? w10 p9 = some (.int .i64 t8) ∧ K (if t8 < r11 then t8 else r11) w10

/-- (*caravel/outbox.Outbox).due -/
def C29 (a0 : Option Addr) (a1 : Int) (a2 : Int) (w : World) (K : Int → Int → Bool → World → Prop) : Prop := CallsV Try.prog 29 #[.pointer a0, .int .i64 a1, .int .i64 a2] w fun v w' => ∃ (r0 : Int) (r1 : Int) (r2 : Bool), v = .tuple #[.int .i64 r0, .int .i64 r1, .bool r2] ∧ K r0 r1 r2 w'
theorem C29.mono {a0 : Option Addr} {a1 : Int} {a2 : Int} {w : World} {K : Int → Int → Bool → World → Prop} (h : C29 a0 a1 a2 w K) {K' : Int → Int → Bool → World → Prop} (hk : ∀ r0 r1 r2 w', K r0 r1 r2 w' → K' r0 r1 r2 w') : C29 a0 a1 a2 w K' :=
  CallsV.mono h fun v w' ⟨r0, r1, r2, e, h⟩ => ⟨r0, r1, r2, e, hk _ _ _ w' h⟩
def sh29 (a0 : Option Addr) (a1 : Int) (a2 : Int) (w : World) (K : Int → Int → Bool → World → Prop) : Prop :=
  newV 23 #[.pointer a0] w fun p3 w4 =>
  newV 3 #[.int .i64 a1] w4 fun p5 w6 =>
  newV 3 #[.int .i64 a2] w6 fun p7 w8 =>
  newV 3 #[.int .i64 0] w8 fun p9 w10 =>
  newV 3 #[.int .i64 0] w10 fun p11 w12 =>
  newV 4 #[.bool false] w12 fun p13 w14 =>
  jn (fun (v17 : Unit) w18 =>
  ldP p3 w18 fun t25 =>
  nn t25 fun p26 =>
  ldP (p26.add 4) w18 fun t27 =>
  C47 t27 w18 fun r29 w28 =>
  rf29 r29 p5 p9 p11 p13 w28 (fun D30 w31 =>
  jn (fun (v36 : Unit) w37 =>
  drw w37 fun w42 =>
  jn (fun (v43 : Unit) w44 =>
  rtD D30 w44 fun w47 =>
  ldI .i64 p9 w47 fun t48 =>
  ldI .i64 p11 w47 fun t49 =>
  ldB p13 w47 fun t50 =>
  K t48 t49 t50 w47) fun J45 =>
  ldP p3 w42 fun t51 =>
  nn t51 fun p52 =>
  ldI .i64 (p52.add 3) w42 fun t53 =>
  ldP p3 w42 fun t54 =>
  nn t54 fun p55 =>
  ldI .i64 (p55.add 3) w42 fun t56 =>
  ldP p3 w42 fun t57 =>
  nn t57 fun p58 =>
  ldI .i64 (p58.add 6) w42 fun t59 =>
  ifM (t59 == 1)
  (stV p9 (.int .i64 t53) w42 fun w61 =>
  World.cell? w61 (p55.add 3) = some (.int .i64 t56) ∧ World.cell? w61 p3 = some (.pointer t54) ∧ stV p11 (.int .i64 t56) w61 fun w64 =>
  stV p13 (.bool true) w64 fun w65 =>
  J45 () w65)
  (ldP p3 w42 fun t66 =>
  nn t66 fun p67 =>
  ldI .i64 (p67.add 6) w42 fun t68 =>
  stV p9 (.int .i64 t53) w42 fun w69 =>
  World.cell? w69 (p67.add 6) = some (.int .i64 t68) ∧ World.cell? w69 p3 = some (.pointer t66) ∧ World.cell? w69 (p55.add 3) = some (.int .i64 t56) ∧ World.cell? w69 p3 = some (.pointer t54) ∧ stV p11 (.int .i64 t56) w69 fun w74 =>
  World.cell? w74 (p67.add 6) = some (.int .i64 t68) ∧ World.cell? w74 p3 = some (.pointer t66) ∧ stV p13 (.bool (t68 == 3)) w74 fun w77 =>
  J45 () w77)) fun J38 =>
  drw w31 fun w80 =>
  ldP p3 w80 fun t81 =>
  nn t81 fun p82 =>
  ldI .i64 (p82.add 3) w80 fun t83 =>
  ldP p3 w80 fun t84 =>
  C32 t84 w80 fun r86 w85 =>
  World.cell? w85 (p82.add 3) = some (.int .i64 t83) ∧ World.cell? w85 p3 = some (.pointer t81) ∧ ifM (decide (t83 < r86))
  (jn (fun (v91 : Unit) w92 =>
  drw w92 fun w97 =>
  ldP p3 w97 fun t98 =>
  nn t98 fun p99 =>
  ldI .i64 (p99.add 3) w97 fun t100 =>
  ldI .i64 p5 w97 fun t101 =>
  ldP p3 w97 fun t102 =>
  nn t102 fun p103 =>
  ldI .i64 (p103.add 3) w97 fun t104 =>
  ∃ f107 x108 y109, (Value.func (Fn.func 48) #[] #[.pointer (some p3), .pointer (some p7)]) = .func (.func f107) x108 y109 ∧ (∀ args w, (callFunc f107 args).run Try.prog w = .ok (.enter f107 args) w) ∧ CallsV Try.prog f107 (x108 ++ #[] ++ y109) w97 fun v_ w105 => ∃ (r106 : Int), v_ = .int .i64 r106 ∧ 
  World.cell? w105 (p103.add 3) = some (.int .i64 t104) ∧ World.cell? w105 p3 = some (.pointer t102) ∧ World.cell? w105 p5 = some (.int .i64 t101) ∧ World.cell? w105 (p99.add 3) = some (.int .i64 t100) ∧ World.cell? w105 p3 = some (.pointer t98) ∧ stV p11 (.int .i64 (IntKind.i64.wrap (t100 + (if (IntKind.i64.wrap (r106 - t104)) < t101 then (IntKind.i64.wrap (r106 - t104)) else t101)))) w105 fun w115 =>
  drw w115 fun w118 =>
  ldP p3 w118 fun t119 =>
  nn t119 fun p120 =>
  ldI .i64 (p120.add 3) w118 fun t121 =>
  ldI .i64 p11 w118 fun t122 =>
  ldI .i64 p11 w118 fun t123 =>
  ldP p3 w118 fun t124 =>
  nn t124 fun p125 =>
  ldI .i64 (p125.add 3) w118 fun t126 =>
  stV p9 (.int .i64 t121) w118 fun w127 =>
  World.cell? w127 (p125.add 3) = some (.int .i64 t126) ∧ World.cell? w127 p3 = some (.pointer t124) ∧ World.cell? w127 p11 = some (.int .i64 t122) ∧ stV p11 (.int .i64 t122) w127 fun w131 =>
  World.cell? w131 (p125.add 3) = some (.int .i64 t126) ∧ World.cell? w131 p3 = some (.pointer t124) ∧ stV p13 (.bool (decide (t123 > t126))) w131 fun w134 =>
  rtD D30 w134 fun w135 =>
  ldI .i64 p9 w135 fun t136 =>
  ldI .i64 p11 w135 fun t137 =>
  ldB p13 w135 fun t138 =>
  K t136 t137 t138 w135) fun J93 =>
  drw w85 fun w141 =>
  ldP p3 w141 fun t142 =>
  nn t142 fun p143 =>
  ldI .i64 (p143.add 3) w141 fun t144 =>
  ldI .i64 p7 w141 fun t145 =>
  ifM (decide (t144 ≥ t145))
  (stV p9 (.int .i64 0) w141 fun w148 =>
  stV p11 (.int .i64 0) w148 fun w149 =>
  stV p13 (.bool false) w149 fun w150 =>
  rtD D30 w150 fun w151 =>
  ldI .i64 p9 w151 fun t152 =>
  ldI .i64 p11 w151 fun t153 =>
  ldB p13 w151 fun t154 =>
  K t152 t153 t154 w151)
  (J93 () w141))
  (J38 () w85)) (fun D30 w31 =>
  rtD D30 w31 fun w155 =>
  ldI .i64 p9 w155 fun t156 =>
  ldI .i64 p11 w155 fun t157 =>
  ldB p13 w155 fun t158 =>
  K t156 t157 t158 w155)) fun J19 =>
  ldI .i64 p5 w14 fun t161 =>
  ifM (decide (t161 < 0))
  (stV p9 (.int .i64 0) w14 fun w164 =>
  stV p11 (.int .i64 0) w164 fun w165 =>
  stV p13 (.bool false) w165 fun w166 =>
  ldI .i64 p9 w166 fun t167 =>
  ldI .i64 p11 w166 fun t168 =>
  ldB p13 w166 fun t169 =>
  K t167 t168 t169 w166)
  (J19 () w14)

/-- slices.Clone[[]byte,byte] -/
def C30 (a0 : Slc) (w : World) (K : Slc → World → Prop) : Prop := CallsV Try.prog 30 #[a0.v] w fun v w' => ∃ (r0 : Slc), v = r0.v ∧ K r0 w'
theorem C30.mono {a0 : Slc} {w : World} {K : Slc → World → Prop} (h : C30 a0 w K) {K' : Slc → World → Prop} (hk : ∀ r0 w', K r0 w' → K' r0 w') : C30 a0 w K' :=
  CallsV.mono h fun v w' ⟨r0, e, h⟩ => ⟨r0, e, hk _ w' h⟩
def sh30 (a0 : Slc) (w : World) (K : Slc → World → Prop) : Prop :=
  jn (fun (v5 : Unit) w6 =>
  newV 5 #[] w6 fun p12 w11 =>
  ∃ (t14 : Slc) (w13 : World), (∀ t, rn Try.prog (Builtin.append_ #[22, 22] t #[(Slc.mk (some p12) 0 0).v, a0.v]) t14.v w11 w13) ∧
  K t14 w13) fun J7 =>
  ifM a0.a.isNone
  (K Slc.nil w)
  (J7 () w)

/-- (*caravel/ranges.Set).wrong -/
def C49 (a0 : Option Addr) (a1 : Int) (a2 : Int) (w : World) (K : Int → World → Prop) : Prop := CallsV Try.prog 49 #[.pointer a0, .int .i64 a1, .int .i64 a2] w fun v w' => ∃ (r0 : Int), v = .int .i64 r0 ∧ K r0 w'
theorem C49.mono {a0 : Option Addr} {a1 : Int} {a2 : Int} {w : World} {K : Int → World → Prop} (h : C49 a0 a1 a2 w K) {K' : Int → World → Prop} (hk : ∀ r0 w', K r0 w' → K' r0 w') : C49 a0 a1 a2 w K' :=
  CallsV.mono h fun v w' ⟨r0, e, h⟩ => ⟨r0, e, hk _ w' h⟩
def sh49 (a0 : Option Addr) (a1 : Int) (a2 : Int) (w : World) (K : Int → World → Prop) : Prop :=
  jn (fun (v5 : Unit) w6 =>
  K 0 w6) fun J7 =>
  C53 a0 w fun r14 w13 =>
  ifM r14
  (K 1 w13)
  (jn (fun (v19 : Bool) w20 =>
  ifM v19
  (K 2 w20)
  (J7 () w20)) fun J21 =>
  ifM (decide (a1 < 0))
  (J21 true w13)
  (ifM (decide (a2 > 4611686018427387903))
  (J21 true w13)
  (J21 (decide (a1 > a2)) w13)))

/-- slices.BinarySearchFunc[[]caravel/api.Span,caravel/api.Span,int] -/
def C57 (a0 : Slc) (a1 : Int) (a2 : Value) (w : World) (K : Int → Bool → World → Prop) : Prop := CallsV Try.prog 57 #[a0.v, .int .i64 a1, a2] w fun v w' => ∃ (r0 : Int) (r1 : Bool), v = .tuple #[.int .i64 r0, .bool r1] ∧ K r0 r1 w'
theorem C57.mono {a0 : Slc} {a1 : Int} {a2 : Value} {w : World} {K : Int → Bool → World → Prop} (h : C57 a0 a1 a2 w K) {K' : Int → Bool → World → Prop} (hk : ∀ r0 r1 w', K r0 r1 w' → K' r0 r1 w') : C57 a0 a1 a2 w K' :=
  CallsV.mono h fun v w' ⟨r0, r1, e, h⟩ => ⟨r0, r1, e, hk _ _ w' h⟩
def sh57 (a0 : Slc) (a1 : Int) (a2 : Value) (w : World) (K : Int → Bool → World → Prop) : Prop :=
  jn (fun (v9 : Int) w10 =>
  jn (fun (v15 : Int × Bool) w16 =>
  K v15.1 v15.2 w16) fun J17 =>
  ifM (decide (v9 < (a0.len : Int)))
  (idx 2 a0 v9 fun p20 =>
  ldA 2 p20 w10 fun t22 =>
  ∃ f25 x26 y27, a2 = .func (.func f25) x26 y27 ∧ (∀ args w, (callFunc f25 args).run Try.prog w = .ok (.enter f25 args) w) ∧ CallsV Try.prog f25 (x26 ++ #[.agg t22, .int .i64 a1] ++ y27) w10 fun v_ w23 => ∃ (r24 : Int), v_ = .int .i64 r24 ∧ 
  J17 (v9, r24 == 0) w23)
  (J17 (v9, false) w10)) fun J11 =>
  Lp (fun (s28 : Int × Int) N30 w29 =>
  jn (fun (v34 : Unit) w35 =>
  idx 2 a0 (IntKind.i64.wrap (shrZ .u64 (IntKind.u64.wrap (IntKind.i64.wrap (s28.1 + s28.2))) 1)) fun p42 =>
  ldA 2 p42 w35 fun t44 =>
  ∃ f47 x48 y49, a2 = .func (.func f47) x48 y49 ∧ (∀ args w, (callFunc f47 args).run Try.prog w = .ok (.enter f47 args) w) ∧ CallsV Try.prog f47 (x48 ++ #[.agg t44, .int .i64 a1] ++ y49) w35 fun v_ w45 => ∃ (r46 : Int), v_ = .int .i64 r46 ∧ 
  ifM (decide (r46 < 0))
  (N30 (IntKind.i64.wrap ((IntKind.i64.wrap (shrZ .u64 (IntKind.u64.wrap (IntKind.i64.wrap (s28.1 + s28.2))) 1)) + 1), s28.2) w45)
  (N30 (s28.1, IntKind.i64.wrap (shrZ .u64 (IntKind.u64.wrap (IntKind.i64.wrap (s28.1 + s28.2))) 1)) w45)) fun J36 =>
  ifM (decide (s28.1 < s28.2))
  (J36 () w29)
  (J11 s28.1 w29)) (0, (a0.len : Int)) w

/-- (*caravel/ranges.Set).from$1 -/
def C58 (a0 : Array Value) (a1 : Int) (w : World) (K : Int → World → Prop) : Prop := CallsV Try.prog 58 #[.agg a0, .int .i64 a1] w fun v w' => ∃ (r0 : Int), v = .int .i64 r0 ∧ K r0 w'
theorem C58.mono {a0 : Array Value} {a1 : Int} {w : World} {K : Int → World → Prop} (h : C58 a0 a1 w K) {K' : Int → World → Prop} (hk : ∀ r0 w', K r0 w' → K' r0 w') : C58 a0 a1 w K' :=
  CallsV.mono h fun v w' ⟨r0, e, h⟩ => ⟨r0, e, hk _ w' h⟩
def sh58 (a0 : Array Value) (a1 : Int) (w : World) (K : Int → World → Prop) : Prop :=
  newV 94 a0 w fun p3 w4 =>
  ldI .i64 (p3.add 1) w4 fun t7 =>
  K (IntKind.i64.wrap (t7 - a1)) w4

/-- (*caravel/ranges.Set).from -/
def C50 (a0 : Option Addr) (a1 : Int) (w : World) (K : Int → World → Prop) : Prop := CallsV Try.prog 50 #[.pointer a0, .int .i64 a1] w fun v w' => ∃ (r0 : Int), v = .int .i64 r0 ∧ K r0 w'
theorem C50.mono {a0 : Option Addr} {a1 : Int} {w : World} {K : Int → World → Prop} (h : C50 a0 a1 w K) {K' : Int → World → Prop} (hk : ∀ r0 w', K r0 w' → K' r0 w') : C50 a0 a1 w K' :=
  CallsV.mono h fun v w' ⟨r0, e, h⟩ => ⟨r0, e, hk _ w' h⟩
def sh50 (a0 : Option Addr) (a1 : Int) (w : World) (K : Int → World → Prop) : Prop :=
  nn a0 fun p5 =>
  ldL (p5.add 1) w fun t6 =>
  C57 t6 a1 (Value.func (Fn.func 58) #[] #[]) w fun r8 r9 w7 =>
  K r8 w7

/-- slices.overlaps[caravel/api.Span] -/
def C60 (a0 : Slc) (a1 : Slc) (w : World) (K : Bool → World → Prop) : Prop := CallsV Try.prog 60 #[a0.v, a1.v] w fun v w' => ∃ (r0 : Bool), v = .bool r0 ∧ K r0 w'
theorem C60.mono {a0 : Slc} {a1 : Slc} {w : World} {K : Bool → World → Prop} (h : C60 a0 a1 w K) {K' : Bool → World → Prop} (hk : ∀ r0 w', K r0 w' → K' r0 w') : C60 a0 a1 w K' :=
  CallsV.mono h fun v w' ⟨r0, e, h⟩ => ⟨r0, e, hk _ w' h⟩

/-- slices.rotateRight[caravel/api.Span] -/
def C61 (a0 : Slc) (a1 : Int) (w : World) (K : World → Prop) : Prop := CallsV Try.prog 61 #[a0.v, .int .i64 a1] w fun v w' => v = .tuple #[] ∧ K w'
theorem C61.mono {a0 : Slc} {a1 : Int} {w : World} {K : World → Prop} (h : C61 a0 a1 w K) {K' : World → Prop} (hk : ∀ w', K  w' → K'  w') : C61 a0 a1 w K' :=
  CallsV.mono h fun v w' ⟨e, h⟩ => ⟨e, hk w' h⟩

/-- slices.Insert[[]caravel/api.Span,caravel/api.Span] -/
def C59 (a0 : Slc) (a1 : Int) (a2 : Slc) (w : World) (K : Slc → World → Prop) : Prop := CallsV Try.prog 59 #[a0.v, .int .i64 a1, a2.v] w fun v w' => ∃ (r0 : Slc), v = r0.v ∧ K r0 w'
theorem C59.mono {a0 : Slc} {a1 : Int} {a2 : Slc} {w : World} {K : Slc → World → Prop} (h : C59 a0 a1 a2 w K) {K' : Slc → World → Prop} (hk : ∀ r0 w', K r0 w' → K' r0 w') : C59 a0 a1 a2 w K' :=
  CallsV.mono h fun v w' ⟨r0, e, h⟩ => ⟨r0, e, hk _ w' h⟩
def sh59 (a0 : Slc) (a1 : Int) (a2 : Slc) (w : World) (K : Slc → World → Prop) : Prop :=
  0 ≤ a1 ∧ a1 ≤ (a0.len : Int) ∧ 
  jn (fun (v11 : Unit) w12 =>
  jn (fun (v19 : Unit) w20 =>
  jn (fun (v25 : Unit) w26 =>
  0 ≤ (IntKind.i64.wrap ((a0.len : Int) + (a2.len : Int))) ∧ (IntKind.i64.wrap ((a0.len : Int) + (a2.len : Int))) ≤ (a0.cap : Int) ∧ 
  jn (fun (v35 : Unit) w36 =>
  0 ≤ (a0.len : Int) ∧ (a0.len : Int) ≤ ((a0.sub 2 0 ((IntKind.i64.wrap ((a0.len : Int) + (a2.len : Int))).toNat) a0.cap).len : Int) ∧ 
  ∃ (t44 : Int) (w43 : World), (∀ t, rn Try.prog (Builtin.copy_ #[87, 87] t #[((a0.sub 2 0 ((IntKind.i64.wrap ((a0.len : Int) + (a2.len : Int))).toNat) a0.cap).sub 2 ((a0.len : Int).toNat) ((a0.sub 2 0 ((IntKind.i64.wrap ((a0.len : Int) + (a2.len : Int))).toNat) a0.cap).len) ((a0.sub 2 0 ((IntKind.i64.wrap ((a0.len : Int) + (a2.len : Int))).toNat) a0.cap).cap)).v, a2.v]) (.int .i64 t44) w36 w43) ∧
  0 ≤ a1 ∧ a1 ≤ ((a0.sub 2 0 ((IntKind.i64.wrap ((a0.len : Int) + (a2.len : Int))).toNat) a0.cap).len : Int) ∧ 
  C61 ((a0.sub 2 0 ((IntKind.i64.wrap ((a0.len : Int) + (a2.len : Int))).toNat) a0.cap).sub 2 a1.toNat ((a0.sub 2 0 ((IntKind.i64.wrap ((a0.len : Int) + (a2.len : Int))).toNat) a0.cap).len) ((a0.sub 2 0 ((IntKind.i64.wrap ((a0.len : Int) + (a2.len : Int))).toNat) a0.cap).cap)) (a2.len : Int) w43 fun w49 =>
  K (a0.sub 2 0 ((IntKind.i64.wrap ((a0.len : Int) + (a2.len : Int))).toNat) a0.cap) w49) fun J37 =>
  0 ≤ (IntKind.i64.wrap (a1 + (a2.len : Int))) ∧ (IntKind.i64.wrap (a1 + (a2.len : Int))) ≤ ((a0.sub 2 0 ((IntKind.i64.wrap ((a0.len : Int) + (a2.len : Int))).toNat) a0.cap).len : Int) ∧ 
  False) fun J27 =>
  ifM (decide ((IntKind.i64.wrap ((a0.len : Int) + (a2.len : Int))) > (a0.cap : Int)))
  (0 ≤ a1 ∧ a1 ≤ (a0.cap : Int) ∧ 
  ∃ (t64 : Slc) (w63 : World), (∀ t, rn Try.prog (Builtin.append_ #[87, 3] t #[(a0.sub 2 0 a1.toNat a0.cap).v, .int .i64 (IntKind.i64.wrap ((IntKind.i64.wrap ((a0.len : Int) + (a2.len : Int))) - a1))]) t64.v w20 w63) ∧
  0 ≤ a1 ∧ a1 ≤ (t64.len : Int) ∧ 
  ∃ (t70 : Int) (w69 : World), (∀ t, rn Try.prog (Builtin.copy_ #[87, 87] t #[(t64.sub 2 a1.toNat t64.len t64.cap).v, a2.v]) (.int .i64 t70) w63 w69) ∧
  drw w69 fun w73 =>
  0 ≤ (IntKind.i64.wrap (a1 + (a2.len : Int))) ∧ (IntKind.i64.wrap (a1 + (a2.len : Int))) ≤ (t64.len : Int) ∧ 
  0 ≤ a1 ∧ a1 ≤ (a0.len : Int) ∧ 
  ∃ (t79 : Int) (w78 : World), (∀ t, rn Try.prog (Builtin.copy_ #[87, 87] t #[(t64.sub 2 ((IntKind.i64.wrap (a1 + (a2.len : Int))).toNat) t64.len t64.cap).v, (a0.sub 2 a1.toNat a0.len a0.cap).v]) (.int .i64 t79) w73 w78) ∧
  K t64 w78)
  (J27 () w20)) fun J21 =>
  ifM (a1 == (a0.len : Int))
  (∃ (t87 : Slc) (w86 : World), (∀ t, rn Try.prog (Builtin.append_ #[87, 87] t #[a0.v, a2.v]) t87.v w12 w86) ∧
  K t87 w86)
  (J21 () w12)) fun J13 =>
  ifM ((a2.len : Int) == 0)
  (K a0 w)
  (J13 () w)

/-- slices.startIdx[caravel/api.Span] -/
def C62 (a0 : Slc) (a1 : Slc) (w : World) (K : Int → World → Prop) : Prop := CallsV Try.prog 62 #[a0.v, a1.v] w fun v w' => ∃ (r0 : Int), v = .int .i64 r0 ∧ K r0 w'
theorem C62.mono {a0 : Slc} {a1 : Slc} {w : World} {K : Int → World → Prop} (h : C62 a0 a1 w K) {K' : Int → World → Prop} (hk : ∀ r0 w', K r0 w' → K' r0 w') : C62 a0 a1 w K' :=
  CallsV.mono h fun v w' ⟨r0, e, h⟩ => ⟨r0, e, hk _ w' h⟩

/-- slices.Replace[[]caravel/api.Span,caravel/api.Span] -/
def C51 (a0 : Slc) (a1 : Int) (a2 : Int) (a3 : Slc) (w : World) (K : Slc → World → Prop) : Prop := CallsV Try.prog 51 #[a0.v, .int .i64 a1, .int .i64 a2, a3.v] w fun v w' => ∃ (r0 : Slc), v = r0.v ∧ K r0 w'
theorem C51.mono {a0 : Slc} {a1 : Int} {a2 : Int} {a3 : Slc} {w : World} {K : Slc → World → Prop} (h : C51 a0 a1 a2 a3 w K) {K' : Slc → World → Prop} (hk : ∀ r0 w', K r0 w' → K' r0 w') : C51 a0 a1 a2 a3 w K' :=
  CallsV.mono h fun v w' ⟨r0, e, h⟩ => ⟨r0, e, hk _ w' h⟩
def sh51 (a0 : Slc) (a1 : Int) (a2 : Int) (a3 : Slc) (w : World) (K : Slc → World → Prop) : Prop :=
  0 ≤ a1 ∧ a1 ≤ a2 ∧ a2 ≤ (a0.cap : Int) ∧ 
  jn (fun (v10 : Unit) w11 =>
  jn (fun (v16 : Unit) w17 =>
  drw w17 fun w22 =>
  0 ≤ a1 ∧ a1 ≤ (a0.cap : Int) ∧ 
  0 ≤ a2 ∧ a2 ≤ (a0.len : Int) ∧ 
  jn (fun (v29 : Unit) w30 =>
  0 ≤ (IntKind.i64.wrap ((IntKind.i64.wrap (((a0.sub 2 0 a1.toNat a0.cap).len : Int) + (a3.len : Int))) + ((a0.sub 2 a2.toNat a0.len a0.cap).len : Int))) ∧ (IntKind.i64.wrap ((IntKind.i64.wrap (((a0.sub 2 0 a1.toNat a0.cap).len : Int) + (a3.len : Int))) + ((a0.sub 2 a2.toNat a0.len a0.cap).len : Int))) ≤ (a0.cap : Int) ∧ 
  jn (fun (v39 : Unit) w40 =>
  jn (fun (v45 : Unit) w46 =>
  jn (fun (v53 : Unit) w54 =>
  jn (fun (v59 : Unit) w60 =>
  0 ≤ a2 ∧ a2 ≤ (a0.len : Int) ∧ 
  C62 a3 (a0.sub 2 a2.toNat a0.len a0.cap) w60 fun r68 w67 =>
  0 ≤ a1 ∧ a1 ≤ ((a0.sub 2 0 ((IntKind.i64.wrap ((IntKind.i64.wrap (((a0.sub 2 0 a1.toNat a0.cap).len : Int) + (a3.len : Int))) + ((a0.sub 2 a2.toNat a0.len a0.cap).len : Int))).toNat) a0.cap).len : Int) ∧ 
  ∃ (t74 : Int) (w73 : World), (∀ t, rn Try.prog (Builtin.copy_ #[87, 87] t #[((a0.sub 2 0 ((IntKind.i64.wrap ((IntKind.i64.wrap (((a0.sub 2 0 a1.toNat a0.cap).len : Int) + (a3.len : Int))) + ((a0.sub 2 a2.toNat a0.len a0.cap).len : Int))).toNat) a0.cap).sub 2 a1.toNat ((a0.sub 2 0 ((IntKind.i64.wrap ((IntKind.i64.wrap (((a0.sub 2 0 a1.toNat a0.cap).len : Int) + (a3.len : Int))) + ((a0.sub 2 a2.toNat a0.len a0.cap).len : Int))).toNat) a0.cap).len) ((a0.sub 2 0 ((IntKind.i64.wrap ((IntKind.i64.wrap (((a0.sub 2 0 a1.toNat a0.cap).len : Int) + (a3.len : Int))) + ((a0.sub 2 a2.toNat a0.len a0.cap).len : Int))).toNat) a0.cap).cap)).v, a3.v]) (.int .i64 t74) w67 w73) ∧
  drw w73 fun w77 =>
  0 ≤ (IntKind.i64.wrap (a1 + (a3.len : Int))) ∧ (IntKind.i64.wrap (a1 + (a3.len : Int))) ≤ ((a0.sub 2 0 ((IntKind.i64.wrap ((IntKind.i64.wrap (((a0.sub 2 0 a1.toNat a0.cap).len : Int) + (a3.len : Int))) + ((a0.sub 2 a2.toNat a0.len a0.cap).len : Int))).toNat) a0.cap).len : Int) ∧ 
  0 ≤ (IntKind.i64.wrap (a1 + r68)) ∧ (IntKind.i64.wrap (a1 + r68)) ≤ ((a0.sub 2 0 ((IntKind.i64.wrap ((IntKind.i64.wrap (((a0.sub 2 0 a1.toNat a0.cap).len : Int) + (a3.len : Int))) + ((a0.sub 2 a2.toNat a0.len a0.cap).len : Int))).toNat) a0.cap).len : Int) ∧ 
  ∃ (t83 : Int) (w82 : World), (∀ t, rn Try.prog (Builtin.copy_ #[87, 87] t #[((a0.sub 2 0 ((IntKind.i64.wrap ((IntKind.i64.wrap (((a0.sub 2 0 a1.toNat a0.cap).len : Int) + (a3.len : Int))) + ((a0.sub 2 a2.toNat a0.len a0.cap).len : Int))).toNat) a0.cap).sub 2 ((IntKind.i64.wrap (a1 + (a3.len : Int))).toNat) ((a0.sub 2 0 ((IntKind.i64.wrap ((IntKind.i64.wrap (((a0.sub 2 0 a1.toNat a0.cap).len : Int) + (a3.len : Int))) + ((a0.sub 2 a2.toNat a0.len a0.cap).len : Int))).toNat) a0.cap).len) ((a0.sub 2 0 ((IntKind.i64.wrap ((IntKind.i64.wrap (((a0.sub 2 0 a1.toNat a0.cap).len : Int) + (a3.len : Int))) + ((a0.sub 2 a2.toNat a0.len a0.cap).len : Int))).toNat) a0.cap).cap)).v, ((a0.sub 2 0 ((IntKind.i64.wrap ((IntKind.i64.wrap (((a0.sub 2 0 a1.toNat a0.cap).len : Int) + (a3.len : Int))) + ((a0.sub 2 a2.toNat a0.len a0.cap).len : Int))).toNat) a0.cap).sub 2 ((IntKind.i64.wrap (a1 + r68)).toNat) ((a0.sub 2 0 ((IntKind.i64.wrap ((IntKind.i64.wrap (((a0.sub 2 0 a1.toNat a0.cap).len : Int) + (a3.len : Int))) + ((a0.sub 2 a2.toNat a0.len a0.cap).len : Int))).toNat) a0.cap).len) ((a0.sub 2 0 ((IntKind.i64.wrap ((IntKind.i64.wrap (((a0.sub 2 0 a1.toNat a0.cap).len : Int) + (a3.len : Int))) + ((a0.sub 2 a2.toNat a0.len a0.cap).len : Int))).toNat) a0.cap).cap)).v]) (.int .i64 t83) w77 w82) ∧
  K (a0.sub 2 0 ((IntKind.i64.wrap ((IntKind.i64.wrap (((a0.sub 2 0 a1.toNat a0.cap).len : Int) + (a3.len : Int))) + ((a0.sub 2 a2.toNat a0.len a0.cap).len : Int))).toNat) a0.cap) w82) fun J61 =>
  0 ≤ (a0.len : Int) ∧ (a0.len : Int) ≤ ((a0.sub 2 0 ((IntKind.i64.wrap ((IntKind.i64.wrap (((a0.sub 2 0 a1.toNat a0.cap).len : Int) + (a3.len : Int))) + ((a0.sub 2 a2.toNat a0.len a0.cap).len : Int))).toNat) a0.cap).len : Int) ∧ 
  False) fun J55 =>
  0 ≤ a1 ∧ a1 ≤ a2 ∧ a2 ≤ ((a0.sub 2 0 ((IntKind.i64.wrap ((IntKind.i64.wrap (((a0.sub 2 0 a1.toNat a0.cap).len : Int) + (a3.len : Int))) + ((a0.sub 2 a2.toNat a0.len a0.cap).len : Int))).toNat) a0.cap).cap : Int) ∧ 
  False) fun J47 =>
  0 ≤ (IntKind.i64.wrap (a1 + (a3.len : Int))) ∧ (IntKind.i64.wrap (a1 + (a3.len : Int))) ≤ ((a0.sub 2 0 ((IntKind.i64.wrap ((IntKind.i64.wrap (((a0.sub 2 0 a1.toNat a0.cap).len : Int) + (a3.len : Int))) + ((a0.sub 2 a2.toNat a0.len a0.cap).len : Int))).toNat) a0.cap).len : Int) ∧ 
  False) fun J41 =>
  ifM (decide ((IntKind.i64.wrap (a1 + (a3.len : Int))) ≤ a2))
  (0 ≤ a1 ∧ a1 ≤ ((a0.sub 2 0 ((IntKind.i64.wrap ((IntKind.i64.wrap (((a0.sub 2 0 a1.toNat a0.cap).len : Int) + (a3.len : Int))) + ((a0.sub 2 a2.toNat a0.len a0.cap).len : Int))).toNat) a0.cap).len : Int) ∧ 
  ∃ (t109 : Int) (w108 : World), (∀ t, rn Try.prog (Builtin.copy_ #[87, 87] t #[((a0.sub 2 0 ((IntKind.i64.wrap ((IntKind.i64.wrap (((a0.sub 2 0 a1.toNat a0.cap).len : Int) + (a3.len : Int))) + ((a0.sub 2 a2.toNat a0.len a0.cap).len : Int))).toNat) a0.cap).sub 2 a1.toNat ((a0.sub 2 0 ((IntKind.i64.wrap ((IntKind.i64.wrap (((a0.sub 2 0 a1.toNat a0.cap).len : Int) + (a3.len : Int))) + ((a0.sub 2 a2.toNat a0.len a0.cap).len : Int))).toNat) a0.cap).len) ((a0.sub 2 0 ((IntKind.i64.wrap ((IntKind.i64.wrap (((a0.sub 2 0 a1.toNat a0.cap).len : Int) + (a3.len : Int))) + ((a0.sub 2 a2.toNat a0.len a0.cap).len : Int))).toNat) a0.cap).cap)).v, a3.v]) (.int .i64 t109) w30 w108) ∧
  drw w108 fun w112 =>
  0 ≤ (IntKind.i64.wrap (a1 + (a3.len : Int))) ∧ (IntKind.i64.wrap (a1 + (a3.len : Int))) ≤ ((a0.sub 2 0 ((IntKind.i64.wrap ((IntKind.i64.wrap (((a0.sub 2 0 a1.toNat a0.cap).len : Int) + (a3.len : Int))) + ((a0.sub 2 a2.toNat a0.len a0.cap).len : Int))).toNat) a0.cap).len : Int) ∧ 
  0 ≤ a2 ∧ a2 ≤ (a0.len : Int) ∧ 
  ∃ (t118 : Int) (w117 : World), (∀ t, rn Try.prog (Builtin.copy_ #[87, 87] t #[((a0.sub 2 0 ((IntKind.i64.wrap ((IntKind.i64.wrap (((a0.sub 2 0 a1.toNat a0.cap).len : Int) + (a3.len : Int))) + ((a0.sub 2 a2.toNat a0.len a0.cap).len : Int))).toNat) a0.cap).sub 2 ((IntKind.i64.wrap (a1 + (a3.len : Int))).toNat) ((a0.sub 2 0 ((IntKind.i64.wrap ((IntKind.i64.wrap (((a0.sub 2 0 a1.toNat a0.cap).len : Int) + (a3.len : Int))) + ((a0.sub 2 a2.toNat a0.len a0.cap).len : Int))).toNat) a0.cap).len) ((a0.sub 2 0 ((IntKind.i64.wrap ((IntKind.i64.wrap (((a0.sub 2 0 a1.toNat a0.cap).len : Int) + (a3.len : Int))) + ((a0.sub 2 a2.toNat a0.len a0.cap).len : Int))).toNat) a0.cap).cap)).v, (a0.sub 2 a2.toNat a0.len a0.cap).v]) (.int .i64 t118) w112 w117) ∧
  0 ≤ (IntKind.i64.wrap ((IntKind.i64.wrap (((a0.sub 2 0 a1.toNat a0.cap).len : Int) + (a3.len : Int))) + ((a0.sub 2 a2.toNat a0.len a0.cap).len : Int))) ∧ (IntKind.i64.wrap ((IntKind.i64.wrap (((a0.sub 2 0 a1.toNat a0.cap).len : Int) + (a3.len : Int))) + ((a0.sub 2 a2.toNat a0.len a0.cap).len : Int))) ≤ (a0.len : Int) ∧ 
  ∃ (w123 : World), (∀ t, rn Try.prog (Builtin.clear_ #[87] t #[(a0.sub 2 ((IntKind.i64.wrap ((IntKind.i64.wrap (((a0.sub 2 0 a1.toNat a0.cap).len : Int) + (a3.len : Int))) + ((a0.sub 2 a2.toNat a0.len a0.cap).len : Int))).toNat) a0.len a0.cap).v]) (.tuple #[]) w117 w123) ∧
  K (a0.sub 2 0 ((IntKind.i64.wrap ((IntKind.i64.wrap (((a0.sub 2 0 a1.toNat a0.cap).len : Int) + (a3.len : Int))) + ((a0.sub 2 a2.toNat a0.len a0.cap).len : Int))).toNat) a0.cap) w123)
  (J41 () w30)) fun J31 =>
  ifM (decide ((IntKind.i64.wrap ((IntKind.i64.wrap (((a0.sub 2 0 a1.toNat a0.cap).len : Int) + (a3.len : Int))) + ((a0.sub 2 a2.toNat a0.len a0.cap).len : Int))) > (a0.cap : Int)))
  (0 ≤ a1 ∧ a1 ≤ (a0.cap : Int) ∧ 
  ∃ (t133 : Slc) (w132 : World), (∀ t, rn Try.prog (Builtin.append_ #[87, 3] t #[(a0.sub 2 0 a1.toNat a0.cap).v, .int .i64 (IntKind.i64.wrap ((IntKind.i64.wrap ((IntKind.i64.wrap (((a0.sub 2 0 a1.toNat a0.cap).len : Int) + (a3.len : Int))) + ((a0.sub 2 a2.toNat a0.len a0.cap).len : Int))) - a1))]) t133.v w22 w132) ∧
  0 ≤ a1 ∧ a1 ≤ (t133.len : Int) ∧ 
  ∃ (t139 : Int) (w138 : World), (∀ t, rn Try.prog (Builtin.copy_ #[87, 87] t #[(t133.sub 2 a1.toNat t133.len t133.cap).v, a3.v]) (.int .i64 t139) w132 w138) ∧
  drw w138 fun w142 =>
  0 ≤ (IntKind.i64.wrap (a1 + (a3.len : Int))) ∧ (IntKind.i64.wrap (a1 + (a3.len : Int))) ≤ (t133.len : Int) ∧ 
  0 ≤ a2 ∧ a2 ≤ (a0.len : Int) ∧ 
  ∃ (t148 : Int) (w147 : World), (∀ t, rn Try.prog (Builtin.copy_ #[87, 87] t #[(t133.sub 2 ((IntKind.i64.wrap (a1 + (a3.len : Int))).toNat) t133.len t133.cap).v, (a0.sub 2 a2.toNat a0.len a0.cap).v]) (.int .i64 t148) w142 w147) ∧
  K t133 w147)
  (J31 () w22)) fun J18 =>
  ifM (a2 == (a0.len : Int))
  (0 ≤ a1 ∧ a1 ≤ (a0.cap : Int) ∧ 
  ∃ (t158 : Slc) (w157 : World), (∀ t, rn Try.prog (Builtin.append_ #[87, 87] t #[(a0.sub 2 0 a1.toNat a0.cap).v, a3.v]) t158.v w11 w157) ∧
  jn (fun (v161 : Unit) w162 =>
  K t158 w162) fun J163 =>
  ifM (decide ((t158.len : Int) < (a0.len : Int)))
  (0 ≤ (t158.len : Int) ∧ (t158.len : Int) ≤ (a0.len : Int) ∧ 
  ∃ (w173 : World), (∀ t, rn Try.prog (Builtin.clear_ #[87] t #[(a0.sub 2 ((t158.len : Int).toNat) a0.len a0.cap).v]) (.tuple #[]) w157 w173) ∧
  J163 () w173)
  (J163 () w157))
  (J18 () w11)) fun J12 =>
  ifM (a1 == a2)
  (C59 a0 a1 a3 w fun r179 w178 =>
  K r179 w178)
  (J12 () w)

/-- (*caravel/ranges.Set).Remove -/
def C31 (a0 : Option Addr) (a1 : Int) (a2 : Int) (w : World) (K : Int → World → Prop) : Prop := CallsV Try.prog 31 #[.pointer a0, .int .i64 a1, .int .i64 a2] w fun v w' => ∃ (r0 : Int), v = .int .i64 r0 ∧ K r0 w'
theorem C31.mono {a0 : Option Addr} {a1 : Int} {a2 : Int} {w : World} {K : Int → World → Prop} (h : C31 a0 a1 a2 w K) {K' : Int → World → Prop} (hk : ∀ r0 w', K r0 w' → K' r0 w') : C31 a0 a1 a2 w K' :=
  CallsV.mono h fun v w' ⟨r0, e, h⟩ => ⟨r0, e, hk _ w' h⟩
def sh31 (a0 : Option Addr) (a1 : Int) (a2 : Int) (w : World) (K : Int → World → Prop) : Prop :=
  jn (fun (v5 : Unit) w6 =>
  C50 a0 a1 w6 fun r12 w11 =>
  jn (fun (v19 : Int × Slc) w20 =>
  jn (fun (v25 : Unit) w26 =>
  nn a0 fun p31 =>
  ldL (p31.add 1) w26 fun t32 =>
  C51 t32 r12 v19.1 v19.2 w26 fun r34 w33 =>
  nn a0 fun p35 =>
  stV (p35.add 1) (r34.v) w33 fun w36 =>
  K 0 w36) fun J27 =>
  nn a0 fun p41 =>
  ldL (p41.add 1) w20 fun t42 =>
  ifM (decide ((IntKind.i64.wrap ((IntKind.i64.wrap ((t42.len : Int) - (IntKind.i64.wrap (v19.1 - r12)))) + (v19.2.len : Int))) > 65536))
  (K 3 w20)
  (J27 () w20)) fun J21 =>
  Lp (fun (s45 : Int × Slc) N47 w46 =>
  jn (fun (v51 : Unit) w52 =>
  jn (fun (v57 : Slc) w58 =>
  N47 (IntKind.i64.wrap (s45.1 + 1), v57) w58) fun J59 =>
  jn (fun (v65 : Slc) w66 =>
  nn a0 fun p71 =>
  ldL (p71.add 1) w66 fun t72 =>
  idx 2 t72 s45.1 fun p73 =>
  ldA 2 p73 w66 fun t75 =>
  newV 94 #[.int .i64 0, .int .i64 0] w66 fun p76 w77 =>
  stA 2 p76 t75 w77 fun w78 =>
  ldI .i64 (p76.add 1) w78 fun t81 =>
  ifM (decide (t81 > a2))
  (ldI .i64 (p76.add 1) w78 fun t84 =>
  ∃ (t86 : Slc) (w85 : World), rn Try.prog (Instr.buildSlice 87 1 ([(0, .agg (#[.int .i64 (IntKind.i64.wrap (a2 + 1)), .int .i64 t84]))] : List (Nat × Value)).toArray) t86.v w78 w85 ∧
  ∃ (t88 : Slc) (w87 : World), (∀ t, rn Try.prog (Builtin.append_ #[87, 87] t #[v65.v, t86.v]) t88.v w85 w87) ∧
  J59 t88 w87)
  (J59 v65 w78)) fun J67 =>
  nn a0 fun p91 =>
  ldL (p91.add 1) w52 fun t92 =>
  idx 2 t92 s45.1 fun p93 =>
  ldA 2 p93 w52 fun t95 =>
  newV 94 #[.int .i64 0, .int .i64 0] w52 fun p96 w97 =>
  stA 2 p96 t95 w97 fun w98 =>
  ldI .i64 p96 w98 fun t101 =>
  ifM (decide (t101 < a1))
  (ldI .i64 p96 w98 fun t104 =>
  ∃ (t106 : Slc) (w105 : World), rn Try.prog (Instr.buildSlice 87 1 ([(0, .agg (#[.int .i64 t104, .int .i64 (IntKind.i64.wrap (a1 - 1))]))] : List (Nat × Value)).toArray) t106.v w98 w105 ∧
  ∃ (t108 : Slc) (w107 : World), (∀ t, rn Try.prog (Builtin.append_ #[87, 87] t #[s45.2.v, t106.v]) t108.v w105 w107) ∧
  J67 t108 w107)
  (J67 s45.2 w98)) fun J53 =>
  jn (fun (v111 : Bool) w112 =>
  ifM v111
  (J53 () w112)
  (J21 (s45.1, s45.2) w112)) fun J113 =>
  nn a0 fun p115 =>
  ldL (p115.add 1) w46 fun t116 =>
  ifM (decide (s45.1 < (t116.len : Int)))
  (nn a0 fun p118 =>
  ldL (p118.add 1) w46 fun t119 =>
  idx 2 t119 s45.1 fun p120 =>
  ldI .i64 p120 w46 fun t122 =>
  J113 (decide (t122 ≤ a2)) w46)
  (J113 false w46)) (r12, Slc.nil) w11) fun J7 =>
  C49 a0 a1 a2 w fun r126 w125 =>
  ifM (r126 != 0)
  (K r126 w125)
  (J7 () w125)

/-- (*caravel/outbox.Outbox).Next -/
def C8 (a0 : Option Addr) (a1 : Int) (a2 : Int) (w : World) (K : Array Value → Bool → World → Prop) : Prop := CallsV Try.prog 8 #[.pointer a0, .int .i64 a1, .int .i64 a2] w fun v w' => ∃ (r0 : Array Value) (r1 : Bool), v = .tuple #[.agg r0, .bool r1] ∧ K r0 r1 w'
theorem C8.mono {a0 : Option Addr} {a1 : Int} {a2 : Int} {w : World} {K : Array Value → Bool → World → Prop} (h : C8 a0 a1 a2 w K) {K' : Array Value → Bool → World → Prop} (hk : ∀ r0 r1 w', K r0 r1 w' → K' r0 r1 w') : C8 a0 a1 a2 w K' :=
  CallsV.mono h fun v w' ⟨r0, r1, e, h⟩ => ⟨r0, r1, e, hk _ _ w' h⟩
def sh8 (a0 : Option Addr) (a1 : Int) (a2 : Int) (w : World) (K : Array Value → Bool → World → Prop) : Prop :=
  newV 30 #[.int .i64 0, Slc.nil.v, .bool false] w fun p3 w4 =>
  jn (fun (v7 : Unit) w8 =>
  C29 a0 a1 a2 w8 fun r14 r15 r16 w13 =>
  jn (fun (v19 : Unit) w20 =>
  drw w20 fun w25 =>
  jn (fun (v26 : Option Addr) w27 =>
  jn (fun (v32 : Unit) w33 =>
  jn (fun (v38 : Unit) w39 =>
  nn a0 fun p44 =>
  ldI .i64 (p44.add 3) w39 fun t45 =>
  nn a0 fun p46 =>
  stV (p46.add 3) (.int .i64 (if r15 > t45 then r15 else t45)) w39 fun w47 =>
  nn v26 fun p51 =>
  ldA 3 p51 w47 fun t50 =>
  stA 3 p3 t50 w47 fun w52 =>
  ldA 3 p3 w52 fun t53 =>
  K t53 true w52) fun J40 =>
  jn (fun (v56 : Bool) w57 =>
  ifM v56
  (nn v26 fun p62 =>
  stV (p62.add 2) (.bool true) w57 fun w63 =>
  nn a0 fun p64 =>
  stV (p64.add 6) (.int .i64 2) w63 fun w65 =>
  J40 () w65)
  (J40 () w57)) fun J58 =>
  C32 a0 w33 fun r67 w66 =>
  ifM (r15 == r67)
  (nn a0 fun p69 =>
  ldI .i64 (p69.add 6) w66 fun t70 =>
  ifM (t70 == 1)
  (J58 true w66)
  (nn a0 fun p72 =>
  ldI .i64 (p72.add 6) w66 fun t73 =>
  J58 (t73 == 3) w66))
  (J58 false w66)) fun J34 =>
  ifM (decide (r15 > r14))
  (nn a0 fun p78 =>
  ldP (p78.add 4) w27 fun t79 =>
  C31 t79 r14 (IntKind.i64.wrap (r15 - 1)) w27 fun r81 w80 =>
  J34 () w80)
  (J34 () w27)) fun J28 =>
  nn a0 fun p82 =>
  ldL (p82.add 2) w25 fun t83 =>
  nn a0 fun p84 =>
  ldI .i64 (p84.add 1) w25 fun t85 =>
  nn a0 fun p86 =>
  ldI .i64 (p86.add 1) w25 fun t87 =>
  0 ≤ (IntKind.i64.wrap (r14 - t85)) ∧ (IntKind.i64.wrap (r14 - t85)) ≤ (IntKind.i64.wrap (r15 - t87)) ∧ (IntKind.i64.wrap (r15 - t87)) ≤ (t83.cap : Int) ∧ 
  (C30 (t83.sub 1 ((IntKind.i64.wrap (r14 - t85)).toNat) ((IntKind.i64.wrap (r15 - t87)).toNat) t83.cap) w25 fun r94 w93 =>
  newV 30 #[.int .i64 0, Slc.nil.v, .bool false] w93 fun p95 w96 =>
  stA 3 p95 (#[.int .i64 r14, r94.v, .bool false]) w96 fun w97 =>
  J28 (some p95) w97) ∧
  (newV 30 #[.int .i64 0, Slc.nil.v, .bool false] w25 fun p98 w99 =>
  World.cell? w99 (p86.add 1) = some (.int .i64 t87) ∧ World.cell? w99 (p84.add 1) = some (.int .i64 t85) ∧ World.cell? w99 (p82.add 2) = some (t83.v) ∧ C30 (t83.sub 1 ((IntKind.i64.wrap (r14 - t85)).toNat) ((IntKind.i64.wrap (r15 - t87)).toNat) t83.cap) w99 fun r104 w103 =>
  stA 3 p98 (#[.int .i64 r14, r104.v, .bool false]) w103 fun w105 =>
  J28 (some p98) w105)) fun J21 =>
  ifM (!r16)
  (stA 3 p3 (#[.int .i64 0, Slc.nil.v, .bool false]) w13 fun w110 =>
  ldA 3 p3 w110 fun t111 =>
  K t111 false w110)
  (J21 () w13)) fun J9 =>
  C28 a0 w4 fun r115 w114 =>
  ifM r115
  (stA 3 p3 (#[.int .i64 0, Slc.nil.v, .bool false]) w114 fun w118 =>
  ldA 3 p3 w118 fun t119 =>
  K t119 false w118)
  (J9 () w114)

/-- (*caravel/outbox.Outbox).Sizes -/
def C9 (a0 : Option Addr) (w : World) (K : Int → Int → Int → World → Prop) : Prop := CallsV Try.prog 9 #[.pointer a0] w fun v w' => ∃ (r0 : Int) (r1 : Int) (r2 : Int), v = .tuple #[.int .i64 r0, .int .i64 r1, .int .i64 r2] ∧ K r0 r1 r2 w'
theorem C9.mono {a0 : Option Addr} {w : World} {K : Int → Int → Int → World → Prop} (h : C9 a0 w K) {K' : Int → Int → Int → World → Prop} (hk : ∀ r0 r1 r2 w', K r0 r1 r2 w' → K' r0 r1 r2 w') : C9 a0 w K' :=
  CallsV.mono h fun v w' ⟨r0, r1, r2, e, h⟩ => ⟨r0, r1, r2, e, hk _ _ _ w' h⟩
def sh9 (a0 : Option Addr) (w : World) (K : Int → Int → Int → World → Prop) : Prop :=
  jn (fun (v5 : Unit) w6 =>
  drw w6 fun w11 =>
  nn a0 fun p12 =>
  ldI .i64 (p12.add 3) w11 fun t13 =>
  nn a0 fun p14 =>
  ldL (p14.add 2) w11 fun t15 =>
  C32 a0 w11 fun r17 w16 =>
  World.cell? w16 (p14.add 2) = some (t15.v) ∧ World.cell? w16 (p12.add 3) = some (.int .i64 t13) ∧ K r17 t13 (t15.len : Int) w16) fun J7 =>
  C28 a0 w fun r23 w22 =>
  ifM r23
  (K 0 0 0 w22)
  (J7 () w22)

/-- (*caravel/outbox.Outbox).Waits -/
def C10 (a0 : Option Addr) (a1 : Int) (w : World) (K : Bool → World → Prop) : Prop := CallsV Try.prog 10 #[.pointer a0, .int .i64 a1] w fun v w' => ∃ (r0 : Bool), v = .bool r0 ∧ K r0 w'
theorem C10.mono {a0 : Option Addr} {a1 : Int} {w : World} {K : Bool → World → Prop} (h : C10 a0 a1 w K) {K' : Bool → World → Prop} (hk : ∀ r0 w', K r0 w' → K' r0 w') : C10 a0 a1 w K' :=
  CallsV.mono h fun v w' ⟨r0, e, h⟩ => ⟨r0, e, hk _ w' h⟩
def sh10 (a0 : Option Addr) (a1 : Int) (w : World) (K : Bool → World → Prop) : Prop :=
  jn (fun (v5 : Unit) w6 =>
  C29 a0 1 a1 w6 fun r12 r13 r14 w11 =>
  K r14 w11) fun J7 =>
  C28 a0 w fun r20 w19 =>
  ifM r20
  (K false w19)
  (J7 () w19)

/-- (*caravel/outbox.Outbox).Done -/
def C11 (a0 : Option Addr) (w : World) (K : Bool → World → Prop) : Prop := CallsV Try.prog 11 #[.pointer a0] w fun v w' => ∃ (r0 : Bool), v = .bool r0 ∧ K r0 w'
theorem C11.mono {a0 : Option Addr} {w : World} {K : Bool → World → Prop} (h : C11 a0 w K) {K' : Bool → World → Prop} (hk : ∀ r0 w', K r0 w' → K' r0 w') : C11 a0 w K' :=
  CallsV.mono h fun v w' ⟨r0, e, h⟩ => ⟨r0, e, hk _ w' h⟩
def sh11 (a0 : Option Addr) (w : World) (K : Bool → World → Prop) : Prop :=
  drw w fun w5 =>
  jn (fun (v6 : Bool) w7 =>
  K v6 w7) fun J8 =>
  C28 a0 w5 fun r11 w10 =>
  ifM (!r11)
  (nn a0 fun p13 =>
  ldI .i64 (p13.add 6) w10 fun t14 =>
  nn a0 fun p15 =>
  ldL (p15.add 2) w10 fun t16 =>
  ∃ t17 : Bool, (∀ w, rn Try.prog (Op.equal 75 (.agg (#[.int .i64 t14, .int .i64 (t16.len : Int)])) (.agg (#[.int .i64 4, .int .i64 0]))) t17 w w) ∧
  J8 t17 w10)
  (J8 false w10)

/-- caravel/caravellaw07.OutboxOnce -/
def C3 (a0 : Slc) (a1 : Int) (a2 : Int) (w : World) (K : Bool → World → Prop) : Prop := CallsV Try.prog 3 #[a0.v, .int .i64 a1, .int .i64 a2] w fun v w' => ∃ (r0 : Bool), v = .bool r0 ∧ K r0 w'
theorem C3.mono {a0 : Slc} {a1 : Int} {a2 : Int} {w : World} {K : Bool → World → Prop} (h : C3 a0 a1 a2 w K) {K' : Bool → World → Prop} (hk : ∀ r0 w', K r0 w' → K' r0 w') : C3 a0 a1 a2 w K' :=
  CallsV.mono h fun v w' ⟨r0, e, h⟩ => ⟨r0, e, hk _ w' h⟩
def sh3 (a0 : Slc) (a1 : Int) (a2 : Int) (w : World) (K : Bool → World → Prop) : Prop :=
  C6 1048576 w fun r6 r7 w5 =>
  jn (fun (v10 : Unit) w11 =>
  jn (fun (v16 : Unit) w17 =>
  C7 r6 a0 w17 fun r23 r24 w22 =>
  jn (fun (v27 : Unit) w28 =>
  jn (fun (v39 : Int) w40 =>
  C9 r6 w40 fun r46 r47 r48 w45 =>
  jn (fun (v51 : Bool) w52 =>
  K v51 w52) fun J53 =>
  ifM (v39 == (if (a0.len : Int) < (bitsZ .and .i64 a2 4095) then (a0.len : Int) else (bitsZ .and .i64 a2 4095)))
  (ifM (r46 == (a0.len : Int))
  (ifM (r47 == v39)
  (ifM (r48 == (a0.len : Int))
  (C10 r6 (bitsZ .and .i64 a2 4095) w45 fun r60 w59 =>
  ifM (!r60)
  (C11 r6 w59 fun r63 w62 =>
  J53 (!r63) w62)
  (J53 false w59))
  (J53 false w45))
  (J53 false w45))
  (J53 false w45))
  (J53 false w45)) fun J41 =>
  Lp (fun (s64 : Int) N66 w65 =>
  C8 r6 (IntKind.i64.wrap (1 + (bitsZ .and .i64 a1 255))) (bitsZ .and .i64 a2 4095) w65 fun r71 r72 w70 =>
  newV 30 #[.int .i64 0, Slc.nil.v, .bool false] w70 fun p73 w74 =>
  stA 3 p73 r71 w74 fun w75 =>
  jn (fun (v78 : Unit) w79 =>
  jn (fun (v84 : Unit) w85 =>
  ldL (p73.add 1) w85 fun t90 =>
  N66 (IntKind.i64.wrap (s64 + (t90.len : Int))) w85) fun J86 =>
  drw w79 fun w93 =>
  jn (fun (v94 : Bool) w95 =>
  ifM v94
  (K false w95)
  (J86 () w95)) fun J96 =>
  ldI .i64 p73 w93 fun t100 =>
  ifM (t100 != s64)
  (J96 true w93)
  (ldL (p73.add 1) w93 fun t102 =>
  ifM ((t102.len : Int) == 0)
  (J96 true w93)
  (ldL (p73.add 1) w93 fun t104 =>
  ifM (decide ((t104.len : Int) > (IntKind.i64.wrap (1 + (bitsZ .and .i64 a1 255)))))
  (J96 true w93)
  (ldL (p73.add 1) w93 fun t106 =>
  ifM (decide ((IntKind.i64.wrap (s64 + (t106.len : Int))) > (bitsZ .and .i64 a2 4095)))
  (J96 true w93)
  (ldL (p73.add 1) w93 fun t108 =>
  ∃ t109, rn Try.prog (convert 22 9 t108.v) (.string t109) w93 w93 ∧ 
  ldL (p73.add 1) w93 fun t110 =>
  0 ≤ s64 ∧ s64 ≤ (IntKind.i64.wrap (s64 + (t110.len : Int))) ∧ (IntKind.i64.wrap (s64 + (t110.len : Int))) ≤ (a0.cap : Int) ∧ 
  ∃ t114, rn Try.prog (convert 22 9 (a0.sub 1 s64.toNat ((IntKind.i64.wrap (s64 + (t110.len : Int))).toNat) a0.cap).v) (.string t114) w93 w93 ∧ 
  ifM (!(t109.toList == t114.toList))
  (J96 true w93)
  (ldB (p73.add 2) w93 fun t116 =>
  J96 t116 w93)))))) fun J80 =>
  ifM (!r72)
  (J41 s64 w75)
  (J80 () w75)) 0 w28) fun J29 =>
  jn (fun (v121 : Bool) w122 =>
  ifM v121
  (K false w122)
  (J29 () w122)) fun J123 =>
  ifM (r23 != (a0.len : Int))
  (J123 true w22)
  (J123 (r24 != 0) w22)) fun J18 =>
  ifM (decide ((a0.len : Int) > 1048576))
  (K true w11)
  (J18 () w11)) fun J12 =>
  jn (fun (v134 : Bool) w135 =>
  ifM v134
  (K false w135)
  (J12 () w135)) fun J136 =>
  ifM (r7 != 0)
  (J136 true w5)
  (J136 r6.isNone w5)

end Go.Proofs.Ytfgodebgjemljaa
