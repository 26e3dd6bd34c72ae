/-
  Printed by a program: the plain texts of the functions, and their ties to the code.
-/
import Derived.Test.YtkehoneadedmhaaProg
import Derived.Test.YtkehoneadedmhaaSh3
import Derived.KernelRfl
namespace Go.Proofs.Ytkehoneadedmhaa
open Go Go.Sh
set_option linter.unusedVariables false
set_option linter.unusedSimpArgs false
theorem mo : Try.prog.follows .mixedOrders = true := by kernel_rfl
/-- caravel/vault.mix -/
def C19 (a0 : Int) (w : World) (K : Int → World → Prop) : Prop := CallsV Try.prog 19 #[.int .u64 a0] w fun v w' => ∃ (r0 : Int), v = .int .u64 r0 ∧ K r0 w'
theorem C19.mono {a0 : Int} {w : World} {K : Int → World → Prop} (h : C19 a0 w K) {K' : Int → World → Prop} (hk : ∀ r0 w', K r0 w' → K' r0 w') : C19 a0 w K' :=
  CallsV.mono h fun v w' ⟨r0, e, h⟩ => ⟨r0, e, hk _ w' h⟩
def sh19 (a0 : Int) (w : World) (K : Int → World → Prop) : Prop :=
  K (bitsZ .xor .u64 (IntKind.u64.wrap ((bitsZ .xor .u64 (IntKind.u64.wrap ((bitsZ .xor .u64 (IntKind.u64.wrap ((IntKind.u64.wrap (a0 + 1)) * 11400714819323198485)) (shrZ .u64 (IntKind.u64.wrap ((IntKind.u64.wrap (a0 + 1)) * 11400714819323198485)) 30)) * 13787848793156543929)) (shrZ .u64 (IntKind.u64.wrap ((bitsZ .xor .u64 (IntKind.u64.wrap ((IntKind.u64.wrap (a0 + 1)) * 11400714819323198485)) (shrZ .u64 (IntKind.u64.wrap ((IntKind.u64.wrap (a0 + 1)) * 11400714819323198485)) 30)) * 13787848793156543929)) 27)) * 10723151780598845931)) (shrZ .u64 (IntKind.u64.wrap ((bitsZ .xor .u64 (IntKind.u64.wrap ((bitsZ .xor .u64 (IntKind.u64.wrap ((IntKind.u64.wrap (a0 + 1)) * 11400714819323198485)) (shrZ .u64 (IntKind.u64.wrap ((IntKind.u64.wrap (a0 + 1)) * 11400714819323198485)) 30)) * 13787848793156543929)) (shrZ .u64 (IntKind.u64.wrap ((bitsZ .xor .u64 (IntKind.u64.wrap ((IntKind.u64.wrap (a0 + 1)) * 11400714819323198485)) (shrZ .u64 (IntKind.u64.wrap ((IntKind.u64.wrap (a0 + 1)) * 11400714819323198485)) 30)) * 13787848793156543929)) 27)) * 10723151780598845931)) 31)) w

/-- caravel/vault.name -/
def C13 (a0 : Int) (w : World) (K : Array Value → World → Prop) : Prop := CallsV Try.prog 13 #[.int .i64 a0] w fun v w' => ∃ (r0 : Array Value), v = .agg r0 ∧ K r0 w'
theorem C13.mono {a0 : Int} {w : World} {K : Array Value → World → Prop} (h : C13 a0 w K) {K' : Array Value → World → Prop} (hk : ∀ r0 w', K r0 w' → K' r0 w') : C13 a0 w K' :=
  CallsV.mono h fun v w' ⟨r0, e, h⟩ => ⟨r0, e, hk _ w' h⟩
def sh13 (a0 : Int) (w : World) (K : Array Value → World → Prop) : Prop :=
  newV 27 #[.int .u8 0, .int .u8 0, .int .u8 0, .int .u8 0, .int .u8 0, .int .u8 0, .int .u8 0, .int .u8 0, .int .u8 0, .int .u8 0, .int .u8 0, .int .u8 0, .int .u8 0, .int .u8 0, .int .u8 0, .int .u8 0] w fun p3 w4 =>
  jn (fun (v7 : Unit) w8 =>
  ldA 16 p3 w8 fun t13 =>
  stA 16 p3 t13 w8 fun w14 =>
  ldA 16 p3 w14 fun t15 =>
  K t15 w14) fun J9 =>
  Lp (fun (s18 : Int) N20 w19 =>
  jn (fun (v26 : Unit) w27 =>
  jn (fun (v32 : Unit) w33 =>
  N20 (IntKind.i64.wrap (s18 + 1)) w33) fun J34 =>
  C19 (IntKind.u64.wrap (IntKind.i64.wrap ((IntKind.i64.wrap (2 * a0)) + s18))) w27 fun r43 w42 =>
  Lp (fun (s46 : Int) N48 w47 =>
  jn (fun (v54 : Unit) w55 =>
  jn (fun (v60 : Unit) w61 =>
  N48 (IntKind.i64.wrap (s46 + 1)) w61) fun J62 =>
  0 ≤ IntKind.i64.wrap (56 - (IntKind.i64.wrap (8 * s46))) ∧ idxA 1 16 p3 (IntKind.i64.wrap ((IntKind.i64.wrap (8 * s18)) + s46)) fun p70 =>
  stV p70 (.int .u8 (IntKind.u8.wrap (shrZ .u64 r43 (IntKind.i64.wrap (56 - (IntKind.i64.wrap (8 * s46))))))) w55 fun w71 =>
  J62 () w71) fun J56 =>
  ifM (decide (s46 < 8))
  (J56 () w47)
  (J34 () w47)) 0 w42) fun J28 =>
  ifM (decide (s18 < 2))
  (J28 () w19)
  (J9 () w19)) 0 w4

/-- (*caravel/vault.Vault).make -/
def C9 (a0 : Option Addr) (a1 : Array Value) (w : World) (K : Array Value → World → Prop) : Prop := CallsV Try.prog 9 #[.pointer a0, .agg a1] w fun v w' => ∃ (r0 : Array Value), v = .agg r0 ∧ K r0 w'
theorem C9.mono {a0 : Option Addr} {a1 : Array Value} {w : World} {K : Array Value → World → Prop} (h : C9 a0 a1 w K) {K' : Array Value → World → Prop} (hk : ∀ r0 w', K r0 w' → K' r0 w') : C9 a0 a1 w K' :=
  CallsV.mono h fun v w' ⟨r0, e, h⟩ => ⟨r0, e, hk _ w' h⟩
def sh9 (a0 : Option Addr) (a1 : Array Value) (w : World) (K : Array Value → World → Prop) : Prop :=
  newV 43 a1 w fun p3 w4 =>
  newV 27 #[.int .u8 0, .int .u8 0, .int .u8 0, .int .u8 0, .int .u8 0, .int .u8 0, .int .u8 0, .int .u8 0, .int .u8 0, .int .u8 0, .int .u8 0, .int .u8 0, .int .u8 0, .int .u8 0, .int .u8 0, .int .u8 0] w4 fun p5 w6 =>
  jn (fun (v9 : Unit) w10 =>
  nn a0 fun p15 =>
  ldL p15 w10 fun t16 =>
  drw w10 fun w19 =>
  nn a0 fun p20 =>
  ldL p20 w19 fun t21 =>
  ldA 7 p3 w19 fun t22 =>
  ∃ (t24 : Slc) (w23 : World), rn Try.prog (Instr.buildSlice 38 1 ([(0, .agg t22)] : List (Nat × Value)).toArray) t24.v w19 w23 ∧
  World.cell? w23 p20 = some (t21.v) ∧ ∃ (t27 : Slc) (w26 : World), (∀ t, rn Try.prog (Builtin.append_ #[38, 38] t #[t21.v, t24.v]) t27.v w23 w26) ∧
  nn a0 fun p28 =>
  stV p28 (t27.v) w26 fun w29 =>
  drw w29 fun w32 =>
  nn a0 fun p33 =>
  ldM (p33.add 1) w32 fun t34 =>
  ldA 7 p3 w32 fun t35 =>
  ∃ w36 : World, rn Try.prog (Instr.mapUpdate 36 (.map t34) (.agg t35) (.int .i64 (t16.len : Int))) () w32 w36 ∧
  drw w36 fun w39 =>
  nn a0 fun p40 =>
  ldM (p40.add 2) w39 fun t41 =>
  C13 (t16.len : Int) w39 fun r43 w42 =>
  World.cell? w42 (p40.add 2) = some (.map t41) ∧ ∃ w45 : World, rn Try.prog (Instr.mapUpdate 37 (.map t41) (.agg r43) (.int .i64 (t16.len : Int))) () w42 w45 ∧
  C13 (t16.len : Int) w45 fun r49 w48 =>
  stA 16 p5 r49 w48 fun w50 =>
  ldA 16 p5 w50 fun t51 =>
  K t51 w50) fun J11 =>
  drw w6 fun w54 =>
  nn a0 fun p55 =>
  ldM (p55.add 1) w54 fun t56 =>
  ldA 7 p3 w54 fun t57 =>
  ∃ (t58 : Int) (t59 : Bool), rn Try.prog (Instr.lookup 36 (.map t56) (.agg t57) true) (.tuple #[.int .i64 t58, .bool t59]) w54 w54 ∧
  jn (fun (v62 : Bool) w63 =>
  ifM v62
  (C13 t58 w63 fun r69 w68 =>
  stA 16 p5 r69 w68 fun w70 =>
  ldA 16 p5 w70 fun t71 =>
  K t71 w70)
  (J11 () w63)) fun J64 =>
  ifM t59
  (ldI .i64 p3 w54 fun t73 =>
  J64 (t73 != 1) w54)
  (J64 false w54)

/-- caravel/vault.New -/
def C4 (w : World) (K : Option Addr → World → Prop) : Prop := CallsV Try.prog 4 #[] w fun v w' => ∃ (r0 : Option Addr), v = .pointer r0 ∧ K r0 w'
theorem C4.mono {w : World} {K : Option Addr → World → Prop} (h : C4 w K) {K' : Option Addr → World → Prop} (hk : ∀ r0 w', K r0 w' → K' r0 w') : C4 w K' :=
  CallsV.mono h fun v w' ⟨r0, e, h⟩ => ⟨r0, e, hk _ w' h⟩
def sh4 (w : World) (K : Option Addr → World → Prop) : Prop :=
  newM w fun m5 w6 =>
  newM w6 fun m7 w8 =>
  newV 40 #[Slc.nil.v, .map m5, .map m7] w8 fun p9 w10 =>
  C9 (some p9) (#[.int .i64 0, .int .i64 0, .int .i64 0, .int .i64 0, .string (⟨#[]⟩ : ByteArray), .string (⟨#[]⟩ : ByteArray), .string (⟨#[]⟩ : ByteArray)]) w10 fun r14 w13 =>
  K (some p9) w13

/-- (*caravel/vault.Vault).none -/
def C10 (a0 : Option Addr) (w : World) (K : Bool → World → Prop) : Prop := CallsV Try.prog 10 #[.pointer a0] w fun v w' => ∃ (r0 : Bool), v = .bool r0 ∧ K r0 w'
theorem C10.mono {a0 : Option Addr} {w : World} {K : Bool → World → Prop} (h : C10 a0 w K) {K' : Bool → World → Prop} (hk : ∀ r0 w', K r0 w' → K' r0 w') : C10 a0 w K' :=
  CallsV.mono h fun v w' ⟨r0, e, h⟩ => ⟨r0, e, hk _ w' h⟩
def sh10 (a0 : Option Addr) (w : World) (K : Bool → World → Prop) : Prop :=
  jn (fun (v5 : Bool) w6 =>
  K v5 w6) fun J7 =>
  ifM a0.isNone
  (J7 true w)
  (nn a0 fun p10 =>
  ldM (p10.add 2) w fun t11 =>
  J7 t11.isNone w)

/-- (*caravel/vault.Vault).Fresh -/
def C5 (a0 : Option Addr) (w : World) (K : Array Value → World → Prop) : Prop := CallsV Try.prog 5 #[.pointer a0] w fun v w' => ∃ (r0 : Array Value), v = .agg r0 ∧ K r0 w'
theorem C5.mono {a0 : Option Addr} {w : World} {K : Array Value → World → Prop} (h : C5 a0 w K) {K' : Array Value → World → Prop} (hk : ∀ r0 w', K r0 w' → K' r0 w') : C5 a0 w K' :=
  CallsV.mono h fun v w' ⟨r0, e, h⟩ => ⟨r0, e, hk _ w' h⟩
def sh5 (a0 : Option Addr) (w : World) (K : Array Value → World → Prop) : Prop :=
  newV 27 #[.int .u8 0, .int .u8 0, .int .u8 0, .int .u8 0, .int .u8 0, .int .u8 0, .int .u8 0, .int .u8 0, .int .u8 0, .int .u8 0, .int .u8 0, .int .u8 0, .int .u8 0, .int .u8 0, .int .u8 0, .int .u8 0] w fun p3 w4 =>
  jn (fun (v7 : Unit) w8 =>
  C9 a0 (#[.int .i64 1, .int .i64 0, .int .i64 0, .int .i64 0, .string (⟨#[]⟩ : ByteArray), .string (⟨#[]⟩ : ByteArray), .string (⟨#[]⟩ : ByteArray)]) w8 fun r14 w13 =>
  stA 16 p3 r14 w13 fun w15 =>
  ldA 16 p3 w15 fun t16 =>
  K t16 w15) fun J9 =>
  C10 a0 w4 fun r20 w19 =>
  ifM r20
  (stA 16 p3 (#[.int .u8 0, .int .u8 0, .int .u8 0, .int .u8 0, .int .u8 0, .int .u8 0, .int .u8 0, .int .u8 0, .int .u8 0, .int .u8 0, .int .u8 0, .int .u8 0, .int .u8 0, .int .u8 0, .int .u8 0, .int .u8 0]) w19 fun w23 =>
  ldA 16 p3 w23 fun t24 =>
  K t24 w23)
  (J9 () w19)

/-- slices.Clone[[][]byte,[]byte] -/
def C14 (a0 : Slc) (w : World) (K : Slc → World → Prop) : Prop := CallsV Try.prog 14 #[a0.v] w fun v w' => ∃ (r0 : Slc), v = r0.v ∧ K r0 w'
theorem C14.mono {a0 : Slc} {w : World} {K : Slc → World → Prop} (h : C14 a0 w K) {K' : Slc → World → Prop} (hk : ∀ r0 w', K r0 w' → K' r0 w') : C14 a0 w K' :=
  CallsV.mono h fun v w' ⟨r0, e, h⟩ => ⟨r0, e, hk _ w' h⟩
def sh14 (a0 : Slc) (w : World) (K : Slc → World → Prop) : Prop :=
  jn (fun (v5 : Unit) w6 =>
  newV 22 #[] w6 fun p12 w11 =>
  ∃ (t14 : Slc) (w13 : World), (∀ t, rn Try.prog (Builtin.append_ #[30, 30] t #[(Slc.mk (some p12) 0 0).v, a0.v]) t14.v w11 w13) ∧
  K t14 w13) fun J7 =>
  ifM a0.a.isNone
  (K Slc.nil w)
  (J7 () w)

/-- (*caravel/vault.Vault).knows -/
def C11 (a0 : Option Addr) (a1 : Slc) (w : World) (K : Option Addr → World → Prop) : Prop := CallsV Try.prog 11 #[.pointer a0, a1.v] w fun v w' => ∃ (r0 : Option Addr), v = .pointer r0 ∧ K r0 w'
theorem C11.mono {a0 : Option Addr} {a1 : Slc} {w : World} {K : Option Addr → World → Prop} (h : C11 a0 a1 w K) {K' : Option Addr → World → Prop} (hk : ∀ r0 w', K r0 w' → K' r0 w') : C11 a0 a1 w K' :=
  CallsV.mono h fun v w' ⟨r0, e, h⟩ => ⟨r0, e, hk _ w' h⟩
def sh11 (a0 : Option Addr) (a1 : Slc) (w : World) (K : Option Addr → World → Prop) : Prop :=
  newV 23 #[.pointer a0] w fun p3 w4 =>
  drw w4 fun w7 =>
  jn (fun (v8 : Option Addr) w9 =>
  nn v8 fun p15 =>
  ldP p15 w9 fun t14 =>
  nn t14 fun p16 =>
  ldL (p16.add 1) w9 fun t17 =>
  idx 1 t17 0 fun p18 =>
  stV p18 (.bool true) w9 fun w20 =>
  ldP p3 w20 fun t23 =>
  nn t23 fun p24 =>
  ldL p24 w20 fun t25 =>
  ∃ (t26 : Slc) (w27 : World), rn Try.prog (Instr.makeSlice 48 (.int .i64 (t25.len : Int)) (.int .i64 (t25.len : Int))) t26.v w20 w27 ∧
  newV 48 #[Slc.nil.v] w27 fun p28 w29 =>
  stV p28 (t26.v) w29 fun w30 =>
  jn (fun (v35 : Unit) w36 =>
  nn v8 fun p42 =>
  ldP p42 w36 fun t41 =>
  K t41 w36) fun J37 =>
  Lp (fun (s43 : Unit) N45 w44 =>
  jn (fun (v49 : Unit) w50 =>
  N45 () w50) fun J51 =>
  ∃ f57 x58 y59, (Value.func (Fn.func 15) #[] #[.pointer v8, .pointer (some p3), .pointer (some p28)]) = .func (.func f57) x58 y59 ∧ (∀ args w, (callFunc f57 args).run Try.prog w = .ok (.enter f57 args) w) ∧ CallsV Try.prog f57 (x58 ++ #[] ++ y59) w44 fun v_ w55 => ∃ (r56 : Bool), v_ = .bool r56 ∧ 
  ifM r56
  (J51 () w55)
  (J37 () w55)) () w30) fun J10 =>
  ldP p3 w7 fun t60 =>
  ldP p3 w7 fun t61 =>
  nn t61 fun p62 =>
  ldL p62 w7 fun t63 =>
  (∃ (t67 : Slc) (w68 : World), rn Try.prog (Instr.makeSlice 48 (.int .i64 (t63.len : Int)) (.int .i64 (t63.len : Int))) t67.v w7 w68 ∧
  World.cell? w68 p3 = some (.pointer t60) ∧ (C14 a1 w68 fun r73 w72 =>
  World.cell? w72 p3 = some (.pointer t60) ∧ (newV 50 #[.pointer t60, t67.v, r73.v] w72 fun p77 w78 =>
  newV 45 #[.pointer none] w78 fun p79 w80 =>
  stV p79 (.pointer (some p77)) w80 fun w81 =>
  J10 (some p79) w81) ∧
  (newV 45 #[.pointer none] w72 fun p82 w83 =>
  World.cell? w83 p3 = some (.pointer t60) ∧ newV 50 #[.pointer t60, t67.v, r73.v] w83 fun p85 w86 =>
  stV p82 (.pointer (some p85)) w86 fun w87 =>
  J10 (some p82) w87)) ∧
  (newV 45 #[.pointer none] w68 fun p88 w89 =>
  World.cell? w89 p3 = some (.pointer t60) ∧ C14 a1 w89 fun r92 w91 =>
  World.cell? w91 p3 = some (.pointer t60) ∧ newV 50 #[.pointer t60, t67.v, r92.v] w91 fun p94 w95 =>
  stV p88 (.pointer (some p94)) w95 fun w96 =>
  J10 (some p88) w96)) ∧
  (C14 a1 w7 fun r98 w97 =>
  World.cell? w97 p62 = some (t63.v) ∧ World.cell? w97 p3 = some (.pointer t61) ∧ World.cell? w97 p3 = some (.pointer t60) ∧ (∃ (t104 : Slc) (w105 : World), rn Try.prog (Instr.makeSlice 48 (.int .i64 (t63.len : Int)) (.int .i64 (t63.len : Int))) t104.v w97 w105 ∧
  World.cell? w105 p3 = some (.pointer t60) ∧ (newV 50 #[.pointer t60, t104.v, r98.v] w105 fun p109 w110 =>
  newV 45 #[.pointer none] w110 fun p111 w112 =>
  stV p111 (.pointer (some p109)) w112 fun w113 =>
  J10 (some p111) w113) ∧
  (newV 45 #[.pointer none] w105 fun p114 w115 =>
  World.cell? w115 p3 = some (.pointer t60) ∧ newV 50 #[.pointer t60, t104.v, r98.v] w115 fun p117 w118 =>
  stV p114 (.pointer (some p117)) w118 fun w119 =>
  J10 (some p114) w119)) ∧
  (newV 45 #[.pointer none] w97 fun p120 w121 =>
  World.cell? w121 p62 = some (t63.v) ∧ World.cell? w121 p3 = some (.pointer t61) ∧ World.cell? w121 p3 = some (.pointer t60) ∧ ∃ (t125 : Slc) (w126 : World), rn Try.prog (Instr.makeSlice 48 (.int .i64 (t63.len : Int)) (.int .i64 (t63.len : Int))) t125.v w121 w126 ∧
  World.cell? w126 p3 = some (.pointer t60) ∧ newV 50 #[.pointer t60, t125.v, r98.v] w126 fun p128 w129 =>
  stV p120 (.pointer (some p128)) w129 fun w130 =>
  J10 (some p120) w130)) ∧
  (newV 45 #[.pointer none] w7 fun p131 w132 =>
  World.cell? w132 p62 = some (t63.v) ∧ World.cell? w132 p3 = some (.pointer t61) ∧ World.cell? w132 p3 = some (.pointer t60) ∧ (∃ (t138 : Slc) (w139 : World), rn Try.prog (Instr.makeSlice 48 (.int .i64 (t63.len : Int)) (.int .i64 (t63.len : Int))) t138.v w132 w139 ∧
  World.cell? w139 p3 = some (.pointer t60) ∧ C14 a1 w139 fun r142 w141 =>
  World.cell? w141 p3 = some (.pointer t60) ∧ newV 50 #[.pointer t60, t138.v, r142.v] w141 fun p144 w145 =>
  stV p131 (.pointer (some p144)) w145 fun w146 =>
  J10 (some p131) w146) ∧
  (C14 a1 w132 fun r148 w147 =>
  World.cell? w147 p62 = some (t63.v) ∧ World.cell? w147 p3 = some (.pointer t61) ∧ World.cell? w147 p3 = some (.pointer t60) ∧ ∃ (t152 : Slc) (w153 : World), rn Try.prog (Instr.makeSlice 48 (.int .i64 (t63.len : Int)) (.int .i64 (t63.len : Int))) t152.v w147 w153 ∧
  World.cell? w153 p3 = some (.pointer t60) ∧ newV 50 #[.pointer t60, t152.v, r148.v] w153 fun p155 w156 =>
  stV p131 (.pointer (some p155)) w156 fun w157 =>
  J10 (some p131) w157))

/-- caravel/vault.unmix -/
def C18 (a0 : Int) (w : World) (K : Int → World → Prop) : Prop := CallsV Try.prog 18 #[.int .u64 a0] w fun v w' => ∃ (r0 : Int), v = .int .u64 r0 ∧ K r0 w'
theorem C18.mono {a0 : Int} {w : World} {K : Int → World → Prop} (h : C18 a0 w K) {K' : Int → World → Prop} (hk : ∀ r0 w', K r0 w' → K' r0 w') : C18 a0 w K' :=
  CallsV.mono h fun v w' ⟨r0, e, h⟩ => ⟨r0, e, hk _ w' h⟩
def sh18 (a0 : Int) (w : World) (K : Int → World → Prop) : Prop :=
  K (IntKind.u64.wrap ((IntKind.u64.wrap ((bitsZ .xor .u64 (bitsZ .xor .u64 (IntKind.u64.wrap ((bitsZ .xor .u64 (bitsZ .xor .u64 (IntKind.u64.wrap ((bitsZ .xor .u64 (bitsZ .xor .u64 a0 (shrZ .u64 a0 31)) (shrZ .u64 a0 62)) * 3573116690164977347)) (shrZ .u64 (IntKind.u64.wrap ((bitsZ .xor .u64 (bitsZ .xor .u64 a0 (shrZ .u64 a0 31)) (shrZ .u64 a0 62)) * 3573116690164977347)) 27)) (shrZ .u64 (IntKind.u64.wrap ((bitsZ .xor .u64 (bitsZ .xor .u64 a0 (shrZ .u64 a0 31)) (shrZ .u64 a0 62)) * 3573116690164977347)) 54)) * 10871156337175269513)) (shrZ .u64 (IntKind.u64.wrap ((bitsZ .xor .u64 (bitsZ .xor .u64 (IntKind.u64.wrap ((bitsZ .xor .u64 (bitsZ .xor .u64 a0 (shrZ .u64 a0 31)) (shrZ .u64 a0 62)) * 3573116690164977347)) (shrZ .u64 (IntKind.u64.wrap ((bitsZ .xor .u64 (bitsZ .xor .u64 a0 (shrZ .u64 a0 31)) (shrZ .u64 a0 62)) * 3573116690164977347)) 27)) (shrZ .u64 (IntKind.u64.wrap ((bitsZ .xor .u64 (bitsZ .xor .u64 a0 (shrZ .u64 a0 31)) (shrZ .u64 a0 62)) * 3573116690164977347)) 54)) * 10871156337175269513)) 30)) (shrZ .u64 (IntKind.u64.wrap ((bitsZ .xor .u64 (bitsZ .xor .u64 (IntKind.u64.wrap ((bitsZ .xor .u64 (bitsZ .xor .u64 a0 (shrZ .u64 a0 31)) (shrZ .u64 a0 62)) * 3573116690164977347)) (shrZ .u64 (IntKind.u64.wrap ((bitsZ .xor .u64 (bitsZ .xor .u64 a0 (shrZ .u64 a0 31)) (shrZ .u64 a0 62)) * 3573116690164977347)) 27)) (shrZ .u64 (IntKind.u64.wrap ((bitsZ .xor .u64 (bitsZ .xor .u64 a0 (shrZ .u64 a0 31)) (shrZ .u64 a0 62)) * 3573116690164977347)) 54)) * 10871156337175269513)) 60)) * 17428512612931826493)) - 1)) w

/-- caravel/vault.isName -/
def C12 (a0 : Array Value) (w : World) (K : Bool → World → Prop) : Prop := CallsV Try.prog 12 #[.agg a0] w fun v w' => ∃ (r0 : Bool), v = .bool r0 ∧ K r0 w'
theorem C12.mono {a0 : Array Value} {w : World} {K : Bool → World → Prop} (h : C12 a0 w K) {K' : Bool → World → Prop} (hk : ∀ r0 w', K r0 w' → K' r0 w') : C12 a0 w K' :=
  CallsV.mono h fun v w' ⟨r0, e, h⟩ => ⟨r0, e, hk _ w' h⟩
def sh12 (a0 : Array Value) (w : World) (K : Bool → World → Prop) : Prop :=
  newV 27 a0 w fun p3 w4 =>
  newV 56 #[.int .u64 0, .int .u64 0] w4 fun p7 w8 =>
  jn (fun (v11 : Unit) w12 =>
  idxA 1 2 p7 0 fun p17 =>
  ldI .u64 p17 w12 fun t18 =>
  C18 t18 w12 fun r20 w19 =>
  drw w19 fun w23 =>
  jn (fun (v24 : Bool) w25 =>
  K v24 w25) fun J26 =>
  ifM ((r20.tmod 2) == 0)
  (idxA 1 2 p7 1 fun p29 =>
  ldI .u64 p29 w23 fun t30 =>
  C19 (IntKind.u64.wrap (r20 + 1)) w23 fun r32 w31 =>
  World.cell? w31 p29 = some (.int .u64 t30) ∧ J26 (r32 == t30) w31)
  (J26 false w23)) fun J13 =>
  ldA 16 p3 w8 fun t36 =>
  Lp (fun (s37 : Int) N39 w38 =>
  jn (fun (v45 : Unit) w46 =>
  jn (fun (v51 : Unit) w52 =>
  N39 (IntKind.i64.wrap (s37 + 1)) w52) fun J53 =>
  0 ≤ s37 ∧ s37 < 16 ∧ fI .u8 t36 (s37.toNat * 1) fun t59 =>
  idxA 1 2 p7 (IntKind.i64.wrap (s37.tdiv 8)) fun p62 =>
  ldI .u64 p62 w46 fun t63 =>
  idxA 1 2 p7 (IntKind.i64.wrap (s37.tdiv 8)) fun p64 =>
  stV p64 (.int .u64 (bitsZ .or .u64 (shlZ .u64 t63 8) (IntKind.u64.wrap t59))) w46 fun w65 =>
  J53 () w65) fun J47 =>
  ifM (decide (s37 < 16))
  (J47 () w38)
  (J13 () w38)) 0 w8

/-- (*caravel/vault.Vault).Hidden -/
def C6 (a0 : Option Addr) (a1 : Slc) (a2 : Slc) (w : World) (K : Bool → World → Prop) : Prop := CallsV Try.prog 6 #[.pointer a0, a1.v, a2.v] w fun v w' => ∃ (r0 : Bool), v = .bool r0 ∧ K r0 w'
theorem C6.mono {a0 : Option Addr} {a1 : Slc} {a2 : Slc} {w : World} {K : Bool → World → Prop} (h : C6 a0 a1 a2 w K) {K' : Bool → World → Prop} (hk : ∀ r0 w', K r0 w' → K' r0 w') : C6 a0 a1 a2 w K' :=
  CallsV.mono h fun v w' ⟨r0, e, h⟩ => ⟨r0, e, hk _ w' h⟩
def sh6 (a0 : Option Addr) (a1 : Slc) (a2 : Slc) (w : World) (K : Bool → World → Prop) : Prop :=
  jn (fun (v5 : Unit) w6 =>
  C11 a0 a2 w6 fun r12 w11 =>
  jn (fun (v15 : Unit) w16 =>
  K false w16) fun J17 =>
  Lp (fun (s23 : Int) N25 w24 =>
  jn (fun (v29 : Unit) w30 =>
  jn (fun (v35 : Unit) w36 =>
  N25 (IntKind.i64.wrap (s23 + 1)) w36) fun J37 =>
  0 ≤ s23 ∧ s23 ≤ IntKind.i64.wrap (s23 + 16) ∧ IntKind.i64.wrap (s23 + 16) ≤ (a1.cap : Int) ∧ 
  (16 ≤ (a1.sub 1 s23.toNat ((IntKind.i64.wrap (s23 + 16)).toNat) a1.cap).len) ∧ nn ((a1.sub 1 s23.toNat ((IntKind.i64.wrap (s23 + 16)).toNat) a1.cap).a) fun p47 =>
  ldA 16 p47 w30 fun t46 =>
  newV 27 #[.int .u8 0, .int .u8 0, .int .u8 0, .int .u8 0, .int .u8 0, .int .u8 0, .int .u8 0, .int .u8 0, .int .u8 0, .int .u8 0, .int .u8 0, .int .u8 0, .int .u8 0, .int .u8 0, .int .u8 0, .int .u8 0] w30 fun p48 w49 =>
  stA 16 p48 t46 w49 fun w50 =>
  drw w50 fun w53 =>
  nn a0 fun p54 =>
  ldM (p54.add 2) w53 fun t55 =>
  ldA 16 p48 w53 fun t56 =>
  ∃ (t57 : Int) (t58 : Bool), rn Try.prog (Instr.lookup 37 (.map t55) (.agg t56) true) (.tuple #[.int .i64 t57, .bool t58]) w53 w53 ∧
  jn (fun (v61 : Bool) w62 =>
  ifM v61
  (K true w62)
  (J37 () w62)) fun J63 =>
  ifM t58
  (nn r12 fun p68 =>
  ldL (p68.add 1) w53 fun t69 =>
  idx 1 t69 t57 fun p70 =>
  ldB p70 w53 fun t72 =>
  ifM (!t72)
  (J63 true w53)
  (ifM (!t58)
  (ldA 16 p48 w53 fun t75 =>
  C12 t75 w53 fun r77 w76 =>
  J63 r77 w76)
  (J63 false w53)))
  (ifM (!t58)
  (ldA 16 p48 w53 fun t79 =>
  C12 t79 w53 fun r81 w80 =>
  J63 r81 w80)
  (J63 false w53))) fun J31 =>
  ifM (decide ((IntKind.i64.wrap (s23 + 16)) ≤ (a1.len : Int)))
  (J31 () w24)
  (J17 () w24)) 0 w11) fun J7 =>
  C10 a0 w fun r87 w86 =>
  ifM r87
  (K false w86)
  (J7 () w86)

/-- (*caravel/vault.Vault).Seal -/
def C7 (a0 : Option Addr) (a1 : Array Value) (a2 : Int) (a3 : Slc) (a4 : Slc) (w : World) (K : Slc → Int → World → Prop) : Prop := CallsV Try.prog 7 #[.pointer a0, .agg a1, .int .i64 a2, a3.v, a4.v] w fun v w' => ∃ (r0 : Slc) (r1 : Int), v = .tuple #[r0.v, .int .i64 r1] ∧ K r0 r1 w'
theorem C7.mono {a0 : Option Addr} {a1 : Array Value} {a2 : Int} {a3 : Slc} {a4 : Slc} {w : World} {K : Slc → Int → World → Prop} (h : C7 a0 a1 a2 a3 a4 w K) {K' : Slc → Int → World → Prop} (hk : ∀ r0 r1 w', K r0 r1 w' → K' r0 r1 w') : C7 a0 a1 a2 a3 a4 w K' :=
  CallsV.mono h fun v w' ⟨r0, r1, e, h⟩ => ⟨r0, r1, e, hk _ _ w' h⟩
def sh7 (a0 : Option Addr) (a1 : Array Value) (a2 : Int) (a3 : Slc) (a4 : Slc) (w : World) (K : Slc → Int → World → Prop) : Prop :=
  newV 27 a1 w fun p3 w4 =>
  jn (fun (v7 : Unit) w8 =>
  drw w8 fun w13 =>
  nn a0 fun p14 =>
  ldM (p14.add 2) w13 fun t15 =>
  ldA 16 p3 w13 fun t16 =>
  ∃ (t17 : Int) (t18 : Bool), rn Try.prog (Instr.lookup 37 (.map t15) (.agg t16) true) (.tuple #[.int .i64 t17, .bool t18]) w13 w13 ∧
  jn (fun (v21 : Unit) w22 =>
  ∃ t27, rn Try.prog (convert 22 9 a3.v) (.string t27) w22 w22 ∧ 
  ∃ t28, rn Try.prog (convert 22 9 a4.v) (.string t28) w22 w22 ∧ 
  C9 a0 (#[.int .i64 6, .int .i64 t17, .int .i64 0, .int .i64 a2, .string (⟨#[]⟩ : ByteArray), .string t27, .string t28]) w22 fun r30 w29 =>
  newV 27 #[.int .u8 0, .int .u8 0, .int .u8 0, .int .u8 0, .int .u8 0, .int .u8 0, .int .u8 0, .int .u8 0, .int .u8 0, .int .u8 0, .int .u8 0, .int .u8 0, .int .u8 0, .int .u8 0, .int .u8 0, .int .u8 0] w29 fun p31 w32 =>
  stA 16 p31 r30 w32 fun w33 =>
  drw w33 fun w36 =>
  ∃ (t37 : Slc) (w38 : World), rn Try.prog (Instr.makeSlice 22 (.int .i64 (a4.len : Int)) (.int .i64 (a4.len : Int))) t37.v w36 w38 ∧
  ∃ (t40 : Slc) (w39 : World), (∀ t, rn Try.prog (Builtin.append_ #[22, 22] t #[t37.v, (Slc.sub ⟨some p31, 16, 16⟩ 1 0 16 16).v]) t40.v w38 w39) ∧
  K t40 0 w39) fun J23 =>
  ifM (!t18)
  (K Slc.nil 15 w13)
  (ifM (decide (a2 < 0))
  (K Slc.nil 2 w13)
  (ifM (decide ((a4.len : Int) > 65536))
  (K Slc.nil 3 w13)
  (J23 () w13)))) fun J9 =>
  C10 a0 w4 fun r56 w55 =>
  ifM r56
  (K Slc.nil 1 w55)
  (J9 () w55)

/-- (*caravel/vault.Vault).Spied -/
def C8 (a0 : Option Addr) (a1 : Slc) (w : World) (K : Slc → World → Prop) : Prop := CallsV Try.prog 8 #[.pointer a0, a1.v] w fun v w' => ∃ (r0 : Slc), v = r0.v ∧ K r0 w'
theorem C8.mono {a0 : Option Addr} {a1 : Slc} {w : World} {K : Slc → World → Prop} (h : C8 a0 a1 w K) {K' : Slc → World → Prop} (hk : ∀ r0 w', K r0 w' → K' r0 w') : C8 a0 a1 w K' :=
  CallsV.mono h fun v w' ⟨r0, e, h⟩ => ⟨r0, e, hk _ w' h⟩
def sh8 (a0 : Option Addr) (a1 : Slc) (w : World) (K : Slc → World → Prop) : Prop :=
  jn (fun (v5 : Unit) w6 =>
  C11 a0 a1 w6 fun r12 w11 =>
  jn (fun (v17 : Slc) w18 =>
  K v17 w18) fun J19 =>
  nn a0 fun p25 =>
  ldL p25 w11 fun t26 =>
  Lp (fun (s27 : Slc × Int) N29 w28 =>
  jn (fun (v35 : Unit) w36 =>
  jn (fun (v41 : Slc) w42 =>
  N29 (v41, IntKind.i64.wrap (s27.2 + 1)) w42) fun J43 =>
  idx 7 t26 s27.2 fun p49 =>
  ldA 7 p49 w36 fun t51 =>
  newV 43 #[.int .i64 0, .int .i64 0, .int .i64 0, .int .i64 0, .string (⟨#[]⟩ : ByteArray), .string (⟨#[]⟩ : ByteArray), .string (⟨#[]⟩ : ByteArray)] w36 fun p52 w53 =>
  stA 7 p52 t51 w53 fun w54 =>
  drw w54 fun w57 =>
  jn (fun (v58 : Bool) w59 =>
  ifM v58
  (ldS (p52.add 6) w59 fun t64 =>
  ∃ (t65 : Slc) (w66 : World), rn Try.prog (convert 9 22 (.string t64)) t65.v w59 w66 ∧
  newV 22 #[t65.v] w66 fun p68 w67 =>
  ∃ (t70 : Slc) (w69 : World), (∀ t, rn Try.prog (Builtin.append_ #[30, 30] t #[s27.1.v, (Slc.mk (some p68) 1 1).v]) t70.v w67 w69) ∧
  J43 t70 w69)
  (J43 s27.1 w59)) fun J60 =>
  ldI .i64 p52 w57 fun t71 =>
  ifM (t71 == 6)
  (nn r12 fun p73 =>
  ldL (p73.add 1) w57 fun t74 =>
  idx 1 t74 s27.2 fun p75 =>
  ldB p75 w57 fun t77 =>
  ifM t77
  (nn r12 fun p79 =>
  ldL (p79.add 1) w57 fun t80 =>
  ldI .i64 (p52.add 1) w57 fun t81 =>
  idx 1 t80 t81 fun p82 =>
  ldB p82 w57 fun t84 =>
  J60 t84 w57)
  (J60 false w57))
  (J60 false w57)) fun J37 =>
  ifM (decide (s27.2 < (t26.len : Int)))
  (J37 () w28)
  (J19 s27.1 w28)) (Slc.nil, 0) w11) fun J7 =>
  C10 a0 w fun r88 w87 =>
  ifM r88
  (K Slc.nil w87)
  (J7 () w87)

/-- caravel/caravellaw09.VaultNames -/
def C3 (a0 : Int) (a1 : Slc) (w : World) (K : Bool → World → Prop) : Prop := CallsV Try.prog 3 #[.int .i64 a0, a1.v] w fun v w' => ∃ (r0 : Bool), v = .bool r0 ∧ K r0 w'
theorem C3.mono {a0 : Int} {a1 : Slc} {w : World} {K : Bool → World → Prop} (h : C3 a0 a1 w K) {K' : Bool → World → Prop} (hk : ∀ r0 w', K r0 w' → K' r0 w') : C3 a0 a1 w K' :=
  CallsV.mono h fun v w' ⟨r0, e, h⟩ => ⟨r0, e, hk _ w' h⟩
def sh3 (a0 : Int) (a1 : Slc) (w : World) (K : Bool → World → Prop) : Prop :=
  C4 w fun r6 w5 =>
  jn (fun (v9 : Unit) w10 =>
  jn (fun (v19 : Slc) w20 =>
  jn (fun (v25 : Unit) w26 =>
  jn (fun (v33 : Slc) w34 =>
  drw w34 fun w39 =>
  jn (fun (v40 : Bool) w41 =>
  K v40 w41) fun J42 =>
  idx 16 v19 (IntKind.i64.wrap ((IntKind.i64.wrap (2 + (bitsZ .and .i64 a0 15))) - 1)) fun p44 =>
  C6 r6 (Slc.sub ⟨some p44, 16, 16⟩ 1 0 16 16) v33 w39 fun r47 w46 =>
  ifM r47
  (idx 16 v19 (IntKind.i64.wrap ((IntKind.i64.wrap (2 + (bitsZ .and .i64 a0 15))) - 1)) fun p49 =>
  idx 16 v19 0 fun p51 =>
  newV 22 #[(Slc.sub ⟨some p51, 16, 16⟩ 1 0 16 16).v] w46 fun p54 w53 =>
  ∃ (t56 : Slc) (w55 : World), (∀ t, rn Try.prog (Builtin.append_ #[30, 30] t #[v33.v, (Slc.mk (some p54) 1 1).v]) t56.v w53 w55) ∧
  C6 r6 (Slc.sub ⟨some p49, 16, 16⟩ 1 0 16 16) t56 w55 fun r58 w57 =>
  ifM (!r58)
  (idx 16 v19 0 fun p60 =>
  newV 22 #[(Slc.sub ⟨some p60, 16, 16⟩ 1 0 16 16).v] w57 fun p63 w62 =>
  ∃ (t65 : Slc) (w64 : World), (∀ t, rn Try.prog (Builtin.append_ #[30, 30] t #[v33.v, (Slc.mk (some p63) 1 1).v]) t65.v w62 w64) ∧
  C8 r6 t65 w64 fun r67 w66 =>
  ifM ((r67.len : Int) == (IntKind.i64.wrap ((IntKind.i64.wrap (2 + (bitsZ .and .i64 a0 15))) - 1)))
  (C8 r6 v33 w66 fun r70 w69 =>
  J42 ((r70.len : Int) == 0) w69)
  (J42 false w66))
  (J42 false w57))
  (J42 false w46)) fun J35 =>
  Lp (fun (s73 : Slc × Int) N75 w74 =>
  jn (fun (v79 : Unit) w80 =>
  jn (fun (v85 : Slc) w86 =>
  N75 (v85, IntKind.i64.wrap (s73.2 + 1)) w86) fun J87 =>
  drw w80 fun w93 =>
  idx 16 v19 s73.2 fun p94 =>
  ldA 16 p94 w93 fun t96 =>
  idx 16 v19 (IntKind.i64.wrap (s73.2 + 1)) fun p97 =>
  newV 5 #[] w93 fun p100 w99 =>
  CellsAt w99 p94 16 t96 ∧ ∃ (t103 : Slc) (w102 : World), (∀ t, rn Try.prog (Builtin.append_ #[22, 22] t #[(Slc.mk (some p100) 0 0).v, a1.v]) t103.v w99 w102) ∧
  CellsAt w102 p94 16 t96 ∧ ∃ (t106 : Slc) (w105 : World), (∀ t, rn Try.prog (Builtin.append_ #[22, 22] t #[t103.v, (Slc.sub ⟨some p97, 16, 16⟩ 1 0 16 16).v]) t106.v w102 w105) ∧
  CellsAt w105 p94 16 t96 ∧ C7 r6 t96 s73.2 Slc.nil t106 w105 fun r109 r110 w108 =>
  jn (fun (v113 : Unit) w114 =>
  newV 22 #[r109.v] w114 fun p120 w119 =>
  ∃ (t122 : Slc) (w121 : World), (∀ t, rn Try.prog (Builtin.append_ #[30, 30] t #[s73.1.v, (Slc.mk (some p120) 1 1).v]) t122.v w119 w121) ∧
  J87 t122 w121) fun J115 =>
  ifM (r110 != 0)
  (K (decide ((a1.len : Int) > 65520)) w108)
  (J115 () w108)) fun J81 =>
  ifM (decide ((IntKind.i64.wrap (s73.2 + 1)) < (IntKind.i64.wrap (2 + (bitsZ .and .i64 a0 15)))))
  (J81 () w74)
  (J35 s73.1 w74)) (Slc.nil, 0) w26) fun J27 =>
  C6 r6 a1 Slc.nil w20 fun r132 w131 =>
  ifM r132
  (K true w131)
  (J27 () w131)) fun J21 =>
  Lp (fun (s137 : Slc × Int) N139 w138 =>
  jn (fun (v143 : Unit) w144 =>
  jn (fun (v149 : Slc) w150 =>
  N139 (v149, IntKind.i64.wrap (s137.2 + 1)) w150) fun J151 =>
  C5 r6 w144 fun r158 w157 =>
  newV 27 #[.int .u8 0, .int .u8 0, .int .u8 0, .int .u8 0, .int .u8 0, .int .u8 0, .int .u8 0, .int .u8 0, .int .u8 0, .int .u8 0, .int .u8 0, .int .u8 0, .int .u8 0, .int .u8 0, .int .u8 0, .int .u8 0] w157 fun p159 w160 =>
  stA 16 p159 r158 w160 fun w161 =>
  jn (fun (v164 : Unit) w165 =>
  ldA 16 p159 w165 fun t170 =>
  ∃ (t172 : Slc) (w171 : World), rn Try.prog (Instr.buildSlice 25 1 ([(0, .agg t170)] : List (Nat × Value)).toArray) t172.v w165 w171 ∧
  ∃ (t174 : Slc) (w173 : World), (∀ t, rn Try.prog (Builtin.append_ #[25, 25] t #[s137.1.v, t172.v]) t174.v w171 w173) ∧
  J151 t174 w173) fun J166 =>
  Lp (fun (s177 : Int) N179 w178 =>
  jn (fun (v183 : Unit) w184 =>
  jn (fun (v189 : Unit) w190 =>
  N179 (IntKind.i64.wrap (s177 + 1)) w190) fun J191 =>
  drw w184 fun w197 =>
  idx 16 s137.1 s177 fun p198 =>
  ldA 16 p198 w197 fun t200 =>
  ldA 16 p159 w197 fun t201 =>
  ∃ t202 : Bool, (∀ w, rn Try.prog (Op.equal 27 (.agg t200) (.agg t201)) t202 w w) ∧
  ifM t202
  (K false w197)
  (J191 () w197)) fun J185 =>
  ifM (decide (s177 < (s137.1.len : Int)))
  (J185 () w178)
  (J166 () w178)) 0 w161) fun J145 =>
  ifM (decide (s137.2 < (IntKind.i64.wrap (2 + (bitsZ .and .i64 a0 15)))))
  (J145 () w138)
  (J21 s137.1 w138)) (Slc.nil, 0) w10) fun J11 =>
  ifM r6.isNone
  (K false w5)
  (J11 () w5)

/-- (*caravel/vault.spy).read -/
def C16 (a0 : Option Addr) (a1 : Slc) (w : World) (K : World → Prop) : Prop := CallsV Try.prog 16 #[.pointer a0, a1.v] w fun v w' => v = .tuple #[] ∧ K w'
theorem C16.mono {a0 : Option Addr} {a1 : Slc} {w : World} {K : World → Prop} (h : C16 a0 a1 w K) {K' : World → Prop} (hk : ∀ w', K  w' → K'  w') : C16 a0 a1 w K' :=
  CallsV.mono h fun v w' ⟨e, h⟩ => ⟨e, hk w' h⟩
def sh16 (a0 : Option Addr) (a1 : Slc) (w : World) (K : World → Prop) : Prop :=
  Lp (fun (s3 : Int) N5 w4 =>
  jn (fun (v9 : Unit) w10 =>
  jn (fun (v15 : Unit) w16 =>
  N5 (IntKind.i64.wrap (s3 + 1)) w16) fun J17 =>
  drw w10 fun w23 =>
  nn a0 fun p24 =>
  ldP p24 w23 fun t25 =>
  nn t25 fun p26 =>
  ldM (p26.add 2) w23 fun t27 =>
  0 ≤ s3 ∧ s3 ≤ IntKind.i64.wrap (s3 + 16) ∧ IntKind.i64.wrap (s3 + 16) ≤ (a1.cap : Int) ∧ 
  (16 ≤ (a1.sub 1 s3.toNat ((IntKind.i64.wrap (s3 + 16)).toNat) a1.cap).len) ∧ nn ((a1.sub 1 s3.toNat ((IntKind.i64.wrap (s3 + 16)).toNat) a1.cap).a) fun p32 =>
  ldA 16 p32 w23 fun t31 =>
  ∃ (t33 : Int) (t34 : Bool), rn Try.prog (Instr.lookup 37 (.map t27) (.agg t31) true) (.tuple #[.int .i64 t33, .bool t34]) w23 w23 ∧
  ifM t34
  (nn a0 fun p39 =>
  ldL (p39.add 1) w23 fun t40 =>
  idx 1 t40 t33 fun p41 =>
  stV p41 (.bool true) w23 fun w43 =>
  J17 () w43)
  (J17 () w23)) fun J11 =>
  ifM (decide ((IntKind.i64.wrap (s3 + 16)) ≤ (a1.len : Int)))
  (J11 () w4)
  (K w4)) 0 w

/-- (*caravel/vault.spy).reaches -/
def C17 (a0 : Option Addr) (a1 : Array Value) (w : World) (K : Bool → World → Prop) : Prop := CallsV Try.prog 17 #[.pointer a0, .agg a1] w fun v w' => ∃ (r0 : Bool), v = .bool r0 ∧ K r0 w'
theorem C17.mono {a0 : Option Addr} {a1 : Array Value} {w : World} {K : Bool → World → Prop} (h : C17 a0 a1 w K) {K' : Bool → World → Prop} (hk : ∀ r0 w', K r0 w' → K' r0 w') : C17 a0 a1 w K' :=
  CallsV.mono h fun v w' ⟨r0, e, h⟩ => ⟨r0, e, hk _ w' h⟩
def sh17 (a0 : Option Addr) (a1 : Array Value) (w : World) (K : Bool → World → Prop) : Prop :=
  newV 43 a1 w fun p3 w4 =>
  jn (fun (v7 : Unit) w8 =>
  K false w8) fun J9 =>
  ldI .i64 p3 w4 fun t15 =>
  jn (fun (v18 : Bool) w19 =>
  ifM v18
  (drw w19 fun w24 =>
  nn a0 fun p25 =>
  ldL (p25.add 1) w24 fun t26 =>
  ldI .i64 (p3.add 1) w24 fun t27 =>
  idx 1 t26 t27 fun p28 =>
  ldB p28 w24 fun t30 =>
  K t30 w24)
  (ifM (t15 == 4)
  (drw w19 fun w35 =>
  jn (fun (v36 : Bool) w37 =>
  K v36 w37) fun J38 =>
  nn a0 fun p40 =>
  ldL (p40.add 1) w35 fun t41 =>
  ldI .i64 (p3.add 1) w35 fun t42 =>
  idx 1 t41 t42 fun p43 =>
  ldB p43 w35 fun t45 =>
  ifM t45
  (J38 true w35)
  (nn a0 fun p47 =>
  ldL (p47.add 1) w35 fun t48 =>
  ldI .i64 (p3.add 2) w35 fun t49 =>
  idx 1 t48 t49 fun p50 =>
  ldB p50 w35 fun t52 =>
  J38 t52 w35))
  (J9 () w19))) fun J20 =>
  ifM (t15 == 2)
  (J20 (t15 == 2) w4)
  (ifM (t15 == 3)
  (J20 (t15 == 3) w4)
  (J20 (t15 == 5) w4))

/-- (*caravel/vault.Vault).knows$1 -/
def C15 (c0 : Option Addr) (c1 : Option Addr) (c2 : Option Addr) (w : World) (K : Bool → World → Prop) : Prop := CallsV Try.prog 15 #[.pointer c0, .pointer c1, .pointer c2] w fun v w' => ∃ (r0 : Bool), v = .bool r0 ∧ K r0 w'
theorem C15.mono {c0 : Option Addr} {c1 : Option Addr} {c2 : Option Addr} {w : World} {K : Bool → World → Prop} (h : C15 c0 c1 c2 w K) {K' : Bool → World → Prop} (hk : ∀ r0 w', K r0 w' → K' r0 w') : C15 c0 c1 c2 w K' :=
  CallsV.mono h fun v w' ⟨r0, e, h⟩ => ⟨r0, e, hk _ w' h⟩
def sh15 (c0 : Option Addr) (c1 : Option Addr) (c2 : Option Addr) (w : World) (K : Bool → World → Prop) : Prop :=
  jn (fun (v5 : Unit) w6 =>
  nn c0 fun p12 =>
  ldP p12 w6 fun t11 =>
  nn t11 fun p13 =>
  stV (p13.add 2) (Slc.nil.v) w6 fun w14 =>
  jn (fun (v19 : Bool) w20 =>
  K v19 w20) fun J21 =>
  nn c1 fun p28 =>
  ldP p28 w14 fun t27 =>
  nn t27 fun p29 =>
  ldL p29 w14 fun t30 =>
  Lp (fun (s31 : Bool × Int) N33 w32 =>
  jn (fun (v39 : Unit) w40 =>
  jn (fun (v45 : Bool) w46 =>
  N33 (v45, IntKind.i64.wrap (s31.2 + 1)) w46) fun J47 =>
  idx 7 t30 s31.2 fun p53 =>
  ldA 7 p53 w40 fun t55 =>
  newV 43 #[.int .i64 0, .int .i64 0, .int .i64 0, .int .i64 0, .string (⟨#[]⟩ : ByteArray), .string (⟨#[]⟩ : ByteArray), .string (⟨#[]⟩ : ByteArray)] w40 fun p56 w57 =>
  stA 7 p56 t55 w57 fun w58 =>
  jn (fun (v61 : Bool) w62 =>
  drw w62 fun w67 =>
  jn (fun (v68 : Bool) w69 =>
  ifM v68
  (nn c2 fun p75 =>
  ldL p75 w69 fun t74 =>
  idx 1 t74 s31.2 fun p76 =>
  stV p76 (.bool true) w69 fun w78 =>
  drw w78 fun w81 =>
  nn c0 fun p83 =>
  ldP p83 w81 fun t82 =>
  nn c0 fun p85 =>
  ldP p85 w81 fun t84 =>
  nn t84 fun p86 =>
  ldL (p86.add 2) w81 fun t87 =>
  ldS (p56.add 6) w81 fun t88 =>
  ∃ (t89 : Slc) (w90 : World), rn Try.prog (convert 9 22 (.string t88)) t89.v w81 w90 ∧
  World.cell? w90 (p86.add 2) = some (t87.v) ∧ World.cell? w90 p85 = some (.pointer t84) ∧ World.cell? w90 p83 = some (.pointer t82) ∧ newV 22 #[t89.v] w90 fun p95 w94 =>
  World.cell? w94 (p86.add 2) = some (t87.v) ∧ World.cell? w94 p85 = some (.pointer t84) ∧ World.cell? w94 p83 = some (.pointer t82) ∧ ∃ (t100 : Slc) (w99 : World), (∀ t, rn Try.prog (Builtin.append_ #[30, 30] t #[t87.v, (Slc.mk (some p95) 1 1).v]) t100.v w94 w99) ∧
  World.cell? w99 p83 = some (.pointer t82) ∧ nn t82 fun p102 =>
  stV (p102.add 2) (t100.v) w99 fun w103 =>
  J47 true w103)
  (J47 v61 w69)) fun J70 =>
  ldI .i64 p56 w67 fun t104 =>
  ifM (t104 == 6)
  (nn c0 fun p107 =>
  ldP p107 w67 fun t106 =>
  nn t106 fun p108 =>
  ldL (p108.add 1) w67 fun t109 =>
  idx 1 t109 s31.2 fun p110 =>
  ldB p110 w67 fun t112 =>
  ifM t112
  (nn c0 fun p115 =>
  ldP p115 w67 fun t114 =>
  nn t114 fun p116 =>
  ldL (p116.add 1) w67 fun t117 =>
  ldI .i64 (p56.add 1) w67 fun t118 =>
  idx 1 t117 t118 fun p119 =>
  ldB p119 w67 fun t121 =>
  ifM t121
  (nn c2 fun p124 =>
  ldL p124 w67 fun t123 =>
  idx 1 t123 s31.2 fun p125 =>
  ldB p125 w67 fun t127 =>
  J70 (!t127) w67)
  (J70 false w67))
  (J70 false w67))
  (J70 false w67)) fun J63 =>
  jn (fun (v130 : Bool) w131 =>
  ifM v130
  (nn c0 fun p137 =>
  ldP p137 w131 fun t136 =>
  nn t136 fun p138 =>
  ldL (p138.add 1) w131 fun t139 =>
  idx 1 t139 s31.2 fun p140 =>
  stV p140 (.bool true) w131 fun w142 =>
  J63 true w142)
  (J63 s31.1 w131)) fun J132 =>
  nn c0 fun p144 =>
  ldP p144 w58 fun t143 =>
  nn t143 fun p145 =>
  ldL (p145.add 1) w58 fun t146 =>
  idx 1 t146 s31.2 fun p147 =>
  ldB p147 w58 fun t149 =>
  ifM (!t149)
  (nn c0 fun p152 =>
  ldP p152 w58 fun t151 =>
  ldA 7 p56 w58 fun t153 =>
  C17 t151 t153 w58 fun r155 w154 =>
  J132 r155 w154)
  (J132 false w58)) fun J41 =>
  ifM (decide (s31.2 < (t30.len : Int)))
  (J41 () w32)
  (J21 s31.1 w32)) (false, 0) w14) fun J7 =>
  nn c0 fun p159 =>
  ldP p159 w fun t158 =>
  nn t158 fun p160 =>
  ldL (p160.add 2) w fun t161 =>
  Lp (fun (s162 : Int) N164 w163 =>
  jn (fun (v170 : Unit) w171 =>
  jn (fun (v176 : Unit) w177 =>
  N164 (IntKind.i64.wrap (s162 + 1)) w177) fun J178 =>
  idx 1 t161 s162 fun p184 =>
  ldL p184 w171 fun t186 =>
  nn c0 fun p190 =>
  ldP p190 w171 fun t189 =>
  C16 t189 t186 w171 fun w191 =>
  J178 () w191) fun J172 =>
  ifM (decide (s162 < (t161.len : Int)))
  (J172 () w163)
  (J7 () w163)) 0 w

end Go.Proofs.Ytkehoneadedmhaa
