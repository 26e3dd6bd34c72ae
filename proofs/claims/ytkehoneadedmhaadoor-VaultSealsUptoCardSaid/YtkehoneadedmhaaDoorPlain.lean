/-
  Printed by a program: the plain texts of the functions, and their ties to the code.
-/
import Derived.Test.YtkehoneadedmhaaDoorProg
import Derived.Test.YtkehoneadedmhaaDoorSh3
import Derived.KernelRfl
namespace Go.Proofs.YtkehoneadedmhaaDoor
open Go Go.Sh
set_option linter.unusedVariables false
set_option linter.unusedSimpArgs false
theorem mo : Tryd.prog.follows .mixedOrders = true := by kernel_rfl
def Z94 : Array Value := #[.bool false, .bool false, .bool false, .bool false, .bool false, .bool false, .bool false, .bool false, .bool false, .bool false, .bool false, .bool false, .bool false, .bool false, .bool false, .bool false, .bool false, .bool false, .bool false, .bool false, .bool false, .bool false, .bool false, .bool false, .bool false, .bool false, .bool false, .bool false, .bool false, .bool false, .bool false, .bool false, .bool false, .bool false, .bool false, .bool false, .bool false, .bool false, .bool false, .bool false, .bool false, .bool false, .bool false, .bool false, .bool false, .bool false, .bool false, .bool false, .bool false, .bool false, .bool false, .bool false, .bool false, .bool false, .bool false, .bool false, .bool false, .bool false, .bool false, .bool false, .bool false, .bool false, .bool false, .bool false, .bool false, .bool false, .bool false, .bool false, .bool false, .bool false, .bool false, .bool false, .bool false, .bool false, .bool false, .bool false, .bool false, .bool false, .bool false, .bool false, .bool false, .bool false, .bool false, .bool false, .bool false, .bool false, .bool false, .bool false, .bool false, .bool false, .bool false, .bool false, .bool false, .bool false, .bool false, .bool false, .bool false, .bool false, .bool false, .bool false, .bool false, .bool false, .bool false, .bool false, .bool false, .bool false, .bool false, .bool false, .bool false, .bool false, .bool false, .bool false, .bool false, .bool false, .bool false, .bool false, .bool false, .bool false, .bool false, .bool false, .bool false, .bool false, .bool false, .bool false, .bool false, .bool false, .bool false, .bool false, .bool false, .bool false, .bool false, .bool false, .bool false, .bool false, .bool false, .bool false, .bool false, .bool false, .bool false, .bool false, .bool false, .bool false, .bool false, .bool false, .bool false, .bool false, .bool false, .bool false, .bool false, .bool false, .bool false, .bool false, .bool false, .bool false, .bool false, .bool false, .bool false, .bool false, .bool false, .bool false, .bool false, .bool false, .bool false, .bool false, .bool false, .bool false, .bool false, .bool false, .bool false, .bool false, .bool false, .bool false, .bool false, .bool false, .bool false, .bool false, .bool false, .bool false, .bool false, .bool false, .bool false, .bool false, .bool false, .bool false, .bool false, .bool false, .bool false, .bool false, .bool false, .bool false, .bool false, .bool false, .bool false, .bool false, .bool false, .bool false, .bool false, .bool false, .bool false, .bool false, .bool false, .bool false, .bool false, .bool false, .bool false, .bool false, .bool false, .bool false, .bool false, .bool false, .bool false, .bool false, .bool false, .bool false, .bool false, .bool false, .bool false, .bool false, .bool false, .bool false, .bool false, .bool false, .bool false, .bool false, .bool false, .bool false, .bool false, .bool false, .bool false, .bool false, .bool false, .bool false, .bool false, .bool false, .bool false, .bool false, .bool false, .bool false, .bool false, .bool false, .bool false, .bool false, .bool false, .bool false, .bool false, .bool false, .bool false, .bool false, .bool false, .bool false, .bool false, .bool false, .bool false, .bool false, .bool false, .bool false]
theorem zeroV94 (w : World) : (zeroValue 94).run Tryd.prog w = .ok (.agg Z94) w := by kernel_rfl
/-- caravel/vault.mix -/
def C56 (a0 : Int) (w : World) (K : Int → World → Prop) : Prop := CallsV Tryd.prog 56 #[.int .u64 a0] w fun v w' => ∃ (r0 : Int), v = .int .u64 r0 ∧ K r0 w'
theorem C56.mono {a0 : Int} {w : World} {K : Int → World → Prop} (h : C56 a0 w K) {K' : Int → World → Prop} (hk : ∀ r0 w', K r0 w' → K' r0 w') : C56 a0 w K' :=
  CallsV.mono h fun v w' ⟨r0, e, h⟩ => ⟨r0, e, hk _ w' h⟩
def sh56 (a0 : Int) (w : World) (K : Int → World → Prop) : Prop :=
  K (bitsZ .xor .u64 (IntKind.u64.wrap ((bitsZ .xor .u64 (IntKind.u64.wrap ((bitsZ .xor .u64 (IntKind.u64.wrap ((IntKind.u64.wrap (a0 + 1)) * 11400714819323198485)) (shrZ .u64 (IntKind.u64.wrap ((IntKind.u64.wrap (a0 + 1)) * 11400714819323198485)) 30)) * 13787848793156543929)) (shrZ .u64 (IntKind.u64.wrap ((bitsZ .xor .u64 (IntKind.u64.wrap ((IntKind.u64.wrap (a0 + 1)) * 11400714819323198485)) (shrZ .u64 (IntKind.u64.wrap ((IntKind.u64.wrap (a0 + 1)) * 11400714819323198485)) 30)) * 13787848793156543929)) 27)) * 10723151780598845931)) (shrZ .u64 (IntKind.u64.wrap ((bitsZ .xor .u64 (IntKind.u64.wrap ((bitsZ .xor .u64 (IntKind.u64.wrap ((IntKind.u64.wrap (a0 + 1)) * 11400714819323198485)) (shrZ .u64 (IntKind.u64.wrap ((IntKind.u64.wrap (a0 + 1)) * 11400714819323198485)) 30)) * 13787848793156543929)) (shrZ .u64 (IntKind.u64.wrap ((bitsZ .xor .u64 (IntKind.u64.wrap ((IntKind.u64.wrap (a0 + 1)) * 11400714819323198485)) (shrZ .u64 (IntKind.u64.wrap ((IntKind.u64.wrap (a0 + 1)) * 11400714819323198485)) 30)) * 13787848793156543929)) 27)) * 10723151780598845931)) 31)) w

/-- caravel/vault.name -/
def C21 (a0 : Int) (w : World) (K : Array Value → World → Prop) : Prop := CallsV Tryd.prog 21 #[.int .i64 a0] w fun v w' => ∃ (r0 : Array Value), v = .agg r0 ∧ K r0 w'
theorem C21.mono {a0 : Int} {w : World} {K : Array Value → World → Prop} (h : C21 a0 w K) {K' : Array Value → World → Prop} (hk : ∀ r0 w', K r0 w' → K' r0 w') : C21 a0 w K' :=
  CallsV.mono h fun v w' ⟨r0, e, h⟩ => ⟨r0, e, hk _ w' h⟩
def sh21 (a0 : Int) (w : World) (K : Array Value → World → Prop) : Prop :=
  newV 26 #[.int .u8 0, .int .u8 0, .int .u8 0, .int .u8 0, .int .u8 0, .int .u8 0, .int .u8 0, .int .u8 0, .int .u8 0, .int .u8 0, .int .u8 0, .int .u8 0, .int .u8 0, .int .u8 0, .int .u8 0, .int .u8 0] w fun p3 w4 =>
  jn (fun (v7 : Unit) w8 =>
  ldA 16 p3 w8 fun t13 =>
  stA 16 p3 t13 w8 fun w14 =>
  ldA 16 p3 w14 fun t15 =>
  K t15 w14) fun J9 =>
  Lp (fun (s18 : Int) N20 w19 =>
  jn (fun (v26 : Unit) w27 =>
  jn (fun (v32 : Unit) w33 =>
  N20 (IntKind.i64.wrap (s18 + 1)) w33) fun J34 =>
  C56 (IntKind.u64.wrap (IntKind.i64.wrap ((IntKind.i64.wrap (2 * a0)) + s18))) w27 fun r43 w42 =>
  Lp (fun (s46 : Int) N48 w47 =>
  jn (fun (v54 : Unit) w55 =>
  jn (fun (v60 : Unit) w61 =>
  N48 (IntKind.i64.wrap (s46 + 1)) w61) fun J62 =>
  0 ≤ IntKind.i64.wrap (56 - (IntKind.i64.wrap (8 * s46))) ∧ idxA 1 16 p3 (IntKind.i64.wrap ((IntKind.i64.wrap (8 * s18)) + s46)) fun p70 =>
  stV p70 (.int .u8 (IntKind.u8.wrap (shrZ .u64 r43 (IntKind.i64.wrap (56 - (IntKind.i64.wrap (8 * s46))))))) w55 fun w71 =>
  J62 () w71) fun J56 =>
  ifM (decide (s46 < 8))
  (J56 () w47)
  (J34 () w47)) 0 w42) fun J28 =>
  ifM (decide (s18 < 2))
  (J28 () w19)
  (J9 () w19)) 0 w4

/-- (*caravel/vault.Vault).make -/
def C16 (a0 : Option Addr) (a1 : Array Value) (w : World) (K : Array Value → World → Prop) : Prop := CallsV Tryd.prog 16 #[.pointer a0, .agg a1] w fun v w' => ∃ (r0 : Array Value), v = .agg r0 ∧ K r0 w'
theorem C16.mono {a0 : Option Addr} {a1 : Array Value} {w : World} {K : Array Value → World → Prop} (h : C16 a0 a1 w K) {K' : Array Value → World → Prop} (hk : ∀ r0 w', K r0 w' → K' r0 w') : C16 a0 a1 w K' :=
  CallsV.mono h fun v w' ⟨r0, e, h⟩ => ⟨r0, e, hk _ w' h⟩
def sh16 (a0 : Option Addr) (a1 : Array Value) (w : World) (K : Array Value → World → Prop) : Prop :=
  newV 55 a1 w fun p3 w4 =>
  newV 26 #[.int .u8 0, .int .u8 0, .int .u8 0, .int .u8 0, .int .u8 0, .int .u8 0, .int .u8 0, .int .u8 0, .int .u8 0, .int .u8 0, .int .u8 0, .int .u8 0, .int .u8 0, .int .u8 0, .int .u8 0, .int .u8 0] w4 fun p5 w6 =>
  jn (fun (v9 : Unit) w10 =>
  nn a0 fun p15 =>
  ldL p15 w10 fun t16 =>
  drw w10 fun w19 =>
  nn a0 fun p20 =>
  ldL p20 w19 fun t21 =>
  ldA 7 p3 w19 fun t22 =>
  ∃ (t24 : Slc) (w23 : World), rn Tryd.prog (Instr.buildSlice 50 1 ([(0, .agg t22)] : List (Nat × Value)).toArray) t24.v w19 w23 ∧
  World.cell? w23 p20 = some (t21.v) ∧ ∃ (t27 : Slc) (w26 : World), (∀ t, rn Tryd.prog (Builtin.append_ #[50, 50] t #[t21.v, t24.v]) t27.v w23 w26) ∧
  nn a0 fun p28 =>
  stV p28 (t27.v) w26 fun w29 =>
  drw w29 fun w32 =>
  nn a0 fun p33 =>
  ldM (p33.add 1) w32 fun t34 =>
  ldA 7 p3 w32 fun t35 =>
  ∃ w36 : World, rn Tryd.prog (Instr.mapUpdate 48 (.map t34) (.agg t35) (.int .i64 (t16.len : Int))) () w32 w36 ∧
  drw w36 fun w39 =>
  nn a0 fun p40 =>
  ldM (p40.add 2) w39 fun t41 =>
  C21 (t16.len : Int) w39 fun r43 w42 =>
  World.cell? w42 (p40.add 2) = some (.map t41) ∧ ∃ w45 : World, rn Tryd.prog (Instr.mapUpdate 49 (.map t41) (.agg r43) (.int .i64 (t16.len : Int))) () w42 w45 ∧
  C21 (t16.len : Int) w45 fun r49 w48 =>
  stA 16 p5 r49 w48 fun w50 =>
  ldA 16 p5 w50 fun t51 =>
  K t51 w50) fun J11 =>
  drw w6 fun w54 =>
  nn a0 fun p55 =>
  ldM (p55.add 1) w54 fun t56 =>
  ldA 7 p3 w54 fun t57 =>
  ∃ (t58 : Int) (t59 : Bool), rn Tryd.prog (Instr.lookup 48 (.map t56) (.agg t57) true) (.tuple #[.int .i64 t58, .bool t59]) w54 w54 ∧
  jn (fun (v62 : Bool) w63 =>
  ifM v62
  (C21 t58 w63 fun r69 w68 =>
  stA 16 p5 r69 w68 fun w70 =>
  ldA 16 p5 w70 fun t71 =>
  K t71 w70)
  (J11 () w63)) fun J64 =>
  ifM t59
  (ldI .i64 p3 w54 fun t73 =>
  J64 (t73 != 1) w54)
  (J64 false w54)

/-- caravel/vault.New -/
def C5 (w : World) (K : Option Addr → World → Prop) : Prop := CallsV Tryd.prog 5 #[] w fun v w' => ∃ (r0 : Option Addr), v = .pointer r0 ∧ K r0 w'
theorem C5.mono {w : World} {K : Option Addr → World → Prop} (h : C5 w K) {K' : Option Addr → World → Prop} (hk : ∀ r0 w', K r0 w' → K' r0 w') : C5 w K' :=
  CallsV.mono h fun v w' ⟨r0, e, h⟩ => ⟨r0, e, hk _ w' h⟩
def sh5 (w : World) (K : Option Addr → World → Prop) : Prop :=
  newM w fun m5 w6 =>
  newM w6 fun m7 w8 =>
  newV 52 #[Slc.nil.v, .map m5, .map m7] w8 fun p9 w10 =>
  C16 (some p9) (#[.int .i64 0, .int .i64 0, .int .i64 0, .int .i64 0, .string (⟨#[]⟩ : ByteArray), .string (⟨#[]⟩ : ByteArray), .string (⟨#[]⟩ : ByteArray)]) w10 fun r14 w13 =>
  K (some p9) w13

/-- (*caravel/vault.Vault).none -/
def C17 (a0 : Option Addr) (w : World) (K : Bool → World → Prop) : Prop := CallsV Tryd.prog 17 #[.pointer a0] w fun v w' => ∃ (r0 : Bool), v = .bool r0 ∧ K r0 w'
theorem C17.mono {a0 : Option Addr} {w : World} {K : Bool → World → Prop} (h : C17 a0 w K) {K' : Bool → World → Prop} (hk : ∀ r0 w', K r0 w' → K' r0 w') : C17 a0 w K' :=
  CallsV.mono h fun v w' ⟨r0, e, h⟩ => ⟨r0, e, hk _ w' h⟩
def sh17 (a0 : Option Addr) (w : World) (K : Bool → World → Prop) : Prop :=
  jn (fun (v5 : Bool) w6 =>
  K v5 w6) fun J7 =>
  ifM a0.isNone
  (J7 true w)
  (nn a0 fun p10 =>
  ldM (p10.add 2) w fun t11 =>
  J7 t11.isNone w)

/-- (*caravel/vault.Vault).Fresh -/
def C6 (a0 : Option Addr) (w : World) (K : Array Value → World → Prop) : Prop := CallsV Tryd.prog 6 #[.pointer a0] w fun v w' => ∃ (r0 : Array Value), v = .agg r0 ∧ K r0 w'
theorem C6.mono {a0 : Option Addr} {w : World} {K : Array Value → World → Prop} (h : C6 a0 w K) {K' : Array Value → World → Prop} (hk : ∀ r0 w', K r0 w' → K' r0 w') : C6 a0 w K' :=
  CallsV.mono h fun v w' ⟨r0, e, h⟩ => ⟨r0, e, hk _ w' h⟩
def sh6 (a0 : Option Addr) (w : World) (K : Array Value → World → Prop) : Prop :=
  newV 26 #[.int .u8 0, .int .u8 0, .int .u8 0, .int .u8 0, .int .u8 0, .int .u8 0, .int .u8 0, .int .u8 0, .int .u8 0, .int .u8 0, .int .u8 0, .int .u8 0, .int .u8 0, .int .u8 0, .int .u8 0, .int .u8 0] w fun p3 w4 =>
  jn (fun (v7 : Unit) w8 =>
  C16 a0 (#[.int .i64 1, .int .i64 0, .int .i64 0, .int .i64 0, .string (⟨#[]⟩ : ByteArray), .string (⟨#[]⟩ : ByteArray), .string (⟨#[]⟩ : ByteArray)]) w8 fun r14 w13 =>
  stA 16 p3 r14 w13 fun w15 =>
  ldA 16 p3 w15 fun t16 =>
  K t16 w15) fun J9 =>
  C17 a0 w4 fun r20 w19 =>
  ifM r20
  (stA 16 p3 (#[.int .u8 0, .int .u8 0, .int .u8 0, .int .u8 0, .int .u8 0, .int .u8 0, .int .u8 0, .int .u8 0, .int .u8 0, .int .u8 0, .int .u8 0, .int .u8 0, .int .u8 0, .int .u8 0, .int .u8 0, .int .u8 0]) w19 fun w23 =>
  ldA 16 p3 w23 fun t24 =>
  K t24 w23)
  (J9 () w19)

/-- (*caravel/vault.Vault).Seal -/
def C7 (a0 : Option Addr) (a1 : Array Value) (a2 : Int) (a3 : Slc) (a4 : Slc) (w : World) (K : Slc → Int → World → Prop) : Prop := CallsV Tryd.prog 7 #[.pointer a0, .agg a1, .int .i64 a2, a3.v, a4.v] w fun v w' => ∃ (r0 : Slc) (r1 : Int), v = .tuple #[r0.v, .int .i64 r1] ∧ K r0 r1 w'
theorem C7.mono {a0 : Option Addr} {a1 : Array Value} {a2 : Int} {a3 : Slc} {a4 : Slc} {w : World} {K : Slc → Int → World → Prop} (h : C7 a0 a1 a2 a3 a4 w K) {K' : Slc → Int → World → Prop} (hk : ∀ r0 r1 w', K r0 r1 w' → K' r0 r1 w') : C7 a0 a1 a2 a3 a4 w K' :=
  CallsV.mono h fun v w' ⟨r0, r1, e, h⟩ => ⟨r0, r1, e, hk _ _ w' h⟩
def sh7 (a0 : Option Addr) (a1 : Array Value) (a2 : Int) (a3 : Slc) (a4 : Slc) (w : World) (K : Slc → Int → World → Prop) : Prop :=
  newV 26 a1 w fun p3 w4 =>
  jn (fun (v7 : Unit) w8 =>
  drw w8 fun w13 =>
  nn a0 fun p14 =>
  ldM (p14.add 2) w13 fun t15 =>
  ldA 16 p3 w13 fun t16 =>
  ∃ (t17 : Int) (t18 : Bool), rn Tryd.prog (Instr.lookup 49 (.map t15) (.agg t16) true) (.tuple #[.int .i64 t17, .bool t18]) w13 w13 ∧
  jn (fun (v21 : Unit) w22 =>
  ∃ t27, rn Tryd.prog (convert 22 9 a3.v) (.string t27) w22 w22 ∧ 
  ∃ t28, rn Tryd.prog (convert 22 9 a4.v) (.string t28) w22 w22 ∧ 
  C16 a0 (#[.int .i64 6, .int .i64 t17, .int .i64 0, .int .i64 a2, .string (⟨#[]⟩ : ByteArray), .string t27, .string t28]) w22 fun r30 w29 =>
  newV 26 #[.int .u8 0, .int .u8 0, .int .u8 0, .int .u8 0, .int .u8 0, .int .u8 0, .int .u8 0, .int .u8 0, .int .u8 0, .int .u8 0, .int .u8 0, .int .u8 0, .int .u8 0, .int .u8 0, .int .u8 0, .int .u8 0] w29 fun p31 w32 =>
  stA 16 p31 r30 w32 fun w33 =>
  drw w33 fun w36 =>
  ∃ (t37 : Slc) (w38 : World), rn Tryd.prog (Instr.makeSlice 22 (.int .i64 (a4.len : Int)) (.int .i64 (a4.len : Int))) t37.v w36 w38 ∧
  ∃ (t40 : Slc) (w39 : World), (∀ t, rn Tryd.prog (Builtin.append_ #[22, 22] t #[t37.v, (Slc.sub ⟨some p31, 16, 16⟩ 1 0 16 16).v]) t40.v w38 w39) ∧
  K t40 0 w39) fun J23 =>
  ifM (!t18)
  (K Slc.nil 15 w13)
  (ifM (decide (a2 < 0))
  (K Slc.nil 2 w13)
  (ifM (decide ((a4.len : Int) > 65536))
  (K Slc.nil 3 w13)
  (J23 () w13)))) fun J9 =>
  C17 a0 w4 fun r56 w55 =>
  ifM r56
  (K Slc.nil 1 w55)
  (J9 () w55)

/-- bytes.trimRightByte -/
def C45 (a0 : Slc) (a1 : Int) (w : World) (K : Slc → World → Prop) : Prop := CallsV Tryd.prog 45 #[a0.v, .int .u8 a1] w fun v w' => ∃ (r0 : Slc), v = r0.v ∧ K r0 w'
theorem C45.mono {a0 : Slc} {a1 : Int} {w : World} {K : Slc → World → Prop} (h : C45 a0 a1 w K) {K' : Slc → World → Prop} (hk : ∀ r0 w', K r0 w' → K' r0 w') : C45 a0 a1 w K' :=
  CallsV.mono h fun v w' ⟨r0, e, h⟩ => ⟨r0, e, hk _ w' h⟩
def sh45 (a0 : Slc) (a1 : Int) (w : World) (K : Slc → World → Prop) : Prop :=
  jn (fun (v5 : Slc) w6 =>
  K v5 w6) fun J7 =>
  Lp (fun (s11 : Slc) N13 w12 =>
  jn (fun (v17 : Unit) w18 =>
  0 ≤ IntKind.i64.wrap ((s11.len : Int) - 1) ∧ IntKind.i64.wrap ((s11.len : Int) - 1) ≤ (s11.cap : Int) ∧ 
  N13 (s11.sub 1 0 ((IntKind.i64.wrap ((s11.len : Int) - 1)).toNat) s11.cap) w18) fun J19 =>
  jn (fun (v27 : Bool) w28 =>
  ifM v27
  (J19 () w28)
  (J7 s11 w28)) fun J29 =>
  ifM (decide ((s11.len : Int) > 0))
  (idx 1 s11 (IntKind.i64.wrap ((s11.len : Int) - 1)) fun p32 =>
  ldI .u8 p32 w12 fun t34 =>
  J29 (t34 == a1) w12)
  (J29 false w12)) a0 w

/-- bytes.trimLeftByte -/
def C44 (a0 : Slc) (a1 : Int) (w : World) (K : Slc → World → Prop) : Prop := CallsV Tryd.prog 44 #[a0.v, .int .u8 a1] w fun v w' => ∃ (r0 : Slc), v = r0.v ∧ K r0 w'
theorem C44.mono {a0 : Slc} {a1 : Int} {w : World} {K : Slc → World → Prop} (h : C44 a0 a1 w K) {K' : Slc → World → Prop} (hk : ∀ r0 w', K r0 w' → K' r0 w') : C44 a0 a1 w K' :=
  CallsV.mono h fun v w' ⟨r0, e, h⟩ => ⟨r0, e, hk _ w' h⟩
def sh44 (a0 : Slc) (a1 : Int) (w : World) (K : Slc → World → Prop) : Prop :=
  jn (fun (v5 : Slc) w6 =>
  jn (fun (v11 : Unit) w12 =>
  K v5 w12) fun J13 =>
  ifM ((v5.len : Int) == 0)
  (K Slc.nil w6)
  (J13 () w6)) fun J7 =>
  Lp (fun (s21 : Slc) N23 w22 =>
  jn (fun (v27 : Unit) w28 =>
  (0 : Int) ≤ 1 ∧ 1 ≤ (s21.len : Int) ∧ 
  N23 (s21.sub 1 1 s21.len s21.cap) w28) fun J29 =>
  jn (fun (v37 : Bool) w38 =>
  ifM v37
  (J29 () w38)
  (J7 s21 w38)) fun J39 =>
  ifM (decide ((s21.len : Int) > 0))
  (idx 1 s21 0 fun p42 =>
  ldI .u8 p42 w22 fun t44 =>
  J39 (t44 == a1) w22)
  (J39 false w22)) a0 w

/-- bytes.makeASCIISet -/
def C46 (a0 : ByteArray) (w : World) (K : Array Value → Bool → World → Prop) : Prop := CallsV Tryd.prog 46 #[.string a0] w fun v w' => ∃ (r0 : Array Value) (r1 : Bool), v = .tuple #[.agg r0, .bool r1] ∧ K r0 r1 w'
theorem C46.mono {a0 : ByteArray} {w : World} {K : Array Value → Bool → World → Prop} (h : C46 a0 w K) {K' : Array Value → Bool → World → Prop} (hk : ∀ r0 r1 w', K r0 r1 w' → K' r0 r1 w') : C46 a0 w K' :=
  CallsV.mono h fun v w' ⟨r0, r1, e, h⟩ => ⟨r0, r1, e, hk _ _ w' h⟩

/-- bytes.trimRightASCII -/
def C48 (a0 : Slc) (a1 : Option Addr) (w : World) (K : Slc → World → Prop) : Prop := CallsV Tryd.prog 48 #[a0.v, .pointer a1] w fun v w' => ∃ (r0 : Slc), v = r0.v ∧ K r0 w'
theorem C48.mono {a0 : Slc} {a1 : Option Addr} {w : World} {K : Slc → World → Prop} (h : C48 a0 a1 w K) {K' : Slc → World → Prop} (hk : ∀ r0 w', K r0 w' → K' r0 w') : C48 a0 a1 w K' :=
  CallsV.mono h fun v w' ⟨r0, e, h⟩ => ⟨r0, e, hk _ w' h⟩

/-- bytes.trimLeftASCII -/
def C47 (a0 : Slc) (a1 : Option Addr) (w : World) (K : Slc → World → Prop) : Prop := CallsV Tryd.prog 47 #[a0.v, .pointer a1] w fun v w' => ∃ (r0 : Slc), v = r0.v ∧ K r0 w'
theorem C47.mono {a0 : Slc} {a1 : Option Addr} {w : World} {K : Slc → World → Prop} (h : C47 a0 a1 w K) {K' : Slc → World → Prop} (hk : ∀ r0 w', K r0 w' → K' r0 w') : C47 a0 a1 w K' :=
  CallsV.mono h fun v w' ⟨r0, e, h⟩ => ⟨r0, e, hk _ w' h⟩

/-- bytes.trimRightUnicode -/
def C50 (a0 : Slc) (a1 : ByteArray) (w : World) (K : Slc → World → Prop) : Prop := CallsV Tryd.prog 50 #[a0.v, .string a1] w fun v w' => ∃ (r0 : Slc), v = r0.v ∧ K r0 w'
theorem C50.mono {a0 : Slc} {a1 : ByteArray} {w : World} {K : Slc → World → Prop} (h : C50 a0 a1 w K) {K' : Slc → World → Prop} (hk : ∀ r0 w', K r0 w' → K' r0 w') : C50 a0 a1 w K' :=
  CallsV.mono h fun v w' ⟨r0, e, h⟩ => ⟨r0, e, hk _ w' h⟩

/-- bytes.trimLeftUnicode -/
def C49 (a0 : Slc) (a1 : ByteArray) (w : World) (K : Slc → World → Prop) : Prop := CallsV Tryd.prog 49 #[a0.v, .string a1] w fun v w' => ∃ (r0 : Slc), v = r0.v ∧ K r0 w'
theorem C49.mono {a0 : Slc} {a1 : ByteArray} {w : World} {K : Slc → World → Prop} (h : C49 a0 a1 w K) {K' : Slc → World → Prop} (hk : ∀ r0 w', K r0 w' → K' r0 w') : C49 a0 a1 w K' :=
  CallsV.mono h fun v w' ⟨r0, e, h⟩ => ⟨r0, e, hk _ w' h⟩

/-- bytes.Trim -/
def C18 (a0 : Slc) (a1 : ByteArray) (w : World) (K : Slc → World → Prop) : Prop := CallsV Tryd.prog 18 #[a0.v, .string a1] w fun v w' => ∃ (r0 : Slc), v = r0.v ∧ K r0 w'
theorem C18.mono {a0 : Slc} {a1 : ByteArray} {w : World} {K : Slc → World → Prop} (h : C18 a0 a1 w K) {K' : Slc → World → Prop} (hk : ∀ r0 w', K r0 w' → K' r0 w') : C18 a0 a1 w K' :=
  CallsV.mono h fun v w' ⟨r0, e, h⟩ => ⟨r0, e, hk _ w' h⟩
def sh18 (a0 : Slc) (a1 : ByteArray) (w : World) (K : Slc → World → Prop) : Prop :=
  jn (fun (v5 : Unit) w6 =>
  jn (fun (v11 : Unit) w12 =>
  jn (fun (v17 : Unit) w18 =>
  jn (fun (v23 : Unit) w24 =>
  C50 a0 a1 w24 fun r30 w29 =>
  C49 r30 a1 w29 fun r32 w31 =>
  K r32 w31) fun J25 =>
  C46 a1 w18 fun r36 r37 w35 =>
  newV 94 Z94 w35 fun p38 w39 =>
  stA 256 p38 r36 w39 fun w40 =>
  ifM r37
  (C48 a0 (some p38) w40 fun r46 w45 =>
  C47 r46 (some p38) w45 fun r48 w47 =>
  K r48 w47)
  (J25 () w40)) fun J19 =>
  jn (fun (v51 : Bool) w52 =>
  ifM v51
  (drw w52 fun w57 =>
  0 ≤ (0 : Int) ∧ ∃ (hi_ : (0 : Int).toNat < a1.size), lt ((a1[(0 : Int).toNat]'hi_).toNat : Int) fun t58 =>
  0 ≤ (0 : Int) ∧ ∃ (hi_ : (0 : Int).toNat < a1.size), lt ((a1[(0 : Int).toNat]'hi_).toNat : Int) fun t59 =>
  C45 a0 t58 w57 fun r61 w60 =>
  C44 r61 t59 w60 fun r63 w62 =>
  K r63 w62)
  (J19 () w52)) fun J53 =>
  ifM ((a1.size : Int) == 1)
  (0 ≤ (0 : Int) ∧ ∃ (hi_ : (0 : Int).toNat < a1.size), lt ((a1[(0 : Int).toNat]'hi_).toNat : Int) fun t65 =>
  J53 (decide (t65 < 128)) w12)
  (J53 false w12)) fun J13 =>
  ifM (a1.toList == (⟨#[]⟩ : ByteArray).toList)
  (K a0 w6)
  (J13 () w6)) fun J7 =>
  ifM ((a0.len : Int) == 0)
  (K Slc.nil w)
  (J7 () w)

/-- (*caravel/vault.Vault).Open -/
def C8 (a0 : Option Addr) (a1 : Array Value) (a2 : Int) (a3 : Slc) (a4 : Slc) (w : World) (K : Slc → Int → World → Prop) : Prop := CallsV Tryd.prog 8 #[.pointer a0, .agg a1, .int .i64 a2, a3.v, a4.v] w fun v w' => ∃ (r0 : Slc) (r1 : Int), v = .tuple #[r0.v, .int .i64 r1] ∧ K r0 r1 w'
theorem C8.mono {a0 : Option Addr} {a1 : Array Value} {a2 : Int} {a3 : Slc} {a4 : Slc} {w : World} {K : Slc → Int → World → Prop} (h : C8 a0 a1 a2 a3 a4 w K) {K' : Slc → Int → World → Prop} (hk : ∀ r0 r1 w', K r0 r1 w' → K' r0 r1 w') : C8 a0 a1 a2 a3 a4 w K' :=
  CallsV.mono h fun v w' ⟨r0, r1, e, h⟩ => ⟨r0, r1, e, hk _ _ w' h⟩
def sh8 (a0 : Option Addr) (a1 : Array Value) (a2 : Int) (a3 : Slc) (a4 : Slc) (w : World) (K : Slc → Int → World → Prop) : Prop :=
  newV 26 a1 w fun p3 w4 =>
  jn (fun (v7 : Unit) w8 =>
  drw w8 fun w13 =>
  nn a0 fun p14 =>
  ldM (p14.add 2) w13 fun t15 =>
  ldA 16 p3 w13 fun t16 =>
  ∃ (t17 : Int) (t18 : Bool), rn Tryd.prog (Instr.lookup 49 (.map t15) (.agg t16) true) (.tuple #[.int .i64 t17, .bool t18]) w13 w13 ∧
  jn (fun (v23 : Unit) w24 =>
  drw w24 fun w29 =>
  nn a0 fun p30 =>
  ldM (p30.add 2) w29 fun t31 =>
  0 ≤ IntKind.i64.wrap ((a4.len : Int) - 16) ∧ IntKind.i64.wrap ((a4.len : Int) - 16) ≤ (a4.len : Int) ∧ 
  (16 ≤ (a4.sub 1 ((IntKind.i64.wrap ((a4.len : Int) - 16)).toNat) a4.len a4.cap).len) ∧ nn ((a4.sub 1 ((IntKind.i64.wrap ((a4.len : Int) - 16)).toNat) a4.len a4.cap).a) fun p35 =>
  ldA 16 p35 w29 fun t34 =>
  ∃ (t36 : Int) (t37 : Bool), rn Tryd.prog (Instr.lookup 49 (.map t31) (.agg t34) true) (.tuple #[.int .i64 t36, .bool t37]) w29 w29 ∧
  jn (fun (v40 : Unit) w41 =>
  nn a0 fun p46 =>
  ldL p46 w41 fun t47 =>
  idx 7 t47 t36 fun p48 =>
  ldA 7 p48 w41 fun t50 =>
  newV 55 #[.int .i64 0, .int .i64 0, .int .i64 0, .int .i64 0, .string (⟨#[]⟩ : ByteArray), .string (⟨#[]⟩ : ByteArray), .string (⟨#[]⟩ : ByteArray)] w41 fun p51 w52 =>
  stA 7 p51 t50 w52 fun w53 =>
  ∃ t56, rn Tryd.prog (convert 22 9 a3.v) (.string t56) w53 w53 ∧ 
  ldS (p51.add 6) w53 fun t57 =>
  newV 55 #[.int .i64 0, .int .i64 0, .int .i64 0, .int .i64 0, .string (⟨#[]⟩ : ByteArray), .string (⟨#[]⟩ : ByteArray), .string (⟨#[]⟩ : ByteArray)] w53 fun p58 w59 =>
  stA 7 p58 (#[.int .i64 6, .int .i64 t17, .int .i64 0, .int .i64 a2, .string (⟨#[]⟩ : ByteArray), .string t56, .string t57]) w59 fun w60 =>
  jn (fun (v63 : Unit) w64 =>
  ldS (p51.add 6) w64 fun t69 =>
  ∃ (t70 : Slc) (w71 : World), rn Tryd.prog (convert 9 22 (.string t69)) t70.v w64 w71 ∧
  K t70 0 w71) fun J65 =>
  jn (fun (v74 : Bool) w75 =>
  ifM v74
  (K Slc.nil 20 w75)
  (J65 () w75)) fun J76 =>
  ldA 7 p51 w60 fun t80 =>
  ldA 7 p58 w60 fun t81 =>
  ∃ t82 : Bool, (∀ w, rn Tryd.prog (Op.equal 55 (.agg t80) (.agg t81)) t82 w w) ∧
  ifM (!t82)
  (J76 true w60)
  (ldS (p51.add 6) w60 fun t84 =>
  ifM ((t84.size : Int) != (IntKind.i64.wrap ((a4.len : Int) - 16)))
  (J76 true w60)
  (0 ≤ IntKind.i64.wrap ((a4.len : Int) - 16) ∧ IntKind.i64.wrap ((a4.len : Int) - 16) ≤ (a4.cap : Int) ∧ 
  C18 (a4.sub 1 0 ((IntKind.i64.wrap ((a4.len : Int) - 16)).toNat) a4.cap) (⟨#[0]⟩ : ByteArray) w60 fun r89 w88 =>
  J76 (decide ((r89.len : Int) > 0)) w88))) fun J42 =>
  ifM (!t37)
  (K Slc.nil 20 w29)
  (J42 () w29)) fun J25 =>
  ifM (!t18)
  (K Slc.nil 15 w13)
  (ifM (decide (a2 < 0))
  (K Slc.nil 2 w13)
  (ifM (decide ((IntKind.i64.wrap ((a4.len : Int) - 16)) < 0))
  (K Slc.nil 20 w13)
  (J25 () w13)))) fun J9 =>
  C17 a0 w4 fun r109 w108 =>
  ifM r109
  (K Slc.nil 1 w108)
  (J9 () w108)

/-- slices.Clone[[][]byte,[]byte] -/
def C51 (a0 : Slc) (w : World) (K : Slc → World → Prop) : Prop := CallsV Tryd.prog 51 #[a0.v] w fun v w' => ∃ (r0 : Slc), v = r0.v ∧ K r0 w'
theorem C51.mono {a0 : Slc} {w : World} {K : Slc → World → Prop} (h : C51 a0 w K) {K' : Slc → World → Prop} (hk : ∀ r0 w', K r0 w' → K' r0 w') : C51 a0 w K' :=
  CallsV.mono h fun v w' ⟨r0, e, h⟩ => ⟨r0, e, hk _ w' h⟩
def sh51 (a0 : Slc) (w : World) (K : Slc → World → Prop) : Prop :=
  jn (fun (v5 : Unit) w6 =>
  newV 22 #[] w6 fun p12 w11 =>
  ∃ (t14 : Slc) (w13 : World), (∀ t, rn Tryd.prog (Builtin.append_ #[31, 31] t #[(Slc.mk (some p12) 0 0).v, a0.v]) t14.v w11 w13) ∧
  K t14 w13) fun J7 =>
  ifM a0.a.isNone
  (K Slc.nil w)
  (J7 () w)

/-- (*caravel/vault.Vault).knows -/
def C19 (a0 : Option Addr) (a1 : Slc) (w : World) (K : Option Addr → World → Prop) : Prop := CallsV Tryd.prog 19 #[.pointer a0, a1.v] w fun v w' => ∃ (r0 : Option Addr), v = .pointer r0 ∧ K r0 w'
theorem C19.mono {a0 : Option Addr} {a1 : Slc} {w : World} {K : Option Addr → World → Prop} (h : C19 a0 a1 w K) {K' : Option Addr → World → Prop} (hk : ∀ r0 w', K r0 w' → K' r0 w') : C19 a0 a1 w K' :=
  CallsV.mono h fun v w' ⟨r0, e, h⟩ => ⟨r0, e, hk _ w' h⟩
def sh19 (a0 : Option Addr) (a1 : Slc) (w : World) (K : Option Addr → World → Prop) : Prop :=
  newV 23 #[.pointer a0] w fun p3 w4 =>
  drw w4 fun w7 =>
  jn (fun (v8 : Option Addr) w9 =>
  nn v8 fun p15 =>
  ldP p15 w9 fun t14 =>
  nn t14 fun p16 =>
  ldL (p16.add 1) w9 fun t17 =>
  idx 1 t17 0 fun p18 =>
  stV p18 (.bool true) w9 fun w20 =>
  ldP p3 w20 fun t23 =>
  nn t23 fun p24 =>
  ldL p24 w20 fun t25 =>
  ∃ (t26 : Slc) (w27 : World), rn Tryd.prog (Instr.makeSlice 60 (.int .i64 (t25.len : Int)) (.int .i64 (t25.len : Int))) t26.v w20 w27 ∧
  newV 60 #[Slc.nil.v] w27 fun p28 w29 =>
  stV p28 (t26.v) w29 fun w30 =>
  jn (fun (v35 : Unit) w36 =>
  nn v8 fun p42 =>
  ldP p42 w36 fun t41 =>
  K t41 w36) fun J37 =>
  Lp (fun (s43 : Unit) N45 w44 =>
  jn (fun (v49 : Unit) w50 =>
  N45 () w50) fun J51 =>
  ∃ f57 x58 y59, (Value.func (Fn.func 52) #[] #[.pointer v8, .pointer (some p3), .pointer (some p28)]) = .func (.func f57) x58 y59 ∧ (∀ args w, (callFunc f57 args).run Tryd.prog w = .ok (.enter f57 args) w) ∧ CallsV Tryd.prog f57 (x58 ++ #[] ++ y59) w44 fun v_ w55 => ∃ (r56 : Bool), v_ = .bool r56 ∧ 
  ifM r56
  (J51 () w55)
  (J37 () w55)) () w30) fun J10 =>
  ldP p3 w7 fun t60 =>
  ldP p3 w7 fun t61 =>
  nn t61 fun p62 =>
  ldL p62 w7 fun t63 =>
  (∃ (t67 : Slc) (w68 : World), rn Tryd.prog (Instr.makeSlice 60 (.int .i64 (t63.len : Int)) (.int .i64 (t63.len : Int))) t67.v w7 w68 ∧
  World.cell? w68 p3 = some (.pointer t60) ∧ (C51 a1 w68 fun r73 w72 =>
  World.cell? w72 p3 = some (.pointer t60) ∧ (newV 62 #[.pointer t60, t67.v, r73.v] w72 fun p77 w78 =>
  newV 58 #[.pointer none] w78 fun p79 w80 =>
  stV p79 (.pointer (some p77)) w80 fun w81 =>
  J10 (some p79) w81) ∧
  (newV 58 #[.pointer none] w72 fun p82 w83 =>
  World.cell? w83 p3 = some (.pointer t60) ∧ newV 62 #[.pointer t60, t67.v, r73.v] w83 fun p85 w86 =>
  stV p82 (.pointer (some p85)) w86 fun w87 =>
  J10 (some p82) w87)) ∧
  (newV 58 #[.pointer none] w68 fun p88 w89 =>
  World.cell? w89 p3 = some (.pointer t60) ∧ C51 a1 w89 fun r92 w91 =>
  World.cell? w91 p3 = some (.pointer t60) ∧ newV 62 #[.pointer t60, t67.v, r92.v] w91 fun p94 w95 =>
  stV p88 (.pointer (some p94)) w95 fun w96 =>
  J10 (some p88) w96)) ∧
  (C51 a1 w7 fun r98 w97 =>
  World.cell? w97 p62 = some (t63.v) ∧ World.cell? w97 p3 = some (.pointer t61) ∧ World.cell? w97 p3 = some (.pointer t60) ∧ (∃ (t104 : Slc) (w105 : World), rn Tryd.prog (Instr.makeSlice 60 (.int .i64 (t63.len : Int)) (.int .i64 (t63.len : Int))) t104.v w97 w105 ∧
  World.cell? w105 p3 = some (.pointer t60) ∧ (newV 62 #[.pointer t60, t104.v, r98.v] w105 fun p109 w110 =>
  newV 58 #[.pointer none] w110 fun p111 w112 =>
  stV p111 (.pointer (some p109)) w112 fun w113 =>
  J10 (some p111) w113) ∧
  (newV 58 #[.pointer none] w105 fun p114 w115 =>
  World.cell? w115 p3 = some (.pointer t60) ∧ newV 62 #[.pointer t60, t104.v, r98.v] w115 fun p117 w118 =>
  stV p114 (.pointer (some p117)) w118 fun w119 =>
  J10 (some p114) w119)) ∧
  (newV 58 #[.pointer none] w97 fun p120 w121 =>
  World.cell? w121 p62 = some (t63.v) ∧ World.cell? w121 p3 = some (.pointer t61) ∧ World.cell? w121 p3 = some (.pointer t60) ∧ ∃ (t125 : Slc) (w126 : World), rn Tryd.prog (Instr.makeSlice 60 (.int .i64 (t63.len : Int)) (.int .i64 (t63.len : Int))) t125.v w121 w126 ∧
  World.cell? w126 p3 = some (.pointer t60) ∧ newV 62 #[.pointer t60, t125.v, r98.v] w126 fun p128 w129 =>
  stV p120 (.pointer (some p128)) w129 fun w130 =>
  J10 (some p120) w130)) ∧
  (newV 58 #[.pointer none] w7 fun p131 w132 =>
  World.cell? w132 p62 = some (t63.v) ∧ World.cell? w132 p3 = some (.pointer t61) ∧ World.cell? w132 p3 = some (.pointer t60) ∧ (∃ (t138 : Slc) (w139 : World), rn Tryd.prog (Instr.makeSlice 60 (.int .i64 (t63.len : Int)) (.int .i64 (t63.len : Int))) t138.v w132 w139 ∧
  World.cell? w139 p3 = some (.pointer t60) ∧ C51 a1 w139 fun r142 w141 =>
  World.cell? w141 p3 = some (.pointer t60) ∧ newV 62 #[.pointer t60, t138.v, r142.v] w141 fun p144 w145 =>
  stV p131 (.pointer (some p144)) w145 fun w146 =>
  J10 (some p131) w146) ∧
  (C51 a1 w132 fun r148 w147 =>
  World.cell? w147 p62 = some (t63.v) ∧ World.cell? w147 p3 = some (.pointer t61) ∧ World.cell? w147 p3 = some (.pointer t60) ∧ ∃ (t152 : Slc) (w153 : World), rn Tryd.prog (Instr.makeSlice 60 (.int .i64 (t63.len : Int)) (.int .i64 (t63.len : Int))) t152.v w147 w153 ∧
  World.cell? w153 p3 = some (.pointer t60) ∧ newV 62 #[.pointer t60, t152.v, r148.v] w153 fun p155 w156 =>
  stV p131 (.pointer (some p155)) w156 fun w157 =>
  J10 (some p131) w157))

/-- (*caravel/vault.Vault).Spied -/
def C9 (a0 : Option Addr) (a1 : Slc) (w : World) (K : Slc → World → Prop) : Prop := CallsV Tryd.prog 9 #[.pointer a0, a1.v] w fun v w' => ∃ (r0 : Slc), v = r0.v ∧ K r0 w'
theorem C9.mono {a0 : Option Addr} {a1 : Slc} {w : World} {K : Slc → World → Prop} (h : C9 a0 a1 w K) {K' : Slc → World → Prop} (hk : ∀ r0 w', K r0 w' → K' r0 w') : C9 a0 a1 w K' :=
  CallsV.mono h fun v w' ⟨r0, e, h⟩ => ⟨r0, e, hk _ w' h⟩
def sh9 (a0 : Option Addr) (a1 : Slc) (w : World) (K : Slc → World → Prop) : Prop :=
  jn (fun (v5 : Unit) w6 =>
  C19 a0 a1 w6 fun r12 w11 =>
  jn (fun (v17 : Slc) w18 =>
  K v17 w18) fun J19 =>
  nn a0 fun p25 =>
  ldL p25 w11 fun t26 =>
  Lp (fun (s27 : Slc × Int) N29 w28 =>
  jn (fun (v35 : Unit) w36 =>
  jn (fun (v41 : Slc) w42 =>
  N29 (v41, IntKind.i64.wrap (s27.2 + 1)) w42) fun J43 =>
  idx 7 t26 s27.2 fun p49 =>
  ldA 7 p49 w36 fun t51 =>
  newV 55 #[.int .i64 0, .int .i64 0, .int .i64 0, .int .i64 0, .string (⟨#[]⟩ : ByteArray), .string (⟨#[]⟩ : ByteArray), .string (⟨#[]⟩ : ByteArray)] w36 fun p52 w53 =>
  stA 7 p52 t51 w53 fun w54 =>
  drw w54 fun w57 =>
  jn (fun (v58 : Bool) w59 =>
  ifM v58
  (ldS (p52.add 6) w59 fun t64 =>
  ∃ (t65 : Slc) (w66 : World), rn Tryd.prog (convert 9 22 (.string t64)) t65.v w59 w66 ∧
  newV 22 #[t65.v] w66 fun p68 w67 =>
  ∃ (t70 : Slc) (w69 : World), (∀ t, rn Tryd.prog (Builtin.append_ #[31, 31] t #[s27.1.v, (Slc.mk (some p68) 1 1).v]) t70.v w67 w69) ∧
  J43 t70 w69)
  (J43 s27.1 w59)) fun J60 =>
  ldI .i64 p52 w57 fun t71 =>
  ifM (t71 == 6)
  (nn r12 fun p73 =>
  ldL (p73.add 1) w57 fun t74 =>
  idx 1 t74 s27.2 fun p75 =>
  ldB p75 w57 fun t77 =>
  ifM t77
  (nn r12 fun p79 =>
  ldL (p79.add 1) w57 fun t80 =>
  ldI .i64 (p52.add 1) w57 fun t81 =>
  idx 1 t80 t81 fun p82 =>
  ldB p82 w57 fun t84 =>
  J60 t84 w57)
  (J60 false w57))
  (J60 false w57)) fun J37 =>
  ifM (decide (s27.2 < (t26.len : Int)))
  (J37 () w28)
  (J19 s27.1 w28)) (Slc.nil, 0) w11) fun J7 =>
  C17 a0 w fun r88 w87 =>
  ifM r88
  (K Slc.nil w87)
  (J7 () w87)

/-- caravel/vault.unmix -/
def C55 (a0 : Int) (w : World) (K : Int → World → Prop) : Prop := CallsV Tryd.prog 55 #[.int .u64 a0] w fun v w' => ∃ (r0 : Int), v = .int .u64 r0 ∧ K r0 w'
theorem C55.mono {a0 : Int} {w : World} {K : Int → World → Prop} (h : C55 a0 w K) {K' : Int → World → Prop} (hk : ∀ r0 w', K r0 w' → K' r0 w') : C55 a0 w K' :=
  CallsV.mono h fun v w' ⟨r0, e, h⟩ => ⟨r0, e, hk _ w' h⟩
def sh55 (a0 : Int) (w : World) (K : Int → World → Prop) : Prop :=
  K (IntKind.u64.wrap ((IntKind.u64.wrap ((bitsZ .xor .u64 (bitsZ .xor .u64 (IntKind.u64.wrap ((bitsZ .xor .u64 (bitsZ .xor .u64 (IntKind.u64.wrap ((bitsZ .xor .u64 (bitsZ .xor .u64 a0 (shrZ .u64 a0 31)) (shrZ .u64 a0 62)) * 3573116690164977347)) (shrZ .u64 (IntKind.u64.wrap ((bitsZ .xor .u64 (bitsZ .xor .u64 a0 (shrZ .u64 a0 31)) (shrZ .u64 a0 62)) * 3573116690164977347)) 27)) (shrZ .u64 (IntKind.u64.wrap ((bitsZ .xor .u64 (bitsZ .xor .u64 a0 (shrZ .u64 a0 31)) (shrZ .u64 a0 62)) * 3573116690164977347)) 54)) * 10871156337175269513)) (shrZ .u64 (IntKind.u64.wrap ((bitsZ .xor .u64 (bitsZ .xor .u64 (IntKind.u64.wrap ((bitsZ .xor .u64 (bitsZ .xor .u64 a0 (shrZ .u64 a0 31)) (shrZ .u64 a0 62)) * 3573116690164977347)) (shrZ .u64 (IntKind.u64.wrap ((bitsZ .xor .u64 (bitsZ .xor .u64 a0 (shrZ .u64 a0 31)) (shrZ .u64 a0 62)) * 3573116690164977347)) 27)) (shrZ .u64 (IntKind.u64.wrap ((bitsZ .xor .u64 (bitsZ .xor .u64 a0 (shrZ .u64 a0 31)) (shrZ .u64 a0 62)) * 3573116690164977347)) 54)) * 10871156337175269513)) 30)) (shrZ .u64 (IntKind.u64.wrap ((bitsZ .xor .u64 (bitsZ .xor .u64 (IntKind.u64.wrap ((bitsZ .xor .u64 (bitsZ .xor .u64 a0 (shrZ .u64 a0 31)) (shrZ .u64 a0 62)) * 3573116690164977347)) (shrZ .u64 (IntKind.u64.wrap ((bitsZ .xor .u64 (bitsZ .xor .u64 a0 (shrZ .u64 a0 31)) (shrZ .u64 a0 62)) * 3573116690164977347)) 27)) (shrZ .u64 (IntKind.u64.wrap ((bitsZ .xor .u64 (bitsZ .xor .u64 a0 (shrZ .u64 a0 31)) (shrZ .u64 a0 62)) * 3573116690164977347)) 54)) * 10871156337175269513)) 60)) * 17428512612931826493)) - 1)) w

/-- caravel/vault.isName -/
def C20 (a0 : Array Value) (w : World) (K : Bool → World → Prop) : Prop := CallsV Tryd.prog 20 #[.agg a0] w fun v w' => ∃ (r0 : Bool), v = .bool r0 ∧ K r0 w'
theorem C20.mono {a0 : Array Value} {w : World} {K : Bool → World → Prop} (h : C20 a0 w K) {K' : Bool → World → Prop} (hk : ∀ r0 w', K r0 w' → K' r0 w') : C20 a0 w K' :=
  CallsV.mono h fun v w' ⟨r0, e, h⟩ => ⟨r0, e, hk _ w' h⟩
def sh20 (a0 : Array Value) (w : World) (K : Bool → World → Prop) : Prop :=
  newV 26 a0 w fun p3 w4 =>
  newV 101 #[.int .u64 0, .int .u64 0] w4 fun p7 w8 =>
  jn (fun (v11 : Unit) w12 =>
  idxA 1 2 p7 0 fun p17 =>
  ldI .u64 p17 w12 fun t18 =>
  C55 t18 w12 fun r20 w19 =>
  drw w19 fun w23 =>
  jn (fun (v24 : Bool) w25 =>
  K v24 w25) fun J26 =>
  ifM ((r20.tmod 2) == 0)
  (idxA 1 2 p7 1 fun p29 =>
  ldI .u64 p29 w23 fun t30 =>
  C56 (IntKind.u64.wrap (r20 + 1)) w23 fun r32 w31 =>
  World.cell? w31 p29 = some (.int .u64 t30) ∧ J26 (r32 == t30) w31)
  (J26 false w23)) fun J13 =>
  ldA 16 p3 w8 fun t36 =>
  Lp (fun (s37 : Int) N39 w38 =>
  jn (fun (v45 : Unit) w46 =>
  jn (fun (v51 : Unit) w52 =>
  N39 (IntKind.i64.wrap (s37 + 1)) w52) fun J53 =>
  0 ≤ s37 ∧ s37 < 16 ∧ fI .u8 t36 (s37.toNat * 1) fun t59 =>
  idxA 1 2 p7 (IntKind.i64.wrap (s37.tdiv 8)) fun p62 =>
  ldI .u64 p62 w46 fun t63 =>
  idxA 1 2 p7 (IntKind.i64.wrap (s37.tdiv 8)) fun p64 =>
  stV p64 (.int .u64 (bitsZ .or .u64 (shlZ .u64 t63 8) (IntKind.u64.wrap t59))) w46 fun w65 =>
  J53 () w65) fun J47 =>
  ifM (decide (s37 < 16))
  (J47 () w38)
  (J13 () w38)) 0 w8

/-- (*caravel/vault.Vault).Hidden -/
def C10 (a0 : Option Addr) (a1 : Slc) (a2 : Slc) (w : World) (K : Bool → World → Prop) : Prop := CallsV Tryd.prog 10 #[.pointer a0, a1.v, a2.v] w fun v w' => ∃ (r0 : Bool), v = .bool r0 ∧ K r0 w'
theorem C10.mono {a0 : Option Addr} {a1 : Slc} {a2 : Slc} {w : World} {K : Bool → World → Prop} (h : C10 a0 a1 a2 w K) {K' : Bool → World → Prop} (hk : ∀ r0 w', K r0 w' → K' r0 w') : C10 a0 a1 a2 w K' :=
  CallsV.mono h fun v w' ⟨r0, e, h⟩ => ⟨r0, e, hk _ w' h⟩
def sh10 (a0 : Option Addr) (a1 : Slc) (a2 : Slc) (w : World) (K : Bool → World → Prop) : Prop :=
  jn (fun (v5 : Unit) w6 =>
  C19 a0 a2 w6 fun r12 w11 =>
  jn (fun (v15 : Unit) w16 =>
  K false w16) fun J17 =>
  Lp (fun (s23 : Int) N25 w24 =>
  jn (fun (v29 : Unit) w30 =>
  jn (fun (v35 : Unit) w36 =>
  N25 (IntKind.i64.wrap (s23 + 1)) w36) fun J37 =>
  0 ≤ s23 ∧ s23 ≤ IntKind.i64.wrap (s23 + 16) ∧ IntKind.i64.wrap (s23 + 16) ≤ (a1.cap : Int) ∧ 
  (16 ≤ (a1.sub 1 s23.toNat ((IntKind.i64.wrap (s23 + 16)).toNat) a1.cap).len) ∧ nn ((a1.sub 1 s23.toNat ((IntKind.i64.wrap (s23 + 16)).toNat) a1.cap).a) fun p47 =>
  ldA 16 p47 w30 fun t46 =>
  newV 26 #[.int .u8 0, .int .u8 0, .int .u8 0, .int .u8 0, .int .u8 0, .int .u8 0, .int .u8 0, .int .u8 0, .int .u8 0, .int .u8 0, .int .u8 0, .int .u8 0, .int .u8 0, .int .u8 0, .int .u8 0, .int .u8 0] w30 fun p48 w49 =>
  stA 16 p48 t46 w49 fun w50 =>
  drw w50 fun w53 =>
  nn a0 fun p54 =>
  ldM (p54.add 2) w53 fun t55 =>
  ldA 16 p48 w53 fun t56 =>
  ∃ (t57 : Int) (t58 : Bool), rn Tryd.prog (Instr.lookup 49 (.map t55) (.agg t56) true) (.tuple #[.int .i64 t57, .bool t58]) w53 w53 ∧
  jn (fun (v61 : Bool) w62 =>
  ifM v61
  (K true w62)
  (J37 () w62)) fun J63 =>
  ifM t58
  (nn r12 fun p68 =>
  ldL (p68.add 1) w53 fun t69 =>
  idx 1 t69 t57 fun p70 =>
  ldB p70 w53 fun t72 =>
  ifM (!t72)
  (J63 true w53)
  (ifM (!t58)
  (ldA 16 p48 w53 fun t75 =>
  C20 t75 w53 fun r77 w76 =>
  J63 r77 w76)
  (J63 false w53)))
  (ifM (!t58)
  (ldA 16 p48 w53 fun t79 =>
  C20 t79 w53 fun r81 w80 =>
  J63 r81 w80)
  (J63 false w53))) fun J31 =>
  ifM (decide ((IntKind.i64.wrap (s23 + 16)) ≤ (a1.len : Int)))
  (J31 () w24)
  (J17 () w24)) 0 w11) fun J7 =>
  C17 a0 w fun r87 w86 =>
  ifM r87
  (K false w86)
  (J7 () w86)

/-- caravel/caravellaw09.VaultSeals -/
def C3 (a0 : Slc) (a1 : Slc) (a2 : Int) (w : World) (K : Bool → World → Prop) : Prop := CallsV Tryd.prog 3 #[a0.v, a1.v, .int .i64 a2] w fun v w' => ∃ (r0 : Bool), v = .bool r0 ∧ K r0 w'
theorem C3.mono {a0 : Slc} {a1 : Slc} {a2 : Int} {w : World} {K : Bool → World → Prop} (h : C3 a0 a1 a2 w K) {K' : Bool → World → Prop} (hk : ∀ r0 w', K r0 w' → K' r0 w') : C3 a0 a1 a2 w K' :=
  CallsV.mono h fun v w' ⟨r0, e, h⟩ => ⟨r0, e, hk _ w' h⟩
def sh3 (a0 : Slc) (a1 : Slc) (a2 : Int) (w : World) (K : Bool → World → Prop) : Prop :=
  C5 w fun r6 w5 =>
  jn (fun (v9 : Unit) w10 =>
  C6 r6 w10 fun r16 w15 =>
  C6 r6 w15 fun r18 w17 =>
  newV 26 #[.int .u8 0, .int .u8 0, .int .u8 0, .int .u8 0, .int .u8 0, .int .u8 0, .int .u8 0, .int .u8 0, .int .u8 0, .int .u8 0, .int .u8 0, .int .u8 0, .int .u8 0, .int .u8 0, .int .u8 0, .int .u8 0] w17 fun p19 w20 =>
  newV 26 #[.int .u8 0, .int .u8 0, .int .u8 0, .int .u8 0, .int .u8 0, .int .u8 0, .int .u8 0, .int .u8 0, .int .u8 0, .int .u8 0, .int .u8 0, .int .u8 0, .int .u8 0, .int .u8 0, .int .u8 0, .int .u8 0] w20 fun p21 w22 =>
  stA 16 p19 r16 w22 fun w23 =>
  stA 16 p21 r18 w23 fun w24 =>
  ldA 16 p19 w24 fun t29 =>
  C7 r6 t29 (bitsZ .and .i64 a2 16777215) a1 a0 w24 fun r31 r32 w30 =>
  jn (fun (v35 : Unit) w36 =>
  ldA 16 p19 w36 fun t41 =>
  C8 r6 t41 (bitsZ .and .i64 a2 16777215) a1 r31 w36 fun r43 r44 w42 =>
  ldA 16 p21 w42 fun t47 =>
  C8 r6 t47 (bitsZ .and .i64 a2 16777215) a1 r31 w42 fun r49 r50 w48 =>
  ldA 16 p19 w48 fun t53 =>
  C8 r6 t53 (IntKind.i64.wrap ((bitsZ .and .i64 a2 16777215) + 1)) a1 r31 w48 fun r55 r56 w54 =>
  drw w54 fun w59 =>
  jn (fun (v60 : Int) w61 =>
  jn (fun (v66 : Unit) w67 =>
  jn (fun (v72 : Unit) w73 =>
  newV 22 #[r31.v, (Slc.sub ⟨some p21, 16, 16⟩ 1 0 16 16).v] w73 fun p79 w78 =>
  C9 r6 (Slc.mk (some p79) 2 2) w78 fun r81 w80 =>
  newV 22 #[r31.v, (Slc.sub ⟨some p19, 16, 16⟩ 1 0 16 16).v] w80 fun p85 w84 =>
  C9 r6 (Slc.mk (some p85) 2 2) w84 fun r87 w86 =>
  drw w86 fun w90 =>
  jn (fun (v91 : Bool) w92 =>
  K v91 w92) fun J93 =>
  ifM ((r81.len : Int) == 0)
  (ifM ((r87.len : Int) == 1)
  (idx 1 r87 0 fun p97 =>
  ldL p97 w90 fun t99 =>
  ∃ t100, rn Tryd.prog (convert 22 9 t99.v) (.string t100) w90 w90 ∧ 
  ∃ t101, rn Tryd.prog (convert 22 9 a0.v) (.string t101) w90 w90 ∧ 
  ifM (t100.toList == t101.toList)
  (newV 22 #[r31.v] w90 fun p104 w103 =>
  C10 r6 (Slc.sub ⟨some p19, 16, 16⟩ 1 0 16 16) (Slc.mk (some p104) 1 1) w103 fun r106 w105 =>
  ifM r106
  (newV 22 #[r31.v] w105 fun p109 w108 =>
  C10 r6 r31 (Slc.mk (some p109) 1 1) w108 fun r111 w110 =>
  J93 (!r111) w110)
  (J93 false w105))
  (J93 false w90))
  (J93 false w90))
  (J93 false w90)) fun J74 =>
  Lp (fun (s114 : Int) N116 w115 =>
  jn (fun (v120 : Unit) w121 =>
  jn (fun (v126 : Unit) w127 =>
  N116 (IntKind.i64.wrap (s114 + 1)) w127) fun J128 =>
  newV 5 #[] w121 fun p135 w134 =>
  ∃ (t137 : Slc) (w136 : World), (∀ t, rn Tryd.prog (Builtin.append_ #[22, 22] t #[(Slc.mk (some p135) 0 0).v, r31.v]) t137.v w134 w136) ∧
  idx 1 t137 s114 fun p140 =>
  ldI .u8 p140 w136 fun t142 =>
  idx 1 t137 s114 fun p143 =>
  stV p143 (.int .u8 (bitsZ .xor .u8 t142 1)) w136 fun w145 =>
  ldA 16 p19 w145 fun t148 =>
  C8 r6 t148 (bitsZ .and .i64 a2 16777215) a1 t137 w145 fun r150 r151 w149 =>
  ifM (r151 != 20)
  (K false w149)
  (J128 () w149)) fun J122 =>
  jn (fun (v158 : Bool) w159 =>
  ifM v158
  (J122 () w159)
  (J74 () w159)) fun J160 =>
  ifM (decide (s114 < (r31.len : Int)))
  (J160 (decide (s114 < 40)) w115)
  (J160 false w115)) 0 w67) fun J68 =>
  jn (fun (v165 : Bool) w166 =>
  ifM v165
  (K false w166)
  (J68 () w166)) fun J167 =>
  ifM (r32 != 0)
  (J167 true w61)
  (ifM (r44 != 0)
  (J167 true w61)
  (∃ t173, rn Tryd.prog (convert 22 9 r43.v) (.string t173) w61 w61 ∧ 
  ∃ t174, rn Tryd.prog (convert 22 9 a0.v) (.string t174) w61 w61 ∧ 
  ifM (!(t173.toList == t174.toList))
  (J167 true w61)
  (ifM ((r31.len : Int) != (IntKind.i64.wrap ((a0.len : Int) + 16)))
  (J167 true w61)
  (ifM (r50 != 20)
  (J167 true w61)
  (ifM (r56 != 20)
  (J167 true w61)
  (J167 (v60 != 20) w61))))))) fun J62 =>
  ldA 16 p19 w59 fun t179 =>
  (newV 5 #[] w59 fun p183 w182 =>
  CellsAt w182 p19 16 t179 ∧ (∃ (t188 : Slc) (w187 : World), (∀ t, rn Tryd.prog (Builtin.append_ #[22, 22] t #[(Slc.mk (some p183) 0 0).v, a1.v]) t188.v w182 w187) ∧
  CellsAt w187 p19 16 t179 ∧ newV 5 #[.int .u8 1] w187 fun p191 w190 =>
  CellsAt w190 p19 16 t179 ∧ ∃ (t194 : Slc) (w193 : World), (∀ t, rn Tryd.prog (Builtin.append_ #[22, 22] t #[t188.v, (Slc.mk (some p191) 1 1).v]) t194.v w190 w193) ∧
  CellsAt w193 p19 16 t179 ∧ C8 r6 t179 (bitsZ .and .i64 a2 16777215) t194 r31 w193 fun r197 r198 w196 =>
  J62 r198 w196) ∧
  (newV 5 #[.int .u8 1] w182 fun p200 w199 =>
  CellsAt w199 p19 16 t179 ∧ ∃ (t203 : Slc) (w202 : World), (∀ t, rn Tryd.prog (Builtin.append_ #[22, 22] t #[(Slc.mk (some p183) 0 0).v, a1.v]) t203.v w199 w202) ∧
  CellsAt w202 p19 16 t179 ∧ ∃ (t206 : Slc) (w205 : World), (∀ t, rn Tryd.prog (Builtin.append_ #[22, 22] t #[t203.v, (Slc.mk (some p200) 1 1).v]) t206.v w202 w205) ∧
  CellsAt w205 p19 16 t179 ∧ C8 r6 t179 (bitsZ .and .i64 a2 16777215) t206 r31 w205 fun r209 r210 w208 =>
  J62 r210 w208)) ∧
  (newV 5 #[.int .u8 1] w59 fun p212 w211 =>
  CellsAt w211 p19 16 t179 ∧ newV 5 #[] w211 fun p215 w214 =>
  CellsAt w214 p19 16 t179 ∧ ∃ (t218 : Slc) (w217 : World), (∀ t, rn Tryd.prog (Builtin.append_ #[22, 22] t #[(Slc.mk (some p215) 0 0).v, a1.v]) t218.v w214 w217) ∧
  CellsAt w217 p19 16 t179 ∧ ∃ (t221 : Slc) (w220 : World), (∀ t, rn Tryd.prog (Builtin.append_ #[22, 22] t #[t218.v, (Slc.mk (some p212) 1 1).v]) t221.v w217 w220) ∧
  CellsAt w220 p19 16 t179 ∧ C8 r6 t179 (bitsZ .and .i64 a2 16777215) t221 r31 w220 fun r224 r225 w223 =>
  J62 r225 w223)) fun J37 =>
  ifM (decide ((a0.len : Int) > 65536))
  (jn (fun (v230 : Bool) w231 =>
  K v230 w231) fun J232 =>
  ifM (r32 == 3)
  (J232 ((r31.len : Int) == 0) w30)
  (J232 false w30))
  (J37 () w30)) fun J11 =>
  ifM r6.isNone
  (K false w5)
  (J11 () w5)

/-- (*caravel/vault.spy).read -/
def C53 (a0 : Option Addr) (a1 : Slc) (w : World) (K : World → Prop) : Prop := CallsV Tryd.prog 53 #[.pointer a0, a1.v] w fun v w' => v = .tuple #[] ∧ K w'
theorem C53.mono {a0 : Option Addr} {a1 : Slc} {w : World} {K : World → Prop} (h : C53 a0 a1 w K) {K' : World → Prop} (hk : ∀ w', K  w' → K'  w') : C53 a0 a1 w K' :=
  CallsV.mono h fun v w' ⟨e, h⟩ => ⟨e, hk w' h⟩
def sh53 (a0 : Option Addr) (a1 : Slc) (w : World) (K : World → Prop) : Prop :=
  Lp (fun (s3 : Int) N5 w4 =>
  jn (fun (v9 : Unit) w10 =>
  jn (fun (v15 : Unit) w16 =>
  N5 (IntKind.i64.wrap (s3 + 1)) w16) fun J17 =>
  drw w10 fun w23 =>
  nn a0 fun p24 =>
  ldP p24 w23 fun t25 =>
  nn t25 fun p26 =>
  ldM (p26.add 2) w23 fun t27 =>
  0 ≤ s3 ∧ s3 ≤ IntKind.i64.wrap (s3 + 16) ∧ IntKind.i64.wrap (s3 + 16) ≤ (a1.cap : Int) ∧ 
  (16 ≤ (a1.sub 1 s3.toNat ((IntKind.i64.wrap (s3 + 16)).toNat) a1.cap).len) ∧ nn ((a1.sub 1 s3.toNat ((IntKind.i64.wrap (s3 + 16)).toNat) a1.cap).a) fun p32 =>
  ldA 16 p32 w23 fun t31 =>
  ∃ (t33 : Int) (t34 : Bool), rn Tryd.prog (Instr.lookup 49 (.map t27) (.agg t31) true) (.tuple #[.int .i64 t33, .bool t34]) w23 w23 ∧
  ifM t34
  (nn a0 fun p39 =>
  ldL (p39.add 1) w23 fun t40 =>
  idx 1 t40 t33 fun p41 =>
  stV p41 (.bool true) w23 fun w43 =>
  J17 () w43)
  (J17 () w23)) fun J11 =>
  ifM (decide ((IntKind.i64.wrap (s3 + 16)) ≤ (a1.len : Int)))
  (J11 () w4)
  (K w4)) 0 w

/-- (*caravel/vault.spy).reaches -/
def C54 (a0 : Option Addr) (a1 : Array Value) (w : World) (K : Bool → World → Prop) : Prop := CallsV Tryd.prog 54 #[.pointer a0, .agg a1] w fun v w' => ∃ (r0 : Bool), v = .bool r0 ∧ K r0 w'
theorem C54.mono {a0 : Option Addr} {a1 : Array Value} {w : World} {K : Bool → World → Prop} (h : C54 a0 a1 w K) {K' : Bool → World → Prop} (hk : ∀ r0 w', K r0 w' → K' r0 w') : C54 a0 a1 w K' :=
  CallsV.mono h fun v w' ⟨r0, e, h⟩ => ⟨r0, e, hk _ w' h⟩
def sh54 (a0 : Option Addr) (a1 : Array Value) (w : World) (K : Bool → World → Prop) : Prop :=
  newV 55 a1 w fun p3 w4 =>
  jn (fun (v7 : Unit) w8 =>
  K false w8) fun J9 =>
  ldI .i64 p3 w4 fun t15 =>
  jn (fun (v18 : Bool) w19 =>
  ifM v18
  (drw w19 fun w24 =>
  nn a0 fun p25 =>
  ldL (p25.add 1) w24 fun t26 =>
  ldI .i64 (p3.add 1) w24 fun t27 =>
  idx 1 t26 t27 fun p28 =>
  ldB p28 w24 fun t30 =>
  K t30 w24)
  (ifM (t15 == 4)
  (drw w19 fun w35 =>
  jn (fun (v36 : Bool) w37 =>
  K v36 w37) fun J38 =>
  nn a0 fun p40 =>
  ldL (p40.add 1) w35 fun t41 =>
  ldI .i64 (p3.add 1) w35 fun t42 =>
  idx 1 t41 t42 fun p43 =>
  ldB p43 w35 fun t45 =>
  ifM t45
  (J38 true w35)
  (nn a0 fun p47 =>
  ldL (p47.add 1) w35 fun t48 =>
  ldI .i64 (p3.add 2) w35 fun t49 =>
  idx 1 t48 t49 fun p50 =>
  ldB p50 w35 fun t52 =>
  J38 t52 w35))
  (J9 () w19))) fun J20 =>
  ifM (t15 == 2)
  (J20 (t15 == 2) w4)
  (ifM (t15 == 3)
  (J20 (t15 == 3) w4)
  (J20 (t15 == 5) w4))

/-- (*caravel/vault.Vault).knows$1 -/
def C52 (c0 : Option Addr) (c1 : Option Addr) (c2 : Option Addr) (w : World) (K : Bool → World → Prop) : Prop := CallsV Tryd.prog 52 #[.pointer c0, .pointer c1, .pointer c2] w fun v w' => ∃ (r0 : Bool), v = .bool r0 ∧ K r0 w'
theorem C52.mono {c0 : Option Addr} {c1 : Option Addr} {c2 : Option Addr} {w : World} {K : Bool → World → Prop} (h : C52 c0 c1 c2 w K) {K' : Bool → World → Prop} (hk : ∀ r0 w', K r0 w' → K' r0 w') : C52 c0 c1 c2 w K' :=
  CallsV.mono h fun v w' ⟨r0, e, h⟩ => ⟨r0, e, hk _ w' h⟩
def sh52 (c0 : Option Addr) (c1 : Option Addr) (c2 : Option Addr) (w : World) (K : Bool → World → Prop) : Prop :=
  jn (fun (v5 : Unit) w6 =>
  nn c0 fun p12 =>
  ldP p12 w6 fun t11 =>
  nn t11 fun p13 =>
  stV (p13.add 2) (Slc.nil.v) w6 fun w14 =>
  jn (fun (v19 : Bool) w20 =>
  K v19 w20) fun J21 =>
  nn c1 fun p28 =>
  ldP p28 w14 fun t27 =>
  nn t27 fun p29 =>
  ldL p29 w14 fun t30 =>
  Lp (fun (s31 : Bool × Int) N33 w32 =>
  jn (fun (v39 : Unit) w40 =>
  jn (fun (v45 : Bool) w46 =>
  N33 (v45, IntKind.i64.wrap (s31.2 + 1)) w46) fun J47 =>
  idx 7 t30 s31.2 fun p53 =>
  ldA 7 p53 w40 fun t55 =>
  newV 55 #[.int .i64 0, .int .i64 0, .int .i64 0, .int .i64 0, .string (⟨#[]⟩ : ByteArray), .string (⟨#[]⟩ : ByteArray), .string (⟨#[]⟩ : ByteArray)] w40 fun p56 w57 =>
  stA 7 p56 t55 w57 fun w58 =>
  jn (fun (v61 : Bool) w62 =>
  drw w62 fun w67 =>
  jn (fun (v68 : Bool) w69 =>
  ifM v68
  (nn c2 fun p75 =>
  ldL p75 w69 fun t74 =>
  idx 1 t74 s31.2 fun p76 =>
  stV p76 (.bool true) w69 fun w78 =>
  drw w78 fun w81 =>
  nn c0 fun p83 =>
  ldP p83 w81 fun t82 =>
  nn c0 fun p85 =>
  ldP p85 w81 fun t84 =>
  nn t84 fun p86 =>
  ldL (p86.add 2) w81 fun t87 =>
  ldS (p56.add 6) w81 fun t88 =>
  ∃ (t89 : Slc) (w90 : World), rn Tryd.prog (convert 9 22 (.string t88)) t89.v w81 w90 ∧
  World.cell? w90 (p86.add 2) = some (t87.v) ∧ World.cell? w90 p85 = some (.pointer t84) ∧ World.cell? w90 p83 = some (.pointer t82) ∧ newV 22 #[t89.v] w90 fun p95 w94 =>
  World.cell? w94 (p86.add 2) = some (t87.v) ∧ World.cell? w94 p85 = some (.pointer t84) ∧ World.cell? w94 p83 = some (.pointer t82) ∧ ∃ (t100 : Slc) (w99 : World), (∀ t, rn Tryd.prog (Builtin.append_ #[31, 31] t #[t87.v, (Slc.mk (some p95) 1 1).v]) t100.v w94 w99) ∧
  World.cell? w99 p83 = some (.pointer t82) ∧ nn t82 fun p102 =>
  stV (p102.add 2) (t100.v) w99 fun w103 =>
  J47 true w103)
  (J47 v61 w69)) fun J70 =>
  ldI .i64 p56 w67 fun t104 =>
  ifM (t104 == 6)
  (nn c0 fun p107 =>
  ldP p107 w67 fun t106 =>
  nn t106 fun p108 =>
  ldL (p108.add 1) w67 fun t109 =>
  idx 1 t109 s31.2 fun p110 =>
  ldB p110 w67 fun t112 =>
  ifM t112
  (nn c0 fun p115 =>
  ldP p115 w67 fun t114 =>
  nn t114 fun p116 =>
  ldL (p116.add 1) w67 fun t117 =>
  ldI .i64 (p56.add 1) w67 fun t118 =>
  idx 1 t117 t118 fun p119 =>
  ldB p119 w67 fun t121 =>
  ifM t121
  (nn c2 fun p124 =>
  ldL p124 w67 fun t123 =>
  idx 1 t123 s31.2 fun p125 =>
  ldB p125 w67 fun t127 =>
  J70 (!t127) w67)
  (J70 false w67))
  (J70 false w67))
  (J70 false w67)) fun J63 =>
  jn (fun (v130 : Bool) w131 =>
  ifM v130
  (nn c0 fun p137 =>
  ldP p137 w131 fun t136 =>
  nn t136 fun p138 =>
  ldL (p138.add 1) w131 fun t139 =>
  idx 1 t139 s31.2 fun p140 =>
  stV p140 (.bool true) w131 fun w142 =>
  J63 true w142)
  (J63 s31.1 w131)) fun J132 =>
  nn c0 fun p144 =>
  ldP p144 w58 fun t143 =>
  nn t143 fun p145 =>
  ldL (p145.add 1) w58 fun t146 =>
  idx 1 t146 s31.2 fun p147 =>
  ldB p147 w58 fun t149 =>
  ifM (!t149)
  (nn c0 fun p152 =>
  ldP p152 w58 fun t151 =>
  ldA 7 p56 w58 fun t153 =>
  C54 t151 t153 w58 fun r155 w154 =>
  J132 r155 w154)
  (J132 false w58)) fun J41 =>
  ifM (decide (s31.2 < (t30.len : Int)))
  (J41 () w32)
  (J21 s31.1 w32)) (false, 0) w14) fun J7 =>
  nn c0 fun p159 =>
  ldP p159 w fun t158 =>
  nn t158 fun p160 =>
  ldL (p160.add 2) w fun t161 =>
  Lp (fun (s162 : Int) N164 w163 =>
  jn (fun (v170 : Unit) w171 =>
  jn (fun (v176 : Unit) w177 =>
  N164 (IntKind.i64.wrap (s162 + 1)) w177) fun J178 =>
  idx 1 t161 s162 fun p184 =>
  ldL p184 w171 fun t186 =>
  nn c0 fun p190 =>
  ldP p190 w171 fun t189 =>
  C53 t189 t186 w171 fun w191 =>
  J178 () w191) fun J172 =>
  ifM (decide (s162 < (t161.len : Int)))
  (J172 () w163)
  (J7 () w163)) 0 w

end Go.Proofs.YtkehoneadedmhaaDoor
