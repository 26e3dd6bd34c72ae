/-
  Printed by a program: the plain texts of the functions, and their ties to the code.
-/
import Derived.Test.YteoikkmpkhnalaaProg
import Derived.Test.YteoikkmpkhnalaaSh3
import Derived.KernelRfl
namespace Go.Proofs.Yteoikkmpkhnalaa
open Go Go.Sh
set_option linter.unusedVariables false
set_option linter.unusedSimpArgs false
theorem mo : Try.prog.follows .mixedOrders = true := by kernel_rfl
def Z34 : Array Value := #[.int .i64 0, .int .u8 0, .int .u8 0, .int .u8 0, .int .u8 0, .int .u8 0, .int .u8 0, .int .u8 0, .int .u8 0, .int .u8 0, .int .u8 0, .int .u8 0, .int .u8 0, .int .u8 0, .int .u8 0, .int .u8 0, .int .u8 0, .int .u8 0, .int .u8 0, .int .u8 0, .int .u8 0, .int .u8 0, .int .u8 0, .int .u8 0, .int .u8 0, .int .u8 0, .int .u8 0, .int .u8 0, .int .u8 0, .int .u8 0, .int .u8 0, .int .u8 0, .int .u8 0, .string (⟨#[]⟩ : ByteArray), Slc.nil.v, Slc.nil.v, Slc.nil.v, .int .u8 0, .int .u8 0, .int .u8 0, .int .u8 0, .int .u8 0, .int .u8 0, .int .u8 0, .int .u8 0, .int .u8 0, .int .u8 0, .int .u8 0, .int .u8 0, .int .u8 0, .int .u8 0, .int .u8 0, .int .u8 0, .bool false, .bool false, .int .u8 0, .int .u8 0, .int .u8 0, .int .u8 0, .int .u8 0, .int .u8 0, .int .u8 0, .int .u8 0, .int .u8 0, .int .u8 0, .int .u8 0, .int .u8 0, .int .u8 0, .int .u8 0, .int .u8 0, .int .u8 0, .int .i64 0]
theorem zeroV34 (w : World) : (zeroValue 34).run Try.prog w = .ok (.agg Z34) w := by kernel_rfl
/-- caravel/hello.kinds -/
def C10 (w : World) (K : Option Nat → World → Prop) : Prop := CallsV Try.prog 10 #[] w fun v w' => ∃ (r0 : Option Nat), v = .map r0 ∧ K r0 w'
theorem C10.mono {w : World} {K : Option Nat → World → Prop} (h : C10 w K) {K' : Option Nat → World → Prop} (hk : ∀ r0 w', K r0 w' → K' r0 w') : C10 w K' :=
  CallsV.mono h fun v w' ⟨r0, e, h⟩ => ⟨r0, e, hk _ w' h⟩
def sh10 (w : World) (K : Option Nat → World → Prop) : Prop :=
  newM w fun m5 w6 =>
  ∃ w7 : World, rn Try.prog (Instr.mapUpdate 38 (.map m5) (.int .i64 1) (.bool true)) () w6 w7 ∧
  ∃ w8 : World, rn Try.prog (Instr.mapUpdate 38 (.map m5) (.int .i64 2) (.bool true)) () w7 w8 ∧
  ∃ w9 : World, rn Try.prog (Instr.mapUpdate 38 (.map m5) (.int .i64 4) (.bool true)) () w8 w9 ∧
  ∃ w10 : World, rn Try.prog (Instr.mapUpdate 38 (.map m5) (.int .i64 8) (.bool true)) () w9 w10 ∧
  ∃ w11 : World, rn Try.prog (Instr.mapUpdate 38 (.map m5) (.int .i64 11) (.bool true)) () w10 w11 ∧
  ∃ w12 : World, rn Try.prog (Instr.mapUpdate 38 (.map m5) (.int .i64 15) (.bool true)) () w11 w12 ∧
  ∃ w13 : World, rn Try.prog (Instr.mapUpdate 38 (.map m5) (.int .i64 20) (.bool true)) () w12 w13 ∧
  K m5 w13

/-- slices.IndexFunc[[]string,string] -/
def C29 (a0 : Slc) (a1 : Value) (w : World) (K : Int → World → Prop) : Prop := CallsV Try.prog 29 #[a0.v, a1] w fun v w' => ∃ (r0 : Int), v = .int .i64 r0 ∧ K r0 w'
theorem C29.mono {a0 : Slc} {a1 : Value} {w : World} {K : Int → World → Prop} (h : C29 a0 a1 w K) {K' : Int → World → Prop} (hk : ∀ r0 w', K r0 w' → K' r0 w') : C29 a0 a1 w K' :=
  CallsV.mono h fun v w' ⟨r0, e, h⟩ => ⟨r0, e, hk _ w' h⟩
def sh29 (a0 : Slc) (a1 : Value) (w : World) (K : Int → World → Prop) : Prop :=
  jn (fun (v5 : Unit) w6 =>
  K (-1) w6) fun J7 =>
  Lp (fun (s13 : Int) N15 w14 =>
  jn (fun (v21 : Unit) w22 =>
  jn (fun (v27 : Unit) w28 =>
  N15 (IntKind.i64.wrap (s13 + 1)) w28) fun J29 =>
  idx 1 a0 s13 fun p37 =>
  ldS p37 w22 fun t39 =>
  ∃ f42 x43 y44, a1 = .func (.func f42) x43 y44 ∧ (∀ args w, (callFunc f42 args).run Try.prog w = .ok (.enter f42 args) w) ∧ CallsV Try.prog f42 (x43 ++ #[.string t39] ++ y44) w22 fun v_ w40 => ∃ (r41 : Bool), v_ = .bool r41 ∧ 
  ifM r41
  (K s13 w40)
  (J29 () w40)) fun J23 =>
  ifM (decide (s13 < (a0.len : Int)))
  (J23 () w14)
  (J7 () w14)) 0 w

/-- slices.ContainsFunc[[]string,string] -/
def C27 (a0 : Slc) (a1 : Value) (w : World) (K : Bool → World → Prop) : Prop := CallsV Try.prog 27 #[a0.v, a1] w fun v w' => ∃ (r0 : Bool), v = .bool r0 ∧ K r0 w'
theorem C27.mono {a0 : Slc} {a1 : Value} {w : World} {K : Bool → World → Prop} (h : C27 a0 a1 w K) {K' : Bool → World → Prop} (hk : ∀ r0 w', K r0 w' → K' r0 w') : C27 a0 a1 w K' :=
  CallsV.mono h fun v w' ⟨r0, e, h⟩ => ⟨r0, e, hk _ w' h⟩
def sh27 (a0 : Slc) (a1 : Value) (w : World) (K : Bool → World → Prop) : Prop :=
  C29 a0 a1 w fun r6 w5 =>
  K (decide (r6 ≥ 0)) w5

/-- (caravel/hello.Message).named -/
def C18 (a0 : Array Value) (a1 : Int) (w : World) (K : Bool → World → Prop) : Prop := CallsV Try.prog 18 #[.agg a0, .int .i64 a1] w fun v w' => ∃ (r0 : Bool), v = .bool r0 ∧ K r0 w'
theorem C18.mono {a0 : Array Value} {a1 : Int} {w : World} {K : Bool → World → Prop} (h : C18 a0 a1 w K) {K' : Bool → World → Prop} (hk : ∀ r0 w', K r0 w' → K' r0 w') : C18 a0 a1 w K' :=
  CallsV.mono h fun v w' ⟨r0, e, h⟩ => ⟨r0, e, hk _ w' h⟩
def sh18 (a0 : Array Value) (a1 : Int) (w : World) (K : Bool → World → Prop) : Prop :=
  newV 27 a0 w fun p3 w4 =>
  jn (fun (v9 : Bool) w10 =>
  K v9 w10) fun J11 =>
  ldL (p3.add 34) w4 fun t13 =>
  ifM (decide ((t13.len : Int) ≥ 1))
  (ldL (p3.add 34) w4 fun t15 =>
  ifM (decide ((t15.len : Int) ≤ a1))
  (ldL (p3.add 34) w4 fun t17 =>
  C27 t17 (Value.func (Fn.func 26) #[] #[]) w4 fun r19 w18 =>
  ifM (!r19)
  (ldL (p3.add 35) w18 fun t21 =>
  J11 (decide ((t21.len : Int) ≤ 4096)) w18)
  (J11 false w18))
  (J11 false w4))
  (J11 false w4)

/-- (caravel/hello.Message).right -/
def C11 (a0 : Array Value) (w : World) (K : Bool → World → Prop) : Prop := CallsV Try.prog 11 #[.agg a0] w fun v w' => ∃ (r0 : Bool), v = .bool r0 ∧ K r0 w'
theorem C11.mono {a0 : Array Value} {w : World} {K : Bool → World → Prop} (h : C11 a0 w K) {K' : Bool → World → Prop} (hk : ∀ r0 w', K r0 w' → K' r0 w') : C11 a0 w K' :=
  CallsV.mono h fun v w' ⟨r0, e, h⟩ => ⟨r0, e, hk _ w' h⟩
def sh11 (a0 : Array Value) (w : World) (K : Bool → World → Prop) : Prop :=
  newV 27 a0 w fun p3 w4 =>
  jn (fun (v7 : Unit) w8 =>
  K true w8) fun J9 =>
  ldI .i64 p3 w4 fun t15 =>
  ifM (t15 == 1)
  (jn (fun (v20 : Unit) w21 =>
  jn (fun (v26 : Bool) w27 =>
  K v26 w27) fun J28 =>
  ldA 72 p3 w21 fun t30 =>
  C18 t30 8 w21 fun r32 w31 =>
  ifM r32
  (ldS (p3.add 33) w31 fun t34 =>
  ifM (decide ((t34.size : Int) ≤ 255))
  (ldL (p3.add 36) w31 fun t36 =>
  J28 (decide ((t36.len : Int) ≤ 512)) w31)
  (J28 false w31))
  (J28 false w31)) fun J22 =>
  jn (fun (v39 : Bool) w40 =>
  ifM v39
  (K false w40)
  (J22 () w40)) fun J41 =>
  ldL (p3.add 36) w4 fun t45 =>
  ifM ((t45.len : Int) == 0)
  (ldB (p3.add 53) w4 fun t47 =>
  ifM t47
  (J41 true w4)
  (ldA 16 (p3.add 37) w4 fun t49 =>
  ∃ t50 : Bool, (∀ w, rn Try.prog (Op.equal 23 (.agg t49) (.agg (#[.int .u8 0, .int .u8 0, .int .u8 0, .int .u8 0, .int .u8 0, .int .u8 0, .int .u8 0, .int .u8 0, .int .u8 0, .int .u8 0, .int .u8 0, .int .u8 0, .int .u8 0, .int .u8 0, .int .u8 0, .int .u8 0]))) t50 w w) ∧
  J41 (!t50) w4))
  (J41 false w4))
  (ifM (t15 == 4)
  (jn (fun (v55 : Bool) w56 =>
  K v55 w56) fun J57 =>
  ldI .i64 (p3.add 71) w4 fun t59 =>
  ifM (decide (t59 ≥ 0))
  (ldI .i64 (p3.add 71) w4 fun t61 =>
  ifM (decide (t61 ≤ 4294967295))
  (ldL (p3.add 36) w4 fun t63 =>
  ifM (decide ((t63.len : Int) ≥ 1))
  (ldL (p3.add 36) w4 fun t65 =>
  J57 (decide ((t65.len : Int) ≤ 512)) w4)
  (J57 false w4))
  (J57 false w4))
  (J57 false w4))
  (ifM (t15 == 8)
  (ldA 72 p3 w4 fun t70 =>
  C18 t70 1 w4 fun r72 w71 =>
  K r72 w71)
  (ifM (t15 == 11)
  (ldS (p3.add 33) w4 fun t77 =>
  K (decide ((t77.size : Int) ≤ 255)) w4)
  (J9 () w4))))

/-- (*caravel/hello.writing).handle -/
def C19 (a0 : Option Addr) (a1 : Array Value) (w : World) (K : World → Prop) : Prop := CallsV Try.prog 19 #[.pointer a0, .agg a1] w fun v w' => v = .tuple #[] ∧ K w'
theorem C19.mono {a0 : Option Addr} {a1 : Array Value} {w : World} {K : World → Prop} (h : C19 a0 a1 w K) {K' : World → Prop} (hk : ∀ w', K  w' → K'  w') : C19 a0 a1 w K' :=
  CallsV.mono h fun v w' ⟨e, h⟩ => ⟨e, hk w' h⟩
def sh19 (a0 : Option Addr) (a1 : Array Value) (w : World) (K : World → Prop) : Prop :=
  newV 23 a1 w fun p3 w4 =>
  drw w4 fun w7 =>
  nn a0 fun p8 =>
  ldL p8 w7 fun t9 =>
  ∃ (t11 : Slc) (w10 : World), (∀ t, rn Try.prog (Builtin.append_ #[25, 25] t #[t9.v, (Slc.sub ⟨some p3, 16, 16⟩ 1 0 16 16).v]) t11.v w7 w10) ∧
  nn a0 fun p12 =>
  stV p12 (t11.v) w10 fun w13 =>
  K w13

/-- slices.Clone[[]byte,byte] -/
def C30 (a0 : Slc) (w : World) (K : Slc → World → Prop) : Prop := CallsV Try.prog 30 #[a0.v] w fun v w' => ∃ (r0 : Slc), v = r0.v ∧ K r0 w'
theorem C30.mono {a0 : Slc} {w : World} {K : Slc → World → Prop} (h : C30 a0 w K) {K' : Slc → World → Prop} (hk : ∀ r0 w', K r0 w' → K' r0 w') : C30 a0 w K' :=
  CallsV.mono h fun v w' ⟨r0, e, h⟩ => ⟨r0, e, hk _ w' h⟩
def sh30 (a0 : Slc) (w : World) (K : Slc → World → Prop) : Prop :=
  jn (fun (v5 : Unit) w6 =>
  newV 5 #[] w6 fun p12 w11 =>
  ∃ (t14 : Slc) (w13 : World), (∀ t, rn Try.prog (Builtin.append_ #[25, 25] t #[(Slc.mk (some p12) 0 0).v, a0.v]) t14.v w11 w13) ∧
  K t14 w13) fun J7 =>
  ifM a0.a.isNone
  (K Slc.nil w)
  (J7 () w)

/-- caravel/octet.lay -/
def C28 (a0 : Slc) (a1 : Int) (a2 : Int) (w : World) (K : Slc → World → Prop) : Prop := CallsV Try.prog 28 #[a0.v, .int .u64 a1, .int .i64 a2] w fun v w' => ∃ (r0 : Slc), v = r0.v ∧ K r0 w'
theorem C28.mono {a0 : Slc} {a1 : Int} {a2 : Int} {w : World} {K : Slc → World → Prop} (h : C28 a0 a1 a2 w K) {K' : Slc → World → Prop} (hk : ∀ r0 w', K r0 w' → K' r0 w') : C28 a0 a1 a2 w K' :=
  CallsV.mono h fun v w' ⟨r0, e, h⟩ => ⟨r0, e, hk _ w' h⟩
def sh28 (a0 : Slc) (a1 : Int) (a2 : Int) (w : World) (K : Slc → World → Prop) : Prop :=
  C30 a0 w fun r6 w5 =>
  jn (fun (v9 : Slc) w10 =>
  K v9 w10) fun J11 =>
  Lp (fun (s17 : Slc × Int) N19 w18 =>
  jn (fun (v25 : Unit) w26 =>
  jn (fun (v31 : Slc) w32 =>
  N19 (v31, IntKind.i64.wrap (s17.2 + 1)) w32) fun J33 =>
  0 ≤ IntKind.i64.wrap (8 * (IntKind.i64.wrap ((IntKind.i64.wrap (a2 - 1)) - s17.2))) ∧ newV 5 #[.int .u8 (IntKind.u8.wrap (shrZ .u64 a1 (IntKind.i64.wrap (8 * (IntKind.i64.wrap ((IntKind.i64.wrap (a2 - 1)) - s17.2))))))] w26 fun p42 w41 =>
  ∃ (t44 : Slc) (w43 : World), (∀ t, rn Try.prog (Builtin.append_ #[25, 25] t #[s17.1.v, (Slc.mk (some p42) 1 1).v]) t44.v w41 w43) ∧
  J33 t44 w43) fun J27 =>
  ifM (decide (s17.2 < a2))
  (J27 () w18)
  (J11 s17.1 w18)) (r6, 0) w5

/-- caravel/octet.Put -/
def C21 (a0 : Slc) (a1 : Int) (a2 : Int) (w : World) (K : Slc → Int → World → Prop) : Prop := CallsV Try.prog 21 #[a0.v, .int .u64 a1, .int .i64 a2] w fun v w' => ∃ (r0 : Slc) (r1 : Int), v = .tuple #[r0.v, .int .i64 r1] ∧ K r0 r1 w'
theorem C21.mono {a0 : Slc} {a1 : Int} {a2 : Int} {w : World} {K : Slc → Int → World → Prop} (h : C21 a0 a1 a2 w K) {K' : Slc → Int → World → Prop} (hk : ∀ r0 r1 w', K r0 r1 w' → K' r0 r1 w') : C21 a0 a1 a2 w K' :=
  CallsV.mono h fun v w' ⟨r0, r1, e, h⟩ => ⟨r0, r1, e, hk _ _ w' h⟩
def sh21 (a0 : Slc) (a1 : Int) (a2 : Int) (w : World) (K : Slc → Int → World → Prop) : Prop :=
  jn (fun (v5 : Unit) w6 =>
  C28 a0 a1 a2 w6 fun r12 w11 =>
  K r12 0 w11) fun J7 =>
  jn (fun (v15 : Bool) w16 =>
  ifM v15
  (K Slc.nil 2 w16)
  (J7 () w16)) fun J17 =>
  ifM (decide (a2 < 1))
  (J17 true w)
  (J17 (decide (a2 > 8)) w)

/-- (*caravel/hello.writing).number -/
def C13 (a0 : Option Addr) (a1 : Int) (a2 : Int) (w : World) (K : World → Prop) : Prop := CallsV Try.prog 13 #[.pointer a0, .int .i64 a1, .int .i64 a2] w fun v w' => v = .tuple #[] ∧ K w'
theorem C13.mono {a0 : Option Addr} {a1 : Int} {a2 : Int} {w : World} {K : World → Prop} (h : C13 a0 a1 a2 w K) {K' : World → Prop} (hk : ∀ w', K  w' → K'  w') : C13 a0 a1 a2 w K' :=
  CallsV.mono h fun v w' ⟨e, h⟩ => ⟨e, hk w' h⟩
def sh13 (a0 : Option Addr) (a1 : Int) (a2 : Int) (w : World) (K : World → Prop) : Prop :=
  nn a0 fun p3 =>
  ldL p3 w fun t4 =>
  C21 t4 (IntKind.u64.wrap a1) a2 w fun r6 r7 w5 =>
  nn a0 fun p8 =>
  stV p8 (r6.v) w5 fun w9 =>
  K w9

/-- (*caravel/hello.writing).text -/
def C14 (a0 : Option Addr) (a1 : ByteArray) (a2 : Int) (w : World) (K : World → Prop) : Prop := CallsV Try.prog 14 #[.pointer a0, .string a1, .int .i64 a2] w fun v w' => v = .tuple #[] ∧ K w'
theorem C14.mono {a0 : Option Addr} {a1 : ByteArray} {a2 : Int} {w : World} {K : World → Prop} (h : C14 a0 a1 a2 w K) {K' : World → Prop} (hk : ∀ w', K  w' → K'  w') : C14 a0 a1 a2 w K' :=
  CallsV.mono h fun v w' ⟨e, h⟩ => ⟨e, hk w' h⟩
def sh14 (a0 : Option Addr) (a1 : ByteArray) (a2 : Int) (w : World) (K : World → Prop) : Prop :=
  C13 a0 (a1.size : Int) a2 w fun w3 =>
  nn a0 fun p6 =>
  ldL p6 w3 fun t7 =>
  ∃ (t9 : Slc) (w8 : World), (∀ t, rn Try.prog (Builtin.append_ #[25, 9] t #[t7.v, .string a1]) t9.v w3 w8) ∧
  nn a0 fun p10 =>
  stV p10 (t9.v) w8 fun w11 =>
  K w11

/-- (*caravel/hello.writing).flags -/
def C20 (a0 : Option Addr) (a1 : Slc) (w : World) (K : World → Prop) : Prop := CallsV Try.prog 20 #[.pointer a0, a1.v] w fun v w' => v = .tuple #[] ∧ K w'
theorem C20.mono {a0 : Option Addr} {a1 : Slc} {w : World} {K : World → Prop} (h : C20 a0 a1 w K) {K' : World → Prop} (hk : ∀ w', K  w' → K'  w') : C20 a0 a1 w K' :=
  CallsV.mono h fun v w' ⟨e, h⟩ => ⟨e, hk w' h⟩
def sh20 (a0 : Option Addr) (a1 : Slc) (w : World) (K : World → Prop) : Prop :=
  jn (fun (v5 : Int) w6 =>
  C13 a0 v5 1 w6 fun w11 =>
  K w11) fun J7 =>
  Lp (fun (s14 : Int × Int) N16 w15 =>
  jn (fun (v22 : Unit) w23 =>
  jn (fun (v28 : Int) w29 =>
  N16 (v28, IntKind.i64.wrap (s14.2 + 1)) w29) fun J30 =>
  idx 1 a1 s14.2 fun p36 =>
  ldB p36 w23 fun t38 =>
  ifM t38
  (0 ≤ s14.2 ∧ J30 (bitsZ .or .i64 s14.1 (shlZ .i64 1 s14.2)) w23)
  (J30 s14.1 w23)) fun J24 =>
  ifM (decide (s14.2 < (a1.len : Int)))
  (J24 () w15)
  (J7 s14.1 w15)) (0, 0) w

/-- (*caravel/hello.writing).body -/
def C12 (a0 : Option Addr) (a1 : Array Value) (w : World) (K : World → Prop) : Prop := CallsV Try.prog 12 #[.pointer a0, .agg a1] w fun v w' => v = .tuple #[] ∧ K w'
theorem C12.mono {a0 : Option Addr} {a1 : Array Value} {w : World} {K : World → Prop} (h : C12 a0 a1 w K) {K' : World → Prop} (hk : ∀ w', K  w' → K'  w') : C12 a0 a1 w K' :=
  CallsV.mono h fun v w' ⟨e, h⟩ => ⟨e, hk w' h⟩
def sh12 (a0 : Option Addr) (a1 : Array Value) (w : World) (K : World → Prop) : Prop :=
  newV 27 a1 w fun p3 w4 =>
  ldI .i64 p3 w4 fun t7 =>
  jn (fun (v10 : Unit) w11 =>
  ldA 16 (p3.add 55) w11 fun t16 =>
  C19 a0 t16 w11 fun w17 =>
  K w17) fun J12 =>
  jn (fun (v20 : Unit) w21 =>
  ldS (p3.add 33) w21 fun t26 =>
  C14 a0 t26 1 w21 fun w27 =>
  J12 () w27) fun J22 =>
  jn (fun (v30 : Unit) w31 =>
  jn (fun (v36 : Unit) w37 =>
  K w37) fun J38 =>
  ldL (p3.add 34) w31 fun t42 =>
  idx 1 t42 0 fun p43 =>
  ldS p43 w31 fun t45 =>
  C14 a0 t45 1 w31 fun w46 =>
  ldL (p3.add 35) w46 fun t49 =>
  ∃ t50, rn Try.prog (convert 25 9 t49.v) (.string t50) w46 w46 ∧ 
  C14 a0 t50 2 w46 fun w51 =>
  ldB (p3.add 53) w51 fun t54 =>
  newV 4 #[.bool t54] w51 fun p56 w55 =>
  C20 a0 (Slc.mk (some p56) 1 1) w55 fun w57 =>
  J38 () w57) fun J32 =>
  jn (fun (v60 : Unit) w61 =>
  jn (fun (v66 : Unit) w67 =>
  K w67) fun J68 =>
  ldI .i64 (p3.add 71) w61 fun t72 =>
  C13 a0 t72 4 w61 fun w73 =>
  ldL (p3.add 36) w73 fun t76 =>
  ∃ t77, rn Try.prog (convert 25 9 t76.v) (.string t77) w73 w73 ∧ 
  C14 a0 t77 2 w73 fun w78 =>
  ldB (p3.add 53) w78 fun t81 =>
  newV 4 #[.bool t81] w78 fun p83 w82 =>
  C20 a0 (Slc.mk (some p83) 1 1) w82 fun w84 =>
  J68 () w84) fun J62 =>
  jn (fun (v87 : Unit) w88 =>
  jn (fun (v93 : Unit) w94 =>
  K w94) fun J95 =>
  ldA 16 (p3.add 1) w88 fun t99 =>
  C19 a0 t99 w88 fun w100 =>
  ldA 16 (p3.add 17) w100 fun t103 =>
  C19 a0 t103 w100 fun w104 =>
  ldB (p3.add 54) w104 fun t107 =>
  newV 4 #[.bool t107] w104 fun p109 w108 =>
  C20 a0 (Slc.mk (some p109) 1 1) w108 fun w110 =>
  J95 () w110) fun J89 =>
  jn (fun (v113 : Unit) w114 =>
  jn (fun (v119 : Unit) w120 =>
  K w120) fun J121 =>
  ldA 16 (p3.add 1) w114 fun t125 =>
  C19 a0 t125 w114 fun w126 =>
  ldA 16 (p3.add 17) w126 fun t129 =>
  C19 a0 t129 w126 fun w130 =>
  ldS (p3.add 33) w130 fun t133 =>
  C14 a0 t133 1 w130 fun w134 =>
  ldL (p3.add 34) w134 fun t137 =>
  C13 a0 (t137.len : Int) 1 w134 fun w138 =>
  jn (fun (v141 : Unit) w142 =>
  ldL (p3.add 35) w142 fun t147 =>
  ∃ t148, rn Try.prog (convert 25 9 t147.v) (.string t148) w142 w142 ∧ 
  C14 a0 t148 2 w142 fun w149 =>
  ldL (p3.add 36) w149 fun t152 =>
  ldB (p3.add 53) w149 fun t153 =>
  newV 4 #[.bool (decide ((t152.len : Int) > 0)), .bool t153] w149 fun p155 w154 =>
  C20 a0 (Slc.mk (some p155) 2 2) w154 fun w156 =>
  ldL (p3.add 36) w156 fun t159 =>
  ifM (decide ((t159.len : Int) > 0))
  (ldL (p3.add 36) w156 fun t162 =>
  ∃ t163, rn Try.prog (convert 25 9 t162.v) (.string t163) w156 w156 ∧ 
  C14 a0 t163 2 w156 fun w164 =>
  ldA 16 (p3.add 37) w164 fun t167 =>
  C19 a0 t167 w164 fun w168 =>
  J121 () w168)
  (J121 () w156)) fun J143 =>
  ldL (p3.add 34) w138 fun t171 =>
  Lp (fun (s172 : Int) N174 w173 =>
  jn (fun (v180 : Unit) w181 =>
  jn (fun (v186 : Unit) w187 =>
  N174 (IntKind.i64.wrap (s172 + 1)) w187) fun J188 =>
  idx 1 t171 s172 fun p194 =>
  ldS p194 w181 fun t196 =>
  C14 a0 t196 1 w181 fun w199 =>
  J188 () w199) fun J182 =>
  ifM (decide (s172 < (t171.len : Int)))
  (J182 () w173)
  (J143 () w173)) 0 w138) fun J115 =>
  jn (fun (v202 : Unit) w203 =>
  J12 () w203) fun J204 =>
  jn (fun (v208 : Unit) w209 =>
  jn (fun (v214 : Unit) w215 =>
  jn (fun (v220 : Unit) w221 =>
  jn (fun (v226 : Unit) w227 =>
  ifM (t7 == 11)
  (J22 () w227)
  (J204 () w227)) fun J228 =>
  ifM (t7 == 8)
  (J32 () w221)
  (J228 () w221)) fun J222 =>
  ifM (t7 == 4)
  (J62 () w215)
  (J222 () w215)) fun J216 =>
  ifM (t7 == 2)
  (J89 () w209)
  (J216 () w209)) fun J210 =>
  ifM (t7 == 1)
  (J115 () w4)
  (J210 () w4)

/-- caravel/hello.Put -/
def C4 (a0 : Array Value) (w : World) (K : Slc → Int → World → Prop) : Prop := CallsV Try.prog 4 #[.agg a0] w fun v w' => ∃ (r0 : Slc) (r1 : Int), v = .tuple #[r0.v, .int .i64 r1] ∧ K r0 r1 w'
theorem C4.mono {a0 : Array Value} {w : World} {K : Slc → Int → World → Prop} (h : C4 a0 w K) {K' : Slc → Int → World → Prop} (hk : ∀ r0 r1 w', K r0 r1 w' → K' r0 r1 w') : C4 a0 w K' :=
  CallsV.mono h fun v w' ⟨r0, r1, e, h⟩ => ⟨r0, r1, e, hk _ _ w' h⟩
def sh4 (a0 : Array Value) (w : World) (K : Slc → Int → World → Prop) : Prop :=
  newV 27 a0 w fun p3 w4 =>
  jn (fun (v7 : Unit) w8 =>
  newV 42 #[Slc.nil.v] w8 fun p13 w14 =>
  newV 42 #[Slc.nil.v] w14 fun p15 w16 =>
  ldA 72 p3 w16 fun t19 =>
  C12 (some p13) t19 w16 fun w20 =>
  ldI .i64 p3 w20 fun t23 =>
  C13 (some p15) t23 1 w20 fun w24 =>
  ldL p13 w24 fun t27 =>
  ∃ t28, rn Try.prog (convert 25 9 t27.v) (.string t28) w24 w24 ∧ 
  C14 (some p15) t28 3 w24 fun w29 =>
  ldL p15 w29 fun t32 =>
  K t32 0 w29) fun J9 =>
  drw w4 fun w35 =>
  ldI .i64 p3 w35 fun t36 =>
  C10 w35 fun r38 w37 =>
  World.cell? w37 p3 = some (.int .i64 t36) ∧ ∃ (t40 : Bool), rn Try.prog (Instr.lookup 38 (.map r38) (.int .i64 t36) false) (.bool t40) w37 w37 ∧
  ifM (!t40)
  (K Slc.nil 12 w37)
  (ldA 72 p3 w37 fun t45 =>
  C11 t45 w37 fun r47 w46 =>
  ifM (!r47)
  (K Slc.nil 2 w46)
  (J9 () w46))

/-- caravel/hello.Bare -/
def C5 (a0 : Array Value) (w : World) (K : Slc → Int → World → Prop) : Prop := CallsV Try.prog 5 #[.agg a0] w fun v w' => ∃ (r0 : Slc) (r1 : Int), v = .tuple #[r0.v, .int .i64 r1] ∧ K r0 r1 w'
theorem C5.mono {a0 : Array Value} {w : World} {K : Slc → Int → World → Prop} (h : C5 a0 w K) {K' : Slc → Int → World → Prop} (hk : ∀ r0 r1 w', K r0 r1 w' → K' r0 r1 w') : C5 a0 w K' :=
  CallsV.mono h fun v w' ⟨r0, r1, e, h⟩ => ⟨r0, r1, e, hk _ _ w' h⟩
def sh5 (a0 : Array Value) (w : World) (K : Slc → Int → World → Prop) : Prop :=
  newV 27 a0 w fun p3 w4 =>
  jn (fun (v7 : Unit) w8 =>
  ldA 72 p3 w8 fun t13 =>
  C4 t13 w8 fun r15 r16 w14 =>
  jn (fun (v19 : Unit) w20 =>
  0 ≤ IntKind.i64.wrap ((r15.len : Int) - 16) ∧ IntKind.i64.wrap ((r15.len : Int) - 16) ≤ (r15.cap : Int) ∧ 
  K (r15.sub 1 0 ((IntKind.i64.wrap ((r15.len : Int) - 16)).toNat) r15.cap) 0 w20) fun J21 =>
  ifM (r16 != 0)
  (K Slc.nil r16 w14)
  (J21 () w14)) fun J9 =>
  jn (fun (v33 : Bool) w34 =>
  ifM v33
  (K Slc.nil 2 w34)
  (J9 () w34)) fun J35 =>
  ldI .i64 p3 w4 fun t39 =>
  ifM (t39 != 1)
  (J35 true w4)
  (ldL (p3.add 36) w4 fun t41 =>
  J35 ((t41.len : Int) == 0) w4)

/-- caravel/caravellaw11.Refs -/
def C7 (a0 : Array Value) (w : World) (K : Array Value → World → Prop) : Prop := CallsV Try.prog 7 #[.agg a0] w fun v w' => ∃ (r0 : Array Value), v = .agg r0 ∧ K r0 w'
theorem C7.mono {a0 : Array Value} {w : World} {K : Array Value → World → Prop} (h : C7 a0 w K) {K' : Array Value → World → Prop} (hk : ∀ r0 w', K r0 w' → K' r0 w') : C7 a0 w K' :=
  CallsV.mono h fun v w' ⟨r0, e, h⟩ => ⟨r0, e, hk _ w' h⟩
def sh7 (a0 : Array Value) (w : World) (K : Array Value → World → Prop) : Prop :=
  newV 27 a0 w fun p3 w4 =>
  newV 34 Z34 w4 fun p5 w6 =>
  ldI .i64 p3 w6 fun t9 =>
  ldA 16 (p3.add 1) w6 fun t10 =>
  ldA 16 (p3.add 17) w6 fun t11 =>
  ldS (p3.add 33) w6 fun t12 =>
  ldL (p3.add 34) w6 fun t13 =>
  ldL (p3.add 35) w6 fun t14 =>
  ldL (p3.add 36) w6 fun t15 =>
  ldA 16 (p3.add 37) w6 fun t16 =>
  ldB (p3.add 53) w6 fun t17 =>
  ldB (p3.add 54) w6 fun t18 =>
  ldA 16 (p3.add 55) w6 fun t19 =>
  ldI .i64 (p3.add 71) w6 fun t20 =>
  ∃ t21 : Array Value, (∀ w, rn Try.prog (Instr.build 34 ([(0, .int .i64 t9), (1, .agg t10), (2, .agg t11), (3, .string t12), (4, t13.v), (5, t14.v), (6, t15.v), (7, .agg t16), (8, .bool t17), (9, .bool t18), (10, .agg t19), (11, .int .i64 t20)] : List (Nat × Value)).toArray) (.agg t21) w w) ∧
  stA 72 p5 t21 w6 fun w22 =>
  ldA 72 p5 w22 fun t23 =>
  K t23 w22

/-- caravel/caravelref11.known -/
def C15 (a0 : Int) (w : World) (K : Bool → World → Prop) : Prop := CallsV Try.prog 15 #[.int .i64 a0] w fun v w' => ∃ (r0 : Bool), v = .bool r0 ∧ K r0 w'
theorem C15.mono {a0 : Int} {w : World} {K : Bool → World → Prop} (h : C15 a0 w K) {K' : Bool → World → Prop} (hk : ∀ r0 w', K r0 w' → K' r0 w') : C15 a0 w K' :=
  CallsV.mono h fun v w' ⟨r0, e, h⟩ => ⟨r0, e, hk _ w' h⟩
def sh15 (a0 : Int) (w : World) (K : Bool → World → Prop) : Prop :=
  jn (fun (v5 : Bool) w6 =>
  K v5 w6) fun J7 =>
  ifM (a0 == 1)
  (J7 true w)
  (ifM (a0 == 2)
  (J7 true w)
  (ifM (a0 == 4)
  (J7 true w)
  (ifM (a0 == 8)
  (J7 true w)
  (ifM (a0 == 11)
  (J7 true w)
  (ifM (a0 == 15)
  (J7 true w)
  (J7 (a0 == 20) w))))))

/-- caravel/caravelref11.protos -/
def C22 (a0 : Slc) (a1 : Int) (w : World) (K : Bool → World → Prop) : Prop := CallsV Try.prog 22 #[a0.v, .int .i64 a1] w fun v w' => ∃ (r0 : Bool), v = .bool r0 ∧ K r0 w'
theorem C22.mono {a0 : Slc} {a1 : Int} {w : World} {K : Bool → World → Prop} (h : C22 a0 a1 w K) {K' : Bool → World → Prop} (hk : ∀ r0 w', K r0 w' → K' r0 w') : C22 a0 a1 w K' :=
  CallsV.mono h fun v w' ⟨r0, e, h⟩ => ⟨r0, e, hk _ w' h⟩
def sh22 (a0 : Slc) (a1 : Int) (w : World) (K : Bool → World → Prop) : Prop :=
  jn (fun (v5 : Unit) w6 =>
  jn (fun (v11 : Bool) w12 =>
  K v11 w12) fun J13 =>
  ifM (decide ((a0.len : Int) ≥ 1))
  (J13 (decide ((a0.len : Int) ≤ a1)) w6)
  (J13 false w6)) fun J7 =>
  Lp (fun (s18 : Int) N20 w19 =>
  jn (fun (v24 : Unit) w25 =>
  jn (fun (v30 : Unit) w31 =>
  N20 (IntKind.i64.wrap (s18 + 1)) w31) fun J32 =>
  jn (fun (v38 : Bool) w39 =>
  ifM v38
  (K false w39)
  (J32 () w39)) fun J40 =>
  idx 1 a0 s18 fun p44 =>
  ldS p44 w25 fun t46 =>
  ifM (decide ((t46.size : Int) < 1))
  (J40 true w25)
  (idx 1 a0 s18 fun p48 =>
  ldS p48 w25 fun t50 =>
  J40 (decide ((t50.size : Int) > 255)) w25)) fun J26 =>
  ifM (decide (s18 < (a0.len : Int)))
  (J26 () w19)
  (J7 () w19)) 0 w

/-- caravel/caravelref11.may -/
def C16 (a0 : Array Value) (w : World) (K : Bool → World → Prop) : Prop := CallsV Try.prog 16 #[.agg a0] w fun v w' => ∃ (r0 : Bool), v = .bool r0 ∧ K r0 w'
theorem C16.mono {a0 : Array Value} {w : World} {K : Bool → World → Prop} (h : C16 a0 w K) {K' : Bool → World → Prop} (hk : ∀ r0 w', K r0 w' → K' r0 w') : C16 a0 w K' :=
  CallsV.mono h fun v w' ⟨r0, e, h⟩ => ⟨r0, e, hk _ w' h⟩
def sh16 (a0 : Array Value) (w : World) (K : Bool → World → Prop) : Prop :=
  newV 34 a0 w fun p3 w4 =>
  jn (fun (v7 : Unit) w8 =>
  K true w8) fun J9 =>
  ldI .i64 p3 w4 fun t15 =>
  ifM (t15 == 1)
  (jn (fun (v20 : Bool) w21 =>
  jn (fun (v26 : Bool) w27 =>
  K v26 w27) fun J28 =>
  ldS (p3.add 33) w21 fun t30 =>
  ifM (decide ((t30.size : Int) ≤ 255))
  (ldL (p3.add 34) w21 fun t32 =>
  C22 t32 8 w21 fun r34 w33 =>
  ifM r34
  (ldL (p3.add 35) w33 fun t36 =>
  ifM (decide ((t36.len : Int) ≤ 4096))
  (ldL (p3.add 36) w33 fun t38 =>
  ifM (decide ((t38.len : Int) ≤ 512))
  (J28 v20 w33)
  (J28 false w33))
  (J28 false w33))
  (J28 false w33))
  (J28 false w21)) fun J22 =>
  ldL (p3.add 36) w4 fun t40 =>
  ifM (decide ((t40.len : Int) > 0))
  (J22 true w4)
  (ldB (p3.add 53) w4 fun t42 =>
  ifM (!t42)
  (ldA 16 (p3.add 37) w4 fun t44 =>
  ∃ t45 : Bool, (∀ w, rn Try.prog (Op.equal 22 (.agg t44) (.agg (#[.int .u8 0, .int .u8 0, .int .u8 0, .int .u8 0, .int .u8 0, .int .u8 0, .int .u8 0, .int .u8 0, .int .u8 0, .int .u8 0, .int .u8 0, .int .u8 0, .int .u8 0, .int .u8 0, .int .u8 0, .int .u8 0]))) t45 w w) ∧
  J22 t45 w4)
  (J22 false w4)))
  (ifM (t15 == 4)
  (jn (fun (v50 : Bool) w51 =>
  K v50 w51) fun J52 =>
  ldI .i64 (p3.add 71) w4 fun t54 =>
  ifM (decide (t54 ≥ 0))
  (ldI .i64 (p3.add 71) w4 fun t56 =>
  ifM (decide (t56 ≤ 4294967295))
  (ldL (p3.add 36) w4 fun t58 =>
  ifM (decide ((t58.len : Int) ≥ 1))
  (ldL (p3.add 36) w4 fun t60 =>
  J52 (decide ((t60.len : Int) ≤ 512)) w4)
  (J52 false w4))
  (J52 false w4))
  (J52 false w4))
  (ifM (t15 == 8)
  (jn (fun (v65 : Bool) w66 =>
  K v65 w66) fun J67 =>
  ldL (p3.add 34) w4 fun t69 =>
  C22 t69 1 w4 fun r71 w70 =>
  ifM r71
  (ldL (p3.add 35) w70 fun t73 =>
  J67 (decide ((t73.len : Int) ≤ 4096)) w70)
  (J67 false w70))
  (ifM (t15 == 11)
  (ldS (p3.add 33) w4 fun t78 =>
  K (decide ((t78.size : Int) ≤ 255)) w4)
  (J9 () w4))))

/-- caravel/caravelref11.short -/
def C23 (a0 : Slc) (a1 : ByteArray) (w : World) (K : Slc → World → Prop) : Prop := CallsV Try.prog 23 #[a0.v, .string a1] w fun v w' => ∃ (r0 : Slc), v = r0.v ∧ K r0 w'
theorem C23.mono {a0 : Slc} {a1 : ByteArray} {w : World} {K : Slc → World → Prop} (h : C23 a0 a1 w K) {K' : Slc → World → Prop} (hk : ∀ r0 w', K r0 w' → K' r0 w') : C23 a0 a1 w K' :=
  CallsV.mono h fun v w' ⟨r0, e, h⟩ => ⟨r0, e, hk _ w' h⟩
def sh23 (a0 : Slc) (a1 : ByteArray) (w : World) (K : Slc → World → Prop) : Prop :=
  newV 5 #[.int .u8 (IntKind.u8.wrap (a1.size : Int))] w fun p6 w5 =>
  ∃ (t8 : Slc) (w7 : World), (∀ t, rn Try.prog (Builtin.append_ #[25, 25] t #[a0.v, (Slc.mk (some p6) 1 1).v]) t8.v w5 w7) ∧
  ∃ (t10 : Slc) (w9 : World), (∀ t, rn Try.prog (Builtin.append_ #[25, 9] t #[t8.v, .string a1]) t10.v w7 w9) ∧
  K t10 w9

/-- caravel/caravelref11.long -/
def C25 (a0 : Slc) (a1 : Slc) (w : World) (K : Slc → World → Prop) : Prop := CallsV Try.prog 25 #[a0.v, a1.v] w fun v w' => ∃ (r0 : Slc), v = r0.v ∧ K r0 w'
theorem C25.mono {a0 : Slc} {a1 : Slc} {w : World} {K : Slc → World → Prop} (h : C25 a0 a1 w K) {K' : Slc → World → Prop} (hk : ∀ r0 w', K r0 w' → K' r0 w') : C25 a0 a1 w K' :=
  CallsV.mono h fun v w' ⟨r0, e, h⟩ => ⟨r0, e, hk _ w' h⟩
def sh25 (a0 : Slc) (a1 : Slc) (w : World) (K : Slc → World → Prop) : Prop :=
  newV 5 #[.int .u8 (IntKind.u8.wrap (IntKind.i64.wrap ((a1.len : Int).tdiv 256))), .int .u8 (IntKind.u8.wrap (a1.len : Int))] w fun p6 w5 =>
  ∃ (t8 : Slc) (w7 : World), (∀ t, rn Try.prog (Builtin.append_ #[25, 25] t #[a0.v, (Slc.mk (some p6) 2 2).v]) t8.v w5 w7) ∧
  ∃ (t10 : Slc) (w9 : World), (∀ t, rn Try.prog (Builtin.append_ #[25, 25] t #[t8.v, a1.v]) t10.v w7 w9) ∧
  K t10 w9

/-- caravel/caravelref11.flag -/
def C24 (a0 : Slc) (a1 : Bool) (a2 : Bool) (w : World) (K : Slc → World → Prop) : Prop := CallsV Try.prog 24 #[a0.v, .bool a1, .bool a2] w fun v w' => ∃ (r0 : Slc), v = r0.v ∧ K r0 w'
theorem C24.mono {a0 : Slc} {a1 : Bool} {a2 : Bool} {w : World} {K : Slc → World → Prop} (h : C24 a0 a1 a2 w K) {K' : Slc → World → Prop} (hk : ∀ r0 w', K r0 w' → K' r0 w') : C24 a0 a1 a2 w K' :=
  CallsV.mono h fun v w' ⟨r0, e, h⟩ => ⟨r0, e, hk _ w' h⟩
def sh24 (a0 : Slc) (a1 : Bool) (a2 : Bool) (w : World) (K : Slc → World → Prop) : Prop :=
  jn (fun (v7 : Int) w8 =>
  jn (fun (v13 : Int) w14 =>
  newV 5 #[.int .u8 v13] w14 fun p20 w19 =>
  ∃ (t22 : Slc) (w21 : World), (∀ t, rn Try.prog (Builtin.append_ #[25, 25] t #[a0.v, (Slc.mk (some p20) 1 1).v]) t22.v w19 w21) ∧
  K t22 w21) fun J15 =>
  ifM a2
  (J15 (IntKind.u8.wrap (v7 + 2)) w8)
  (J15 v7 w8)) fun J9 =>
  ifM a1
  (J9 (IntKind.u8.wrap (0 + 1)) w)
  (J9 0 w)

/-- caravel/caravelref11.body -/
def C17 (a0 : Array Value) (w : World) (K : Slc → World → Prop) : Prop := CallsV Try.prog 17 #[.agg a0] w fun v w' => ∃ (r0 : Slc), v = r0.v ∧ K r0 w'
theorem C17.mono {a0 : Array Value} {w : World} {K : Slc → World → Prop} (h : C17 a0 w K) {K' : Slc → World → Prop} (hk : ∀ r0 w', K r0 w' → K' r0 w') : C17 a0 w K' :=
  CallsV.mono h fun v w' ⟨r0, e, h⟩ => ⟨r0, e, hk _ w' h⟩
def sh17 (a0 : Array Value) (w : World) (K : Slc → World → Prop) : Prop :=
  newV 34 a0 w fun p3 w4 =>
  jn (fun (v9 : Slc) w10 =>
  K v9 w10) fun J11 =>
  ldI .i64 p3 w4 fun t17 =>
  ifM (t17 == 1)
  (drw w4 fun w22 =>
  ∃ (t24 : Slc) (w23 : World), (∀ t, rn Try.prog (Builtin.append_ #[25, 25] t #[Slc.nil.v, (Slc.sub ⟨some (p3.add 1), 16, 16⟩ 1 0 16 16).v]) t24.v w22 w23) ∧
  ∃ (t26 : Slc) (w25 : World), (∀ t, rn Try.prog (Builtin.append_ #[25, 25] t #[t24.v, (Slc.sub ⟨some (p3.add 17), 16, 16⟩ 1 0 16 16).v]) t26.v w23 w25) ∧
  drw w25 fun w29 =>
  jn (fun (v30 : Slc) w31 =>
  jn (fun (v36 : Slc) w37 =>
  drw w37 fun w42 =>
  ldL (p3.add 35) w42 fun t43 =>
  ldL (p3.add 36) w42 fun t44 =>
  ldB (p3.add 53) w42 fun t45 =>
  C25 v36 t43 w42 fun r47 w46 =>
  World.cell? w46 (p3.add 53) = some (.bool t45) ∧ World.cell? w46 (p3.add 36) = some (t44.v) ∧ C24 r47 (decide ((t44.len : Int) > 0)) t45 w46 fun r51 w50 =>
  ldL (p3.add 36) w50 fun t54 =>
  ifM (decide ((t54.len : Int) > 0))
  (drw w50 fun w57 =>
  ldL (p3.add 36) w57 fun t58 =>
  C25 r51 t58 w57 fun r60 w59 =>
  ∃ (t62 : Slc) (w61 : World), (∀ t, rn Try.prog (Builtin.append_ #[25, 25] t #[r60.v, (Slc.sub ⟨some (p3.add 37), 16, 16⟩ 1 0 16 16).v]) t62.v w59 w61) ∧
  J11 t62 w61)
  (J11 r51 w50)) fun J38 =>
  Lp (fun (s65 : Slc × Int) N67 w66 =>
  jn (fun (v71 : Unit) w72 =>
  jn (fun (v77 : Slc) w78 =>
  N67 (v77, IntKind.i64.wrap (s65.2 + 1)) w78) fun J79 =>
  ldL (p3.add 34) w72 fun t85 =>
  idx 1 t85 s65.2 fun p86 =>
  ldS p86 w72 fun t88 =>
  C23 s65.1 t88 w72 fun r90 w89 =>
  J79 r90 w89) fun J73 =>
  ldL (p3.add 34) w66 fun t93 =>
  ifM (decide (s65.2 < (t93.len : Int)))
  (J73 () w66)
  (J38 s65.1 w66)) (v30, 0) w31) fun J32 =>
  ldS (p3.add 33) w29 fun t94 =>
  ldL (p3.add 34) w29 fun t95 =>
  (C23 t26 t94 w29 fun r99 w98 =>
  World.cell? w98 (p3.add 34) = some (t95.v) ∧ newV 5 #[.int .u8 (IntKind.u8.wrap (t95.len : Int))] w98 fun p102 w101 =>
  ∃ (t104 : Slc) (w103 : World), (∀ t, rn Try.prog (Builtin.append_ #[25, 25] t #[r99.v, (Slc.mk (some p102) 1 1).v]) t104.v w101 w103) ∧
  J32 t104 w103) ∧
  (newV 5 #[.int .u8 (IntKind.u8.wrap (t95.len : Int))] w29 fun p106 w105 =>
  World.cell? w105 (p3.add 33) = some (.string t94) ∧ C23 t26 t94 w105 fun r109 w108 =>
  ∃ (t111 : Slc) (w110 : World), (∀ t, rn Try.prog (Builtin.append_ #[25, 25] t #[r109.v, (Slc.mk (some p106) 1 1).v]) t111.v w108 w110) ∧
  J32 t111 w110))
  (ifM (t17 == 2)
  (drw w4 fun w116 =>
  ∃ (t118 : Slc) (w117 : World), (∀ t, rn Try.prog (Builtin.append_ #[25, 25] t #[Slc.nil.v, (Slc.sub ⟨some (p3.add 1), 16, 16⟩ 1 0 16 16).v]) t118.v w116 w117) ∧
  ∃ (t120 : Slc) (w119 : World), (∀ t, rn Try.prog (Builtin.append_ #[25, 25] t #[t118.v, (Slc.sub ⟨some (p3.add 17), 16, 16⟩ 1 0 16 16).v]) t120.v w117 w119) ∧
  ldB (p3.add 54) w119 fun t123 =>
  C24 t120 t123 false w119 fun r125 w124 =>
  J11 r125 w124)
  (ifM (t17 == 4)
  (ldI .i64 (p3.add 71) w4 fun t130 =>
  ldI .i64 (p3.add 71) w4 fun t131 =>
  ldI .i64 (p3.add 71) w4 fun t132 =>
  ldI .i64 (p3.add 71) w4 fun t133 =>
  newV 5 #[.int .u8 (IntKind.u8.wrap (shrZ .i64 t130 24)), .int .u8 (IntKind.u8.wrap (shrZ .i64 t131 16)), .int .u8 (IntKind.u8.wrap (shrZ .i64 t132 8)), .int .u8 (IntKind.u8.wrap t133)] w4 fun p135 w134 =>
  ∃ (t137 : Slc) (w136 : World), (∀ t, rn Try.prog (Builtin.append_ #[25, 25] t #[Slc.nil.v, (Slc.mk (some p135) 4 4).v]) t137.v w134 w136) ∧
  drw w136 fun w140 =>
  ldL (p3.add 36) w140 fun t141 =>
  ldB (p3.add 53) w140 fun t142 =>
  C25 t137 t141 w140 fun r144 w143 =>
  World.cell? w143 (p3.add 53) = some (.bool t142) ∧ C24 r144 t142 false w143 fun r147 w146 =>
  J11 r147 w146)
  (ifM (t17 == 8)
  (drw w4 fun w152 =>
  ldL (p3.add 34) w152 fun t153 =>
  idx 1 t153 0 fun p154 =>
  ldS p154 w152 fun t156 =>
  ldL (p3.add 35) w152 fun t157 =>
  ldB (p3.add 53) w152 fun t158 =>
  C23 Slc.nil t156 w152 fun r160 w159 =>
  World.cell? w159 (p3.add 53) = some (.bool t158) ∧ World.cell? w159 (p3.add 35) = some (t157.v) ∧ C25 r160 t157 w159 fun r164 w163 =>
  World.cell? w163 (p3.add 53) = some (.bool t158) ∧ C24 r164 t158 false w163 fun r167 w166 =>
  J11 r167 w166)
  (ifM (t17 == 11)
  (drw w4 fun w172 =>
  ldS (p3.add 33) w172 fun t173 =>
  C23 Slc.nil t173 w172 fun r175 w174 =>
  ∃ (t177 : Slc) (w176 : World), (∀ t, rn Try.prog (Builtin.append_ #[25, 25] t #[r175.v, (Slc.sub ⟨some (p3.add 55), 16, 16⟩ 1 0 16 16).v]) t177.v w174 w176) ∧
  J11 t177 w176)
  (jn (fun (v180 : Bool) w181 =>
  ifM v180
  (∃ (t187 : Slc) (w186 : World), (∀ t, rn Try.prog (Builtin.append_ #[25, 25] t #[Slc.nil.v, (Slc.sub ⟨some (p3.add 55), 16, 16⟩ 1 0 16 16).v]) t187.v w181 w186) ∧
  J11 t187 w186)
  (J11 Slc.nil w181)) fun J182 =>
  ifM (t17 == 15)
  (J182 (t17 == 15) w4)
  (J182 (t17 == 20) w4))))))

/-- caravel/caravelref11.Put -/
def C6 (a0 : Array Value) (w : World) (K : Slc → Int → World → Prop) : Prop := CallsV Try.prog 6 #[.agg a0] w fun v w' => ∃ (r0 : Slc) (r1 : Int), v = .tuple #[r0.v, .int .i64 r1] ∧ K r0 r1 w'
theorem C6.mono {a0 : Array Value} {w : World} {K : Slc → Int → World → Prop} (h : C6 a0 w K) {K' : Slc → Int → World → Prop} (hk : ∀ r0 r1 w', K r0 r1 w' → K' r0 r1 w') : C6 a0 w K' :=
  CallsV.mono h fun v w' ⟨r0, r1, e, h⟩ => ⟨r0, r1, e, hk _ _ w' h⟩
def sh6 (a0 : Array Value) (w : World) (K : Slc → Int → World → Prop) : Prop :=
  newV 34 a0 w fun p3 w4 =>
  jn (fun (v7 : Unit) w8 =>
  jn (fun (v13 : Unit) w14 =>
  ldA 72 p3 w14 fun t19 =>
  C17 t19 w14 fun r21 w20 =>
  ldI .i64 p3 w20 fun t26 =>
  newV 5 #[.int .u8 (IntKind.u8.wrap t26), .int .u8 (IntKind.u8.wrap (shrZ .i64 (r21.len : Int) 16)), .int .u8 (IntKind.u8.wrap (shrZ .i64 (r21.len : Int) 8)), .int .u8 (IntKind.u8.wrap (r21.len : Int))] w20 fun p28 w27 =>
  ∃ (t30 : Slc) (w29 : World), (∀ t, rn Try.prog (Builtin.append_ #[25, 25] t #[(Slc.mk (some p28) 4 4).v, r21.v]) t30.v w27 w29) ∧
  K t30 0 w29) fun J15 =>
  ldA 72 p3 w8 fun t33 =>
  C16 t33 w8 fun r35 w34 =>
  ifM (!r35)
  (K Slc.nil 2 w34)
  (J15 () w34)) fun J9 =>
  ldI .i64 p3 w4 fun t40 =>
  C15 t40 w4 fun r42 w41 =>
  ifM (!r42)
  (K Slc.nil 12 w41)
  (J9 () w41)

/-- caravel/caravelref11.Bare -/
def C8 (a0 : Array Value) (w : World) (K : Slc → Int → World → Prop) : Prop := CallsV Try.prog 8 #[.agg a0] w fun v w' => ∃ (r0 : Slc) (r1 : Int), v = .tuple #[r0.v, .int .i64 r1] ∧ K r0 r1 w'
theorem C8.mono {a0 : Array Value} {w : World} {K : Slc → Int → World → Prop} (h : C8 a0 w K) {K' : Slc → Int → World → Prop} (hk : ∀ r0 r1 w', K r0 r1 w' → K' r0 r1 w') : C8 a0 w K' :=
  CallsV.mono h fun v w' ⟨r0, r1, e, h⟩ => ⟨r0, r1, e, hk _ _ w' h⟩
def sh8 (a0 : Array Value) (w : World) (K : Slc → Int → World → Prop) : Prop :=
  newV 34 a0 w fun p3 w4 =>
  jn (fun (v7 : Unit) w8 =>
  ldA 72 p3 w8 fun t13 =>
  C6 t13 w8 fun r15 r16 w14 =>
  jn (fun (v19 : Unit) w20 =>
  0 ≤ IntKind.i64.wrap ((r15.len : Int) - 16) ∧ IntKind.i64.wrap ((r15.len : Int) - 16) ≤ (r15.cap : Int) ∧ 
  K (r15.sub 1 0 ((IntKind.i64.wrap ((r15.len : Int) - 16)).toNat) r15.cap) 0 w20) fun J21 =>
  ifM (r16 != 0)
  (K Slc.nil r16 w14)
  (J21 () w14)) fun J9 =>
  jn (fun (v33 : Bool) w34 =>
  ifM v33
  (K Slc.nil 2 w34)
  (J9 () w34)) fun J35 =>
  ldI .i64 p3 w4 fun t39 =>
  ifM (t39 != 1)
  (J35 true w4)
  (ldL (p3.add 36) w4 fun t41 =>
  J35 ((t41.len : Int) == 0) w4)

/-- caravel/caravellaw11.names -/
def C9 (w : World) (K : Bool → World → Prop) : Prop := CallsV Try.prog 9 #[] w fun v w' => ∃ (r0 : Bool), v = .bool r0 ∧ K r0 w'
theorem C9.mono {w : World} {K : Bool → World → Prop} (h : C9 w K) {K' : Bool → World → Prop} (hk : ∀ r0 w', K r0 w' → K' r0 w') : C9 w K' :=
  CallsV.mono h fun v w' ⟨r0, e, h⟩ => ⟨r0, e, hk _ w' h⟩
def sh9 (w : World) (K : Bool → World → Prop) : Prop :=
  K true w

/-- caravel/caravellaw11.HelloPuts -/
def C3 (a0 : Array Value) (w : World) (K : Bool → World → Prop) : Prop := CallsV Try.prog 3 #[.agg a0] w fun v w' => ∃ (r0 : Bool), v = .bool r0 ∧ K r0 w'
theorem C3.mono {a0 : Array Value} {w : World} {K : Bool → World → Prop} (h : C3 a0 w K) {K' : Bool → World → Prop} (hk : ∀ r0 w', K r0 w' → K' r0 w') : C3 a0 w K' :=
  CallsV.mono h fun v w' ⟨r0, e, h⟩ => ⟨r0, e, hk _ w' h⟩
def sh3 (a0 : Array Value) (w : World) (K : Bool → World → Prop) : Prop :=
  newV 27 a0 w fun p3 w4 =>
  ldA 72 p3 w4 fun t7 =>
  C4 t7 w4 fun r9 r10 w8 =>
  ldA 72 p3 w8 fun t13 =>
  C5 t13 w8 fun r15 r16 w14 =>
  ldA 72 p3 w14 fun t19 =>
  C7 t19 w14 fun r21 w20 =>
  C6 r21 w20 fun r23 r24 w22 =>
  ldA 72 p3 w22 fun t27 =>
  C7 t27 w22 fun r29 w28 =>
  C8 r29 w28 fun r31 r32 w30 =>
  jn (fun (v35 : Unit) w36 =>
  jn (fun (v41 : Unit) w42 =>
  ldA 72 p3 w42 fun t47 =>
  C4 t47 w42 fun r49 r50 w48 =>
  jn (fun (v53 : Bool) w54 =>
  K v53 w54) fun J55 =>
  ∃ t57, rn Try.prog (convert 25 9 r49.v) (.string t57) w48 w48 ∧ 
  ∃ t58, rn Try.prog (convert 25 9 r23.v) (.string t58) w48 w48 ∧ 
  ifM (t57.toList == t58.toList)
  (C9 w48 fun r61 w60 =>
  J55 r61 w60)
  (J55 false w48)) fun J43 =>
  Lp (fun (s64 : Int) N66 w65 =>
  jn (fun (v70 : Unit) w71 =>
  jn (fun (v76 : Unit) w77 =>
  N66 (IntKind.i64.wrap (s64 + 1)) w77) fun J78 =>
  idx 1 r9 s64 fun p84 =>
  ldI .u8 p84 w71 fun t86 =>
  idx 1 r9 s64 fun p87 =>
  stV p87 (.int .u8 (IntKind.u8.wrap (t86 + 1))) w71 fun w89 =>
  J78 () w89) fun J72 =>
  ifM (decide (s64 < (r9.len : Int)))
  (J72 () w65)
  (J43 () w65)) 0 w36) fun J37 =>
  jn (fun (v94 : Bool) w95 =>
  ifM v94
  (K false w95)
  (J37 () w95)) fun J96 =>
  ∃ t100, rn Try.prog (convert 25 9 r9.v) (.string t100) w30 w30 ∧ 
  ∃ t101, rn Try.prog (convert 25 9 r23.v) (.string t101) w30 w30 ∧ 
  ifM (!(t100.toList == t101.toList))
  (J96 true w30)
  (ifM (r10 != r24)
  (J96 true w30)
  (∃ t104, rn Try.prog (convert 25 9 r15.v) (.string t104) w30 w30 ∧ 
  ∃ t105, rn Try.prog (convert 25 9 r31.v) (.string t105) w30 w30 ∧ 
  ifM (!(t104.toList == t105.toList))
  (J96 true w30)
  (J96 (r16 != r32) w30)))

/-- (caravel/hello.Message).named$1 -/
def C26 (a0 : ByteArray) (w : World) (K : Bool → World → Prop) : Prop := CallsV Try.prog 26 #[.string a0] w fun v w' => ∃ (r0 : Bool), v = .bool r0 ∧ K r0 w'
theorem C26.mono {a0 : ByteArray} {w : World} {K : Bool → World → Prop} (h : C26 a0 w K) {K' : Bool → World → Prop} (hk : ∀ r0 w', K r0 w' → K' r0 w') : C26 a0 w K' :=
  CallsV.mono h fun v w' ⟨r0, e, h⟩ => ⟨r0, e, hk _ w' h⟩
def sh26 (a0 : ByteArray) (w : World) (K : Bool → World → Prop) : Prop :=
  jn (fun (v5 : Bool) w6 =>
  K v5 w6) fun J7 =>
  ifM (decide ((a0.size : Int) < 1))
  (J7 true w)
  (J7 (decide ((a0.size : Int) > 255)) w)

end Go.Proofs.Yteoikkmpkhnalaa
