/-
  OutboxArrives: what the row says.
-/
import Derived.Test.YtfgodebgjemljaaOM5
import Derived.Test.YtfgodebgjemljaaRows
import Derived.Test.YtfgodebgjemljaaFo2
import Derived.SizedLaws
namespace Go.Proofs.Ytfgodebgjemljaa.outboxArrives
open Go Go.Sh
open Go.ChangeShapes Go.WideShapes Go.ChangeAt Go.RowKit
set_option linter.unusedVariables false

theorem own : ownKnob Try.prog.godebug = none := by kernel_rfl

theorem len1 {l : List Value} {v : Value} {o : Nat} (h : (l.drop o).take 1 = [v]) : l[o]? = some v := take1 h

set_option maxRecDepth 100000 in
theorem fates {H : Type} {enc : TypeId × Value → H} {W : World} {base : Nat} {v : Value} {d : DataW H} {p : List MemPlace} (hok : Value.okWide Try.prog W .any base 57 v) (h : DataW.Trod enc Try.prog W 0 (fun _ => true) true 57 v d p) :
    ∃ (y : Slc) (fs : List (Int × Bool × Bool)), v = y.v ∧ RdS W 3 y (fs.flatMap fv) ∧ y.len ≤ y.cap ∧ ((fs = [] ∧ y = Slc.nil ∧ d = .nil) ∨ ∃ elems spare, d = .slice elems spare ∧ fs.length = elems.length) := by
  refine open_elems (f := fv) (m := 3) (fun x => rfl) (by decide) Try.underlying57 (by kernel_rfl) hok h fun n cs y a _ _ hl ht => ?_
  obtain ⟨xs, n', _, _, _, hxl, hfs⟩ := DataW.trod_struct Try.underlying62 ht
  have hxl : xs.length = 3 := hxl
  have c1 : Try.prog.cellsOf 3 = 1 := by kernel_rfl
  have c2 : Try.prog.cellsOf 4 = 1 := by kernel_rfl
  have g : ∀ i (hi : i < 3), xs[i]? = some (xs[i]'(by omega)) := fun i hi => List.getElem?_eq_getElem _
  have f0 : DataW.trod enc Try.prog W 0 (fun _ => true) true n' 3 ((cs.drop 0).take (Try.prog.cellsOf 3)) = some xs[0] := (hfs 0 _ rfl).trans (g 0 (by omega))
  have f1 : DataW.trod enc Try.prog W 0 (fun _ => true) true n' 4 ((cs.drop 1).take (Try.prog.cellsOf 4)) = some xs[1] := (hfs 1 _ rfl).trans (g 1 (by omega))
  have f2 : DataW.trod enc Try.prog W 0 (fun _ => true) true n' 4 ((cs.drop 2).take (Try.prog.cellsOf 4)) = some xs[2] := (hfs 2 _ rfl).trans (g 2 (by omega))
  rw [c1] at f0
  rw [c2] at f1 f2
  obtain ⟨x0, e0, _, _⟩ := DataW.trod_int Try.underlying3 f0
  obtain ⟨x1, e1, _⟩ := DataW.trod_bool Try.underlying4 f1
  obtain ⟨x2, e2, _⟩ := DataW.trod_bool Try.underlying4 f2
  refine ⟨(x0, x1, x2), ?_⟩
  obtain ⟨a0, a1, a2, rfl⟩ : ∃ a0 a1 a2, cs = [a0, a1, a2] := by
    match cs, hl with
    | [a0, a1, a2], _ => exact ⟨a0, a1, a2, rfl⟩
  simp only [List.drop_zero, List.take_succ_cons, List.take_zero, List.cons.injEq, and_true, List.drop_succ_cons] at e0 e1 e2
  rw [e0, e1, e2]

set_option maxRecDepth 100000 in
theorem contract (H : Type) (enc : TypeId × Value → H) (W : World) (base : Nat) (args : Array Value) (ds gs : List (DataW H)) (before : List MemPlace)
    (hval : ∀ (j : Nat) t v, Try.f5.params[j]? = some t → args[j]? = some v → Value.okWide Try.prog W .any base t v)
    (hW : DataW.Whole enc Try.prog Try.f5.params.toList Rows.outboxArrivesSpec.vars false W args.toList ds gs before)
    (hz : (DataW.weightsEach Try.prog (Try.f5.params.toList ++ Rows.outboxArrivesSpec.plain.varTypes Try.prog) (ds ++ gs)).all (· ≤ reachBytes) = true) :
    Calls Try.prog 5 args W fun e W' => ∃ v, e = .returned v ∧ Rows.outboxArrivesSpec.post enc Try.prog Try.f5 false true false false W args v W' := by
  have hW' := hW
  obtain ⟨p, q, hA0, hV, rfl, hfz, hnd⟩ := hW
  have hA : DataW.TrodAll enc Try.prog W 0 (fun _ => true) true Try.f5.params.toList args.toList ds p := hA0
  rw [Try.params5] at hA hval hz
  obtain ⟨v0, vs0, d0, ds0, p0, q0, hargs, rfl, rfl, h0, r0⟩ := trodAll_cons hA
  obtain ⟨v1, vs1, d1, ds1, p1, q1, rfl, rfl, rfl, h1, r1⟩ := trodAll_cons r0
  obtain ⟨rfl, rfl, rfl⟩ := trodAll_nil r1
  obtain rfl : args = #[v0, v1] := by cases args; simp_all
  obtain ⟨rfl, rfl⟩ := trodVars_none hV
  obtain ⟨x, bs, rfl, hx1, hx2, hx3⟩ := open_bytes Try.underlying22 Try.underlying5 (by kernel_rfl) (hval 0 _ v0 rfl rfl) h0
  obtain ⟨y, fs, rfl, hy1, hy2, hy3⟩ := fates (hval 1 _ v1 rfl rfl) h1
  have hF : fs.length < 1000000000000000 := by
    rcases hy3 with ⟨rfl, _⟩ | ⟨elems, spare, rfl, e⟩
    · simp
    · have hb : Try.prog.bytesOf 62 = 16 := by kernel_rfl
      have hmem : (elems.length + spare.length) * 16 ∈ DataW.weightsEach Try.prog ([22, 57] ++ Rows.outboxArrivesSpec.plain.varTypes Try.prog) ([d0, .slice elems spare] ++ []) := by
        simp only [List.cons_append, List.nil_append, DataW.weightsEach, DataW.weights, Try.underlying57, hb]
        simp
      have := List.all_eq_true.1 hz _ hmem
      have h2 : (elems.length + spare.length) * 16 ≤ 140737488351232 := of_decide_eq_true this
      omega
  refine Calls.mono (law_arrives hx1 hx2 hy1 hF) fun e W1 h => ?_
  cases e with
  | returned v =>
    obtain ⟨r, rfl, rfl, hm⟩ := h
    exact ⟨_, rfl, post_true (tb := 4) (by kernel_rfl) (by decide +kernel) Try.underlying4 rfl rfl rfl rfl rfl hW' hm⟩
  | _ => exact h.elim

set_option maxRecDepth 100000 in
theorem lifted (os : Os) (started : os.Started) (H : Type) (enc : TypeId × Value → H) :
    ReturnsInHanded {} Try.checked os 5 .any ((OpenSpec.ofChange Rows.outboxArrivesSpec).pre6 enc Try.prog Try.f5 Rows.outboxArrivesRow.domain false) (Rows.outboxArrivesSpec.post enc Try.prog Try.f5 false true false false) := by
  refine returnsInHanded_of_change_sized (C := Try.checked) (s := Rows.outboxArrivesSpec) own started (by kernel_rfl) Try.func5
    (ChangeSpec.witness6 (enc := enc) (C := Try.checked) false ⟨#[], #[.slice none 0 0, .slice none 0 0], []⟩ 8 (by kernel_rfl) (by kernel_rfl) (by kernel_rfl) (by kernel_rfl)) ?_
  intro W base args ds gs before hval hW _ hz _
  exact contract H enc W base args ds gs before hval hW hz

theorem over : Rows.outboxArrivesRow.holds Try.pinned (OpenSpec.ofChange Rows.outboxArrivesSpec) :=
  OpenClaim.holds_of_wide 5 Try.f5 rfl rfl rfl rfl rfl rfl rfl ⟨rfl, rfl, rfl, rfl, rfl⟩ rfl rfl rfl rfl rfl (by kernel_rfl) Try.func5 (by kernel_rfl)
    (of_decide_eq_true (by kernel_rfl)) (by unfold Func.isWrapper; first | (rw [if_pos (by decide +kernel)]; kernel_rfl) | (rw [if_neg (by decide +kernel)]; exact ⟨rfl, rfl⟩))
    (fun os started H enc _ => lifted os started H enc)

theorem proved : Rows.OutboxArrivesSaid :=
  over
end Go.Proofs.Ytfgodebgjemljaa.outboxArrives
