/-
  HelloPuts: what the row says, where what comes in is of bulk at most 1048576.
-/
import Derived.Test.YteoikkmpkhnalaaHL
import Derived.Test.YteoikkmpkhnalaaRows
import Derived.Test.YteoikkmpkhnalaaFo
namespace Go.Proofs.Yteoikkmpkhnalaa.helloPuts
open Go Go.Sh
open Go.ChangeShapes Go.WideShapes Go.ChangeAt Go.RowKit
set_option linter.unusedVariables false

theorem own : ownKnob Try.prog.godebug = none := by kernel_rfl

theorem one_le {H : Type} (d : DataW H) : 1 ≤ Rows.uptoBulk d := by
  cases d with
  | lit l => cases l <;> simp [Rows.uptoBulk]
  | nil => simp [Rows.uptoBulk]
  | ptr d => simp [Rows.uptoBulk]
  | slice elems spare => simp [Rows.uptoBulk]
  | agg parts => simp [Rows.uptoBulk]
  | iface t d => simp [Rows.uptoBulk]
  | map entries => simp [Rows.uptoBulk]
  | held h => simp [Rows.uptoBulk]
theorem bulk_len {H : Type} (l : List (DataW H)) : l.length ≤ Rows.uptoBulkAll l := by
  induction l with
  | nil => simp [Rows.uptoBulkAll]
  | cons x r ih =>
    have := one_le x
    simp only [Rows.uptoBulkAll, List.length_cons]
    omega
theorem bulk_in {H : Type} {l : List (DataW H)} {d : DataW H} (h : d ∈ l) : Rows.uptoBulk d ≤ Rows.uptoBulkAll l := by
  induction l with
  | nil => cases h
  | cons x r ih =>
    simp only [Rows.uptoBulkAll]
    rcases List.mem_cons.1 h with rfl | h
    · omega
    · have := ih h
      omega
theorem bulk_bytes {H : Type} {bs : List UInt8} {d : DataW H} (h : bs = [] ∨ ∃ elems spare, d = .slice elems spare ∧ bs.length = elems.length) : bs.length ≤ Rows.uptoBulk d := by
  rcases h with rfl | ⟨elems, spare, rfl, e⟩
  · simp
  · have h2 := bulk_len elems
    simp only [Rows.uptoBulk]
    omega
theorem bulk_strs {H : Type} {ss : List (List UInt8)} {d : DataW H} (h : ss = [] ∨ ∃ spare, d = .slice (ss.map fun s => .lit (.string s)) spare) : ss.length ≤ Rows.uptoBulk d ∧ ∀ s ∈ ss, s.length ≤ Rows.uptoBulk d := by
  rcases h with rfl | ⟨spare, rfl⟩
  · simp
  · have h2 := bulk_len (ss.map fun s => (.lit (.string s) : DataW H))
    simp only [List.length_map] at h2
    simp only [Rows.uptoBulk]
    refine ⟨by omega, fun s hs => ?_⟩
    have := bulk_in (H := H) (List.mem_map.2 ⟨s, hs, rfl⟩ : (.lit (.string s) : DataW H) ∈ ss.map fun s => .lit (.string s))
    simp only [Rows.uptoBulk] at this
    omega

/-- the kinds of a message's cells -/
def leaves : List TypeId := 3 :: (List.replicate 32 5 ++ (9 :: 24 :: 25 :: 25 :: (List.replicate 16 5 ++ (4 :: 4 :: (List.replicate 16 5 ++ [3])))))

theorem msg {H : Type} {enc : TypeId × Value → H} {W : World} {base : Nat} {v : Value} {d : DataW H} {p : List MemPlace} (hok : Value.okWide Try.prog W .any base 27 v)
    (h : DataW.Trod enc Try.prog W 0 (fun _ => true) true 27 v d p) (hb : Rows.uptoBulk d ≤ 1048576) : ∃ m q, v = .agg (mcells m q).toArray ∧ MsgAt W m q := by
  obtain ⟨cs, rfl, hsz, ts, hts, hcell⟩ := agg_cells Try.underlying27 hok
  have hts' : Try.prog.cellTypes Try.prog.depth 27 = some leaves := by kernel_rfl
  rw [hts'] at hts
  obtain rfl := Option.some.inj hts
  have h72 : cs.size = 72 := hsz.trans (by kernel_rfl)
  obtain ⟨fuel, hf⟩ := h
  obtain ⟨xs, n, _, hx, _, hlen, hfs⟩ := DataW.trod_struct Try.underlying27 hf
  simp only [Prod.mk.injEq] at hx
  obtain ⟨rfl, rfl⟩ := hx
  have hlen : xs.length = 12 := hlen
  have hl : cs.toList.length = 72 := by simpa using h72
  simp only [Value.cells] at hfs
  generalize hcl : cs.toList = l at hfs hl
  have hcell' : ∀ (i : Nat) v, l[i]? = some v → ∀ u, leaves[i]? = some u → i < 72 → Cell.okWide Try.prog W .any base u v := fun i v hv u hu hi => by
    subst hcl
    obtain ⟨u', h1, h2⟩ := hcell i v (by simpa using hv)
    have e : i % 72 = i := Nat.mod_eq_of_lt hi
    have h1' : leaves[i % 72]? = some u' := h1
    rw [e, hu] at h1'
    rw [Option.some.inj h1']
    exact h2
  have g : ∀ i (hi : i < 12), xs[i]? = some xs[i] := fun i hi => List.getElem?_eq_getElem (by omega)
  have c1 : Try.prog.cellsOf 3 = 1 := by kernel_rfl
  have c2 : Try.prog.cellsOf 23 = 16 := by kernel_rfl
  have c3 : Try.prog.cellsOf 9 = 1 := by kernel_rfl
  have c4 : Try.prog.cellsOf 24 = 1 := by kernel_rfl
  have c5 : Try.prog.cellsOf 25 = 1 := by kernel_rfl
  have c6 : Try.prog.cellsOf 4 = 1 := by kernel_rfl
  have c7 : Try.prog.cellsOf 5 = 1 := by kernel_rfl
  have f0 : DataW.trod enc Try.prog W 0 (fun _ => true) true n 3 ((l.drop 0).take (Try.prog.cellsOf 3)) = some xs[0] := (hfs 0 _ rfl).trans (g 0 (by omega))
  have f1 : DataW.trod enc Try.prog W 0 (fun _ => true) true n 23 ((l.drop 1).take (Try.prog.cellsOf 23)) = some xs[1] := (hfs 1 _ rfl).trans (g 1 (by omega))
  have f2 : DataW.trod enc Try.prog W 0 (fun _ => true) true n 23 ((l.drop 17).take (Try.prog.cellsOf 23)) = some xs[2] := (hfs 2 _ rfl).trans (g 2 (by omega))
  have f3 : DataW.trod enc Try.prog W 0 (fun _ => true) true n 9 ((l.drop 33).take (Try.prog.cellsOf 9)) = some xs[3] := (hfs 3 _ rfl).trans (g 3 (by omega))
  have f4 : DataW.trod enc Try.prog W 0 (fun _ => true) true n 24 ((l.drop 34).take (Try.prog.cellsOf 24)) = some xs[4] := (hfs 4 _ rfl).trans (g 4 (by omega))
  have f5 : DataW.trod enc Try.prog W 0 (fun _ => true) true n 25 ((l.drop 35).take (Try.prog.cellsOf 25)) = some xs[5] := (hfs 5 _ rfl).trans (g 5 (by omega))
  have f6 : DataW.trod enc Try.prog W 0 (fun _ => true) true n 25 ((l.drop 36).take (Try.prog.cellsOf 25)) = some xs[6] := (hfs 6 _ rfl).trans (g 6 (by omega))
  have f7 : DataW.trod enc Try.prog W 0 (fun _ => true) true n 23 ((l.drop 37).take (Try.prog.cellsOf 23)) = some xs[7] := (hfs 7 _ rfl).trans (g 7 (by omega))
  have f8 : DataW.trod enc Try.prog W 0 (fun _ => true) true n 4 ((l.drop 53).take (Try.prog.cellsOf 4)) = some xs[8] := (hfs 8 _ rfl).trans (g 8 (by omega))
  have f9 : DataW.trod enc Try.prog W 0 (fun _ => true) true n 4 ((l.drop 54).take (Try.prog.cellsOf 4)) = some xs[9] := (hfs 9 _ rfl).trans (g 9 (by omega))
  have f10 : DataW.trod enc Try.prog W 0 (fun _ => true) true n 23 ((l.drop 55).take (Try.prog.cellsOf 23)) = some xs[10] := (hfs 10 _ rfl).trans (g 10 (by omega))
  have f11 : DataW.trod enc Try.prog W 0 (fun _ => true) true n 3 ((l.drop 71).take (Try.prog.cellsOf 3)) = some xs[11] := (hfs 11 _ rfl).trans (g 11 (by omega))
  rw [c1] at f0 f11; rw [c2] at f1 f2 f7 f10; rw [c3] at f3; rw [c4] at f4; rw [c5] at f5 f6; rw [c6] at f8 f9
  have len16 : ∀ o, o + 16 ≤ 72 → ((l.drop o).take 16).length = 16 := fun o ho => by simp; omega
  have one1 : ∀ o, o < 72 → ∃ v, (l.drop o).take 1 = [v] ∧ l[o]? = some v := fun o ho => by
    refine ⟨l[o]'(by omega), ?_, List.getElem?_eq_getElem _⟩
    apply List.ext_getElem
    · simp; omega
    · intro i h1 h2
      have : i = 0 := by simp at h2; omega
      subst this
      simp
  obtain ⟨kind, e0, _, _⟩ := DataW.trod_int Try.underlying3 f0
  obtain ⟨h1, e1⟩ := open_hd Try.underlying23 Try.underlying5 c7 (len16 1 (by omega)) f1
  obtain ⟨h2, e2⟩ := open_hd Try.underlying23 Try.underlying5 c7 (len16 17 (by omega)) f2
  obtain ⟨nm, e3, x3, _⟩ := DataW.trod_string Try.underlying9 f3
  obtain ⟨v4, e4, g4⟩ := one1 34 (by omega)
  rw [e4] at f4
  obtain ⟨s4, ss, rfl, r4, _, b4⟩ := open_strsC Try.underlying24 Try.underlying9 c3 (hcell' 34 _ g4 _ rfl (by omega)) f4
  obtain ⟨v5, e5, g5⟩ := one1 35 (by omega)
  rw [e5] at f5
  obtain ⟨s5, b5, rfl, r5, _, k5⟩ := open_bytesC Try.underlying25 Try.underlying5 c7 (hcell' 35 _ g5 _ rfl (by omega)) f5
  obtain ⟨v6, e6, g6⟩ := one1 36 (by omega)
  rw [e6] at f6
  obtain ⟨s6, b6, rfl, r6, _, k6⟩ := open_bytesC Try.underlying25 Try.underlying5 c7 (hcell' 36 _ g6 _ rfl (by omega)) f6
  obtain ⟨h7, e7⟩ := open_hd Try.underlying23 Try.underlying5 c7 (len16 37 (by omega)) f7
  obtain ⟨q8, e8, _⟩ := DataW.trod_bool Try.underlying4 f8
  obtain ⟨q9, e9, _⟩ := DataW.trod_bool Try.underlying4 f9
  obtain ⟨h10, e10⟩ := open_hd Try.underlying23 Try.underlying5 c7 (len16 55 (by omega)) f10
  obtain ⟨life, e11, _, _⟩ := DataW.trod_int Try.underlying3 f11
  have bin : ∀ i (hi : i < 12), Rows.uptoBulk (xs[i]).1 ≤ 1048576 := fun i hi => by
    have h1 := bulk_in (List.mem_map.2 ⟨xs[i], List.getElem_mem _, rfl⟩ : (xs[i]).1 ∈ xs.map (·.1))
    simp only [Rows.uptoBulk] at hb
    omega
  have z3 := bin 3 (by omega)
  have z4 := bin 4 (by omega)
  have z5 := bin 5 (by omega)
  have z6 := bin 6 (by omega)
  have t4 : ss.length ≤ Rows.uptoBulk (xs[4]).1 ∧ ∀ s ∈ ss, s.length ≤ Rows.uptoBulk (xs[4]).1 := bulk_strs b4
  have t5 : b5.length ≤ Rows.uptoBulk (xs[5]).1 := bulk_bytes k5
  have t6 : b6.length ≤ Rows.uptoBulk (xs[6]).1 := bulk_bytes k6
  have t3 : nm.data.toList.length ≤ 1048576 := by
    rw [x3] at z3
    simp only [Rows.uptoBulk] at z3
    omega
  let m : Msg := ⟨kind, h1, h2, nm.data.toList, ss, b5, b6, h7, q8, q9, h10, life⟩
  refine ⟨m, ⟨s4, s5, s6⟩, ?_, ⟨r4, r5, r6, Nat.lt_of_le_of_lt t3 (by omega), Nat.lt_of_le_of_lt (Nat.le_trans t4.1 z4) (by omega), fun s hs => Nat.lt_of_le_of_lt (Nat.le_trans (t4.2 s hs) z4) (by omega), Nat.lt_of_le_of_lt (Nat.le_trans t5 z5) (by omega), Nat.lt_of_le_of_lt (Nat.le_trans t6 z6) (by omega)⟩⟩
  have key : l = mcells m ⟨s4, s5, s6⟩ := by
    have a0 := cut_at l 0 1
    have a1 := cut_at l 1 16
    have a2 := cut_at l 17 16
    have a3 := cut_at l 33 1
    have a4 := cut_at l 34 1
    have a5 := cut_at l 35 1
    have a6 := cut_at l 36 1
    have a7 := cut_at l 37 16
    have a8 := cut_at l 53 1
    have a9 := cut_at l 54 1
    have a10 := cut_at l 55 16
    have a11 := cut_at l 71 1
    have a12 : l.drop 72 = [] := List.drop_eq_nil_of_le (by omega)
    rw [e0] at a0; rw [e1] at a1; rw [e2] at a2; rw [e3] at a3; rw [e4] at a4; rw [e5] at a5; rw [e6] at a6; rw [e7] at a7; rw [e8] at a8; rw [e9] at a9; rw [e10] at a10; rw [e11] at a11
    simp only [Nat.zero_add, Nat.reduceAdd] at a0 a1 a2 a3 a4 a5 a6 a7 a8 a9 a10 a11
    rw [List.drop_zero] at a0
    rw [a0, a1, a2, a3, a4, a5, a6, a7, a8, a9, a10, a11, a12]
    simp [mcells, hc, sv, m]
  rw [← hcl] at key
  congr 1
  apply Array.ext'
  exact key

theorem contract (H : Type) (enc : TypeId × Value → H) (W : World) (base : Nat) (args : Array Value) (ds gs : List (DataW H)) (before : List MemPlace)
    (hval : ∀ (j : Nat) t v, Try.f3.params[j]? = some t → args[j]? = some v → Value.okWide Try.prog W .any base t v)
    (hW : DataW.Whole enc Try.prog Try.f3.params.toList Rows.helloPutsSpec.vars false W args.toList ds gs before)
    (hk : Rows.uptoSmall H (ds ++ gs) = true) :
    Calls Try.prog 3 args W fun e W' => ∃ v, e = .returned v ∧ Rows.helloPutsSpec.post enc Try.prog Try.f3 false true false false W args v W' := by
  have hW' := hW
  obtain ⟨p, q, hA0, hV, rfl, hfz, hnd⟩ := hW
  have hA : DataW.TrodAll enc Try.prog W 0 (fun _ => true) true Try.f3.params.toList args.toList ds p := hA0
  rw [Try.params3] at hA hval
  obtain ⟨v0, vs0, d0, ds0, p0, q0, hargs, rfl, rfl, h0, r0⟩ := trodAll_cons hA
  obtain ⟨rfl, rfl, rfl⟩ := trodAll_nil r0
  obtain rfl : args = #[v0] := by cases args; simp_all
  obtain ⟨rfl, rfl⟩ := trodVars_none hV
  have h3 := of_decide_eq_true hk
  simp only [List.append_nil, Rows.uptoBulkAll] at h3
  obtain ⟨m, pts, rfl, hm⟩ := msg (hval 0 _ v0 rfl rfl) h0 (by omega)
  refine Calls.mono (law_puts hm (K := fun r w' => r = true ∧ Sh.Mod No W w') fun w' hm => ⟨rfl, hm⟩) fun e W1 h => ?_
  cases e with
  | returned v =>
    obtain ⟨r, rfl, rfl, hm⟩ := h
    exact ⟨_, rfl, post_true (tb := 4) (by kernel_rfl) (by decide +kernel) Try.underlying4 rfl rfl rfl rfl rfl hW' hm⟩
  | _ => exact h.elim

set_option maxRecDepth 100000 in
theorem lifted (os : Os) (started : os.Started) (H : Type) (enc : TypeId × Value → H) (F : Stop.Interp) :
    ReturnsInHanded {} Try.checked os 3 .any ((Rows.OpenSpec.upto Rows.helloPutsSpec).pre6 enc Try.prog Try.f3 Rows.helloPutsUptoRow.domain false) (((Rows.OpenSpec.upto Rows.helloPutsSpec).at F).post enc Try.prog Try.f3 false true false false) := by
  refine returnsInHanded_of_cond (C := Try.checked) (s := Rows.OpenSpec.upto Rows.helloPutsSpec) (k := Rows.uptoSmall) rfl own started (by kernel_rfl) Try.func3
    (OpenSpec.witness (enc := enc) (C := Try.checked) (s := Rows.OpenSpec.upto Rows.helloPutsSpec) (k := Rows.uptoSmall) rfl false ⟨#[], #[.agg Z34], []⟩ 8 (by kernel_rfl) (by kernel_rfl) (by kernel_rfl)
      (x := ([.agg [.lit (.int .i64 0), .agg (List.replicate 16 (.lit (.int .u8 0))), .agg (List.replicate 16 (.lit (.int .u8 0))), .lit (.string []), .nil, .nil, .nil, .agg (List.replicate 16 (.lit (.int .u8 0))), .lit (.bool false), .lit (.bool false), .agg (List.replicate 16 (.lit (.int .u8 0))), .lit (.int .i64 0)]], [], [])) (by kernel_rfl) rfl (by kernel_rfl)) ?_
  intro W base args ds gs before hval hW _ hk _
  exact contract H enc W base args ds gs before hval hW hk

theorem over : Rows.helloPutsUptoRow.holds Try.pinned (Rows.OpenSpec.upto Rows.helloPutsSpec) :=
  OpenClaim.holds_of_cond 3 Try.f3 rfl rfl rfl rfl rfl rfl rfl ⟨rfl, rfl, rfl, rfl, rfl⟩ rfl rfl rfl rfl rfl (by kernel_rfl) Try.func3 (by kernel_rfl)
    (of_decide_eq_true (by kernel_rfl)) (by unfold Func.isWrapper; first | (rw [if_pos (by decide +kernel)]; kernel_rfl) | (rw [if_neg (by decide +kernel)]; exact ⟨rfl, rfl⟩))
    (fun os started H enc _ F => lifted os started H enc F)

theorem proved : Rows.HelloPutsUptoSaid :=
  over
end Go.Proofs.Yteoikkmpkhnalaa.helloPuts
