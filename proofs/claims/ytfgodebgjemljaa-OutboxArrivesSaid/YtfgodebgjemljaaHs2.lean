/-
  make, bytes and strings, parts of slices.
-/
import Derived.Test.YtfgodebgjemljaaHs
import Derived.Laws.BytesArg
namespace Go.Sh
set_option linter.unusedVariables false
set_option linter.unusedSimpArgs false

def u8 (b : UInt8) : Value := .int .u8 b.toNat

section
variable {P : Program} {e t t' : TypeId} {m B : Nat} {z : Value}

theorem run_make (E : ElemT P e 1 B z) (hz1 : one z = true) {w : World} {n : Int} (hu : ∀ w, (underlying t).run P w = .ok (.slice e) w) (h0 : 0 ≤ n) (h1 : n ≤ 9223372036854775807) (hb : B * n ≤ 281474976710656) :
    ∃ b w', (Instr.makeSlice t (.int .i64 n) (.int .i64 n)).run P w = .ok (Slc.mk (some ⟨b, 0, none⟩) n.toNat n.toNat).v w' ∧ Blk w' b (List.replicate n.toNat z) e ∧ Mod No w w' ∧ w.heap.size ≤ b ∧ b < w'.heap.size := by
  obtain ⟨info, hi, hiB⟩ := E.info w
  have hw : IntKind.i64.wrap n = n := wrap_i64 (by omega) h1
  have hn0 : ¬ n < 0 := by omega
  have hn1 : ¬ (info.bytes : Int) * n > 281474976710656 := by rw [hiB]; omega
  refine ⟨w.heap.size, w.alloc (.cells (List.replicate n.toNat z).toArray e), ?_, by simpa using Blk.new w (List.replicate n.toNat z).toArray e, Mod.alloc .., Nat.le_refl _, by simp⟩
  have hcells : z.cells = #[z] := cells_one hz1
  have hlist : (Array.range n.toNat).map (fun x => (#[z] : Array Value)[x % 1]!) = (List.replicate n.toNat z).toArray := by
    apply Array.ext'
    simp only [Array.toList_map, Array.toList_range]
    apply List.ext_getElem
    · simp
    · intro i h1 h2
      simp [Nat.mod_one]
  simp only [Instr.makeSlice, asInt, asIntOf, Sem.run_bind, hu, Result.andThen_ok, Sem.run_pure, hi, hw, Int.lt_irrefl, hn0, decide_false, decide_eq_false hn1, Bool.or_false, Bool.false_eq_true, if_false, gt_iff_lt]
  have hn2 : ¬ ((281474976710656 : Int) < (info.bytes : Int) * n) := hn1
  simp only [Int.reducePow, hn2, decide_false, Bool.or_false, Bool.false_eq_true, if_false, run_askRoom, Result.andThen_ok, E.size, Nat.mul_one, Sem.run_ite, newRow, newObj, Sem.run_bind, Sem.run]
  by_cases h00 : n.toNat = 0
  · have e0 : (List.replicate n.toNat z).toArray = #[] := by simp [h00]
    have er : Array.range 0 = #[] := rfl
    simp [h00, er, Slc.v]
  · rw [if_neg h00]
    simp only [E.zero, Result.andThen_ok, Sem.run_pure]
    simp only [hcells, List.size_toArray, List.length_cons, List.length_nil, Nat.zero_add, hlist]
    rfl

/-- a slice of bytes, read -/
def RdB (w : World) (s : Slc) (bs : List UInt8) : Prop := RdS w 1 s (bs.map u8)

theorem RdB.len {w : World} {s : Slc} {bs : List UInt8} (h : RdB w s bs) : s.len = bs.length := by
  have := h.1
  simpa using this.symm

theorem strOf (bs : List UInt8) : strOfNums (bs.map fun b => (b.toNat : Int)) = ⟨bs.toArray⟩ := by
  unfold strOfNums
  simp [Function.comp_def]

theorem run_b2s {w : World} {s : Slc} {bs : List UInt8} {k : TypeId} (hs : P.underlying t = some (.slice e)) (he : P.underlying e = some (.int .u8)) (hd : P.underlying k = some .string) (h : RdB w s bs) :
    (convert t k s.v).run P w = .ok (.string ⟨bs.toArray⟩) w := by
  have hl := h.len
  obtain ⟨a, n, c⟩ := s
  simp only at hl
  subst hl
  rcases h.2 with ⟨h1, h2⟩ | ⟨b, o, h1, _, h3⟩
  · simp only at h1 h2
    subst h1
    obtain rfl : bs = [] := List.eq_nil_of_length_eq_zero h2
    exact run_convert_bytes_nil w t e hs he 0 c k hd
  · simp only at h1
    subst h1
    have := run_convert_bytes_arg w t e hs he b o bs.length c (bs.map fun b => (b.toNat : Int)) (by simp) (fun i hi => by
      rw [h3 i (by simpa using hi)]
      simp [u8, List.getD, hi]) k hd
    rw [strOf] at this
    exact this

/-- a part of a slice that is read -/
theorem RdS.sub {w : World} {m : Nat} {s : Slc} {cs : List Value} {lo hi : Nat} (h : RdS w m s cs) (h1 : lo ≤ hi) (h2 : hi ≤ s.len) (h3 : hi ≤ s.cap) : RdS w m (s.sub m lo hi s.cap) ((cs.drop (lo * m)).take ((hi - lo) * m)) := by
  obtain ⟨a, n, c⟩ := s
  obtain ⟨h4, h5⟩ := h
  simp only at h4 h5 h2 h3
  have hmul : hi * m ≤ n * m := Nat.mul_le_mul_right _ h2
  have hlo : lo * m + (hi - lo) * m = hi * m := by rw [← Nat.add_mul]; congr 1; omega
  have hlen : ((cs.drop (lo * m)).take ((hi - lo) * m)).length = (hi - lo) * m := by
    simp only [List.length_take, List.length_drop]
    omega
  refine ⟨by simpa [Slc.sub] using hlen, ?_⟩
  rcases h5 with ⟨rfl, rfl⟩ | ⟨b, o, rfl, hb, hc⟩
  · exact .inl ⟨by simp [Slc.sub], by simp [Slc.sub]; omega⟩
  · by_cases e : c = lo
    · refine .inr ⟨b, o, by simp [Slc.sub, e], fun hp => hb (by rw [hlen] at hp; omega), fun i hi' => ?_⟩
      rw [hlen] at hi'
      have : hi - lo = 0 := by omega
      simp [this] at hi'
    · refine .inr ⟨b, o + lo * m, by simp [Slc.sub, e, add_at], fun hp => hb (by rw [hlen] at hp; omega), fun i hi' => ?_⟩
      rw [hlen] at hi'
      rw [Nat.add_assoc, hc (lo * m + i) (by omega)]
      simp [List.getElem?_take, hi']

/-- a string turned into bytes of the call's own -/
theorem run_s2b {w : World} {bs : List UInt8} {k : TypeId} (hs : ∀ w, (underlying t).run P w = .ok (.slice e) w) (he : ∀ w, (underlying e).run P w = .ok (.int .u8) w) (hd : ∀ w, (underlying k).run P w = .ok .string w) :
    ∃ (s : Slc) (w' : World) (b : Nat), (convert k t (.string ⟨bs.toArray⟩)).run P w = .ok s.v w' ∧ s.a = some ⟨b, 0, none⟩ ∧ s.len = bs.length ∧ OwnS w' e 1 s (bs.map u8) ∧ Mod No w w' ∧ w.heap.size ≤ b ∧ b < w'.heap.size := by
  let q : Question := .appendCap bs.length 0 e
  let nc := q.cut (w.tape w.drawn q)
  have hnc : bs.length ≤ nc := Nat.le_add_right _ _
  let W : World := { w with drawn := w.drawn + 1 }
  let cs : Array Value := (bs.toArray.map fun b => Value.int .u8 b.toNat) ++ Array.replicate (nc - bs.length) (.int .u8 0)
  have hsz : cs.size = nc := by simp [cs]; omega
  let W1 := W.alloc (.cells cs e)
  have hsh : W1.shape? w.heap.size = some (e, cs.size) := by
    show (match (w.heap.push _)[w.heap.size]? with | some (.cells c elem _) => some (elem, c.size) | _ => none) = _
    simp
  let W2 := W1.freeze ⟨w.heap.size, cs.size, none⟩ 1
  have hW2 : W2.heap[w.heap.size]? = some (.cells cs e (cs.size, cs.size + 1)) := by
    show ((w.heap.push (.cells cs e)).modify w.heap.size _)[w.heap.size]? = _
    rw [Array.getElem?_modify, if_pos rfl, Array.getElem?_push, if_pos rfl]
    rfl
  have hm2 : Mod No w W2 := ⟨rfl, rfl, rfl, by show _ ≤ ((w.heap.push _).modify _ _).size; simp, fun c hc _ => by
    show ((w.heap.push (.cells cs e)).modify w.heap.size _)[c]? = _
    rw [Array.getElem?_modify, if_neg (by omega), Array.getElem?_push, if_neg (by omega)]⟩
  refine ⟨⟨some ⟨w.heap.size, 0, none⟩, bs.length, nc⟩, W2, w.heap.size, ?_, rfl, rfl, ⟨by simp, .inr ⟨w.heap.size, List.replicate (nc - bs.length) (.int .u8 0), rfl, ⟨(cs.size, cs.size + 1), ?_, ?_⟩, ?_, hnc⟩⟩, hm2, Nat.le_refl _, ?_⟩
  · have hch : (choose (.appendCap bs.length 0 e)).run P w = .ok nc W := by
      simp [choose, Sem.run, Question.forced, nc, W, q]
    have hsize : (⟨bs.toArray⟩ : ByteArray).size = bs.length := by simp [ByteArray.size]
    simp only [convert, Sem.run_bind, hs, hd, Result.andThen_ok, he, Conv.stringToBytes, hsize, hch, newRow, newObj, Sem.run, Sem.run_pure, markStringish, shape, freeze]
    have e1 : ((⟨bs.toArray⟩ : ByteArray).data.map fun b => Value.int .u8 b.toNat) ++ Array.replicate (nc - bs.length) (.int .u8 0) = cs := rfl
    rw [e1]
    have e2 : ({ heap := W.heap.push (.cells cs e), tape := W.tape, drawn := W.drawn, os := W.os, output := W.output } : World) = W1 := rfl
    have e3 : W.heap.size = w.heap.size := rfl
    simp only [e2, e3, hsh, Result.andThen_ok, Sem.run_bind, Sem.run]
    rfl
  · rw [hW2]
    congr 2
    apply Array.ext'
    simp [cs, u8]
  · intro i hi
    simp at hi
    omega
  · simp; omega
  · show _ < ((w.heap.push _).modify _ _).size
    simp
end
end Go.Sh
