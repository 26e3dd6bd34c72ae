/-
  Inbox: where pieces begin, in order.
-/
import Derived.Test.YtfgodebgjemljaaOA5
import Derived.Test.YtfgodebgjemljaaHm2
import Derived.Shelf.Sort.Plain
import Derived.Shelf.Slices.In.SortNone
import Derived.Ground.Names2Prog
namespace Go.Proofs.Ytfgodebgjemljaa
open Go Go.Sh
set_option linter.unusedVariables false
set_option linter.unusedSimpArgs false

/-! ### The library's sorter, laid by its contract (numbers of seat o07) -/

section
open Go.Shelf
def lays189_ren : Go.Shelf.Ren := ⟨fun | 189 => 54 | 125 => 64 | 257 => 63 | 128 => 75 | 129 => 76 | 294 => 66 | 295 => 67 | 296 => 68 | 297 => 69 | 298 => 70 | 299 => 71 | 216 => 72 | 300 => 73 | 301 => 74 | 328 => 78 | 329 => 79 | 330 => 80 | 331 => 81 | 332 => 82 | 215 => 83 | 343 => 84 | n => n, fun | 28 => 76 | 3 => 3 | 46 => 108 | 0 => 0 | 51 => 119 | 53 => 121 | 4 => 4 | 183 => 112 | 182 => 111 | 131 => 99 | 5 => 5 | 9 => 9 | 218 => 123 | 222 => 127 | 228 => 129 | 229 => 45 | n => n, fun | n => n⟩
theorem lays189 : Go.Proofs.Lays.n189 Try.prog lays189_ren where
  mixed := by kernel_rfl
  f125 := Try.func64.trans (congrArg some (by kernel_rfl))
  f128 := Try.func75.trans (congrArg some (by kernel_rfl))
  f129 := Try.func76.trans (congrArg some (by kernel_rfl))
  f189 := Try.func54.trans (congrArg some (by kernel_rfl))
  f215 := Try.func83.trans (congrArg some (by kernel_rfl))
  f216 := Try.func72.trans (congrArg some (by kernel_rfl))
  f257 := Try.func63.trans (congrArg some (by kernel_rfl))
  f294 := Try.func66.trans (congrArg some (by kernel_rfl))
  f295 := Try.func67.trans (congrArg some (by kernel_rfl))
  f296 := Try.func68.trans (congrArg some (by kernel_rfl))
  f297 := Try.func69.trans (congrArg some (by kernel_rfl))
  f298 := Try.func70.trans (congrArg some (by kernel_rfl))
  f299 := Try.func71.trans (congrArg some (by kernel_rfl))
  f300 := Try.func73.trans (congrArg some (by kernel_rfl))
  f301 := Try.func74.trans (congrArg some (by kernel_rfl))
  f328 := Try.func78.trans (congrArg some (by kernel_rfl))
  f329 := Try.func79.trans (congrArg some (by kernel_rfl))
  f330 := Try.func80.trans (congrArg some (by kernel_rfl))
  f331 := Try.func81.trans (congrArg some (by kernel_rfl))
  f332 := Try.func82.trans (congrArg some (by kernel_rfl))
  f343 := Try.func84.trans (congrArg some (by kernel_rfl))
  t0 := Try.underlying0
  a0 := Try.isAgg0
  z0 := Try.sizeOf0
  v0 := Try.zeroValue0
  t3 := Try.underlying3
  a3 := Try.isAgg3
  z3 := Try.sizeOf3
  v3 := Try.zeroValue3
  t4 := Try.underlying4
  a4 := Try.isAgg4
  z4 := Try.sizeOf4
  v4 := Try.zeroValue4
  t5 := Try.underlying5
  a5 := Try.isAgg5
  z5 := Try.sizeOf5
  v5 := Try.zeroValue5
  t9 := Try.underlying9
  a9 := Try.isAgg9
  z9 := Try.sizeOf9
  v9 := Try.zeroValue9
  t28 := Try.underlying76
  a28 := Try.isAgg76
  z28 := Try.sizeOf76
  v28 := Try.zeroValue76
  t46 := Try.underlying108
  a46 := Try.isAgg108
  z46 := Try.sizeOf108
  v46 := Try.zeroValue108
  t51 := Try.underlying119
  a51 := Try.isAgg119
  z51 := Try.sizeOf119
  v51 := Try.zeroValue119
  t53 := Try.underlying121
  a53 := Try.isAgg121
  z53 := Try.sizeOf121
  v53 := Try.zeroValue121
  t131 := Try.underlying99
  a131 := Try.isAgg99
  z131 := Try.sizeOf99
  v131 := Try.zeroValue99
  t182 := Try.underlying111
  a182 := Try.isAgg111
  z182 := Try.sizeOf111
  v182 := Try.zeroValue111
  t183 := Try.underlying112
  a183 := Try.isAgg112
  z183 := Try.sizeOf112
  v183 := Try.zeroValue112
  t218 := Try.underlying123
  a218 := Try.isAgg123
  z218 := Try.sizeOf123
  v218 := Try.zeroValue123
  t222 := Try.underlying127
  a222 := Try.isAgg127
  z222 := Try.sizeOf127
  v222 := Try.zeroValue127
  t228 := Try.underlying129
  a228 := Try.isAgg129
  z228 := Try.sizeOf129
  v228 := Try.zeroValue129
  t229 := Try.underlying45
  a229 := Try.isAgg45
  z229 := Try.sizeOf45
  v229 := Try.zeroValue45
end

abbrev iv (n : Int) : Value := .int .i64 n

theorem sort_spec {w : World} {s : Slc} {zs : List Int} {K : World → Prop} (hs : OwnS w 3 1 s (zs.map iv)) (hz : zs.length < 1000000000)
    (h : ∀ w', OwnS w' 3 1 s ((zs.mergeSort fun x y => decide (x ≤ y)).map iv) → Mod (fun b => s.a = some ⟨b, 0, none⟩) w w' → K w') : C54 s w K := by
  have hl := hs.1
  simp only [List.length_map, Nat.mul_one] at hl
  by_cases h0 : zs = []
  · subst h0
    have e : s.v = .slice s.a 0 s.cap := by unfold Slc.v; rw [show s.len = 0 by simpa using hl.symm]
    show CallsV Try.prog 54 #[s.v] w _
    rw [e]
    refine Calls.mono (Any.slices_Sort_int_none lays189 s.a s.cap w) fun e w' he => ?_
    obtain ⟨rfl, rfl⟩ := he
    exact ⟨rfl, h w' (by simpa using hs) (Mod.refl _ _)⟩
  · rcases hs.2 with rfl | ⟨b, rest, hsa, hB, hc, hcap⟩
    · exact absurd (List.eq_nil_of_length_eq_zero (by simpa using hl)) h0
    · have e : s.v = .slice (some ⟨b, 0, none⟩) zs.length s.cap := by unfold Slc.v; rw [hsa, hl]
      show CallsV Try.prog 54 #[s.v] w _
      rw [e]
      have hH : Sort.Holds (Value.int .i64) w b 0 zs.toArray := fun j hj => by
        have hj : j < zs.length := by simpa using hj
        rw [Nat.zero_add]
        refine ⟨?_, hB.thaw (by simp; omega)⟩
        rw [hB.cell', List.getElem?_append_left (by simpa using hj), List.getElem?_map, List.getElem?_eq_getElem hj]
        simp [hj]
      refine Calls.mono (Any.slices_Sort_int lays189 b 0 s.cap zs w hH hB.lt (by omega)) fun e w' he => ?_
      obtain ⟨rfl, n, os, rfl⟩ := he
      generalize hL : (zs.mergeSort fun x y => decide (x ≤ y)) = L at h
      have hLl : L.length = zs.length := by rw [← hL, List.length_mergeSort]
      have hb := hB.lt
      obtain ⟨fz, hblk, hfz⟩ := hB
      have hcell : (Sort.grow (Sort.putRow (Value.int .i64) (Sort.ahead w n) b 0 L.toArray) os).heap[b]? = some (.cells (L.map iv ++ rest).toArray 3 fz) := by
        show ((w.heap.modify b (Sort.onCells (Sort.putCells (Value.int .i64) 0 L.toArray))) ++ os)[b]? = _
        rw [Array.getElem?_append_left (by simpa using hb), Array.getElem?_modify, if_pos rfl, hblk]
        simp only [Option.map_some, Sort.onCells]
        congr 2
        apply Array.ext'
        apply List.ext_getElem?
        intro i
        simp only [Sort.putCells, Array.toList_mapIdx, List.getElem?_mapIdx]
        by_cases hi : i < zs.length
        · rw [List.getElem?_append_left (by simpa using hi), List.getElem?_append_left (by simpa [hLl] using hi)]
          simp [hi, hLl, List.getElem?_eq_getElem, iv]
        · rw [List.getElem?_append_right (by simpa using hi), List.getElem?_append_right (by simp [hLl]; omega)]
          simp only [List.length_map, hLl]
          cases rest[i - zs.length]? with
          | none => rfl
          | some v =>
            simp only [Option.map_some, List.size_toArray, hLl]
            rw [if_neg (by omega)]
      refine ⟨rfl, h _ ⟨by simp [hLl]; omega, .inr ⟨b, rest, hsa, ⟨fz, hcell, ?_⟩, by simp [hLl] at hc ⊢; omega, hcap⟩⟩ ⟨rfl, rfl, rfl, ?_, ?_⟩⟩
      · intro i hi
        exact hfz i (by simp [hLl] at hi ⊢; omega)
      · show w.heap.size ≤ ((w.heap.modify b _) ++ os).size
        simp
      · intro c hc hn
        show ((w.heap.modify b _) ++ os)[c]? = _
        rw [Array.getElem?_append_left (by simpa using hc), Array.getElem?_modify, if_neg]
        rintro rfl
        exact hn hsa

/-! ### The pieces -/

theorem elInt : ElemT Try.prog 3 1 8 (.int .i64 0) where
  size := Try.sizeOf3
  info w := ⟨_, Try.typeInfo3 w, by kernel_rfl⟩
  zero := Try.zeroValue3
  zsize := rfl
theorem kInt : KeyT Try.prog 3 iv (.int .i64) := keyInt Try.runUnderlying3

abbrev PL := List (Int × Slc × Nat)
abbrev MapI (w : World) (mb : Nat) (l : PL) (c : Nat) : Prop := MapS w mb iv Slc.v l c

theorem starts_spec {w : World} {ib mb : Nat} {cs : List Value} {l : PL} {c : Nat} {K : Slc → World → Prop} (hB : Blk w ib cs 83) (hc : cs[7]? = some (.map (some mb))) (hM : MapI w mb l c) (hll : l.length < 1000000000)
    (h : ∀ r w' (L : List Int), OwnS w' 3 1 r (L.map iv) → (∀ k, k ∈ L ↔ (lookP l k).isSome = true) → L.Pairwise (· < ·) → (∀ b, r.a = some ⟨b, 0, none⟩ → w.heap.size ≤ b) → Mod No w w' → K r w') : C46 (some ⟨ib, 0, none⟩) w K := by
  refine br46 ?_
  unfold sh46
  refine jn.mk (fun s w' => ∃ ks : List Int, OwnS w' 3 1 s (ks.map iv) ∧ (∀ k, k ∈ ks ↔ (lookP l k).isSome = true) ∧ ks.Nodup ∧ (∀ b, s.a = some ⟨b, 0, none⟩ → w.heap.size ≤ b) ∧ ks.length ≤ l.length ∧ Mod No w w') ?_ ?_
  · intro kk hkk
    refine nn.mk ?_
    rw [add_at]
    refine ldM.mk hB hc ?_
    obtain ⟨w1, hr1, hi1, m1⟩ := run_rangeS (P := Try.prog) (t := 81) Try.underlying81 hM
    refine ⟨_, w1, hr1, ?_⟩
    have hM1 := hM.mod m1 fun h => h
    refine Lp.inv (fun (s : Slc) w' => ∃ ks n, IterS w' w.heap.size mb l c ks n ∧ MapI w' mb l c ∧ OwnS w' 3 1 s (ks.map iv) ∧ (∀ b, s.a = some ⟨b, 0, none⟩ → w.heap.size < b) ∧ Mod No w w' ∧ w.heap.size < w'.heap.size ∧ ks.length + n ≤ l.length)
      (fun _ w' => match w'.heap[w.heap.size]? with | some (.mapIter _ _ s _) => (l.filter fun e => !s.contains e.2.2).length | _ => 0) ⟨[], l.length, hi1, hM1, OwnS.nil .., (fun b h => by cases h), m1, hi1.lt, by simp⟩ ?_
    rintro s w2 ⟨ks, n, hi, hM2, hs, hsb, m2, hsz, hn⟩
    have hmu : ∀ {w' : World} {ks : List Int} {n : Nat}, IterS w' w.heap.size mb l c ks n → (match w'.heap[w.heap.size]? with | some (.mapIter _ _ s _) => (l.filter fun e => !s.contains e.2.2).length | _ => 0) = n := fun {w' ks n} h => by
      obtain ⟨s, h1, _, _, _, h2⟩ := h.seen
      rw [h1]
      exact h2.symm
    have hmlt : mb < w.heap.size := hM.lt
    rcases run_nextS (P := Try.prog) 0 hM2 hi with ⟨h0, hr⟩ | ⟨e, he, w3, hr, ⟨m, hm, hi3⟩, hent, m3⟩
    · refine ⟨_, false, w2, hr, rfl, jn_in (ifM.f rfl (hkk _ _ ⟨ks, hs, ?_, ?_, fun b hb => by have := hsb b hb; omega, by omega, m2⟩))⟩
      · subst h0
        exact iter_end hM2 hi
      · obtain ⟨_, _, hnd, _⟩ := hi.seen
        exact hnd
    · refine ⟨_, true, w3, hr, rfl, jn_in (ifM.t rfl ?_)⟩
      have hM3 : MapI w3 mb l c := hM2.mod m3 (by omega)
      have hs3 : OwnS w3 3 1 s (ks.map iv) := hs.mod m3 fun b hb e => by have := hsb b hb; omega
      have z3 := m3.size
      refine ⟨e.1, e.2.1, hent w3 rfl (m3.blk mb (by omega) (by omega)), newV.mk fun b4 w4 hb4 B4 m4 => ?_⟩
      have z4 := m4.size
      obtain ⟨r, w5, hr5, ho5, hl5, hm5, hp5⟩ := run_append (t := 76) (t' := 76) (x := Slc.mk (some ⟨b4, 0, none⟩) 1 1) (xs := [iv e.1]) elInt Try.runUnderlying76 Try.runUnderlying76 (fun k h => by cases h) (hs3.mod m4 fun _ _ h => h) (rd_blk B4 rfl) (fun v hv => by obtain rfl : v = iv e.1 := (by simpa using hv); rfl) (by
        have := hs.1
        simp at this
        simp only
        omega) (by omega)
      have m45 : Mod (fun b => s.a = some ⟨b, 0, none⟩) w3 w5 := m4.of0.on hm5 fun _ _ e => e
      have hi5 : IterS w5 w.heap.size mb l c (ks ++ [e.1]) m := hi3.mod m45 fun e => by have := hsb _ e; omega
      have ml : m + 1 ≤ n := hm
      refine ⟨r, w5, hr5, ⟨ks ++ [e.1], m, hi5, hM3.mod m45 fun e => by have := hsb _ e; omega, by simpa using ho5, fun b hb => ?_, (m2.on m3 fun b hb e => by omega).on m45 fun b hb e => by have := hsb b e; omega, by have := m45.size; omega, by simp; omega⟩, ?_⟩
      · rcases hp5 with e | ⟨d, e, hd, _⟩
        · exact hsb b (e ▸ hb)
        · rw [e] at hb
          have : d = b := by simpa using hb
          omega
      · rw [hmu hi5, hmu hi]
        exact hm
  · rintro s w2 ⟨ks, hs, hin, hnd, hsb, hkl, m2⟩
    refine sort_spec hs (by omega) fun w3 hs3 m3 => h s w3 _ hs3 (fun k => ?_) ?_ hsb (m2.on m3 fun b hb e => by have := hsb b e; omega)
    · rw [← hin k]
      exact (List.mergeSort_perm ks _).mem_iff
    · have h1 := List.pairwise_mergeSort (le := fun x y : Int => decide (x ≤ y)) (fun a b c h1 h2 => by simp at *; omega) (fun a b => by simp; omega) ks
      have h2 : (ks.mergeSort fun x y => decide (x ≤ y)).Pairwise (· ≠ ·) := (List.mergeSort_perm ks _).nodup_iff.2 hnd
      refine (h1.and h2).imp fun {a b} ⟨h3, h4⟩ => ?_
      have h3 : a ≤ b := of_decide_eq_true h3
      omega
end Go.Proofs.Ytfgodebgjemljaa
