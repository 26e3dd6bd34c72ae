/-
  The vault: names of terms.
-/
import Derived.Test.YtkehoneadedmhaaDoorBridge
import Derived.Test.YtkehoneadedmhaaDoorHe
namespace Go.Proofs.YtkehoneadedmhaaDoor
open Go Go.Sh
set_option linter.unusedVariables false
set_option linter.unusedSimpArgs false

/-! ### 1. Names -/

def mixZ (x : Int) : Int :=
  let z := IntKind.u64.wrap ((IntKind.u64.wrap (x + 1)) * 11400714819323198485)
  let z := IntKind.u64.wrap ((bitsZ .xor .u64 z (shrZ .u64 z 30)) * 13787848793156543929)
  let z := IntKind.u64.wrap ((bitsZ .xor .u64 z (shrZ .u64 z 27)) * 10723151780598845931)
  bitsZ .xor .u64 z (shrZ .u64 z 31)

theorem mix_spec {x : Int} {w : World} {K : Int → World → Prop} (h : K (mixZ x) w) : C56 x w K := br56 h

/-- the byte i of the eight of x, the greatest first -/
def byteZ (x : Int) (i : Nat) : UInt8 := UInt8.ofNat (x.fdiv (2 ^ (56 - 8 * i)) % 256).toNat
def halfB (x : Int) : List UInt8 := (List.range 8).map (byteZ x)
def nameB (n : Int) : List UInt8 := halfB (mixZ (2 * n)) ++ halfB (mixZ (2 * n + 1))
theorem nameB_len (n : Int) : (nameB n).length = 16 := by simp [nameB, halfB]
def nameH (n : Int) : Hd := ⟨nameB n, nameB_len n⟩

theorem byte_val (x : Int) (i : Nat) (hi : i < 8) : Value.int .u8 (IntKind.u8.wrap (shrZ .u64 x (56 - 8 * (i : Int)))) = u8 (byteZ x i) := by
  have e : (56 - 8 * (i : Int)).toNat = 56 - 8 * i := by omega
  have hm : min (56 - 8 * i) 64 = 56 - 8 * i := by omega
  unfold u8 byteZ shrZ
  simp only [IntKind.bits, e, hm]
  generalize x.fdiv (2 ^ (56 - 8 * i)) = y
  have h2 : (IntKind.u8.wrap y) = y % 256 := by
    simp only [IntKind.wrap, IntKind.signed, IntKind.bits, Bool.false_and, Bool.false_eq_true, if_false]
    rfl
  rw [h2]
  congr 1
  have h0 : 0 ≤ y % 256 := Int.emod_nonneg _ (by decide)
  have h1 : y % 256 < 256 := Int.emod_lt_of_pos _ (by decide)
  rw [UInt8.toNat_ofNat']
  omega

/-- what is laid after k of the bytes -/
def laid (l : List UInt8) (k : Nat) : List Value := (l.take k).map u8 ++ List.replicate (16 - k) (.int .u8 0)

theorem laid_len {l : List UInt8} (hl : l.length = 16) {k : Nat} (hk : k ≤ 16) : (laid l k).length = 16 := by simp [laid, hl]; omega

theorem laid_set {l : List UInt8} (hl : l.length = 16) {k : Nat} (hk : k < 16) : (laid l k).set k (u8 (l[k]'(by omega))) = laid l (k + 1) := by
  unfold laid
  have h1 : ((l.take k).map u8).length = k := by simp [hl]; omega
  rw [List.set_append, if_neg (by omega), h1, Nat.sub_self]
  have h2 : 16 - k = (16 - (k + 1)) + 1 := by omega
  have h3 : (l.take (k + 1)).map u8 = (l.take k).map u8 ++ [u8 (l[k]'(by omega))] := by
    rw [List.take_add_one, List.getElem?_eq_getElem (by omega)]
    simp only [Option.toList_some, List.map_append, List.map_cons, List.map_nil]
  rw [h2, List.replicate_succ, List.set_cons_zero, h3, List.append_assoc]
  rfl

theorem laid_all {l : List UInt8} (hl : l.length = 16) : laid l 16 = l.map u8 := by simp [laid, ← hl]

theorem half_at (x : Int) (i : Nat) (hi : i < 8) : (halfB x)[i]? = some (byteZ x i) := by simp [halfB, hi]

theorem name_at (n : Int) (h i : Nat) (hh : h < 2) (hi : i < 8) : (nameB n)[8 * h + i]? = some (byteZ (mixZ (2 * n + h)) i) := by
  unfold nameB
  have hl : (halfB (mixZ (2 * n))).length = 8 := by simp [halfB]
  obtain rfl | rfl : h = 0 ∨ h = 1 := by omega
  · rw [List.getElem?_append_left (by omega)]
    simpa using half_at _ i hi
  · rw [List.getElem?_append_right (by omega), hl]
    rw [show 8 * 1 + i - 8 = i by omega]
    exact half_at _ i hi

theorem name_spec {n : Int} {w : World} {K : Array Value → World → Prop} (h0 : 0 ≤ n) (h1 : n < 4611686018427387904)
    (h : ∀ w', Mod No w w' → K ((nameB n).map u8).toArray w') : C21 n w K := by
  refine br21 ?_
  unfold sh21
  refine newV.mk fun b w1 hb hB hm1 => ?_
  refine jn.mk (fun _ w' => Blk w' b ((nameB n).map u8) 26 ∧ Mod No w w') ?_ ?_
  · intro k hk
    refine Lp.inv (fun (s : Int) w' => 0 ≤ s ∧ s ≤ 2 ∧ Blk w' b (laid (nameB n) (8 * s.toNat)) 26 ∧ Mod No w w') (fun s _ => (2 - s).toNat) ⟨by omega, by omega, by simpa [laid] using hB, hm1⟩ ?_
    rintro s w' ⟨hs0, hs1, hB', hm'⟩
    refine jn_in ?_
    refine ⟨fun hc => ?_, fun hc => ?_⟩
    · have hs2 : s < 2 := of_decide_eq_true hc
      refine jn_in ?_
      have e2 : IntKind.i64.wrap (2 * n) = 2 * n := wrap_i64 (by omega) (by omega)
      have e3 : IntKind.i64.wrap (2 * n + s) = 2 * n + s := wrap_i64 (by omega) (by omega)
      have e4 : IntKind.u64.wrap (2 * n + s) = 2 * n + s := wrap_u64 (by omega) (by omega)
      rw [e2, e3, e4]
      refine mix_spec ?_
      obtain ⟨sn, rfl⟩ := Int.eq_ofNat_of_zero_le hs0
      simp only [Int.toNat_natCast] at hB'
      refine Lp.inv (fun (i : Int) w'' => 0 ≤ i ∧ i ≤ 8 ∧ Blk w'' b (laid (nameB n) (8 * sn + i.toNat)) 26 ∧ Mod No w w'') (fun i _ => (8 - i).toNat) ⟨by omega, by omega, by simpa using hB', hm'⟩ ?_
      rintro i w'' ⟨hi0, hi1, hB'', hm''⟩
      refine jn_in ?_
      refine ⟨fun hc => ?_, fun hc => ?_⟩
      · have hi2 : i < 8 := of_decide_eq_true hc
        obtain ⟨j, rfl⟩ := Int.eq_ofNat_of_zero_le hi0
        simp only [Int.toNat_natCast] at hB''
        refine jn_in ?_
        have f1 : IntKind.i64.wrap (8 * (j : Int)) = 8 * j := wrap_i64 (by omega) (by omega)
        have f2 : IntKind.i64.wrap (56 - 8 * (j : Int)) = 56 - 8 * j := wrap_i64 (by omega) (by omega)
        have f3 : IntKind.i64.wrap (8 * (sn : Int)) = 8 * sn := wrap_i64 (by omega) (by omega)
        have f4 : IntKind.i64.wrap (8 * (sn : Int) + j) = 8 * sn + j := wrap_i64 (by omega) (by omega)
        have f5 : IntKind.i64.wrap ((j : Int) + 1) = j + 1 := wrap_i64 (by omega) (by omega)
        rw [f1, f2, f3, f4, f5]
        refine ⟨by omega, idxA.mk (by omega) (by omega) ?_⟩
        have g1 : (8 * (sn : Int) + j).toNat = 8 * sn + j := by omega
        rw [g1, Nat.mul_one, Nat.zero_add, byte_val _ j (by omega)]
        have hs3 : sn < 2 := by omega
        have hj3 : j < 8 := by omega
        have hl := laid_len (nameB_len n) (k := 8 * sn + j) (by omega)
        refine stV.mk hB'' (by omega) fun w3 hB3 hm3 => ?_
        have hn : (nameB n)[8 * sn + j]? = some (byteZ (mixZ (2 * n + sn)) j) := name_at n sn j (by omega) (by omega)
        have hn' : (nameB n)[8 * sn + j]'(by rw [nameB_len]; omega) = byteZ (mixZ (2 * n + sn)) j := by
          rw [List.getElem?_eq_getElem (by rw [nameB_len]; omega)] at hn
          exact Option.some.inj hn
        rw [← hn', laid_set (nameB_len n) (by omega)] at hB3
        refine ⟨⟨by omega, by omega, by rw [show ((j : Int) + 1).toNat = j + 1 by omega]; exact hB3, hm''.onNew hm3 hb⟩, by omega⟩
      · have hi2 : ¬ i < 8 := of_decide_eq_false hc
        have e1 : i = 8 := by omega
        subst e1
        have f5 : IntKind.i64.wrap ((sn : Int) + 1) = sn + 1 := wrap_i64 (by omega) (by omega)
        rw [f5]
        refine ⟨⟨by omega, by omega, by rw [show 8 * ((sn : Int) + 1).toNat = 8 * sn + 8 by omega]; exact hB'', hm''⟩, by omega⟩
    · have hs2 : ¬ s < 2 := of_decide_eq_false hc
      have e1 : s = 2 := by omega
      subst e1
      refine hk () w' ⟨?_, hm'⟩
      rw [← laid_all (nameB_len n)]
      exact hB'
  · rintro _ w' ⟨hB', hm'⟩
    have hl : ((nameB n).map u8).length = 16 := by simp [nameB_len]
    refine ldA.all hB' hl ?_
    refine stA.all hB' hl (by simp [nameB_len]) (fun v hv => ?_) fun w2 hB2 hm2 => ?_
    · obtain ⟨x, _, rfl⟩ := List.mem_map.1 (by simpa using hv)
      rfl
    · refine ldA.all hB2 (by simp [nameB_len]) ?_
      exact h w2 (hm'.onNew hm2 hb)
end Go.Proofs.YtkehoneadedmhaaDoor
