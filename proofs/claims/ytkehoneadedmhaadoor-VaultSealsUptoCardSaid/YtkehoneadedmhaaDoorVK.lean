/-
  Lists of handles and of texts.
-/
import Derived.Test.YtkehoneadedmhaaDoorVP
namespace Go.Proofs.YtkehoneadedmhaaDoor
open Go Go.Sh
set_option linter.unusedVariables false
set_option linter.unusedSimpArgs false

theorem and15 (a : Int) : ∃ m : Nat, m ≤ 15 ∧ bitsZ .and .i64 a 15 = (m : Int) := by
  refine ⟨(BitVec.ofInt 64 a &&& BitVec.ofInt 64 15).toNat, ?_, ?_⟩
  · rw [BitVec.toNat_and]
    exact Nat.and_le_right
  · have h : (BitVec.ofInt 64 a &&& BitVec.ofInt 64 15).toNat ≤ 15 := by rw [BitVec.toNat_and]; exact Nat.and_le_right
    show IntKind.i64.wrap ((BitVec.ofInt 64 a &&& BitVec.ofInt 64 15).toNat : Int) = _
    exact wrap_i64 (by omega) (by omega)

theorem elHandle : ElemT Tryd.prog 26 16 16 (.agg #[.int .u8 0, .int .u8 0, .int .u8 0, .int .u8 0, .int .u8 0, .int .u8 0, .int .u8 0, .int .u8 0, .int .u8 0, .int .u8 0, .int .u8 0, .int .u8 0, .int .u8 0, .int .u8 0, .int .u8 0, .int .u8 0]) where
  size := Tryd.sizeOf26
  info w := ⟨_, Tryd.typeInfo26 w, by kernel_rfl⟩
  zero := Tryd.zeroValue26
  zsize := rfl

theorem Mod.cell {S : Nat → Prop} {w w' : World} (hm : Mod S w w') {b o : Nat} (hb : b < w.heap.size) (hs : ¬ S b) : w'.cell? ⟨b, o, none⟩ = w.cell? ⟨b, o, none⟩ := by
  simp only [World.cell?, hm.blk b hb hs]

theorem own_ix {α : Type} {f : α → List Value} {m : Nat} {w : World} {T : TypeId} {s : Slc} {V : List α} {i : Nat} {t : α} {k : Addr → Prop} (h : OwnS w T m s (V.flatMap f)) (hf : ∀ a, (f a).length = m) (hm : 0 < m) (hi : V[i]? = some t)
    (hk : ∀ b o, s.a = some ⟨b, 0, none⟩ → (∀ j, j < m → w.cell? ⟨b, o + j, none⟩ = (f t)[j]?) → k ⟨b, o, none⟩) : idx m s (i : Int) k := by
  obtain ⟨h1, h2⟩ := h
  obtain ⟨a, n, c⟩ := s
  simp only at h1 h2 hk
  rw [flat_len hf] at h1
  have hn : V.length = n := Nat.eq_of_mul_eq_mul_right hm h1
  have hin : i < V.length := (List.getElem?_eq_some_iff.1 hi).1
  rcases h2 with e | ⟨b, rest, rfl, hB, _⟩
  · simp at e
    omega
  refine idx.mk (by omega) (by omega) ?_
  simp only [Int.toNat_natCast]
  have hfa := flat_at hf V i t rest hi
  refine hk b _ rfl fun j hj => ?_
  rw [Nat.zero_add, hB.cell', ← hfa]
  simp [List.getElem?_take, hj]

/-! ### Lists of handles and of texts -/

def HLat (w0 w : World) (v : VF) (l : Slc) (j : Nat) : Prop := OwnS w 26 16 l ((List.range' 1 j).flatMap hcell) ∧ ∀ b, l.a = some ⟨b, 0, none⟩ → w0.heap.size ≤ b ∧ b < w.heap.size ∧ ¬ v.fp b

theorem HLat.step {w0 w w' : World} {S : Nat → Prop} {v v' : VF} {l : Slc} {j : Nat} (h : HLat w0 w v l j) (hm : Mod S w w') (hS : ∀ b, l.a = some ⟨b, 0, none⟩ → ¬ S b) (hv : ∀ b, v'.fp b → v.fp b ∨ w.heap.size ≤ b) : HLat w0 w' v' l j :=
  ⟨h.1.mod hm hS, fun b hb => ⟨(h.2 b hb).1, Nat.lt_of_lt_of_le (h.2 b hb).2.1 hm.size, fun hf => (hv b hf).elim (h.2 b hb).2.2 fun e => by have := (h.2 b hb).2.1; omega⟩⟩

theorem SL.mod {w0 w w' : World} {S : Nat → Prop} {l : Slc} {ys : List (Slc × List UInt8)} (h : SL w0 w l ys) (hm : Mod S w w') (h1 : ∀ b, l.a = some ⟨b, 0, none⟩ → ¬ S b) (h2 : ∀ x ∈ ys, ∀ b, x.1.a = some ⟨b, 0, none⟩ → ¬ S b) : SL w0 w' l ys :=
  ⟨h.1.mod hm h1, fun b hb => ⟨(h.2.1 b hb).1, Nat.lt_of_lt_of_le (h.2.1 b hb).2 hm.size⟩, fun x hx => by
    obtain ⟨b, e, g1, g2, g3, g4⟩ := h.2.2 x hx
    refine ⟨b, e, g1, Nat.lt_of_lt_of_le g2 hm.size, g3, g4.mod hm fun c o e' hs => h2 x hx b e ?_⟩
    rw [e] at e'
    have : b = c := by simp at e'; exact e'.1
    exact this ▸ hs⟩
theorem SL.keep {w0 w w' : World} {l : Slc} {ys : List (Slc × List UInt8)} (h : SL w0 w l ys) (ho : OwnS w' 22 1 l (ys.map (·.1.v))) (hm : Mod (fun b => l.a = some ⟨b, 0, none⟩) w w') : SL w0 w' l ys :=
  ⟨ho, fun b hb => ⟨(h.2.1 b hb).1, Nat.lt_of_lt_of_le (h.2.1 b hb).2 hm.size⟩, fun x hx => by
    obtain ⟨b, e, g1, g2, g3, g4⟩ := h.2.2 x hx
    refine ⟨b, e, g1, Nat.lt_of_lt_of_le g2 hm.size, g3, g4.mod hm fun c o e' hs => g3 ?_⟩
    rw [e] at e'
    have : b = c := by simp at e'; exact e'.1
    exact this ▸ hs⟩

theorem hslice {w : World} {b o m : Nat} (hc : ∀ j, j < 16 → w.cell? ⟨b, o + j, none⟩ = (hcell m)[j]?) (hb : b < w.heap.size) : Txt w (Slc.sub ⟨some ⟨b, o, none⟩, 16, 16⟩ 1 0 16 16) (nameB (m : Int)) := by
  have e : Slc.sub ⟨some ⟨b, o, none⟩, 16, 16⟩ 1 0 16 16 = ⟨some ⟨b, o, none⟩, 16, 16⟩ := by simp [Slc.sub, add_at]
  rw [e]
  refine ⟨⟨by simp [nameB_len], .inr ⟨b, o, rfl, fun _ => hb, fun i hi => ?_⟩⟩, Nat.le_refl _, by rw [nameB_len]; omega⟩
  rw [hc i (by simpa [nameB_len] using hi)]
  rfl

theorem VN_fresh (bs : List UInt8) (j : Nat) : VN bs j 0 ++ [freshT] = VN bs (j + 1) 0 := by
  simp only [VN, List.range_zero, List.map_nil, List.append_nil, List.cons_append]
  rw [← List.replicate_succ']

theorem range_at {j k : Nat} (h : k < j) : (List.range' 1 j)[k]? = some (k + 1) := by
  rw [List.getElem?_range' h]
  congr 1
  omega

theorem hid_one {V : List Term} {k : List Bool} {n : Nat} (hn : lastN V.length (nameH (n : Int)) = some (n : Int)) : Hid V k (nameB (n : Int)) ↔ ¬ kn k n := by
  have hw : winH (nameB (n : Int)) 0 = nameH (n : Int) := by
    apply Subtype.ext
    rw [winH_eq (by rw [nameB_len]; omega), List.drop_zero, List.take_of_length_le (by rw [nameB_len]; omega)]
    rfl
  constructor
  · rintro ⟨i, hi, h⟩
    rw [nameB_len] at hi
    have : i = 0 := by omega
    subst this
    rw [hw] at h
    rcases h with ⟨m, h1, h2⟩ | ⟨h1, _⟩
    · rw [hn] at h1
      have : n = m := Int.ofNat.inj (Option.some.inj h1)
      exact this ▸ h2
    · rw [hn] at h1
      cases h1
  · intro h
    refine ⟨0, by rw [nameB_len]; omega, ?_⟩
    rw [hw]
    exact .inl ⟨n, hn, h⟩

end Go.Proofs.YtkehoneadedmhaaDoor
