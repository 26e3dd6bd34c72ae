/-
  The vault of fresh terms: the law's walk.
-/
import Derived.Test.YtkehoneadedmhaaVP
namespace Go.Proofs.Ytkehoneadedmhaa
open Go Go.Sh
set_option linter.unusedVariables false
set_option linter.unusedSimpArgs false

theorem and15 (a : Int) : ∃ m : Nat, m ≤ 15 ∧ bitsZ .and .i64 a 15 = (m : Int) := by
  refine ⟨(BitVec.ofInt 64 a &&& BitVec.ofInt 64 15).toNat, ?_, ?_⟩
  · rw [BitVec.toNat_and]
    exact Nat.and_le_right
  · have h : (BitVec.ofInt 64 a &&& BitVec.ofInt 64 15).toNat ≤ 15 := by rw [BitVec.toNat_and]; exact Nat.and_le_right
    show IntKind.i64.wrap ((BitVec.ofInt 64 a &&& BitVec.ofInt 64 15).toNat : Int) = _
    exact wrap_i64 (by omega) (by omega)

theorem elHandle : ElemT Try.prog 27 16 16 (.agg #[.int .u8 0, .int .u8 0, .int .u8 0, .int .u8 0, .int .u8 0, .int .u8 0, .int .u8 0, .int .u8 0, .int .u8 0, .int .u8 0, .int .u8 0, .int .u8 0, .int .u8 0, .int .u8 0, .int .u8 0, .int .u8 0]) where
  size := Try.sizeOf27
  info w := ⟨_, Try.typeInfo27 w, by kernel_rfl⟩
  zero := Try.zeroValue27
  zsize := rfl

theorem Mod.cell {S : Nat → Prop} {w w' : World} (hm : Mod S w w') {b o : Nat} (hb : b < w.heap.size) (hs : ¬ S b) : w'.cell? ⟨b, o, none⟩ = w.cell? ⟨b, o, none⟩ := by
  simp only [World.cell?, hm.blk b hb hs]

theorem own_ix {α : Type} {f : α → List Value} {m : Nat} {w : World} {T : TypeId} {s : Slc} {V : List α} {i : Nat} {t : α} {k : Addr → Prop} (h : OwnS w T m s (V.flatMap f)) (hf : ∀ a, (f a).length = m) (hm : 0 < m) (hi : V[i]? = some t)
    (hk : ∀ b o, s.a = some ⟨b, 0, none⟩ → (∀ j, j < m → w.cell? ⟨b, o + j, none⟩ = (f t)[j]?) → k ⟨b, o, none⟩) : idx m s (i : Int) k := by
  obtain ⟨h1, h2⟩ := h
  obtain ⟨a, n, c⟩ := s
  simp only at h1 h2 hk
  rw [flat_len hf] at h1
  have hn : V.length = n := Nat.eq_of_mul_eq_mul_right hm h1
  have hin : i < V.length := (List.getElem?_eq_some_iff.1 hi).1
  rcases h2 with e | ⟨b, rest, rfl, hB, _⟩
  · simp at e
    omega
  refine idx.mk (by omega) (by omega) ?_
  simp only [Int.toNat_natCast]
  have hfa := flat_at hf V i t rest hi
  refine hk b _ rfl fun j hj => ?_
  rw [Nat.zero_add, hB.cell', ← hfa]
  simp [List.getElem?_take, hj]

/-! ### Lists of handles and of texts -/

def HLat (w0 w : World) (v : VF) (l : Slc) (j : Nat) : Prop := OwnS w 27 16 l ((List.range' 1 j).flatMap hcell) ∧ ∀ b, l.a = some ⟨b, 0, none⟩ → w0.heap.size ≤ b ∧ b < w.heap.size ∧ ¬ v.fp b

theorem HLat.step {w0 w w' : World} {S : Nat → Prop} {v v' : VF} {l : Slc} {j : Nat} (h : HLat w0 w v l j) (hm : Mod S w w') (hS : ∀ b, l.a = some ⟨b, 0, none⟩ → ¬ S b) (hv : ∀ b, v'.fp b → v.fp b ∨ w.heap.size ≤ b) : HLat w0 w' v' l j :=
  ⟨h.1.mod hm hS, fun b hb => ⟨(h.2 b hb).1, Nat.lt_of_lt_of_le (h.2 b hb).2.1 hm.size, fun hf => (hv b hf).elim (h.2 b hb).2.2 fun e => by have := (h.2 b hb).2.1; omega⟩⟩

theorem SL.mod {w0 w w' : World} {S : Nat → Prop} {l : Slc} {ys : List (Slc × List UInt8)} (h : SL w0 w l ys) (hm : Mod S w w') (h1 : ∀ b, l.a = some ⟨b, 0, none⟩ → ¬ S b) (h2 : ∀ x ∈ ys, ∀ b, x.1.a = some ⟨b, 0, none⟩ → ¬ S b) : SL w0 w' l ys :=
  ⟨h.1.mod hm h1, fun b hb => ⟨(h.2.1 b hb).1, Nat.lt_of_lt_of_le (h.2.1 b hb).2 hm.size⟩, fun x hx => by
    obtain ⟨b, e, g1, g2, g3, g4⟩ := h.2.2 x hx
    refine ⟨b, e, g1, Nat.lt_of_lt_of_le g2 hm.size, g3, g4.mod hm fun c o e' hs => h2 x hx b e ?_⟩
    rw [e] at e'
    have : b = c := by simp at e'; exact e'.1
    exact this ▸ hs⟩
theorem SL.keep {w0 w w' : World} {l : Slc} {ys : List (Slc × List UInt8)} (h : SL w0 w l ys) (ho : OwnS w' 22 1 l (ys.map (·.1.v))) (hm : Mod (fun b => l.a = some ⟨b, 0, none⟩) w w') : SL w0 w' l ys :=
  ⟨ho, fun b hb => ⟨(h.2.1 b hb).1, Nat.lt_of_lt_of_le (h.2.1 b hb).2 hm.size⟩, fun x hx => by
    obtain ⟨b, e, g1, g2, g3, g4⟩ := h.2.2 x hx
    refine ⟨b, e, g1, Nat.lt_of_lt_of_le g2 hm.size, g3, g4.mod hm fun c o e' hs => g3 ?_⟩
    rw [e] at e'
    have : b = c := by simp at e'; exact e'.1
    exact this ▸ hs⟩

theorem hslice {w : World} {b o m : Nat} (hc : ∀ j, j < 16 → w.cell? ⟨b, o + j, none⟩ = (hcell m)[j]?) (hb : b < w.heap.size) : Txt w (Slc.sub ⟨some ⟨b, o, none⟩, 16, 16⟩ 1 0 16 16) (nameB (m : Int)) := by
  have e : Slc.sub ⟨some ⟨b, o, none⟩, 16, 16⟩ 1 0 16 16 = ⟨some ⟨b, o, none⟩, 16, 16⟩ := by simp [Slc.sub, add_at]
  rw [e]
  refine ⟨⟨by simp [nameB_len], .inr ⟨b, o, rfl, fun _ => hb, fun i hi => ?_⟩⟩, Nat.le_refl _, by rw [nameB_len]; omega⟩
  rw [hc i (by simpa [nameB_len] using hi)]
  rfl

theorem VN_fresh (bs : List UInt8) (j : Nat) : VN bs j 0 ++ [freshT] = VN bs (j + 1) 0 := by
  simp only [VN, List.range_zero, List.map_nil, List.append_nil, List.cons_append]
  rw [← List.replicate_succ']

theorem range_at {j k : Nat} (h : k < j) : (List.range' 1 j)[k]? = some (k + 1) := by
  rw [List.getElem?_range' h]
  congr 1
  omega

theorem hid_one {V : List Term} {k : List Bool} {n : Nat} (hn : lastN V.length (nameH (n : Int)) = some (n : Int)) : Hid V k (nameB (n : Int)) ↔ ¬ kn k n := by
  have hw : winH (nameB (n : Int)) 0 = nameH (n : Int) := by
    apply Subtype.ext
    rw [winH_eq (by rw [nameB_len]; omega), List.drop_zero, List.take_of_length_le (by rw [nameB_len]; omega)]
    rfl
  constructor
  · rintro ⟨i, hi, h⟩
    rw [nameB_len] at hi
    have : i = 0 := by omega
    subst this
    rw [hw] at h
    rcases h with ⟨m, h1, h2⟩ | ⟨h1, _⟩
    · rw [hn] at h1
      have : n = m := Int.ofNat.inj (Option.some.inj h1)
      exact this ▸ h2
    · rw [hn] at h1
      cases h1
  · intro h
    refine ⟨0, by rw [nameB_len]; omega, ?_⟩
    rw [hw]
    exact .inl ⟨n, hn, h⟩

set_option maxHeartbeats 4000000 in
theorem law_names {W : World} {a0 : Int} {x : Slc} {bs : List UInt8} (hx : Txt W x bs) (hb : bs.length < 100000000) : C3 a0 x W (fun r w' => r = true ∧ Mod No W w') := by
  refine br3 ?_
  unfold sh3
  obtain ⟨n0, hn0, hand⟩ := and15 a0
  obtain ⟨n, hn⟩ : ∃ n : Nat, n = n0 + 2 := ⟨_, rfl⟩
  have hN : IntKind.i64.wrap (2 + bitsZ .and .i64 a0 15) = (n : Int) := by rw [hand, wrap_i64 (by omega) (by omega)]; omega
  have hN1 : IntKind.i64.wrap ((n : Int) - 1) = ((n - 1 : Nat) : Int) := by rw [wrap_i64 (by omega) (by omega)]; omega
  have hn2 : 2 ≤ n := by omega
  have hn17 : n ≤ 17 := by omega
  rw [hN, hN1]
  clear hand hN hN1
  have hxl : (x.len : Int) = bs.length := by rw [hx.1.len]
  refine New_spec fun w0 v0 hv0 hf0 hm0 => jn_in (ifM.f rfl ?_)
  have hz0 := hm0.size
  -- the fresh terms
  refine jn.mk (fun l w' => Mod No W w' ∧ ∃ v, v0.ptr = v.ptr ∧ VaultAt w' v (VN bs n 0) ∧ (∀ b, v.fp b → W.heap.size ≤ b) ∧ HLat W w' v l n) ?_ ?_
  · intro kk hkk
    refine Lp.inv (fun (s : Slc × Int) w' => ∃ j : Nat, s.2 = (j : Int) ∧ j ≤ n ∧ Mod No W w' ∧ ∃ v, v0.ptr = v.ptr ∧ VaultAt w' v (VN bs j 0) ∧ (∀ b, v.fp b → W.heap.size ≤ b) ∧ HLat W w' v s.1 j) (fun s _ => (n - s.2).toNat)
      ⟨0, rfl, by omega, hm0, v0, rfl, hv0, hf0, OwnS.nil .., fun b h => by cases h⟩ ?_
    rintro ⟨l, i⟩ w1 ⟨j, hj, hjn, hm1, v1, hp1, hv1, hf1, hl1⟩
    simp only at hj hl1 ⊢
    subst hj
    rw [hp1]
    refine ⟨fun hc => ?_, fun hc => ?_⟩
    · have hjn' : j < n := by have : (j : Int) < n := of_decide_eq_true hc; omega
      have e1 : IntKind.i64.wrap ((j : Int) + 1) = ((j + 1 : Nat) : Int) := wrap_i64 (by omega) (by omega)
      rw [e1]
      refine jn_in (Fresh_spec hv1 (by rw [VN_len]; omega) fun w2 v2 hv2 hto2 hm2 => ?_)
      rw [VN_fresh] at hv2
      have eV : ((VN bs j 0).length : Int) = ((j + 1 : Nat) : Int) := by rw [VN_len]
      rw [eV]
      have z1 := hm1.size
      have z2 := hm2.size
      have hM2 : Mod No W w2 := hm1.on hm2 fun b hb h => by have := hf1 b h; omega
      have hf2 : ∀ b, v2.fp b → W.heap.size ≤ b := fun b h => (hto2.fp h).elim (hf1 b) fun h => by omega
      have hl2 : HLat W w2 v2 l j := hl1.step hm2 (fun b hb => (hl1.2 b hb).2.2) fun b h => hto2.fp h
      refine newV.mk fun bh w3 hbh hB3 hm3 => ?_
      have z3 := hm3.size
      have hbh3 := hB3.lt
      refine stA.all hB3 rfl (nameV_size _) (nameV_one _) fun w4 hB4 hm4 => ?_
      have z4 := hm4.size
      have hm24 : Mod No w2 w4 := hm3.onNew hm4 hbh
      refine jn.mk (fun _ w' => Mod No w4 w') ?_ ?_
      · intro kk2 hkk2
        have hlen : l.len = j := by
          have := hl2.1.1
          rw [flat_len hcell_len, List.length_range'] at this
          omega
        refine Lp.inv (fun (s : Int) w' => 0 ≤ s ∧ s ≤ j ∧ Mod No w4 w') (fun s _ => (j - s).toNat) ⟨by omega, by omega, Mod.refl _ _⟩ ?_
        rintro s w5 ⟨hs0, hsj, hm5⟩
        rw [hlen]
        refine ⟨fun hc => ?_, fun hc => hkk2 () w5 hm5⟩
        have hs : s < j := of_decide_eq_true hc
        obtain ⟨k, rfl⟩ := Int.eq_ofNat_of_zero_le hs0
        have e2 : IntKind.i64.wrap ((k : Int) + 1) = ((k + 1 : Nat) : Int) := wrap_i64 (by omega) (by omega)
        rw [e2]
        refine jn_in (drw.mk fun w6 hm6 => ?_)
        have hM6 : Mod No w4 w6 := hm5.on0 hm6
        have hl6 : HLat W w6 v2 l j := hl2.step (hm24.on0 hM6) (fun _ _ h => h) fun b h => .inl h
        refine rd_at hl6.1.rd hcell_len (by omega) (range_at (by omega)) fun _ _ _ => ?_
        refine ldA.all (hB4.mod0 hM6) (by simpa using nameV_size _) ?_
        have heq := fun w => keyHandle.eq (nameH ((k + 1 : Nat) : Int)) (nameH ((j + 1 : Nat) : Int)) w
        have hne : nameH ((k + 1 : Nat) : Int) ≠ nameH ((j + 1 : Nat) : Int) := fun e => by have := nameH_inj (by omega) (by omega) e; omega
        refine ⟨false, fun w => ?_, ifM.f rfl ⟨⟨by omega, by omega, hM6⟩, by omega⟩⟩
        have := heq w
        rw [decide_eq_false hne] at this
        exact this
      · rintro _ w5 hm5
        have hm25 : Mod No w2 w5 := hm24.on0 hm5
        have hB5 := hB4.mod0 hm5
        refine ldA.all hB5 (by simpa using nameV_size _) ?_
        refine ⟨_, _, run_slice1 (cs := (nameV ((j + 1 : Nat) : Int)).toList) (t := 25) Try.runUnderlying25 elHandle.size elHandle.zero elHandle.zsize (by simpa using nameV_size _) (by omega) (by omega), ?_⟩
        have hm6 := Mod.alloc w5 (.cells (nameV ((j + 1 : Nat) : Int)).toList.toArray 27)
        have hB6 := Blk.new w5 (nameV ((j + 1 : Nat) : Int)).toList.toArray 27
        generalize hw6 : w5.alloc (.cells (nameV ((j + 1 : Nat) : Int)).toList.toArray 27) = w6 at hm6 hB6 ⊢
        have hsz6 : w6.heap.size = w5.heap.size + 1 := by rw [← hw6]; simp
        have hm26 : Mod No w2 w6 := hm25.on0 hm6
        have hl6 : HLat W w6 v2 l j := hl2.step hm26 (fun _ _ h => h) fun b h => .inl h
        have hrd : RdS w6 16 (Slc.mk (some ⟨w5.heap.size, 0, none⟩) 1 1) (hcell (j + 1)) := ⟨by simp [hcell_len], .inr ⟨_, _, rfl, fun _ => by omega, fun i _ => by
          rw [Nat.zero_add, hB6.cell']
          simp [nameV, hcell]⟩⟩
        have hlen : l.len = j := by
          have := hl2.1.1
          rw [flat_len hcell_len, List.length_range'] at this
          omega
        obtain ⟨l', w7, hr7, hown7, hlen7, hm7, hpl, _⟩ := run_append' (t := 25) (t' := 25) elHandle Try.runUnderlying25 Try.runUnderlying25 (fun k h => by cases h) hl6.1 hrd (u8_one (l := nameB ((j + 1 : Nat) : Int)))
          (by show (2 * (l.len + 1) + 192) * 16 ≤ _; omega) (by omega)
        refine ⟨l', w7, hr7, ?_⟩
        have z7 := hm7.size
        have hlb := hl6.2
        have hf6 := (hv2.mod0 hm26).lt
        refine ⟨⟨j + 1, rfl, by omega, ((hM2.on0 hm26).on hm7 fun b hb h => by have := (hlb b h).1; omega), v2, ?_, (hv2.mod0 hm26).mod hm7 fun b hb h => (hlb b h).2.2 hb, hf2, ?_, fun b hb => ?_⟩, by omega⟩
        · rw [VF.ptr, VF.ptr, hto2.vb]
        · have e3 : (List.range' 1 (j + 1)).flatMap hcell = (List.range' 1 j).flatMap hcell ++ hcell (j + 1) := by
            rw [List.range'_concat, List.flatMap_append]
            simp [Nat.add_comm]
          rw [e3]
          exact hown7
        · rcases hpl with h | ⟨c, h, hc, hc'⟩
          · have := hlb b (h ▸ hb)
            exact ⟨this.1, by omega, this.2.2⟩
          · rw [h] at hb
            have : c = b := by simpa using hb
            subst this
            exact ⟨by have := hM2.size; have := hm26.size; omega, hc', fun h => by have := hf6 c h; omega⟩
    · have : ¬ (j : Int) < n := of_decide_eq_false hc
      have e : j = n := by omega
      subst e
      exact hkk _ w1 ⟨hm1, v1, hp1, hv1, hf1, hl1⟩
  · rintro l w1 ⟨hm1, v1, hp1, hv1, hf1, hl1⟩
    rw [hp1]
    -- nothing of theirs in the bytes
    refine jn_in (Hidden_spec (xs := []) hv1 (VN_wf (by omega) (by omega)) (by rw [VN_len]; omega) (hx.mod0 hm1) (OwnS.nil w1 22 1).rd (by simp) (fun x h => by cases h) fun w2 r k hm2 _ _ _ => ?_)
    refine ⟨fun _ => ⟨rfl, hm1.on0 hm2⟩, fun _ => ?_⟩
    have hM2 : Mod No W w2 := hm1.on0 hm2
    have hv2 := hv1.mod0 hm2
    have hl2 : HLat W w2 v1 l n := hl1.step hm2 (fun _ _ h => h) fun b h => .inl h
    -- the seals
    refine jn.mk (fun sl w' => Mod No W w' ∧ ∃ v, v1.ptr = v.ptr ∧ VaultAt w' v (VN bs n (n - 1)) ∧ HLat W w' v l n ∧ ∃ ys, SL W w' sl ys ∧ ys.map (·.2) = sealsB bs n (n - 1) ∧ (∀ b, sl.a = some ⟨b, 0, none⟩ → ¬ v.fp b ∧ l.a ≠ some ⟨b, 0, none⟩)) ?_ ?_
    · intro kk hkk
      refine Lp.inv (fun (s : Slc × Int) w' => ∃ j : Nat, s.2 = (j : Int) ∧ j ≤ n - 1 ∧ Mod No W w' ∧ ∃ v, v1.ptr = v.ptr ∧ VaultAt w' v (VN bs n j) ∧ (∀ b, v.fp b → W.heap.size ≤ b) ∧ HLat W w' v l n ∧
          ∃ ys, SL W w' s.1 ys ∧ ys.map (·.2) = sealsB bs n j ∧ (∀ b, s.1.a = some ⟨b, 0, none⟩ → ¬ v.fp b ∧ l.a ≠ some ⟨b, 0, none⟩) ∧ (∀ y ∈ ys, ∀ b, y.1.a = some ⟨b, 0, none⟩ → ¬ v.fp b)) (fun s _ => (n - s.2).toNat)
        ⟨0, rfl, by omega, hM2, v1, rfl, hv2, hf1, hl2, [], SL.nil .., rfl, fun b h => (by cases h), fun y h => by cases h⟩ ?_
      rintro ⟨sl, i⟩ w3 ⟨j, hj, hjn, hm3, v3, hp3, hv3, hf3, hl3, ys, hS3, hys, hsl3, hyf3⟩
      simp only at hj hS3 hsl3 ⊢
      subst hj
      rw [hp3]
      have e1 : IntKind.i64.wrap ((j : Int) + 1) = ((j + 1 : Nat) : Int) := wrap_i64 (by omega) (by omega)
      rw [e1]
      refine ⟨fun hc => ?_, fun hc => ?_⟩
      · have hjn' : j + 1 < n := by have : ((j + 1 : Nat) : Int) < n := of_decide_eq_true hc; omega
        refine jn_in (drw.mk fun w4 hm4 => ?_)
        have hl4 : HLat W w4 v3 l n := hl3.step hm4 (fun _ _ h => h) fun b h => .inl h
        have hv4 := hv3.mod0 hm4
        have z3 := hm3.size
        have z4 := hm4.size
        refine own_ix hl4.1 hcell_len (by omega) (range_at (k := j) (by omega)) fun b o hlb hc1 => ?_
        have hbl := (hl4.2 b hlb)
        have cellsAt : ∀ w', w'.cell? = w4.cell? → CellsAt w' ⟨b, o, none⟩ 16 (hcell (j + 1)).toArray := fun w' e => ⟨by simp [hcell_len], fun i hi => by rw [add_at, e, hc1 i hi]; simp⟩
        have cellsIn : ∀ w', Mod No w4 w' → CellsAt w' ⟨b, o, none⟩ 16 (hcell (j + 1)).toArray := fun w' hm => ⟨by simp [hcell_len], fun i hi => by rw [add_at, Mod.cell hm hbl.2.1 (fun h => h), hc1 i hi]; simp⟩
        refine ⟨_, cellsIn w4 (Mod.refl _ _), ?_⟩
        refine own_ix hl4.1 hcell_len (by omega) (range_at (k := j + 1) (by omega)) fun b' o' hlb' hc2 => ?_
        have hbl' := (hl4.2 b' hlb')
        refine newV.mk fun bp w5 hbp hB5 hm5 => ?_
        have z5 := hm5.size
        have hbp5 := hB5.lt
        refine ⟨cellsIn w5 hm5, ?_⟩
        have hown0 : OwnS w5 5 1 (Slc.mk (some ⟨bp, 0, none⟩) 0 0) [] := ⟨rfl, .inr ⟨bp, [], rfl, hB5, rfl, Nat.le_refl _⟩⟩
        have hxl' : x.len = bs.length := hx.1.len
        obtain ⟨s1, w6, hr6, hown6, hlen6, hm6, hpl6, _⟩ := run_append' (t := 22) (t' := 22) elByte Try.runUnderlying22 Try.runUnderlying22 (fun k h => by cases h) hown0 (hx.mod0 ((hm3.on0 hm4).on0 hm5)).1 u8_one
          (by show (2 * (0 + x.len) + 192) * 1 ≤ _; omega) (by omega)
        have z6 := hm6.size
        have hm46 : Mod No w4 w6 := hm5.on hm6 fun c hc h => by
          have : bp = c := by simpa using h
          omega
        have hs1b : ∀ c, s1.a = some ⟨c, 0, none⟩ → w4.heap.size ≤ c := fun c hc => by
          rcases hpl6 with h | ⟨d, h, hd, _⟩
          · rw [h] at hc
            have : bp = c := by simpa using hc
            omega
          · rw [h] at hc
            have : d = c := by simpa using hc
            omega
        refine ⟨s1, w6, hr6, cellsIn w6 hm46, ?_⟩
        have hrd7 : RdS w6 1 (Slc.sub ⟨some ⟨b', o', none⟩, 16, 16⟩ 1 0 16 16) (hcell (j + 1 + 1)) := (hslice (m := j + 1 + 1) (fun i hi => by rw [Mod.cell hm46 hbl'.2.1 fun h => h]; exact hc2 i hi) (by omega)).1
        rw [List.nil_append] at hown6
        obtain ⟨s2, w7, hr7, hown7, hlen7, hm7, hpl7, _⟩ := run_append' (t := 22) (t' := 22) elByte Try.runUnderlying22 Try.runUnderlying22 (fun k h => by cases h) hown6 hrd7 (u8_one (l := nameB _))
          (by
            have : (Slc.sub ⟨some ⟨b', o', none⟩, 16, 16⟩ 1 0 16 16).len = 16 := rfl
            rw [this, hlen6]
            show (2 * (0 + x.len + 16) + 192) * 1 ≤ _
            omega) (by omega)
        have z7 := hm7.size
        have hm47 : Mod No w4 w7 := hm46.on hm7 fun c hc h => by have := hs1b c h; omega
        refine ⟨s2, w7, hr7, cellsIn w7 hm47, ?_⟩
        have hv7 := hv4.mod0 hm47
        have hl7 : HLat W w7 v3 l n := hl4.step hm47 (fun _ _ h => h) fun b h => .inl h
        have hS7 := hS3.mod0 (hm4.on0 hm47)
        have hM7 : Mod No W w7 := (hm3.on0 hm4).on0 hm47
        have hp : RdB w7 s2 (bs ++ nameB ((j + 1 + 1 : Nat) : Int)) := by
          have := hown7.rd
          rw [RdB, List.map_append]
          exact this
        refine Seal_spec (key := nameH ((j + 1 : Nat) : Int)) (k := ((j + 1 : Nat) : Int)) (ab := []) hv7 (by rw [VN_len]; omega) (lastN_name (by rw [VN_len]; omega) (by rw [VN_len]; omega)) (by omega) (OwnS.nil w7 5 1).rd hp ?_ ?_
        · intro hbig w8 hm8
          rw [List.length_append, nameB_len] at hbig
          refine jn_in (ifM.t rfl ⟨?_, hM7.on0 hm8⟩)
          rw [hxl]
          simp
          omega
        · intro _ w8 v8 V8 m8 s8 hmade hv8 hto8 hm8 hown8 hblk8
          obtain ⟨rfl, rfl⟩ : V8 = VN bs n (j + 1) ∧ m8 = ((n + 1 + j : Nat) : Int) := by
            rcases hmade with ⟨_, h, _⟩ | ⟨_, rfl, rfl⟩
            · have := seal_new (bs := bs) (n := n) (i := j)
              unfold sealI at this
              rw [this] at h
              cases h
            · rw [VN_succ, VN_len]
              exact ⟨rfl, rfl⟩
          obtain ⟨bx, hsa, hbx, hbx', hbf⟩ := hblk8
          refine jn_in (ifM.f rfl ?_)
          have z8 := hm8.size
          have hS8 : SL W w8 sl ys := hS7.mod hm8 (fun b hb => (hsl3 b hb).1) hyf3
          have hl8 : HLat W w8 v8 l n := hl7.step hm8 (fun b hb => (hl7.2 b hb).2.2) fun b h => hto8.fp h
          have hM8 : Mod No W w8 := hM7.on hm8 fun b hb h => by have := hf3 b h; omega
          refine newV.mk fun bq w9 hbq hB9 hm9 => ?_
          have z9 := hm9.size
          have hS9 := hS8.mod0 hm9
          have hrd : RdS w9 1 (Slc.mk (some ⟨bq, 0, none⟩) 1 1) [s8.v] := ⟨rfl, .inr ⟨bq, 0, rfl, fun _ => hB9.lt, fun i hi => by rw [Nat.zero_add]; exact hB9.cell' i⟩⟩
          have hl9 := hS9.len
          have hyl : ys.length = j := by
            have := congrArg List.length hys
            simpa [sealsB] using this
          obtain ⟨sl', w10, hr10, hown10, hlen10, hm10, hpl10, _⟩ := run_append' (t := 30) (t' := 30) elBytes Try.runUnderlying30 Try.runUnderlying30 (fun k h => by cases h) hS9.1 hrd (by intro v hv; rw [List.mem_singleton.1 hv]; rfl)
            (by show (2 * (sl.len + 1) + 192) * 24 ≤ _; omega) (by omega)
          refine ⟨sl', w10, hr10, ?_⟩
          have z10 := hm10.size
          have e2 : (List.replicate (bs ++ nameB ((j + 1 + 1 : Nat) : Int)).length 0 ++ nameB ((n + 1 + j : Nat) : Int)) = sealB bs n j := by rw [List.length_append, nameB_len]; rfl
          rw [e2] at hown8
          have hto : Txt w8 s8 (sealB bs n j) := ⟨hown8.rd, by rcases hown8.2 with rfl | ⟨_, _, _, _, _, h⟩ <;> simp_all, by simp [sealB, nameB_len]; omega⟩
          have zW := hM8.size
          have hslb : ∀ b, sl.a = some ⟨b, 0, none⟩ → b < w7.heap.size := fun b hb => (hS7.2.1 b hb).2
          have hS10 := hS9.push (w' := w10) hsa (by omega) (by omega) (fun e => by have := hslb _ e; omega) (hto.mod0 hm9) hown10 hm10 hpl10 (by omega)
          have hfold : ∀ b, b < w7.heap.size → ¬ v3.fp b → ¬ v8.fp b := fun b hb h h' => (hto8.fp h').elim h fun e => by omega
          refine ⟨⟨j + 1, rfl, by omega, (hM8.on0 hm9).on hm10 fun b hb h => by have := (hS9.2.1 b h).1; omega, v8, ?_, (hv8.mod0 hm9).mod hm10 fun b hb h => hfold b (hslb b h) (hsl3 b h).1 hb, fun b h => (hto8.fp h).elim (hf3 b) fun h => by omega,
            (hl8.step hm9 (fun _ _ h => h) fun b h => .inl h).step hm10 (fun b hb h => (hsl3 b h).2 hb) fun b h => .inl h, _, hS10, ?_, fun b hb => ?_, fun y hy b hb => ?_⟩, by omega⟩
          · rw [VF.ptr, VF.ptr, hto8.vb]
          · rw [List.map_append, hys]
            simp [sealsB, List.range_succ]
          · rcases hpl10 with h | ⟨c, h, hc, hc'⟩
            · have h1 := hsl3 b (h ▸ hb)
              exact ⟨hfold b (hslb b (h ▸ hb)) h1.1, h1.2⟩
            · rw [h] at hb
              have : c = b := by simpa using hb
              subst this
              have := hv8.lt
              exact ⟨fun h => by have := this c h; omega, fun h => by have := (hl8.2 c h).2.1; omega⟩
          · rcases List.mem_append.1 hy with hy | hy
            · obtain ⟨c, e, _, g, _⟩ := hS7.2.2 y hy
              rw [e] at hb
              have : c = b := by simpa using hb
              subst this
              exact hfold c g (hyf3 y hy c e)
            · rw [List.mem_singleton.1 hy] at hb
              simp only [hsa] at hb
              have : bx = b := by simpa using hb
              subst this
              exact hbf
      · have : ¬ ((j + 1 : Nat) : Int) < n := of_decide_eq_false hc
        have e : j = n - 1 := by omega
        subst e
        exact hkk _ w3 ⟨hm3, v3, hp3, hv3, hl3, ys, hS3, hys, hsl3⟩
    · rintro sl w3 ⟨hm3, v3, hp3, hv3, hl3, ys, hS3, hys, hsl3⟩
      rw [hp3]
      have hwf : WfV (VN bs n (n - 1)) := VN_wf (by omega) (by omega)
      have hVl := VN_len bs n (n - 1)
      have hyl : ys.length = n - 1 := by
        have := congrArg List.length hys
        simpa [sealsB] using this
      have hlastn : lastN (VN bs n (n - 1)).length (nameH (n : Int)) = some (n : Int) := lastN_name (by omega) (by omega)
      refine drw.mk fun w4 hm4 => jn_in ?_
      have hl4 : HLat W w4 v3 l n := hl3.step hm4 (fun _ _ h => h) fun b h => .inl h
      have hv4 := hv3.mod0 hm4
      have hS4 := hS3.mod0 hm4
      have txts : ∀ {w'}, SL W w' sl ys → ∀ y ∈ ys, Txt w' y.1 y.2 := fun h y hy => by
        obtain ⟨_, _, _, _, _, g⟩ := h.2.2 y hy
        exact g
      have en : n - 1 + 1 = n := by omega
      refine own_ix hl4.1 hcell_len (by omega) (range_at (k := n - 1) (by omega)) fun b o hlb hc1 => ?_
      rw [en] at hc1
      refine Hidden_spec hv4 hwf (by omega) (hslice hc1 (hl4.2 b hlb).2.1) hS4.1.rd (by omega) (txts hS4) fun w5 r k hm5 hkl hkn hr => ?_
      refine ⟨fun _ => ?_, fun hf => ?_⟩
      · have hl5 : HLat W w5 v3 l n := hl4.step hm5 (fun _ _ h => h) fun b h => .inl h
        have hS5 := hS4.mod0 hm5
        have hv5 := hv4.mod0 hm5
        refine own_ix hl5.1 hcell_len (by omega) (range_at (k := n - 1) (by omega)) fun b1 o1 hlb1 hd1 => own_ix (i := 0) hl5.1 hcell_len (by omega) (range_at (k := 0) (by omega)) fun b2 o2 hlb2 hd2 => ?_
        rw [en] at hd1
        -- one append to what is seen
        have app : ∀ {w a : World} {bq : Nat} {b2 o2 : Nat}, Mod No W w → SL W w sl ys → HLat W w v3 l n → VaultAt w v3 (VN bs n (n - 1)) → l.a = some ⟨b2, 0, none⟩ → (∀ j, j < 16 → w.cell? ⟨b2, o2 + j, none⟩ = (hcell 1)[j]?) →
            ∀ {k : Slc → World → Prop}, (∀ t w', Mod No W w' → SL W w' sl ys → HLat W w' v3 l n → VaultAt w' v3 (VN bs n (n - 1)) → RdS w' 1 t ((ys ++ [(Slc.sub ⟨some ⟨b2, o2, none⟩, 16, 16⟩ 1 0 16 16, nameB ((1 : Nat) : Int))]).map (·.1.v)) →
              (∀ y ∈ ys ++ [(Slc.sub ⟨some ⟨b2, o2, none⟩, 16, 16⟩ 1 0 16 16, nameB ((1 : Nat) : Int))], Txt w' y.1 y.2) → (∀ o, w'.cell? ⟨b2, o, none⟩ = w.cell? ⟨b2, o, none⟩) → k t w') →
            newV 22 #[(Slc.sub ⟨some ⟨b2, o2, none⟩, 16, 16⟩ 1 0 16 16).v] w fun p54 w53 => ∃ (t56 : Slc) (w55 : World), (∀ t, rn Try.prog (Builtin.append_ #[30, 30] t #[sl.v, (Slc.mk (some p54) 1 1).v]) t56.v w53 w55) ∧ k t56 w55 := by
          intro w a bq b2 o2 hmw hSw hlw hvw hlb2 hcell2 k hk
          refine newV.mk fun bq w9 hbq hB9 hm9 => ?_
          have z9 := hm9.size
          have hS9 := hSw.mod0 hm9
          have hrd : RdS w9 1 (Slc.mk (some ⟨bq, 0, none⟩) 1 1) [(Slc.sub ⟨some ⟨b2, o2, none⟩, 16, 16⟩ 1 0 16 16).v] := ⟨rfl, .inr ⟨bq, 0, rfl, fun _ => hB9.lt, fun i hi => by rw [Nat.zero_add]; exact hB9.cell' i⟩⟩
          have hl9 := hS9.len
          obtain ⟨sl', w10, hr10, hown10, hlen10, hm10, hpl10, hold10⟩ := run_append' (t := 30) (t' := 30) elBytes Try.runUnderlying30 Try.runUnderlying30 (fun k h => by cases h) hS9.1 hrd (by intro v hv; rw [List.mem_singleton.1 hv]; rfl)
            (by show (2 * (sl.len + 1) + 192) * 24 ≤ _; omega) (by omega)
          have z10 := hm10.size
          have hS10 := hS9.keep hold10 hm10
          have hlw2 := hlw.2 b2 hlb2
          have hcl : ∀ o, w10.cell? ⟨b2, o, none⟩ = w.cell? ⟨b2, o, none⟩ := fun o => by
            rw [Mod.cell hm10 (by omega) fun h => (hsl3 b2 h).2 hlb2, Mod.cell hm9 hlw2.2.1 fun h => h]
          refine ⟨sl', w10, hr10, hk sl' w10 ((hmw.on0 hm9).on hm10 fun b hb h => by have := (hS9.2.1 b h).1; omega) hS10 ((hlw.step hm9 (fun _ _ h => h) fun b h => .inl h).step hm10 (fun b hb h => (hsl3 b h).2 hb) fun b h => .inl h)
            ((hvw.mod0 hm9).mod hm10 fun b hb h => (hsl3 b h).1 hb) ?_ ?_ hcl⟩
          · rw [List.map_append]
            exact hown10.rd
          · intro y hy
            rcases List.mem_append.1 hy with hy | hy
            · exact txts hS10 y hy
            · rw [List.mem_singleton.1 hy]
              exact hslice (fun j hj => by rw [hcl]; exact hcell2 j hj) (by omega)
        have hseen : ∀ {b2 o2}, ∀ b ∈ sealsB bs n (n - 1), b ∈ (ys ++ [(Slc.sub ⟨some ⟨b2, o2, none⟩, 16, 16⟩ 1 0 16 16, nameB ((1 : Nat) : Int))]).map (·.2) := fun b hb => by
          rw [List.map_append, hys]
          exact List.mem_append_left _ hb
        have hseen1 : ∀ {b2 o2}, nameB ((1 : Nat) : Int) ∈ (ys ++ [(Slc.sub ⟨some ⟨b2, o2, none⟩, 16, 16⟩ 1 0 16 16, nameB ((1 : Nat) : Int))]).map (·.2) := by
          intro b2 o2
          rw [List.map_append]
          exact List.mem_append_right _ (List.mem_singleton.2 rfl)
        refine app (a := w5) (bq := 0) ((hm3.on0 hm4).on0 hm5) hS5 hl5 hv5 hlb2 hd2 fun t6 w6 hM6 hS6 hl6 hv6 hrd6 htx6 hcl6 => ?_
        have hb12 : b1 = b2 := by rw [hlb1] at hlb2; simpa using hlb2
        subst hb12
        refine Hidden_spec hv6 hwf (by omega) (hslice (m := n) (fun j hj => by rw [hcl6]; exact hd1 j hj) (hl6.2 b1 hlb1).2.1) hrd6 (by simp; omega) htx6 fun w7 r7 k7 hm7 hkl7 hkn7 hr7 => ?_
        have hhigh := kn_high hn2 hn17 hseen (hseen1 (b2 := b1) (o2 := o2))
        have hk7n : kn k7 n := (hkn7 n).2 (by have := hhigh.2 (n - 1) (by omega); rwa [en] at this)
        have hr7f : r7 = false := by
          cases r7 with
          | false => rfl
          | true => exact absurd hk7n ((hid_one hlastn).1 (hr7.1 rfl))
        subst hr7f
        refine ifM.t rfl ?_
        have hl7 : HLat W w7 v3 l n := hl6.step hm7 (fun _ _ h => h) fun b h => .inl h
        refine own_ix (i := 0) hl7.1 hcell_len (by omega) (range_at (k := 0) (by omega)) fun b3 o3 hlb3 hd3 => ?_
        refine app (a := w5) (bq := 0) (hM6.on0 hm7) (hS6.mod0 hm7) hl7 (hv6.mod0 hm7) hlb3 hd3 fun t8 w8 hM8 hS8 hl8 hv8 hrd8 htx8 hcl8 => ?_
        refine Spied_spec hv8 hwf (by omega) hrd8 (by simp; omega) htx8 fun w9 r9 k9 ys9 hm9 hkl9 hkn9 hS9 hys9 => ?_
        have hhigh9 := kn_high hn2 hn17 hseen (hseen1 (b2 := b3) (o2 := o3))
        have hlen9 : ys9.length = n - 1 := by
          have h1 := congrArg List.length hys9
          rw [List.length_map, hVl, spied_all (N := n - 1) (i := n - 1) (Nat.le_refl _) (fun j hj => (hkn9 _).2 (hhigh9.1 j hj)) (fun j hj => (hkn9 _).2 (hhigh9.2 j (by omega)))] at h1
          exact h1
        refine ifM.t (by rw [hS9.len, hlen9]; simp) ?_
        have hS9' := hS8.mod0 hm9
        refine Spied_spec (hv8.mod0 hm9) hwf (by omega) hS9'.1.rd (by omega) (txts hS9') fun w10 r10 k10 ys10 hm10 hkl10 hkn10 hS10 hys10 => ?_
        have hlen10 : ys10.length = 0 := by
          have h1 := congrArg List.length hys10
          rw [List.length_map, hVl, spied_none (N := n - 1) (i := n - 1) (Nat.le_refl _) (fun j hj h => by
            have := (hkn10 _).1 h
            rw [hys] at this
            have := kn_low hn2 hn17 this
            omega)] at h1
          exact h1
        exact ⟨by rw [hS10.len, hlen10]; rfl, (hM8.on0 hm9).on0 hm10⟩
      · exfalso
        have : Hid (VN bs n (n - 1)) k (nameB (n : Int)) := (hid_one hlastn).2 fun h => by
          have h1 := (hkn n).1 h
          rw [hys] at h1
          have := kn_low hn2 hn17 h1
          omega
        rw [hr.2 this] at hf
        cases hf
end Go.Proofs.Ytkehoneadedmhaa
