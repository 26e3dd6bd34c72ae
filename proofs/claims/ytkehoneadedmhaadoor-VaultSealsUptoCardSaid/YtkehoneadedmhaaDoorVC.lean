/-
  The vault: begun, fresh terms, seals.
-/
import Derived.Test.YtkehoneadedmhaaDoorVB
namespace Go.Proofs.YtkehoneadedmhaaDoor
open Go Go.Sh
set_option linter.unusedVariables false
set_option linter.unusedSimpArgs false

abbrev VF.ptr (v : VF) : Option Addr := some ⟨v.vb, 0, none⟩
def nameV (n : Int) : Array Value := ((nameB n).map u8).toArray
theorem nameV_size (n : Int) : (nameV n).size = 16 := by simp [nameV, nameB_len]
theorem u8_one {l : List UInt8} : ∀ v ∈ l.map u8, one v = true := by
  intro v hv
  obtain ⟨y, _, rfl⟩ := List.mem_map.1 hv
  rfl
theorem nameV_one (n : Int) : ∀ v ∈ (nameV n).toList, one v = true := fun v hv => u8_one v (by simpa [nameV] using hv)

/-- a term made or found -/
def Made (V : List Term) (t : Term) (V' : List Term) (i : Int) : Prop := (t.kind ≠ 1 ∧ lastT V t = some i ∧ V' = V) ∨ ((t.kind = 1 ∨ lastT V t = none) ∧ V' = V ++ [t] ∧ i = V.length)

theorem make_made {t : Term} {w : World} {v : VF} {V : List Term} {K : Array Value → World → Prop} (hv : VaultAt w v V) (hV : V.length < 1000000000)
    (h : ∀ w' v' V' i, Made V t V' i → VaultAt w' v' V' → v.to v' w.heap.size → Mod v.fp w w' → K (nameV i) w') : C16 v.ptr t.cells.toArray w K :=
  make_spec hv hV (fun w' n h1 h2 h3 => h w' v V n (.inl ⟨h1, h2, rfl⟩) (hv.mod0 h3) (VF.to.refl ..) h3.of0) (fun h1 w' v' h2 h3 h4 => h w' v' _ _ (.inr ⟨h1, rfl, rfl⟩) h2 h3 h4)

theorem Made.len {V V' : List Term} {t : Term} {i : Int} (h : Made V t V' i) : V'.length ≤ V.length + 1 ∧ V.length ≤ V'.length ∧ 0 ≤ i ∧ i < V'.length := by
  rcases h with ⟨_, h, rfl⟩ | ⟨_, rfl, rfl⟩
  · have := lastT_lt h
    omega
  · simp; omega

def rootT : Term := ⟨0, 0, 0, 0, ⟨#[]⟩, ⟨#[]⟩, ⟨#[]⟩⟩
def freshT : Term := ⟨1, 0, 0, 0, ⟨#[]⟩, ⟨#[]⟩, ⟨#[]⟩⟩

theorem none_spec {w : World} {v : VF} {V : List Term} {K : Bool → World → Prop} (hv : VaultAt w v V) (h : K false w) : C17 v.ptr w K := by
  refine br17 ?_
  unfold sh17
  refine jn_in (ifM.f rfl (nn.mk ?_))
  rw [add_at]
  exact ldM.mk hv.box rfl h

theorem New_spec {w : World} {K : Option Addr → World → Prop} (h : ∀ w' v, VaultAt w' v [rootT] → (∀ b, v.fp b → w.heap.size ≤ b) → Mod No w w' → K v.ptr w') : C5 w K := by
  refine br5 ?_
  unfold sh5
  refine newM.mk fun m1 w1 hm1 hl1 he1 hM1 => ?_
  refine newM.mk fun m2 w2 hm2 hl2 he2 hM2 => ?_
  refine newV.mk fun b w3 hb hB hM3 => ?_
  have hs1 := hM1.size
  have hs2 := hM2.size
  have hs3 := hM3.size
  have hv : VaultAt w3 ⟨b, Slc.nil, m1, m2⟩ [] := by
    refine ⟨hB, OwnS.nil .., rfl, ?_, ?_, by show m1 ≠ m2; omega, by show b ≠ m1; omega, by show b ≠ m2; omega, fun c hc => by cases hc⟩
    · exact ((he1 Term Int Term.enc vi).mod hM2 fun h => h).mod hM3 fun h => h
    · exact (he2 Hd Int Hd.enc vi).mod hM3 fun h => h
  show C16 (VF.ptr ⟨b, Slc.nil, m1, m2⟩) rootT.cells.toArray w3 _
  refine make_made (t := rootT) hv (by simp) fun w4 v' V' i hmade hv' hto hM4 => ?_
  have e : V' = [rootT] := by
    rcases hmade with ⟨_, h, _⟩ | ⟨_, rfl, _⟩
    · have := lastT_lt h; simp at this
    · rfl
  subst e
  have hM : Mod No w w4 := ((hM1.on0 hM2).on0 hM3).on hM4 fun c hc h => by
    rcases h with h | h | h | h
    · simp only at h; omega
    · simp only at h; omega
    · simp only at h; omega
    · cases h
  have := h w4 v' hv' (fun c hc => by
    rcases hto.fp hc with h | h
    · rcases h with h | h | h | h
      · simp only at h; omega
      · simp only at h; omega
      · simp only at h; omega
      · cases h
    · omega) hM
  rw [VF.ptr, hto.vb] at this
  exact this

theorem Fresh_spec {w : World} {v : VF} {V : List Term} {K : Array Value → World → Prop} (hv : VaultAt w v V) (hV : V.length < 1000000000)
    (h : ∀ w' v', VaultAt w' v' (V ++ [freshT]) → v.to v' w.heap.size → Mod v.fp w w' → K (nameV V.length) w') : C6 v.ptr w K := by
  refine br6 ?_
  unfold sh6
  refine newV.mk fun b w1 hb hB hm1 => ?_
  refine jn_in ?_
  have hv1 := hv.mod0 hm1
  refine none_spec hv1 (ifM.f rfl ?_)
  refine make_made (t := freshT) hv1 hV fun w2 v' V' i hmade hv2 hto hm2 => ?_
  have e : V' = V ++ [freshT] ∧ i = V.length := by
    rcases hmade with ⟨h, _⟩ | ⟨_, rfl, rfl⟩
    · exact absurd rfl h
    · exact ⟨rfl, rfl⟩
  obtain ⟨rfl, rfl⟩ := e
  have hs1 := hm1.size
  have hb1 := hB.lt
  have hB2 := hB.mod hm2 fun h => by have := hv.lt b h; omega
  refine stA.all hB2 rfl (nameV_size _) (nameV_one _) fun w3 hB3 hm3 => ?_
  refine ldA.all hB3 (by simpa using nameV_size _) ?_
  refine h w3 v' (hv2.mod hm3 fun c hc e => ?_) ⟨hto.vb, hto.fb, hto.nb, ?_⟩ ((hm1.of0.on hm2 fun c _ h => h).onNew hm3 hb)
  · subst e
    rcases hto.fp hc with h | h
    · have := hv.lt c h; omega
    · omega
  · rcases hto.tb with h | ⟨c, h, hc⟩
    · exact .inl h
    · exact .inr ⟨c, h, by omega⟩

def sealT (k number : Int) (ab pb : List UInt8) : Term := ⟨6, k, 0, number, ⟨#[]⟩, ⟨ab.toArray⟩, ⟨pb.toArray⟩⟩

theorem elByte : ElemT Tryd.prog 5 1 1 (.int .u8 0) where
  size := Tryd.sizeOf5
  info w := ⟨_, Tryd.typeInfo5 w, by kernel_rfl⟩
  zero := Tryd.zeroValue5
  zsize := rfl

theorem rep_u8 (n : Nat) : List.replicate n (Value.int .u8 0) = (List.replicate n (0 : UInt8)).map u8 := by simp [u8]

theorem Seal_spec {w : World} {v : VF} {V : List Term} {key : Hd} {k number : Int} {also plain : Slc} {ab pb : List UInt8} {K : Slc → Int → World → Prop} (hv : VaultAt w v V) (hV : V.length < 1000000000)
    (hk : lastN V.length key = some k) (hn : 0 ≤ number) (ha : RdB w also ab) (hp : RdB w plain pb)
    (hbig : 65536 < pb.length → ∀ w', Mod No w w' → K Slc.nil 3 w')
    (hok : pb.length ≤ 65536 → ∀ w' v' V' i s, Made V (sealT k number ab pb) V' i → VaultAt w' v' V' → v.to v' w.heap.size → Mod v.fp w w' →
      OwnS w' 5 1 s ((List.replicate pb.length 0 ++ nameB i).map u8) → (∃ b, s.a = some ⟨b, 0, none⟩ ∧ w.heap.size ≤ b ∧ b < w'.heap.size ∧ ¬ v'.fp b) → K s 0 w') :
    C7 v.ptr (key.1.map u8).toArray number also plain w K := by
  refine br7 ?_
  unfold sh7
  refine newV.mk fun bk w1 hbk hBk hm1 => ?_
  have hs1 := hm1.size
  have hbk1 := hBk.lt
  refine jn_in ?_
  have hv1 := hv.mod0 hm1
  refine none_spec hv1 (ifM.f rfl ?_)
  refine drw.mk fun w2 hm2 => nn.mk ?_
  have hv2 := hv1.mod0 hm2
  have hs2 := hm2.size
  rw [add_at]
  refine ldM.mk hv2.box rfl ?_
  have hBk2 := hBk.mod0 hm2
  refine ldA.all hBk2 (by simp [key.2]) ?_
  have hlook := run_lookup keyHandle Tryd.runUnderlying49 zero_int hv2.names key
  rw [hk] at hlook
  refine ⟨k, true, hlook, jn_in (ifM.f rfl (ifM.f (by simp; omega) ?_))⟩
  have hlen : (plain.len : Int) = pb.length := by rw [hp.len]
  by_cases hb : 65536 < pb.length
  · refine ifM.t (by simp [hlen]; omega) (hbig hb w2 (hm1.on0 hm2))
  refine ifM.f (by simp [hlen]; omega) ?_
  have ha2 : RdB w2 also ab := (ha.mod hm1 fun _ _ _ h => h).mod hm2 fun _ _ _ h => h
  have hp2 : RdB w2 plain pb := (hp.mod hm1 fun _ _ _ h => h).mod hm2 fun _ _ _ h => h
  refine ⟨_, run_b2s Tryd.underlying22 Tryd.underlying5 Tryd.underlying9 ha2, _, run_b2s Tryd.underlying22 Tryd.underlying5 Tryd.underlying9 hp2, ?_⟩
  refine make_made (t := sealT k number ab pb) hv2 hV fun w3 v' V' i hmade hv3 hto hm3 => ?_
  have hs3 := hm3.size
  refine newV.mk fun b4 w4 hb4 hB4 hm4 => ?_
  have hs4 := hm4.size
  have hb4' := hB4.lt
  refine stA.all hB4 rfl (nameV_size _) (nameV_one _) fun w5 hB5 hm5 => ?_
  have hs5 := hm5.size
  refine drw.mk fun w6 hm6 => ?_
  have hs6 := hm6.size
  obtain ⟨b7, w7, hr7, hB7, hm7, hb7, hb7'⟩ := run_make (t := 22) elByte rfl (w := w6) (n := (plain.len : Int)) Tryd.runUnderlying22 (by omega) (by omega) (by omega)
  refine ⟨_, w7, hr7, ?_⟩
  have hs7 := hm7.size
  have hown : OwnS w7 5 1 (Slc.mk (some ⟨b7, 0, none⟩) (plain.len : Int).toNat (plain.len : Int).toNat) (List.replicate (plain.len : Int).toNat (.int .u8 0)) :=
    ⟨by simp, .inr ⟨b7, [], rfl, by simpa using hB7, by simp, Nat.le_refl _⟩⟩
  have hB57 := (hB5.mod0 hm6).mod0 hm7
  have hrd : RdS w7 1 (Slc.sub ⟨some ⟨b4, 0, none⟩, 16, 16⟩ 1 0 16 16) (nameV i).toList := by
    refine ⟨by simpa [Slc.sub] using nameV_size i, .inr ⟨b4, 0, by simp [Slc.sub, add_at], fun _ => hB57.lt, fun j _ => by rw [Nat.zero_add]; exact hB57.cell' j⟩⟩
  obtain ⟨s, w8, hr8, hown8, hlen8, hm8, hpl⟩ := run_append (t := 22) (t' := 22) elByte Tryd.runUnderlying22 Tryd.runUnderlying22 (fun k h => by cases h) hown hrd (nameV_one i) (by
    have : (Slc.sub ⟨some ⟨b4, 0, none⟩, 16, 16⟩ 1 0 16 16).len = 16 := rfl
    rw [this]
    simp only [Int.toNat_natCast]
    omega) (by omega)
  refine ⟨s, w8, hr8, ?_⟩
  have hs8 := hm8.size
  have hvlt := hv3.lt
  have hvlt0 := hv.lt
  have hM3 : Mod v.fp w w3 := ((hm1.on0 hm2).of0).on hm3 fun _ _ h => h
  have hM7 : Mod v.fp w w7 := (((hM3.on0 hm4).onNew hm5 (by omega)).on0 hm6).on0 hm7
  have hM8 : Mod v.fp w w8 := hM7.on hm8 fun c hc h => by
    have : b7 = c := by simpa using h
    omega
  have hv7 : VaultAt w7 v' V' := (((hv3.mod0 hm4).mod hm5 fun c hc e => by have := hvlt c hc; omega).mod0 hm6).mod0 hm7
  refine hok (by omega) w8 v' V' i s hmade (hv7.mod hm8 fun c hc h => ?_) ⟨hto.vb, hto.fb, hto.nb, ?_⟩ hM8 ?_ ?_
  · have : b7 = c := by simpa using h
    have := hvlt c hc
    omega
  · rcases hto.tb with h | ⟨c, h, hc⟩
    · exact .inl h
    · exact .inr ⟨c, h, by omega⟩
  · have e : List.replicate (plain.len : Int).toNat (Value.int .u8 0) ++ (nameV i).toList = (List.replicate pb.length 0 ++ nameB i).map u8 := by
      rw [rep_u8, hp.len]
      simp [nameV]
    rw [← e]
    exact hown8
  · rcases hpl with h | ⟨c, h, hc, hc'⟩
    · exact ⟨b7, h, by omega, by omega, fun hf => by have := hvlt _ hf; omega⟩
    · exact ⟨c, h, by omega, hc', fun hf => by have := hvlt _ hf; omega⟩
end Go.Proofs.YtkehoneadedmhaaDoor
