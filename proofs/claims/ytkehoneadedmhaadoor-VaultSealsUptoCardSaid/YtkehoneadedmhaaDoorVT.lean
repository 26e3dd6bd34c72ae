/-
  VaultSeals: the law's walk.
-/
import Derived.Test.YtkehoneadedmhaaDoorVS
namespace Go.Proofs.YtkehoneadedmhaaDoor
open Go Go.Sh
set_option linter.unusedVariables false
set_option linter.unusedSimpArgs false

theorem str_eq (xs : List UInt8) : ((⟨xs.toArray⟩ : ByteArray).toList == (⟨xs.toArray⟩ : ByteArray).toList) = true := by simp

set_option maxHeartbeats 4000000 in
theorem law_seals {W : World} {x y : Slc} {a2 : Int} {pb ab : List UInt8} (hx : Txt W x pb) (hy : Txt W y ab) (hpb : pb.length < 100000000) (hab : ab.length < 100000000) : C3 x y a2 W (fun r w' => r = true ∧ Mod No W w') := by
  refine br3 ?_
  unfold sh3
  obtain ⟨n, hn, hand⟩ := andM a2
  rw [hand]
  clear hand
  have hN1 : IntKind.i64.wrap ((n : Int) + 1) = ((n + 1 : Nat) : Int) := wrap_i64 (by omega) (by omega)
  rw [hN1]
  have hxl : (x.len : Int) = pb.length := by rw [hx.1.len]
  rw [hxl]
  refine New_spec fun w0 v0 hv0 hf0 hm0 => jn_in (ifM.f rfl ?_)
  refine jn_in (Fresh_spec hv0 (by simp) fun w1 v1 hv1 hto1 hm1 => ?_)
  have z0 := hm0.size
  have z1 := hm1.size
  have hM1 : Mod No W w1 := hm0.on hm1 fun b hb h => by have := hf0 b h; omega
  have hf1 : ∀ b, v1.fp b → W.heap.size ≤ b := fun b h => (hto1.fp h).elim (hf0 b) fun h => by omega
  have hp1 : v0.ptr = v1.ptr := by rw [VF.ptr, VF.ptr, hto1.vb]
  rw [hp1]
  refine Fresh_spec hv1 (by simp) fun w2 v2 hv2 hto2 hm2 => ?_
  have z2 := hm2.size
  have hM2 : Mod No W w2 := hM1.on hm2 fun b hb h => by have := hf1 b h; omega
  have hf2 : ∀ b, v2.fp b → W.heap.size ≤ b := fun b h => (hto2.fp h).elim (hf1 b) fun h => by omega
  have hp2 : v1.ptr = v2.ptr := by rw [VF.ptr, VF.ptr, hto2.vb]
  rw [hp2]
  refine newV.mk fun bk w3 hbk hB3 hm3 => newV.mk fun bl w4 hbl hB4 hm4 => ?_
  have z3 := hm3.size
  have z4 := hm4.size
  have l3 := hB3.lt
  have l4 := hB4.lt
  have e1 : nameV (([rootT] : List Term).length : Int) = nameV ((1 : Nat) : Int) := rfl
  have e2 : nameV (([rootT] ++ [freshT] : List Term).length : Int) = nameV ((2 : Nat) : Int) := rfl
  rw [e1, e2]
  refine stA.all (hB3.mod0 hm4) rfl (nameV_size _) (nameV_one _) fun w5 hK5 hm5 => stA.all (hB4.ne hm5 (by omega)) rfl (nameV_size _) (nameV_one _) fun w6 hL6 hm6 => ?_
  have z5 := hm5.size
  have z6 := hm6.size
  have hK6 := hK5.ne hm6 (by omega)
  have hm26 : Mod No w2 w6 := ((hm3.on0 hm4).onNew hm5 (by omega)).onNew hm6 (by omega)
  have hM6 : Mod No W w6 := hM2.on0 hm26
  have hv6 := hv2.mod0 hm26
  refine ldA.all hK6 (by simpa using nameV_size _) ?_
  -- the seal
  have hkey : ∀ m : Nat, (nameV (m : Int)).toList.toArray = ((nameH (m : Int)).1.map u8).toArray := fun m => by simp [nameV, nameH]
  rw [hkey]
  refine Seal_spec (key := nameH ((1 : Nat) : Int)) (k := ((1 : Nat) : Int)) hv6 (by simp) (lastN_name (by simp) (by simp)) (by omega) (hy.mod0 hM6).1 (hx.mod0 hM6).1 ?_ ?_
  · intro hbig w7 hm7
    exact ifM.t (by simp; omega) (jn_in (ifM.t rfl ⟨rfl, hM6.on0 hm7⟩))
  · intro hsm w7 v7 V7 m7 s hmade hv7 hto7 hm7 hown7 hblk7
    obtain ⟨rfl, rfl⟩ : V7 = V3 n ab pb ∧ m7 = ((3 : Nat) : Int) := by
      rcases hmade with ⟨_, h, _⟩ | ⟨_, rfl, rfl⟩
      · have := lastT_lt h
        have h2 : ([rootT] ++ [freshT] ++ [freshT] : List Term)[m7.toNat]? = some (sealT ((1 : Nat) : Int) n ab pb) := this.2.2
        have h3 := List.mem_of_getElem? h2
        simp only [List.cons_append, List.nil_append, List.mem_cons, List.not_mem_nil, or_false] at h3
        rcases h3 with h3 | h3 | h3
        · have := congrArg Term.kind h3
          simp [sealT, rootT] at this
        · have := congrArg Term.kind h3
          simp [sealT, freshT] at this
        · have := congrArg Term.kind h3
          simp [sealT, freshT] at this
      · exact ⟨rfl, rfl⟩
    obtain ⟨bs, hsa, hbs, hbs', hbf⟩ := hblk7
    have z7 := hm7.size
    have hM7 : Mod No W w7 := hM6.on hm7 fun b hb h => by have := hf2 b h; omega
    have hp7 : v2.ptr = v7.ptr := by rw [VF.ptr, VF.ptr, hto7.vb]
    rw [hp7]
    have hfp6 := hv2.lt
    have hK7 := hK6.mod hm7 fun h => by have := hfp6 bk h; omega
    have hL7 := hL6.mod hm7 fun h => by have := hfp6 bl h; omega
    have hs7 : Txt w7 s (B3 pb) := ⟨hown7.rd, by rcases hown7.2 with rfl | ⟨_, _, _, _, _, h⟩ <;> simp_all, by rw [B3_len]; omega⟩
    have hsl : s.len = pb.length + 16 := by rw [hs7.1.len, B3_len]
    have hwf : WfV (V3 n ab pb) := V3_wf (by omega)
    have hy7 := hy.mod0 hM7
    have hx7 := hx.mod0 hM7
    -- whatever is opened, from here on
    have key1 : lastN (V3 n ab pb).length (nameH ((1 : Nat) : Int)) = some ((1 : Nat) : Int) := lastN_name (by rw [V3_len]; omega) (by rw [V3_len]; omega)
    have key2 : lastN (V3 n ab pb).length (nameH ((2 : Nat) : Int)) = some ((2 : Nat) : Int) := lastN_name (by rw [V3_len]; omega) (by rw [V3_len]; omega)
    have bad : ∀ {m : Nat} {n' : Int} {also b : Slc} {ab' bb : List UInt8} {w : World} {K : Slc → Int → World → Prop}, Mod No w7 w → lastN (V3 n ab pb).length (nameH (m : Int)) = some (m : Int) → 0 ≤ n' → RdB w also ab' → Txt w b bb → (∀ t, ¬ OpenOk (V3 n ab pb) m n' ab' bb t) →
        (∀ w', Mod No w w' → K Slc.nil 20 w') → C8 v7.ptr ((nameH (m : Int)).1.map u8).toArray n' also b w K := fun {m n' also b ab' bb w K} hmw hkm hn' hra htb hno hK =>
      Open_spec (hv7.mod0 hmw) hwf (by rw [V3_len]; omega) hra htb (fun h => by rw [hkm] at h; cases h) (fun h => by omega)
        (fun k h _ _ w' hm' => hK w' hm') (fun k t h _ hO => by
          rw [hkm] at h
          have := Option.some.inj h
          subst this
          exact absurd hO (hno t))
    refine ifM.f (by simp; omega) (ldA.all hK7 (by simpa using nameV_size _) ?_)
    rw [hkey]
    refine Open_spec (ab := ab) (bb := B3 pb) hv7 hwf (by rw [V3_len]; omega) hy7.1 hs7 (fun h => by rw [key1] at h; cases h) (fun h => by omega) (fun k h _ hno => by
        rw [key1] at h
        have := Option.some.inj h
        subst this
        exact absurd open_yes (hno _)) fun k t hk hn0 hO w8 r8 hm8 hr8 => ?_
    have ht8 := (open_is hO).2.2.2
    have hr8' : Txt w8 r8 pb := by
      rw [ht8] at hr8
      simpa [sealT] using hr8
    refine ldA.all (hL7.mod0 hm8) (by simpa using nameV_size _) ?_
    rw [hkey]
    refine bad hm8 key2 (by omega) (hy7.mod0 hm8).1 (hs7.mod0 hm8) (fun t h => by have := (open_is h).1; omega) fun w9 hm9 => ?_
    have hm79 := hm8.on0 hm9
    refine ldA.all (hK7.mod0 hm79) (by simpa using nameV_size _) ?_
    rw [hkey]
    refine bad hm79 key1 (by omega) (hy7.mod0 hm79).1 (hs7.mod0 hm79) (fun t h => by have := (open_is h).2.1; omega) fun w10 hm10 => ?_
    refine drw.mk fun w11 hm11' => ?_
    have hm11 : Mod No w7 w11 := (hm79.on0 hm10).on0 hm11'
    have hm8_11 : Mod No w8 w11 := (hm9.on0 hm10).on0 hm11'
    refine jn.mk (fun e w' => e = 20 ∧ Mod No w11 w') ?_ ?_
    · intro kk hkk
      refine ldA.all (hK7.mod0 hm11) (by simpa using nameV_size _) ?_
      have hcat : ∀ w', Mod No w11 w' → CellsAt w' ⟨bk, 0, none⟩ 16 (nameV ((1 : Nat) : Int)).toList.toArray := fun w' hm => ⟨by simpa using nameV_size _, fun j hj => by rw [add_at, Nat.zero_add, (hK7.mod0 (hm11.on0 hm)).cell']; simp⟩
      have fin : ∀ w t, Mod No w11 w → Mine w11 w t (ab ++ [1]) → C8 v7.ptr (nameV ((1 : Nat) : Int)).toList.toArray n t s w fun r e w' => kk e w' := fun w t hm ht => by
        rw [hkey]
        have hlen : (ab ++ [1]).length = ab.length + 1 := by simp
        refine bad (hm11.on0 hm) key1 (by omega) (ht.txt (by omega)).1 ((hs7.mod0 hm11).mod0 hm) (fun t h => ?_) fun w' hm' => hkk _ _ ⟨rfl, hm.on0 hm'⟩
        have := congrArg List.length (open_is h).2.2.1
        omega
      have hy11 := hy7.mod0 hm11
      have rd1' : ∀ {w b}, Blk w b [.int .u8 1] 5 → RdB w (Slc.mk (some ⟨b, 0, none⟩) 1 1) [1] := fun hB => rd_blk hB rfl
      have al : ab.length + 1 < 1000000000000 := by omega
      have noOn : ∀ {w w' : World} {t : Slc} {bs : List UInt8}, Mod No w11 w → Mine w11 w t bs → Mod (fun b => t.a = some ⟨b, 0, none⟩) w w' → Mod No w11 w' := fun hm ht hm' => hm.on hm' fun b hb h => by have := ht.2 b h; omega
      refine ⟨newV.mk fun b1 wa hb1 hB1 hma => ⟨hcat wa hma, ⟨?_, ?_⟩⟩, ?_⟩
      · have m0 : Mine w11 wa (Slc.mk (some ⟨b1, 0, none⟩) 0 0) [] := Mine.empty hB1 hb1
        obtain ⟨t1, wb, hr1, m1, hmb'⟩ := m0.app (hy11.mod0 hma).1 (by simp; omega) hma.size
        have hmb := noOn hma m0 hmb'
        refine ⟨t1, wb, hr1, hcat wb hmb, ?_⟩
        refine newV.mk fun b2 wc hb2 hB2 hmc' => ?_
        have hmc := hmb.on0 hmc'
        refine ⟨hcat wc hmc, ?_⟩
        obtain ⟨t2, wd, hr2, m2, hmd'⟩ := (m1.mod0 hmc').app (rd1' hB2) (by simp; omega) hmc.size
        have hmd := noOn hmc (m1.mod0 hmc') hmd'
        exact ⟨t2, wd, hr2, hcat wd hmd, fin wd t2 hmd (by simpa using m2)⟩
      · refine newV.mk fun b2 wb hb2 hB2 hmb' => ?_
        have hmb := hma.on0 hmb'
        refine ⟨hcat wb hmb, ?_⟩
        have m0 : Mine w11 wb (Slc.mk (some ⟨b1, 0, none⟩) 0 0) [] := (Mine.empty hB1 hb1).mod0 hmb'
        obtain ⟨t1, wc, hr1, m1, hmc'⟩ := m0.app (hy11.mod0 hmb).1 (by simp; omega) hmb.size
        have hmc := noOn hmb m0 hmc'
        refine ⟨t1, wc, hr1, hcat wc hmc, ?_⟩
        have l1 := hB1.lt
        have hB2c := hB2.mod hmc' fun h => by
          have : b1 = b2 := by simpa using h
          omega
        obtain ⟨t2, wd, hr2, m2, hmd'⟩ := m1.app (rd1' hB2c) (by simp; omega) hmc.size
        have hmd := noOn hmc m1 hmd'
        exact ⟨t2, wd, hr2, hcat wd hmd, fin wd t2 hmd (by simpa using m2)⟩
      · refine newV.mk fun b2 wa hb2 hB2 hma => ⟨hcat wa hma, newV.mk fun b1 wb hb1 hB1 hmb' => ?_⟩
        have hmb := hma.on0 hmb'
        refine ⟨hcat wb hmb, ?_⟩
        have m0 : Mine w11 wb (Slc.mk (some ⟨b1, 0, none⟩) 0 0) [] := Mine.empty hB1 (by have := hma.size; omega)
        obtain ⟨t1, wc, hr1, m1, hmc'⟩ := m0.app (hy11.mod0 hmb).1 (by simp; omega) hmb.size
        have hmc := noOn hmb m0 hmc'
        refine ⟨t1, wc, hr1, hcat wc hmc, ?_⟩
        have l1 := hB2.lt
        have hB2c := (hB2.mod0 hmb').mod hmc' fun h => by
          have : b1 = b2 := by simpa using h
          omega
        obtain ⟨t2, wd, hr2, m2, hmd'⟩ := m1.app (rd1' hB2c) (by simp; omega) hmc.size
        have hmd := noOn hmc m1 hmd'
        exact ⟨t2, wd, hr2, hcat wd hmd, fin wd t2 hmd (by simpa using m2)⟩
    · rintro _ w12 ⟨rfl, hm11_12⟩
      have hm12 : Mod No w7 w12 := hm11.on0 hm11_12
      have hm8_12 : Mod No w8 w12 := hm8_11.on0 hm11_12
      have hlen16 : IntKind.i64.wrap ((pb.length : Int) + 16) = (s.len : Int) := by rw [hsl, wrap_i64 (by omega) (by omega)]; omega
      rw [hlen16]
      refine jn_in (jn_in (ifM.f rfl (ifM.f rfl ⟨_, run_b2s Tryd.underlying22 Tryd.underlying5 Tryd.underlying9 (hr8'.mod0 hm8_12).1, _, run_b2s Tryd.underlying22 Tryd.underlying5 Tryd.underlying9 (hx7.mod0 hm12).1, ?_⟩)))
      refine ifM.f (by rw [str_eq]; rfl) (ifM.f (by simp) (ifM.f rfl (ifM.f rfl (ifM.f rfl ?_))))
      -- each bit turned
      refine jn.mk (fun _ w' => Mod No w7 w') ?_ ?_
      · intro kk hkk
        refine Lp.inv (fun (i : Int) w' => 0 ≤ i ∧ Mod No w7 w') (fun i _ => (s.len - i).toNat) ⟨by omega, hm12⟩ ?_
        rintro i w13 ⟨hi0, hm13⟩
        refine jn_in (jn_in ⟨fun hc => ⟨fun _ => ?_, fun _ => hkk () w13 hm13⟩, fun _ => ifM.f rfl (hkk () w13 hm13)⟩)
        have hi : i < s.len := of_decide_eq_true hc
        obtain ⟨j, rfl⟩ := Int.eq_ofNat_of_zero_le hi0
        have e1 : IntKind.i64.wrap ((j : Int) + 1) = ((j + 1 : Nat) : Int) := wrap_i64 (by omega) (by omega)
        rw [e1]
        refine jn_in (newV.mk fun b1 w14 hb1 hB1 hm14' => ?_)
        have hm14 := hm13.on0 hm14'
        have m0 : Mine w13 w14 (Slc.mk (some ⟨b1, 0, none⟩) 0 0) [] := Mine.empty hB1 hb1
        have hB3l := B3_len pb
        obtain ⟨t1, w15, hr1, m1, hm15'⟩ := m0.app (hs7.mod0 hm14).1 (by simp; omega) hm14'.size
        rw [List.nil_append] at m1
        have hm15 : Mod No w13 w15 := hm14'.on hm15' fun b hb h => by have := m0.2 b h; omega
        refine ⟨t1, w15, hr1, ?_⟩
        have hj : j < (B3 pb).length := by omega
        obtain ⟨h1, h2⟩ := m1.1
        have h1' : t1.len = (B3 pb).length := by simpa using h1.symm
        rcases h2 with rfl | ⟨bt, rest, hta, hBt, hcap, hle⟩
        · simp at h1'
          omega
        obtain ⟨ta, tl, tc⟩ := t1
        simp only at hta h1' hcap hle
        subst hta h1'
        have hbt : w13.heap.size ≤ bt := m1.2 bt rfl
        refine idx.mk (by omega) (by omega) ?_
        simp only [Int.toNat_natCast, Nat.mul_one, Nat.zero_add]
        refine ldI.mk (x := ((B3 pb)[j].toNat : Int)) hBt (by rw [List.getElem?_append_left (by simpa using hj)]; simp [u8, hj]) ?_
        refine idx.mk (by omega) (by omega) ?_
        simp only [Int.toNat_natCast, Nat.mul_one, Nat.zero_add]
        rw [xor_u8]
        refine stV.mk hBt (by simp; omega) fun w16 hB16 hm16' => ?_
        have hm16 : Mod No w13 w16 := hm15.onNew hm16' hbt
        have hm716 : Mod No w7 w16 := hm13.on0 hm16
        have hset : ((B3 pb).map u8 ++ rest).set j (u8 ((B3 pb)[j] ^^^ 1)) = ((B3 pb).set j ((B3 pb)[j] ^^^ 1)).map u8 ++ rest := by
          rw [List.set_append, if_pos (by simpa using hj), List.map_set]
        rw [hset] at hB16
        have m2 : Mine w13 w16 (Slc.mk (some ⟨bt, 0, none⟩) (B3 pb).length tc) ((B3 pb).set j ((B3 pb)[j] ^^^ 1)) := ⟨⟨by simp, .inr ⟨bt, rest, rfl, hB16, by simpa using hcap, hle⟩⟩, fun b hb => by
          have : bt = b := by simpa using hb
          omega⟩
        refine ldA.all (hK7.mod0 hm716) (by simpa using nameV_size _) ?_
        rw [hkey]
        refine bad hm716 key1 (by omega) (hy7.mod0 hm716).1 (m2.txt (by simp; omega)) (fun t h => open_flip hj t h) fun w17 hm17 => ?_
        refine ifM.f rfl ⟨⟨by omega, hm716.on0 hm17⟩, by omega⟩
      · rintro _ w13 hm13
        have hcell : ∀ {b m w}, Blk w b (nameV ((m : Nat) : Int)).toList 26 → Txt w (Slc.sub ⟨some ⟨b, 0, none⟩, 16, 16⟩ 1 0 16 16) (nameB (m : Int)) := fun {b m w} hB => hslice (o := 0) (fun j hj => by rw [Nat.zero_add, hB.cell']; simp [nameV, hcell]) hB.lt
        refine newV.mk fun b1 w14 hb1 hB1 hm14' => ?_
        have hm14 := hm13.on0 hm14'
        refine Spied_spec (xs := [(s, B3 pb), (Slc.sub ⟨some ⟨bl, 0, none⟩, 16, 16⟩ 1 0 16 16, nameB ((2 : Nat) : Int))]) (hv7.mod0 hm14) hwf (by rw [V3_len]; omega) (rd_blk hB1 rfl) (by simp) (fun x hx => ?_) fun w15 r1 k1 ys1 hm15' hkl1 hkn1 hS1 hys1 => ?_
        · simp only [List.mem_cons, List.not_mem_nil, or_false] at hx
          rcases hx with rfl | rfl
          · exact hs7.mod0 hm14
          · exact hcell (hL7.mod0 hm14)
        have hm15 := hm14.on0 hm15'
        have hl1 : ys1.length = 0 := by
          have h1 := congrArg List.length hys1
          rw [List.length_map, V3_len, spied3, if_neg fun h => kn3 (by simp) ((hkn1 1).1 h.2) rfl] at h1
          exact h1
        refine newV.mk fun b2 w16 hb2 hB2 hm16' => ?_
        have hm16 := hm15.on0 hm16'
        refine Spied_spec (xs := [(s, B3 pb), (Slc.sub ⟨some ⟨bk, 0, none⟩, 16, 16⟩ 1 0 16 16, nameB ((1 : Nat) : Int))]) (hv7.mod0 hm16) hwf (by rw [V3_len]; omega) (rd_blk hB2 rfl) (by simp) (fun x hx => ?_) fun w17 r2 k2 ys2 hm17' hkl2 hkn2 hS2 hys2 => ?_
        · simp only [List.mem_cons, List.not_mem_nil, or_false] at hx
          rcases hx with rfl | rfl
          · exact hs7.mod0 hm16
          · exact hcell (hK7.mod0 hm16)
        have hm17 := hm16.on0 hm17'
        have hy2 : ys2.map (·.2) = [pb] := by
          rw [hys2, V3_len, spied3, if_pos ⟨(hkn2 3).2 (kn3_seal (by simp)), (hkn2 1).2 (kn3_key (by simp))⟩]
        obtain ⟨q, rfl, hq⟩ : ∃ q, ys2 = [q] ∧ q.2 = pb := by
          match ys2, hy2 with
          | [q], h => exact ⟨q, rfl, by simpa using h⟩
        refine drw.mk fun w18 hm18' => ?_
        have hm18 := hm17.on0 hm18'
        have hS2' := hS2.mod0 hm18'
        refine jn_in (ifM.t (by rw [hS1.len, hl1]; rfl) (ifM.t (by rw [hS2.len]; rfl) ?_))
        refine rd1 (i := 0) (x := q.1) hS2'.1.rd rfl ?_
        obtain ⟨_, _, _, _, _, htq⟩ := hS2'.2.2 q (by simp)
        rw [hq] at htq
        refine ⟨_, run_b2s Tryd.underlying22 Tryd.underlying5 Tryd.underlying9 htq.1, _, run_b2s Tryd.underlying22 Tryd.underlying5 Tryd.underlying9 (hx7.mod0 hm18).1, ifM.t (str_eq pb) ?_⟩
        refine newV.mk fun b3 w19 hb3 hB3 hm19' => ?_
        have hm19 := hm18.on0 hm19'
        refine Hidden_spec (xs := [(s, B3 pb)]) (hv7.mod0 hm19) hwf (by rw [V3_len]; omega) (hcell (hK7.mod0 hm19)) (rd_blk hB3 rfl) (by simp) (fun x hx => ?_) fun w20 r3 k3 hm20' hkl3 hkn3 hr3 => ?_
        · rw [List.mem_singleton.1 hx]
          exact hs7.mod0 hm19
        have hm20 := hm19.on0 hm20'
        have h3 : r3 = true := hr3.2 ((hid_one key1).2 fun h => kn3 (by simp) ((hkn3 1).1 h) rfl)
        refine ifM.t h3 (newV.mk fun b4 w21 hb4 hB4 hm21' => ?_)
        have hm21 := hm20.on0 hm21'
        refine Hidden_spec (xs := [(s, B3 pb)]) (hv7.mod0 hm21) hwf (by rw [V3_len]; omega) (hs7.mod0 hm21) (rd_blk hB4 rfl) (by simp) (fun x hx => ?_) fun w22 r4 k4 hm22' hkl4 hkn4 hr4 => ?_
        · rw [List.mem_singleton.1 hx]
          exact hs7.mod0 hm21
        have h4 : r4 = false := by
          cases r4 with
          | false => rfl
          | true => exact absurd (hr4.1 rfl) (hid3 ((hkn4 3).2 (kn3_seal (by simp))))
        exact ⟨by rw [h4]; rfl, hM7.on0 (hm21.on0 hm22')⟩
end Go.Proofs.YtkehoneadedmhaaDoor
