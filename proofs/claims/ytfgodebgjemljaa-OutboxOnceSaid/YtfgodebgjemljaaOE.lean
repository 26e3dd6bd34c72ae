/-
  OutboxOnce: the law.
-/
import Derived.Test.YtfgodebgjemljaaOD
namespace Go.Proofs.Ytfgodebgjemljaa
open Go Go.Sh
set_option linter.unusedVariables false
set_option linter.unusedSimpArgs false

theorem andC {c : Nat} (hc : c ≤ 4095) (a : Int) : ∃ m : Nat, m ≤ c ∧ bitsZ .and .i64 a c = (m : Int) := by
  refine ⟨(BitVec.ofInt 64 a &&& BitVec.ofInt 64 c).toNat, ?_, ?_⟩
  · rw [BitVec.toNat_and]
    refine Nat.le_trans Nat.and_le_right ?_
    simp only [BitVec.toNat_ofInt]
    omega
  · have h : (BitVec.ofInt 64 a &&& BitVec.ofInt 64 c).toNat ≤ 4095 := by
      rw [BitVec.toNat_and]
      refine Nat.le_trans Nat.and_le_right ?_
      simp only [BitVec.toNat_ofInt]
      omega
    show IntKind.i64.wrap ((BitVec.ofInt 64 a &&& BitVec.ofInt 64 c).toNat : Int) = _
    exact wrap_i64 (by omega) (by omega)

theorem str_same (bs : List UInt8) : (!((⟨bs.toArray⟩ : ByteArray).toList == (⟨bs.toArray⟩ : ByteArray).toList)) = false := by simp

/-- the state of the law's box, when n bytes went -/
abbrev onceS (bs : List UInt8) (n : Nat) : St := ⟨1048576, 0, n, 0, bs, none, none⟩

theorem once_due {bs : List UInt8} {n most limit : Nat} (hm : 1 ≤ most) (hl : limit ≤ 4095) (hn : n ≤ min bs.length limit) :
    (n < min bs.length limit → dueB (onceS bs n) most limit = ((n : Int), ((n + min most (min bs.length limit - n) : Nat) : Int), true)) ∧
    (n = min bs.length limit → (dueB (onceS bs n) most limit).2.2 = false) := by
  have hw : (onceS bs n).written = (bs.length : Int) := by simp [St.written]
  have hmn : ¬ ((most : Int) < 0) := by omega
  constructor
  · intro h
    unfold dueB
    rw [if_neg hmn]
    simp only [hw]
    rw [if_pos (by omega), if_neg (by omega)]
    have e : (n : Int) + (if (if (limit : Int) < (bs.length : Int) then (limit : Int) else (bs.length : Int)) - (n : Int) < (most : Int) then (if (limit : Int) < (bs.length : Int) then (limit : Int) else (bs.length : Int)) - (n : Int) else (most : Int)) = ((n + min most (min bs.length limit - n) : Nat) : Int) := by
      split <;> split <;> omega
    simp only [e, Prod.mk.injEq, true_and, decide_eq_true_eq]
    omega
  · intro h
    unfold dueB
    rw [if_neg hmn]
    simp only [hw]
    by_cases h1 : (n : Int) < (bs.length : Int)
    · rw [if_pos h1, if_pos (by omega)]
    · rw [if_neg h1]
      rfl

set_option maxHeartbeats 1000000 in
theorem law_once {W : World} {x : Slc} {bs : List UInt8} {a1 a2 : Int} (hx : RdB W x bs) (hxc : x.len ≤ x.cap) : C3 x a1 a2 W (fun r w' => r = true ∧ Mod No W w') := by
  refine br3 ?_
  unfold sh3
  have hl := hx.len
  obtain ⟨m0, hm0, em0⟩ := andC (c := 255) (by decide) a1
  obtain ⟨limit, hlim, elim⟩ := andC (c := 4095) (by decide) a2
  have em0' : bitsZ .and .i64 a1 255 = (m0 : Int) := em0
  have elim' : bitsZ .and .i64 a2 4095 = (limit : Int) := elim
  rw [em0', elim']
  obtain ⟨most, emost⟩ : ∃ most : Nat, most = 1 + m0 := ⟨_, rfl⟩
  have ewm : IntKind.i64.wrap (1 + (m0 : Int)) = (most : Int) := by rw [wrap_i64 (by omega) (by omega)]; omega
  rw [ewm]
  refine onew_spec (by decide) (by decide) fun w1 v hv1 hfp1 m1 => ?_
  refine jn_in (jn_in (ifM.f rfl (ifM.f rfl ?_)))
  rw [hl]
  refine jn_in ⟨fun hc => ⟨rfl, m1⟩, fun hc => ?_⟩
  have hbl : bs.length ≤ 1048576 := by
    have : ¬ ((bs.length : Int) > 1048576) := of_decide_eq_false hc
    omega
  have nb0 : Nb (onceS [] 0) := ⟨⟨by decide, by decide⟩, by decide, ⟨by decide, by decide⟩, ⟨by decide, by decide⟩⟩
  have nbs : ∀ n : Nat, n ≤ 1048576 → Nb (onceS bs n) := fun n hn => ⟨⟨Int.le_refl 0, show (0 : Int) ≤ 4000000 by decide⟩, by show bs.length ≤ _; omega, ⟨by show (0 : Int) ≤ (n : Int); omega, by show (n : Int) ≤ _; omega⟩, ⟨show (0 : Int) ≤ 1048576 by decide, Int.le_refl 1048576⟩⟩
  have hvW : BoxAt w1 v (onceS [] 0) := hv1
  refine write_spec hvW nb0 rfl (by decide) (hx.mod m1 fun _ _ _ h => h) hxc (by omega) fun w2 v2 hv2 hob2 hfp2 m2 => ?_
  have ewr : wrN (onceS [] 0) bs = bs.length := by
    show min bs.length (1048576 - 0) = bs.length
    omega
  rw [ewr]
  rw [ewr] at hv2
  have hv2 : BoxAt w2 v2 (onceS bs 0) := by
    rw [List.take_length, List.nil_append] at hv2
    exact hv2
  refine jn_in (jn_in (ifM.f (by simp) (ifM.f rfl ?_)))
  have z1 := m1.size
  have z2 := m2.size
  have m02 : Mod No W w2 := m1.on m2 fun c hc e => by have := hfp1 c e; omega
  have hfp2' : ∀ b, v2.fp b → W.heap.size ≤ b := fun b hb => by
    rcases hfp2 b hb with h | h
    · exact hfp1 b h
    · omega
  -- the end
  obtain ⟨L, eL⟩ : ∃ L : Nat, L = min bs.length limit := ⟨_, rfl⟩
  have eif : (if (bs.length : Int) < (limit : Int) then (bs.length : Int) else (limit : Int)) = (L : Int) := by split <;> omega
  rw [eif]
  have vp : ∀ {u : OF}, u.ob = v.ob → u.ptr = v.ptr := fun h => by unfold OF.ptr; rw [h]
  refine jn.mk (fun s w' => s = (L : Int) ∧ ∃ u, BoxAt w' u (onceS bs L) ∧ u.ob = v.ob ∧ Mod No W w') ?_ ?_
  · intro kk hkk
    refine Lp.inv (fun (s : Int) w' => ∃ n : Nat, s = (n : Int) ∧ n ≤ L ∧ ∃ u, BoxAt w' u (onceS bs n) ∧ u.ob = v.ob ∧ (∀ b, u.fp b → W.heap.size ≤ b) ∧ Mod No W w') (fun s _ => (L - s).toNat) ⟨0, rfl, by omega, v2, hv2, hob2, hfp2', m02⟩ ?_
    rintro _ w3 ⟨n, rfl, hn, u, hu, hob, hfp, m3⟩
    obtain ⟨d1, d2⟩ := once_due (bs := bs) (n := n) (most := most) (limit := limit) (by omega) hlim (by omega)
    rw [← vp hob]
    have hx3 : RdB w3 x bs := hx.mod m3 fun _ _ _ h => h
    have z3 := m3.size
    rcases Nat.lt_or_eq_of_le hn with hlt | heq
    · have hd := d1 (by omega)
      obtain ⟨t, et⟩ : ∃ t : Nat, t = n + min most (min bs.length limit - n) := ⟨_, rfl⟩
      rw [← et] at hd
      have eD1 : (dueB (onceS bs n) most limit).1 = (n : Int) := by rw [hd]
      have eD2 : (dueB (onceS bs n) most limit).2.1 = (t : Int) := by rw [hd]
      have eD3 : (dueB (onceS bs n) most limit).2.2 = true := by rw [hd]
      refine next_spec (g' := none) hu (nbs n (by omega)) (by omega) ⟨by omega, by omega⟩ ?_ ?_ ?_ ?_ ?_
      · intro _
        rw [eD1, eD2]
        show (0 : Int) ≤ _ ∧ _ ∧ _ ≤ (0 : Int) + (bs.length : Int)
        omega
      · intro _ _
        rw [eD1, eD2]
        exact takes0 (by omega) (by omega) (by omega)
      · intro _ _
        rfl
      · intro h
        rw [eD3] at h
        cases h
      · intro _ w4 u4 r hu4 hob4 hfp4 m4 hr hrn
        rw [eD1, eD2] at *
        have efin : finB (onceS bs n) (t : Int) = false := by
          show (_ && ((0 : Int) == 1 || (0 : Int) == 3)) = false
          simp
        have hu4 : BoxAt w4 u4 (onceS bs t) := by
          have e : (if (t : Int) > (n : Int) then (t : Int) else (n : Int)) = (t : Int) := if_pos (by omega)
          have := hu4
          simp only [e, efin, Bool.false_eq_true, if_false] at this
          exact this
        have z4 := m4.size
        have m04 : Mod No W w4 := m3.on m4 fun c hc e => by have := hfp c e; omega
        have hnb : nextB (onceS bs n) (n : Int) (t : Int) = (bs.drop n).take (t - n) := by
          show (bs.drop ((n : Int) - 0).toNat).take ((t : Int) - (n : Int)).toNat = _
          rw [show ((n : Int) - 0).toNat = n by omega, show ((t : Int) - (n : Int)).toNat = t - n by omega]
        rw [hnb] at hr
        rw [efin]
        have hrl : r.len = t - n := by
          have := hr.len
          rw [List.length_take, List.length_drop] at this
          omega
        refine newV.mk fun bp w5 hbp Bp m5 => stA.all Bp rfl rfl (by intro u hu; simp [Slc.v] at hu; rcases hu with rfl | rfl | rfl <;> rfl) fun w6 Bp m6 => ?_
        have m06 : Mod No W w6 := (m04.on0 m5).onNew m6 (by omega)
        have hu6 : BoxAt w6 u4 (onceS bs t) := (hu4.mod0 m5).mod m6 fun b hb e => by have := hu4.lt b hb; omega
        have hr6 : RdB w6 r ((bs.drop n).take (t - n)) := by
          have h5 := hr.mod0 m5
          exact (h5.own.mod m6 (fun b hb e => by have := (hr.new b hb).2; omega)).rd
        have hx6 : RdB w6 x bs := hx.mod m06 fun _ _ _ h => h
        refine jn_in (ifM.f rfl ?_)
        refine jn_in (drw.mk fun w7 m7 => ?_)
        have Bp := Bp.mod0 m7
        have hr7 : RdB w7 r ((bs.drop n).take (t - n)) := hr6.mod m7 fun _ _ _ h => h
        have hx7 : RdB w7 x bs := hx6.mod m7 fun _ _ _ h => h
        have m07 := m06.on0 m7
        refine jn_in (ldI.mk Bp rfl (ifM.f (by simp) ?_))
        rw [add_at]
        have ld : ∀ {k : Slc → Prop}, k r → ldL ⟨bp, 0 + 1, none⟩ w7 k := fun h => ldL.mk Bp rfl h
        have ewa : IntKind.i64.wrap ((n : Int) + (r.len : Int)) = (t : Int) := by rw [hrl, wrap_i64 (by omega) (by omega)]; omega
        refine ld (ifM.f (by simp; omega) (ld (ifM.f (by simp; omega) (ld ?_))))
        rw [ewa]
        refine ifM.f (by simp; omega) (ld ?_)
        refine ⟨_, run_b2s Try.underlying22 Try.underlying5 Try.underlying9 hr7, ld ?_⟩
        rw [ewa]
        refine ⟨by omega, by omega, by omega, ?_⟩
        have hs := RdS.sub (lo := n) (hi := t) hx7 (by omega) (by omega) (by omega)
        simp only [Nat.mul_one, ← List.map_drop, ← List.map_take] at hs
        refine ⟨_, run_b2s Try.underlying22 Try.underlying5 Try.underlying9 hs, ifM.f (str_same _) ?_⟩
        rw [add_at]
        refine ldB.mk Bp rfl (ifM.f rfl ?_)
        refine ldL.mk Bp rfl ?_
        rw [ewa]
        refine ⟨⟨t, rfl, by omega, u4, hu6.mod0 m7, hob4.trans hob, fun b hb => ?_, m07⟩, by omega⟩
        rcases hfp4 b hb with h | h
        · exact hfp b h
        · omega
    · have hd := d2 (by omega)
      refine next_spec (g' := none) hu (nbs n (by omega)) (by omega) ⟨by omega, by omega⟩ ?_ ?_ ?_ ?_ ?_
      · intro h
        rw [hd] at h
        cases h
      · intro h
        rw [hd] at h
        cases h
      · intro h
        rw [hd] at h
        cases h
      · intro _ w4 m4
        refine newV.mk fun bp w5 hbp Bp m5 => stA.all Bp rfl rfl (by intro u hu; simp [Slc.v] at hu; rcases hu with rfl | rfl | rfl <;> rfl) fun w6 Bp m6 => ?_
        refine jn_in (ifM.t rfl ?_)
        have z4 := m4.size
        refine hkk _ _ ⟨by omega, u, ?_, hob, ((m3.on0 m4).on0 m5).onNew m6 (by omega)⟩
        have := ((hu.mod0 m4).mod0 m5).mod m6 fun b hb e => by have := hu.lt b hb; omega
        rwa [heq] at this
      · intro h
        rw [hd] at h
        cases h
  · rintro _ w3 ⟨rfl, u, hu, hob, m3⟩
    rw [← vp hob]
    have nb := nbs L (by omega)
    refine sizes_spec hu nb fun w4 m4 => ?_
    have hu4 := hu.mod0 m4
    refine jn_in (ifM.t (by simp) (ifM.t (by simp [St.written]) (ifM.t (by simp) (ifM.t (by simp) ?_))))
    refine waits_spec hu4 nb ⟨by omega, by omega⟩ fun w5 m5 => ?_
    have hd := (once_due (bs := bs) (n := L) (most := 1) (limit := limit) (by decide) hlim (by omega)).2 (by omega)
    have hd' : (dueB (onceS bs L) 1 (limit : Int)).2.2 = false := hd
    rw [hd']
    refine ifM.t rfl (done_spec (hu4.mod0 m5) fun w6 m6 => ⟨by simp, ((m3.on0 m4).on0 m5).on0 m6⟩)
end Go.Proofs.Ytfgodebgjemljaa
