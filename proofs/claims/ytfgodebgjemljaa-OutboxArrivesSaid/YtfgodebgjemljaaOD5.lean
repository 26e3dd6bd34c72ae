/-
  Outbox: New, Write, Next.
-/
import Derived.Test.YtfgodebgjemljaaOC5
namespace Go.Proofs.Ytfgodebgjemljaa
open Go Go.Sh
set_option linter.unusedVariables false
set_option linter.unusedSimpArgs false

variable {w w' : World} {v : OF} {z : St}

theorem onew_spec {room : Int} {K : Option Addr → Int → World → Prop} (h0 : 0 ≤ room) (h1 : room ≤ 1048576)
    (h : ∀ w' v, BoxAt w' v ⟨room, 0, 0, 0, [], none, none⟩ → (∀ b, v.fp b → w.heap.size ≤ b) → Mod No w w' → K v.ptr 0 w') : C6 room w K := by
  refine br6 ?_
  unfold sh6
  refine jn_in (jn_in (ifM.f (by simp; omega) (ifM.f (by simp; omega) ?_)))
  refine rnew_spec fun gb w1 hgb hG hm1 => rnew_spec fun hb w2 hhb hH hm2 => newV.mk fun ob w3 hob hB hm3 => ?_
  have z1 := hm1.size
  have z2 := hm2.size
  have lg := hG.box.lt
  have lh := hH.box.lt
  refine h w3 ⟨ob, gb, hb, Slc.nil, Slc.nil, Slc.nil⟩ ⟨hB, OwnS.nil .., (hG.mod0 hm2).mod0 hm3, hH.mod0 hm3, ?_, ?_, (fun e => by cases e), ?_, fun b e => by cases e⟩ ?_ ((hm1.on0 hm2).on0 hm3)
  · rintro (e | e)
    · have : ob = gb := e
      omega
    · cases e
  · rintro (e | e)
    · have : ob = hb := e
      omega
    · cases e
  · rintro b (rfl | e) (e2 | e2)
    · have : b = hb := e2
      omega
    · cases e2
    · cases e
    · cases e
  · rintro b (rfl | (rfl | e) | (rfl | e) | e)
    · omega
    · omega
    · cases e
    · omega
    · cases e
    · cases e

def wrN (z : St) (bs : List UInt8) : Nat := min bs.length (z.room.toNat - z.kept.length)

theorem write_spec {x : Slc} {bs : List UInt8} {K : Int → Int → World → Prop} (hv : BoxAt w v z) (hb : Nb z) (hf : z.fin = 0) (hk : z.kept.length ≤ z.room) (hx : RdB w x bs) (hxc : x.len ≤ x.cap) (hxl : bs.length < 1000000000)
    (h : ∀ w' v', BoxAt w' v' { z with kept := z.kept ++ bs.take (wrN z bs) } → v'.ob = v.ob → (∀ b, v'.fp b → v.fp b ∨ w.heap.size ≤ b) → Mod v.fp w w' → K (wrN z bs) 0 w') : C7 v.ptr x w K := by
  refine br7 ?_
  unfold sh7
  have hfp := hv.lt
  refine jn_in (onone_spec hv (ifM.f rfl (nn.mk ?_)))
  rw [add_at]
  refine ldI.mk hv.box rfl (ifM.f (by simp [hf]) (drw.mk fun w1 hm1 => nn.mk ?_))
  have hv1 := hv.mod0 hm1
  refine ldI.mk hv1.box rfl (nn.mk ?_)
  rw [add_at]
  refine ldL.mk hv1.box rfl (drw.mk fun w2 hm2 => nn.mk ?_)
  have hv2 := hv1.mod0 hm2
  have hm02 := hm1.on0 hm2
  rw [add_at]
  refine ldL.mk hv2.box rfl ?_
  have hr := hb.room
  rw [hv1.klen]
  have e1 : IntKind.i64.wrap (z.room - (z.kept.length : Int)) = z.room - z.kept.length := wrap_i64 (by omega) (by omega)
  rw [e1, hx.len]
  have e2 : (if z.room - (z.kept.length : Int) < (bs.length : Int) then z.room - (z.kept.length : Int) else (bs.length : Int)) = (wrN z bs : Int) := by
    unfold wrN
    split <;> omega
  rw [e2]
  have hwl : wrN z bs ≤ bs.length := by unfold wrN; omega
  have hxl2 := hx.len
  have hsub := RdS.sub (lo := 0) (hi := wrN z bs) (hx.mod hm02 fun _ _ _ h => h) (by omega) (by omega) (by omega)
  simp only [Nat.zero_mul, List.drop_zero, Nat.sub_zero, Nat.mul_one, ← List.map_take] at hsub
  have hkl := hv.klen
  have hkb := hb.kept
  obtain ⟨s', w3, hr3, ho3, _, hm3, hp3⟩ := run_append (t := 22) (t' := 22) elByte Try.runUnderlying22 Try.runUnderlying22 (fun k h => by cases h) hv2.kept hsub u8_one (by simp [Slc.sub]; omega) (by omega)
  refine ⟨by omega, by omega, s', w3, hr3, nn.mk ?_⟩
  rw [add_at]
  have s2 := hm02.size
  have hB3 := hv2.box.mod hm3 (fun e => hv.d3 e)
  refine stV.mk hB3 (by simp) fun w4 hB4 hm4 => ?_
  rw [← List.map_append] at ho3
  have hnew : ∀ b, s'.a = some ⟨b, 0, none⟩ → v.kp.a = some ⟨b, 0, none⟩ ∨ w.heap.size ≤ b := fun b hb => by
    rcases hp3 with e | ⟨c, e, hc, _⟩
    · exact .inl (e ▸ hb)
    · rw [e] at hb
      have : c = b := by simpa using hb
      exact .inr (by omega)
  have m34 : Mod (· = v.ob) w3 w4 := hm4
  have hg4 : SetAt w4 v.gb v.gs z.g := (hv2.gone.mod hm3 fun b hb e => (hv.d5 b e).1 hb).mod hm4 fun b hb e => hv.d1 (e ▸ hb)
  have hh4 : SetAt w4 v.hb v.hs z.h := (hv2.here.mod hm3 fun b hb e => (hv.d5 b e).2 hb).mod hm4 fun b hb e => hv.d2 (e ▸ hb)
  have d3' : s'.a ≠ some ⟨v.ob, 0, none⟩ := fun e => by
    rcases hnew _ e with h | h
    · exact hv.d3 h
    · have := hfp v.ob (.inl rfl)
      omega
  refine h w4 { v with kp := s' } ⟨hB4, ho3.mod hm4 fun b hb e => d3' (e ▸ hb), hg4, hh4, hv.d1, hv.d2, d3', hv.d4, fun b hb => ?_⟩ rfl ?_ ?_
  · rcases hnew b hb with h | h
    · exact hv.d5 b h
    · exact ⟨fun e => by have := hfp b (.inr (.inl e)); omega, fun e => by have := hfp b (.inr (.inr (.inl e))); omega⟩
  · rintro b (rfl | hb | hb | hb)
    · exact .inl (.inl rfl)
    · exact .inl (.inr (.inl hb))
    · exact .inl (.inr (.inr (.inl hb)))
    · rcases hnew b hb with h | h
      · exact .inl (.inr (.inr (.inr h)))
      · exact .inr h
  · exact ((hm02.of0 (S := v.fp)).on hm3 fun c hc e => .inr (.inr (.inr e))).on hm4 fun c hc e => .inl e

/-- how a span is taken out of the lost ones -/
def Takes (v : OF) (g g' : Option (Int × Int)) (a b : Int) : Prop :=
  ∀ (w : World) (K : Int → World → Prop), SetAt w v.gb v.gs g → (∀ w' gs', SetAt w' v.gb gs' g' → (∀ b, sfp v.gb gs' b → sfp v.gb v.gs b ∨ w.heap.size ≤ b) → Mod (sfp v.gb v.gs) w w' → K 0 w') → C31 (some ⟨v.gb, 0, none⟩) a b w K

theorem takes0 {v : OF} {a b : Int} (h0 : 0 ≤ a) (h1 : a ≤ b) (h2 : b ≤ 4611686018427387903) : Takes v none none a b := fun w K hs h =>
  remove0_spec hs h0 h1 h2 fun w' hs' hm => h w' v.gs hs' (fun b hb => .inl hb) (hm.weaken fun c _ e => .inl e)

def finB (z : St) (to : Int) : Bool := (to == z.written) && ((z.fin == 1) || (z.fin == 3))
def nextB (z : St) (f t : Int) : List UInt8 := (z.kept.drop (f - z.base).toNat).take (t - f).toNat

set_option maxHeartbeats 1000000 in
theorem next_spec {most limit : Int} {g' : Option (Int × Int)} {K : Array Value → Bool → World → Prop} (hv : BoxAt w v z) (hb : Nb z) (hmost : most ≤ 4611686018427387903) (hlim : -4611686018427387904 ≤ limit ∧ limit ≤ 4611686018427387903)
    (hd : (dueB z most limit).2.2 = true → z.base ≤ (dueB z most limit).1 ∧ (dueB z most limit).1 ≤ (dueB z most limit).2.1 ∧ (dueB z most limit).2.1 ≤ z.written)
    (hT : (dueB z most limit).2.2 = true → (dueB z most limit).1 < (dueB z most limit).2.1 → Takes v z.g g' (dueB z most limit).1 ((dueB z most limit).2.1 - 1))
    (hE : (dueB z most limit).2.2 = true → ¬ (dueB z most limit).1 < (dueB z most limit).2.1 → g' = z.g)
    (hno : (dueB z most limit).2.2 = false → ∀ w', Mod No w w' → K #[.int .i64 0, Slc.nil.v, .bool false] false w')
    (h : (dueB z most limit).2.2 = true → ∀ w' v' r, BoxAt w' v' { z with g := g', fin := if finB z (dueB z most limit).2.1 then 2 else z.fin, sent := if (dueB z most limit).2.1 > z.sent then (dueB z most limit).2.1 else z.sent } → v'.ob = v.ob → (∀ b, v'.fp b → v.fp b ∨ w.heap.size ≤ b) → Mod v.fp w w' →
      Mine w.heap.size w' r (nextB z (dueB z most limit).1 (dueB z most limit).2.1) → (∀ b, r.a = some ⟨b, 0, none⟩ → ¬ v'.fp b) → K #[.int .i64 (dueB z most limit).1, r.v, .bool (finB z (dueB z most limit).2.1)] true w') : C8 v.ptr most limit w K := by
  refine br8 ?_
  unfold sh8
  have hfp := hv.lt
  refine newV.mk fun b3 w1 h3 B3 m1 => jn_in (onone_spec (hv.mod0 m1) (ifM.f rfl (due_spec (hv.mod0 m1) hb hmost hlim fun w2 m2 => ?_)))
  generalize hDu : dueB z most limit = D at hd hT hE hno h
  obtain ⟨f, t, ok⟩ := D
  simp only at hd hT hE hno h
  have m02 := m1.on0 m2
  have z1 := m1.size
  have z2 := m2.size
  have l3 := B3.lt
  have B3 := B3.mod0 m2
  have hv2 := hv.mod0 m02
  refine jn_in ⟨fun hc => ?_, fun hc => ?_⟩
  · have hok : ok = false := by simpa using hc
    refine stA.all B3 rfl rfl (by intro u hu; simp [Slc.v] at hu; rcases hu with rfl | rfl | rfl <;> rfl) fun w3 B3 m3 => ldA.all B3 rfl ?_
    exact hno hok w3 (m02.onNew m3 h3)
  · have hok : ok = true := by simpa using hc
    obtain ⟨d1, d2, d3⟩ := hd hok
    have b1 := hb.base
    have b2 := hb.kept
    have b3' := hb.sent
    have hwr : z.written = z.base + z.kept.length := rfl
    refine drw.mk fun w3 m3 => ?_
    have m03 := m02.on0 m3
    have hv3 := hv2.mod0 m3
    have B3 := B3.mod0 m3
    have z3 := m3.size
    -- the piece's own place
    refine jn.mk (fun p w' => ∃ bp r, p = some ⟨bp, 0, none⟩ ∧ w3.heap.size ≤ bp ∧ Blk w' bp [.int .i64 f, r.v, .bool false] 30 ∧ Mine w.heap.size w' r (nextB z f t) ∧ Mod No w3 w') ?_ ?_
    · intro kk hkk
      refine nn.mk ?_
      rw [add_at]
      refine ldL.mk hv3.box rfl (nn.mk ?_)
      rw [add_at]
      refine ldI.mk hv3.box rfl (nn.mk ?_)
      rw [add_at]
      refine ldI.mk hv3.box rfl ?_
      have e1 : IntKind.i64.wrap (f - z.base) = ((f - z.base).toNat : Int) := by rw [wrap_i64 (by omega) (by omega)]; omega
      have e2 : IntKind.i64.wrap (t - z.base) = ((t - z.base).toNat : Int) := by rw [wrap_i64 (by omega) (by omega)]; omega
      rw [e1, e2]
      have hkl := hv3.klen
      have hkc := hv3.kcap
      have hsub : ∀ w', Mod No w3 w' → RdB w' (v.kp.sub 1 (f - z.base).toNat (t - z.base).toNat v.kp.cap) (nextB z f t) := fun w' hm => by
        have := RdS.sub (lo := (f - z.base).toNat) (hi := (t - z.base).toNat) (hv3.mod0 hm).kept.rd (by omega) (by omega) (by omega)
        simp only [Nat.mul_one, ← List.map_drop, ← List.map_take] at this
        rw [show (t - z.base).toNat - (f - z.base).toNat = (t - f).toNat by omega] at this
        exact this
      have hnl : (nextB z f t).length < 100000000000 := by unfold nextB; rw [List.length_take]; omega
      refine ⟨by omega, by omega, by omega, ?_, ?_⟩
      · refine cloneB_spec (hsub w3 (Mod.refl _ _)) hnl fun r w4 hr4 m4 => newV.mk fun bp w5 hbp Bp m5 => stA.all Bp rfl rfl (by intro u hu; simp [Slc.v] at hu; rcases hu with rfl | rfl | rfl <;> rfl) fun w6 Bp m6 => ?_
        have z4 := m4.size
        have hr6 : Mine w.heap.size w6 r (nextB z f t) := by
          have h5 := hr4.mod0 m5
          exact ⟨h5.own.mod m6 (fun b hb e => by have := (hr4.new b hb).2; omega), fun b hb => ⟨by have := (hr4.new b hb).1; omega, Nat.lt_of_lt_of_le (h5.new b hb).2 m6.size⟩⟩
        exact hkk _ _ ⟨bp, r, rfl, by omega, Bp, hr6, (m4.on0 m5).onNew m6 (by omega)⟩
      · refine newV.mk fun bp w4 hbp Bp m4 => ⟨(hv3.mod0 m4).box.cell rfl, (hv3.mod0 m4).box.cell rfl, (hv3.mod0 m4).box.cell rfl, ?_⟩
        refine cloneB_spec (hsub w4 m4) hnl fun r w5 hr5 m5 => stA.all (Bp.mod0 m5) rfl rfl (by intro u hu; simp [Slc.v] at hu; rcases hu with rfl | rfl | rfl <;> rfl) fun w6 Bp' m6 => ?_
        have lp := Bp.lt
        have z4 := m4.size
        have hr6 : Mine w.heap.size w6 r (nextB z f t) :=
          ⟨hr5.own.mod m6 (fun b hb e => by have := (hr5.new b hb).1; omega), fun b hb => ⟨by have := (hr5.new b hb).1; omega, Nat.lt_of_lt_of_le (hr5.new b hb).2 m6.size⟩⟩
        exact hkk _ _ ⟨bp, r, rfl, hbp, Bp', hr6, (m4.on0 m5).onNew m6 hbp⟩
    · rintro _ w4 ⟨bp, r, rfl, hbp, Bp, hr, m4⟩
      have z4 := m4.size
      have m04 := m03.on0 m4
      have hv4 := hv3.mod0 m4
      have B3 := B3.mod0 m4
      have lbp := Bp.lt
      -- the lost ones
      refine jn.mk (fun _ w' => ∃ gs', SetAt w' v.gb gs' g' ∧ (∀ b, sfp v.gb gs' b → sfp v.gb v.gs b ∨ w4.heap.size ≤ b) ∧ Mod (sfp v.gb v.gs) w4 w') ?_ ?_
      · intro kk hkk
        refine ⟨fun hc => ?_, fun hc => ?_⟩
        · have hlt : f < t := of_decide_eq_true hc
          refine nn.mk ?_
          rw [add_at]
          refine ldP.mk hv4.box rfl ?_
          rw [show IntKind.i64.wrap (t - 1) = t - 1 from wrap_i64 (by omega) (by omega)]
          exact hT hok hlt w4 _ hv4.gone fun w5 gs' hs5 hn5 m5 => hkk _ _ ⟨gs', hs5, hn5, m5⟩
        · have hlt : ¬ f < t := of_decide_eq_false hc
          exact hkk _ _ ⟨v.gs, by rw [hE hok hlt]; exact hv4.gone, fun b hb => .inl hb, Mod.refl _ _⟩
      · rintro _ w5 ⟨gs', hs5, hn5, m5⟩
        have z5 := m5.size
        let v' : OF := { v with gs := gs' }
        have hfp' : ∀ b, v'.fp b → v.fp b ∨ w.heap.size ≤ b := by
          rintro b (rfl | hb | hb | hb)
          · exact .inl (.inl rfl)
          · rcases hn5 b hb with h | h
            · exact .inl (.inr (.inl h))
            · exact .inr (by omega)
          · exact .inl (.inr (.inr (.inl hb)))
          · exact .inl (.inr (.inr (.inr hb)))
        have nsf : ∀ b, sfp v.gb gs' b → b < w.heap.size → sfp v.gb v.gs b := fun b hb hlt => by
          rcases hn5 b hb with h | h
          · exact h
          · omega
        have hv5 : BoxAt w5 v' { z with g := g' } :=
          { box := hv4.box.mod m5 fun e => hv.d1 e
            kept := hv4.kept.mod m5 fun b hb e => (hv.d5 b hb).1 e
            gone := hs5
            here := hv4.here.mod m5 fun b hb e => hv.d4 b e hb
            d1 := fun e => hv.d1 (nsf _ e (hfp _ (.inl rfl)))
            d2 := hv.d2
            d3 := hv.d3
            d4 := fun b hb e => hv.d4 b (nsf b hb (hfp b (.inr (.inr (.inl e))))) e
            d5 := fun b hb => ⟨fun e => (hv.d5 b hb).1 (nsf b e (hfp b (.inr (.inr (.inr hb))))), (hv.d5 b hb).2⟩ }
        have nb5 : Nb { z with g := g' } := ⟨hb.base, hb.kept, hb.sent, hb.room⟩
        have Bp := Bp.mod m5 fun e => by have := hfp bp (.inr (.inl e)); omega
        have B3 := B3.mod m5 fun e => by have := hfp b3 (.inr (.inl e)); omega
        have hr5 : Mine w.heap.size w5 r (nextB z f t) := hr.mod m5 fun b hb e => by have := hfp b (.inr (.inl e)); have := (hr.new b hb).1; omega
        have hrb : ∀ b, r.a = some ⟨b, 0, none⟩ → ¬ v'.fp b := fun b hb e => by
          have h1 := hr.new b hb
          rcases e with rfl | e | e | e
          · have := hfp v.ob (.inl rfl)
            have e0 : v'.ob = v.ob := rfl
            omega
          · rcases hn5 b e with h | h
            · have := hfp b (.inr (.inl h)); omega
            · omega
          · have := hfp b (.inr (.inr (.inl e))); omega
          · have := hfp b (.inr (.inr (.inr e))); omega
        have m05 : Mod v.fp w w5 := (m04.of0 (S := v.fp)).on m5 fun c hc e => .inr (.inl e)
        have cond : ∀ w6, Mod No w5 w6 → finB z t = true → (∀ w' , BoxAt w' v' { z with g := g', fin := 2 } → Blk w' bp [.int .i64 f, r.v, .bool true] 30 → Blk w' b3 [.int .i64 0, Slc.nil.v, .bool false] 30 → Mine w.heap.size w' r (nextB z f t) → Mod v.fp w w' → True) → True := fun _ _ _ _ => trivial
        refine jn.mk (fun _ w' => BoxAt w' v' { z with g := g', fin := if finB z t then 2 else z.fin } ∧ Blk w' bp [.int .i64 f, r.v, .bool (finB z t)] 30 ∧ Blk w' b3 [.int .i64 0, Slc.nil.v, .bool false] 30 ∧ Mine w.heap.size w' r (nextB z f t) ∧ Mod v.fp w w') ?_ ?_
        · intro kk hkk
          have yes : ∀ w6, Mod No w5 w6 → finB z t = true → nn (some ⟨bp, 0, none⟩) fun p62 => stV (p62.add 2) (.bool true) w6 fun w63 => nn v.ptr fun p64 => stV (p64.add 6) (.int .i64 2) w63 fun w65 => kk () w65 := fun w6 m6 hfin => by
            refine nn.mk ?_
            rw [add_at]
            have hv6 := hv5.mod0 m6
            have Bp6 := Bp.mod0 m6
            have B36 := B3.mod0 m6
            have hr6 := hr5.mod0 m6
            have z6 := m6.size
            refine stV.mk Bp6 (by simp) fun w7 Bp7 m7 => nn.mk ?_
            have hv7 := hv6.mod m7 fun b hb e => by
              rcases hfp' b hb with h | h
              · have := hfp b h; omega
              · rcases hb with h2 | h2 | h2 | h2
                · have := hfp b (.inl h2); omega
                · rcases hn5 b h2 with h3 | h3
                  · have := hfp b (.inr (.inl h3)); omega
                  · omega
                · have := hfp b (.inr (.inr (.inl h2))); omega
                · have := hfp b (.inr (.inr (.inr h2))); omega
            have hob := hfp v.ob (.inl rfl)
            have rbp : ∀ b, r.a = some ⟨b, 0, none⟩ → b ≠ bp := fun b hb e => by
              subst e
              rcases hr6.own.2 with e | ⟨c, rest, h1, h2, _⟩
              · rw [e] at hb; cases hb
              · rw [h1] at hb
                have : c = b := by simpa using hb
                subst this
                obtain ⟨_, q1, _⟩ := h2
                obtain ⟨_, q2, _⟩ := Bp6
                rw [q1] at q2
                simp at q2
            rw [add_at]
            refine stV.mk hv7.box (by simp) fun w8 B8 m8 => hkk () w8 ?_
            rw [hfin]
            refine ⟨?_, Bp7.ne m8 (by omega), (B36.ne m7 (by omega)).ne m8 (by omega), ((hr6.mod m7 fun b hb e => rbp b hb e).mod m8 fun b hb e => by have := (hr6.new b hb).1; omega), ((m05.on0 m6).on m7 fun c hc e => by omega).on m8 fun c hc e => .inl e⟩
            exact { hv7 with box := B8, kept := hv7.kept.mod m8 fun b hb e => hv7.d3 (e ▸ hb), gone := hv7.gone.mod m8 fun b hb e => hv7.d1 (e ▸ hb), here := hv7.here.mod m8 fun b hb e => hv7.d2 (e ▸ hb) }
          have no : ∀ w6, Mod No w5 w6 → finB z t = false → kk () w6 := fun w6 m6 hfin => hkk () w6 (by
            rw [hfin]
            exact ⟨hv5.mod0 m6, Bp.mod0 m6, B3.mod0 m6, hr5.mod0 m6, m05.on0 m6⟩)
          refine jn.mk (fun c w' => Mod No w5 w' ∧ c = finB z t) ?_ ?_
          · intro ll hll
            refine written_spec (v := v') hv5 nb5 fun w6 m6 => ?_
            have hv6 := hv5.mod0 m6
            show ifM (t == z.written) _ _
            refine ⟨fun hc => nn.mk ?_, fun hc => hll _ _ ⟨m6, by unfold finB; rw [hc]; rfl⟩⟩
            rw [add_at]
            refine ldI.mk hv6.box rfl ⟨fun hc2 => hll _ _ ⟨m6, ?_⟩, fun hc2 => nn.mk ?_⟩
            · have hc3 : (z.fin == 1) = true := hc2
              unfold finB; rw [hc, hc3]; rfl
            · have hc3 : (z.fin == 1) = false := hc2
              rw [add_at]
              refine ldI.mk hv6.box rfl (hll _ _ ⟨m6, ?_⟩)
              unfold finB; rw [hc, hc3]; rfl
          · rintro c w6 ⟨m6, rfl⟩
            exact ⟨fun hc => yes w6 m6 hc, fun hc => no w6 m6 hc⟩
        · rintro _ w6 ⟨hv6, Bp6, B36, hr6, m06⟩
          refine nn.mk ?_
          rw [add_at]
          have hB6 := hv6.box
          refine ldI.mk hB6 rfl (nn.mk ?_)
          rw [add_at]
          have hob := hfp v.ob (.inl rfl)
          refine stV.mk hB6 (by simp) fun w7 B7 m7 => nn.mk ?_
          have hv7 : BoxAt w7 v' { z with g := g', fin := if finB z t then 2 else z.fin, sent := if t > z.sent then t else z.sent } :=
            { hv6 with box := B7, kept := hv6.kept.mod m7 fun b hb e => hv6.d3 (e ▸ hb), gone := hv6.gone.mod m7 fun b hb e => hv6.d1 (e ▸ hb), here := hv6.here.mod m7 fun b hb e => hv6.d2 (e ▸ hb) }
          have hr7 := hr6.mod m7 fun b hb (e : b = v.ob) => by have := (hr6.new b hb).1; omega
          refine ldA.all (Bp6.ne m7 (by show bp ≠ v.ob; omega)) rfl ?_
          refine stA.all (B36.ne m7 (by show b3 ≠ v.ob; omega)) rfl rfl (by intro u hu; simp [Slc.v] at hu; rcases hu with rfl | rfl | rfl <;> rfl) fun w8 B8 m8 => ldA.all B8 rfl ?_
          have r3 : ∀ b, r.a = some ⟨b, 0, none⟩ → b ≠ b3 := fun b hb e => by
            subst e
            rcases hr6.own.2 with e | ⟨c, rest, h1, h2, _⟩
            · rw [e] at hb; cases hb
            · rw [h1] at hb
              have : c = b := by simpa using hb
              subst this
              obtain ⟨_, q1, _⟩ := h2
              obtain ⟨_, q2, _⟩ := B36
              rw [q1] at q2
              simp at q2
          refine h hok w8 v' r (hv7.mod m8 fun b hb e => ?_) rfl hfp' ((m06.on m7 fun c hc e => .inl e).on m8 fun c hc e => by omega) (hr7.mod m8 fun b hb e => r3 b hb e) hrb
          rcases hb with h2 | h2 | h2 | h2
          · have := hfp b (.inl h2); omega
          · rcases hn5 b h2 with h3 | h3
            · have := hfp b (.inr (.inl h3)); omega
            · omega
          · have := hfp b (.inr (.inr (.inl h2))); omega
          · have := hfp b (.inr (.inr (.inr h2))); omega
end Go.Proofs.Ytfgodebgjemljaa
