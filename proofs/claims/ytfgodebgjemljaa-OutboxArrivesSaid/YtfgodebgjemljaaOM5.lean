/-
  OutboxArrives: the law.
-/
import Derived.Test.YtfgodebgjemljaaOI5
import Derived.Test.YtfgodebgjemljaaOL5
namespace Go.Proofs.Ytfgodebgjemljaa
open Go Go.Sh
set_option linter.unusedVariables false
set_option linter.unusedSimpArgs false

/-! ### 1. Both sides -/

structure Both (W : World) (o0 i0 : Nat) (w : World) (vo : OF) (zo : St) (vi : IF) (q : InS) : Prop where
  out : BoxAt w vo zo
  inn : InAt w vi q
  ob : vo.ob = o0
  ib : vi.ib = i0
  dis : ∀ c, vo.fp c → ¬ vi.fp c
  newO : ∀ c, vo.fp c → W.heap.size ≤ c
  newI : ∀ c, vi.fp c → W.heap.size ≤ c
  mod : Mod No W w

/-- a block of the law's own -/
def Far (w : World) (vo : OF) (vi : IF) (c : Nat) : Prop := c < w.heap.size ∧ ¬ vo.fp c ∧ ¬ vi.fp c

section
variable {W w w' : World} {o0 i0 : Nat} {vo vo' : OF} {zo zo' : St} {vi vi' : IF} {q q' : InS}

theorem Both.ptrO (h : Both W o0 i0 w vo zo vi q) : (some ⟨o0, 0, none⟩ : Option Addr) = vo.ptr := by unfold OF.ptr; rw [h.ob]
theorem Both.ptrI (h : Both W o0 i0 w vo zo vi q) : (some ⟨i0, 0, none⟩ : Option Addr) = vi.ptr := by unfold IF.ptr; rw [h.ib]
theorem Both.toOut (h : Both W o0 i0 w vo zo vi q) (hb : BoxAt w' vo' zo') (ho : OTo w vo w' vo') : Both W o0 i0 w' vo' zo' vi q where
  out := hb
  inn := h.inn.mod ho.mod fun b hb e => h.dis b e hb
  ob := ho.ob.trans h.ob
  ib := h.ib
  dis := fun c hc e => by
    rcases ho.fp c hc with h1 | h1
    · exact h.dis c h1 e
    · have := h.inn.lt c e
      omega
  newO := fun c hc => by
    rcases ho.fp c hc with h1 | h1
    · exact h.newO c h1
    · have := h.mod.size
      omega
  newI := h.newI
  mod := h.mod.on ho.mod fun c hc e => by have := h.newO c e; omega
theorem Both.toInn (h : Both W o0 i0 w vo zo vi q) (hb : InAt w' vi' q') (ho : ITo w vi w' vi') : Both W o0 i0 w' vo zo vi' q' where
  out := h.out.mod ho.mod fun b hb e => h.dis b hb (e.elim .inl fun e => .inr (.inl e))
  inn := hb
  ob := h.ob
  ib := ho.ib.trans h.ib
  dis := fun c hc e => by
    rcases ho.fp c e with h1 | h1
    · exact h.dis c hc h1
    · have := h.out.lt c hc
      omega
  newO := h.newO
  newI := fun c hc => by
    rcases ho.fp c hc with h1 | h1
    · exact h.newI c h1
    · have := h.mod.size
      omega
  mod := h.mod.on ho.mod fun c hc e => by have := h.newI c (e.elim .inl fun e => .inr (.inl e)); omega
theorem Both.mod0 (h : Both W o0 i0 w vo zo vi q) (hm : Mod No w w') : Both W o0 i0 w' vo zo vi q := { h with out := h.out.mod0 hm, inn := h.inn.mod0 hm, mod := h.mod.on0 hm }
theorem Both.other {b : Nat} (h : Both W o0 i0 w vo zo vi q) (hm : Mod (· = b) w w') (hb : Far w vo vi b) (hW : W.heap.size ≤ b) : Both W o0 i0 w' vo zo vi q :=
  { h with out := h.out.mod hm fun c hc e => hb.2.1 (e ▸ hc), inn := h.inn.other hm hb.2.2, mod := h.mod.onNew hm hW }

theorem Far.toOut {c : Nat} (h : Far w vo vi c) (ho : OTo w vo w' vo') : Far w' vo' vi c := ⟨Nat.lt_of_lt_of_le h.1 ho.mod.size, fun e => by
  rcases ho.fp c e with h1 | h1
  · exact h.2.1 h1
  · have := h.1; omega, h.2.2⟩
theorem Far.toInn {c : Nat} (h : Far w vo vi c) (ho : ITo w vi w' vi') : Far w' vo vi' c := ⟨Nat.lt_of_lt_of_le h.1 ho.mod.size, h.2.1, fun e => by
  rcases ho.fp c e with h1 | h1
  · exact h.2.2 h1
  · have := h.1; omega⟩
theorem Far.mod {S : Nat → Prop} {c : Nat} (h : Far w vo vi c) (hm : Mod S w w') : Far w' vo vi c := ⟨Nat.lt_of_lt_of_le h.1 hm.size, h.2.1, h.2.2⟩
theorem Both.far {c : Nat} (h : Both W o0 i0 w vo zo vi q) (hc : w.heap.size ≤ c) (hl : c < w'.heap.size) : Far w' vo vi c := ⟨hl, fun e => by have := h.out.lt c e; omega, fun e => by have := h.inn.lt c e; omega⟩
theorem blk_out {c : Nat} {cs : List Value} {T : TypeId} (hB : Blk w c cs T) (hf : Far w vo vi c) (ho : OTo w vo w' vo') : Blk w' c cs T := hB.mod ho.mod hf.2.1
theorem blk_inn {c : Nat} {cs : List Value} {T : TypeId} (hB : Blk w c cs T) (hf : Far w vo vi c) (ho : ITo w vi w' vi') : Blk w' c cs T := hB.mod ho.mod fun e => hf.2.2 (e.elim .inl fun e => .inr (.inl e))
end

/-! ### 2. The fates -/

abbrev fv (x : Int × Bool × Bool) : List Value := [.int .i64 x.1, .bool x.2.1, .bool x.2.2]

theorem fates_key : ∀ (fs : List (Int × Bool × Bool)) (i : Nat) (x : Int × Bool × Bool), fs[i]? = some x → ((fs.flatMap fv).drop (i * 3)).take 3 = fv x ∧ i * 3 + 3 ≤ (fs.flatMap fv).length
  | [], _, _, h => by simp at h
  | y :: r, 0, x, h => by
    have : y = x := by simpa using h
    subst this
    simp [fv]
  | y :: r, i + 1, x, h => by
    obtain ⟨h1, h2⟩ := fates_key r i x (by simpa using h)
    have e : (i + 1) * 3 = i * 3 + 3 := by omega
    rw [List.flatMap_cons, e, show fv y ++ r.flatMap fv = (.int .i64 y.1) :: (.bool y.2.1) :: (.bool y.2.2) :: r.flatMap fv from rfl]
    refine ⟨by simpa using h1, ?_⟩
    simp only [List.length_cons]
    omega

theorem fates_at {w : World} {s : Slc} {fs : List (Int × Bool × Bool)} {i : Nat} {x : Int × Bool × Bool} {k : Array Value → Prop} (h : RdS w 3 s (fs.flatMap fv)) (hi : fs[i]? = some x) (hk : k (fv x).toArray) : idx 3 s (i : Int) fun p => ldA 3 p w k := by
  obtain ⟨h1, h2⟩ := fates_key fs i x hi
  obtain ⟨g1, g2⟩ := h
  obtain ⟨a, n, c⟩ := s
  simp only at g1 g2
  rcases g2 with ⟨_, g2⟩ | ⟨b, o, rfl, _, hc⟩
  · omega
  refine idx.mk (by omega) (by omega) ⟨_, ⟨rfl, fun j hj => ?_⟩, hk⟩
  rw [add_at, Int.toNat_natCast, Nat.add_assoc, hc _ (by omega), ← h1, List.getElem?_toArray, List.getElem?_take, List.getElem?_drop, if_pos hj]

theorem and255 (a : Int) : ∃ m : Nat, m ≤ 255 ∧ bitsZ .and .i64 a 255 = (m : Int) := by
  have h : (BitVec.ofInt 64 a &&& BitVec.ofInt 64 255).toNat ≤ 255 := by rw [BitVec.toNat_and]; exact Nat.and_le_right
  refine ⟨(BitVec.ofInt 64 a &&& BitVec.ofInt 64 255).toNat, h, ?_⟩
  show IntKind.i64.wrap ((BitVec.ofInt 64 a &&& BitVec.ofInt 64 255).toNat : Int) = _
  exact wrap_i64 (by omega) (by omega)

theorem bstr_app (a b : List UInt8) : ((⟨a.toArray⟩ : ByteArray) ++ (⟨b.toArray⟩ : ByteArray)) = ⟨(a ++ b).toArray⟩ := by
  apply ByteArray.ext
  rw [ByteArray.data_append]
  simp
theorem bstr_size (a : List UInt8) : (⟨a.toArray⟩ : ByteArray).size = a.length := by simp [ByteArray.size]
theorem bstr_beq (a b : List UInt8) (h : a = b) : ((⟨a.toArray⟩ : ByteArray).toList == (⟨b.toArray⟩ : ByteArray).toList) = true := by subst h; simp

/-! ### 3. The law -/

/-- where the law stands, i rounds on -/
structure Runs (W : World) (o0 i0 : Nat) (bs : List UInt8) (F : Nat) (g : ByteArray) (i : Nat) (w : World) (vo : OF) (vi : IF) (b s : Nat) (f : Int) (q : InS) (hi : Nat) : Prop where
  both : Both W o0 i0 w vo (aS bs b b s f) vi q
  qs : InQ bs q hi
  bs_ : b ≤ s ∧ s ≤ bs.length ∧ b ≤ hi
  got : g = ⟨(bs.take q.place).toArray⟩
  fin : (f = 1 ∨ f = 3) ∨ (f = 4 ∧ b = bs.length ∧ q.known = true)
  cnt : i ≤ F + b + (if f = 4 then 1 else 0)

set_option maxHeartbeats 2000000 in
theorem law_arrives {W : World} {x y : Slc} {bs : List UInt8} {fs : List (Int × Bool × Bool)} (hx : RdB W x bs) (hxc : x.len ≤ x.cap) (hy : RdS W 3 y (fs.flatMap fv)) (hF : fs.length < 1000000000000000) : C5 x y W (fun r w' => r = true ∧ Mod No W w') := by
  refine br5 ?_
  unfold sh5
  have hl := hx.len
  have hyl : y.len = fs.length := by
    have h1 := hy.1
    have h2 : ∀ l : List (Int × Bool × Bool), (l.flatMap fv).length = l.length * 3 := fun l => by
      induction l with
      | nil => rfl
      | cons z l ih => rw [List.flatMap_cons, List.length_append, ih]; simp [fv]; omega
    rw [h2] at h1
    omega
  rw [hl, hyl]
  refine jn_in ⟨fun hc => ⟨rfl, Mod.refl _ _⟩, fun hc => ?_⟩
  have hN : bs.length ≤ 1048576 := by
    have : ¬ ((bs.length : Int) > 1048576) := of_decide_eq_false hc
    omega
  refine onew_spec (by omega) (by omega) fun w1 vo hvo hfo m1 => inew_spec hN fun w2 vi hvi hfi m2 => ?_
  have z1 := m1.size
  have z2 := m2.size
  refine jn_in (jn_in (ifM.f rfl (ifM.f rfl (ifM.f rfl (ifM.f rfl ?_)))))
  have B2 : Both W vo.ob vi.ib w2 vo ⟨bs.length, 0, 0, 0, [], none, none⟩ vi ⟨bs.length, 0, bs.length, 0, 0, false, []⟩ :=
    ⟨hvo.mod0 m2, hvi, rfl, rfl, fun c hc e => by have := hvo.lt c hc; have := hfi c e; omega, hfo, fun c hc => by have := hfi c hc; omega, m1.on0 m2⟩
  have nb0 : Nb ⟨bs.length, 0, 0, 0, [], none, none⟩ := ⟨⟨Int.le_refl 0, show (0 : Int) ≤ 4000000 by decide⟩, by show ([] : List UInt8).length ≤ 4000000; decide, ⟨Int.le_refl 0, show (0 : Int) ≤ 8000000 by decide⟩, ⟨by show (0 : Int) ≤ bs.length; omega, by show (bs.length : Int) ≤ _; omega⟩⟩
  refine write_spec B2.out nb0 rfl (by show ((0 : Nat) : Int) ≤ (bs.length : Int); omega) (hx.mod B2.mod fun _ _ _ h => h) hxc (by omega) fun w3 vo3 hvo3 hob3 hfp3 m3 => ?_
  have ewr : wrN ⟨bs.length, 0, 0, 0, [], none, none⟩ bs = bs.length := by
    show min bs.length ((bs.length : Int).toNat - 0) = bs.length
    omega
  rw [ewr]
  rw [ewr, List.take_length, List.nil_append] at hvo3
  have B3 := B2.toOut hvo3 ⟨hob3, hfp3, m3⟩
  have eP : vo.ptr = vo3.ptr := B3.ptrO
  refine jn_in (jn_in (ifM.f (by simp) (ifM.f rfl ?_)))
  rw [eP]
  refine finish_spec B3.out rfl fun w4 hvo4 o4 => ifM.f rfl ?_
  have B4 : Both W vo.ob vi.ib w4 vo3 (aS bs 0 0 0 1) vi ⟨bs.length, 0, bs.length, 0, 0, false, []⟩ := B3.toOut hvo4 o4
  generalize vo.ob = o0 at B4
  generalize hi0 : vi.ib = i0 at B4
  rw [B4.ptrO.symm, B4.ptrI.symm]
  obtain ⟨F, hFe⟩ : ∃ F, F = fs.length := ⟨_, rfl⟩
  have R4 : Runs W o0 i0 bs F ⟨#[]⟩ 0 w4 vo3 vi 0 0 1 ⟨bs.length, 0, bs.length, 0, 0, false, []⟩ 0 :=
    ⟨B4, ⟨rfl, hN, ⟨Nat.le_refl 0, Nat.zero_le _⟩, rfl, ⟨Int.le_refl _, by show (bs.length : Int) ≤ 4000000; omega⟩, ⟨Int.le_refl 0, by show (0 : Int) ≤ _; omega⟩, fun h => by cases h⟩, ⟨Nat.le_refl 0, Nat.zero_le _, Nat.le_refl 0⟩, rfl, .inl (.inl rfl), Nat.zero_le _⟩
  clear hvo4 o4 hvo3 hfp3 hob3 m3 B3 B2 hvi hfi m2 hvo hfo
  -- what comes behind the loop
  refine jn.mk (fun g w' => ∃ i vo vi b s f q hi, Runs W o0 i0 bs F g i w' vo vi b s f q hi ∧ f = 4) ?_ ?_
  · intro kk hkk
    refine Lp.inv (fun (st : ByteArray × Int) w' => ∃ i : Nat, st.2 = (i : Int) ∧ ∃ vo vi b s f q hi, Runs W o0 i0 bs F st.1 i w' vo vi b s f q hi) (fun st _ => (((F + bs.length + 2 : Nat) : Int) - st.2).toNat) ⟨0, rfl, vo3, vi, _, _, _, _, _, R4⟩ ?_
    rintro ⟨g, _⟩ w5 ⟨i, rfl, vo, vi, b, s, f, q, hi, R⟩
    obtain ⟨hB, hq, ⟨hbs, hsl, hbh⟩, hg, hf, hcnt⟩ := R
    simp only at hg ⊢
    have hbl : b ≤ bs.length := by omega
    rw [hB.ptrO]
    refine done_spec hB.out fun w6 m6 => ?_
    have hB6 := hB.mod0 m6
    have hkl : ((aS bs b b s f).kept = []) ↔ b = bs.length := by
      show bs.drop b = [] ↔ _
      rw [← List.length_eq_zero_iff, List.length_drop]
      omega
    rw [← hB.ptrO]
    by_cases hf4 : f = 4
    · obtain ⟨_, hbl2, hkn⟩ : f = 4 ∧ b = bs.length ∧ q.known = true := by
        rcases hf with (h | h) | h
        · omega
        · omega
        · exact h
      refine ifM.f (by rw [decide_eq_true (show (aS bs b b s f).fin = 4 ∧ (aS bs b b s f).kept = [] from ⟨hf4, hkl.2 hbl2⟩)]; rfl) (hkk _ _ ⟨i, vo, vi, b, s, f, q, hi, ⟨hB6, hq, ⟨hbs, hsl, hbh⟩, hg, hf, hcnt⟩, hf4⟩)
    · have hf13 : f = 1 ∨ f = 3 := by
        rcases hf with h | h
        · exact h
        · exact absurd h.1 hf4
      rw [if_neg hf4] at hcnt
      refine ifM.t (by rw [decide_eq_false (show ¬ ((aS bs b b s f).fin = 4 ∧ (aS bs b b s f).kept = []) from fun h => hf4 h.1)]; rfl) ?_
      -- the round's end
      refine jn.mk (fun g' w' => ∃ vo vi b s f q hi, Runs W o0 i0 bs F g' (i + 1) w' vo vi b s f q hi) ?_ ?_
      · intro ke hke
        refine jn_in (ifM.f ?_ ?_)
        · rw [wrap_i64 (x := (fs.length : Int) + (bs.length : Int)) (by omega) (by omega), wrap_i64 (by omega) (by omega)]
          simp
          omega
        have hWs := hB6.mod.size
        refine newV.mk fun b86 w7 h86 B86 m7 => stA.all B86 rfl rfl (by simp [Sh.one]) fun w8 B86' m8 => ?_
        have f86 : Far w7 vo vi b86 := hB6.far h86 B86.lt
        have hB8 := (hB6.mod0 m7).other m8 f86 (by omega)
        have f86 := f86.mod m8
        have B86 := B86'
        have h86W : W.heap.size ≤ b86 := by omega
        -- the round's fate
        refine jn.mk (fun _ w' => ∃ (m : Nat) (lo tw : Bool), Blk w' b86 [iv m, .bool lo, .bool tw] 62 ∧ Mod (· = b86) w8 w' ∧ m ≤ 2000000 ∧ (b < bs.length → 1 ≤ m) ∧ (lo = true → i < F)) ?_ ?_
        · intro kf hkf
          refine ⟨fun hc => ?_, fun hc => hkf _ _ ⟨bs.length, false, false, B86, Mod.refl _ _, by omega, fun h => by omega, fun h => by cases h⟩⟩
          have hif : i < fs.length := by
            have : (i : Int) < (fs.length : Int) := of_decide_eq_true hc
            omega
          refine fates_at (hy.mod hB8.mod fun _ _ _ h => h) (List.getElem?_eq_getElem hif) (stA.all B86 rfl rfl (by simp [fv, Sh.one]) fun w9 B86 m9 => ldI.mk B86 rfl ?_)
          obtain ⟨mm, hmm, emm⟩ := and255 fs[i].1
          rw [emm, show IntKind.i64.wrap (1 + (mm : Int)) = ((1 + mm : Nat) : Int) by rw [wrap_i64 (by omega) (by omega)]; omega]
          refine stV.mk B86 (by simp [fv]) fun w10 B86 m10 => hkf _ _ ⟨1 + mm, fs[i].2.1, fs[i].2.2, B86, m9.on m10 fun _ _ e => e, by omega, fun _ => by omega, fun _ => by omega⟩
        · rintro _ w9 ⟨m, lo, tw, B86, m9, hm2, hm1, hlo⟩
          have hB9 := hB8.other m9 f86 h86W
          have f86 := f86.mod m9
          refine ldI.mk B86 rfl ?_
          rw [hB9.ptrO]
          refine nextA_spec hB9.out hN hbs hsl hf13 hm2 hm1 fun t w10 vo1 r ht1 ht2 ht3 hv10 o10 hr hrn => ?_
          rw [← hB9.ptrO]
          have hB10 := hB9.toOut hv10 o10
          have B86 := blk_out B86 f86 o10
          have f86 := f86.toOut o10
          generalize hs' : max s t = s' at hB10
          generalize hf1 : (if t = bs.length then (2 : Int) else f) = f1 at hB10
          have hf1a : t = bs.length → f1 = 2 := fun h => by rw [← hf1, if_pos h]
          have hf1b : t ≠ bs.length → f1 = f := fun h => by rw [← hf1, if_neg h]
          have hW10 := hB10.mod.size
          refine newV.mk fun b101 w11 h101 Bp m11 => stA.all Bp rfl rfl (by intro u hu; simp [Slc.v] at hu; rcases hu with rfl | rfl | rfl <;> rfl) fun w12 Bp' m12 => ?_
          have f101 : Far w11 vo1 vi b101 := hB10.far h101 Bp.lt
          have hB12 := (hB10.mod0 m11).other m12 f101 (by omega)
          have f101 := f101.mod m12
          have B86 : Blk w12 b86 _ _ := (B86.mod0 m11).mod m12 (by have := f86.1; omega)
          have f86 : Far w12 vo1 vi b86 := (f86.mod m11).mod m12
          have hr12 : Mine w9.heap.size w12 r ((bs.drop b).take (t - b)) := (hr.mod0 m11).mod m12 fun c hc e => by have := (hr.new c hc).2; omega
          have Bp := Bp'
          have hrl : r.len = t - b := by
            have := hr.len
            rw [List.length_take, List.length_drop] at this
            omega
          refine jn_in (ifM.f rfl (jn_in (drw.mk fun w13 m13 => ?_)))
          have hB13 := hB12.mod0 m13
          have B86 := B86.mod0 m13
          have f86 := f86.mod m13
          have Bp := Bp.mod0 m13
          have f101 := f101.mod m13
          have hr13 := hr12.mod0 m13
          have hx13 : RdB w13 x bs := hx.mod hB13.mod fun _ _ _ h => h
          have ebt : IntKind.i64.wrap ((b : Int) + ((r.len : Nat) : Int)) = (t : Int) := by rw [hrl, wrap_i64 (by omega) (by omega)]; omega
          -- the checks
          refine jn.mk (fun v w' => v = false ∧ w' = w13) ?_ ?_
          · intro kc hkc
            have a1 : (⟨b101, 0, none⟩ : Addr).add 1 = ⟨b101, 1, none⟩ := by rw [add_at]
            have a2 : (⟨b101, 0, none⟩ : Addr).add 2 = ⟨b101, 2, none⟩ := by rw [add_at]
            rw [a1, a2]
            refine ldI.mk Bp rfl (ifM.f (by simp) (ldI.mk Bp rfl (ldL.mk Bp rfl ?_)))
            rw [ebt]
            refine ifM.f (by simp; omega) (ldL.mk Bp rfl ⟨_, run_b2s Try.underlying22 Try.underlying5 Try.underlying9 hr13.own.rd, ldI.mk Bp rfl (ldI.mk Bp rfl (ldL.mk Bp rfl ?_))⟩)
            rw [ebt]
            refine ⟨by omega, by omega, by omega, ?_⟩
            have hsub := RdS.sub (lo := b) (hi := t) hx13 (by omega) (by omega) (by omega)
            simp only [Nat.mul_one, ← List.map_drop, ← List.map_take] at hsub
            refine ⟨_, run_b2s Try.underlying22 Try.underlying5 Try.underlying9 hsub, ifM.f (by simp) (ldB.mk Bp rfl ⟨fun hc => ldI.mk Bp rfl (ldL.mk Bp rfl ?_), fun _ => hkc _ _ ⟨rfl, rfl⟩⟩)⟩
            have hc : t = bs.length := of_decide_eq_true hc
            rw [ebt]
            exact hkc _ _ ⟨by simp; omega, rfl⟩
          · rintro _ w13 ⟨rfl, rfl⟩
            refine ifM.f rfl ?_
            -- what the other side gets
            refine jn.mk (fun _ w' => ∃ vi' q' hi', Both W o0 i0 w' vo1 (aS bs b t s' f1) vi' q' ∧ InQ bs q' hi' ∧ b ≤ hi' ∧ q'.place = q.place ∧ (lo = false → t ≤ hi' ∧ (t = bs.length → q'.known = true)) ∧ Blk w' b86 [iv m, .bool lo, .bool tw] 62 ∧ Blk w' b101 [iv b, r.v, .bool (decide (t = bs.length))] 30 ∧ Far w' vo1 vi' b101) ?_ ?_
            · intro kp hkp
              have a1 : (⟨b86, 0, none⟩ : Addr).add 1 = ⟨b86, 1, none⟩ := by rw [add_at]
              have a2 : (⟨b86, 0, none⟩ : Addr).add 2 = ⟨b86, 2, none⟩ := by rw [add_at]
              have c1 : (⟨b101, 0, none⟩ : Addr).add 1 = ⟨b101, 1, none⟩ := by rw [add_at]
              have c2 : (⟨b101, 0, none⟩ : Addr).add 2 = ⟨b101, 2, none⟩ := by rw [add_at]
              rw [a1, a2, c1, c2]
              refine jn.mk (fun v w' => w' = w13 ∧ (v = true ∨ lo = true)) ?_ ?_
              · intro kq hkq
                exact ldB.mk B86 rfl ⟨fun hc => hkq _ _ ⟨rfl, .inl rfl⟩, fun hc => ldB.mk B86 rfl (hkq _ _ ⟨rfl, .inr (by simpa using hc)⟩)⟩
              · rintro v w13 ⟨rfl, hvl⟩
                refine ⟨fun hc => ldI.mk Bp rfl (ldL.mk Bp rfl (ldB.mk Bp rfl ?_)), fun hc => ?_⟩
                · rw [hB13.ptrI]
                  refine put_spec hB13.inn hq hbh ht1 ht2 (fun h => of_decide_eq_true h) hr13 (fun c hc e => by have := (hr.new c hc).1; have := hB9.inn.lt c e; omega) fun w14 vi' q' hvi' hq' hk' hp' o' => ifM.f rfl ?_
                  have hB14 := hB13.toInn hvi' o'
                  exact hkp _ _ ⟨vi', q', max hi t, hB14, hq', by omega, hp', fun _ => ⟨by omega, fun h => by rw [hk']; simp [h]⟩, blk_inn B86 f86 o', blk_inn Bp f101 o', f101.toInn o'⟩
                · refine hkp _ _ ⟨vi, q, hi, hB13, hq, hbh, rfl, fun h => ?_, B86, Bp, f101⟩
                  rcases hvl with h' | h'
                  · rw [h'] at hc; cases hc
                  · rw [h'] at h; cases h
            · rintro _ w14 ⟨vi1, q1, hi1, hB14, hq1, hbh1, hp1, hkn1, B86, Bp, f101⟩
              have a1 : (⟨b86, 0, none⟩ : Addr).add 1 = ⟨b86, 1, none⟩ := by rw [add_at]
              have a2 : (⟨b86, 0, none⟩ : Addr).add 2 = ⟨b86, 2, none⟩ := by rw [add_at]
              have hg1 : g = ⟨(bs.take q1.place).toArray⟩ := by rw [hp1]; exact hg
              have hts : t ≤ s' := by omega
              have hss : s' ≤ bs.length := by omega
              have hpf : decide (t = bs.length) = true → t = bs.length ∧ f1 ≠ 0 ∧ f1 ≠ 1 := fun h => by
                have := of_decide_eq_true h
                rw [hf1a this]
                exact ⟨this, by decide, by decide⟩
              rw [a1, a2]
              refine jn_in (ldB.mk B86 rfl ⟨fun hc => ?_, fun hc => ?_⟩)
              · have hlo' : lo = true := hc
                rw [hB14.ptrO]
                refine jn_in (ldA.all Bp rfl (lost_spec hB14.out hN ht1 hts hss hrl hpf fun w15 vo2 hv15 o15 => ifM.f rfl (hke _ _ ⟨vo2, vi1, b, s', _, q1, hi1, ⟨hB14.toOut hv15 o15, hq1, ⟨by omega, hss, hbh1⟩, hg1, .inl ?_, ?_⟩⟩)))
                · by_cases h : t = bs.length
                  · rw [if_pos ⟨decide_eq_true h, hf1a h⟩]
                    exact .inr rfl
                  · rw [if_neg (fun e => h (of_decide_eq_true e.1)), hf1b h]
                    exact hf13
                · have := hlo hlo'
                  split <;> omega
              · have hlo' : lo = false := hc
                obtain ⟨hth, htk⟩ := hkn1 hlo'
                refine jn.mk (fun _ w' => ∃ vo2 u f2, Both W o0 i0 w' vo2 (aS bs b u s' f2) vi1 q1 ∧ (u = b ∨ u = t) ∧ (t = bs.length → f2 ≠ 0 ∧ f2 ≠ 1) ∧ (t ≠ bs.length → f2 = f) ∧ Blk w' b101 [iv b, r.v, .bool (decide (t = bs.length))] 30) ?_ ?_
                · intro kt hkt
                  refine jn_in (ldB.mk B86 rfl ⟨fun hc => ?_, fun hc => ifM.f rfl (hkt _ _ ⟨vo1, t, f1, hB14, .inr rfl, fun h => by rw [hf1a h]; exact ⟨by decide, by decide⟩, hf1b, Bp⟩)⟩)
                  rw [hB14.ptrO]
                  refine ldA.all Bp rfl (lost_spec hB14.out hN ht1 hts hss hrl hpf fun w15 vo2 hv15 o15 => ifM.f rfl (hkt _ _ ⟨vo2, b, _, hB14.toOut hv15 o15, .inl rfl, fun h => ?_, fun h => ?_, blk_out Bp f101 o15⟩))
                  · rw [if_pos ⟨decide_eq_true h, hf1a h⟩]
                    exact ⟨by decide, by decide⟩
                  · rw [if_neg (fun e => h (of_decide_eq_true e.1)), hf1b h]
                · rintro _ w15 ⟨vo2, u, f2, hB15, hu, hf2a, hf2b, Bp⟩
                  rw [hB15.ptrO]
                  refine ldA.all Bp rfl (acked_spec hB15.out hu hN ht1 hts hss hrl (fun h => ⟨of_decide_eq_true h, hf2a (of_decide_eq_true h)⟩) fun w16 vo3 hv16 o16 => ifM.f rfl ?_)
                  have hB16 := hB15.toOut hv16 o16
                  rw [hB16.ptrI]
                  have hpl1 := hq1.place
                  refine read_spec hB16.inn hq1 fun r2 w17 vi3 q3 hvi3 hq3 hp3 hk3 o17 hr2 => ?_
                  have hB17 := hB16.toInn hvi3 o17
                  refine ⟨_, run_b2s Try.underlying22 Try.underlying5 Try.underlying9 hr2, ?_, hke _ _ ⟨vo3, vi3, t, s', _, q3, hi1, ⟨hB17, hq3, ⟨hts, hss, hth⟩, ?_, ?_, ?_⟩⟩⟩
                  · rw [hg1, bstr_size, bstr_size, List.length_take, List.length_take, List.length_drop]
                    show _ ≤ (9223372036854775807 : Int)
                    omega
                  · rw [hg1, bstr_app, hp3]
                    have := take_join (bs := bs) (a := 0) (b := q1.place) (c := hi1) (Nat.zero_le _) hpl1.1 hpl1.2
                    simp only [List.drop_zero, Nat.sub_zero] at this
                    rw [this]
                  · by_cases h : t = bs.length
                    · rw [if_pos (decide_eq_true h)]
                      exact .inr ⟨rfl, h, by rw [hk3]; exact htk h⟩
                    · rw [if_neg (fun e => h (of_decide_eq_true e)), hf2b h]
                      exact .inl hf13
                  · by_cases h : t = bs.length
                    · rw [if_pos (decide_eq_true h), if_pos rfl]
                      omega
                    · have := ht3 (by omega)
                      split <;> omega
      · rintro g' w' ⟨vo', vi', b', s', f', q', hi', R'⟩
        have hc' := R'.cnt
        have hb' := R'.bs_
        have e : IntKind.i64.wrap ((i : Int) + 1) = ((i + 1 : Nat) : Int) := by rw [wrap_i64 (by omega) (by omega)]; omega
        rw [e]
        refine ⟨⟨i + 1, rfl, vo', vi', b', s', f', q', hi', R'⟩, ?_⟩
        show (((F + bs.length + 2 : Nat) : Int) - ((i + 1 : Nat) : Int)).toNat < (((F + bs.length + 2 : Nat) : Int) - (i : Int)).toNat
        split at hc' <;> omega
  · rintro g w5 ⟨i, vo, vi, b, s, f, q, hi, R, rfl⟩
    obtain ⟨hB, hq, ⟨hbs, hsl, hbh⟩, hg, hf, hcnt⟩ := R
    obtain ⟨hbl, hkn⟩ : b = bs.length ∧ q.known = true := by
      rcases hf with (h | h) | h
      · exact absurd h (by decide)
      · exact absurd h (by decide)
      · exact h.2
    have hpl := hq.place
    have hhi : hi = bs.length := by omega
    rw [hB.ptrI]
    refine read_spec hB.inn hq fun r w6 vi' q' hvi' hq' hp' hk' o' hr => ?_
    have hB6 := hB.toInn hvi' o'
    rw [hkn]
    refine jn_in (ifM.t (by simp [hhi]) ⟨_, run_b2s Try.underlying22 Try.underlying5 Try.underlying9 hr, ?_, _, run_b2s Try.underlying22 Try.underlying5 Try.underlying9 (hx.mod hB6.mod fun _ _ _ h => h), ?_, hB6.mod⟩)
    · rw [hg, bstr_size, bstr_size, List.length_take, List.length_take, List.length_drop]
      show _ ≤ (9223372036854775807 : Int)
      omega
    · rw [hg, bstr_app]
      refine bstr_beq _ _ ?_
      have := take_join (bs := bs) (a := 0) (b := q.place) (c := hi) (Nat.zero_le _) hpl.1 hpl.2
      simp only [List.drop_zero, Nat.sub_zero] at this
      rw [this, hhi, List.take_length]
end Go.Proofs.Ytfgodebgjemljaa
