/-
  Inbox: Read, of all that joins on.
-/
import Derived.Test.YtfgodebgjemljaaOK5
namespace Go.Proofs.Ytfgodebgjemljaa
open Go Go.Sh
set_option linter.unusedVariables false
set_option linter.unusedSimpArgs false

variable {w w' : World} {v : IF} {q : InS} {bs : List UInt8} {hi : Nat}

set_option maxHeartbeats 1000000 in
theorem read_spec {K : Slc → Bool → World → Prop} (hv : InAt w v q) (hq : InQ bs q hi)
    (h : ∀ r w' v' q', InAt w' v' q' → InQ bs q' hi → q'.place = hi → q'.known = q.known → ITo w v w' v' → RdB w' r ((bs.drop q.place).take (hi - q.place)) → K r (q.known && decide (hi = bs.length)) w') : C26 v.ptr bs.length w K := by
  refine br26 ?_
  unfold sh26
  have hlen := hq.len
  have hfp := hv.lt
  refine jn_in (inone_spec hv (ifM.f rfl ?_))
  refine jn.mk (fun s w' => ∃ v' q', InAt w' v' q' ∧ InQ bs q' hi ∧ q'.place = hi ∧ q'.known = q.known ∧ ITo w v w' v' ∧ Mine w.heap.size w' s ((bs.drop q.place).take (hi - q.place)) ∧ (∀ b, v'.fp b → v.fp b)) ?_ ?_
  · intro kk hkk
    refine Lp.inv (fun (s : Slc) w' => ∃ v' q', InAt w' v' q' ∧ InQ bs q' hi ∧ q.place ≤ q'.place ∧ q'.known = q.known ∧ ITo w v w' v' ∧ Mine w.heap.size w' s ((bs.drop q.place).take (q'.place - q.place)) ∧ (∀ b, v'.fp b → v.fp b)) (fun s _ => bs.length - s.len)
      ⟨v, q, hv, hq, Nat.le_refl _, rfl, ITo.refl .., by rw [Nat.sub_self, List.take_zero]; exact Mine.nil .., fun b h => h⟩ ?_
    rintro s w1 ⟨v1, q1, hv1, hq1, hle, hk1, o1, hs1, hfp1⟩
    rw [show v.ptr = v1.ptr by unfold IF.ptr; rw [o1.ib]]
    have hpl := hq1.place
    have hflat := hq1.flat
    have hsl := hs1.len
    rw [List.length_take, List.length_drop] at hsl
    have z1 := o1.mod.size
    refine jn_in ⟨fun hc => drw.mk fun w2 m2 => nn.mk ?_, fun hc => ?_⟩
    · have hlt : (s.len : Int) < bs.length := of_decide_eq_true hc
      have hv2 := hv1.mod0 m2
      have hs2 := hs1.mod0 m2
      have z2 := m2.size
      rw [add_at]
      refine ldM.mk hv2.box rfl (nn.mk ?_)
      rw [add_at]
      refine ldI.mk hv2.box rfl ?_
      have hlook := run_lookup (P := Try.prog) kInt (ve := Slc.v) (T := 81) (E := 22) (z := Slc.nil) Try.runUnderlying81 Try.zeroValue22 hv2.map.at (q1.place : Int)
      cases hseg : q1.segs with
      | nil =>
        have hnone : lookP v1.l (q1.place : Int) = none := by
          have := hv2.look (q1.place : Int)
          rw [hseg] at this
          cases h1 : lookP v1.l (q1.place : Int) with
          | none => rfl
          | some s => rw [h1] at this; cases this
        rw [hnone] at hlook
        have he : q1.place = hi := by
          rw [hseg] at hflat
          simp at hflat
          omega
        refine ⟨Slc.nil, false, hlook, jn_in (ifM.t rfl (hkk _ _ ⟨v1, q1, hv2, hq1, he, hk1, o1.mod0 m2, ?_, hfp1⟩))⟩
        rwa [he] at hs2
      | cons x r =>
        have hpos := hv2.pos
        rw [hseg] at hpos
        obtain ⟨hx0, hrp⟩ := pos_tail hpos
        obtain ⟨sl, hsl', hsm⟩ := hv2.some (k := (q1.place : Int)) (x := x) (by rw [hseg]; simp [pcs])
        rw [hsl'] at hlook
        refine ⟨sl, true, hlook, jn_in (ifM.f rfl (drw.mk fun w3 m3 => nn.mk ?_))⟩
        have hv3 := hv2.mod0 m3
        have hs3 := hs2.mod0 m3
        have z3 := m3.size
        rw [add_at]
        refine ldM.mk hv3.box rfl (nn.mk ?_)
        rw [add_at]
        refine ldI.mk hv3.box rfl ?_
        obtain ⟨w4, l4, hr4, hM4, hl4, m4⟩ := run_delete (P := Try.prog) (T := 81) (E := 22) kInt Try.runUnderlying81 hv3.map (q1.place : Int) (by rw [hsl']; rfl) 3
        have z4 := m4.size
        have hxl : sl.len = x.length := hsm.len
        have hfx : (x :: r).flatten.length = hi - q1.place := by rw [← hseg]; exact hflat
        rw [List.flatten_cons, List.length_append] at hfx
        have ek : (if IntKind.i64.wrap ((bs.length : Int) - ((s.len : Nat) : Int)) < ((sl.len : Nat) : Int) then IntKind.i64.wrap ((bs.length : Int) - ((s.len : Nat) : Int)) else ((sl.len : Nat) : Int)) = ((x.length : Nat) : Int) := by
          rw [wrap_i64 (by omega) (by omega), if_neg (by omega), hxl]
        rw [ek]
        have hcap := hsm.cap
        have hmb1 : v1.fp v1.mb := .inr (.inl rfl)
        have hib1 : v1.fp v1.ib := .inl rfl
        have hsl4 : Mine 0 w4 sl x := (hsm.mod0 m3).mod m4 fun c hc e => (hv2.far _ _ _ hsl' hc).2 e
        have hs4 : Mine w.heap.size w4 s ((bs.drop q.place).take (q1.place - q.place)) := hs3.mod m4 fun c hc e => by
          have := (hs1.new c hc).1
          have := hfp v1.mb (hfp1 _ hmb1)
          omega
        have hsub : RdB w4 (sl.sub 1 0 x.length sl.cap) x := by
          have := RdS.sub (lo := 0) (hi := x.length) hsl4.own.rd (Nat.zero_le _) (by omega) (by omega)
          simp only [Nat.zero_mul, List.drop_zero, Nat.sub_zero, Nat.mul_one, ← List.map_take, List.take_length] at this
          exact this
        have hsln : (sl.sub 1 0 x.length sl.cap).len = x.length := by simp [Slc.sub]
        obtain ⟨rr, w5, hr5, ho5, hl5, m5, hp5⟩ := run_append (t := 22) (t' := 22) elByte Try.runUnderlying22 Try.runUnderlying22 (fun k h => by cases h) hs4.own hsub u8_one (by rw [hsln]; omega) (by omega)
        have z5 := m5.size
        refine ⟨w4, hr4, by omega, by omega, rr, w5, hr5, nn.mk ?_⟩
        have hsS : ∀ c, v1.fp c → ¬ s.a = some ⟨c, 0, none⟩ := fun c hc e => by
          have := (hs1.new c e).1
          have := hfp c (hfp1 c hc)
          omega
        have hB5 : Blk w5 v1.ib (icells v1 q1) 83 := (hv3.box.mod m4 hv1.ne).mod m5 (hsS _ hib1)
        have hM5 : MapI w5 v1.mb l4 v1.c := hM4.mod m5 (hsS _ hmb1)
        rw [add_at]
        refine ldI.mk hB5 rfl (nn.mk ?_)
        rw [add_at]
        have ep : IntKind.i64.wrap ((q1.place : Int) + ((x.length : Nat) : Int)) = ((q1.place + x.length : Nat) : Int) := by rw [wrap_i64 (by omega) (by omega)]; omega
        rw [ep]
        refine stV.mk hB5 (by simp) fun w6 hB6 m6 => ?_
        rw [hxl]
        refine ifM.f (by simp) ?_
        have hrn : ∀ c, rr.a = some ⟨c, 0, none⟩ → w.heap.size ≤ c := fun c hc => by
          rcases hp5 with e | ⟨d, e, hd, _⟩
          · exact (hs1.new c (e ▸ hc)).1
          · rw [e] at hc
            have : d = c := by simpa using hc
            omega
        have fpl : ∀ k s', lookP l4 k = some s' → lookP v1.l k = some s' := fun k s' hk => by
          rw [hl4 k] at hk
          split at hk
          · cases hk
          · exact hk
        have hcat : (bs.drop q.place).take (q1.place - q.place) ++ x = (bs.drop q.place).take (q1.place + x.length - q.place) := by
          have hx : x = (bs.drop q1.place).take x.length := by
            have := hq1.cont
            rw [hseg, List.flatten_cons] at this
            have h2 := congrArg (List.take x.length) this
            rw [List.take_left, List.take_take, show min x.length (hi - q1.place) = x.length by omega] at h2
            exact h2
          have := take_join (bs := bs) (a := q.place) (b := q1.place) (c := q1.place + x.length) hle (by omega) (by omega)
          rw [show q1.place + x.length - q1.place = x.length by omega, ← hx] at this
          exact this
        refine ⟨⟨{ v1 with l := l4 }, { q1 with place := q1.place + x.length, segs := r }, ⟨hB6, hM5.mod m6 hv1.ne.symm, hv1.ne, fun k => ?_, fun k s' c hk hc => hv1.far k s' c (fpl k s' hk) hc, hrp⟩, ⟨hq1.room, hq1.len, ⟨by show q1.place + x.length ≤ hi; omega, hpl.2⟩, ?_, hq1.limit, hq1.reach, hq1.fin⟩, by show q.place ≤ q1.place + x.length; omega, hk1, ?_, ?_, ?_⟩, ?_⟩
        · show Pc w6 (lookP l4 k) (pcs r (q1.place + x.length) k)
          rw [hl4 k, pcs_tail hx0 k]
          by_cases hk : k = (q1.place : Int)
          · rw [if_pos hk, if_pos hk]
            trivial
          · rw [if_neg hk, if_neg hk, ← hseg]
            refine (((hv3.pc k).mod m4 fun s' c h1 h2 => (hv1.far k s' c h1 h2).2).mod m5 fun s' c h1 h2 => ?_).mod m6 fun s' c h1 h2 => (hv1.far k s' c h1 h2).1
            exact hsS c (.inr (.inr ⟨k, s', h1, h2⟩))
        · show r.flatten = (bs.drop (q1.place + x.length)).take (hi - (q1.place + x.length))
          have := hq1.cont
          rw [hseg, List.flatten_cons] at this
          have h2 := congrArg (List.drop x.length) this
          rw [List.drop_left, List.drop_take, List.drop_drop, Nat.sub_sub] at h2
          exact h2
        · have hown : ∀ {S : Nat → Prop} {a b : World}, Mod S a b → (∀ c, c < w.heap.size → S c → v.own c) → w.heap.size ≤ a.heap.size → True := fun _ _ _ => trivial
          refine ⟨o1.ib, o1.mb, fun c hc => .inl ?_, ?_⟩
          · rcases hc with e | e | ⟨k, s', hk, hc⟩
            · exact hfp1 c (.inl e)
            · exact hfp1 c (.inr (.inl e))
            · exact hfp1 c (.inr (.inr ⟨k, s', fpl k s' hk, hc⟩))
          · have ma : Mod v.own w w3 := (o1.mod.on0 m2).on0 m3
            refine ((ma.on m4 fun c hc e => .inr (e.trans o1.mb)).on m5 fun c hc e => ?_).on m6 fun c hc e => .inl (e.trans o1.ib)
            have := (hs1.new c e).1
            omega
        · show Mine w.heap.size w6 rr ((bs.drop q.place).take (q1.place + x.length - q.place))
          rw [← hcat]
          have hnib : ∀ c, rr.a = some ⟨c, 0, none⟩ → ¬ c = v1.ib := fun c hc e => by
            have := hrn c hc
            have := hfp v1.ib (hfp1 _ hib1)
            omega
          rw [← List.map_append] at ho5
          exact ⟨ho5.mod m6 hnib, fun c hc => ⟨hrn c hc, Nat.lt_of_lt_of_le (OwnS.lt ho5 hc) m6.size⟩⟩
        · rintro c (e | e | ⟨k, s', hk, hc⟩)
          · exact hfp1 c (.inl e)
          · exact hfp1 c (.inr (.inl e))
          · exact hfp1 c (.inr (.inr ⟨k, s', fpl k s' hk, hc⟩))
        · rw [hl5, hsln]
          omega
    · have hge : ¬ (s.len : Int) < bs.length := of_decide_eq_false hc
      have he : q1.place = hi := by omega
      refine hkk _ _ ⟨v1, q1, hv1, hq1, he, hk1, o1, ?_, hfp1⟩
      rwa [he] at hs1
  · rintro s w1 ⟨v1, q1, hv1, hq1, he, hk1, o1, hs1, hfp1⟩
    rw [show v.ptr = v1.ptr by unfold IF.ptr; rw [o1.ib]]
    have hli := hq1.limit
    have hroom := hq1.room
    have hpl := hq1.place
    refine drw.mk fun w2 m2 => nn.mk ?_
    have hv2 := hv1.mod0 m2
    rw [add_at]
    refine ldI.mk hv2.box rfl (nn.mk ?_)
    rw [add_at]
    refine ldI.mk hv2.box rfl (nn.mk ?_)
    rw [add_at]
    refine ldI.mk hv2.box rfl (nn.mk ?_)
    rw [add_at]
    refine stV.mk hv2.box (by simp) fun w3 hB3 m3 => drw.mk fun w4 m4 => ?_
    have hv4 := (hv2.setBox (q' := { q1 with limit := if IntKind.i64.wrap ((q1.place : Int) + (q1.room : Int)) > q1.limit then IntKind.i64.wrap ((q1.place : Int) + (q1.room : Int)) else q1.limit }) hB3 rfl m3 rfl rfl).mod0 m4
    have hs4 : RdB w4 s ((bs.drop q.place).take (hi - q.place)) := ((hs1.mod0 m2).mod m3 fun c hc e => by
      have := (hs1.new c hc).1
      have := hfp v1.ib (hfp1 _ (.inl rfl))
      omega).own.rd.mod m4 fun _ _ _ h => h
    have hlm : ∀ x : Int, x = IntKind.i64.wrap ((q1.place : Int) + (q1.room : Int)) → (bs.length : Int) ≤ (if x > q1.limit then x else q1.limit) ∧ (if x > q1.limit then x else q1.limit) ≤ 4000000 := fun x hx => by
      have ew : IntKind.i64.wrap ((q1.place : Int) + (q1.room : Int)) = (q1.place : Int) + (q1.room : Int) := wrap_i64 (by omega) (by omega)
      rw [ew] at hx
      split <;> omega
    have fin := h s w4 v1 _ hv4 ⟨hq1.room, hq1.len, hq1.place, hq1.cont, hlm _ rfl, hq1.reach, hq1.fin⟩ he hk1
      (((o1.mod0 m2).trans ⟨rfl, rfl, fun c h => .inl h, m3.weaken fun c _ e => .inl e⟩).mod0 m4) hs4
    refine jn_in (nn.mk ?_)
    rw [add_at]
    refine ldB.mk hv4.box rfl ⟨fun hk => nn.mk ?_, fun hk => ?_⟩
    · rw [add_at]
      refine ldI.mk hv4.box rfl (nn.mk ?_)
      rw [add_at]
      refine ldI.mk hv4.box rfl ?_
      have hk : q1.known = true := hk
      have hf := hq1.fin hk
      rw [← hk1, hk, Bool.true_and] at fin
      have e : (((q1.place : Nat) : Int) == q1.fin) = decide (hi = bs.length) := by
        rw [hf, he]
        by_cases hx : hi = bs.length
        · simp [hx]
        · have : ¬ (hi : Int) = (bs.length : Int) := by omega
          simp [hx, this]
      rw [← e] at fin
      exact fin
    · have hk : q1.known = false := hk
      rw [← hk1, hk, Bool.false_and] at fin
      exact fin
end Go.Proofs.Ytfgodebgjemljaa
