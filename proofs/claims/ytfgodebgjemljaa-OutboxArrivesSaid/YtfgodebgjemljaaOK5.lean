/-
  Inbox: Put and Read.
-/
import Derived.Test.YtfgodebgjemljaaOJ5
namespace Go.Proofs.Ytfgodebgjemljaa
open Go Go.Sh
set_option linter.unusedVariables false
set_option linter.unusedSimpArgs false

variable {w w' : World} {v : IF} {q : InS} {bs : List UInt8} {hi : Nat}

theorem InAt.look (h : InAt w v q) (k : Int) : (lookP v.l k).isSome = (pcs q.segs q.place k).isSome := by
  have := h.pc k
  cases h1 : lookP v.l k <;> cases h2 : pcs q.segs q.place k <;> rw [h1, h2] at this <;> first | rfl | exact this.elim
theorem InAt.some (h : InAt w v q) {k : Int} {x : List UInt8} (hp : pcs q.segs q.place k = some x) : ∃ s, lookP v.l k = some s ∧ Mine 0 w s x := by
  have := h.pc k
  rw [hp] at this
  cases h1 : lookP v.l k with
  | none => rw [h1] at this; exact this.elim
  | some s => rw [h1] at this; exact ⟨s, rfl, this⟩

theorem take_join {a b c : Nat} (h1 : a ≤ b) (h2 : b ≤ c) (h3 : c ≤ bs.length) : (bs.drop a).take (b - a) ++ (bs.drop b).take (c - b) = (bs.drop a).take (c - a) := by
  have e : bs.drop b = (bs.drop a).drop (b - a) := by rw [List.drop_drop]; congr 1; omega
  rw [e, show c - a = (b - a) + (c - b) by omega, List.take_add]

/-! ### 1. A part of a piece is laid -/

theorem up_no {A t : Int} {b47 : Nat} {c1 c2 c3 : Option Addr} {K : World → Prop} (B : Blk w b47 [iv A] 3) (ht : t ≤ A) (h : K w) : C44 t (some ⟨b47, 0, none⟩) c1 c2 c3 w K := by
  refine br44 ?_
  unfold sh44
  exact nn.mk (ldI.mk B rfl (ifM.f (by simp; omega) h))

theorem up_yes {x : Slc} {b t n b47 b7 b5 b3 : Nat} {K : World → Prop} (hv : InAt w v q) (hq : InQ bs q hi) (hb : b ≤ hi) (ht : hi < t) (ht2 : t ≤ bs.length) (B47 : Blk w b47 [iv hi] 3) (B7 : Blk w b7 [x.v] 22) (B5 : Blk w b5 [iv b] 3) (B3 : Blk w b3 [.pointer v.ptr] 58)
    (hx : Mine n w x ((bs.drop b).take (t - b))) (h : ∀ w' v' q', InAt w' v' q' → InQ bs q' t → q'.known = q.known → q'.place = q.place → ITo w v w' v' → K w') :
    C44 t (some ⟨b47, 0, none⟩) (some ⟨b7, 0, none⟩) (some ⟨b5, 0, none⟩) (some ⟨b3, 0, none⟩) w K := by
  refine br44 ?_
  unfold sh44
  have hlen := hq.len
  have hxl := hx.len
  rw [List.length_take, List.length_drop] at hxl
  refine nn.mk (ldI.mk B47 rfl (ifM.t (by simp; omega) (drw.mk fun w1 m1 => nn.mk (ldP.mk (B3.mod0 m1) rfl (nn.mk ?_)))))
  have hv1 := hv.mod0 m1
  rw [add_at]
  refine ldM.mk hv1.box rfl (nn.mk (ldI.mk (B47.mod0 m1) rfl (nn.mk (ldL.mk (B7.mod0 m1) rfl (nn.mk (ldI.mk (B47.mod0 m1) rfl (nn.mk (ldI.mk (B5.mod0 m1) rfl (nn.mk (ldI.mk (B5.mod0 m1) rfl ?_))))))))))
  have e1 : IntKind.i64.wrap ((hi : Int) - b) = ((hi - b : Nat) : Int) := by rw [wrap_i64 (by omega) (by omega)]; omega
  have e2 : IntKind.i64.wrap ((t : Int) - b) = ((t - b : Nat) : Int) := by rw [wrap_i64 (by omega) (by omega)]; omega
  rw [e1, e2]
  have hcap := hx.cap
  refine ⟨by omega, by omega, by omega, ?_⟩
  have hsub : RdB w1 (x.sub 1 (hi - b) (t - b) x.cap) ((bs.drop hi).take (t - hi)) := by
    have := RdS.sub (lo := hi - b) (hi := t - b) (hx.mod0 m1).own.rd (by omega) (by omega) (by omega)
    simp only [Nat.mul_one, ← List.map_drop, ← List.map_take] at this
    have e : (((bs.drop b).take (t - b)).drop (hi - b)).take (t - b - (hi - b)) = (bs.drop hi).take (t - hi) := by
      rw [List.drop_take, List.drop_drop, show b + (hi - b) = hi by omega, List.take_take]
      congr 1
      omega
    rw [e] at this
    exact this
  refine bclone_spec hsub (by rw [List.length_take, List.length_drop]; omega) fun r w2 hr m2 => ?_
  have hv2 := hv1.mod0 m2
  have z1 := m1.size
  refine ⟨((B47.mod0 m1).mod0 m2).cell rfl, hv2.box.cell rfl, ((B3.mod0 m1).mod0 m2).cell rfl, ?_⟩
  have hflat := hq.flat
  have hpl := hq.place
  have hend : pcs q.segs q.place (hi : Int) = none := by
    have := pcs_end (p := q.place) hv.pos
    rwa [show q.place + q.segs.flatten.length = hi by omega] at this
  have hnone : lookP v.l (hi : Int) = none := by
    have := hv.look (hi : Int)
    rw [hend] at this
    cases h1 : lookP v.l (hi : Int) with
    | none => rfl
    | some s => rw [h1] at this; cases this
  obtain ⟨w3, hr3, hM3, m3⟩ := run_update_new (P := Try.prog) (T := 81) (E := 22) kInt Try.runUnderlying81 hv2.map (hi : Int) r hnone
  refine ⟨w3, hr3, ?_⟩
  have hrn : ∀ c, r.a = some ⟨c, 0, none⟩ → ¬ v.fp c := fun c hc e => by
    have := (hr.new c hc).1
    have := hv.lt c e
    omega
  refine h w3 { v with l := v.l ++ [((hi : Int), r, v.c)], c := v.c + 1 } { q with segs := q.segs ++ [(bs.drop hi).take (t - hi)] } ⟨?_, hM3, hv.ne, fun k => ?_, fun k s c hk hs => ?_, ?_⟩ ⟨hq.room, hq.len, ⟨by show q.place ≤ t; omega, ht2⟩, ?_, hq.limit, hq.reach, hq.fin⟩ rfl rfl ⟨rfl, rfl, ?_, ?_⟩
  · exact hv2.box.mod m3 hv.ne
  · rw [look_push (hi : Int) r v.c v.l k hnone]
    have := pcs_app (p := q.place) (y := (bs.drop hi).take (t - hi)) k hv.pos
    rw [show q.place + q.segs.flatten.length = hi by omega] at this
    show Pc w3 _ (pcs (q.segs ++ [(bs.drop hi).take (t - hi)]) q.place k)
    rw [this]
    by_cases hk : k = (hi : Int)
    · rw [if_pos hk, if_pos hk]
      have hrw : Mine w1.heap.size w3 r ((bs.drop hi).take (t - hi)) := hr.mod m3 fun c hc e => hrn c hc (.inr (.inl e))
      exact ⟨hrw.own, fun c hc => ⟨Nat.zero_le _, (hrw.new c hc).2⟩⟩
    · rw [if_neg hk, if_neg hk]
      exact (hv2.pc k).mod m3 fun s c h1 h2 => (hv.far k s c h1 h2).2
  · rw [look_push (hi : Int) r v.c v.l k hnone] at hk
    split at hk
    · have : r = s := by simpa using hk
      subst this
      exact ⟨fun e => hrn c hs (.inl e), fun e => hrn c hs (.inr (.inl e))⟩
    · exact hv.far k s c hk hs
  · intro y hy
    rcases List.mem_append.1 hy with hy | hy
    · exact hv.pos y hy
    · have : y = (bs.drop hi).take (t - hi) := by simpa using hy
      subst this
      intro e
      have := congrArg List.length e
      rw [List.length_take, List.length_drop] at this
      simp at this
      omega
  · show (q.segs ++ [(bs.drop hi).take (t - hi)]).flatten = _
    rw [List.flatten_append, hq.cont]
    simp only [List.flatten_cons, List.flatten_nil, List.append_nil]
    exact take_join hpl.1 (by omega) ht2
  · rintro c (e | e | ⟨k, s, hk, hs⟩)
    · exact .inl (.inl e)
    · exact .inl (.inr (.inl e))
    · have hk : lookP (v.l ++ [((hi : Int), r, v.c)]) k = some s := hk
      rw [look_push (hi : Int) r v.c v.l k hnone] at hk
      split at hk
      · have : r = s := by simpa using hk
        subst this
        have := (hr.new c hs).1
        exact .inr (by omega)
      · exact .inl (.inr (.inr ⟨k, s, hk, hs⟩))
  · exact ((m1.on0 m2).of0 (S := v.own)).on m3 fun c _ e => .inr e

/-! ### 2. Put -/

theorem own_ldI {s : Slc} {L : List Int} {i : Nat} {x : Int} {k : Int → Prop} (hs : OwnS w 3 1 s (L.map iv)) (hx : L[i]? = some x) (hk : k x) : idx 1 s (i : Int) fun p => ldI .i64 p w k := by
  obtain ⟨h1, h2⟩ := hs
  have hin : i < L.length := (List.getElem?_eq_some_iff.1 hx).1
  simp only [List.length_map, Nat.mul_one] at h1
  rcases h2 with rfl | ⟨b, rest, ha, hB, _, _⟩
  · have : L.length = 0 := h1
    omega
  · obtain ⟨sa, sn, sc⟩ := s
    simp only at ha h1
    subst ha h1
    refine idx.mk (by omega) (by omega) (ldI.mk hB ?_ hk)
    simp only [Int.toNat_natCast, Nat.mul_one, Nat.zero_add]
    rw [List.getElem?_append_left (by simpa using hin), List.getElem?_map, hx]
    rfl

set_option maxHeartbeats 2000000 in
theorem put_spec {x : Slc} {b t n : Nat} {pf : Bool} {K : Int → World → Prop} (hv : InAt w v q) (hq : InQ bs q hi) (hb : b ≤ hi) (hbt : b ≤ t) (ht : t ≤ bs.length) (hpf : pf = true → t = bs.length) (hx : Mine n w x ((bs.drop b).take (t - b))) (hxf : ∀ c, x.a = some ⟨c, 0, none⟩ → ¬ v.fp c)
    (h : ∀ w' v' q', InAt w' v' q' → InQ bs q' (max hi t) → q'.known = (q.known || pf) → q'.place = q.place → ITo w v w' v' → K 0 w') : C25 v.ptr b x pf w K := by
  refine br25 ?_
  unfold sh25
  have hlen := hq.len
  have hpl := hq.place
  have hxl := hx.len
  rw [List.length_take, List.length_drop] at hxl
  refine newV.mk fun b3 w1 h3 B3 m1 => newV.mk fun b5 w2 h5 B5 m2 => newV.mk fun b7 w3 h7 B7 m3 => ?_
  have z1 := m1.size
  have z2 := m2.size
  have z3 := m3.size
  have l3 := B3.lt
  have l5 := B5.lt
  have l7 := B7.lt
  have m03 := (m1.on0 m2).on0 m3
  have B3 := (B3.mod0 m2).mod0 m3
  have B5 := B5.mod0 m3
  have hv3 := hv.mod0 m03
  have hfp := hv.lt
  have eE : IntKind.i64.wrap ((b : Int) + ((x.len : Nat) : Int)) = t := by rw [wrap_i64 (by omega) (by omega)]; omega
  refine jn_in (ldP.mk B3 rfl (inone_spec hv3 (ifM.f rfl (jn_in (ldI.mk B5 rfl (ifM.f (by simp) (ldI.mk B5 rfl (ldL.mk B7 rfl ?_))))))))
  rw [wrap_i64 (x := 4611686018427387903 - ((x.len : Nat) : Int)) (by omega) (by omega)]
  refine ifM.f (by simp; omega) (ldI.mk B5 rfl (ldL.mk B7 rfl ?_))
  rw [eE]
  refine jn_in (ldP.mk B3 rfl (ends_spec hv3 hq ht hpf (ifM.f rfl (drw.mk fun w4 m4 => ldP.mk (B3.mod0 m4) rfl (ldP.mk (B3.mod0 m4) rfl (nn.mk ?_))))))
  have hv4 := hv3.mod0 m4
  have B3 := B3.mod0 m4
  have B5 := B5.mod0 m4
  have B7 := B7.mod0 m4
  have m04 := m03.on0 m4
  rw [add_at]
  refine ldI.mk hv4.box rfl (nn.mk ?_)
  rw [add_at]
  have z4 := m4.size
  have nib : ∀ {c : Nat}, w.heap.size ≤ c → ¬ c = v.ib := fun hc e => by have := hfp v.ib (.inl rfl); omega
  refine stV.mk hv4.box (by simp) fun w5 Bo5 m5 => ?_
  have hre := hq.reach
  have hv5 := hv4.setBox (q' := { q with reach := if (t : Int) > q.reach then (t : Int) else q.reach }) Bo5 rfl m5 rfl rfl
  have o5 : ITo w v w5 v := (ITo.of0 m04).trans ⟨rfl, rfl, fun c h => .inl h, m5.weaken fun c _ e => .inl e⟩
  have B3 := B3.mod m5 (nib (by omega))
  have B5 := B5.mod m5 (nib (by omega))
  have B7 := B7.mod m5 (nib (by omega))
  have hq5 : InQ bs { q with reach := if (t : Int) > q.reach then (t : Int) else q.reach } hi := ⟨hq.room, hq.len, hq.place, hq.cont, hq.limit, ⟨by show (0 : Int) ≤ if _ then _ else _; split <;> omega, by show (if _ then _ else _ : Int) ≤ _; split <;> omega⟩, hq.fin⟩
  generalize hqq : ({ q with reach := if (t : Int) > q.reach then (t : Int) else q.reach } : InS) = q5 at hv5 hq5
  have qk : q5.known = q.known := by rw [← hqq]
  have qp : q5.place = q.place := by rw [← hqq]
  -- the last one
  refine jn.mk (fun _ w' => ∃ q6, InAt w' v q6 ∧ InQ bs q6 hi ∧ q6.known = (q.known || pf) ∧ q6.place = q.place ∧ ITo w v w' v ∧ Blk w' b3 [.pointer v.ptr] 58 ∧ Blk w' b5 [iv b] 3 ∧ Blk w' b7 [x.v] 22) ?_ ?_
  · intro kk hkk
    refine ⟨fun hc => drw.mk fun w6 m6 => ldP.mk (B3.mod0 m6) rfl (ldP.mk (B3.mod0 m6) rfl (nn.mk ?_)), fun hc => hkk _ _ ⟨q5, hv5, hq5, by rw [hc, Bool.or_false, qk], qp, o5, B3, B5, B7⟩⟩
    have hv6 := hv5.mod0 m6
    have B3 := B3.mod0 m6
    have B5 := B5.mod0 m6
    have B7 := B7.mod0 m6
    rw [add_at]
    refine stV.mk hv6.box (by simp) fun w7 Bo7 m7 => ?_
    have B3 := B3.mod m7 (nib (by omega))
    refine ⟨B3.cell rfl, nn.mk ?_⟩
    rw [add_at]
    refine stV.mk Bo7 (by simp) fun w8 Bo8 m8 => ?_
    have m68 : Mod (· = v.ib) w6 w8 := m7.on m8 fun _ _ e => e
    have hv8 := hv6.setBox (q' := { q5 with known := true, fin := t }) Bo8 rfl m68 rfl rfl
    refine hkk _ _ ⟨_, hv8, ⟨hq5.room, hq5.len, hq5.place, hq5.cont, hq5.limit, hq5.reach, fun _ => ?_⟩, by rw [hc, Bool.or_true], qp, (o5.mod0 m6).trans ⟨rfl, rfl, fun c h => .inl h, m68.weaken fun c _ e => .inl e⟩, B3.mod m8 (nib (by omega)), B5.mod m68 (nib (by omega)), B7.mod m68 (nib (by omega))⟩
    show (t : Int) = _
    rw [hpf hc]
  · rintro _ w6 ⟨q6, hv6, hq6, k6, p6, o6, B3, B5, B7⟩
    have l36 := B3.lt
    have l56 := B5.lt
    have l76 := B7.lt
    have hx6 : Mine n w6 x ((bs.drop b).take (t - b)) := hx.mod o6.mod fun c hc e => hxf c hc (e.elim .inl fun e => .inr (.inl e))
    refine drw.mk fun w7 m7 => ldI.mk (B5.mod0 m7) rfl (ldP.mk (B3.mod0 m7) rfl (nn.mk ?_))
    have hv7 := hv6.mod0 m7
    rw [add_at]
    refine ldI.mk hv7.box rfl (newV.mk fun b47 w8 h47 B47 m8 => ⟨(hv7.mod0 m8).box.cell rfl, ((B3.mod0 m7).mod0 m8).cell rfl, ((B5.mod0 m7).mod0 m8).cell rfl, stV.mk B47 (by simp) fun w9 B47 m9 => ?_⟩)
    have z6 := o6.mod.size
    have l479 := B47.lt
    have z7 := m7.size
    have z8 := m8.size
    have ne : ∀ {c : Nat}, c < w6.heap.size → ¬ c = b47 := fun hc e => by omega
    have m89 : Mod (· = b47) w6 w9 := (m7.on0 m8).of0.on m9 fun _ _ e => e
    have hv9 := hv6.new m89 (by omega)
    have lb : ∀ {c : Nat} {cs : List Value} {T : TypeId}, Blk w6 c cs T → Blk w9 c cs T := fun hB => hB.mod m89 (ne hB.lt)
    have o9 : ITo w v w9 v := o6.trans ((ITo.of0 (m7.on0 m8)).onNew m9 (by omega))
    have B3 := lb B3
    have B5 := lb B5
    have B7 := lb B7
    have hx9 : Mine n w9 x ((bs.drop b).take (t - b)) := hx6.mod m89 fun c hc e => ne (hx6.new c hc).2 e
    have hflat := hq6.flat
    have hpos := hv6.pos
    -- what comes behind the loop
    refine jn.mk (fun _ w' => ∃ A : Nat, InAt w' v q6 ∧ ITo w v w' v ∧ Blk w' b3 [.pointer v.ptr] 58 ∧ Blk w' b5 [iv b] 3 ∧ Blk w' b7 [x.v] 22 ∧ Blk w' b47 [iv A] 3 ∧ Mine n w' x ((bs.drop b).take (t - b)) ∧ ((t ≤ A ∧ t ≤ hi) ∨ (A = hi ∧ hi < t))) ?_ ?_
    · intro kj hkj
      have hMl : v.l.length < 1000000000 := by
        have h1 : (v.l.map (·.1)).Perm (stOf q6.segs q6.place) := (List.perm_ext_iff_of_nodup hv9.map.keys ((stOf_lt hpos).1.imp fun h e => by omega)).2 fun k => by
          rw [← look_mem, mem_stOf, hv9.look k]
        have h2 := h1.length_eq
        have h3 := flat_len hpos
        rw [List.length_map, stOf_len] at h2
        omega
      refine ldP.mk B3 rfl (starts_spec hv9.box rfl hv9.map hMl fun r w10 L hL hin hlt hrb m10 => ?_)
      have eL : L = stOf q6.segs q6.place := by
        refine List.Perm.eq_of_pairwise (le := (· < ·)) (fun a b _ _ h1 h2 => by omega) hlt (stOf_lt hpos).1 ((List.perm_ext_iff_of_nodup (hlt.imp fun h e => by omega) ((stOf_lt hpos).1.imp fun h e => by omega)).2 fun k => ?_)
        rw [hin k, mem_stOf, hv9.look k]
      subst eL
      have hrl : (r.len : Int) = q6.segs.length := by
        have := hL.1
        rw [List.length_map, stOf_len] at this
        omega
      have z9 := m9.size
      obtain ⟨st, hst⟩ : ∃ st : Nat → Nat, st = fun i => q6.place + (q6.segs.take i).flatten.length := ⟨_, rfl⟩
      have st0 : st 0 = q6.place := by simp [hst]
      have stn : st q6.segs.length = hi := by simp only [hst, List.take_length]; have := hq6.place; omega
      have stS : ∀ (i : Nat) (hi' : i < q6.segs.length), st (i + 1) = st i + (q6.segs[i]).length := fun i hi' => by
        simp only [hst]
        rw [List.take_succ_eq_append_getElem hi', List.flatten_append]
        simp
        omega
      have stle : ∀ i, st i ≤ hi := fun i => by
        have h1 : (q6.segs.take i).flatten.length + (q6.segs.drop i).flatten.length = q6.segs.flatten.length := by
          rw [← List.length_append, ← List.flatten_append, List.take_append_drop]
        have := hq6.place
        simp only [hst]
        omega
      have e9 : (if (q6.place : Int) > (b : Int) then (q6.place : Int) else (b : Int)) = ((max b (st 0) : Nat) : Int) := by
        rw [st0]
        split <;> omega
      have B47 : Blk w10 b47 [iv ((max b (st 0) : Nat) : Int)] 3 := by
        have := B47.mod0 m10
        simp only [e9] at this
        exact this
      refine Lp.inv (fun (a : Int) w' => ∃ i : Nat, a = (i : Int) ∧ i ≤ q6.segs.length ∧ Blk w' b47 [iv ((max b (st i) : Nat) : Int)] 3 ∧ Mod (· = b47) w10 w') (fun a _ => (q6.segs.length - a).toNat) ⟨0, rfl, Nat.zero_le _, B47, Mod.refl _ _⟩ ?_
      rintro _ w11 ⟨i, rfl, hi', B47, m11⟩
      have z10 := m10.size
      have l47 := B47.lt
      have m911 : Mod (· = b47) w9 w11 := m10.of0.on m11 fun _ _ e => e
      have hb47 : ¬ v.fp b47 := fun e => by have := hfp b47 e; omega
      have hv11 := hv9.other m911 hb47
      have B3' := B3.mod m911 (by omega)
      have B5' := B5.mod m911 (by omega)
      have B7' := B7.mod m911 (by omega)
      have o11 : ITo w v w11 v := o9.onNew m911 (by omega)
      have hx11 : Mine n w11 x ((bs.drop b).take (t - b)) := hx9.mod m911 fun c hc e => by have := (hx6.new c hc).2; omega
      rw [hrl]
      refine jn_in ?_
      rcases Nat.lt_or_eq_of_le hi' with hlt' | heq
      · refine ifM.t (by simp; omega) (jn_in ?_)
        have hL11 : OwnS w11 3 1 r ((stOf q6.segs q6.place).map iv) := hL.mod m11 fun c hc e => by have := hrb c hc; omega
        have hget := stOf_get (p := q6.place) hlt'
        have hpg := pcs_get (p := q6.place) hlt' hpos
        rw [show ((q6.place + (q6.segs.take i).flatten.length : Nat) : Int) = ((st i : Nat) : Int) by rw [hst]] at hget hpg
        obtain ⟨sl, hsl, hsm⟩ := hv11.some hpg
        refine own_ldI hL11 hget (ldP.mk B3' rfl (nn.mk ?_))
        rw [add_at]
        refine ldM.mk hv11.box rfl ?_
        have hlook := run_lookup1 (P := Try.prog) kInt (ve := Slc.v) (T := 81) (E := 22) (z := Slc.nil) Try.runUnderlying81 Try.zeroValue22 hv11.map.at (st i : Int)
        rw [hsl] at hlook
        refine ⟨sl, hlook, ?_⟩
        have hsll : sl.len = (q6.segs[i]).length := hsm.len
        have hS := stS i hlt'
        have hle := stle (i + 1)
        have hle0 := stle i
        have hx0 : 0 < (q6.segs[i]).length := List.length_pos_iff.2 (hpos _ (List.getElem_mem hlt'))
        have eo : IntKind.i64.wrap ((st i : Int) + ((sl.len : Nat) : Int)) = ((st (i + 1) : Nat) : Int) := by rw [wrap_i64 (by omega) (by omega)]; omega
        rw [eo]
        have next : ∀ w', Blk w' b47 [iv ((max b (st (i + 1)) : Nat) : Int)] 3 → Mod (· = b47) w11 w' → (∃ i' : Nat, IntKind.i64.wrap ((i : Int) + 1) = (i' : Int) ∧ i' ≤ q6.segs.length ∧ Blk w' b47 [iv ((max b (st i') : Nat) : Int)] 3 ∧ Mod (· = b47) w10 w') ∧ ((q6.segs.length : Int) - IntKind.i64.wrap ((i : Int) + 1)).toNat < ((q6.segs.length : Int) - (i : Int)).toNat := fun w' hB hm => by
          have e : IntKind.i64.wrap ((i : Int) + 1) = ((i + 1 : Nat) : Int) := by
            have := flat_len hpos
            have := hq6.place
            rw [wrap_i64 (by omega) (by omega)]
            omega
          rw [e]
          exact ⟨⟨i + 1, rfl, hlt', hB, m11.on hm fun _ _ e => e⟩, by omega⟩
        refine jn_in (ldI.mk B47 rfl ⟨fun hc => ?_, fun hc => jn_in ?_⟩)
        · have hle1 : (st (i + 1) : Int) ≤ ((max b (st i) : Nat) : Int) := of_decide_eq_true hc
          refine next w11 ?_ (Mod.refl _ _)
          rw [show max b (st (i + 1)) = max b (st i) by omega]
          exact B47
        · have hgt : ¬ (st (i + 1) : Int) ≤ ((max b (st i) : Nat) : Int) := of_decide_eq_false hc
          refine ⟨fun hc2 => ?_, fun hc2 => ?_⟩
          · have hge : (st i : Int) ≥ (t : Int) := of_decide_eq_true hc2
            exact hkj _ _ ⟨max b (st i), hv11, o11, B3', B5', B7', B47, hx11, .inl ⟨by omega, by omega⟩⟩
          · refine ⟨_, _, _, rfl, fun args w => rfl, ?_⟩
            show C44 (st i : Int) (some ⟨b47, 0, none⟩) (some ⟨b7, 0, none⟩) (some ⟨b5, 0, none⟩) (some ⟨b3, 0, none⟩) w11 _
            refine up_no B47 (by omega) (ldI.mk B47 rfl (stV.mk B47 (by simp) fun w12 B47 m12 => ?_))
            refine next w12 ?_ m12
            have e : (if ((st (i + 1) : Nat) : Int) > ((max b (st i) : Nat) : Int) then ((st (i + 1) : Nat) : Int) else ((max b (st i) : Nat) : Int)) = ((max b (st (i + 1)) : Nat) : Int) := by split <;> omega
            simp only [e] at B47
            exact B47
      · subst heq
        rw [stn] at B47
        rw [show max b hi = hi by omega] at B47
        refine ifM.f (by simp) (hkj _ _ ⟨hi, hv11, o11, B3', B5', B7', B47, hx11, ?_⟩)
        omega
    · rintro _ w10 ⟨A, hv10, o10, B3, B5, B7, B47, hx10, hA⟩
      refine ⟨_, _, _, rfl, fun args w => rfl, ?_⟩
      show C44 (t : Int) (some ⟨b47, 0, none⟩) (some ⟨b7, 0, none⟩) (some ⟨b5, 0, none⟩) (some ⟨b3, 0, none⟩) w10 _
      rcases hA with ⟨h1, h2⟩ | ⟨rfl, h2⟩
      · refine up_no B47 (by omega) (h w10 v q6 hv10 ?_ k6 p6 o10)
        rwa [show max hi t = hi by omega]
      · refine up_yes hv10 hq6 hb h2 ht B47 B7 B5 B3 hx10 fun w11 v' q' hv' hq' hk' hp' o' => h w11 v' q' hv' ?_ (hk'.trans k6) (hp'.trans p6) (o10.trans o')
        rwa [show max A t = t by omega]
end Go.Proofs.Ytfgodebgjemljaa
