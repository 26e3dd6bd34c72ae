/-
  Outbox: a box in memory; what is due.
-/
import Derived.Test.YtfgodebgjemljaaOA5
import Derived.Below
namespace Go.Proofs.Ytfgodebgjemljaa
open Go Go.Sh
set_option linter.unusedVariables false
set_option linter.unusedSimpArgs false

structure OF where
  ob : Nat
  gb : Nat
  hb : Nat
  kp : Slc
  gs : Slc
  hs : Slc

structure St where
  room : Int
  base : Int
  sent : Int
  fin : Int
  kept : List UInt8
  g : Option (Int × Int)
  h : Option (Int × Int)

abbrev bcells (v : OF) (z : St) : List Value := [.int .i64 z.room, .int .i64 z.base, v.kp.v, .int .i64 z.sent, .pointer (some ⟨v.gb, 0, none⟩), .pointer (some ⟨v.hb, 0, none⟩), .int .i64 z.fin]

structure BoxAt (w : World) (v : OF) (z : St) : Prop where
  box : Blk w v.ob (bcells v z) 70
  kept : OwnS w 5 1 v.kp (z.kept.map u8)
  gone : SetAt w v.gb v.gs z.g
  here : SetAt w v.hb v.hs z.h
  d1 : ¬ sfp v.gb v.gs v.ob
  d2 : ¬ sfp v.hb v.hs v.ob
  d3 : v.kp.a ≠ some ⟨v.ob, 0, none⟩
  d4 : ∀ b, sfp v.gb v.gs b → ¬ sfp v.hb v.hs b
  d5 : ∀ b, v.kp.a = some ⟨b, 0, none⟩ → ¬ sfp v.gb v.gs b ∧ ¬ sfp v.hb v.hs b

/-- the blocks that the box's calls may turn -/
def OF.fp (v : OF) (b : Nat) : Prop := b = v.ob ∨ sfp v.gb v.gs b ∨ sfp v.hb v.hs b ∨ v.kp.a = some ⟨b, 0, none⟩
def OF.ptr (v : OF) : Option Addr := some ⟨v.ob, 0, none⟩

/-- numbers of a box that may be -/
structure Nb (z : St) : Prop where
  base : 0 ≤ z.base ∧ z.base ≤ 4000000
  kept : z.kept.length ≤ 4000000
  sent : 0 ≤ z.sent ∧ z.sent ≤ 8000000
  room : 0 ≤ z.room ∧ z.room ≤ 1048576

variable {w w' : World} {v : OF} {z : St}

theorem BoxAt.lt (h : BoxAt w v z) : ∀ b, v.fp b → b < w.heap.size := by
  rintro b (rfl | hb | hb | hb)
  · exact h.box.lt
  · exact h.gone.lt b hb
  · exact h.here.lt b hb
  · exact OwnS.lt h.kept hb
theorem BoxAt.mod {S : Nat → Prop} (h : BoxAt w v z) (hm : Mod S w w') (hs : ∀ b, v.fp b → ¬ S b) : BoxAt w' v z :=
  { h with box := h.box.mod hm (hs _ (.inl rfl)), kept := h.kept.mod hm fun b hb => hs b (.inr (.inr (.inr hb))), gone := h.gone.mod hm fun b hb => hs b (.inr (.inl hb)), here := h.here.mod hm fun b hb => hs b (.inr (.inr (.inl hb))) }
theorem BoxAt.mod0 (h : BoxAt w v z) (hm : Mod No w w') : BoxAt w' v z := h.mod hm fun _ _ h => h
theorem BoxAt.old {n : Nat} {S : Nat → Prop} (h : BoxAt w v z) (hm : Mod S w w') (hs : ∀ b, S b → w.heap.size ≤ b) : BoxAt w' v z := h.mod hm fun b hb e => by
  have := h.lt b hb
  have := hs b e
  omega
theorem BoxAt.klen (h : BoxAt w v z) : (v.kp.len : Int) = z.kept.length := by
  have := h.kept.1
  simp at this
  omega
theorem BoxAt.kcap (h : BoxAt w v z) : v.kp.len ≤ v.kp.cap := by rcases h.kept.2 with e | ⟨_, _, _, _, _, h⟩ <;> simp_all

theorem onone_spec {K : Bool → World → Prop} (hv : BoxAt w v z) (h : K false w) : C28 v.ptr w K := by
  refine br28 ?_
  unfold sh28
  refine jn_in (ifM.f rfl (nn.mk ?_))
  rw [add_at]
  exact ldP.mk hv.box rfl h

def St.written (z : St) : Int := z.base + z.kept.length

theorem written_spec {K : Int → World → Prop} (hv : BoxAt w v z) (hb : Nb z) (h : ∀ w', Mod No w w' → K z.written w') : C32 v.ptr w K := by
  refine br32 ?_
  unfold sh32
  refine drw.mk fun w1 hm1 => nn.mk ?_
  have hv1 := hv.mod0 hm1
  rw [add_at]
  refine ldI.mk hv1.box rfl (nn.mk ?_)
  rw [add_at]
  refine ldL.mk hv1.box rfl ?_
  have b1 := hb.base
  have b2 := hb.kept
  rw [hv1.klen, wrap_i64 (by omega) (by omega)]
  exact h w1 hm1

/-! ### What is due -/

def dueB (z : St) (most limit : Int) : Int × Int × Bool :=
  if most < 0 then (0, 0, false) else
  match z.g with
  | some p => (p.1, duTo most p.1 p.2, decide (duTo most p.1 p.2 > p.1))
  | none => if z.sent < z.written then
      (if z.sent ≥ limit then (0, 0, false) else
        let to := z.sent + (if (if limit < z.written then limit else z.written) - z.sent < most then (if limit < z.written then limit else z.written) - z.sent else most)
        (z.sent, to, decide (to > z.sent)))
    else (z.sent, z.sent, (z.fin == 1) || (z.fin == 3))

theorem blk_ne {b D : Nat} {cs : List Value} {T : TypeId} (hB : Blk w b cs T) (hD : w.heap[D]? = some (.deferred (some []))) : b ≠ D := fun e => by
  obtain ⟨fz, hb, _⟩ := hB
  rw [e, hD] at hb
  cases hb

theorem due_end {D b9 b11 b13 : Nat} {f t : Int} {o : Bool} {K : Int → Int → Bool → World → Prop} (hD : w.heap[D]? = some (.deferred (some []))) (B9 : Blk w b9 [.int .i64 f] 3) (B11 : Blk w b11 [.int .i64 t] 3) (B13 : Blk w b13 [.bool o] 4)
    (h : ∀ w', Mod (· = D) w w' → K f t o w') : rtD D w fun w' => ldI .i64 ⟨b9, 0, none⟩ w' fun x => ldI .i64 ⟨b11, 0, none⟩ w' fun y => ldB ⟨b13, 0, none⟩ w' fun u => K x y u w' := by
  have hm : Mod (· = D) w (w.putObj D (.deferred none)) := ⟨rfl, rfl, rfl, by simp, fun b hb hn => World.putObj_heap_other hn⟩
  exact ⟨hD, ldI.mk (B9.mod hm (blk_ne B9 hD)) rfl (ldI.mk (B11.mod hm (blk_ne B11 hD)) rfl (ldB.mk (B13.mod hm (blk_ne B13 hD)) rfl (h _ hm)))⟩

theorem fits_spec {b3 b7 : Nat} {limit : Int} {K : Int → World → Prop} (hv : BoxAt w v z) (hb : Nb z) (B3 : Blk w b3 [.pointer v.ptr] 23) (B7 : Blk w b7 [.int .i64 limit] 3)
    (h : ∀ w', Mod No w w' → K (if limit < z.written then limit else z.written) w') : C48 (some ⟨b3, 0, none⟩) (some ⟨b7, 0, none⟩) w K := by
  refine br48 ?_
  unfold sh48
  refine drw.mk fun w1 hm1 => nn.mk (ldP.mk (B3.mod0 hm1) rfl (nn.mk (ldI.mk (B7.mod0 hm1) rfl ?_)))
  refine written_spec (hv.mod0 hm1) hb fun w2 hm2 => ⟨((B7.mod0 hm1).mod0 hm2).cell rfl, h w2 (hm1.on0 hm2)⟩

theorem it_of {a0 : Value} {c0 : Option Addr} {W : World} {R : World → Prop} (h : C55 a0 c0 W R) : CallsV Try.prog 55 #[a0, .pointer c0] W fun _ w' => R w' := CallsV.mono h fun v w' h => h.2

set_option maxHeartbeats 1000000 in
theorem due_spec {most limit : Int} {K : Int → Int → Bool → World → Prop} (hv : BoxAt w v z) (hb : Nb z) (hmost : most ≤ 4611686018427387903) (hlim : -4611686018427387904 ≤ limit ∧ limit ≤ 4611686018427387903)
    (h : ∀ w', Mod No w w' → K (dueB z most limit).1 (dueB z most limit).2.1 (dueB z most limit).2.2 w') : C29 v.ptr most limit w K := by
  refine br29 ?_
  unfold sh29
  refine newV.mk fun b3 w1 h3 B3 m1 => newV.mk fun b5 w2 h5 B5 m2 => newV.mk fun b7 w3 h7 B7 m3 => newV.mk fun b9 w4 h9 B9 m4 => newV.mk fun b11 w5 h11 B11 m5 => newV.mk fun b13 w6 h13 B13 m6 => ?_
  have hfp := hv.lt
  have z1 := m1.size
  have z2 := m2.size
  have z3 := m3.size
  have z4 := m4.size
  have z5 := m5.size
  have z6 := m6.size
  have l3 := B3.lt
  have l5 := B5.lt
  have l7 := B7.lt
  have l9 := B9.lt
  have l11 := B11.lt
  have l13 := B13.lt
  have m06 : Mod No w w6 := ((((m1.on0 m2).on0 m3).on0 m4).on0 m5).on0 m6
  have B3 := ((((B3.mod0 m2).mod0 m3).mod0 m4).mod0 m5).mod0 m6
  have B5 := (((B5.mod0 m3).mod0 m4).mod0 m5).mod0 m6
  have B7 := ((B7.mod0 m4).mod0 m5).mod0 m6
  have B9 := (B9.mod0 m5).mod0 m6
  have B11 := B11.mod0 m6
  have hv6 := hv.mod0 m06
  refine jn_in (ldI.mk B5 rfl ⟨fun hc => ?_, fun hc => ?_⟩)
  · have hneg : most < 0 := of_decide_eq_true hc
    refine stV.mk B9 (by simp) fun w7 B9 m7 => ?_
    have B11 := B11.ne m7 (by omega)
    have B13 := B13.ne m7 (by omega)
    refine stV.mk B11 (by simp) fun w8 B11 m8 => ?_
    have B9 := B9.ne m8 (by omega)
    have B13 := B13.ne m8 (by omega)
    refine stV.mk B13 (by simp) fun w9 B13 m9 => ?_
    have B9 := B9.ne m9 (by omega)
    have B11 := B11.ne m9 (by omega)
    refine ldI.mk B9 rfl (ldI.mk B11 rfl (ldB.mk B13 rfl ?_))
    have := h w9 (((m06.onNew m7 (by omega)).onNew m8 (by omega)).onNew m9 (by omega))
    rwa [show dueB z most limit = (0, 0, false) from if_pos hneg] at this
  · have hnn : ¬ most < 0 := of_decide_eq_false hc
    refine ldP.mk B3 rfl (nn.mk ?_)
    rw [add_at]
    refine ldP.mk hv6.box rfl ?_
    refine br47 ?_
    unfold sh47
    refine newV.mk fun bs w7 hs7 Bs m7 => ?_
    have z7 := m7.size
    have ls := Bs.lt
    have B3 := B3.mod0 m7
    have B5 := B5.mod0 m7
    have B7 := B7.mod0 m7
    have B9 := B9.mod0 m7
    have B11 := B11.mod0 m7
    have B13 := B13.mod0 m7
    have hv7 := hv6.mod0 m7
    have m07 : Mod No w w7 := m06.on0 m7
    refine ⟨_, rfl, fun rec W hrec hW => ?_⟩
    have mW1 : Mod No w7 (w7.alloc (.deferred (some []))) := Mod.alloc ..
    have mW : Mod No w7 W := by rw [hW]; exact mW1.on0 (Mod.alloc ..)
    have hWl : W.heap[w7.heap.size + 1]? = some (.loop rec) := by
      rw [hW]
      have := World.alloc_heap_new (w7.alloc (.deferred (some []))) (.loop rec)
      rwa [World.size_alloc] at this
    have hWD : W.heap[w7.heap.size]? = some (.deferred (some [])) := by
      rw [hW]
      exact (RowKit.Below.heap_alloc _ _ _ (by simp)).trans (World.alloc_heap_new w7 _)
    have hWs : W.heap.size = w7.heap.size + 2 := by rw [hW]; simp
    refine it_of (br55 ?_)
    unfold sh55
    have hvW := hv7.mod0 mW
    have BsW := Bs.mod0 mW
    have dk : ∀ {S : Nat → Prop} {w w' : World} {b : Nat} {o : Obj}, Mod S w w' → w.heap[b]? = some o → ¬ S b → w'.heap[b]? = some o := fun hm h hs => (hm.blk _ (Array.getElem?_eq_some_iff.1 h).1 hs).trans h
    refine jn_in (nn.mk (ldP.mk BsW rfl (rnone_spec hvW.gone (ifM.f rfl ?_))))
    refine nn.mk (ldP.mk BsW rfl (nn.mk ?_))
    rw [add_at]
    refine ldL.mk hvW.gone.box rfl (cloneS_spec hvW.gone.sp fun r W1 hr mW1 => ?_)
    have hrl : r.len = spanN z.g := by
      have := hr.1
      rw [spanC_len] at this
      omega
    have m7W1 : Mod No w7 W1 := mW.on0 mW1
    have put : ∀ (w : World) (l : Nat) (o : Obj), Mod (· = l) w (w.putObj l o) := fun w l o => ⟨rfl, rfl, rfl, by simp, fun b hb hn => World.putObj_heap_other hn⟩
    have d7 := dueB z most limit
    cases hg : z.g with
    | some p =>
      rw [hg] at hr hrl
      have hr1 : (r.len : Int) = 1 := by rw [hrl]; rfl
      rw [hr1]
      refine Lp.unroll (jn_in (ifM.t (by decide) (jn_in (span_ld hr ?_))))
      refine newV.mk fun bx W2 hx2 Bx mW2 => stA.all Bx rfl rfl (by intro v hv; simp at hv; rcases hv with rfl | rfl <;> rfl) fun W3 Bx mW3 => ldA.all Bx rfl ?_
      have m7W3 : Mod No w7 W3 := (m7W1.on0 mW2).onNew mW3 (by have := m7W1.size; omega)
      have zW1 := m7W1.size
      have zW := mW1.size
      have hl3 : W3.heap[w7.heap.size + 1]? = some (.loop rec) := dk mW3 (dk mW2 (dk mW1 hWl fun h => h) fun h => h) (by omega)
      have hD3 : W3.heap[w7.heap.size]? = some (.deferred (some [])) := dk mW3 (dk mW2 (dk mW1 hWD fun h => h) fun h => h) (by omega)
      refine rf29_yield hrec hl3 (B5.mod0 m7W3) (B9.mod0 m7W3) (B11.mod0 m7W3) (B13.mod0 m7W3) (by omega) (by omega) (by omega) (by omega) (by omega) (by omega) fun W4 r4 hl4 hb4 hp4 C9 C11 C13 mW4 => ?_
      refine ifM.t rfl ?_
      have hD4 := dk mW4 hD3 (by omega)
      refine ⟨r4, hl4, hb4, .inr ⟨hp4, ?_⟩⟩
      have m5 := put W4 (w7.heap.size + 1) (.loop { r4 with state := .exhausted })
      generalize hW5 : W4.putObj (w7.heap.size + 1) (.loop { r4 with state := .exhausted }) = W5 at m5
      have C9 := C9.mod m5 (by omega)
      have C11 := C11.mod m5 (by omega)
      have C13 := C13.mod m5 (by omega)
      have hD5 := dk m5 hD4 (by omega)
      refine due_end hD5 C9 C11 C13 fun W6 m6' => ?_
      have := h W6 ((((m07.on m7W3 fun _ _ h => h).on mW4 fun c hc e => by rcases e with e | e | e | e <;> omega).on m5 fun c hc e => by omega).on m6' fun c hc e => by omega)
      rwa [show dueB z most limit = (p.1, duTo most p.1 p.2, decide (duTo most p.1 p.2 > p.1)) by unfold dueB; rw [if_neg hnn, hg]] at this
    | none =>
      rw [hg] at hr hrl
      have hr0 : (r.len : Int) = 0 := by rw [hrl]; rfl
      rw [hr0]
      refine Lp.unroll (jn_in (ifM.f (by decide) ?_))
      have hl1 := dk mW1 hWl fun h => h
      have hD1 := dk mW1 hWD fun h => h
      refine ⟨rec, hl1, by rw [hrec.state]; simp, .inl ⟨hrec.pend, ?_⟩⟩
      have m2' := put W1 (w7.heap.size + 1) (.loop { rec with state := .exhausted })
      generalize hW2 : W1.putObj (w7.heap.size + 1) (.loop { rec with state := .exhausted }) = W2 at m2'
      have hD2 := dk m2' hD1 (by omega)
      have m72 : Mod No w7 W2 := m7W1.on m2' fun c hc e => by omega
      have hlW1 : w7.heap.size + 2 ≤ W2.heap.size := by have := mW1.size; have := m2'.size; omega
      have B3 := B3.mod0 m72
      have B5 := B5.mod0 m72
      have B7 := B7.mod0 m72
      have B9 := B9.mod0 m72
      have B11 := B11.mod0 m72
      have B13 := B13.mod0 m72
      have hv2 := hv7.mod0 m72
      have m02 : Mod No w W2 := m07.on0 m72
      have c1 := hb.base
      have c2 := hb.kept
      have c3 := hb.sent
      have cw : z.written = z.base + z.kept.length := rfl
      refine jn_in (drw.mk fun W3 m3 => ldP.mk (B3.mod0 m3) rfl (nn.mk ?_))
      rw [add_at]
      refine ldI.mk (hv2.mod0 m3).box rfl (ldP.mk (B3.mod0 m3) rfl (written_spec (hv2.mod0 m3) hb fun W4 m4 => ?_))
      have m24 : Mod No W2 W4 := m3.on0 m4
      have hv4 := hv2.mod0 m24
      have B3 := B3.mod0 m24
      have B5 := B5.mod0 m24
      have B7 := B7.mod0 m24
      have B9 := B9.mod0 m24
      have B11 := B11.mod0 m24
      have B13 := B13.mod0 m24
      have hD4 := dk m24 hD2 fun h => h
      refine ⟨hv4.box.cell rfl, B3.cell rfl, ⟨fun hc => ?_, fun hc => ?_⟩⟩
      · have hlt : z.sent < z.written := of_decide_eq_true hc
        refine jn_in (drw.mk fun W5 m5 => ldP.mk (B3.mod0 m5) rfl (nn.mk ?_))
        rw [add_at]
        have hv5 := hv4.mod0 m5
        have B3 := B3.mod0 m5
        have B5 := B5.mod0 m5
        have B7 := B7.mod0 m5
        have B9 := B9.mod0 m5
        have B11 := B11.mod0 m5
        have B13 := B13.mod0 m5
        have hD5 := dk m5 hD4 fun h => h
        refine ldI.mk hv5.box rfl (ldI.mk B7 rfl ⟨fun hc => ?_, fun hc => ?_⟩)
        · have hge : z.sent ≥ limit := of_decide_eq_true hc
          refine stV.mk B9 (by simp) fun w7' B9 m7 => ?_
          have B11 := B11.ne m7 (by omega)
          have B13 := B13.ne m7 (by omega)
          have hD5 := dk m7 hD5 (by omega)
          refine stV.mk B11 (by simp) fun w8 B11 m8 => ?_
          have B9 := B9.ne m8 (by omega)
          have B13 := B13.ne m8 (by omega)
          have hD5 := dk m8 hD5 (by omega)
          refine stV.mk B13 (by simp) fun w9 B13 m9 => ?_
          have B9 := B9.ne m9 (by omega)
          have B11 := B11.ne m9 (by omega)
          have hD5 := dk m9 hD5 (by omega)
          refine due_end hD5 B9 B11 B13 fun W9 m9' => ?_
          have := h W9 ((((((m02.on0 m24).on0 m5).onNew m7 (by omega)).onNew m8 (by omega)).onNew m9 (by omega)).onNew m9' (by omega))
          rwa [show dueB z most limit = (0, 0, false) by unfold dueB; rw [if_neg hnn, hg]; simp only; rw [if_pos hlt, if_pos hge]] at this
        · have hge : ¬ z.sent ≥ limit := of_decide_eq_false hc
          refine drw.mk fun W6 m6' => ldP.mk (B3.mod0 m6') rfl (nn.mk ?_)
          rw [add_at]
          have hv6 := hv5.mod0 m6'
          have B3 := B3.mod0 m6'
          have B5 := B5.mod0 m6'
          have B7 := B7.mod0 m6'
          have B9 := B9.mod0 m6'
          have B11 := B11.mod0 m6'
          have B13 := B13.mod0 m6'
          have hD6 := dk m6' hD5 fun h => h
          refine ldI.mk hv6.box rfl (ldI.mk B5 rfl (ldP.mk B3 rfl (nn.mk ?_)))
          rw [add_at]
          refine ldI.mk hv6.box rfl ⟨_, _, _, rfl, fun args w => rfl, ?_⟩
          show C48 (some ⟨b3, 0, none⟩) (some ⟨b7, 0, none⟩) W6 _
          refine fits_spec hv6 hb B3 B7 fun W7 m7' => ?_
          have hv7 := hv6.mod0 m7'
          have B3 := B3.mod0 m7'
          have B5 := B5.mod0 m7'
          have B7 := B7.mod0 m7'
          have B9 := B9.mod0 m7'
          have B11 := B11.mod0 m7'
          have B13 := B13.mod0 m7'
          have hD7 := dk m7' hD6 fun h => h
          refine ⟨hv7.box.cell rfl, B3.cell rfl, B5.cell rfl, hv7.box.cell rfl, B3.cell rfl, ?_⟩
          generalize hF : (if limit < z.written then limit else z.written) = F
          have hFb : z.sent < F ∧ F ≤ z.written := by rw [← hF]; split <;> omega
          have eF : IntKind.i64.wrap (F - z.sent) = F - z.sent := wrap_i64 (by omega) (by omega)
          rw [eF]
          generalize hT : (if F - z.sent < most then F - z.sent else most) = T
          have hTb : 0 ≤ T ∧ T ≤ F - z.sent := by rw [← hT]; split <;> omega
          have eT : IntKind.i64.wrap (z.sent + T) = z.sent + T := wrap_i64 (by omega) (by omega)
          rw [eT]
          refine stV.mk B11 (by simp) fun W8 B11 m8 => drw.mk fun W9 m9 => ?_
          have hv9 := (hv7.mod m8 fun b hb e => by have := hfp b hb; omega).mod0 m9
          have B3 := (B3.ne m8 (by omega)).mod0 m9
          have B9 := (B9.ne m8 (by omega)).mod0 m9
          have B11 := B11.mod0 m9
          have B13 := (B13.ne m8 (by omega)).mod0 m9
          have hD9 := dk m9 (dk m8 hD7 (by omega)) fun h => h
          refine ldP.mk B3 rfl (nn.mk ?_)
          rw [add_at]
          refine ldI.mk hv9.box rfl (ldI.mk B11 rfl (ldI.mk B11 rfl (ldP.mk B3 rfl (nn.mk ?_))))
          rw [add_at]
          refine ldI.mk hv9.box rfl (stV.mk B9 (by simp) fun W10 B9 m10 => ?_)
          have hv10 := hv9.mod m10 fun b hb e => by have := hfp b hb; omega
          have B3 := B3.ne m10 (by omega)
          have B11 := B11.ne m10 (by omega)
          have B13 := B13.ne m10 (by omega)
          have hD10 := dk m10 hD9 (by omega)
          refine ⟨hv10.box.cell rfl, B3.cell rfl, B11.cell rfl, stV.mk B11 (by simp) fun W11 B11 m11 => ?_⟩
          have hv11 := hv10.mod m11 fun b hb e => by have := hfp b hb; omega
          have B3 := B3.ne m11 (by omega)
          have B9 := B9.ne m11 (by omega)
          have B13 := B13.ne m11 (by omega)
          have hD11 := dk m11 hD10 (by omega)
          refine ⟨hv11.box.cell rfl, B3.cell rfl, stV.mk B13 (by simp) fun W12 B13 m12 => ?_⟩
          have B9 := B9.ne m12 (by omega)
          have B11 := B11.ne m12 (by omega)
          have hD12 := dk m12 hD11 (by omega)
          refine due_end hD12 B9 B11 B13 fun W13 m13 => ?_
          have := h W13 ((((((((((m02.on0 m24).on0 m5).on0 m6').on0 m7').onNew m8 (by omega)).on0 m9).onNew m10 (by omega)).onNew m11 (by omega)).onNew m12 (by omega)).onNew m13 (by omega))
          rwa [show dueB z most limit = (z.sent, z.sent + T, decide (z.sent + T > z.sent)) by unfold dueB; rw [if_neg hnn, hg]; simp only; rw [if_pos hlt, if_neg hge, hF, hT]] at this
      · have hlt : ¬ z.sent < z.written := of_decide_eq_false hc
        refine drw.mk fun W5 m5 => ?_
        have hv5 := hv4.mod0 m5
        have B3 := B3.mod0 m5
        have B9 := B9.mod0 m5
        have B11 := B11.mod0 m5
        have B13 := B13.mod0 m5
        have hD5 := dk m5 hD4 fun h => h
        refine jn.mk (fun _ w' => Mod No w w' ∧ w'.heap[w7.heap.size]? = some (.deferred (some [])) ∧ Blk w' b9 [.int .i64 z.sent] 3 ∧ Blk w' b11 [.int .i64 z.sent] 3 ∧ Blk w' b13 [.bool ((z.fin == 1) || (z.fin == 3))] 4) ?_ ?_
        · intro kk hkk
          refine ldP.mk B3 rfl (nn.mk ?_)
          rw [add_at]
          refine ldI.mk hv5.box rfl (ldP.mk B3 rfl (nn.mk ?_))
          rw [add_at]
          refine ldI.mk hv5.box rfl (ldP.mk B3 rfl (nn.mk ?_))
          rw [add_at]
          refine ldI.mk hv5.box rfl ⟨fun hc => ?_, fun hc => ?_⟩
          · refine stV.mk B9 (by simp) fun W6 B9 m6' => ?_
            have hv6 := hv5.mod m6' fun b hb e => by have := hfp b hb; omega
            have B3 := B3.ne m6' (by omega)
            have B11 := B11.ne m6' (by omega)
            have B13 := B13.ne m6' (by omega)
            have hD6 := dk m6' hD5 (by omega)
            refine ⟨hv6.box.cell rfl, B3.cell rfl, stV.mk B11 (by simp) fun W7 B11 m7' => ?_⟩
            have B9 := B9.ne m7' (by omega)
            have B13 := B13.ne m7' (by omega)
            have hD7 := dk m7' hD6 (by omega)
            refine stV.mk B13 (by simp) fun W8 B13 m8 => hkk _ _ ⟨((((m02.on0 m24).on0 m5).onNew m6' (by omega)).onNew m7' (by omega)).onNew m8 (by omega), dk m8 hD7 (by omega), B9.ne m8 (by omega), B11.ne m8 (by omega), ?_⟩
            rw [hc]
            exact B13
          · rw [hc, Bool.false_or] at hkk
            refine ldP.mk B3 rfl (nn.mk ?_)
            rw [add_at]
            refine ldI.mk hv5.box rfl (stV.mk B9 (by simp) fun W6 B9 m6' => ?_)
            have hv6 := hv5.mod m6' fun b hb e => by have := hfp b hb; omega
            have B3 := B3.ne m6' (by omega)
            have B11 := B11.ne m6' (by omega)
            have B13 := B13.ne m6' (by omega)
            have hD6 := dk m6' hD5 (by omega)
            refine ⟨hv6.box.cell rfl, B3.cell rfl, hv6.box.cell rfl, B3.cell rfl, stV.mk B11 (by simp) fun W7 B11 m7' => ?_⟩
            have hv7 := hv6.mod m7' fun b hb e => by have := hfp b hb; omega
            have B3 := B3.ne m7' (by omega)
            have B9 := B9.ne m7' (by omega)
            have B13 := B13.ne m7' (by omega)
            have hD7 := dk m7' hD6 (by omega)
            refine ⟨hv7.box.cell rfl, B3.cell rfl, stV.mk B13 (by simp) fun W8 B13 m8 => hkk _ _ ⟨((((m02.on0 m24).on0 m5).onNew m6' (by omega)).onNew m7' (by omega)).onNew m8 (by omega), dk m8 hD7 (by omega), B9.ne m8 (by omega), B11.ne m8 (by omega), B13⟩⟩
        · rintro _ W6 ⟨m6', hD6, B9, B11, B13⟩
          refine due_end hD6 B9 B11 B13 fun W7 m7' => ?_
          have := h W7 (m6'.onNew m7' (by omega))
          rwa [show dueB z most limit = (z.sent, z.sent, (z.fin == 1) || (z.fin == 3)) by unfold dueB; rw [if_neg hnn, hg]; simp only; rw [if_neg hlt]] at this
end Go.Proofs.Ytfgodebgjemljaa
