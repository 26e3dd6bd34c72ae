/-
  The vault: what somebody comes to know.
-/
import Derived.Test.YtkehoneadedmhaaDoorVF
namespace Go.Proofs.YtkehoneadedmhaaDoor
open Go Go.Sh
set_option linter.unusedVariables false
set_option linter.unusedSimpArgs false

theorem Lp.ind {S : Type} {body : S → (S → World → Prop) → World → Prop} {s : S} {w : World} (n : Nat) (I : Nat → S → World → Prop) (h0 : I n s w)
    (step : ∀ n s w, I n s w → body s (fun s' w' => ∃ m, m < n ∧ I m s' w') w) : Lp body s w := by
  intro X hX
  have key : ∀ n s w, I n s w → X s w := by
    intro n
    induction n using Nat.strongRecOn with
    | _ n ih =>
      intro s w hI
      exact hX s w _ (fun s' w' ⟨m, hm, hI'⟩ => ih m hm s' w' hI') (step n s w hI)
  exact key n s w h0

theorem clone_spec {w : World} {a : Slc} {cs : List Value} {K : Slc → World → Prop} (ha : RdS w 1 a cs) (h1 : ∀ v ∈ cs, one v = true) (hn : a.len < 1000000000000)
    (h : ∀ r w', (∀ b, r.a = some ⟨b, 0, none⟩ → w.heap.size ≤ b ∧ b < w'.heap.size) → OwnS w' 22 1 r cs → Mod No w w' → K r w') : C51 a w K := by
  refine br51 ?_
  unfold sh51
  refine jn_in ⟨fun hc => ?_, fun hc => ?_⟩
  · have hnil : a.a = none := by simpa using hc
    have e : cs = [] := by
      rcases ha.2 with ⟨_, h⟩ | ⟨b, o, h, _⟩
      · have := ha.1
        exact List.eq_nil_of_length_eq_zero (by omega)
      · rw [hnil] at h; cases h
    subst e
    exact h _ _ (fun b hb => by cases hb) (OwnS.nil ..) (Mod.refl _ _)
  · refine newV.mk fun b w1 hb hB hm => ?_
    have hown : OwnS w1 22 1 (Slc.mk (some ⟨b, 0, none⟩) 0 0) [] := ⟨rfl, .inr ⟨b, [], rfl, hB, rfl, Nat.le_refl _⟩⟩
    obtain ⟨r, w2, hr, ho, hl, hm2, hpl⟩ := run_append (t := 31) (t' := 31) elBytes Tryd.runUnderlying31 Tryd.runUnderlying31 (fun k h => by cases h) hown (ha.mod hm fun _ _ _ h => h) h1
      (by show (2 * (0 + a.len) + 192) * 24 ≤ _; omega) (by omega)
    have hs1 := hm.size
    have hs2 := hm2.size
    have hlt := hB.lt
    refine ⟨r, w2, hr, h r w2 (fun c hc => ?_) (by simpa using ho) (hm.on hm2 fun c hc h => ?_)⟩
    · rcases hpl with e | ⟨d, e, hd, hd'⟩
      · rw [e] at hc
        have : b = c := by simpa using hc
        omega
      · rw [e] at hc
        have : d = c := by simpa using hc
        omega
    · have : b = c := by simpa using h
      omega

theorem elBool : ElemT Tryd.prog 4 1 1 (.bool false) where
  size := Tryd.sizeOf4
  info w := ⟨_, Tryd.typeInfo4 w, by kernel_rfl⟩
  zero := Tryd.zeroValue4
  zsize := rfl

/-- what is made before anything is read -/
structure Pre (w0 w : World) (cb sb vc kb : Nat) (v : VF) (n : Nat) (tds : Slc) (xs : List (Slc × List UInt8)) : Prop where
  mod : Mod No w0 w
  cell : Blk w cb [.pointer (some ⟨sb, 0, none⟩)] 58
  box : Blk w sb [.pointer v.ptr, (own kb n).v, tds.v] 62
  vcell : Blk w vc [.pointer v.ptr] 23
  known : Blk w kb (List.replicate n (.bool false)) 4
  td : OwnS w 22 1 tds (xs.map (·.1.v))
  nd : [cb, sb, vc, kb].Nodup
  ge : w0.heap.size ≤ cb ∧ w0.heap.size ≤ sb ∧ w0.heap.size ≤ vc ∧ w0.heap.size ≤ kb
  tb : ∀ b, tds.a = some ⟨b, 0, none⟩ → w0.heap.size ≤ b ∧ b ≠ cb ∧ b ≠ sb ∧ b ≠ vc ∧ b ≠ kb

theorem rep_false (n : Nat) : List.replicate n (Value.bool false) = (List.replicate n false).map .bool := by simp

theorem knows_spec {w : World} {v : VF} {V : List Term} {a : Slc} {xs : List (Slc × List UInt8)} {K : Option Addr → World → Prop} (hv : VaultAt w v V) (hw : WfV V) (hVl : V.length < 1000000000)
    (ha : RdS w 1 a (xs.map (·.1.v))) (hxl : xs.length < 1000000000000) (hx : ∀ x ∈ xs, Txt w x.1 x.2)
    (h : ∀ w' sb kb k tds, Mod No w w' → Blk w' sb [.pointer v.ptr, (own kb k.length).v, tds] 62 → Blk w' kb (k.map .bool) 4 → k.length = V.length → (∀ n, kn k n ↔ Kn V (xs.map (·.2)) n) → K (some ⟨sb, 0, none⟩) w') :
    C19 v.ptr a w K := by
  refine br19 ?_
  unfold sh19
  have hlenA : a.len = xs.length := by have := ha.1; simpa using this.symm
  refine newV.mk fun vc w6 hvc hC6 hm6 => drw.mk fun w7 hm7 => ?_
  have hC7 := hC6.mod0 hm7
  have hmw7 : Mod No w w7 := hm6.on0 hm7
  have hs6 := hm6.size
  have hs7 := hm7.size
  have hvc7 := hC7.lt
  refine jn.mk (fun p w' => ∃ cb sb kb tds, p = some ⟨cb, 0, none⟩ ∧ Pre w w' cb sb vc kb v V.length tds xs) ?_ ?_
  · intro kk hkk
    refine ldP.mk hC7 rfl (ldP.mk hC7 rfl (nn.mk ?_))
    have hv7 := hv.mod0 hmw7
    refine ldL.mk hv7.box rfl ?_
    have hr : ∀ w', Mod No w7 w' → World.cell? w' ⟨vc, 0, none⟩ = some (.pointer v.ptr) := fun w' hm => (hC7.mod0 hm).cell rfl
    have hr2 : ∀ w', Mod No w7 w' → World.cell? w' ⟨v.vb, 0, none⟩ = some v.tb.v := fun w' hm => (hv7.box.mod0 hm).cell rfl
    have hlenV := hv.len
    have hM : ∀ {w1} (hm : Mod No w7 w1) {k : Slc → World → Prop}, (∀ kb w2, w1.heap.size ≤ kb → kb < w2.heap.size → Blk w2 kb (List.replicate V.length (.bool false)) 4 → Mod No w1 w2 → k (own kb V.length) w2) →
        ∃ (t : Slc) (w2 : World), rn Tryd.prog (Instr.makeSlice 60 (.int .i64 (v.tb.len : Int)) (.int .i64 (v.tb.len : Int))) t.v w1 w2 ∧ k t w2 := fun {w1} hm {k} hk => by
      obtain ⟨b7, w2, hr7, hB7, hm7, hb7, hb7'⟩ := run_make (t := 60) elBool rfl (w := w1) (n := (v.tb.len : Int)) Tryd.runUnderlying60 (by omega) (by omega) (by omega)
      simp only [Int.toNat_natCast, hlenV] at hr7 hB7
      exact ⟨_, w2, by rw [hlenV]; exact hr7, hk b7 w2 hb7 hb7' hB7 hm7⟩
    have hC : ∀ {w1} (hm : Mod No w7 w1) {k : Slc → World → Prop}, (∀ r w2, (∀ b, r.a = some ⟨b, 0, none⟩ → w1.heap.size ≤ b ∧ b < w2.heap.size) → OwnS w2 22 1 r (xs.map (·.1.v)) → Mod No w1 w2 → k r w2) → C51 a w1 k := fun {w1} hm {k} hk =>
      clone_spec ((ha.mod hmw7 fun _ _ _ h => h).mod hm fun _ _ _ h => h) (by
        intro v hv
        obtain ⟨x, _, rfl⟩ := List.mem_map.1 hv
        rfl) (by omega) hk
    have fin : ∀ w' cb sb kb r, Mod No w7 w' → Blk w' cb [.pointer none] 58 → Blk w' sb [.pointer v.ptr, (own kb V.length).v, r.v] 62 → Blk w' kb (List.replicate V.length (.bool false)) 4 → OwnS w' 22 1 r (xs.map (·.1.v)) →
        w7.heap.size ≤ cb → w7.heap.size ≤ sb → w7.heap.size ≤ kb → cb ≠ sb → cb ≠ kb → sb ≠ kb → (∀ b, r.a = some ⟨b, 0, none⟩ → w7.heap.size ≤ b ∧ b ≠ cb ∧ b ≠ sb ∧ b ≠ kb) →
        stV ⟨cb, 0, none⟩ (.pointer (some ⟨sb, 0, none⟩)) w' fun w2 => kk (some ⟨cb, 0, none⟩) w2 := fun w' cb sb kb r hm hN hS hB hO h1 h2 h3 h4 h5 h6 hR => by
      refine stV.mk hN (by simp) fun w2 hN2 hm2 => hkk _ _ ⟨cb, sb, kb, r, rfl, (hmw7.on0 hm).onNew hm2 (by omega), hN2, hS.ne hm2 (by omega), (hC7.mod0 hm).ne hm2 (by omega), hB.ne hm2 (by omega), hO.mod hm2 fun b hb e => (hR b hb).2.1 e, ?_, by omega, fun b hb => ?_⟩
      · simp
        omega
      · have := hR b hb
        omega
    refine ⟨?_, ?_, ?_⟩
    · refine hM (Mod.refl _ _) fun kb v0 hk1 hk2 hB d0 => ?_
      have e0 : Mod No w7 v0 := d0
      refine ⟨hr _ e0, ?_⟩
      refine ⟨?_, ?_⟩
      · refine hC e0 fun r v1 hR hO d1 => ?_
        have e1 : Mod No w7 v1 := (e0.on0 d1)
        refine ⟨hr _ e1, ?_⟩
        refine ⟨?_, ?_⟩
        · refine newV.mk fun sb v2 hs1 hS d2 => ?_
          have hs2 := hS.lt
          have e2 : Mod No w7 v2 := (e1.on0 d2)
          refine newV.mk fun cb v3 hn1 hN d3 => ?_
          have hn2 := hN.lt
          have e3 : Mod No w7 v3 := (e2.on0 d3)
          have z0 := d0.size; have z1 := d1.size; have z2 := d2.size; have z3 := d3.size
          exact fin _ cb sb kb r e3 hN (hS.mod0 d3) (((hB.mod0 d1).mod0 d2).mod0 d3) ((hO.mod d2 fun _ _ h => h).mod d3 fun _ _ h => h) (by omega) (by omega) (by omega) (by omega) (by omega) (by omega) (fun b hb => ⟨by have := hR b hb; omega, by have := hR b hb; omega, by have := hR b hb; omega, by have := hR b hb; omega⟩)
        · refine newV.mk fun cb v2 hn1 hN d2 => ?_
          have hn2 := hN.lt
          have e2 : Mod No w7 v2 := (e1.on0 d2)
          refine ⟨hr _ e2, ?_⟩
          refine newV.mk fun sb v3 hs1 hS d3 => ?_
          have hs2 := hS.lt
          have e3 : Mod No w7 v3 := (e2.on0 d3)
          have z0 := d0.size; have z1 := d1.size; have z2 := d2.size; have z3 := d3.size
          exact fin _ cb sb kb r e3 (hN.mod0 d3) hS (((hB.mod0 d1).mod0 d2).mod0 d3) ((hO.mod d2 fun _ _ h => h).mod d3 fun _ _ h => h) (by omega) (by omega) (by omega) (by omega) (by omega) (by omega) (fun b hb => ⟨by have := hR b hb; omega, by have := hR b hb; omega, by have := hR b hb; omega, by have := hR b hb; omega⟩)
      · refine newV.mk fun cb v1 hn1 hN d1 => ?_
        have hn2 := hN.lt
        have e1 : Mod No w7 v1 := (e0.on0 d1)
        refine ⟨hr _ e1, ?_⟩
        refine hC e1 fun r v2 hR hO d2 => ?_
        have e2 : Mod No w7 v2 := (e1.on0 d2)
        refine ⟨hr _ e2, ?_⟩
        refine newV.mk fun sb v3 hs1 hS d3 => ?_
        have hs2 := hS.lt
        have e3 : Mod No w7 v3 := (e2.on0 d3)
        have z0 := d0.size; have z1 := d1.size; have z2 := d2.size; have z3 := d3.size
        exact fin _ cb sb kb r e3 ((hN.mod0 d2).mod0 d3) hS (((hB.mod0 d1).mod0 d2).mod0 d3) (hO.mod d3 fun _ _ h => h) (by omega) (by omega) (by omega) (by omega) (by omega) (by omega) (fun b hb => ⟨by have := hR b hb; omega, by have := hR b hb; omega, by have := hR b hb; omega, by have := hR b hb; omega⟩)
    · refine hC (Mod.refl _ _) fun r v0 hR hO d0 => ?_
      have e0 : Mod No w7 v0 := d0
      refine ⟨hr2 _ e0, hr _ e0, hr _ e0, ?_⟩
      refine ⟨?_, ?_⟩
      · refine hM e0 fun kb v1 hk1 hk2 hB d1 => ?_
        have e1 : Mod No w7 v1 := (e0.on0 d1)
        refine ⟨hr _ e1, ?_⟩
        refine ⟨?_, ?_⟩
        · refine newV.mk fun sb v2 hs1 hS d2 => ?_
          have hs2 := hS.lt
          have e2 : Mod No w7 v2 := (e1.on0 d2)
          refine newV.mk fun cb v3 hn1 hN d3 => ?_
          have hn2 := hN.lt
          have e3 : Mod No w7 v3 := (e2.on0 d3)
          have z0 := d0.size; have z1 := d1.size; have z2 := d2.size; have z3 := d3.size
          exact fin _ cb sb kb r e3 hN (hS.mod0 d3) ((hB.mod0 d2).mod0 d3) (((hO.mod d1 fun _ _ h => h).mod d2 fun _ _ h => h).mod d3 fun _ _ h => h) (by omega) (by omega) (by omega) (by omega) (by omega) (by omega) (fun b hb => ⟨by have := hR b hb; omega, by have := hR b hb; omega, by have := hR b hb; omega, by have := hR b hb; omega⟩)
        · refine newV.mk fun cb v2 hn1 hN d2 => ?_
          have hn2 := hN.lt
          have e2 : Mod No w7 v2 := (e1.on0 d2)
          refine ⟨hr _ e2, ?_⟩
          refine newV.mk fun sb v3 hs1 hS d3 => ?_
          have hs2 := hS.lt
          have e3 : Mod No w7 v3 := (e2.on0 d3)
          have z0 := d0.size; have z1 := d1.size; have z2 := d2.size; have z3 := d3.size
          exact fin _ cb sb kb r e3 (hN.mod0 d3) hS ((hB.mod0 d2).mod0 d3) (((hO.mod d1 fun _ _ h => h).mod d2 fun _ _ h => h).mod d3 fun _ _ h => h) (by omega) (by omega) (by omega) (by omega) (by omega) (by omega) (fun b hb => ⟨by have := hR b hb; omega, by have := hR b hb; omega, by have := hR b hb; omega, by have := hR b hb; omega⟩)
      · refine newV.mk fun cb v1 hn1 hN d1 => ?_
        have hn2 := hN.lt
        have e1 : Mod No w7 v1 := (e0.on0 d1)
        refine ⟨hr2 _ e1, hr _ e1, hr _ e1, ?_⟩
        refine hM e1 fun kb v2 hk1 hk2 hB d2 => ?_
        have e2 : Mod No w7 v2 := (e1.on0 d2)
        refine ⟨hr _ e2, ?_⟩
        refine newV.mk fun sb v3 hs1 hS d3 => ?_
        have hs2 := hS.lt
        have e3 : Mod No w7 v3 := (e2.on0 d3)
        have z0 := d0.size; have z1 := d1.size; have z2 := d2.size; have z3 := d3.size
        exact fin _ cb sb kb r e3 ((hN.mod0 d2).mod0 d3) hS (hB.mod0 d3) (((hO.mod d1 fun _ _ h => h).mod d2 fun _ _ h => h).mod d3 fun _ _ h => h) (by omega) (by omega) (by omega) (by omega) (by omega) (by omega) (fun b hb => ⟨by have := hR b hb; omega, by have := hR b hb; omega, by have := hR b hb; omega, by have := hR b hb; omega⟩)
    · refine newV.mk fun cb v0 hn1 hN d0 => ?_
      have hn2 := hN.lt
      have e0 : Mod No w7 v0 := d0
      refine ⟨hr2 _ e0, hr _ e0, hr _ e0, ?_⟩
      refine ⟨?_, ?_⟩
      · refine hM e0 fun kb v1 hk1 hk2 hB d1 => ?_
        have e1 : Mod No w7 v1 := (e0.on0 d1)
        refine ⟨hr _ e1, ?_⟩
        refine hC e1 fun r v2 hR hO d2 => ?_
        have e2 : Mod No w7 v2 := (e1.on0 d2)
        refine ⟨hr _ e2, ?_⟩
        refine newV.mk fun sb v3 hs1 hS d3 => ?_
        have hs2 := hS.lt
        have e3 : Mod No w7 v3 := (e2.on0 d3)
        have z0 := d0.size; have z1 := d1.size; have z2 := d2.size; have z3 := d3.size
        exact fin _ cb sb kb r e3 (((hN.mod0 d1).mod0 d2).mod0 d3) hS ((hB.mod0 d2).mod0 d3) (hO.mod d3 fun _ _ h => h) (by omega) (by omega) (by omega) (by omega) (by omega) (by omega) (fun b hb => ⟨by have := hR b hb; omega, by have := hR b hb; omega, by have := hR b hb; omega, by have := hR b hb; omega⟩)
      · refine hC e0 fun r v1 hR hO d1 => ?_
        have e1 : Mod No w7 v1 := (e0.on0 d1)
        refine ⟨hr2 _ e1, hr _ e1, hr _ e1, ?_⟩
        refine hM e1 fun kb v2 hk1 hk2 hB d2 => ?_
        have e2 : Mod No w7 v2 := (e1.on0 d2)
        refine ⟨hr _ e2, ?_⟩
        refine newV.mk fun sb v3 hs1 hS d3 => ?_
        have hs2 := hS.lt
        have e3 : Mod No w7 v3 := (e2.on0 d3)
        have z0 := d0.size; have z1 := d1.size; have z2 := d2.size; have z3 := d3.size
        exact fin _ cb sb kb r e3 (((hN.mod0 d1).mod0 d2).mod0 d3) hS (hB.mod0 d3) ((hO.mod d2 fun _ _ h => h).mod d3 fun _ _ h => h) (by omega) (by omega) (by omega) (by omega) (by omega) (by omega) (fun b hb => ⟨by have := hR b hb; omega, by have := hR b hb; omega, by have := hR b hb; omega, by have := hR b hb; omega⟩)
  · rintro _ w1 ⟨cb, sb, kb, tds, rfl, hp⟩
    have hnd : (cb ≠ sb ∧ cb ≠ vc ∧ cb ≠ kb) ∧ (sb ≠ vc ∧ sb ≠ kb) ∧ vc ≠ kb := by simpa using hp.nd
    have hge := hp.ge
    refine nn.mk (ldP.mk hp.cell rfl (nn.mk ?_))
    rw [add_at]
    have hpos := hw.pos
    refine ldL.mk hp.box rfl (idx.mk (by omega) (by omega) ?_)
    simp only [Int.toNat_zero, Nat.zero_mul, Nat.add_zero]
    refine stV.mk hp.known (by simpa using hpos) fun w2 hB2 hm2 => ?_
    have hmw2 : Mod No w w2 := hp.mod.onNew hm2 (by omega)
    have hs2 := hm2.size
    refine ldP.mk (hp.vcell.ne hm2 (by omega)) rfl (nn.mk ?_)
    refine ldL.mk (hv.mod0 hmw2).box rfl ?_
    have hlenV := hv.len
    obtain ⟨ob, w3, hr3, hB3, hm3, hob, hob'⟩ := run_make (t := 60) elBool rfl (w := w2) (n := (v.tb.len : Int)) Tryd.runUnderlying60 (by omega) (by omega) (by omega)
    refine ⟨_, w3, hr3, ?_⟩
    simp only [Int.toNat_natCast, hlenV] at hB3 ⊢
    refine newV.mk fun oc w4 hoc hC4 hm4 => ?_
    refine stV.mk hC4 (by simp) fun w5 hC5 hm5 => ?_
    have hs3 := hm3.size
    have hs4 := hm4.size
    have hs5 := hm5.size
    have l1 := hp.cell.lt
    have l2 := hp.box.lt
    have l3 := hp.vcell.lt
    have l4 := hp.known.lt
    have l5 := hC4.lt
    have m24 : Mod No w2 w5 := (hm3.on0 hm4).onNew hm5 (by omega)
    let y : Spy := ⟨cb, sb, vc, oc, kb, ob⟩
    let k0 : List Bool := (List.replicate V.length false).set 0 true
    have hk0 : kn k0 0 := by simp [k0, kn, hpos]
    have hmem : Mem w w5 y v k0 (List.replicate V.length false) tds xs := by
      refine ⟨⟨hmw2.on0 m24, (hp.cell.ne hm2 (by omega)).mod0 m24, ?_, (hp.vcell.ne hm2 (by omega)).mod0 m24, ?_, ?_, ?_⟩, ⟨?_, ?_⟩, ?_⟩
      · have := (hp.box.ne hm2 (by omega)).mod0 m24
        simpa [k0] using this
      · have := hB2.mod0 m24
        rw [rep_false, ← List.map_set] at this
        exact this
      · simp only [y, List.nodup_cons, List.mem_cons, List.not_mem_nil, or_false, not_or, List.nodup_nil, and_true, not_false_eq_true]
        omega
      · have := hmw2.size
        rintro b (e | e | e | e | e | e) <;> simp only [y] at e <;> omega
      · simpa using hC5
      · rw [← rep_false]
        exact (hB3.mod0 hm4).ne hm5 (by omega)
      · have hw0 := hmw2.size
        have hlt : ∀ b, tds.a = some ⟨b, 0, none⟩ → b < w1.heap.size := fun b hb => OwnS.lt hp.td hb
        refine ⟨(hp.td.mod hm2 fun b hb e => (hp.tb b hb).2.2.2.2 e).mod m24 fun _ _ h => h, fun b hb => ⟨(hp.tb b hb).1, ?_⟩, fun x hx' => .inl (hx x hx')⟩
        have g1 := hp.tb b hb
        have g2 := hlt b hb
        rintro (e | e | e | e | e | e) <;> simp only [y] at e <;> omega
    have hinv : Inv V (xs.map (·.2)) k0 (List.replicate V.length false) (xs.map (·.2)) := by
      refine ⟨by simp [k0], by simp, hk0, fun n hn => ?_, fun bs hb => .inl hb, fun bs hb => .inl hb, fun s t _ hs => ?_⟩
      · rcases (kn_set (by simpa using hpos)).1 hn with rfl | h
        · exact Kn.root
        · simp [kn, List.getElem?_replicate] at h
      · simp [kn, List.getElem?_replicate] at hs
    refine jn.mk (fun _ w' => ∃ k o tds, Mem w w' y v k o tds [] ∧ Inv V (xs.map (·.2)) k o [] ∧ ∀ n, n < V.length → Closed V k o n) ?_ ?_
    · intro kk hkk
      refine Lp.ind (nf k0 + nf (List.replicate V.length false)) (fun n _ w' => ∃ k o tds ys, Mem w w' y v k o tds ys ∧ Inv V (xs.map (·.2)) k o (ys.map (·.2)) ∧ ys.length < 1000000000000 ∧ nf k + nf o = n) ⟨k0, _, tds, xs, hmem, hinv, hxl, rfl⟩ ?_
      rintro n _ w6 ⟨k, o, tds6, ys, hm6, hi6, hl6, hn6⟩
      refine jn_in ?_
      refine ⟨_, _, _, rfl, fun args w => rfl, ?_⟩
      rw [Array.empty_append, Array.empty_append]
      refine step_spec (y := y) hv hw hVl hm6 hi6 hl6 (fun w' k' o' tds' xs' g1 g2 g3 g4 => ifM.t rfl ⟨_, hn6 ▸ g4, k', o', tds', xs', g1, g2, g3, rfl⟩) (fun w' k' o' tds' g1 g2 g3 => ifM.f rfl (hkk _ _ ⟨k', o', tds', g1, g2, g3⟩))
    · rintro _ w6 ⟨k, o, tds6, hm6, hi6, hc6⟩
      refine nn.mk (ldP.mk hm6.spy.cell rfl ?_)
      exact h w6 sb kb k tds6.v hm6.spy.mod hm6.spy.box hm6.spy.known hi6.kl fun n => hi6.done hc6 n
end Go.Proofs.YtkehoneadedmhaaDoor
