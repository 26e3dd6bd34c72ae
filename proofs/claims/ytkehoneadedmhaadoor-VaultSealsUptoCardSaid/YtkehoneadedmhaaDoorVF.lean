/-
  The vault: one round.
-/
import Derived.Test.YtkehoneadedmhaaDoorVE
namespace Go.Proofs.YtkehoneadedmhaaDoor
open Go Go.Sh
set_option linter.unusedVariables false
set_option linter.unusedSimpArgs false

theorem Mem.fp_lt {w0 w : World} {y : Spy} {v : VF} {k o : List Bool} {tds : Slc} {xs : List (Slc × List UInt8)} (h : Mem w0 w y v k o tds xs) : ∀ b, y.fp b → b < w.heap.size := by
  rintro b (rfl | rfl | rfl | rfl | rfl | rfl)
  · exact h.spy.cell.lt
  · exact h.spy.box.lt
  · exact h.spy.vcell.lt
  · exact h.op.cell.lt
  · exact h.spy.known.lt
  · exact h.op.opened.lt

theorem OwnS.lt {w : World} {e : TypeId} {m : Nat} {s : Slc} {cs : List Value} {b : Nat} (h : OwnS w e m s cs) (hb : s.a = some ⟨b, 0, none⟩) : b < w.heap.size := by
  rcases h.2 with rfl | ⟨c, rest, h1, h2, _⟩
  · cases hb
  · rw [h1] at hb
    have : c = b := by simpa using hb
    exact this ▸ h2.lt

/-- a text read, with what is to be read as it was -/
theorem Mem.read {w0 w w' : World} {y : Spy} {v : VF} {k k' o : List Bool} {tds : Slc} {xs : List (Slc × List UInt8)} (h : Mem w0 w y v k o tds xs) (hy : SpyAt w0 w' y v k' tds) (hm : Mod (· = y.kb) w w') : Mem w0 w' y v k' o tds xs := by
  have hne := Spy.ne h.spy.nd
  exact ⟨hy, h.op.mod hm (by omega) (by omega), h.td.mod hm fun b e => e ▸ .inr (.inr (.inr (.inr (.inl rfl))))⟩

theorem cells_len (t : Term) : t.cells.length = 7 := rfl

theorem Mem.txt {w0 w : World} {y : Spy} {v : VF} {k o : List Bool} {tds : Slc} {xs : List (Slc × List UInt8)} (h : Mem w0 w y v k o tds xs) {x : Slc × List UInt8} (hx : x ∈ xs) : ∀ w', Mod (· = y.kb) w w' → Txt w' x.1 x.2 := by
  intro w' hm
  rcases h.td.2.2 x hx with h' | ⟨b, e, g1, g2, g3, g4, g5⟩
  · exact h'.mod0 (h.spy.mod.onNew hm (h.spy.ge _ (.inr (.inr (.inr (.inr (.inl rfl)))))))
  · refine g5.mod hm fun c o' e' h' => g3 ?_
    rw [e] at e'
    have : b = c := by simp at e'; exact e'.1
    exact this ▸ h' ▸ .inr (.inr (.inr (.inr (.inl rfl))))

set_option maxHeartbeats 2000000 in
theorem step_spec {w0 w : World} {y : Spy} {v : VF} {V : List Term} {seen : List (List UInt8)} {k o : List Bool} {tds : Slc} {xs : List (Slc × List UInt8)} {K : Bool → World → Prop} (hv : VaultAt w0 v V) (hw : WfV V) (hVl : V.length < 1000000000)
    (hm : Mem w0 w y v k o tds xs) (hi : Inv V seen k o (xs.map (·.2))) (hxl : xs.length < 1000000000000)
    (h1 : ∀ w' k' o' tds' xs', Mem w0 w' y v k' o' tds' xs' → Inv V seen k' o' (xs'.map (·.2)) → xs'.length < 1000000000000 → nf k' + nf o' < nf k + nf o → K true w')
    (h2 : ∀ w' k' o' tds', Mem w0 w' y v k' o' tds' [] → Inv V seen k' o' [] → (∀ n, n < V.length → Closed V k' o' n) → K false w') :
    C52 (some ⟨y.cb, 0, none⟩) (some ⟨y.vc, 0, none⟩) (some ⟨y.oc, 0, none⟩) w K := by
  refine br52 ?_
  unfold sh52
  have hlenT : tds.len = xs.length := by have := hm.td.1.1; simpa using this.symm
  refine jn.mk (fun _ w' => ∃ k', Mem w0 w' y v k' o tds xs ∧ Inv V seen k' o (xs.map (·.2)) ∧ nf k' ≤ nf k ∧ ∀ x ∈ xs, Reads V.length x.2 k') ?_ ?_
  · intro kk hkk
    refine nn.mk (ldP.mk hm.spy.cell rfl (nn.mk ?_))
    rw [add_at]
    refine ldL.mk hm.spy.box rfl ?_
    refine Lp.inv (fun (s : Int) w' => 0 ≤ s ∧ s ≤ xs.length ∧ ∃ k', Mem w0 w' y v k' o tds xs ∧ Inv V seen k' o (xs.map (·.2)) ∧ nf k' ≤ nf k ∧ ∀ (j : Nat) x, (j : Int) < s → xs[j]? = some x → Reads V.length x.2 k')
      (fun s _ => (xs.length - s).toNat) ⟨by omega, by omega, k, hm, hi, Nat.le_refl _, fun j x hj => by omega⟩ ?_
    rintro s w1 ⟨hs0, hs1, k1, hm1, hi1, hn1, hr1⟩
    refine jn_in ⟨fun hc => ?_, fun hc => ?_⟩
    · have hs : s < tds.len := of_decide_eq_true hc
      rw [hlenT] at hs
      obtain ⟨n, rfl⟩ := Int.eq_ofNat_of_zero_le hs0
      have hn : n < xs.length := by omega
      have e1 : IntKind.i64.wrap ((n : Int) + 1) = n + 1 := wrap_i64 (by omega) (by omega)
      rw [e1]
      refine jn_in (rd1 (x := xs[n].1) hm1.td.1.rd (by simp [hn]) (nn.mk (ldP.mk hm1.spy.cell rfl ?_)))
      have hx : xs[n] ∈ xs := List.getElem_mem hn
      refine read_spec hv hm1.spy hi1.kl (hm1.txt hx) fun w2 k2 hy2 hl2 hmd2 hk2 => ?_
      have hmono : ∀ n, kn k1 n → kn k2 n := fun n h => (hk2 n).2 (.inl h)
      have hin : xs[n].2 ∈ xs.map (·.2) := List.mem_map.2 ⟨_, hx, rfl⟩
      have hsnd : ∀ n, kn k2 n → Kn V seen n := fun m h => by
        rcases (hk2 m).1 h with h | ⟨h', hw', hl'⟩
        · exact hi1.snd m h
        · rcases hi1.tsnd _ hin with h | ⟨s, t, f1, f2, f3, f4, f5⟩
          · exact Kn.seen h hw' hl'
          · exact Kn.opened f1 f2 f3 f4 (f5 ▸ hw') hl'
      refine ⟨⟨by omega, by omega, k2, hm1.read hy2 hmd2, hi1.more hl2 hmono hsnd, Nat.le_trans (nf_mono _ _ (by rw [hi1.kl, hl2]) hmono) hn1, fun j x hj hx' => ?_⟩, by omega⟩
      by_cases e : j = n
      · subst e
        have : xs[j] = x := by rw [List.getElem?_eq_getElem hn] at hx'; exact Option.some.inj hx'
        subst this
        exact fun h i hw hl => (hk2 i).2 (.inr ⟨h, hw, hl⟩)
      · exact (hr1 j x (by omega) hx').mono hmono
    · have hs : ¬ s < tds.len := of_decide_eq_false hc
      rw [hlenT] at hs
      refine hkk () w1 ⟨k1, hm1, hi1, hn1, fun x hx => ?_⟩
      obtain ⟨j, hj, rfl⟩ := List.getElem_of_mem hx
      exact hr1 j _ (by omega) (by simp [hj])
  · rintro _ w1 ⟨k1, hm1, hi1, hn1, hr1⟩
    have hne := Spy.ne hm.spy.nd
    refine nn.mk (ldP.mk hm1.spy.cell rfl (nn.mk ?_))
    rw [add_at]
    refine stV.mk hm1.spy.box (by simp) fun w2 hB2 hmd2 => ?_
    have hge := hm1.spy.ge
    have hm2 : Mem w0 w2 y v k1 o Slc.nil [] := ⟨⟨hm1.spy.mod.onNew hmd2 (hge _ (.inr (.inl rfl))), hm1.spy.cell.ne hmd2 (by omega), hB2, hm1.spy.vcell.ne hmd2 (by omega), hm1.spy.known.ne hmd2 (by omega), hm1.spy.nd, hge⟩,
      hm1.op.mod hmd2 (by omega) (by omega), TD.nil ..⟩
    have hi2 : Inv V seen k1 o [] := ⟨hi1.kl, hi1.ol, hi1.k0, hi1.snd, fun _ h => (by cases h), fun bs hb => .inr ((hi1.sC bs hb).elim (fun h => by
        obtain ⟨x, hx, rfl⟩ := List.mem_map.1 h
        exact hr1 x hx) id), fun s t g1 g2 => .inr ((hi1.oC s t g1 g2).elim (fun h => by
        obtain ⟨x, hx, e⟩ := List.mem_map.1 h
        exact e ▸ hr1 x hx) id)⟩
    refine jn_in (nn.mk (ldP.mk hm2.spy.vcell rfl (nn.mk ?_)))
    have hv2 := hv.mod0 hm2.spy.mod
    refine ldL.mk hv2.box rfl ?_
    have hlenV := hv.len
    refine Lp.inv (fun (s : Bool × Int) w' => 0 ≤ s.2 ∧ s.2 ≤ V.length ∧ ∃ k' o' tds' xs', Mem w0 w' y v k' o' tds' xs' ∧ Inv V seen k' o' (xs'.map (·.2)) ∧ nf k' + nf o' ≤ nf k + nf o ∧ (xs'.length : Int) ≤ s.2 ∧
        (s.1 = true → nf k' + nf o' < nf k + nf o) ∧ (s.1 = false → xs' = [] ∧ ∀ n : Nat, (n : Int) < s.2 → Closed V k' o' n))
      (fun s _ => (V.length - s.2).toNat) ⟨by simp, by simp, k1, o, Slc.nil, [], hm2, hi2, by omega, by simp, fun h => (by cases h), fun _ => ⟨rfl, fun n hn => by simp at hn; omega⟩⟩ ?_
    rintro ⟨more, s⟩ w3 ⟨hs0, hs1, k3, o3, tds3, xs3, hm3, hi3, hn3, hx3, ht3, hf3⟩
    simp only at hs0 hs1 hx3 ht3 hf3 ⊢
    refine jn_in ⟨fun hc => ?_, fun hc => ?_⟩
    · have hs : s < v.tb.len := of_decide_eq_true hc
      rw [hlenV] at hs
      obtain ⟨n, rfl⟩ := Int.eq_ofNat_of_zero_le hs0
      have hn : n < V.length := by omega
      have hV := List.getElem?_eq_getElem hn
      generalize V[n] = t at hV
      have htV : t ∈ V := List.mem_of_getElem? hV
      have e1 : IntKind.i64.wrap ((n : Int) + 1) = n + 1 := wrap_i64 (by omega) (by omega)
      rw [e1]
      have hv3 := hv.mod0 hm3.spy.mod
      refine jn_in (rd_at hv3.terms.rd cells_len (by omega) hV fun _ _ _ => ?_)
      refine newV.mk fun bt w4 hbt hB4 hmd4 => ?_
      refine stA.all hB4 rfl rfl (fun x hx => t.cells_one x (by simpa using hx)) fun w5 hB5 hmd5 => ?_
      have hlt3 := hm3.fp_lt
      have hM5 : Mod No w3 w5 := hmd4.onNew hmd5 hbt
      have hm5 := hm3.on0 hM5
      have hneT : ∀ b, y.fp b → bt ≠ b := fun b hb => by have := hlt3 b hb; omega
      have hta := hw.a t htV
      have htb := hw.b t htV
      have hkl := hi3.kl
      have hol := hi3.ol
      have hkn : n < k3.length := by omega
      -- first: a term that can be made
      refine jn.mk (fun more' w' => ∃ k' , Mem w0 w' y v k' o3 tds3 xs3 ∧ Inv V seen k' o3 (xs3.map (·.2)) ∧ nf k' + nf o3 ≤ nf k + nf o ∧ (more' = true → nf k' + nf o3 < nf k + nf o) ∧
          (more' = false → xs3 = [] ∧ (∀ m : Nat, m < n → Closed V k' o3 m) ∧ (reachB k' t = true → kn k' n)) ∧ Blk w' bt t.cells 55) ?_ ?_
      · intro kk hkk
        refine jn_in (nn.mk (ldP.mk hm5.spy.cell rfl (nn.mk ?_)))
        rw [add_at]
        refine ldL.mk hm5.spy.box rfl (idx.mk (by omega) (by omega) ?_)
        simp only [Int.toNat_natCast, Nat.mul_one, Nat.zero_add]
        refine ldB.mk hm5.spy.known (bool_at hkn) ?_
        have keep : ∀ w', Mod No w5 w' → (reachB k3 t = true → kn k3 n) → kk more w' := fun w' hmd hr =>
          hkk more w' ⟨k3, hm5.on0 hmd, hi3, hn3, ht3, fun e => ⟨(hf3 e).1, fun m hm => (hf3 e).2 m (by omega), hr⟩, hB5.mod0 hmd⟩
        refine ⟨fun hc1 => ?_, fun hc1 => ?_⟩
        · have hnk : ¬ kn k3 n := fun h => by rw [getD_kn.2 h] at hc1; cases hc1
          refine nn.mk (ldP.mk hm5.spy.cell rfl (ldA.all hB5 rfl ?_))
          refine reaches_spec hm5.spy (by omega) (by omega) fun w6 hmd6 => ?_
          have hm6 := hm5.on0 hmd6
          refine ⟨fun hr => ?_, fun hr => keep w6 hmd6 fun h => absurd (hr.symm.trans h) (by decide)⟩
          refine nn.mk (ldP.mk hm6.spy.cell rfl (nn.mk ?_))
          rw [add_at]
          refine ldL.mk hm6.spy.box rfl (idx.mk (by omega) (by omega) ?_)
          simp only [Int.toNat_natCast]
          refine stKnown hm6.spy hkn fun w7 hy7 hmd7 => ?_
          have hmono : ∀ m, kn k3 m → kn (k3.set n true) m := fun m h => (kn_set hkn).2 (.inr h)
          have hlt := nf_set hkn hnk
          refine hkk true w7 ⟨_, hm6.read hy7 hmd7, hi3.more (by simpa using hkl) hmono (fun m h => ?_), by omega, fun _ => by omega, fun e => (by cases e), (hB5.mod0 hmd6).ne hmd7 (hneT _ (.inr (.inr (.inr (.inr (.inl rfl))))))⟩
          rcases (kn_set hkn).1 h with rfl | h
          · exact reach_kn hi3.snd hV hr
          · exact hi3.snd m h
        · have hnk : kn k3 n := getD_kn.1 (by simpa using hc1)
          exact ⟨fun e => absurd e (by decide), fun _ => keep w5 (Mod.refl _ _) fun _ => hnk⟩
      -- second: a sealed text that can be opened
      · rintro more' w6 ⟨k6, hm6, hi6, hn6, ht6, hf6, hB6⟩
        refine drw.mk fun w7 hmd7 => ?_
        have hm7 := hm6.on0 hmd7
        have hB7 := hB6.mod0 hmd7
        have hkl6 := hi6.kl
        have hkn6 : n < k6.length := by omega
        refine jn.mk (fun c w' => w' = w7 ∧ (c = true ↔ t.kind = 6 ∧ kn k6 n ∧ kn k6 t.a.toNat ∧ ¬ kn o3 n)) ?_ ?_
        · intro kk hkk
          have ldk : ∀ {i : Int} {k' : Bool → Prop}, 0 ≤ i ∧ i < k6.length → k' (k6[i.toNat]?.getD false) → idx 1 (own y.kb k6.length) i fun p => ldB p w7 k' := fun {i k'} hi h => by
            refine idx.mk hi.1 hi.2 ?_
            rw [Nat.mul_one, Nat.zero_add]
            exact ldB.mk hm7.spy.known (bool_at (by omega)) h
          refine ldI.mk hB7 rfl ⟨fun hc1 => ?_, fun hc1 => ?_⟩
          · have ht6' : t.kind = 6 := by simpa using hc1
            refine nn.mk (ldP.mk hm7.spy.cell rfl (nn.mk ?_))
            rw [add_at]
            refine ldL.mk hm7.spy.box rfl (ldk (by omega) ⟨fun hc2 => ?_, fun hc2 => ?_⟩)
            · have hk1 : kn k6 n := getD_kn.1 hc2
              refine nn.mk (ldP.mk hm7.spy.cell rfl (nn.mk ?_))
              rw [add_at]
              refine ldL.mk hm7.spy.box rfl ?_
              rw [add_at]
              refine ldI.mk hB7 rfl (ldk (by omega) ⟨fun hc3 => ?_, fun hc3 => ?_⟩)
              · have hk2 : kn k6 t.a.toNat := getD_kn.1 hc3
                refine nn.mk (ldL.mk hm7.op.cell rfl (idx.mk (by omega) (by omega) ?_))
                simp only [Int.toNat_natCast, Nat.mul_one, Nat.zero_add]
                refine ldB.mk hm7.op.opened (bool_at (by omega)) (hkk _ _ ⟨rfl, ?_⟩)
                rw [← getD_kn (k := o3)]
                cases o3[n]?.getD false <;> simp [ht6', hk1, hk2]
              · exact hkk _ _ ⟨rfl, by simp [← getD_kn, hc3]⟩
            · exact hkk _ _ ⟨rfl, by simp only [Int.toNat_natCast] at hc2; simp [← getD_kn, hc2]⟩
          · exact hkk _ _ ⟨rfl, by simp only [beq_eq_false_iff_ne, ne_eq] at hc1; simp [hc1]⟩
        · rintro c _ ⟨rfl, hcc⟩
          refine ⟨fun hc1 => ?_, fun hc1 => ?_⟩
          · obtain ⟨ht6', hk1, hk2, ho1⟩ := hcc.1 hc1
            refine nn.mk (ldL.mk hm7.op.cell rfl (idx.mk (by omega) (by omega) ?_))
            simp only [Int.toNat_natCast]
            have hne := Spy.ne hm7.spy.nd
            refine hm7.op.set (by omega) (by omega) fun w8 hop8 hmd8 => drw.mk fun w9 hmd9 => ?_
            have hge := hm7.spy.ge
            have hobf : y.fp y.ob := .inr (.inr (.inr (.inr (.inr rfl))))
            have hy8 : SpyAt w0 w8 y v k6 tds3 := ⟨hm7.spy.mod.onNew hmd8 (hge _ hobf), hm7.spy.cell.ne hmd8 (by omega), hm7.spy.box.ne hmd8 (by omega), hm7.spy.vcell.ne hmd8 (by omega), hm7.spy.known.ne hmd8 (by omega), hm7.spy.nd, hge⟩
            have hm8 : Mem w0 w8 y v k6 (o3.set n true) tds3 xs3 := ⟨hy8, hop8, hm7.td.mod hmd8 fun b e => e ▸ hobf⟩
            have hm9 := hm8.on0 hmd9
            have hB9 : Blk w9 bt t.cells 55 := (hB7.ne hmd8 (hneT _ hobf)).mod0 hmd9
            refine nn.mk (ldP.mk hm9.spy.cell rfl (nn.mk (ldP.mk hm9.spy.cell rfl (nn.mk ?_))))
            rw [add_at]
            refine ldL.mk hm9.spy.box rfl ?_
            rw [add_at]
            refine ldS.mk hB9 rfl ?_
            have hby : t.bytes = ⟨t.bytes.data.toList.toArray⟩ := by simp
            obtain ⟨s, w10, bx, hr10, hsa, hsl, hown, hmd10, hbx, hbx'⟩ := run_s2b (P := Tryd.prog) (w := w9) (bs := t.bytes.data.toList) Tryd.runUnderlying22 Tryd.runUnderlying5 Tryd.runUnderlying9
            rw [← hby] at hr10
            have hm10 := hm9.on0 hmd10
            refine ⟨s, w10, hr10, hm10.spy.box.cell rfl, hm10.spy.cell.cell rfl, hm10.spy.cell.cell rfl, ?_⟩
            refine newV.mk fun bp w11 hbp hB11 hmd11 => ?_
            have hm11 := hm10.on0 hmd11
            refine ⟨hm11.spy.box.cell rfl, hm11.spy.cell.cell rfl, hm11.spy.cell.cell rfl, ?_⟩
            have hrd : RdS w11 1 (Slc.mk (some ⟨bp, 0, none⟩) 1 1) [s.v] := ⟨rfl, .inr ⟨bp, 0, rfl, fun _ => hB11.lt, fun i hi => by rw [Nat.zero_add]; exact hB11.cell' i⟩⟩
            have hl3 : tds3.len = xs3.length := by have := hm11.td.1.1; simpa using this.symm
            obtain ⟨tds', w12, hr12, hown12, hlen12, hmd12, hpl⟩ := run_append (t := 31) (t' := 31) elBytes Tryd.runUnderlying31 Tryd.runUnderlying31 (fun k h => by cases h) hm11.td.1 hrd (by intro v hv; rw [List.mem_singleton.1 hv]; rfl)
              (by show (2 * (tds3.len + 1) + 192) * 24 ≤ _; omega) (by omega)
            refine ⟨tds', w12, hr12, ?_⟩
            have htb3 := hm11.td.2.1
            have hcell12 := hm11.spy.cell.mod hmd12 fun h => (htb3 _ h).2 (.inl rfl)
            refine ⟨hcell12.cell rfl, nn.mk ?_⟩
            rw [add_at]
            have hbox12 := hm11.spy.box.mod hmd12 fun h => (htb3 _ h).2 (.inr (.inl rfl))
            refine stV.mk hbox12 (by simp) fun w13 hB13 hmd13 => ?_
            simp only [Nat.zero_add, List.set_cons_succ, List.set_cons_zero] at hB13
            have hs10 := hmd10.size
            have hs11 := hmd11.size
            have hs12 := hmd12.size
            have hs13 := hmd13.size
            have hs9 := hmd9.size
            have hfp9 := hm9.fp_lt
            have hfp11 := hm11.fp_lt
            have hw09 := hm9.spy.mod.size
            have hsbf : y.fp y.sb := .inr (.inl rfl)
            have hne' := Spy.ne hm7.spy.nd
            have hmod12 : Mod No w0 w12 := hm11.spy.mod.on hmd12 fun b hb h => by have := (htb3 b h).1; omega
            have hspy : SpyAt w0 w13 y v k6 tds' := ⟨hmod12.onNew hmd13 (hge _ hsbf), hcell12.ne hmd13 (by omega), hB13, (hm11.spy.vcell.mod hmd12 fun h => (htb3 _ h).2 (.inr (.inr (.inl rfl)))).ne hmd13 (by omega),
              (hm11.spy.known.mod hmd12 fun h => (htb3 _ h).2 (.inr (.inr (.inr (.inr (.inl rfl)))))).ne hmd13 (by omega), hm7.spy.nd, hge⟩
            have hop13 : OpAt w13 y (o3.set n true) := (hm11.op.mod hmd12 (fun h => (htb3 _ h).2 (.inr (.inr (.inr (.inl rfl))))) fun h => (htb3 _ h).2 hobf).mod hmd13 (by omega) (by omega)
            have hnew : ∀ b, w9.heap.size ≤ b → ¬ y.fp b := fun b hb h => by have := hfp9 b h; omega
            have htdb : ∀ b, tds'.a = some ⟨b, 0, none⟩ → w0.heap.size ≤ b ∧ ¬ y.fp b := fun b hb => by
              rcases hpl with h | ⟨c, h, hc, hc'⟩
              · exact htb3 b (h ▸ hb)
              · rw [h] at hb
                have : c = b := by simpa using hb
                exact ⟨by omega, hnew b (by omega)⟩
            have htd13 : TD w0 w13 y tds' (xs3 ++ [(s, t.bytes.data.toList)]) := by
              refine ⟨?_, htdb, fun x hx => ?_⟩
              · rw [List.map_append]
                exact hown12.mod hmd13 fun b hb e => (htdb b hb).2 (e ▸ hsbf)
              · rcases List.mem_append.1 hx with hx | hx
                · rcases hm11.td.2.2 x hx with h | ⟨b, e, g1, g2, g3, g4, g5⟩
                  · exact .inl h
                  · refine .inr ⟨b, e, g1, by omega, g3, ?_, ?_⟩
                    · rcases hpl with h | ⟨c, h, hc, hc'⟩
                      · exact h ▸ g4
                      · rw [h]
                        intro e'
                        have : c = b := by simpa using e'
                        omega
                    · refine (g5.mod hmd12 fun c o' e' h => ?_).mod hmd13 fun c o' e' h => ?_
                      · rw [e] at e'
                        have : b = c := by simp at e'; exact e'.1
                        exact g4 (this ▸ h)
                      · rw [e] at e'
                        have : b = c := by simp at e'; exact e'.1
                        exact g3 (this ▸ h ▸ hsbf)
                · have hx' := List.mem_singleton.1 hx
                  subst hx'
                  have hlt9 : ∀ b, tds3.a = some ⟨b, 0, none⟩ → b < w9.heap.size := fun b hb => OwnS.lt hm9.td.1 hb
                  have hto : Txt w10 s t.bytes.data.toList := ⟨hown.rd, by rcases hown.2 with rfl | ⟨_, _, _, _, _, h⟩ <;> simp_all, hw.bytes t htV⟩
                  refine .inr ⟨bx, hsa, by omega, by omega, hnew _ hbx, ?_, ?_⟩
                  · rcases hpl with h | ⟨c, h, hc, hc'⟩
                    · rw [h]
                      intro e'
                      have := hlt9 _ e'
                      omega
                    · rw [h]
                      intro e'
                      have : c = bx := by simpa using e'
                      omega
                  · have hnb : ∀ {b c : Nat} {o' : Nat}, s.a = some (⟨c, o', none⟩ : Addr) → c = bx := fun {b c o'} e' => by
                      rw [hsa] at e'
                      simp at e'
                      exact e'.1.symm
                    refine ((hto.mod0 hmd11).mod hmd12 fun c o' e' h => ?_).mod hmd13 fun c o' e' h => ?_
                    · have := hnb (b := 0) e'
                      have := hlt9 _ h
                      omega
                    · have := hnb (b := 0) e'
                      exact hnew _ hbx (this ▸ h ▸ hsbf)
            have hon : n < o3.length := by omega
            have hlt := nf_set hon ho1
            refine ⟨⟨by omega, by omega, k6, o3.set n true, tds', xs3 ++ [(s, t.bytes.data.toList)], ⟨hspy, hop13, htd13⟩, ?_, by omega, by simp; omega, fun _ => by omega, fun e => (by cases e)⟩, by omega⟩
            rw [List.map_append]
            refine ⟨hi6.kl, by simpa using hol, hi6.k0, hi6.snd, fun bs hb => ?_, fun bs hb => (hi6.sC bs hb).imp (fun h => List.mem_append_left _ h) id, fun s' t' g1 g2 => ?_⟩
            · rcases List.mem_append.1 hb with hb | hb
              · exact hi6.tsnd bs hb
              · exact .inr ⟨n, t, hV, ht6', hi6.snd _ hk1, hi6.snd _ hk2, List.mem_singleton.1 hb⟩
            · rcases (kn_set hon).1 g2 with rfl | g2
              · rw [hV] at g1
                have := Option.some.inj g1
                subst this
                exact .inl (List.mem_append_right _ (List.mem_singleton.2 rfl))
              · exact (hi6.oC s' t' g1 g2).imp (fun h => List.mem_append_left _ h) id
          · refine ⟨⟨by omega, by omega, k6, o3, tds3, xs3, hm7, hi6, hn6, by omega, ht6, fun e => ⟨(hf6 e).1, fun m hm => ?_⟩⟩, by omega⟩
            by_cases e2 : m = n
            · subst e2
              intro t' ht'
              rw [hV] at ht'
              have := Option.some.inj ht'
              subst this
              refine ⟨(hf6 e).2.2, fun g1 g2 g3 => ?_⟩
              by_cases ho : kn o3 m
              · exact ho
              · have := hcc.2 ⟨g1, g2, g3, ho⟩
                rw [this] at hc1
                cases hc1
            · exact (hf6 e).2.1 m (by omega)
    · have hs : ¬ s < v.tb.len := of_decide_eq_false hc
      rw [hlenV] at hs
      cases more with
      | true => exact h1 w3 k3 o3 tds3 xs3 hm3 hi3 (by omega) (ht3 rfl)
      | false =>
        obtain ⟨rfl, hcl⟩ := hf3 rfl
        exact h2 w3 k3 o3 tds3 hm3 hi3 fun n hn => hcl n (by omega)
end Go.Proofs.YtkehoneadedmhaaDoor
