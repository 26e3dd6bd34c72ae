/-
  Hello: the law: Put and Bare as the reference has them.
-/
import Derived.Test.YteoikkmpkhnalaaHK
import Derived.Test.YteoikkmpkhnalaaHb
namespace Go.Proofs.Yteoikkmpkhnalaa
open Go Go.Sh
set_option linter.unusedVariables false
set_option linter.unusedSimpArgs false

variable {m : Msg} {q : Parts}

/-! ### 1. The other half of the reference -/

def putX (m : Msg) : List UInt8 := if putE m = 0 then putB m else []
def bareX (m : Msg) : List UInt8 := if bareE m = 0 then bareB m else []

theorem hput_all {w : World} {K : Slc → Int → World → Prop} (hq : MsgAt w m q) (h : ∀ w' r, Mine (Old w) w' r (putX m) → Mod No w w' → K r (putE m) w') : C4 (mcells m q).toArray w K := by
  refine hput_spec hq (fun hb w' hm => h w' _ ?_ hm) fun hb w' r hr hm => ?_
  · rw [putX, if_neg hb]
    exact Mine.nil ..
  · have := h w' r (by rw [putX, if_pos hb]; exact hr) hm
    rwa [hb] at this

theorem rput_all {w : World} {K : Slc → Int → World → Prop} (hq : MsgAt w m q) (h : ∀ w' r, Mine (Old w) w' r (putX m) → Mod No w w' → K r (putE m) w') : C6 (mcells m q).toArray w K := by
  refine rput_spec hq (fun hb w' hm => h w' _ ?_ hm) fun hb w' r hr hm => ?_
  · rw [putX, if_neg hb]
    exact Mine.nil ..
  · have := h w' r (by rw [putX, if_pos hb]; exact hr) hm
    rwa [hb] at this

theorem rdnil (w : World) : RdB w Slc.nil [] := ⟨rfl, .inl ⟨rfl, rfl⟩⟩

theorem hbare_all {w : World} {K : Slc → Int → World → Prop} (hq : MsgAt w m q) (h : ∀ w' r, RdB w' r (bareX m) → Mod No w w' → K r (bareE m) w') : C5 (mcells m q).toArray w K := by
  refine hbare_spec hq (fun hb w' hm => h w' _ ?_ hm) fun hb w' r hr hm => ?_
  · rw [bareX, if_neg hb]
    exact rdnil _
  · have := h w' r (by rw [bareX, if_pos hb]; exact hr) hm
    rwa [hb] at this

theorem rbare_all {w : World} {K : Slc → Int → World → Prop} (hq : MsgAt w m q) (h : ∀ w' r, RdB w' r (bareX m) → Mod No w w' → K r (bareE m) w') : C8 (mcells m q).toArray w K := by
  refine br8 ?_
  unfold sh8
  refine newV.mk fun b w1 hb hB hm1 => jn_in ?_
  simp only [add_at, Nat.zero_add]
  have hl := hq.lens
  refine jn.mk (fun c w' => w' = w1 ∧ (c = true ↔ m.kind ≠ 1 ∨ m.ticket.length = 0)) ?_ ?_
  · intro kk hkk
    refine ldI.mk hB mc0 ⟨fun hc => hkk _ _ ⟨rfl, by simpa using .inl (by simpa using hc)⟩, fun hc => ldL.mk hB mc36 ?_⟩
    rw [hl.2.2]
    refine hkk _ _ ⟨rfl, ?_⟩
    have hk : m.kind = 1 := by simpa using hc
    simp [hk]
  · rintro c w2 ⟨rfl, hcc⟩
    refine ⟨fun hc => ?_, fun hc => ?_⟩
    · have e : bareE m = 2 := if_pos (hcc.1 hc)
      have := h w2 Slc.nil (by rw [bareX, e, if_neg (by decide)]; exact rdnil _) hm1
      rwa [e] at this
    · have hn : ¬ (m.kind ≠ 1 ∨ m.ticket.length = 0) := fun h => by rw [hcc.2 h] at hc; cases hc
      have e : bareE m = putE m := if_neg hn
      have hk : m.kind = 1 := by
        by_cases h : m.kind = 1
        · exact h
        · exact absurd (.inl h) hn
      refine ldA.all hB mc_len (rput_spec (hq.mod0 hm1) (fun he w3 hm3 => ?_) fun he w3 r hr hm3 => ?_)
      · refine jn_in (ifM.t (by simpa using he) ?_)
        have := h w3 Slc.nil (by rw [bareX, e, if_neg he]; exact rdnil _) (hm1.on0 hm3)
        rwa [e] at this
      · refine jn_in (ifM.f rfl ?_)
        have h16 := bare_long hk
        have hrl := hr.len
        have hrc := hr.cap
        have hbig : (putB m).length < 1000000 := by
          rw [putB_len]
          have : rightB m = true := by
            unfold putE at he
            split at he
            · cases he
            · split at he
              · cases he
              · rename_i h; simpa using h
          have := body_len this
          omega
        have e1 : IntKind.i64.wrap ((r.len : Int) - 16) = (((putB m).length - 16 : Nat) : Int) := by rw [hrl, wrap_i64 (by omega) (by omega)]; omega
        rw [e1]
        have hb0 : bareE m = 0 := e.trans he
        have h2 := h w3 (r.sub 1 0 (((putB m).length - 16 : Nat) : Int).toNat r.cap) (by
          rw [bareX, if_pos hb0]
          have := RdS.sub (lo := 0) (hi := (putB m).length - 16) hr.1.rd (by omega) (by omega) (by omega)
          simp only [Nat.zero_mul, List.drop_zero, Nat.sub_zero, Nat.mul_one, ← List.map_take] at this
          exact this) (hm1.on0 hm3)
        rw [hb0] at h2
        exact ⟨by omega, by omega, h2⟩

set_option maxRecDepth 20000 in
theorem refs_spec {w : World} {K : Array Value → World → Prop} (h : ∀ w', Mod No w w' → K (mcells m q).toArray w') : C7 (mcells m q).toArray w K := by
  refine br7 ?_
  unfold sh7
  refine newV.mk fun b w1 hb hB hm1 => newV.mk fun b2 w2 hb2 hB2 hm2 => ?_
  have hB1 := hB.mod0 hm2
  simp only [add_at, Nat.zero_add]
  refine ldI.mk hB1 mc0 (ldA.part hB1 (by rw [mc_len]; omega) (ldA.part hB1 (by rw [mc_len]; omega) (ldS.mk hB1 mc33 (ldL.mk hB1 mc34 (ldL.mk hB1 mc35 (ldL.mk hB1 mc36 (ldA.part hB1 (by rw [mc_len]; omega) (ldB.mk hB1 mc53 (ldB.mk hB1 mc54 (ldA.part hB1 (by rw [mc_len]; omega) (ldI.mk hB1 mc71 ?_)))))))))))
  rw [mc_random, mc_share, mc_binder, mc_mark]
  refine ⟨(mcells m q).toArray, fun w => ?_, ?_⟩
  · refine run_buildS (z := Z34) (places := #[(0, 1), (1, 16), (17, 16), (33, 1), (34, 1), (35, 1), (36, 1), (37, 16), (53, 1), (54, 1), (55, 16), (71, 1)]) Try.runUnderlying34 zeroV34 (fun w => by kernel_rfl) ?_ ?_ (by rw [mc_len]; rfl) w
    · simp only [Contig, Value.cells, List.size_toArray, hc_len, Slc.v]
      simp
    · simp [cat, mcells, Value.cells, Slc.v, sv]
  · refine stA.all hB2 rfl (by simp [mc_len]) (by simpa using one_cells) fun w3 hB3 hm3 => ?_
    refine ldA.all hB3 (by simpa using mc_len) ?_
    exact h w3 ((hm1.on0 hm2).onNew hm3 (Nat.le_trans hm1.size hb2))

/-! ### 2. The law -/

theorem law_puts {w : World} {K : Bool → World → Prop} (hq : MsgAt w m q) (h : ∀ w', Mod No w w' → K true w') : C3 (mcells m q).toArray w K := by
  refine br3 ?_
  unfold sh3
  refine newV.mk fun b w1 hb hB hm1 => ldA.all hB mc_len (hput_all (hq.mod0 hm1) fun w2 x hx hm2 => ?_)
  have hM2 := hm1.on0 hm2
  refine ldA.all (hB.mod0 hm2) mc_len (hbare_all (hq.mod0 hM2) fun w3 y hy hm3 => ?_)
  have hM3 := hM2.on0 hm3
  refine ldA.all ((hB.mod0 hm2).mod0 hm3) mc_len (refs_spec fun w4 hm4 => ?_)
  have hM4 := hM3.on0 hm4
  refine rput_all (hq.mod0 hM4) fun w5 z hz hm5 => ?_
  have hM5 := hM4.on0 hm5
  refine ldA.all ((((hB.mod0 hm2).mod0 hm3).mod0 hm4).mod0 hm5) mc_len (refs_spec fun w6 hm6 => ?_)
  have hM6 := hM5.on0 hm6
  refine rbare_all (hq.mod0 hM6) fun w7 u hu hm7 => ?_
  have hM7 := hM6.on0 hm7
  have m27 : Mod No w2 w7 := (((hm3.on0 hm4).on0 hm5).on0 hm6).on0 hm7
  have m37 : Mod No w3 w7 := ((hm4.on0 hm5).on0 hm6).on0 hm7
  have m57 : Mod No w5 w7 := hm6.on0 hm7
  have hB7 := ((hB.mod0 hm2).mod0 m27)
  have hx7 := hx.mod0 m27
  have hz7 := hz.mod0 m57
  have hy7 : RdB w7 y (bareX m) := hy.mod m37 fun _ _ _ h => h
  have conv : ∀ {w : World} {s : Slc} {bs : List UInt8}, RdB w s bs → rn Try.prog (convert 25 9 s.v) (.string ⟨bs.toArray⟩) w w := fun h => run_b2s Try.underlying25 Try.underlying5 Try.underlying9 h
  refine jn_in (jn_in ?_)
  refine ⟨_, conv hx7.1.rd, _, conv hz7.1.rd, ifM.f (by simp) (ifM.f (by simp) ⟨_, conv hy7, _, conv hu, ifM.f (by simp) ?_⟩)⟩
  refine ifM.f (by simp) (jn_in ?_)
  have z1 := hm1.size
  have z2 := hm2.size
  have z25 := ((hm3.on0 hm4).on0 hm5).size
  have z24 := (hm3.on0 hm4).size
  have z27 := m27.size
  have hbl := hB.lt
  refine Lp.inv (fun (s : Int) w' => ∃ i : Nat, s = (i : Int) ∧ i ≤ (putX m).length ∧ Mod (fun c => x.a = some ⟨c, 0, none⟩) w7 w' ∧ ∃ bs, Mine (Old w1) w' x bs ∧ bs.length = (putX m).length) (fun s _ => ((putX m).length - s).toNat) ⟨0, rfl, by omega, Mod.refl _ _, _, hx7, rfl⟩ ?_
  rintro s w8 ⟨i, rfl, hi, hm8, bs, hbs, hlen⟩
  have hpx : (putX m).length < 1000000 := by
    unfold putX
    split
    · rename_i he
      rw [putB_len]
      have : rightB m = true := by
        unfold putE at he
        split at he
        · cases he
        · split at he
          · cases he
          · rename_i h; simpa using h
      have := body_len this
      omega
    · simp
  have hxl : x.len = (putX m).length := hx.len
  refine jn_in ?_
  rw [hxl]
  refine ⟨fun hc => ?_, fun hc => ?_⟩
  · have hlt : i < (putX m).length := by have : (i : Int) < (putX m).length := of_decide_eq_true hc; omega
    have e1 : IntKind.i64.wrap ((i : Int) + 1) = ((i + 1 : Nat) : Int) := wrap_i64 (by omega) (by omega)
    rw [e1]
    refine jn_in ?_
    obtain ⟨ho, hown⟩ := hbs
    rcases ho with ⟨hol, rfl | ⟨xb, rest, hxa, hxB, hrest, hcap⟩⟩
    · simp at hxl
      omega
    · obtain ⟨xa, xl, xc⟩ := x
      simp only at hxa hxl hcap hrest
      subst hxa
      have hib : i < bs.length := by omega
      have hcell : (bs.map u8 ++ rest)[0 + i]? = some (.int .u8 bs[i].toNat) := by
        rw [Nat.zero_add, List.getElem?_append_left (by simpa using hib)]
        simp [u8, hib]
      refine idx.mk (by omega) (by omega) ?_
      simp only [Int.toNat_natCast, Nat.mul_one]
      refine ldI.mk hxB hcell (idx.mk (by omega) (by omega) ?_)
      simp only [Int.toNat_natCast, Nat.mul_one]
      refine stV.mk hxB (by simp; omega) fun w9 hB9 hm9 => ⟨⟨i + 1, rfl, by omega, hm8.on hm9 fun c hc e => by rw [e], bs.set i (bs[i] + 1), ⟨⟨by simpa using hol, .inr ⟨xb, rest, rfl, ?_, by simpa using hrest, hcap⟩⟩, fun c hc => ⟨(hown c hc).1, Nat.lt_of_lt_of_le (hown c hc).2 hm9.size⟩⟩, by simpa using hlen⟩, by omega⟩
      have e2 : Value.int .u8 (IntKind.u8.wrap ((bs[i].toNat : Int) + 1)) = u8 (bs[i] + 1) := by
        have h2 : ∀ y : Int, (IntKind.u8.wrap y) = y % 256 := fun y => by
          simp only [IntKind.wrap, IntKind.signed, IntKind.bits, Bool.false_and, Bool.false_eq_true, if_false]
          rfl
        rw [h2]
        unfold u8
        congr 1
      rw [e2, Nat.zero_add, List.set_append_left _ _ (by simpa using hib), ← List.map_set] at hB9
      exact hB9
  · have hM8 : Mod No w w8 := hM7.on hm8 fun c hc e => (hx.2 c e).1 (by show c < w1.heap.size; omega)
    have hB8 : Blk w8 b (mcells m q) 27 := hB7.mod hm8 fun e => (hx.2 b e).1 hbl
    refine ldA.all hB8 mc_len (hput_all (hq.mod0 hM8) fun w9 v hv hm9 => jn_in ?_)
    have hz9 : RdB w9 z (putX m) := ((hz7.mod hm8 fun c e e' => (hz.2 c e).1 (by
      have := (hx.2 c e').2
      show c < w4.heap.size
      omega)).mod0 hm9).1.rd
    refine ⟨_, conv hv.1.rd, _, conv hz9, ifM.t (by simp) ?_⟩
    refine br9 ?_
    unfold sh9
    exact h w9 (hM8.on0 hm9)
end Go.Proofs.Yteoikkmpkhnalaa
