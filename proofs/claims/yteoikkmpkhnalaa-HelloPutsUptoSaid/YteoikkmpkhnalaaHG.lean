/-
  Hello: Bare.
-/
import Derived.Test.YteoikkmpkhnalaaHF
namespace Go.Proofs.Yteoikkmpkhnalaa
open Go Go.Sh
set_option linter.unusedVariables false
set_option linter.unusedSimpArgs false

variable {m : Msg} {q : Parts}

def bareE (m : Msg) : Int := if m.kind ≠ 1 ∨ m.ticket.length = 0 then 2 else putE m
def bareB (m : Msg) : List UInt8 := (putB m).take ((putB m).length - 16)

theorem putB_len (m : Msg) : (putB m).length = (bodyB m).length + 4 := by simp [putB, numB_len]; omega
theorem bare_long (hk : m.kind = 1) : 16 ≤ (putB m).length := by
  rw [putB_len]
  unfold bodyB
  rw [if_pos hk]
  have := m.random.2
  simp only [List.length_append]
  omega

theorem hbare_spec {w : World} {K : Slc → Int → World → Prop} (hq : MsgAt w m q) (hbad : bareE m ≠ 0 → ∀ w', Mod No w w' → K Slc.nil (bareE m) w')
    (hok : bareE m = 0 → ∀ w' r, RdB w' r (bareB m) → Mod No w w' → K r 0 w') : C5 (mcells m q).toArray w K := by
  refine br5 ?_
  unfold sh5
  refine newV.mk fun b w1 hb hB hm1 => jn_in ?_
  simp only [add_at, Nat.zero_add]
  have hl := hq.lens
  refine jn.mk (fun c w' => w' = w1 ∧ (c = true ↔ m.kind ≠ 1 ∨ m.ticket.length = 0)) ?_ ?_
  · intro kk hkk
    refine ldI.mk hB mc0 ⟨fun hc => hkk _ _ ⟨rfl, by simpa using .inl (by simpa using hc)⟩, fun hc => ldL.mk hB mc36 ?_⟩
    rw [hl.2.2]
    refine hkk _ _ ⟨rfl, ?_⟩
    have hk : m.kind = 1 := by simpa using hc
    simp [hk]
  · rintro c w2 ⟨rfl, hcc⟩
    refine ⟨fun hc => ?_, fun hc => ?_⟩
    · have e : bareE m = 2 := if_pos (hcc.1 hc)
      have := hbad (by rw [e]; decide) w2 hm1
      rwa [e] at this
    · have hn : ¬ (m.kind ≠ 1 ∨ m.ticket.length = 0) := fun h => by rw [hcc.2 h] at hc; cases hc
      have e : bareE m = putE m := if_neg hn
      have hk : m.kind = 1 := by
        by_cases h : m.kind = 1
        · exact h
        · exact absurd (.inl h) hn
      refine ldA.all hB mc_len (hput_spec (hq.mod0 hm1) (fun he w3 hm3 => ?_) fun he w3 r hr hm3 => ?_)
      · refine ifM.t (by simpa using he) ?_
        have := hbad (by rw [e]; exact he) w3 (hm1.on0 hm3)
        rwa [e] at this
      · refine ifM.f rfl ?_
        have h16 := bare_long hk
        have hrl := hr.len
        have hrc := hr.cap
        have hbig : (putB m).length < 1000000 := by
          rw [putB_len]
          have : rightB m = true := by
            unfold putE at he
            split at he
            · cases he
            · split at he
              · cases he
              · rename_i h; simpa using h
          have := body_len this
          omega
        have e1 : IntKind.i64.wrap ((r.len : Int) - 16) = (((putB m).length - 16 : Nat) : Int) := by rw [hrl, wrap_i64 (by omega) (by omega)]; omega
        rw [e1]
        refine ⟨by omega, by omega, hok (e.trans he) w3 _ ?_ (hm1.on0 hm3)⟩
        have := RdS.sub (lo := 0) (hi := (putB m).length - 16) hr.1.rd (by omega) (by omega) (by omega)
        simp only [Nat.zero_mul, List.drop_zero, Nat.sub_zero, Nat.mul_one, ← List.map_take] at this
        exact this
end Go.Proofs.Yteoikkmpkhnalaa
