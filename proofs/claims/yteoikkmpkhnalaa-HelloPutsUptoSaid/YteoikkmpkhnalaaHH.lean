/-
  Hello: the reference: what may be.
-/
import Derived.Test.YteoikkmpkhnalaaHG
namespace Go.Proofs.Yteoikkmpkhnalaa
open Go Go.Sh
set_option linter.unusedVariables false
set_option linter.unusedSimpArgs false

variable {m : Msg} {q : Parts}

theorem known_spec {w : World} {k : Int} {K : Bool → World → Prop} (h : K (knownB k) w) : C15 k w K := by
  refine br15 ?_
  unfold sh15
  unfold knownB at h
  refine jn_in ?_
  by_cases h1 : k = 1
  · exact ifM.t (by simp [h1]) (by simpa [h1] using h)
  refine ifM.f (by simpa using h1) ?_
  by_cases h2 : k = 2
  · exact ifM.t (by simp [h2]) (by simpa [h2] using h)
  refine ifM.f (by simpa using h2) ?_
  by_cases h3 : k = 4
  · exact ifM.t (by simp [h3]) (by simpa [h3] using h)
  refine ifM.f (by simpa using h3) ?_
  by_cases h4 : k = 8
  · exact ifM.t (by simp [h4]) (by simpa [h4] using h)
  refine ifM.f (by simpa using h4) ?_
  by_cases h5 : k = 11
  · exact ifM.t (by simp [h5]) (by simpa [h5] using h)
  refine ifM.f (by simpa using h5) ?_
  by_cases h6 : k = 15
  · exact ifM.t (by simp [h6]) (by simpa [h6] using h)
  refine ifM.f (by simpa using h6) ?_
  have b1 : (k == 1) = false := by simpa using h1
  have b2 : (k == 2) = false := by simpa using h2
  have b3 : (k == 4) = false := by simpa using h3
  have b4 : (k == 8) = false := by simpa using h4
  have b5 : (k == 11) = false := by simpa using h5
  have b6 : (k == 15) = false := by simpa using h6
  rw [b1, b2, b3, b4, b5, b6] at h
  exact h

def protosB (l : List (List UInt8)) (most : Nat) : Bool := decide (1 ≤ l.length) && (decide (l.length ≤ most) && !l.any oddS)

theorem rprotos_spec {w : World} {a : Slc} {l : List (List UInt8)} {most : Nat} {K : Bool → World → Prop} (ha : RdS w 1 a (l.map sv)) (hl : l.length < 1000000000) (h : K (protosB l most) w) : C22 a most w K := by
  refine br22 ?_
  unfold sh22
  have hlen : a.len = l.length := by have := ha.1; simpa using this.symm
  unfold protosB at h
  refine jn.mk (fun _ w' => w' = w ∧ l.any oddS = false) ?_ ?_
  · intro kk hkk
    refine Lp.inv (fun (s : Int) w' => w' = w ∧ ∃ i : Nat, s = (i : Int) ∧ i ≤ l.length ∧ (l.take i).any oddS = false) (fun s _ => (l.length - s).toNat) ⟨rfl, 0, rfl, by omega, by simp⟩ ?_
    rintro s w' ⟨rfl, i, rfl, hi, hno⟩
    rw [hlen]
    refine jn_in ⟨fun hc => ?_, fun hc => ?_⟩
    · have hlt : i < l.length := by have : (i : Int) < l.length := of_decide_eq_true hc; omega
      have e1 : IntKind.i64.wrap ((i : Int) + 1) = ((i + 1 : Nat) : Int) := wrap_i64 (by omega) (by omega)
      rw [e1]
      refine jn_in ?_
      have yes : oddS l[i] = true → K false w' := fun ho => by
        have : l.any oddS = true := List.any_eq_true.2 ⟨_, List.getElem_mem hlt, ho⟩
        rw [this] at h
        simpa using h
      have no : oddS l[i] = false → (l.take (i + 1)).any oddS = false := fun ho => by
        rw [List.take_add_one, List.getElem?_eq_getElem hlt, List.any_append, hno]
        simp [ho]
      refine jn_in (str_at' ha (List.getElem?_eq_getElem hlt) ?_)
      rw [bsize]
      refine ⟨fun hc => ifM.t rfl (yes ?_), fun hc => str_at' ha (List.getElem?_eq_getElem hlt) ?_⟩
      · have : (l[i].length : Int) < 1 := of_decide_eq_true hc
        simp only [oddS, Bool.or_eq_true, decide_eq_true_eq]
        omega
      · have h1 : ¬ (l[i].length : Int) < 1 := of_decide_eq_false hc
        rw [bsize]
        refine ⟨fun hc => yes ?_, fun hc => ⟨⟨rfl, i + 1, rfl, by omega, no ?_⟩, by omega⟩⟩
        · have : (l[i].length : Int) > 255 := of_decide_eq_true hc
          simp only [oddS, Bool.or_eq_true, decide_eq_true_eq]
          omega
        · have : ¬ (l[i].length : Int) > 255 := of_decide_eq_false hc
          simp only [oddS, Bool.or_eq_false_iff, decide_eq_false_iff_not]
          omega
    · have : ¬ (i : Int) < l.length := of_decide_eq_false hc
      rw [List.take_of_length_le (by omega)] at hno
      exact hkk () w' ⟨rfl, hno⟩
  · rintro _ w' ⟨rfl, hno⟩
    rw [hno] at h
    rw [hlen]
    have e1 : decide ((l.length : Int) ≥ 1) = decide (1 ≤ l.length) := dec_cast (a := 1)
    have e2 : decide ((l.length : Int) ≤ (most : Int)) = decide (l.length ≤ most) := dec_cast
    rw [e1, e2]
    refine jn_in ⟨fun hc => ?_, fun hc => ?_⟩
    · rw [hc] at h
      simpa using h
    · rw [hc] at h
      exact h
end Go.Proofs.Yteoikkmpkhnalaa
