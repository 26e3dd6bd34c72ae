/-
  Slices: 'clear' of one element; the empty front of a slice.
-/
import Derived.Test.YtfgodebgjemljaaHs3
namespace Go.Sh
set_option linter.unusedVariables false

theorem run_clear1 {P : Program} {t e T : TypeId} {m c b : Nat} {z : Value} {zs cs : List Value} {w : World} (hu : ∀ w, (underlying t).run P w = .ok (.slice e) w) (hz : ∀ w, (zeroValue e).run P w = .ok z w) (hzs : z.cells = zs.toArray) (hm : zs.length = m)
    (h1 : ∀ v ∈ zs, one v = true) (hB : Blk w b cs T) (hl : m ≤ cs.length) :
    ∃ w', (∀ ty, (Builtin.clear_ #[t] ty #[(Slc.mk (some ⟨b, 0, none⟩) 1 c).v]).run P w = .ok (.tuple #[]) w') ∧ Blk w' b (zs ++ cs.drop m) T ∧ Mod (· = b) w w' := by
  obtain ⟨h2, h3⟩ := puts_blk (b := b) (T := T) (i0 := 0) zs 0 w cs hB (by omega)
  refine ⟨_, fun ty => ?_, by simpa [hm] using h2, h3⟩
  have hst : (storeCells (⟨b, 0, none⟩ : Addr) zs).run P w = .ok () (World.puts w ⟨b, 0, none⟩ zs 0) :=
    run_storeCells zs 0 w h1 (fun j hj => by
      rw [Nat.zero_add, add_at, Nat.zero_add]
      have hl : j < cs.length := by omega
      exact ⟨⟨_, hB.cell (List.getElem?_eq_getElem hl)⟩, hB.thaw hl⟩) (fun _ => .inr rfl)
  have hzc : (Builtin.zeroCells z.cells 1).toList = zs := by
    rw [hzs]
    apply List.ext_getElem
    · simp [Builtin.zeroCells]
    · intro i h1 h2
      simp [Builtin.zeroCells, Nat.mod_eq_of_lt h2, h2]
  simp only [Builtin.clear_, Slc.v, List.getElem?_toArray, List.getElem?_cons_zero, Sem.run_bind, hu, Result.andThen_ok, hz, hzc, hst, Sem.run_pure]

/-- the empty front of a slice of the call's own -/
theorem OwnS.front {w : World} {e : TypeId} {m : Nat} {s : Slc} {cs : List Value} (h : OwnS w e m s cs) : OwnS w e m (s.sub m 0 0 s.cap) [] := by
  refine ⟨by simp [Slc.sub], ?_⟩
  rcases h.2 with rfl | ⟨b, rest, h2, h3, h4, h5⟩
  · exact .inl rfl
  · refine .inr ⟨b, cs ++ rest, ?_, by simpa using h3, by simpa [Slc.sub] using h4, by simp [Slc.sub]⟩
    simp only [Slc.sub, h2]
    split
    · rfl
    · simp [Addr.add]
end Go.Sh
