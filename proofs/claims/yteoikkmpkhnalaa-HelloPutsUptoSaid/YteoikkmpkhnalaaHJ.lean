/-
  Hello: the reference: a message's bytes.
-/
import Derived.Test.YteoikkmpkhnalaaHI
namespace Go.Proofs.Yteoikkmpkhnalaa
open Go Go.Sh
set_option linter.unusedVariables false
set_option linter.unusedSimpArgs false

theorem u8w (v : Int) (k : Nat) : Value.int .u8 (IntKind.u8.wrap (v.fdiv (2 ^ (8 * k)))) = u8 (byteN v k) := by
  unfold u8 byteN
  generalize v.fdiv (2 ^ (8 * k)) = y
  have h2 : (IntKind.u8.wrap y) = y % 256 := by
    simp only [IntKind.wrap, IntKind.signed, IntKind.bits, Bool.false_and, Bool.false_eq_true, if_false]
    rfl
  rw [h2]
  congr 1
  have h0 : 0 ≤ y % 256 := Int.emod_nonneg _ (by decide)
  have h1 : y % 256 < 256 := Int.emod_lt_of_pos _ (by decide)
  rw [UInt8.toNat_ofNat']
  omega
theorem u8w0 (v : Int) : Value.int .u8 (IntKind.u8.wrap v) = u8 (byteN v 0) := by
  have := u8w v 0
  simpa using this
theorem u8s (v : Int) (k : Nat) (hk : k < 8) {s : Int} (hs : s = 8 * k) : Value.int .u8 (IntKind.u8.wrap (shrZ .i64 v s)) = u8 (byteN v k) := by
  have e : s.toNat = 8 * k := by omega
  have hm : min (8 * k) 64 = 8 * k := by omega
  unfold shrZ
  simp only [IntKind.bits, e, hm]
  exact u8w v k
theorem numB1 (v : Int) : numB v 1 = [byteN v 0] := rfl
theorem numB2 (v : Int) : numB v 2 = [byteN v 1, byteN v 0] := rfl
theorem numB3 (v : Int) : numB v 3 = [byteN v 2, byteN v 1, byteN v 0] := rfl
theorem numB4 (v : Int) : numB v 4 = [byteN v 3, byteN v 2, byteN v 1, byteN v 0] := rfl

variable {A : Nat → Prop} {w : World} {s : Slc} {bs ys : List UInt8} {m : Msg} {q : Parts}

theorem short_spec {K : Slc → World → Prop} (hs : Mine A w s bs) (hA : Low A w) (hb : bs.length < 100000000) (hy : ys.length < 100000000) (h : ∀ t w', Mine A w' t (bs ++ short ys) → Kp A w w' → K t w') : C23 s (⟨ys.toArray⟩ : ByteArray) w K := by
  refine br23 ?_
  unfold sh23
  rw [bsize, u8w0]
  refine newV.mk fun b w1 hb1 hB hm1 => ?_
  obtain ⟨t1, w2, hr1, hs1, _, hk1, _⟩ := (hs.mod0 hm1).app (ys := [byteN ys.length 0]) (rd_blk hB rfl) (by simp; omega) (hA.mod hm1)
  refine ⟨t1, w2, hr1, ?_⟩
  have hA2 := (hA.mod hm1).mod hk1
  obtain ⟨t2, w3, hr2, hs2, _, hk2, _⟩ := hs1.appS (ys := ys) (by simp; omega) hA2
  refine ⟨t2, w3, hr2, h t2 w3 ?_ (Kp.on (Kp.on hm1.of0 hk1) hk2)⟩
  simpa [short, numB1] using hs2

theorem long_spec {x : Slc} {K : Slc → World → Prop} (hs : Mine A w s bs) (hA : Low A w) (hx : ∀ w', Kp A w w' → RdB w' x ys) (hb : bs.length < 100000000) (hy : ys.length < 100000000) (h : ∀ t w', Mine A w' t (bs ++ long ys) → Kp A w w' → K t w') : C25 s x w K := by
  refine br25 ?_
  unfold sh25
  have hxl : x.len = ys.length := (hx w (Mod.refl _ _)).len
  have e1 : IntKind.i64.wrap (((x.len : Nat) : Int).tdiv 256) = (ys.length : Int).fdiv (2 ^ (8 * 1)) := by
    rw [hxl, Int.tdiv_eq_ediv_of_nonneg (by omega), wrap_i64 (by omega) (by omega), Int.fdiv_eq_ediv_of_nonneg _ (by decide)]
    rfl
  rw [e1, u8w, hxl, u8w0]
  refine newV.mk fun b w1 hb1 hB hm1 => ?_
  obtain ⟨t1, w2, hr1, hs1, _, hk1, _⟩ := (hs.mod0 hm1).app (ys := [byteN ys.length 1, byteN ys.length 0]) (rd_blk hB rfl) (by simp; omega) (hA.mod hm1)
  refine ⟨t1, w2, hr1, ?_⟩
  have hA2 := (hA.mod hm1).mod hk1
  have hk12 := Kp.on (hm1.of0 (S := fun c => ¬ A c)) hk1
  obtain ⟨t2, w3, hr2, hs2, _, hk2, _⟩ := hs1.app (hx w2 hk12) (by simp; omega) hA2
  refine ⟨t2, w3, hr2, h t2 w3 ?_ (Kp.on hk12 hk2)⟩
  simpa [long, numB2] using hs2

theorem flag_spec {x y : Bool} {K : Slc → World → Prop} (hs : Mine A w s bs) (hA : Low A w) (hb : bs.length < 100000000) (h : ∀ t w', Mine A w' t (bs ++ [flagB x y]) → Kp A w w' → K t w') : C24 s x y w K := by
  refine br24 ?_
  unfold sh24
  have fin : ∀ v : Int, Value.int .u8 v = u8 (flagB x y) → newV 5 #[.int .u8 v] w fun p20 w19 => ∃ (t22 : Slc) (w21 : World), (∀ t, rn Try.prog (Builtin.append_ #[25, 25] t #[s.v, (Slc.mk (some p20) 1 1).v]) t22.v w19 w21) ∧ K t22 w21 := fun v hv => by
    rw [hv]
    refine newV.mk fun b w1 hb1 hB hm1 => ?_
    obtain ⟨t1, w2, hr1, hs1, _, hk1, _⟩ := (hs.mod0 hm1).app (ys := [flagB x y]) (rd_blk hB rfl) (by simp; omega) (hA.mod hm1)
    exact ⟨t1, w2, hr1, h t1 w2 hs1 (Kp.on hm1.of0 hk1)⟩
  refine jn_in ?_
  cases x <;> cases y
  · exact ifM.f rfl (jn_in (ifM.f rfl (fin _ rfl)))
  · exact ifM.f rfl (jn_in (ifM.t rfl (fin _ rfl)))
  · exact ifM.t rfl (jn_in (ifM.f rfl (fin _ rfl)))
  · exact ifM.t rfl (jn_in (ifM.t rfl (fin _ rfl)))

/-- sixteen bytes of a message in its block -/
theorem hpart {b o : Nat} {T : TypeId} {hh : Hd} (hB : Blk w b (mcells m q) T) (ho : o + 16 ≤ 72) (e : ((mcells m q).drop o).take 16 = hc hh) : RdB w (Slc.sub ⟨some ⟨b, o, none⟩, 16, 16⟩ 1 0 16 16) hh.1 := by
  have e0 : Slc.sub ⟨some ⟨b, o, none⟩, 16, 16⟩ 1 0 16 16 = ⟨some ⟨b, o, none⟩, 16, 16⟩ := by simp [Slc.sub, add_at]
  rw [e0]
  refine ⟨by simp [hh.2], .inr ⟨b, o, rfl, fun _ => hB.lt, fun i hi => ?_⟩⟩
  have hi' : i < 16 := by simpa [hh.2] using hi
  rw [hB.cell']
  have : (hc hh)[i]? = (mcells m q)[o + i]? := by
    rw [← e]
    simp [List.getElem?_take, hi']
  exact this.symm
end Go.Proofs.Yteoikkmpkhnalaa
