/-
  Outbox: bytes of the call's own; sets of at most one span.
-/
import Derived.Test.YtfgodebgjemljaaBridge5
import Derived.Test.YtfgodebgjemljaaHe
import Derived.Test.YtfgodebgjemljaaHs3
namespace Go.Proofs.Ytfgodebgjemljaa
open Go Go.Sh
set_option linter.unusedVariables false
set_option linter.unusedSimpArgs false

theorem elByte : ElemT Try.prog 5 1 1 (.int .u8 0) where
  size := Try.sizeOf5
  info w := ⟨_, Try.typeInfo5 w, by kernel_rfl⟩
  zero := Try.zeroValue5
  zsize := rfl
theorem u8_one {l : List UInt8} : ∀ v ∈ l.map u8, one v = true := by
  intro v hv
  obtain ⟨y, _, rfl⟩ := List.mem_map.1 hv
  rfl
theorem elSpan : ElemT Try.prog 94 2 16 (.agg #[.int .i64 0, .int .i64 0]) where
  size := Try.sizeOf94
  info w := ⟨_, Try.typeInfo94 w, by kernel_rfl⟩
  zero := Try.zeroValue94
  zsize := rfl

/-- all that there is in w -/
abbrev Old (w : World) : Nat → Prop := fun c => c < w.heap.size

/-- bytes of the call's own, in a block newer than n -/
structure Mine (n : Nat) (w : World) (s : Slc) (bs : List UInt8) : Prop where
  own : OwnS w 5 1 s (bs.map u8)
  new : ∀ b, s.a = some ⟨b, 0, none⟩ → n ≤ b ∧ b < w.heap.size

variable {w w' : World} {n : Nat} {s s' x : Slc} {bs cs ys : List UInt8}

theorem OwnS.lt {w : World} {e : TypeId} {m : Nat} {s : Slc} {cs : List Value} {b : Nat} (h : OwnS w e m s cs) (hb : s.a = some ⟨b, 0, none⟩) : b < w.heap.size := by
  rcases h.2 with rfl | ⟨c, rest, h1, h2, _⟩
  · cases hb
  · rw [h1] at hb
    have : c = b := by simpa using hb
    exact this ▸ h2.lt
theorem Mine.len (h : Mine n w s bs) : s.len = bs.length := by
  have := h.own.1
  simpa using this.symm
theorem Mine.cap (h : Mine n w s bs) : s.len ≤ s.cap := by rcases h.own.2 with rfl | ⟨_, _, _, _, _, h⟩ <;> simp_all
theorem Mine.mod {S : Nat → Prop} (h : Mine n w s bs) (hm : Mod S w w') (hs : ∀ b, s.a = some ⟨b, 0, none⟩ → ¬ S b) : Mine n w' s bs := ⟨h.own.mod hm hs, fun b hb => ⟨(h.new b hb).1, Nat.lt_of_lt_of_le (h.new b hb).2 hm.size⟩⟩
theorem Mine.mod0 (h : Mine n w s bs) (hm : Mod No w w') : Mine n w' s bs := h.mod hm fun _ _ h => h
theorem Mine.nil (n : Nat) (w : World) : Mine n w Slc.nil [] := ⟨OwnS.nil .., fun b h => by cases h⟩

theorem rd_blk {w : World} {b : Nat} {cs : List Value} {T : TypeId} {n : Nat} (hB : Blk w b cs T) (hn : cs.length = n) : RdS w 1 (Slc.mk (some ⟨b, 0, none⟩) n n) cs :=
  ⟨by rw [hn, Nat.mul_one], .inr ⟨b, 0, rfl, fun _ => hB.lt, fun i hi => by rw [Nat.zero_add]; exact hB.cell' i⟩⟩

theorem cloneB_spec {w : World} {a : Slc} {bs : List UInt8} {K : Slc → World → Prop} (ha : RdB w a bs) (hn : bs.length < 100000000000)
    (h : ∀ r w', Mine w.heap.size w' r bs → Mod No w w' → K r w') : C30 a w K := by
  refine br30 ?_
  unfold sh30
  refine jn_in ⟨fun hc => ?_, fun hc => ?_⟩
  · have hnil : a.a = none := by simpa using hc
    have e : bs = [] := by
      rcases ha.2 with ⟨_, h⟩ | ⟨b, o, h, _⟩
      · have := ha.len
        exact List.eq_nil_of_length_eq_zero (by omega)
      · rw [hnil] at h; cases h
    subst e
    exact h _ _ (Mine.nil ..) (Mod.refl _ _)
  · refine newV.mk fun b w1 hb hB hm => ?_
    have h2 : a.len = bs.length := ha.len
    have own : OwnS w1 5 1 (Slc.mk (some ⟨b, 0, none⟩) 0 0) [] := ⟨rfl, .inr ⟨b, [], rfl, hB, rfl, Nat.le_refl _⟩⟩
    obtain ⟨r, w2, hr, ho, _, hm2, hp⟩ := run_append (t := 22) (t' := 22) elByte Try.runUnderlying22 Try.runUnderlying22 (fun k h => by cases h) own (ha.mod hm fun _ _ _ h => h) u8_one (by simp; omega) (by omega)
    refine ⟨r, w2, hr, h r w2 ⟨by simpa using ho, fun c hc => ⟨?_, OwnS.lt (by simpa using ho) hc⟩⟩ (hm.on hm2 fun c hc e => ?_)⟩
    · rcases hp with e | ⟨d, e, hd, _⟩
      · rw [e] at hc
        have : b = c := by simpa using hc
        omega
      · rw [e] at hc
        have : d = c := by simpa using hc
        have := hm.size
        omega
    · have : b = c := by simpa using e
      omega

/-! ### Sets of at most one span -/

def spanC : Option (Int × Int) → List Value
  | none => []
  | some p => [.int .i64 p.1, .int .i64 p.2]
def spanN : Option (Int × Int) → Nat
  | none => 0
  | some _ => 1

/-- numbers that a span may have -/
def SpOk (o : Option (Int × Int)) : Prop := ∀ p, o = some p → 0 ≤ p.1 ∧ p.1 ≤ p.2 ∧ p.2 ≤ 4611686018427387903

structure SetAt (w : World) (sb : Nat) (sl : Slc) (o : Option (Int × Int)) : Prop where
  box : Blk w sb [.bool true, sl.v] 89
  sp : OwnS w 94 2 sl (spanC o)
  ne : ∀ b, sl.a = some ⟨b, 0, none⟩ → b ≠ sb
  ok : SpOk o

theorem spanC_len (o : Option (Int × Int)) : (spanC o).length = spanN o * 2 := by cases o <;> rfl
theorem SetAt.len {sb : Nat} {sl : Slc} {o : Option (Int × Int)} (h : SetAt w sb sl o) : sl.len = spanN o := by
  have := h.sp.1
  rw [spanC_len] at this
  omega
theorem SetAt.cap {sb : Nat} {sl : Slc} {o : Option (Int × Int)} (h : SetAt w sb sl o) : sl.len ≤ sl.cap := by rcases h.sp.2 with rfl | ⟨_, _, _, _, _, h⟩ <;> simp_all

/-- the blocks of a set -/
def sfp (sb : Nat) (sl : Slc) (b : Nat) : Prop := b = sb ∨ sl.a = some ⟨b, 0, none⟩

theorem SetAt.lt {sb : Nat} {sl : Slc} {o : Option (Int × Int)} (h : SetAt w sb sl o) : ∀ b, sfp sb sl b → b < w.heap.size := by
  rintro b (rfl | hb)
  · exact h.box.lt
  · exact OwnS.lt h.sp hb
theorem SetAt.mod {S : Nat → Prop} {sb : Nat} {sl : Slc} {o : Option (Int × Int)} (h : SetAt w sb sl o) (hm : Mod S w w') (hs : ∀ b, sfp sb sl b → ¬ S b) : SetAt w' sb sl o :=
  ⟨h.box.mod hm (hs _ (.inl rfl)), h.sp.mod hm fun b hb => hs b (.inr hb), h.ne, h.ok⟩
theorem SetAt.mod0 {sb : Nat} {sl : Slc} {o : Option (Int × Int)} (h : SetAt w sb sl o) (hm : Mod No w w') : SetAt w' sb sl o := h.mod hm fun _ _ h => h

theorem rnew_spec {w : World} {K : Option Addr → World → Prop} (h : ∀ b w', w.heap.size ≤ b → SetAt w' b Slc.nil none → Mod No w w' → K (some ⟨b, 0, none⟩) w') : C27 w K := by
  refine br27 ?_
  unfold sh27
  exact newV.mk fun b w1 hb hB hm => h b w1 hb ⟨hB, OwnS.nil .., (fun b h => by cases h), fun p h => by cases h⟩ hm

theorem rnone_spec {w : World} {sb : Nat} {sl : Slc} {o : Option (Int × Int)} {K : Bool → World → Prop} (hs : SetAt w sb sl o) (h : K false w) : C53 (some ⟨sb, 0, none⟩) w K := by
  refine br53 ?_
  unfold sh53
  exact jn_in (ifM.f rfl (nn.mk (ldB.mk hs.box rfl h)))

theorem rwrong_spec {w : World} {sb : Nat} {sl : Slc} {o : Option (Int × Int)} {a b : Int} {K : Int → World → Prop} (hs : SetAt w sb sl o) (h0 : 0 ≤ a) (h1 : a ≤ b) (h2 : b ≤ 4611686018427387903) (h : K 0 w) : C49 (some ⟨sb, 0, none⟩) a b w K := by
  refine br49 ?_
  unfold sh49
  refine jn_in (rnone_spec hs (ifM.f rfl (jn_in (ifM.f (by simp; omega) (ifM.f (by simp; omega) ?_)))))
  exact ifM.f (by simp; omega) h

theorem span_ld {w : World} {sl : Slc} {p : Int × Int} {k : Array Value → Prop} (h : OwnS w 94 2 sl (spanC (some p))) (hk : k #[.int .i64 p.1, .int .i64 p.2]) : idx 2 sl 0 fun ad => ldA 2 ad w k := by
  obtain ⟨h1, h2⟩ := h
  have hl : sl.len = 1 := by simp [spanC] at h1; omega
  rcases h2 with rfl | ⟨b, rest, ha, hB, _, _⟩
  · simp at hl
  · obtain ⟨sa, sn, sc⟩ := sl
    simp only at ha hl
    subst ha hl
    have c := cells_at hB 0 2 (by simp [spanC])
    exact idx.mk (by decide) (by decide) ⟨_, by simpa [spanC] using c, hk⟩
theorem span_ld0 {w : World} {sl : Slc} {p : Int × Int} {k : Int → Prop} (h : OwnS w 94 2 sl (spanC (some p))) (hk : k p.1) : idx 2 sl 0 fun ad => ldI .i64 ad w k := by
  obtain ⟨h1, h2⟩ := h
  have hl : sl.len = 1 := by simp [spanC] at h1; omega
  rcases h2 with rfl | ⟨b, rest, ha, hB, _, _⟩
  · simp at hl
  · obtain ⟨sa, sn, sc⟩ := sl
    simp only at ha hl
    subst ha hl
    exact idx.mk (by decide) (by decide) (ldI.mk hB (by simp [spanC]) hk)
theorem span_ld1 {w : World} {sl : Slc} {p : Int × Int} {k : Int → Prop} (h : OwnS w 94 2 sl (spanC (some p))) (hk : k p.2) : idx 2 sl 0 fun ad => ldI .i64 (ad.add 1) w k := by
  obtain ⟨h1, h2⟩ := h
  have hl : sl.len = 1 := by simp [spanC] at h1; omega
  rcases h2 with rfl | ⟨b, rest, ha, hB, _, _⟩
  · simp at hl
  · obtain ⟨sa, sn, sc⟩ := sl
    simp only at ha hl
    subst ha hl
    exact idx.mk (by decide) (by decide) (by simp only [add_at]; exact ldI.mk hB (by simp [spanC]) hk)

theorem cmp_spec {p : Int × Int} {n : Int} {w : World} {K : Int → World → Prop} (h : ∀ w', Mod No w w' → K (IntKind.i64.wrap (p.2 - n)) w') : C58 #[.int .i64 p.1, .int .i64 p.2] n w K := by
  refine br58 ?_
  unfold sh58
  refine newV.mk fun b w1 hb hB hm => ?_
  rw [add_at]
  exact ldI.mk hB rfl (h w1 hm)

def fromI (o : Option (Int × Int)) (n : Int) : Int := match o with
  | none => 0
  | some p => if p.2 < n then 1 else 0

theorem bs_spec {w : World} {sl : Slc} {o : Option (Int × Int)} {n : Int} {K : Int → Bool → World → Prop} (hsp : OwnS w 94 2 sl (spanC o)) (hok : SpOk o) (hn : -4611686018427387904 ≤ n ∧ n ≤ 4611686018427387904)
    (h : ∀ r w', Mod No w w' → K (fromI o n) r w') : C57 sl n (Value.func (Fn.func 58) #[] #[]) w K := by
  refine br57 ?_
  unfold sh57
  have hl : sl.len = spanN o := by
    have := hsp.1
    rw [spanC_len] at this
    omega
  cases o with
  | none =>
    have hl0 : (sl.len : Int) = 0 := by rw [hl]; rfl
    rw [hl0]
    refine jn_in (Lp.unroll (jn_in (ifM.f (by decide) (jn_in (ifM.f (by decide) ?_)))))
    exact h _ w (Mod.refl _ _)
  | some p =>
    have hl1 : (sl.len : Int) = 1 := by rw [hl]; rfl
    rw [hl1]
    have hp := hok p rfl
    have ew : IntKind.i64.wrap (p.2 - n) = p.2 - n := wrap_i64 (by omega) (by omega)
    have e0 : IntKind.i64.wrap (shrZ .u64 (IntKind.u64.wrap (IntKind.i64.wrap ((0 : Int) + 1))) 1) = 0 := by decide
    refine jn_in (Lp.unroll (jn_in (ifM.t (by decide) ?_)))
    simp only [e0]
    refine span_ld hsp ⟨_, _, _, rfl, fun args w => rfl, ?_⟩
    show C58 #[.int .i64 p.1, .int .i64 p.2] n w _
    refine cmp_spec fun w1 hm1 => ?_
    rw [ew]
    refine ⟨fun hc => ?_, fun hc => ?_⟩
    · have hlt : p.2 < n := by have : p.2 - n < 0 := of_decide_eq_true hc; omega
      refine Lp.unroll (jn_in (ifM.f (by decide) ?_))
      have e1 : IntKind.i64.wrap ((0 : Int) + 1) = 1 := by decide
      simp only [e1]
      refine jn_in (ifM.f (by decide) ?_)
      have := h false w1 hm1
      rwa [show fromI (some p) n = 1 from if_pos hlt] at this
    · have hge : ¬ p.2 < n := by have : ¬ p.2 - n < 0 := of_decide_eq_false hc; omega
      refine Lp.unroll (jn_in (ifM.f (by decide) ?_))
      refine jn_in (ifM.t (by decide) (span_ld (hsp.mod (S := No) hm1 fun _ _ h => h) ⟨_, _, _, rfl, fun args w => rfl, ?_⟩))
      show C58 #[.int .i64 p.1, .int .i64 p.2] n w1 _
      refine cmp_spec fun w2 hm2 => ?_
      have := h (IntKind.i64.wrap (p.2 - n) == 0) w2 (hm1.on0 hm2)
      rwa [show fromI (some p) n = 0 from if_neg hge] at this

theorem from_spec {w : World} {sb : Nat} {sl : Slc} {o : Option (Int × Int)} {n : Int} {K : Int → World → Prop} (hs : SetAt w sb sl o) (hn : -4611686018427387904 ≤ n ∧ n ≤ 4611686018427387904)
    (h : ∀ w', Mod No w w' → K (fromI o n) w') : C50 (some ⟨sb, 0, none⟩) n w K := by
  refine br50 ?_
  unfold sh50
  refine nn.mk ?_
  rw [add_at]
  exact ldL.mk hs.box rfl (bs_spec hs.sp hs.ok hn fun r w' hm => h w' hm)

theorem one_span (o : Option (Int × Int)) : ∀ v ∈ spanC o, one v = true := by
  intro v hv
  cases o with
  | none => cases hv
  | some p =>
    simp only [spanC, List.mem_cons, List.not_mem_nil, or_false] at hv
    rcases hv with rfl | rfl <;> rfl

theorem cloneS_spec {w : World} {a : Slc} {o : Option (Int × Int)} {K : Slc → World → Prop} (ha : OwnS w 94 2 a (spanC o)) (h : ∀ r w', OwnS w' 94 2 r (spanC o) → Mod No w w' → K r w') : C56 a w K := by
  refine br56 ?_
  unfold sh56
  refine jn_in ⟨fun hc => ?_, fun hc => ?_⟩
  · have hnil : a.a = none := by simpa using hc
    rcases ha.2 with rfl | ⟨b, rest, hb, _⟩
    · exact h _ w ha (Mod.refl _ _)
    · rw [hnil] at hb; cases hb
  · have hB := Blk.new w #[] 94
    have hm := Mod.alloc w (.cells #[] 94)
    refine ⟨Slc.mk (some ⟨w.heap.size, 0, none⟩) 0 0, w.alloc (.cells #[] 94), by unfold rn; kernel_rfl, ?_⟩
    have hl : a.len = spanN o := by
      have := ha.1
      rw [spanC_len] at this
      omega
    have hl1 : spanN o ≤ 1 := by cases o <;> simp [spanN]
    have own : OwnS (w.alloc (.cells #[] 94)) 94 2 (Slc.mk (some ⟨w.heap.size, 0, none⟩) 0 0) [] := ⟨rfl, .inr ⟨w.heap.size, [], rfl, hB, rfl, Nat.le_refl _⟩⟩
    obtain ⟨r, w2, hr, ho, _, hm2, hp⟩ := run_append (t := 87) (t' := 87) elSpan Try.runUnderlying87 Try.runUnderlying87 (fun k h => by cases h) own (ha.mod (S := No) hm fun _ _ h => h).rd (one_span o) (by simp; omega) (by omega)
    refine ⟨r, w2, hr, h r w2 (by simpa using ho) (hm.on hm2 fun c hc e => ?_)⟩
    have : w.heap.size = c := by simpa using e
    omega
end Go.Proofs.Ytfgodebgjemljaa
