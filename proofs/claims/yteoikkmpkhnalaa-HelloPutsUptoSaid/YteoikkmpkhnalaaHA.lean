/-
  Hello: bytes of the call's own; numbers laid; what writes.
-/
import Derived.Test.YteoikkmpkhnalaaBridge
import Derived.Test.YteoikkmpkhnalaaHe
import Derived.Test.YteoikkmpkhnalaaHs3
namespace Go.Proofs.Yteoikkmpkhnalaa
open Go Go.Sh
set_option linter.unusedVariables false
set_option linter.unusedSimpArgs false

theorem elByte : ElemT Try.prog 5 1 1 (.int .u8 0) where
  size := Try.sizeOf5
  info w := ⟨_, Try.typeInfo5 w, by kernel_rfl⟩
  zero := Try.zeroValue5
  zsize := rfl
theorem u8_one {l : List UInt8} : ∀ v ∈ l.map u8, one v = true := by
  intro v hv
  obtain ⟨y, _, rfl⟩ := List.mem_map.1 hv
  rfl

/-! ### 1. Bytes of the call's own; A: the blocks that are kept -/

def Mine (A : Nat → Prop) (w : World) (s : Slc) (bs : List UInt8) : Prop := OwnS w 5 1 s (bs.map u8) ∧ ∀ b, s.a = some ⟨b, 0, none⟩ → ¬ A b ∧ b < w.heap.size
/-- the kept blocks are there -/
def Low (A : Nat → Prop) (w : World) : Prop := ∀ c, A c → c < w.heap.size
theorem Low.mod {A S : Nat → Prop} {w w' : World} (h : Low A w) (hm : Mod S w w') : Low A w' := fun c hc => Nat.lt_of_lt_of_le (h c hc) hm.size
theorem Low.new {A : Nat → Prop} {w : World} (h : Low A w) {b : Nat} (hb : w.heap.size ≤ b) : ¬ A b := fun e => by have := h b e; omega

abbrev Kp (A : Nat → Prop) (w w' : World) : Prop := Mod (fun c => ¬ A c) w w'

variable {A : Nat → Prop} {w w' : World} {s s' x : Slc} {bs cs ys : List UInt8}

theorem Mine.mod {S : Nat → Prop} (h : Mine A w s bs) (hm : Mod S w w') (hs : ∀ b, s.a = some ⟨b, 0, none⟩ → ¬ S b) : Mine A w' s bs := ⟨h.1.mod hm hs, fun b hb => ⟨(h.2 b hb).1, Nat.lt_of_lt_of_le (h.2 b hb).2 hm.size⟩⟩
theorem Mine.mod0 (h : Mine A w s bs) (hm : Mod No w w') : Mine A w' s bs := h.mod hm fun _ _ h => h
theorem Mine.nil (A : Nat → Prop) (w : World) : Mine A w Slc.nil [] := ⟨OwnS.nil .., fun b h => by cases h⟩
theorem Mine.less {A1 : Nat → Prop} (h : Mine A1 w s bs) (hs : ∀ c, A c → A1 c) : Mine A w s bs := ⟨h.1, fun b hb => ⟨fun e => (h.2 b hb).1 (hs b e), (h.2 b hb).2⟩⟩
theorem Mine.len (h : Mine A w s bs) : s.len = bs.length := by
  have := h.1.1
  simpa using this.symm
theorem Mine.cap (h : Mine A w s bs) : s.len ≤ s.cap := by rcases h.1.2 with rfl | ⟨_, _, _, _, _, h⟩ <;> simp_all
theorem Mine.empty {b : Nat} (hB : Blk w b [] 5) (hb : ¬ A b) : Mine A w (Slc.mk (some ⟨b, 0, none⟩) 0 0) [] :=
  ⟨⟨rfl, .inr ⟨b, [], rfl, hB, rfl, Nat.le_refl _⟩⟩, fun c hc => by
    have : b = c := by simpa using hc
    exact this ▸ ⟨hb, hB.lt⟩⟩

theorem Mine.grow (h : Mine A w s bs) (ho : OwnS w' 5 1 s' (bs.map u8 ++ cs.map u8)) (hm : Mod (fun b => s.a = some ⟨b, 0, none⟩) w w')
    (hp : s'.a = s.a ∨ ∃ b, s'.a = some ⟨b, 0, none⟩ ∧ w.heap.size ≤ b ∧ b < w'.heap.size) (hA : Low A w) : Mine A w' s' (bs ++ cs) := by
  refine ⟨by rw [List.map_append]; exact ho, fun b hb => ?_⟩
  have := hm.size
  rcases hp with e | ⟨c, e, hc, hc'⟩
  · have := h.2 b (e ▸ hb)
    exact ⟨this.1, by omega⟩
  · rw [e] at hb
    have : c = b := by simpa using hb
    subst this
    exact ⟨hA.new hc, hc'⟩

theorem Mine.app (h : Mine A w s bs) (hx : RdB w x ys) (hl : bs.length + ys.length < 1000000000000) (hA : Low A w) :
    ∃ (s' : Slc) (w' : World), (∀ ty, (Builtin.append_ #[25, 25] ty #[s.v, x.v]).run Try.prog w = .ok s'.v w') ∧ Mine A w' s' (bs ++ ys) ∧ Mod (fun b => s.a = some ⟨b, 0, none⟩) w w' ∧ Kp A w w' ∧ (s'.a = s.a ∨ ∃ b, s'.a = some ⟨b, 0, none⟩ ∧ w.heap.size ≤ b ∧ b < w'.heap.size) := by
  have h1 := h.len
  have h2 := hx.len
  obtain ⟨s', w', hr, ho, _, hm, hp, _⟩ := run_append' (t := 25) (t' := 25) elByte Try.runUnderlying25 Try.runUnderlying25 (fun k h => by cases h) h.1 hx u8_one (by omega) (by omega)
  exact ⟨s', w', hr, h.grow ho hm hp hA, hm, hm.weaken fun b _ e => (h.2 b e).1, hp⟩

theorem Mine.appS (h : Mine A w s bs) (hl : bs.length + ys.length < 1000000000000) (hA : Low A w) :
    ∃ (s' : Slc) (w' : World), (∀ ty, (Builtin.append_ #[25, 9] ty #[s.v, .string ⟨ys.toArray⟩]).run Try.prog w = .ok s'.v w') ∧ Mine A w' s' (bs ++ ys) ∧ Mod (fun b => s.a = some ⟨b, 0, none⟩) w w' ∧ Kp A w w' ∧ (s'.a = s.a ∨ ∃ b, s'.a = some ⟨b, 0, none⟩ ∧ w.heap.size ≤ b ∧ b < w'.heap.size) := by
  have h1 := h.len
  obtain ⟨s', w', hr, ho, _, hm, hp, _⟩ := run_appendS (t := 25) (t' := 9) elByte Try.runUnderlying25 Try.runUnderlying9 h.1 (bs := ys) (by omega) (by omega)
  exact ⟨s', w', hr, h.grow ho hm hp hA, hm, hm.weaken fun b _ e => (h.2 b e).1, hp⟩

theorem rd_blk {w : World} {b : Nat} {cs : List Value} {T : TypeId} {n : Nat} (hB : Blk w b cs T) (hn : cs.length = n) : RdS w 1 (Slc.mk (some ⟨b, 0, none⟩) n n) cs :=
  ⟨by rw [hn, Nat.mul_one], .inr ⟨b, 0, rfl, fun _ => hB.lt, fun i hi => by rw [Nat.zero_add]; exact hB.cell' i⟩⟩

/-- all that there is in w -/
abbrev Old (w : World) : Nat → Prop := fun c => c < w.heap.size
theorem Kp.old {w0 w w' : World} (h : Mod No w0 w) (h2 : Kp (Old w0) w w') : Mod No w0 w' := h.on h2 fun c hc e => e hc

theorem cloneB_spec {w : World} {a : Slc} {bs : List UInt8} {K : Slc → World → Prop} (ha : RdB w a bs) (hn : bs.length < 100000000000)
    (h : ∀ r w', Mine (Old w) w' r bs → Mod No w w' → K r w') : C30 a w K := by
  refine br30 ?_
  unfold sh30
  refine jn_in ⟨fun hc => ?_, fun hc => ?_⟩
  · have hnil : a.a = none := by simpa using hc
    have e : bs = [] := by
      rcases ha.2 with ⟨_, h⟩ | ⟨b, o, h, _⟩
      · have := ha.len
        exact List.eq_nil_of_length_eq_zero (by omega)
      · rw [hnil] at h; cases h
    subst e
    exact h _ _ (Mine.nil ..) (Mod.refl _ _)
  · refine newV.mk fun b w1 hb hB hm => ?_
    obtain ⟨r, w2, hr, ho, _, hk2, _⟩ := (Mine.empty (A := Old w) hB (Nat.not_lt.2 hb)).app (ha.mod hm fun _ _ _ h => h) (by simp; omega) (fun c hc => Nat.lt_of_lt_of_le hc hm.size)
    exact ⟨r, w2, hr, h r w2 (by simpa using ho) (Kp.old hm hk2)⟩

/-! ### 2. Numbers laid -/

def byteN (v : Int) (k : Nat) : UInt8 := UInt8.ofNat (v.fdiv (2 ^ (8 * k)) % 256).toNat
def numB (v : Int) (n : Nat) : List UInt8 := (List.range n).map fun i => byteN v (n - 1 - i)
theorem numB_len (v : Int) (n : Nat) : (numB v n).length = n := by simp [numB]

theorem byteN_val (v : Int) (k : Nat) (hk : k < 8) : Value.int .u8 (IntKind.u8.wrap (shrZ .u64 v (8 * (k : Int)))) = u8 (byteN v k) := by
  have e : (8 * (k : Int)).toNat = 8 * k := by omega
  have hm : min (8 * k) 64 = 8 * k := by omega
  unfold u8 byteN shrZ
  simp only [IntKind.bits, e, hm]
  generalize v.fdiv (2 ^ (8 * k)) = y
  have h2 : (IntKind.u8.wrap y) = y % 256 := by
    simp only [IntKind.wrap, IntKind.signed, IntKind.bits, Bool.false_and, Bool.false_eq_true, if_false]
    rfl
  rw [h2]
  congr 1
  have h0 : 0 ≤ y % 256 := Int.emod_nonneg _ (by decide)
  have h1 : y % 256 < 256 := Int.emod_lt_of_pos _ (by decide)
  rw [UInt8.toNat_ofNat']
  omega

theorem lay_spec {w : World} {a : Slc} {bs : List UInt8} {v : Int} {n : Nat} {K : Slc → World → Prop} (ha : RdB w a bs) (hb : bs.length < 100000000000) (hn : n ≤ 8)
    (h : ∀ r w', Mine (Old w) w' r (bs ++ numB v n) → Mod No w w' → K r w') : C28 a v n w K := by
  refine br28 ?_
  unfold sh28
  refine cloneB_spec ha hb fun r w1 hr hm1 => jn_in ?_
  refine Lp.inv (fun (s : Slc × Int) w' => ∃ i : Nat, s.2 = (i : Int) ∧ i ≤ n ∧ Mod No w w' ∧ Mine (Old w) w' s.1 (bs ++ (numB v n).take i)) (fun s _ => (n - s.2).toNat) ⟨0, rfl, by omega, hm1, by simpa using hr⟩ ?_
  rintro ⟨s, j⟩ w2 ⟨i, hi, hin, hm2, hs⟩
  simp only at hi hs ⊢
  subst hi
  refine ⟨fun hc => ?_, fun hc => ?_⟩
  · have hlt : i < n := by have : (i : Int) < n := of_decide_eq_true hc; omega
    have e1 : IntKind.i64.wrap ((n : Int) - 1) = n - 1 := wrap_i64 (by omega) (by omega)
    have e2 : IntKind.i64.wrap ((n : Int) - 1 - i) = ((n - 1 - i : Nat) : Int) := by rw [wrap_i64 (by omega) (by omega)]; omega
    have e3 : IntKind.i64.wrap (8 * ((n - 1 - i : Nat) : Int)) = 8 * ((n - 1 - i : Nat) : Int) := wrap_i64 (by omega) (by omega)
    have e4 : IntKind.i64.wrap ((i : Int) + 1) = ((i + 1 : Nat) : Int) := wrap_i64 (by omega) (by omega)
    rw [e1, e2, e3, e4, byteN_val _ _ (by omega)]
    refine jn_in ⟨by omega, newV.mk fun b w3 hb3 hB hm3 => ?_⟩
    obtain ⟨s', w4, hr4, hs4, _, hk4, _⟩ := (hs.mod0 hm3).app (ys := [byteN v (n - 1 - i)]) (rd_blk hB rfl) (by simp [numB_len]; omega) (fun c hc => Nat.lt_of_lt_of_le hc (hm2.on0 hm3).size)
    have hm4 := Kp.old (hm2.on0 hm3) hk4
    refine ⟨s', w4, hr4, ⟨i + 1, rfl, by omega, hm4, ?_⟩, by omega⟩
    have e5 : (numB v n).take (i + 1) = (numB v n).take i ++ [byteN v (n - 1 - i)] := by
      rw [List.take_add_one, List.getElem?_eq_getElem (by rw [numB_len]; omega)]
      simp [numB]
    rw [e5, ← List.append_assoc]
    exact hs4
  · have : ¬ (i : Int) < n := of_decide_eq_false hc
    have e : i = n := by omega
    subst e
    refine h s w2 ?_ hm2
    rw [List.take_of_length_le (by rw [numB_len]; omega)] at hs
    exact hs

theorem Put_spec {w : World} {a : Slc} {bs : List UInt8} {v : Int} {n : Nat} {K : Slc → Int → World → Prop} (ha : RdB w a bs) (hb : bs.length < 100000000000) (h1 : 1 ≤ n) (hn : n ≤ 8)
    (h : ∀ r w', Mine (Old w) w' r (bs ++ numB v n) → Mod No w w' → K r 0 w') : C21 a v n w K := by
  refine br21 ?_
  unfold sh21
  refine jn_in (jn_in (ifM.f (by simp; omega) (ifM.f (by simp; omega) ?_)))
  exact lay_spec ha hb hn fun r w' => h r w'

/-! ### 3. What writes -/

/-- a 'writing' at the block wb holds bs -/
def Wr (A : Nat → Prop) (w : World) (wb : Nat) (bs : List UInt8) : Prop := ∃ s, Blk w wb [s.v] 42 ∧ Mine A w s bs ∧ s.a ≠ some ⟨wb, 0, none⟩ ∧ ¬ A wb

theorem Wr.mod0 {wb : Nat} (h : Wr A w wb bs) (hm : Mod No w w') : Wr A w' wb bs := by
  obtain ⟨s, h1, h2, h3, h4⟩ := h
  exact ⟨s, h1.mod0 hm, h2.mod0 hm, h3, h4⟩
theorem Wr.less {A1 : Nat → Prop} {wb : Nat} (h : Wr A1 w wb bs) (hs : ∀ c, A c → A1 c) : Wr A w wb bs := by
  obtain ⟨s, h1, h2, h3, h4⟩ := h
  exact ⟨s, h1, h2.less hs, h3, fun e => h4 (hs _ e)⟩
/-- one block more is kept, that is newer than what is written to -/
theorem Wr.more {w1 : World} {wb b : Nat} (h : Wr A w wb bs) (hb : w.heap.size ≤ b) (hm : Mod No w w1) : Wr (fun c => A c ∨ c = b) w1 wb bs := by
  obtain ⟨s, h1, h2, h3, h4⟩ := h
  have := h1.lt
  refine ⟨s, h1.mod0 hm, ⟨(h2.mod0 hm).1, fun c hc => ⟨fun e => ?_, ((h2.mod0 hm).2 c hc).2⟩⟩, h3, fun e => e.elim h4 fun e => by omega⟩
  have hc2 := (h2.2 c hc).2
  exact e.elim (h2.2 c hc).1 fun e => by omega

/-- the slice of a 'writing' turned -/
theorem Wr.st {wb : Nat} {K : World → Prop} (hB : Blk w wb [s.v] 42) (hwb : ¬ A wb) (hs : Mine A w s' bs) (hne : s'.a ≠ some ⟨wb, 0, none⟩)
    (h : ∀ w', Wr A w' wb bs → Kp A w w' → K w') : stV ⟨wb, 0, none⟩ s'.v w K :=
  stV.mk hB (by simp) fun w' hB' hm => h w' ⟨s', hB', hs.mod hm fun b hb e => hne (e ▸ hb), hne, hwb⟩ (hm.weaken fun c _ e => e ▸ hwb)

theorem Kp.on {w1 w2 : World} (h : Kp A w w1) (h2 : Kp A w1 w2) : Kp A w w2 := Mod.on h h2 fun _ _ h => h

theorem hslice {b : Nat} {hh : Hd} {T : TypeId} (hB : Blk w b (hh.1.map u8) T) : RdB w (Slc.sub ⟨some ⟨b, 0, none⟩, 16, 16⟩ 1 0 16 16) hh.1 := by
  have e : Slc.sub ⟨some ⟨b, 0, none⟩, 16, 16⟩ 1 0 16 16 = ⟨some ⟨b, 0, none⟩, 16, 16⟩ := by simp [Slc.sub, add_at]
  rw [e]
  exact rd_blk hB (by simp [hh.2])

theorem handle_spec {wb : Nat} {hh : Hd} {K : World → Prop} (hw : Wr A w wb bs) (hA : Low A w) (hb : bs.length < 100000000)
    (h : ∀ w', Wr A w' wb (bs ++ hh.1) → Kp A w w' → K w') : C19 (some ⟨wb, 0, none⟩) (hh.1.map u8).toArray w K := by
  refine br19 ?_
  unfold sh19
  refine newV.mk fun b w1 hb1 hB1 hm1 => drw.mk fun w2 hm2 => nn.mk ?_
  have hm12 : Mod No w w2 := hm1.on0 hm2
  obtain ⟨s, h1, h2, h3, h4⟩ := hw.mod0 hm12
  refine ldL.mk h1 rfl ?_
  obtain ⟨s', w3, hr, hs', hm3, hk3, hp⟩ := h2.app (hslice (hB1.mod0 hm2)) (by rw [hh.2]; omega) (hA.mod hm12)
  refine ⟨s', w3, hr, nn.mk ?_⟩
  have hwl := h1.lt
  refine Wr.st (h1.mod hm3 fun e => h3 e) h4 hs' (fun e => ?_) fun w' g1 g2 => h w' g1 (Kp.on (Kp.on hm12.of0 hk3) g2)
  rcases hp with e' | ⟨c, e', hc, _⟩
  · exact h3 (e' ▸ e)
  · rw [e'] at e
    have : c = wb := by simpa using e
    omega

theorem number_spec {wb : Nat} {v : Int} {n : Nat} {K : World → Prop} (hw : Wr A w wb bs) (hA : Low A w) (hb : bs.length < 100000000) (hv : 0 ≤ v) (hv2 : v ≤ 9223372036854775807) (h1n : 1 ≤ n) (hn : n ≤ 8)
    (h : ∀ w', Wr A w' wb (bs ++ numB v n) → Kp A w w' → K w') : C13 (some ⟨wb, 0, none⟩) v n w K := by
  refine br13 ?_
  unfold sh13
  obtain ⟨s, h1, h2, h3, h4⟩ := hw
  refine nn.mk (ldL.mk h1 rfl ?_)
  rw [wrap_u64 hv (by omega)]
  refine Put_spec h2.1.rd (by omega) h1n hn fun r w1 hr hm1 => nn.mk ?_
  have hwl := h1.lt
  refine Wr.st (h1.mod0 hm1) h4 (hr.less hA) (fun e => (hr.2 _ e).1 hwl) fun w' g1 g2 => h w' g1 (Kp.on hm1.of0 g2)

theorem text_spec {wb : Nat} {n : Nat} {K : World → Prop} (hw : Wr A w wb bs) (hA : Low A w) (hb : bs.length < 10000000) (hy : ys.length < 10000000) (h1n : 1 ≤ n) (hn : n ≤ 8)
    (h : ∀ w', Wr A w' wb (bs ++ numB ys.length n ++ ys) → Kp A w w' → K w') : C14 (some ⟨wb, 0, none⟩) (⟨ys.toArray⟩ : ByteArray) n w K := by
  refine br14 ?_
  unfold sh14
  have hsz : (⟨ys.toArray⟩ : ByteArray).size = ys.length := by simp [ByteArray.size]
  rw [hsz]
  refine number_spec hw hA (by omega) (by omega) (by omega) h1n hn fun w1 hw1 hm1 => nn.mk ?_
  obtain ⟨s, h1, h2, h3, h4⟩ := hw1
  refine ldL.mk h1 rfl ?_
  obtain ⟨s', w3, hr, hs', hm3, hk3, hp⟩ := h2.appS (ys := ys) (by rw [List.length_append, numB_len]; omega) (hA.mod hm1)
  refine ⟨s', w3, hr, nn.mk ?_⟩
  have hwl := h1.lt
  refine Wr.st (h1.mod hm3 fun e => h3 e) h4 hs' (fun e => ?_) fun w' g1 g2 => h w' g1 (Kp.on (Kp.on hm1 hk3) g2)
  rcases hp with e' | ⟨c, e', hc, _⟩
  · exact h3 (e' ▸ e)
  · rw [e'] at e
    have : c = wb := by simpa using e
    omega
end Go.Proofs.Yteoikkmpkhnalaa
