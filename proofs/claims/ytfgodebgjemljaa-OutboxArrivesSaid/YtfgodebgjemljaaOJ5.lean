/-
  Inbox: a chain of pieces; New, Put, Read, where all that comes joins on to it.
-/
import Derived.Test.YtfgodebgjemljaaOH5
namespace Go.Proofs.Ytfgodebgjemljaa
open Go Go.Sh
set_option linter.unusedVariables false
set_option linter.unusedSimpArgs false

/-! ### 1. A chain of pieces -/

def pcs : List (List UInt8) → Nat → Int → Option (List UInt8)
  | [], _, _ => none
  | x :: r, p, k => if k = p then some x else pcs r (p + x.length) k
def stOf : List (List UInt8) → Nat → List Int
  | [], _ => []
  | x :: r, p => (p : Int) :: stOf r (p + x.length)

theorem stOf_len : ∀ (l : List (List UInt8)) (p : Nat), (stOf l p).length = l.length
  | [], _ => rfl
  | x :: r, p => by simp [stOf, stOf_len r]
theorem mem_stOf : ∀ {l : List (List UInt8)} {p : Nat} {k : Int}, k ∈ stOf l p ↔ (pcs l p k).isSome = true
  | [], _, _ => by simp [stOf, pcs]
  | x :: r, p, k => by
    unfold stOf pcs
    by_cases hk : k = p
    · simp [hk]
    · rw [if_neg hk, List.mem_cons, mem_stOf]
      simp [hk]
theorem pcs_low : ∀ {l : List (List UInt8)} {p : Nat} {k : Int}, k < p → pcs l p k = none
  | [], _, _, _ => rfl
  | x :: r, p, k, h => by
    unfold pcs
    rw [if_neg (by omega)]
    exact pcs_low (by omega)
theorem pos_tail {x : List UInt8} {r : List (List UInt8)} (h : ∀ y ∈ x :: r, y ≠ []) : 0 < x.length ∧ ∀ y ∈ r, y ≠ [] :=
  ⟨List.length_pos_iff.2 (h x (by simp)), fun y hy => h y (by simp [hy])⟩
theorem pcs_end : ∀ {l : List (List UInt8)} {p : Nat}, (∀ x ∈ l, x ≠ []) → pcs l p ((p + l.flatten.length : Nat) : Int) = none
  | [], _, _ => rfl
  | x :: r, p, h => by
    obtain ⟨h1, h2⟩ := pos_tail h
    unfold pcs
    have e : ((p + (x :: r).flatten.length : Nat) : Int) = ((p + x.length + r.flatten.length : Nat) : Int) := by simp; omega
    rw [e, if_neg (by omega)]
    exact pcs_end h2
theorem pcs_app : ∀ {l : List (List UInt8)} {p : Nat} {y : List UInt8} (k : Int), (∀ x ∈ l, x ≠ []) → pcs (l ++ [y]) p k = if k = ((p + l.flatten.length : Nat) : Int) then some y else pcs l p k
  | [], p, y, k, _ => by simp [pcs]
  | x :: r, p, y, k, h => by
    obtain ⟨h1, h2⟩ := pos_tail h
    have e : ((p + (x :: r).flatten.length : Nat) : Int) = ((p + x.length + r.flatten.length : Nat) : Int) := by simp; omega
    simp only [List.cons_append, pcs]
    rw [e, pcs_app k h2]
    by_cases hk : k = p
    · rw [if_pos hk, if_neg (by omega), if_pos hk]
    · rw [if_neg hk, if_neg hk]
theorem pcs_tail {x : List UInt8} {r : List (List UInt8)} {p : Nat} (hx : 0 < x.length) (k : Int) : pcs r (p + x.length) k = if k = p then none else pcs (x :: r) p k := by
  rw [show pcs (x :: r) p k = if k = p then some x else pcs r (p + x.length) k from rfl]
  by_cases hk : k = p
  · rw [if_pos hk]
    exact pcs_low (by omega)
  · rw [if_neg hk, if_neg hk]
theorem stOf_lt : ∀ {l : List (List UInt8)} {p : Nat}, (∀ x ∈ l, x ≠ []) → (stOf l p).Pairwise (· < ·) ∧ ∀ k ∈ stOf l p, (p : Int) ≤ k
  | [], _, _ => ⟨.nil, fun k h => by cases h⟩
  | x :: r, p, h => by
    obtain ⟨h1, h2⟩ := pos_tail h
    obtain ⟨h3, h4⟩ := stOf_lt (p := p + x.length) h2
    refine ⟨.cons (fun k hk => ?_) h3, fun k hk => ?_⟩
    · have := h4 k hk
      omega
    · rcases List.mem_cons.1 hk with rfl | hk
      · exact Int.le_refl _
      · have := h4 k hk
        omega
theorem flat_len : ∀ {l : List (List UInt8)}, (∀ x ∈ l, x ≠ []) → l.length ≤ l.flatten.length
  | [], _ => Nat.le_refl _
  | x :: r, h => by
    obtain ⟨h1, h2⟩ := pos_tail h
    have := flat_len h2
    rw [List.flatten_cons, List.length_append, List.length_cons]
    omega
/-- the i-th beginning -/
theorem stOf_get : ∀ {l : List (List UInt8)} {p i : Nat} (hi : i < l.length), (stOf l p)[i]? = some ((p + (l.take i).flatten.length : Nat) : Int)
  | x :: r, p, 0, _ => by simp [stOf]
  | x :: r, p, i + 1, hi => by
    simp only [stOf, List.getElem?_cons_succ, List.take_succ_cons]
    rw [stOf_get (by simpa using hi)]
    simp
    omega
theorem pcs_get : ∀ {l : List (List UInt8)} {p i : Nat} (hi : i < l.length), (∀ x ∈ l, x ≠ []) → pcs l p ((p + (l.take i).flatten.length : Nat) : Int) = some l[i]
  | x :: r, p, 0, _, _ => by simp [pcs]
  | x :: r, p, i + 1, hi, h => by
    obtain ⟨h1, h2⟩ := pos_tail h
    have e : ((p + ((x :: r).take (i + 1)).flatten.length : Nat) : Int) = ((p + x.length + (r.take i).flatten.length : Nat) : Int) := by simp; omega
    unfold pcs
    rw [e, if_neg (by omega), pcs_get (by simpa using hi) h2]
    simp

/-! ### 2. An inbox in memory -/

structure IF where
  ib : Nat
  mb : Nat
  l : PL
  c : Nat

structure InS where
  room : Nat
  place : Nat
  limit : Int
  reach : Int
  fin : Int
  known : Bool
  segs : List (List UInt8)

abbrev icells (v : IF) (q : InS) : List Value := [.bool true, iv q.room, iv q.place, iv q.limit, iv q.reach, iv q.fin, .bool q.known, .map (some v.mb)]

def Pc (w : World) : Option Slc → Option (List UInt8) → Prop
  | none, none => True
  | some s, some x => Mine 0 w s x
  | _, _ => False

structure InAt (w : World) (v : IF) (q : InS) : Prop where
  box : Blk w v.ib (icells v q) 83
  map : MapI w v.mb v.l v.c
  ne : v.ib ≠ v.mb
  pc : ∀ k, Pc w (lookP v.l k) (pcs q.segs q.place k)
  far : ∀ k s b, lookP v.l k = some s → s.a = some ⟨b, 0, none⟩ → b ≠ v.ib ∧ b ≠ v.mb
  pos : ∀ x ∈ q.segs, x ≠ []

def IF.fp (v : IF) (b : Nat) : Prop := b = v.ib ∨ b = v.mb ∨ ∃ k s, lookP v.l k = some s ∧ s.a = some ⟨b, 0, none⟩
/-- the blocks that a call may turn -/
def IF.own (v : IF) (b : Nat) : Prop := b = v.ib ∨ b = v.mb
def IF.ptr (v : IF) : Option Addr := some ⟨v.ib, 0, none⟩

variable {w w' : World} {v : IF} {q : InS}

theorem Pc.mod {S : Nat → Prop} {a : Option Slc} {b : Option (List UInt8)} (h : Pc w a b) (hm : Mod S w w') (hs : ∀ s c, a = some s → s.a = some ⟨c, 0, none⟩ → ¬ S c) : Pc w' a b := by
  cases a <;> cases b <;> try exact h
  rename_i s x
  exact Mine.mod (n := 0) h hm fun c hc => hs s c rfl hc

theorem InAt.lt (h : InAt w v q) : ∀ b, v.fp b → b < w.heap.size := by
  rintro b (rfl | rfl | ⟨k, s, hk, hs⟩)
  · exact h.box.lt
  · exact h.map.lt
  · have := h.pc k
    rw [hk] at this
    cases hp : pcs q.segs q.place k with
    | none => rw [hp] at this; exact this.elim
    | some x => rw [hp] at this; exact (Mine.new this b hs).2
theorem InAt.mod {S : Nat → Prop} (h : InAt w v q) (hm : Mod S w w') (hs : ∀ b, v.fp b → ¬ S b) : InAt w' v q :=
  ⟨h.box.mod hm (hs _ (.inl rfl)), h.map.mod hm (hs _ (.inr (.inl rfl))), h.ne, fun k => (h.pc k).mod hm fun s c h1 h2 => hs c (.inr (.inr ⟨k, s, h1, h2⟩)), h.far, h.pos⟩
theorem InAt.mod0 (h : InAt w v q) (hm : Mod No w w') : InAt w' v q := h.mod hm fun _ _ h => h
theorem InAt.new {b : Nat} (h : InAt w v q) (hm : Mod (· = b) w w') (hb : w.heap.size ≤ b) : InAt w' v q := h.mod hm fun c hc e => by
  have := h.lt c hc
  omega
/-- a block that is none of its own -/
theorem InAt.other {b : Nat} (h : InAt w v q) (hm : Mod (· = b) w w') (hb : ¬ v.fp b) : InAt w' v q := h.mod hm fun c hc e => hb (e ▸ hc)

/-- its numbers turn -/
theorem InAt.setBox {q' : InS} {cs : List Value} (h : InAt w v q) (hB : Blk w' v.ib cs 83) (hc : cs = icells v q') (hm : Mod (· = v.ib) w w') (h1 : q'.segs = q.segs) (h2 : q'.place = q.place) : InAt w' v q' := by
  refine ⟨hc ▸ hB, h.map.mod hm h.ne.symm, h.ne, fun k => ?_, h.far, by rw [h1]; exact h.pos⟩
  rw [h1, h2]
  exact (h.pc k).mod hm fun s c e1 e2 => (h.far k s c e1 e2).1

structure ITo (w : World) (v : IF) (w' : World) (v' : IF) : Prop where
  ib : v'.ib = v.ib
  mb : v'.mb = v.mb
  fp : ∀ b, v'.fp b → v.fp b ∨ w.heap.size ≤ b
  mod : Mod v.own w w'

theorem ITo.refl (w : World) (v : IF) : ITo w v w v := ⟨rfl, rfl, fun b h => .inl h, Mod.refl _ _⟩
theorem ITo.trans {w1 w2 : World} {v1 v2 : IF} (h : ITo w v w1 v1) (h' : ITo w1 v1 w2 v2) : ITo w v w2 v2 := by
  refine ⟨h'.ib.trans h.ib, h'.mb.trans h.mb, fun b hb => ?_, h.mod.on h'.mod fun b hb e => ?_⟩
  · rcases h'.fp b hb with e | e
    · exact h.fp b e
    · exact .inr (Nat.le_trans h.mod.size e)
  · unfold IF.own at e ⊢
    rw [h.ib, h.mb] at e
    exact e
theorem ITo.mod0 {w1 : World} {v1 : IF} (h : ITo w v w1 v1) (hm : Mod No w1 w') : ITo w v w' v1 := ⟨h.ib, h.mb, h.fp, h.mod.on0 hm⟩
theorem ITo.onNew {w1 : World} {v1 : IF} {b : Nat} (h : ITo w v w1 v1) (hm : Mod (· = b) w1 w') (hb : w.heap.size ≤ b) : ITo w v w' v1 := ⟨h.ib, h.mb, h.fp, h.mod.onNew hm hb⟩
theorem ITo.of0 (hm : Mod No w w') : ITo w v w' v := (ITo.refl w v).mod0 hm

/-! ### 3. Small calls -/

theorem inone_spec {K : Bool → World → Prop} (hv : InAt w v q) (h : K false w) : C42 v.ptr w K := by
  refine br42 ?_
  unfold sh42
  exact jn_in (ifM.f rfl (nn.mk (ldB.mk hv.box rfl h)))

theorem inew_spec {n : Nat} {K : Option Addr → Int → World → Prop} (hn : n ≤ 1048576) (h : ∀ w' v, InAt w' v ⟨n, 0, n, 0, 0, false, []⟩ → (∀ b, v.fp b → w.heap.size ≤ b) → Mod No w w' → K v.ptr 0 w') : C24 n w K := by
  refine br24 ?_
  unfold sh24
  refine jn_in (jn_in (ifM.f (by simp) (ifM.f (by simp; omega) (newM.mkS (enc := iv) (ve := Slc.v) fun mb w1 hmb hM m1 => newV.mk fun ib w2 hib hB m2 => ?_))))
  have z1 := m1.size
  have l1 := hM.lt
  refine h w2 ⟨ib, mb, [], 0⟩ ⟨hB, hM.mod m2 fun h => h, by show ib ≠ mb; omega, fun k => trivial, (fun k s b e => by cases e), (fun x h => by cases h)⟩ ?_ (m1.on0 m2)
  rintro b (rfl | rfl | ⟨k, s, e, _⟩)
  · omega
  · exact hmb
  · cases e

/-- all of a text up to hi came, and the part behind the place is kept -/
structure InQ (bs : List UInt8) (q : InS) (hi : Nat) : Prop where
  room : q.room = bs.length
  len : bs.length ≤ 1048576
  place : q.place ≤ hi ∧ hi ≤ bs.length
  cont : q.segs.flatten = (bs.drop q.place).take (hi - q.place)
  limit : bs.length ≤ q.limit ∧ q.limit ≤ 4000000
  reach : 0 ≤ q.reach ∧ q.reach ≤ bs.length
  fin : q.known = true → q.fin = bs.length

theorem InQ.flat {bs : List UInt8} {hi : Nat} (h : InQ bs q hi) : q.segs.flatten.length = hi - q.place := by
  have := h.place
  rw [h.cont, List.length_take, List.length_drop]
  omega

theorem ends_spec {bs : List UInt8} {hi t : Nat} {pf : Bool} {K : Int → World → Prop} (hv : InAt w v q) (hq : InQ bs q hi) (ht : t ≤ bs.length) (hpf : pf = true → t = bs.length) (h : K 0 w) : C43 v.ptr t pf w K := by
  refine br43 ?_
  unfold sh43
  have h1 := hq.limit
  have h2 := hq.reach
  refine jn_in (jn_in (nn.mk ?_))
  have tail : ∀ (J : Bool → Prop), J false → ifM pf (nn v.ptr fun p => ldI .i64 (p.add 4) w fun r => J (decide ((t : Int) < r))) (J false) := fun J hJ => ⟨fun hc => nn.mk (by
    have := hpf hc
    rw [add_at]
    refine ldI.mk hv.box rfl ?_
    rw [show decide ((t : Int) < q.reach) = false by simp; omega]
    exact hJ), fun _ => hJ⟩
  have last : ifM false (K 33 w) (nn v.ptr fun p21 => ldI .i64 (p21.add 3) w fun t22 => ifM (decide ((t : Int) > t22)) (K 30 w) (K 0 w)) := ifM.f rfl (nn.mk (by
    rw [add_at]
    exact ldI.mk hv.box rfl (ifM.f (by simp; omega) h)))
  rw [add_at]
  refine ldB.mk hv.box rfl ⟨fun hk => nn.mk ?_, fun hk => tail (fun b => ifM b _ _) last⟩
  have hf := hq.fin hk
  rw [add_at]
  refine ldI.mk hv.box rfl (ifM.f (by simp; omega) ⟨fun hc => nn.mk ?_, fun _ => last⟩)
  have := hpf hc
  rw [add_at]
  refine ldI.mk hv.box rfl (ifM.f (by simp; omega) (nn.mk ?_))
  rw [add_at]
  refine ldI.mk hv.box rfl ?_
  rw [show decide ((t : Int) < q.reach) = false by simp; omega]
  exact last

theorem bclone_spec {a : Slc} {bs : List UInt8} {K : Slc → World → Prop} (ha : RdB w a bs) (hn : bs.length < 100000000000)
    (h : ∀ r w', Mine w.heap.size w' r bs → Mod No w w' → K r w') : C45 a w K := by
  refine br45 ?_
  unfold sh45
  refine jn_in ⟨fun hc => ?_, fun hc => ?_⟩
  · have hnil : a.a = none := by simpa using hc
    have e : bs = [] := by
      rcases ha.2 with ⟨_, h⟩ | ⟨b, o, h, _⟩
      · have := ha.len
        exact List.eq_nil_of_length_eq_zero (by omega)
      · rw [hnil] at h; cases h
    subst e
    exact h _ _ (Mine.nil ..) (Mod.refl _ _)
  · refine newV.mk fun b w1 hb hB hm => ?_
    have h2 : a.len = bs.length := ha.len
    have own : OwnS w1 5 1 (Slc.mk (some ⟨b, 0, none⟩) 0 0) [] := ⟨rfl, .inr ⟨b, [], rfl, hB, rfl, Nat.le_refl _⟩⟩
    obtain ⟨r, w2, hr, ho, _, hm2, hp⟩ := run_append (t := 22) (t' := 22) elByte Try.runUnderlying22 Try.runUnderlying22 (fun k h => by cases h) own (ha.mod hm fun _ _ _ h => h) u8_one (by simp; omega) (by omega)
    refine ⟨r, w2, hr, h r w2 ⟨by simpa using ho, fun c hc => ⟨?_, OwnS.lt (by simpa using ho) hc⟩⟩ (hm.on hm2 fun c hc e => ?_)⟩
    · rcases hp with e | ⟨d, e, hd, _⟩
      · rw [e] at hc
        have : b = c := by simpa using hc
        omega
      · rw [e] at hc
        have : d = c := by simpa using hc
        have := hm.size
        omega
    · cases e
      omega
end Go.Proofs.Ytfgodebgjemljaa
