/-
  Hello: messages in memory; flags; kinds; what may be.
-/
import Derived.Test.YteoikkmpkhnalaaHA
namespace Go.Proofs.Yteoikkmpkhnalaa
open Go Go.Sh
set_option linter.unusedVariables false
set_option linter.unusedSimpArgs false

/-! ### 1. Messages -/

structure Msg where
  kind : Int
  random : Hd
  share : Hd
  name : List UInt8
  protos : List (List UInt8)
  params : List UInt8
  ticket : List UInt8
  binder : Hd
  early : Bool
  again : Bool
  mark : Hd
  life : Int

def hc (h : Hd) : List Value := h.1.map u8
theorem hc_len (h : Hd) : (hc h).length = 16 := by simp [hc, h.2]
def sv (s : List UInt8) : Value := .string ⟨s.toArray⟩

structure Parts where
  ps : Slc
  pr : Slc
  tk : Slc

def mcells (m : Msg) (q : Parts) : List Value :=
  .int .i64 m.kind :: (hc m.random ++ (hc m.share ++ (sv m.name :: q.ps.v :: q.pr.v :: q.tk.v :: (hc m.binder ++ (.bool m.early :: .bool m.again :: (hc m.mark ++ [.int .i64 m.life]))))))

variable {m : Msg} {q : Parts}
theorem mc_len : (mcells m q).length = 72 := by simp [mcells, hc_len]
theorem mc_at {a b : List Value} {v : Value} {i n : Nat} (h : (a ++ b)[i]? = some v) (h2 : a.length = n) (h3 : n ≤ i) : b[i - n]? = some v := by
  rw [List.getElem?_append_right (by omega), h2] at h
  exact h
theorem mc_rest1 : (mcells m q).drop 33 = sv m.name :: q.ps.v :: q.pr.v :: q.tk.v :: (hc m.binder ++ (.bool m.early :: .bool m.again :: (hc m.mark ++ [.int .i64 m.life]))) := by
  have : (mcells m q) = (.int .i64 m.kind :: (hc m.random ++ hc m.share)) ++ (sv m.name :: q.ps.v :: q.pr.v :: q.tk.v :: (hc m.binder ++ (.bool m.early :: .bool m.again :: (hc m.mark ++ [.int .i64 m.life])))) := by simp [mcells]
  rw [this, List.drop_left' (by simp [hc_len])]
theorem mc_rest2 : (mcells m q).drop 53 = .bool m.early :: .bool m.again :: (hc m.mark ++ [.int .i64 m.life]) := by
  rw [show 53 = 33 + 20 from rfl, ← List.drop_drop, mc_rest1]
  show (hc m.binder ++ _).drop 16 = _
  rw [List.drop_left' (hc_len _)]
theorem mc_get {i j n : Nat} {l : List Value} {v : Value} (h : (mcells m q).drop n = l) (hj : n + j = i) (hl : l[j]? = some v) : (mcells m q)[i]? = some v := by
  rw [← hj, ← hl, ← h, List.getElem?_drop]
theorem mc0 : (mcells m q)[0]? = some (.int .i64 m.kind) := rfl
theorem mc33 : (mcells m q)[33]? = some (sv m.name) := mc_get (j := 0) mc_rest1 rfl rfl
theorem mc34 : (mcells m q)[34]? = some q.ps.v := mc_get (j := 1) mc_rest1 rfl rfl
theorem mc35 : (mcells m q)[35]? = some q.pr.v := mc_get (j := 2) mc_rest1 rfl rfl
theorem mc36 : (mcells m q)[36]? = some q.tk.v := mc_get (j := 3) mc_rest1 rfl rfl
theorem mc53 : (mcells m q)[53]? = some (.bool m.early) := mc_get (j := 0) mc_rest2 rfl rfl
theorem mc54 : (mcells m q)[54]? = some (.bool m.again) := mc_get (j := 1) mc_rest2 rfl rfl
theorem mc71 : (mcells m q)[71]? = some (.int .i64 m.life) := by
  refine mc_get (j := 18) mc_rest2 rfl ?_
  show (hc m.mark ++ _)[16]? = _
  rw [List.getElem?_append_right (by rw [hc_len]; omega), hc_len]
  rfl
theorem mc_random : ((mcells m q).drop 1).take 16 = hc m.random := by
  show (hc m.random ++ _).take 16 = _
  rw [List.take_left' (hc_len _)]
theorem mc_share : ((mcells m q).drop 17).take 16 = hc m.share := by
  rw [show 17 = 1 + 16 from rfl, ← List.drop_drop]
  show ((hc m.random ++ _).drop 16).take 16 = _
  rw [List.drop_left' (hc_len _), List.take_left' (hc_len _)]
theorem mc_binder : ((mcells m q).drop 37).take 16 = hc m.binder := by
  rw [show 37 = 33 + 4 from rfl, ← List.drop_drop, mc_rest1]
  show (hc m.binder ++ _).take 16 = _
  rw [List.take_left' (hc_len _)]
theorem mc_mark : ((mcells m q).drop 55).take 16 = hc m.mark := by
  rw [show 55 = 53 + 2 from rfl, ← List.drop_drop, mc_rest2]
  show (hc m.mark ++ _).take 16 = _
  rw [List.take_left' (hc_len _)]

theorem one_cells : ∀ v ∈ mcells m q, one v = true := by
  intro v hv
  have hh : ∀ {h : Hd}, v ∈ hc h → one v = true := fun h => u8_one v h
  simp only [mcells, List.mem_cons, List.mem_append, List.not_mem_nil, or_false] at hv
  rcases hv with rfl | hv | hv | rfl | rfl | rfl | rfl | hv | rfl | rfl | hv | rfl <;> first | rfl | exact hh hv

/-- what the slices of a message hold -/
structure MsgAt (w : World) (m : Msg) (q : Parts) : Prop where
  ps : RdS w 1 q.ps (m.protos.map sv)
  pr : RdB w q.pr m.params
  tk : RdB w q.tk m.ticket
  name : m.name.length < 10000000
  protos : m.protos.length < 10000000
  each : ∀ s ∈ m.protos, s.length < 10000000
  params : m.params.length < 10000000
  ticket : m.ticket.length < 10000000

theorem MsgAt.mod0 {w w' : World} (h : MsgAt w m q) (hm : Mod No w w') : MsgAt w' m q :=
  { h with ps := h.ps.mod hm fun _ _ _ h => h, pr := h.pr.mod hm fun _ _ _ h => h, tk := h.tk.mod hm fun _ _ _ h => h }
theorem MsgAt.lens {w : World} (h : MsgAt w m q) : q.ps.len = m.protos.length ∧ q.pr.len = m.params.length ∧ q.tk.len = m.ticket.length := by
  refine ⟨?_, h.pr.len, h.tk.len⟩
  have := h.ps.1
  simpa using this.symm

/-! ### 2. Flags -/

def flagB (a b : Bool) : UInt8 := (if a then 1 else 0) + (if b then 2 else 0)

theorem flags1_spec {A : Nat → Prop} {w : World} {wb : Nat} {bs : List UInt8} {b : Nat} {x : Bool} {K : World → Prop} (hw : Wr A w wb bs) (hm : Low A w) (hb : bs.length < 100000000) (hB : Blk w b [.bool x] 4)
    (h : ∀ w', Wr A w' wb (bs ++ [flagB x false]) → Kp A w w' → K w') : C20 (some ⟨wb, 0, none⟩) (Slc.mk (some ⟨b, 0, none⟩) 1 1) w K := by
  refine br20 ?_
  unfold sh20
  refine jn_in (Lp.unroll (jn_in (ifM.t rfl (idx.mk (by omega) (by omega) ?_))))
  refine ldB.mk hB rfl ?_
  cases x with
  | true =>
    refine ifM.t rfl ⟨by omega, Lp.unroll (jn_in (ifM.f rfl ?_))⟩
    exact number_spec (v := 1) (n := 1) hw hm hb (by omega) (by omega) (by omega) (by omega) h
  | false =>
    refine ifM.f rfl (Lp.unroll (jn_in (ifM.f rfl ?_)))
    exact number_spec (v := 0) (n := 1) hw hm hb (by omega) (by omega) (by omega) (by omega) h

theorem flags2_spec {A : Nat → Prop} {w : World} {wb : Nat} {bs : List UInt8} {b : Nat} {x y : Bool} {K : World → Prop} (hw : Wr A w wb bs) (hm : Low A w) (hb : bs.length < 100000000) (hB : Blk w b [.bool x, .bool y] 4)
    (h : ∀ w', Wr A w' wb (bs ++ [flagB x y]) → Kp A w w' → K w') : C20 (some ⟨wb, 0, none⟩) (Slc.mk (some ⟨b, 0, none⟩) 2 2) w K := by
  refine br20 ?_
  unfold sh20
  refine jn_in (Lp.unroll (jn_in (ifM.t rfl (idx.mk (by omega) (by omega) ?_))))
  refine ldB.mk hB rfl ?_
  cases x with
  | true =>
    refine ifM.t rfl ⟨by omega, Lp.unroll (jn_in (ifM.t rfl (idx.mk (by decide) (by decide) (ldB.mk (i := 1) hB rfl ?_))))⟩
    cases y with
    | true =>
      refine ifM.t rfl ⟨by decide, Lp.unroll (jn_in (ifM.f rfl ?_))⟩
      exact number_spec (v := 3) (n := 1) hw hm hb (by omega) (by omega) (by omega) (by omega) h
    | false =>
      refine ifM.f rfl (Lp.unroll (jn_in (ifM.f rfl ?_)))
      exact number_spec (v := 1) (n := 1) hw hm hb (by omega) (by omega) (by omega) (by omega) h
  | false =>
    refine ifM.f rfl (Lp.unroll (jn_in (ifM.t rfl (idx.mk (by decide) (by decide) (ldB.mk (i := 1) hB rfl ?_)))))
    cases y with
    | true =>
      refine ifM.t rfl ⟨by decide, Lp.unroll (jn_in (ifM.f rfl ?_))⟩
      exact number_spec (v := 2) (n := 1) hw hm hb (by omega) (by omega) (by omega) (by omega) h
    | false =>
      refine ifM.f rfl (Lp.unroll (jn_in (ifM.f rfl ?_)))
      exact number_spec (v := 0) (n := 1) hw hm hb (by omega) (by omega) (by omega) (by omega) h
end Go.Proofs.Yteoikkmpkhnalaa
