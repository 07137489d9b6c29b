import Derived.Test.YtbkloadgbicbeaaRows
import Derived.Test.YtbkloadgbicbeaaKit
namespace Go.Proofs.Ytbkloadgbicbeaa
open Go.RowKit

structure Pkt where
  f : Int
  t : Int
  b : ByteArray
def Pkt.cells (p : Pkt) : List Value := [.int .i64 p.f, .int .i64 p.t, .string p.b]
def pcells (ps : List Pkt) : List Value := ps.flatMap Pkt.cells
theorem length_pcells (ps : List Pkt) : (pcells ps).length = ps.length * 3 := by
  induction ps with
  | nil => rfl
  | cons p ps ih => simp only [pcells, List.flatMap_cons, List.length_append, List.length_cons] at ih ⊢; rw [ih]; simp [Pkt.cells]; omega
theorem pcells_append (a b : List Pkt) : pcells (a ++ b) = pcells a ++ pcells b := by simp [pcells]
theorem pcells_one (p : Pkt) : pcells [p] = [.int .i64 p.f, .int .i64 p.t, .string p.b] := by simp [pcells, Pkt.cells]
theorem pcells_ok (ps : List Pkt) : ∀ u ∈ pcells ps, u.oneCell' = true := by
  intro u hu
  simp only [pcells, List.mem_flatMap] at hu
  obtain ⟨p, _, hu⟩ := hu
  simp only [Pkt.cells, List.mem_cons, List.not_mem_nil, or_false] at hu
  rcases hu with rfl | rfl | rfl <;> rfl

/-- A network (of type t: the program's or the reference's) in block g, whose blocks lie in F. -/
def NetAt (w : World) (F : Nat → Prop) (t : TypeId) (g : Nat) (ps : List Pkt) (s : Int) : Prop :=
  (∀ k, F k → k < w.heap.size) ∧ F g ∧ ∃ v, Blk w g t #[v, .int .i64 s] ∧ Row w F 34 3 v ps.length (pcells ps)

theorem pkt_elem : Elem Try.prog 28 34 (.agg #[.int .i64 0, .int .i64 0, .string ⟨#[]⟩]) 3 32 := ⟨Try.underlying28, by kernel_rfl, rfl, by omega⟩

def endB (a : Int) : Bool := decide (0 ≤ a) && decide (a < 16)
theorem endB_t {a : Int} (h : endB a = true) : 0 ≤ a ∧ a < 16 := by simpa [endB] using h
def bitOf (s a : Int) : Int := bits .and .i64 (s / 2 ^ a.toNat) 1
def hearB (s a b : Int) : Bool := endB a && endB b && (bitOf s a == bitOf s b)

set_option maxHeartbeats 400000 in
theorem end_any (a : Int) (w : World) :
    Calls Try.prog 25 #[.int .i64 a] w fun e w' => e = .returned (.bool (endB a)) ∧ w = w' := by
  by_cases h0 : 0 ≤ a
  · by_cases h1 : a < 16
    · go_enter Try.func25, Try.ntmps25
      go_wp2
      go_ret
      simp [endB, h0, h1]
    · go_enter Try.func25, Try.ntmps25
      go_wp2
      go_ret
      simp [endB, h1]
  · go_enter Try.func25, Try.ntmps25
    go_wp2
    go_ret
    have h2 : ¬ 0 ≤ a := by omega
    simp [endB, h2]

theorem end_is (a : Int) (c : Bool) (w : World) (h : endB a = c) :
    Calls Try.prog 25 #[.int .i64 a] w fun e w' => e = .returned (.bool c) ∧ w' = w :=
  (end_any a w).mono fun _ _ ⟨he, hw⟩ => ⟨h ▸ he, hw.symm⟩

set_option maxHeartbeats 400000 in
theorem hear_any (g : Nat) (s a b : Int) (w : World) (hc : w.cell? ⟨g, 1, none⟩ = some (.int .i64 s)) :
    Calls Try.prog 15 #[.pointer (some ⟨g, 0, none⟩), .int .i64 a, .int .i64 b] w fun e w' => e = .returned (.bool (hearB s a b)) ∧ ∃ n, w' = w.drewN n := by
  cases ha : endB a
  · have HA := Lib.hid ha
    have hfin : Hid (hearB s a b = false) := by simp [Hid, hearB, ha]
    clear ha
    go_enter Try.func15, Try.ntmps15
    go_wp2
    go_quiet (first | (go_at_call 25; exact Calls.quiet_of_same (end_is _ false _ HA.out)))
    go_wp2
    go_ret
    exact ⟨by rw [hfin.out]; rfl, _, rfl⟩
  · cases hb : endB b
    · have HA := Lib.hid ha
      have HB := Lib.hid hb
      have hfin : Hid (hearB s a b = false) := by simp [Hid, hearB, hb]
      clear ha hb
      go_enter Try.func15, Try.ntmps15
      go_wp2
      go_quiet (first | (go_at_call_of 25 (Value.int .i64 a); exact Calls.quiet_of_same (end_is _ true _ HA.out)) | (go_at_call 25; exact Calls.quiet_of_same (end_is _ false _ HB.out)))
      go_wp2
      go_ret
      exact ⟨by rw [hfin.out]; rfl, _, rfl⟩
    · have HA := Lib.hid ha
      have HB := Lib.hid hb
      have hfin : Hid (hearB s a b = (bits .and .i64 (s / 2 ^ a.toNat) 1 == bits .and .i64 (s / 2 ^ b.toNat) 1)) := by simp [Hid, hearB, ha, hb, bitOf]
      obtain ⟨h0, h1⟩ := endB_t ha
      obtain ⟨h2, h3⟩ := endB_t hb
      clear ha hb
      go_enter Try.func15, Try.ntmps15
      go_wp2
      go_quiet (first | (go_at_call 25; exact Calls.quiet_of_same (end_is _ true _ HA.out)) | (go_at_call 25; exact Calls.quiet_of_same (end_is _ true _ HB.out)))
      go_wp2
      go_ret
      exact ⟨by rw [hfin.out]; rfl, _, rfl⟩
theorem hear_is (g : Nat) (s a b : Int) (c : Bool) (w : World) (hc : w.cell? ⟨g, 1, none⟩ = some (.int .i64 s)) (h : hearB s a b = c) :
    Calls Try.prog 15 #[.pointer (some ⟨g, 0, none⟩), .int .i64 a, .int .i64 b] w fun e w' => e = .returned (.bool c) ∧ ∃ n, w' = w.drewN n :=
  h ▸ hear_any g s a b w hc

section
variable {w w0 w1 w' : World} {F F' S : Nat → Prop} {ty : TypeId} {g : Nat} {ps : List Pkt} {s : Int}
theorem NetAt.more (h : NetAt w F ty g ps s) (h1 : ∀ k, F k → F' k) (h2 : ∀ k, F' k → k < w.heap.size) : NetAt w F' ty g ps s := by
  obtain ⟨_, hg, v, hb, hr⟩ := h
  exact ⟨h2, h1 g hg, v, hb, hr.more fun k _ => h1 k⟩
theorem NetAt.drewN (h : NetAt w F ty g ps s) (n : Nat) : NetAt (w.drewN n) F ty g ps s := h
theorem NetAt.alloc (h : NetAt w F ty g ps s) (o : Obj) : NetAt (w.alloc o) F ty g ps s := by
  obtain ⟨hl, hg, v, hb, hr⟩ := h
  exact ⟨fun k hk => by have := hl k hk; simp; omega, hg, v, hb.alloc o, hr.alloc o⟩
/-- What turns outside of its blocks leaves a network as it was. -/
theorem NetAt.keep (h : NetAt w F ty g ps s) (hf : Fr S w w') (hn : ∀ k, F k → ¬ S k) : NetAt w' F ty g ps s := by
  obtain ⟨hl, hg, v, hb, hr⟩ := h
  exact ⟨fun k hk => Nat.lt_of_lt_of_le (hl k hk) hf.size, hg, v, hb.keep hf (hn g hg), hr.keep hf fun k hk _ => hn k hk⟩
theorem NetAt.c1 (h : NetAt w F ty g ps s) : w.cell? ⟨g, 1, none⟩ = some (.int .i64 s) := by
  obtain ⟨_, _, v, hb, _⟩ := h
  exact hb.cell 1

def NetPost (w : World) (F : Nat → Prop) (ty : TypeId) (g : Nat) (r : Value) (ps : List Pkt) (s : Int) (e : Ending) (w' : World) : Prop :=
  e = .returned r ∧ NetAt w' (Grow F w w') ty g ps s ∧ Fr F w w'

theorem grow_lt {F : Nat → Prop} (hF : ∀ k, F k → k < w.heap.size) (hs : w.heap.size ≤ w'.heap.size) : ∀ k, Grow F w w' k → k < w'.heap.size := by
  rintro k (h | h)
  · exact Nat.lt_of_lt_of_le (hF k h) hs
  · exact h.2
/-- The end of a method: the network, and all else, as it was but for new blocks and for the blocks in F. -/
theorem NetAt.post {r : Value} {ps' : List Pkt} {s' : Int} (h : NetAt w F ty g ps s) (h1 : NetAt w1 (Grow F w0 w1) ty g ps' s') (hw0 : w.heap.size ≤ w0.heap.size) (hf : Fr F w w1) : NetPost w F ty g r ps' s' (.returned r) w1 :=
  ⟨rfl, h1.more (fun k hk => hk.imp id fun h => ⟨by omega, h.2⟩) (grow_lt h.1 hf.size), hf⟩
theorem NetAt.post0 {r : Value} {ps' : List Pkt} {s' : Int} (h : NetAt w F ty g ps s) (h1 : NetAt w1 F ty g ps' s') (hf : Fr F w w1) : NetPost w F ty g r ps' s' (.returned r) w1 :=
  ⟨rfl, h1.more (fun _ hk => .inl hk) (grow_lt h.1 hf.size), hf⟩
end
end Go.Proofs.Ytbkloadgbicbeaa
