import Derived.Test.YtbkloadgbicbeaaDeliver
namespace Go.Proofs.Ytbkloadgbicbeaa
open Go.RowKit

def dropE (ps : List Pkt) (i : Int) : Int := match at? ps i with | none => 4 | some _ => 0

theorem drop_end {w w1 w2 : World} {F : Nat → Prop} {g : Nat} {ps qs : List Pkt} {s : Int} {r : Value} (hN : NetAt w F 56 g ps s)
    (hN1 : NetAt w1 (Grow F w w1) 56 g qs s) (hf1 : Fr F w w1) (hw : Fr (fun k => w1.heap.size ≤ k) w1 w2) : NetPost w F 56 g r qs s (.returned r) w2 := by
  have hs := hf1.size
  have hf2 : Fr F w w2 := hf1.trans' hw fun k hk h => by omega
  have hN2 := hN1.keep hw (fun k hk => by have := hN1.1 k hk; omega)
  exact ⟨rfl, hN2.more (fun k hk => hk.imp id fun h => by have := hw.size; omega) (grow_lt hN.1 hf2.size), hf2⟩

set_option maxRecDepth 100000 in
set_option maxHeartbeats 1600000 in
theorem drop_any (g : Nat) (ps : List Pkt) (s i : Int) (w : World) (F : Nat → Prop) (h : NetAt w F 56 g ps s) :
    Calls Try.prog 28 #[.pointer (some ⟨g, 0, none⟩), .int .i64 i] w (NetPost w F 56 g (.int .i64 (dropE ps i)) (cut ps i) s) := by
  have HN := Lib.hid h
  clear h
  cases hp : at? ps i with
  | none =>
    have HT : Hid (takeV ps i = .tuple #[.agg #[.int .i64 0, .int .i64 0, .string ⟨#[]⟩], .bool false]) := by simp [Hid, takeV, hp, pkt0, Pkt.agg]
    have HE : Hid (dropE ps i = 4) := by simp [Hid, dropE, hp]
    clear hp
    go_enter Try.func28, Try.ntmps28
    go_wp2_with fail
    refine (take_is g ps s i _ F _ HN.out HT.out).mono ?_
    rintro e w1 ⟨rfl, hN1, hf1⟩
    have hend := Lib.hid (fun r w2 hw => drop_end (w2 := w2) (r := r) HN.out hN1 hf1 hw)
    clear hN1 hf1
    go_wp2_with fail
    go_ret
    rw [HE.out]
    exact hend.out _ _ ((Fr.refl _ _).alloc _)
  | some p =>
    have HT : Hid (takeV ps i = .tuple #[.agg #[.int .i64 p.f, .int .i64 p.t, .string p.b], .bool true]) := by simp [Hid, takeV, hp, Pkt.agg]
    have HE : Hid (dropE ps i = 0) := by simp [Hid, dropE, hp]
    clear hp
    go_enter Try.func28, Try.ntmps28
    go_wp2_with fail
    refine (take_is g ps s i _ F _ HN.out HT.out).mono ?_
    rintro e w1 ⟨rfl, hN1, hf1⟩
    have hend := Lib.hid (fun r w2 hw => drop_end (w2 := w2) (r := r) HN.out hN1 hf1 hw)
    clear hN1 hf1
    go_wp2_with fail
    go_ret
    rw [HE.out]
    exact hend.out _ _ ((Fr.refl _ _).alloc _)

/-- The split that Split sets. -/
def maskOf (m : Int) : Int := bits .and .i64 m 65535

theorem set1_end {w : World} {F : Nat → Prop} {ty : TypeId} {g : Nat} {ps : List Pkt} {s : Int} (h : NetAt w F ty g ps s) (s' : Int) : NetPost w F ty g (.tuple #[]) ps s' (.returned (.tuple #[])) (w.setCell ⟨g, 1, none⟩ (.int .i64 s')) := by
  have h0 := h
  obtain ⟨hl, hg, v, hb, hr⟩ := h
  refine h0.post0 ⟨fun k hk => by simpa [World.setCell] using hl k hk, hg, v, by simpa using hb.set_ 1 (.int .i64 s'), hr.far (p := ⟨g, 1, none⟩) (fun e => ?_) _⟩ ((Fr.refl _ _).setCell (fun _ => hg) _)
  rcases hr.1.2 with ⟨rfl, _⟩ | ⟨g', cap, cur, rfl, _, hh, _⟩
  · simp [Value.ownBlock] at e
  · have : g' = g := by simpa [Value.ownBlock] using e
    subst this
    have h1 : Blk w g' 34 cur := hh
    have h2 := hb.cell 0
    have h3 := h1.cell 0
    have hlen : cur.size = 2 := by
      unfold Blk at hb h1
      rw [hb] at h1
      injection h1 with h1
      injection h1 with h1 _
      rw [← h1]; rfl
    rename_i hh2
    have := hh2.2.2.1
    omega

set_option maxHeartbeats 400000 in
theorem split_any (g : Nat) (ps : List Pkt) (s m : Int) (w : World) (F : Nat → Prop) (h : NetAt w F 56 g ps s) :
    Calls Try.prog 14 #[.pointer (some ⟨g, 0, none⟩), .int .i64 m] w (NetPost w F 56 g (.tuple #[]) ps (maskOf m)) := by
  have hend := Lib.hid (set1_end h (maskOf m))
  obtain ⟨-, -, v, hb, -⟩ := h
  have c1 : w.cell? ⟨g, 1, none⟩ = some (.int .i64 s) := hb.cell 1
  have c2 : w.frozen? ⟨g, 1, none⟩ = false := hb.frozen 1
  clear hb
  go_enter Try.func14, Try.ntmps14
  go_wp2_with fail
  go_end0
  exact hend.out

set_option maxHeartbeats 400000 in
theorem heal_any (g : Nat) (ps : List Pkt) (s : Int) (w : World) (F : Nat → Prop) (h : NetAt w F 56 g ps s) :
    Calls Try.prog 16 #[.pointer (some ⟨g, 0, none⟩)] w (NetPost w F 56 g (.tuple #[]) ps 0) := by
  have hend := Lib.hid (set1_end h 0)
  obtain ⟨-, -, v, hb, -⟩ := h
  have c1 : w.cell? ⟨g, 1, none⟩ = some (.int .i64 s) := hb.cell 1
  have c2 : w.frozen? ⟨g, 1, none⟩ = false := hb.frozen 1
  clear hb
  go_enter Try.func16, Try.ntmps16
  go_wp2_with fail
  go_end0
  exact hend.out

set_option maxHeartbeats 400000 in
theorem count_any (g : Nat) (ps : List Pkt) (s : Int) (w : World) (F : Nat → Prop) (h : NetAt w F 56 g ps s) :
    Calls Try.prog 17 #[.pointer (some ⟨g, 0, none⟩)] w fun e w' => e = .returned (.int .i64 ps.length) ∧ w' = w := by
  obtain ⟨-, -, v, hb, hr⟩ := h
  obtain ⟨A, c, rfl, hc, hcm⟩ := hr.form
  have c1 : w.cell? ⟨g, 0, none⟩ = some (.slice A ps.length c) := hb.cell 0
  clear hb hr
  unfold maxLen at hcm
  go_enter Try.func17, Try.ntmps17
  go_wp2_with fail
  go_ret
  exact ⟨rfl, rfl⟩

set_option maxHeartbeats 400000 in
theorem new_any (w : World) :
    Calls Try.prog 8 #[] w fun e w' => e = .returned (.pointer (some ⟨w.heap.size, 0, none⟩)) ∧ w' = w.alloc (.cells #[.slice none 0 0, .int .i64 0] 56) := by
  go_enter Try.func8, Try.ntmps8
  go_wp2_with fail
  go_ret
  exact ⟨rfl, rfl⟩
theorem new_net (w : World) : NetAt (w.alloc (.cells #[.slice none 0 0, .int .i64 0] 56)) (fun k => k = w.heap.size) 56 w.heap.size [] 0 :=
  ⟨fun k hk => by subst hk; simp, rfl, _, Blk.new w 56 _, Row.nil _ _ _ _⟩
end Go.Proofs.Ytbkloadgbicbeaa
