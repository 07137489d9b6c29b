import Derived.Test.YtbkloadgbicbeaaTake
namespace Go.Proofs.Ytbkloadgbicbeaa
open Go.RowKit

/-- What Deliver and Drop do with the list. -/
def at? (ps : List Pkt) (i : Int) : Option Pkt := if i < 0 then none else ps[i.toNat]?
def cut (ps : List Pkt) (i : Int) : List Pkt := if i < 0 then ps else ps.eraseIdx i.toNat
theorem at?_none {ps : List Pkt} {i : Int} (h : at? ps i = none) : (i < 0 ∨ (ps.length : Int) ≤ i) ∧ cut ps i = ps := by
  unfold at? at h
  unfold cut
  split at h
  · simp_all
  · rename_i h0
    rw [if_neg h0]
    have := List.getElem?_eq_none_iff.1 h
    exact ⟨.inr (by omega), List.eraseIdx_of_length_le this⟩
theorem at?_some {ps : List Pkt} {i : Int} {p : Pkt} (h : at? ps i = some p) : ∃ k : Nat, i = k ∧ ps[k]? = some p ∧ cut ps i = ps.eraseIdx k := by
  unfold at? at h
  unfold cut
  split at h
  · simp at h
  · rename_i h0
    exact ⟨i.toNat, by omega, h, by rw [if_neg h0]⟩

def takeV (ps : List Pkt) (i : Int) : Value := match at? ps i with | some p => .tuple #[p.agg, .bool true] | none => .tuple #[pkt0.agg, .bool false]
theorem take_any (g : Nat) (ps : List Pkt) (s i : Int) (w : World) (F : Nat → Prop) (h : NetAt w F 56 g ps s) :
    Calls Try.prog 26 #[.pointer (some ⟨g, 0, none⟩), .int .i64 i] w (NetPost w F 56 g (takeV ps i) (cut ps i) s) := by
  unfold takeV
  cases hp : at? ps i with
  | none => obtain ⟨h1, h2⟩ := at?_none hp; rw [h2]; exact take_no g ps s i w F h h1
  | some p => obtain ⟨k, rfl, h1, h2⟩ := at?_some hp; rw [h2]; exact take_yes g ps s k p w F h h1

def delE (ps : List Pkt) (s i : Int) : Int := match at? ps i with | none => 4 | some p => if hearB s p.f p.t then 0 else 10
def delP (ps : List Pkt) (s i : Int) : Pkt := match at? ps i with | none => pkt0 | some p => if hearB s p.f p.t then p else pkt0

theorem take_is (g : Nat) (ps : List Pkt) (s i : Int) (w : World) (F : Nat → Prop) (r : Value) (h : NetAt w F 56 g ps s) (hr : takeV ps i = r) :
    Calls Try.prog 26 #[.pointer (some ⟨g, 0, none⟩), .int .i64 i] w (NetPost w F 56 g r (cut ps i) s) := hr ▸ take_any g ps s i w F h

/-- The end of Deliver: only blocks of the call's own have turned since take. -/
theorem deliver_end {w w1 w2 : World} {F : Nat → Prop} {g : Nat} {ps qs : List Pkt} {s : Int} {o : Obj} {r : Value} (hN : NetAt w F 56 g ps s)
    (hN1 : NetAt w1 (Grow F (w.alloc o) w1) 56 g qs s) (hf1 : Fr F (w.alloc o) w1) (hw : Fr (fun k => k = w.heap.size ∨ w1.heap.size ≤ k) w1 w2) : NetPost w F 56 g r qs s (.returned r) w2 := by
  have hs := hf1.size
  simp only [World.size_alloc] at hs
  have hf2 : Fr F w w2 := (((Fr.refl F w).alloc o).trans hf1).trans' hw fun k hk h => by omega
  have hN2 := hN1.keep hw (fun k hk => by
    rcases hk with hk | hk
    · have := hN.1 k hk; omega
    · simp at hk; omega)
  exact ⟨rfl, hN2.more (fun k hk => hk.imp id fun h => by have := hw.size; simp at h; omega) (grow_lt hN.1 hf2.size), hf2⟩

theorem fr_set3_in {S : Nat → Prop} {w0 w : World} {b : Nat} (h : Fr S w0 w) (hb : S b) (x y z : Value) : Fr S w0 (((w.setCell ⟨b, 0, none⟩ x).setCell ⟨b, 1, none⟩ y).setCell ⟨b, 2, none⟩ z) :=
  Fr.setCell (Fr.setCell (Fr.setCell h (p := ⟨b, 0, none⟩) (fun _ => hb) x) (p := ⟨b, 1, none⟩) (fun _ => hb) y) (p := ⟨b, 2, none⟩) (fun _ => hb) z

set_option maxRecDepth 100000 in
set_option maxHeartbeats 1600000 in
theorem deliver_none (g : Nat) (ps : List Pkt) (s i : Int) (w : World) (F : Nat → Prop) (h : NetAt w F 56 g ps s) (hp : at? ps i = none) :
    Calls Try.prog 11 #[.pointer (some ⟨g, 0, none⟩), .int .i64 i] w (NetPost w F 56 g (.tuple #[pkt0.agg, .int .i64 4]) (cut ps i) s) := by
  have HN := Lib.hid h
  have HT : Hid (takeV ps i = .tuple #[.agg #[.int .i64 0, .int .i64 0, .string ⟨#[]⟩], .bool false]) := by simp [Hid, takeV, hp, pkt0, Pkt.agg]
  clear hp h
  go_enter Try.func11, Try.ntmps11
  go_wp2_with fail
  refine (take_is g ps s i _ F _ (NetAt.alloc HN.out _) HT.out).mono ?_
  rintro e w1 ⟨rfl, hN1, hf1⟩
  have hbr := (Blk.new w 34 #[.int .i64 0, .int .i64 0, .string ⟨#[]⟩]).keep hf1 (fun hk => by have := HN.out.1 _ hk; omega)
  have hlt1 : w.heap.size < w1.heap.size := by have := hf1.size; simp at this; omega
  have e2 : w1.cell? ⟨w.heap.size, 0, none⟩ = some (.int .i64 0) := hbr.cell 0
  have e3 : w1.cell? ⟨w.heap.size, 1, none⟩ = some (.int .i64 0) := hbr.cell 1
  have e4 : w1.cell? ⟨w.heap.size, 2, none⟩ = some (.string ⟨#[]⟩) := hbr.cell 2
  have e5 : w1.frozen? ⟨w.heap.size, 0, none⟩ = false := hbr.frozen 0
  have e6 : w1.frozen? ⟨w.heap.size, 1, none⟩ = false := hbr.frozen 1
  have e7 : w1.frozen? ⟨w.heap.size, 2, none⟩ = false := hbr.frozen 2
  have hend := Lib.hid (fun r w2 hw => deliver_end (w2 := w2) (r := r) HN.out hN1 hf1 hw)
  have HN1 := Lib.hid hN1
  clear hN1 hf1 hbr
  go_wp2_with fail
  refine bodyPost_ret (v := .tuple #[pkt0.agg, .int .i64 4]) (by simp [results, Try.results11, go_sem, e2, e3, e4, hlt1]; rfl) rfl (hend.out _ _ ?_)
  refine Fr.alloc (fr_set3_in (Fr.refl _ _) ?_ _ _ _) _
  exact .inl rfl

set_option maxRecDepth 100000 in
set_option maxHeartbeats 1600000 in
theorem deliver_lost (g : Nat) (ps : List Pkt) (s i : Int) (p : Pkt) (w : World) (F : Nat → Prop) (h : NetAt w F 56 g ps s) (hp : at? ps i = some p) (hh : hearB s p.f p.t = false) :
    Calls Try.prog 11 #[.pointer (some ⟨g, 0, none⟩), .int .i64 i] w (NetPost w F 56 g (.tuple #[pkt0.agg, .int .i64 10]) (cut ps i) s) := by
  have HN := Lib.hid h
  have HT : Hid (takeV ps i = .tuple #[.agg #[.int .i64 p.f, .int .i64 p.t, .string p.b], .bool true]) := by simp [Hid, takeV, hp, Pkt.agg]
  have HH := Lib.hid hh
  clear hp h hh
  go_enter Try.func11, Try.ntmps11
  go_wp2_with fail
  refine (take_is g ps s i _ F _ (NetAt.alloc HN.out _) HT.out).mono ?_
  rintro e w1 ⟨rfl, hN1, hf1⟩
  have hbr := (Blk.new w 34 #[.int .i64 0, .int .i64 0, .string ⟨#[]⟩]).keep hf1 (fun hk => by have := HN.out.1 _ hk; omega)
  have hlt1 : w.heap.size < w1.heap.size := by have := hf1.size; simp at this; omega
  have e2 : w1.cell? ⟨w.heap.size, 0, none⟩ = some (.int .i64 0) := hbr.cell 0
  have e3 : w1.cell? ⟨w.heap.size, 1, none⟩ = some (.int .i64 0) := hbr.cell 1
  have e4 : w1.cell? ⟨w.heap.size, 2, none⟩ = some (.string ⟨#[]⟩) := hbr.cell 2
  have e5 : w1.frozen? ⟨w.heap.size, 0, none⟩ = false := hbr.frozen 0
  have e6 : w1.frozen? ⟨w.heap.size, 1, none⟩ = false := hbr.frozen 1
  have e7 : w1.frozen? ⟨w.heap.size, 2, none⟩ = false := hbr.frozen 2
  have hend := Lib.hid (fun r w2 hw => deliver_end (w2 := w2) (r := r) HN.out hN1 hf1 hw)
  have HN1 := Lib.hid hN1
  clear hN1 hf1 hbr
  go_wp2_with fail
  refine (hear_is g s _ _ false _ (NetAt.c1 (NetAt.alloc HN1.out _)) HH.out).mono ?_
  rintro e w2 ⟨rfl, n, rfl⟩
  go_wp2_with fail
  refine bodyPost_ret (v := .tuple #[pkt0.agg, .int .i64 10]) (by simp [results, Try.results11, go_sem, e2, e3, e4, hlt1]; rfl) rfl (hend.out _ _ ?_)
  refine fr_set3_in (Fr.drewN (Fr.alloc (Fr.refl _ _) _) _) ?_ _ _ _
  exact .inl rfl

set_option maxRecDepth 100000 in
set_option maxHeartbeats 1600000 in
theorem deliver_ok (g : Nat) (ps : List Pkt) (s i : Int) (p : Pkt) (w : World) (F : Nat → Prop) (h : NetAt w F 56 g ps s) (hp : at? ps i = some p) (hh : hearB s p.f p.t = true) :
    Calls Try.prog 11 #[.pointer (some ⟨g, 0, none⟩), .int .i64 i] w (NetPost w F 56 g (.tuple #[p.agg, .int .i64 0]) (cut ps i) s) := by
  have HN := Lib.hid h
  have HT : Hid (takeV ps i = .tuple #[.agg #[.int .i64 p.f, .int .i64 p.t, .string p.b], .bool true]) := by simp [Hid, takeV, hp, Pkt.agg]
  have HH := Lib.hid hh
  clear hp h hh
  go_enter Try.func11, Try.ntmps11
  go_wp2_with fail
  refine (take_is g ps s i _ F _ (NetAt.alloc HN.out _) HT.out).mono ?_
  rintro e w1 ⟨rfl, hN1, hf1⟩
  have hbr := (Blk.new w 34 #[.int .i64 0, .int .i64 0, .string ⟨#[]⟩]).keep hf1 (fun hk => by have := HN.out.1 _ hk; omega)
  have hlt1 : w.heap.size < w1.heap.size := by have := hf1.size; simp at this; omega
  have e2 : w1.cell? ⟨w.heap.size, 0, none⟩ = some (.int .i64 0) := hbr.cell 0
  have e3 : w1.cell? ⟨w.heap.size, 1, none⟩ = some (.int .i64 0) := hbr.cell 1
  have e4 : w1.cell? ⟨w.heap.size, 2, none⟩ = some (.string ⟨#[]⟩) := hbr.cell 2
  have e5 : w1.frozen? ⟨w.heap.size, 0, none⟩ = false := hbr.frozen 0
  have e6 : w1.frozen? ⟨w.heap.size, 1, none⟩ = false := hbr.frozen 1
  have e7 : w1.frozen? ⟨w.heap.size, 2, none⟩ = false := hbr.frozen 2
  have hend := Lib.hid (fun r w2 hw => deliver_end (w2 := w2) (r := r) HN.out hN1 hf1 hw)
  have HN1 := Lib.hid hN1
  clear hN1 hf1 hbr
  go_wp2_with fail
  refine (hear_is g s _ _ true _ (NetAt.c1 (NetAt.alloc HN1.out _)) HH.out).mono ?_
  rintro e w2 ⟨rfl, n, rfl⟩
  go_wp2_with fail
  refine bodyPost_ret (v := .tuple #[p.agg, .int .i64 0]) (by simp [results, Try.results11, go_sem, e2, e3, e4, hlt1]; rfl) rfl (hend.out _ _ ?_)
  refine fr_set3_in (Fr.drewN (Fr.alloc (Fr.refl _ _) _) _) ?_ _ _ _
  exact .inl rfl

theorem deliver_any (g : Nat) (ps : List Pkt) (s i : Int) (w : World) (F : Nat → Prop) (h : NetAt w F 56 g ps s) :
    Calls Try.prog 11 #[.pointer (some ⟨g, 0, none⟩), .int .i64 i] w (NetPost w F 56 g (.tuple #[(delP ps s i).agg, .int .i64 (delE ps s i)]) (cut ps i) s) := by
  cases hp : at? ps i with
  | none => simp only [delP, delE, hp]; exact deliver_none g ps s i w F h hp
  | some p =>
    cases hh : hearB s p.f p.t with
    | false => simp only [delP, delE, hp, hh]; exact deliver_lost g ps s i p w F h hp hh
    | true => simp only [delP, delE, hp, hh, if_true]; exact deliver_ok g ps s i p w F h hp hh

end Go.Proofs.Ytbkloadgbicbeaa
