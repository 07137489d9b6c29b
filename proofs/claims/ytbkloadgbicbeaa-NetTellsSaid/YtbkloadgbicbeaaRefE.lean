import Derived.Test.YtbkloadgbicbeaaRefN
namespace Go.Proofs.Ytbkloadgbicbeaa
open Go.RowKit

/-- A new network with the same packets and split; nothing that was there has turned. -/
def CopyPost (w : World) (ty : TypeId) (ps : List Pkt) (s : Int) (e : Ending) (w' : World) : Prop :=
  ∃ g', e = .returned (.pointer (some ⟨g', 0, none⟩)) ∧ NetAt w' (fun k => w.heap.size ≤ k ∧ k < w'.heap.size) ty g' ps s ∧ Fr (fun _ => False) w w'
theorem copy_end {w w1 : World} {ty : TypeId} {ps : List Pkt} {s : Int} {v : Value} {n : Nat} (hf : Fr (fun _ => False) w w1) (hr : Row w1 (NewBlk w) 34 3 v n (pcells ps)) (hn : n = ps.length) :
    CopyPost w ty ps s (.returned (.pointer (some ⟨w1.heap.size, 0, none⟩))) (w1.alloc (.cells #[v, .int .i64 s] ty)) := by
  subst hn
  have := hf.size
  refine ⟨_, rfl, ⟨fun k hk => hk.2, ⟨this, by simp⟩, v, Blk.new w1 ty _, ?_⟩, hf.alloc _⟩
  exact (hr.alloc _).more fun k hk h => ⟨h, hk⟩
theorem hold2 {w w' : World} {g ty : Nat} {s : Int} {u : Value} (hb : Blk w g ty #[u, .int .i64 s]) (hf : Fr (fun _ => False) w w') :
    w'.cell? ⟨g, 0, none⟩ = some u ∧ w'.cell? ⟨g, 1, none⟩ = some (.int .i64 s) ∧ Fr (fun _ => False) w w' :=
  ⟨(hb.keep hf fun h => h).cell 0, (hb.keep hf fun h => h).cell 1, hf⟩
theorem clone_held {w0 w : World} (A : Option Addr) (c : Nat) (ps : List Pkt) (h : Rd w0 3 A ps.length (pcells ps)) (hb : ps.length ≤ 1000000) (hf : Fr (fun _ => False) w0 w) :
    Calls Try.prog 27 #[.slice A ps.length c] w fun e w' => ∃ A' c', e = .returned (.slice A' ps.length c') ∧ Fr (fun _ => False) w0 w' ∧ Row w' (NewBlk w0) 34 3 (.slice A' ps.length c') ps.length (pcells ps) :=
  (clone_any A c ps w (h.fr hf fun _ _ _ h => h) hb).mono fun e w' ⟨v, he, hr, hf'⟩ => by
    obtain ⟨A', c', rfl, -, -⟩ := hr.form
    exact ⟨A', c', he, hf.trans' hf' (fun _ _ h => h), hr.more fun k _ h => by have := hf.size; simp [NewBlk]; omega⟩

set_option maxRecDepth 100000 in
set_option maxHeartbeats 1600000 in
theorem copy_any (g : Nat) (ps : List Pkt) (s : Int) (w : World) (F : Nat → Prop) (h : NetAt w F 56 g ps s) (hmax : ps.length ≤ 1000000) :
    Calls Try.prog 21 #[.pointer (some ⟨g, 0, none⟩)] w (CopyPost w 56 ps s) := by
  obtain ⟨-, hg, v, hb, hrow⟩ := h
  obtain ⟨A, c, rfl, hc, hcm⟩ := hrow.form
  have hc0 : w.cell? ⟨g, 0, none⟩ = some (.slice A ps.length c) := hb.cell 0
  have hc1 : w.cell? ⟨g, 1, none⟩ = some (.int .i64 s) := hb.cell 1
  have HB := Lib.hid hb
  have HR := Lib.hid (Rd.of_row hrow)
  clear hb hrow
  go_enter Try.func21, Try.ntmps21
  go_wp2_with fail
  go_region_held3 (fun w' => w'.cell? ⟨g, 0, none⟩ = some (.slice A ps.length c) ∧ w'.cell? ⟨g, 1, none⟩ = some (.int .i64 s) ∧ Fr (fun _ => False) w w') (first | exact hold2 HB.out (by assumption) | exact hold2 HB.out (Fr.drew (Fr.refl _ _)) | exact hold2 HB.out (Fr.refl _ _) | exact hold2 HB.out (Fr.alloc (by assumption) _))
    (first | (go_at_call 27; refine (clone_held A c ps HR.out hmax ?_).mono ?_; (first | exact Fr.drew (Fr.refl _ _) | assumption); rintro e w8 ⟨A8, c8, rfl, hf8, r8⟩; have R8 := Lib.hid r8; have F8 := Lib.hid hf8; clear r8))
  all_goals
    have hend := Lib.hid (copy_end (ty := 56) (s := s) F8.out R8.out rfl)
    clear hf8 R8 F8
    go_wp2_with fail
    go_ret
    exact hend.out
set_option maxRecDepth 100000 in
set_option maxHeartbeats 1600000 in
theorem rcopy_any (g : Nat) (ps : List Pkt) (s : Int) (w : World) (F : Nat → Prop) (h : NetAt w F 51 g ps s) (hmax : ps.length ≤ 1000000) :
    Calls Try.prog 22 #[.pointer (some ⟨g, 0, none⟩)] w (CopyPost w 51 ps s) := by
  obtain ⟨-, hg, v, hb, hrow⟩ := h
  obtain ⟨A, c, rfl, hc, hcm⟩ := hrow.form
  have hc0 : w.cell? ⟨g, 0, none⟩ = some (.slice A ps.length c) := hb.cell 0
  have hc1 : w.cell? ⟨g, 1, none⟩ = some (.int .i64 s) := hb.cell 1
  have HB := Lib.hid hb
  have HR := Lib.hid (Rd.of_row hrow)
  clear hb hrow
  go_enter Try.func22, Try.ntmps22
  go_wp2_with fail
  go_region_held3 (fun w' => w'.cell? ⟨g, 0, none⟩ = some (.slice A ps.length c) ∧ w'.cell? ⟨g, 1, none⟩ = some (.int .i64 s) ∧ Fr (fun _ => False) w w') (first | exact hold2 HB.out (by assumption) | exact hold2 HB.out (Fr.drew (Fr.refl _ _)) | exact hold2 HB.out (Fr.refl _ _) | exact hold2 HB.out (Fr.drew (Fr.alloc (Fr.refl _ _) _)) | exact hold2 HB.out (Fr.alloc (by assumption) _))
    (first | (refine step_append_row _ rfl (.tmp 3) (.tmp 7) 28 rfl 34 _ 3 32 pkt_elem (NewBlk w) (.slice (some ⟨w.heap.size, 0, none⟩) 0 0) 0 [] (by simp [Act.eval]) (fresh1 w) A ps.length c (pcells ps) (by simp [Act.eval]) (HR.out.alloc _) (pcells_ok _) (by omega) ?_; intro v1 w4 r1 f1; have M1 := mid_append (((Fr.refl _ w).alloc _).drew) (fresh1 w) r1 f1; have F1 := M1.1; have R1 := Lib.hid M1.2; obtain ⟨A1, c1, rfl, -, -⟩ := r1.form; clear r1 f1 M1))
  all_goals
    have hend := Lib.hid (copy_end (ty := 51) (s := s) (ps := ps) F1 (by simpa using R1.out) rfl)
    clear R1 F1
    go_wp2_with fail
    go_ret
    exact hend.out
end Go.Proofs.Ytbkloadgbicbeaa
