import Derived.Test.YtbkloadgbicbeaaRefN
namespace Go.Proofs.Ytbkloadgbicbeaa
open Go.RowKit

set_option maxRecDepth 100000 in
set_option maxHeartbeats 3200000 in
theorem rdouble_any (g : Nat) (ps : List Pkt) (s i : Int) (w : World) (F : Nat → Prop) (h : NetAt w F 51 g ps s) :
    Calls Try.prog 31 #[.pointer (some ⟨g, 0, none⟩), .int .i64 i] w (NetPost w F 51 g (.int .i64 (dblE ps i)) (dblL ps i) s) := by
  have HN := Lib.hid h
  have hsame := Lib.hid (fun r => h.post0 (r := r) h (Fr.refl _ _))
  obtain ⟨-, hg, v, hb, hrow⟩ := h
  cases hat : at? ps i with
  | none =>
    obtain ⟨hout, -⟩ := at?_none hat
    have HE : Hid (dblE ps i = 4 ∧ dblL ps i = ps) := by simp [Hid, dblE, dblL, hat]
    obtain ⟨A, c, rfl, hc, hcm⟩ := hrow.form
    have hc0 : w.cell? ⟨g, 0, none⟩ = some (.slice A ps.length c) := hb.cell 0
    unfold maxLen at hcm
    clear hb hrow hat
    rcases hout with hout | hout
    · go_enter Try.func31, Try.ntmps31
      go_wp2_with fail
      go_ret
      rw [HE.out.1, HE.out.2]
      exact hsame.out _
    · have h0 : ¬ i < 0 := by omega
      go_enter Try.func31, Try.ntmps31
      go_wp2_with fail
      go_ret
      rw [HE.out.1, HE.out.2]
      exact hsame.out _
  | some p =>
    obtain ⟨k, rfl, hk, -⟩ := at?_some hat
    have hkl : k < ps.length := (List.getElem?_eq_some_iff.1 hk).1
    have z1 : ¬ ((k : Int) < 0) := by omega
    have z2 : (k : Int) < (ps.length : Int) := by omega
    obtain ⟨g', c, rfl, hF', hlt', hc, hcm, hcells⟩ := hrow.at (by omega)
    have hc0 : w.cell? ⟨g, 0, none⟩ = some (.slice (some ⟨g', 0, none⟩) ps.length c) := hb.cell 0
    unfold maxLen at hcm
    by_cases hl : 500 ≤ ps.length
    · have HE : Hid (dblE ps k = 6 ∧ dblL ps k = ps) := by simp [Hid, dblE, dblL, hat, hl]
      clear hb hrow hat hcells
      go_enter Try.func31, Try.ntmps31
      go_wp2_with fail
      go_ret
      rw [HE.out.1, HE.out.2]
      exact hsame.out _
    · have HE : Hid (dblE ps k = 0 ∧ dblL ps k = ps ++ [p]) := by simp [Hid, dblE, dblL, hat, hl]
      obtain ⟨x1, x2, x3⟩ := pcells_at ps k p hk
      have y1 := hcells _ _ x1
      have y2 := hcells _ _ x2
      have y3 := hcells _ _ x3
      have hf0 : w.frozen? ⟨g, 0, none⟩ = false := hb.frozen 0
      have hlt := hb.lt
      have HB := Lib.hid hb
      have HR := Lib.hid (Rd.of_row hrow)
      have HRR := Lib.hid hrow
      clear hb hrow hat x1 x2 x3 hk
      have HC := Lib.hid hcells
      clear hcells
      go_enter Try.func31, Try.ntmps31
      go_wp2_with fail
      go_region_law (first
        | (refine step_append_row _ rfl (.tmp 23) (.tmp 27) 28 rfl 34 _ 3 32 pkt_elem (NewBlk w) (.slice (some ⟨w.heap.size, 0, none⟩) 0 0) 0 [] (by simp [Act.eval, Act.put]) (fresh1 w) (some ⟨g', 0, none⟩) ps.length c (pcells ps) (by simp [Act.eval, Act.put]) (HR.out.alloc _) (pcells_ok _) (by omega) ?_; intro v1 w4 r1 f1; have M1 := Lib.hid (mid_append (((Fr.refl _ w).alloc _).drew) (fresh1 w) r1 f1); have R1 := Lib.hid M1.out.2; have hb4 := HB.out.keep M1.out.1 (fun h => h); have HB4 := Lib.hid hb4; have d0 : w4.cell? ⟨g, 0, none⟩ = some (.slice (some ⟨g', 0, none⟩) ps.length c) := hb4.cell 0; have e1 : w4.cell? ⟨g', k * 3, none⟩ = some (.int .i64 p.f) := (M1.out.1.cell (p := ⟨g', k * 3, none⟩) hlt' (fun h => h)).trans y1; have e2 : w4.cell? ⟨g', k * 3 + 1, none⟩ = some (.int .i64 p.t) := (M1.out.1.cell (p := ⟨g', k * 3 + 1, none⟩) hlt' (fun h => h)).trans y2; have e3 : w4.cell? ⟨g', k * 3 + 2, none⟩ = some (.string p.b) := (M1.out.1.cell (p := ⟨g', k * 3 + 2, none⟩) hlt' (fun h => h)).trans y3; have q1 : g < w4.heap.size := hb4.lt; have q2 : g' < w4.heap.size := Nat.lt_of_lt_of_le hlt' M1.out.1.size; obtain ⟨A1, c1, rfl, -, -⟩ := r1.form; clear r1 f1 hb4)
        | (refine step_append_row _ rfl (.tmp 23) (.tmp 27) 28 rfl 34 _ 3 32 pkt_elem (NewBlk w) (.slice (some ⟨w.heap.size, 0, none⟩) 0 0) 0 [] (by simp [Act.eval]) (fresh2 w _) (some ⟨g', 0, none⟩) ps.length c (pcells ps) (by simp [Act.eval]) ((HR.out.alloc _).alloc _) (pcells_ok _) (by omega) ?_; intro v1 w4 r1 f1; have M1 := Lib.hid (mid_append ((((Fr.refl _ w).alloc _).alloc _).drew) (fresh2 w _) r1 f1); have R1 := Lib.hid M1.out.2; have hb4 := HB.out.keep M1.out.1 (fun h => h); have HB4 := Lib.hid hb4; have X3 := Lib.hid ((Blk.drew (Blk.new (w.alloc (.cells #[] 34)) 34 #[.int .i64 p.f, .int .i64 p.t, .string p.b])).keep f1 (by simp [Own, Value.ownBlock])); obtain ⟨A1, c1, rfl, -, -⟩ := r1.form; clear r1 f1 hb4)
        | (refine step_append_row _ rfl (.tmp 23) (.tmp 27) 28 rfl 34 _ 3 32 pkt_elem (NewBlk w) (.slice (some ⟨w.heap.size + 1, 0, none⟩) 0 0) 0 [] (by simp [Act.eval]) (fresh3 w _) (some ⟨g', 0, none⟩) ps.length c (pcells ps) (by simp [Act.eval]) ((HR.out.alloc _).alloc _) (pcells_ok _) (by omega) ?_; intro v1 w4 r1 f1; have M1 := Lib.hid (mid_append ((((Fr.refl _ w).alloc _).alloc _).drew) (fresh3 w _) r1 f1); have R1 := Lib.hid M1.out.2; have hb4 := HB.out.keep M1.out.1 (fun h => h); have HB4 := Lib.hid hb4; have X3 := Lib.hid ((Blk.drew (Blk.alloc (Blk.new w 34 #[.int .i64 p.f, .int .i64 p.t, .string p.b]) _)).keep f1 (by simp [Own, Value.ownBlock])); obtain ⟨A1, c1, rfl, -, -⟩ := r1.form; clear r1 f1 hb4)
        | (refine step_append_row _ rfl (.tmp 28) (.tmp 36) 28 rfl 34 _ 3 32 pkt_elem (NewBlk w) _ _ _ (by simp [Act.eval]) (R1.out.alloc _) _ 1 1 (pcells [p]) (by simp [Act.eval]) (rd_new3 _ _ _ _ _) (pcells_ok _) (by omega) ?_; intro v2 w5 r2 f2; have M2 := Lib.hid (mid_append (M1.out.1.alloc _) (R1.out.alloc _) r2 f2); have hb5 := HB.out.keep M2.out.1 (fun h => h); have d2 : w5.cell? ⟨g, 0, none⟩ = some (.slice (some ⟨g', 0, none⟩) ps.length c) := hb5.cell 0; have d3 : w5.frozen? ⟨g, 0, none⟩ = false := hb5.frozen 0; obtain ⟨A5, c5, rfl, -, -⟩ := r2.form; clear r2 f2 hb5)
        | (refine step_append_row _ rfl (.tmp 28) (.tmp 36) 28 rfl 34 _ 3 32 pkt_elem (NewBlk w) _ _ _ (by simp [Act.eval]) R1.out _ 1 1 (pcells [p]) (by simp [Act.eval]) (rd_blk3 X3.out) (pcells_ok _) (by omega) ?_; intro v2 w5 r2 f2; have M2 := Lib.hid (mid_append M1.out.1 R1.out r2 f2); have hb5 := HB.out.keep M2.out.1 (fun h => h); have d2 : w5.cell? ⟨g, 0, none⟩ = some (.slice (some ⟨g', 0, none⟩) ps.length c) := hb5.cell 0; have d3 : w5.frozen? ⟨g, 0, none⟩ = false := hb5.frozen 0; obtain ⟨A5, c5, rfl, -, -⟩ := r2.form; clear r2 f2 hb5))
      all_goals
        have hend := Lib.hid (store_end (r := .int .i64 0) (qs := ps ++ [p]) (n2 := ps.length + 1) (v2 := .slice A5 (ps.length + 1) c5) HN.out hg HB.out M2.out.1 (by simpa [pcells_append] using M2.out.2) (by simp))
        clear M1 M2 R1 HB4 d2 d3 HR HRR HC HB
        go_wp2_with fail
        go_ret
        rw [HE.out.1, HE.out.2]
        exact hend.out
end Go.Proofs.Ytbkloadgbicbeaa
