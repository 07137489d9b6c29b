import Derived.Test.YtbkloadgbicbeaaSmall
namespace Go.Proofs.Ytbkloadgbicbeaa
open Go.RowKit

def dblE (ps : List Pkt) (i : Int) : Int := match at? ps i with | none => 4 | some _ => if 500 ≤ ps.length then 6 else 0
def dblL (ps : List Pkt) (i : Int) : List Pkt := match at? ps i with | none => ps | some p => if 500 ≤ ps.length then ps else ps ++ [p]

theorem double_end {w w1 : World} {F : Nat → Prop} {g : Nat} {A : Option Addr} {c : Nat} {ps : List Pkt} {s : Int} {p : Pkt} {v' : Value} {o : Obj} {r : Value}
    (hN : NetAt w F 56 g ps s) (HR : Row w F 34 3 (.slice A ps.length c) ps.length (pcells ps)) (hg : F g)
    (hrow1 : Row w1 (Grow F (w.alloc o).drew w1) 34 3 v' (ps.length + 1) (pcells ps ++ pcells [p])) (hfr1 : Fr (Own (.slice A ps.length c)) (w.alloc o).drew w1)
    (hb1 : Blk w1 g 56 #[.slice A ps.length c, .int .i64 s]) :
    NetPost w F 56 g r (ps ++ [p]) s (.returned r) (w1.setCell ⟨g, 0, none⟩ v') := by
  have hne := own_blk_ne hrow1.1 hb1 (by decide)
  have hf1 : Fr F w w1 := ((Fr.refl F w).alloc o).drew.trans' hfr1 fun i _ h => HR.2 i h
  have hf2 : Fr F w (w1.setCell ⟨g, 0, none⟩ v') := Fr.setCell hf1 (fun _ => hg) v'
  refine hN.post (w0 := (w.alloc o).drew) ⟨grow_lt (fun k hk => by have := hN.1 k hk; simp; omega) (by simpa [World.setCell] using hfr1.size), .inl hg, v', by simpa using hb1.set_ 0 v', ?_⟩ (by simp) hf2
  simp only [List.length_append, List.length_cons, List.length_nil, pcells_append]
  exact (hrow1.far (p := ⟨g, 0, none⟩) hne v').more fun k _ h => h.imp id (fun h => ⟨h.1, by simpa [World.setCell] using h.2⟩)

set_option maxRecDepth 100000 in
set_option maxHeartbeats 1600000 in
theorem double_any (g : Nat) (ps : List Pkt) (s i : Int) (w : World) (F : Nat → Prop) (h : NetAt w F 56 g ps s) :
    Calls Try.prog 18 #[.pointer (some ⟨g, 0, none⟩), .int .i64 i] w (NetPost w F 56 g (.int .i64 (dblE ps i)) (dblL ps i) s) := by
  have HN := Lib.hid h
  have hsame := Lib.hid (fun r => h.post0 (r := r) h (Fr.refl _ _))
  obtain ⟨-, hg, v, hb, hrow⟩ := h
  cases hat : at? ps i with
  | none =>
    obtain ⟨hout, -⟩ := at?_none hat
    have HE : Hid (dblE ps i = 4 ∧ dblL ps i = ps) := by simp [Hid, dblE, dblL, hat]
    obtain ⟨A, c, rfl, hc, hcm⟩ := hrow.form
    have hc0 : w.cell? ⟨g, 0, none⟩ = some (.slice A ps.length c) := hb.cell 0
    unfold maxLen at hcm
    clear hb hrow hat
    rcases hout with hout | hout
    · go_enter Try.func18, Try.ntmps18
      go_wp2_with fail
      go_ret
      rw [HE.out.1, HE.out.2]
      exact hsame.out _
    · have h0 : ¬ i < 0 := by omega
      go_enter Try.func18, Try.ntmps18
      go_wp2_with fail
      go_ret
      rw [HE.out.1, HE.out.2]
      exact hsame.out _
  | some p =>
    obtain ⟨k, rfl, hk, -⟩ := at?_some hat
    have hkl : k < ps.length := (List.getElem?_eq_some_iff.1 hk).1
    have z1 : ¬ ((k : Int) < 0) := by omega
    have z2 : (k : Int) < (ps.length : Int) := by omega
    obtain ⟨g', c, rfl, hF', hlt', hc, hcm, hcells⟩ := hrow.at (by omega)
    have hc0 : w.cell? ⟨g, 0, none⟩ = some (.slice (some ⟨g', 0, none⟩) ps.length c) := hb.cell 0
    unfold maxLen at hcm
    by_cases hl : 500 ≤ ps.length
    · have HE : Hid (dblE ps k = 6 ∧ dblL ps k = ps) := by simp [Hid, dblE, dblL, hat, hl]
      clear hb hrow hat hcells
      go_enter Try.func18, Try.ntmps18
      go_wp2_with fail
      go_ret
      rw [HE.out.1, HE.out.2]
      exact hsame.out _
    · have HE : Hid (dblE ps k = 0 ∧ dblL ps k = ps ++ [p]) := by simp [Hid, dblE, dblL, hat, hl]
      obtain ⟨x1, x2, x3⟩ := pcells_at ps k p hk
      have y1 := hcells _ _ x1
      have y2 := hcells _ _ x2
      have y3 := hcells _ _ x3
      have hf0 : w.frozen? ⟨g, 0, none⟩ = false := hb.frozen 0
      have hlt := hb.lt
      have HB := Lib.hid hb
      have HR := Lib.hid hrow
      clear hb hrow hat hcells x1 x2 x3 hk
      go_enter Try.func18, Try.ntmps18
      go_wp2_with fail
      go_region_law (refine step_append_row _ rfl (.tmp 28) (.tmp 36) 28 rfl 34 _ 3 32 pkt_elem F _ ps.length (pcells ps) (by simp [Act.eval]) (Row.drew (Row.alloc HR.out _)) _ 1 1 (pcells [p]) (by simp [Act.eval]) (rd_new3 _ _ _ _ _) (pcells_ok _) (by omega) ?_; intro v' w1 hrow1 hfr1; have R1 := Lib.hid hrow1; have F1 := Lib.hid hfr1; have hb1 : Blk w1 g 56 #[.slice (some ⟨g', 0, none⟩) ps.length c, .int .i64 s] := (Blk.drew (Blk.alloc HB.out _)).keep hfr1 (own_blk_ne HR.out.1 HB.out (by decide)); have B1 := Lib.hid hb1; have d0 : w1.cell? ⟨g, 0, none⟩ = some (.slice (some ⟨g', 0, none⟩) ps.length c) := hb1.cell 0; have d1 : w1.frozen? ⟨g, 0, none⟩ = false := hb1.frozen 0; obtain ⟨A1, c1, rfl, -, -⟩ := hrow1.form; clear hrow1 hfr1 hb1)
      all_goals
        have hend := Lib.hid (double_end (r := .int .i64 0) HN.out HR.out hg R1.out F1.out B1.out)
        clear R1 F1 B1 d0 d1 HR HB
        go_wp2_with fail
        go_ret
        rw [HE.out.1, HE.out.2]
        exact hend.out
end Go.Proofs.Ytbkloadgbicbeaa
