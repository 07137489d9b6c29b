import Derived.Test.YtbkloadgbicbeaaCount
namespace Go.Proofs.Ytbkloadgbicbeaa
open Go.RowKit

set_option maxHeartbeats 400000 in
theorem side_any (g : Nat) (s a : Int) (w : World) (hc : w.cell? ⟨g, 1, none⟩ = some (.int .i64 s)) (h0 : 0 ≤ a) (h1 : a ≤ 15) :
    Calls Try.prog 34 #[.pointer (some ⟨g, 0, none⟩), .int .i64 a] w fun e w' => e = .returned (.int .i64 (bitOf s a)) ∧ w = w' := by
  go_enter Try.func34, Try.ntmps34
  go_wp2_with fail
  go_ret
  exact ⟨rfl, rfl⟩

theorem endB_f {a : Int} (h : endB a = false) : a < 0 ∨ 15 < a := by
  simp only [endB, Bool.and_eq_false_iff, decide_eq_false_iff_not] at h
  omega
set_option maxRecDepth 100000 in
set_option maxHeartbeats 400000 in
theorem rhear_any (g : Nat) (s a b : Int) (w : World) (hc : w.cell? ⟨g, 1, none⟩ = some (.int .i64 s)) :
    Calls Try.prog 24 #[.pointer (some ⟨g, 0, none⟩), .int .i64 a, .int .i64 b] w fun e w' => e = .returned (.bool (hearB s a b)) ∧ w = w' := by
  cases ha : endB a
  · have hfin : Hid (hearB s a b = false) := by simp [Hid, hearB, ha]
    have h := endB_f ha
    clear ha
    rcases h with h | h
    · go_enter Try.func24, Try.ntmps24
      go_wp2_with fail
      go_ret
      exact ⟨by rw [hfin.out]; rfl, rfl⟩
    · have h0 : ¬ a < 0 := by omega
      go_enter Try.func24, Try.ntmps24
      go_wp2_with fail
      go_ret
      exact ⟨by rw [hfin.out]; rfl, rfl⟩
  · obtain ⟨a0, a1⟩ := endB_t ha
    have na0 : ¬ a < 0 := by omega
    have na1 : ¬ 15 < a := by omega
    cases hb : endB b
    · have hfin : Hid (hearB s a b = false) := by simp [Hid, hearB, hb]
      have h := endB_f hb
      clear ha hb
      rcases h with h | h
      · go_enter Try.func24, Try.ntmps24
        go_wp2_with fail
        go_ret
        exact ⟨by rw [hfin.out]; rfl, rfl⟩
      · have h0 : ¬ b < 0 := by omega
        go_enter Try.func24, Try.ntmps24
        go_wp2_with fail
        go_ret
        exact ⟨by rw [hfin.out]; rfl, rfl⟩
    · obtain ⟨b0, b1⟩ := endB_t hb
      have nb0 : ¬ b < 0 := by omega
      have nb1 : ¬ 15 < b := by omega
      have hfin : Hid (hearB s a b = (bitOf s a == bitOf s b)) := by simp [Hid, hearB, ha, hb]
      clear ha hb
      go_enter Try.func24, Try.ntmps24
      go_wp2_with fail
      refine (side_any g s a _ hc (by omega) (by omega)).mono ?_
      rintro e w' ⟨rfl, rfl⟩
      go_wp2_with fail
      refine (side_any g s b _ hc (by omega) (by omega)).mono ?_
      rintro e w' ⟨rfl, rfl⟩
      go_wp2_with fail
      go_ret
      exact ⟨by rw [hfin.out]; rfl, rfl⟩
theorem rhear_is (g : Nat) (s a b : Int) (c : Bool) (w : World) (hc : w.cell? ⟨g, 1, none⟩ = some (.int .i64 s)) (h : hearB s a b = c) :
    Calls Try.prog 24 #[.pointer (some ⟨g, 0, none⟩), .int .i64 a, .int .i64 b] w fun e w' => e = .returned (.bool c) ∧ w = w' :=
  h ▸ rhear_any g s a b w hc

theorem rsend_end {w w1 : World} {F : Nat → Prop} {g : Nat} {A : Option Addr} {c : Nat} {ps : List Pkt} {s f t : Int} {b : ByteArray} {v' : Value} {o : Obj}
    (hN : NetAt w F 51 g ps s) (HR : Row w F 34 3 (.slice A ps.length c) ps.length (pcells ps)) (hg : F g) (hfin : sendE ps s f t = 0)
    (hrow1 : Row w1 (Grow F (w.alloc o) w1) 34 3 v' (ps.length + 1) (pcells ps ++ pcells [⟨f, t, b⟩])) (hfr1 : Fr (Own (.slice A ps.length c)) (w.alloc o) w1)
    (hb1 : Blk w1 g 51 #[.slice A ps.length c, .int .i64 s]) :
    NetPost w F 51 g (.int .i64 (sendE ps s f t)) (sendL ps s f t b) s (.returned (.int .i64 0)) (w1.setCell ⟨g, 0, none⟩ v') := by
  have hne := own_blk_ne hrow1.1 hb1 (by decide)
  have hf1 : Fr F w w1 := ((Fr.refl F w).alloc o).trans' hfr1 fun i _ h => HR.2 i h
  have hf2 : Fr F w (w1.setCell ⟨g, 0, none⟩ v') := Fr.setCell hf1 (fun _ => hg) v'
  rw [hfin]
  refine hN.post (w0 := w.alloc o) ⟨grow_lt (fun k hk => by have := hN.1 k hk; simp; omega) (by simpa [World.setCell] using hfr1.size), .inl hg, v', by simpa using hb1.set_ 0 v', ?_⟩ (by simp) hf2
  simp only [sendL, hfin, if_true, List.length_append, List.length_cons, List.length_nil, pcells_append]
  exact (hrow1.far (p := ⟨g, 0, none⟩) hne v').more fun k _ h => h.imp id (fun h => ⟨h.1, by simpa [World.setCell] using h.2⟩)

theorem bad_cases {f t : Int} (h : (!endB f || !endB t || f == t) = true) : f < 0 ∨ (¬ f < 0 ∧ 15 < f) ∨ (¬ f < 0 ∧ ¬ 15 < f ∧ t < 0) ∨ (¬ f < 0 ∧ ¬ 15 < f ∧ ¬ t < 0 ∧ 15 < t) ∨ (¬ f < 0 ∧ ¬ 15 < f ∧ ¬ t < 0 ∧ ¬ 15 < t ∧ (f == t) = true) := by
  simp only [endB, Bool.or_eq_true, Bool.not_eq_true', Bool.and_eq_false_iff, decide_eq_false_iff_not, beq_iff_eq] at h ⊢
  omega
set_option maxRecDepth 100000 in
set_option maxHeartbeats 1600000 in
theorem rsend_any (g : Nat) (ps : List Pkt) (s f t : Int) (b : ByteArray) (w : World) (F : Nat → Prop) (h : NetAt w F 51 g ps s) :
    Calls Try.prog 33 #[.pointer (some ⟨g, 0, none⟩), .int .i64 f, .int .i64 t, .string b] w (NetPost w F 51 g (.int .i64 (sendE ps s f t)) (sendL ps s f t b) s) := by
  have HN := Lib.hid h
  have HS := Lib.hid (fun r => h.post0 (r := r) h (Fr.refl _ _))
  obtain ⟨-, hg, v, hb, hrow⟩ := h
  obtain ⟨A, c, rfl, hc, hcm⟩ := hrow.form
  have hc0 : w.cell? ⟨g, 0, none⟩ = some (.slice A ps.length c) := hb.cell 0
  have hc1 : w.cell? ⟨g, 1, none⟩ = some (.int .i64 s) := hb.cell 1
  have hf0 : w.frozen? ⟨g, 0, none⟩ = false := hb.frozen 0
  have HB := Lib.hid hb
  have HR := Lib.hid hrow
  clear hb hrow
  unfold maxLen at hcm
  by_cases hbad : (!endB f || !endB t || f == t) = true
  · have hfin : Hid (sendE ps s f t = 1) := by simp only [Hid, sendE, hbad, if_true]
    have hend : Hid (NetPost w F 51 g (.int .i64 (sendE ps s f t)) (sendL ps s f t b) s (.returned (.int .i64 1)) w) := by
      show NetPost _ _ _ _ _ _ _ _ _
      simp only [sendL, hfin.out]; exact HS.out _
    have hb2 := bad_cases hbad
    clear hbad
    rcases hb2 with h1 | ⟨h1, h2⟩ | ⟨h1, h2, h3⟩ | ⟨h1, h2, h3, h4⟩ | ⟨h1, h2, h3, h4, h5⟩
    all_goals
      go_enter Try.func33, Try.ntmps33
      go_wp2_with fail
      go_ret
      exact hend.out
  · have hbad' : (!endB f || !endB t || f == t) = false := by simpa using hbad
    have ha : endB f = true := by simp at hbad; exact hbad.1.1
    have ht : endB t = true := by simp at hbad; exact hbad.1.2
    have hft : (f == t) = false := by simp at hbad ⊢; exact hbad.2
    obtain ⟨a0, a1⟩ := endB_t ha
    have na0 : ¬ f < 0 := by omega
    have na1 : ¬ 15 < f := by omega
    obtain ⟨b0, b1⟩ := endB_t ht
    have nb0 : ¬ t < 0 := by omega
    have nb1 : ¬ 15 < t := by omega
    clear hbad ha ht
    cases hh : hearB s f t
    · have HH := Lib.hid hh
      have hfin : Hid (sendE ps s f t = 10) := by simp [Hid, sendE, hbad', hh]
      have hend : Hid (NetPost w F 51 g (.int .i64 (sendE ps s f t)) (sendL ps s f t b) s (.returned (.int .i64 10)) w) := by
        show NetPost _ _ _ _ _ _ _ _ _
        simp only [sendL, hfin.out]; exact HS.out _
      clear hh hbad'
      go_enter Try.func33, Try.ntmps33
      go_wp2_with fail
      refine (rhear_is _ _ _ _ false _ hc1 HH.out).mono ?_
      rintro e w' ⟨rfl, rfl⟩
      go_wp2_with fail
      go_ret
      exact hend.out
    · have HH := Lib.hid hh
      by_cases hl : 500 ≤ ps.length
      · have hfin : Hid (sendE ps s f t = 6) := by simp [Hid, sendE, hbad', hh, hl]
        have hend : Hid (NetPost w F 51 g (.int .i64 (sendE ps s f t)) (sendL ps s f t b) s (.returned (.int .i64 6)) w) := by
          show NetPost _ _ _ _ _ _ _ _ _
          simp only [sendL, hfin.out]; exact HS.out _
        clear hh hbad'
        go_enter Try.func33, Try.ntmps33
        go_wp2_with fail
        refine (rhear_is _ _ _ _ true _ hc1 HH.out).mono ?_
        rintro e w' ⟨rfl, rfl⟩
        go_wp2_with fail
        go_ret
        exact hend.out
      · have hfin : Hid (sendE ps s f t = 0) := by simp [Hid, sendE, hbad', hh, hl]
        clear hh hbad'
        go_enter Try.func33, Try.ntmps33
        go_wp2_with fail
        refine (rhear_is _ _ _ _ true _ hc1 HH.out).mono ?_
        rintro e w' ⟨rfl, rfl⟩
        go_wp2_with (at_builtin; refine wpList_append_row _ rfl (.tmp 43) (.tmp 48) 28 rfl 34 _ 3 32 pkt_elem F _ ps.length (pcells ps) rfl (Row.alloc HR.out _) _ 1 1 (pcells [⟨f, t, b⟩]) rfl ?c1 (pcells_ok _) ?c2 ?_)
        case c1 => exact rd_new3 _ _ _ _ _
        case c2 => omega
        intro v' w1 hrow1 hfr1
        obtain ⟨A', c', rfl, -, -⟩ := hrow1.form
        have hb1 : Blk w1 g 51 #[.slice A ps.length c, .int .i64 s] := (HB.out.alloc _).keep hfr1 (own_blk_ne HR.out.1 HB.out (by decide))
        have hd0 : w1.cell? ⟨g, 0, none⟩ = some (.slice A ps.length c) := hb1.cell 0
        have hd1 : w1.frozen? ⟨g, 0, none⟩ = false := hb1.frozen 0
        have hend := Lib.hid (rsend_end HN.out HR.out hg hfin.out hrow1 hfr1 hb1)
        clear hrow1 hfr1 hb1 hc0 hc1 hf0
        go_wp2_with fail
        go_ret
        exact hend.out

set_option maxHeartbeats 400000 in
theorem rsplit_any (g : Nat) (ps : List Pkt) (s m : Int) (w : World) (F : Nat → Prop) (h : NetAt w F 51 g ps s) :
    Calls Try.prog 32 #[.pointer (some ⟨g, 0, none⟩), .int .i64 m] w (NetPost w F 51 g (.tuple #[]) ps (maskOf m)) := by
  have hend := Lib.hid (set1_end h (maskOf m))
  obtain ⟨-, -, v, hb, -⟩ := h
  have c1 : w.cell? ⟨g, 1, none⟩ = some (.int .i64 s) := hb.cell 1
  have c2 : w.frozen? ⟨g, 1, none⟩ = false := hb.frozen 1
  clear hb
  go_enter Try.func32, Try.ntmps32
  go_wp2_with fail
  go_end0
  exact hend.out
end Go.Proofs.Ytbkloadgbicbeaa
