import Derived.Test.YtbkloadgbicbeaaRefB
namespace Go.Proofs.Ytbkloadgbicbeaa
open Go.RowKit

theorem cut_of {ps : List Pkt} {k : Nat} : cut ps (k : Int) = ps.eraseIdx k := by
  unfold cut; rw [if_neg (by omega)]; simp
set_option maxRecDepth 100000 in
set_option maxHeartbeats 1600000 in
theorem rdrop_any (g : Nat) (ps : List Pkt) (s i : Int) (w : World) (F : Nat → Prop) (h : NetAt w F 51 g ps s) (hmax : ps.length ≤ 1000000) :
    Calls Try.prog 30 #[.pointer (some ⟨g, 0, none⟩), .int .i64 i] w (NetPost w F 51 g (.int .i64 (dropE ps i)) (cut ps i) s) := by
  have HN := Lib.hid h
  have hsame := Lib.hid (fun r => h.post0 (r := r) h (Fr.refl _ _))
  obtain ⟨-, hg, v, hb, hrow⟩ := h
  obtain ⟨A, c, rfl, hc, hcm⟩ := hrow.form
  have hc0 : w.cell? ⟨g, 0, none⟩ = some (.slice A ps.length c) := hb.cell 0
  unfold maxLen at hcm
  clear hb hrow
  cases hat : at? ps i with
  | none =>
    obtain ⟨hout, hcut⟩ := at?_none hat
    have HE : Hid (dropE ps i = 4 ∧ cut ps i = ps) := ⟨by simp [dropE, hat], hcut⟩
    clear hat hcut
    rcases hout with hout | hout
    · go_enter Try.func30, Try.ntmps30
      go_wp2_with fail
      go_ret
      rw [HE.out.1, HE.out.2]
      exact hsame.out _
    · have h0 : ¬ i < 0 := by omega
      go_enter Try.func30, Try.ntmps30
      go_wp2_with fail
      go_ret
      rw [HE.out.1, HE.out.2]
      exact hsame.out _
  | some p =>
    obtain ⟨k, rfl, hk, hcut⟩ := at?_some hat
    have hkl : k < ps.length := (List.getElem?_eq_some_iff.1 hk).1
    have z1 : ¬ ((k : Int) < 0) := by omega
    have z2 : (k : Int) < (ps.length : Int) := by omega
    have HE : Hid (dropE ps k = 0 ∧ cut ps k = ps.eraseIdx k) := ⟨by simp [dropE, hat], hcut⟩
    clear hat hk hcut
    go_enter Try.func30, Try.ntmps30
    go_wp2_with fail
    refine (remove_any g ps s k _ F HN.out hkl hmax).mono ?_
    rintro e w1 ⟨rfl, hN1, hf1⟩
    have hend : Hid (∀ r, NetPost w F 51 g r (ps.eraseIdx k) s (.returned r) w1) := fun r => ⟨rfl, hN1, hf1⟩
    clear hN1 hf1
    go_wp2_with fail
    go_ret
    rw [HE.out.1, HE.out.2]
    exact hend.out _

set_option maxRecDepth 100000 in
set_option maxHeartbeats 1600000 in
theorem rdeliver_any (g : Nat) (ps : List Pkt) (s i : Int) (w : World) (F : Nat → Prop) (h : NetAt w F 51 g ps s) (hmax : ps.length ≤ 1000000) :
    Calls Try.prog 29 #[.pointer (some ⟨g, 0, none⟩), .int .i64 i] w (NetPost w F 51 g (.tuple #[(delP ps s i).agg, .int .i64 (delE ps s i)]) (cut ps i) s) := by
  have HN := Lib.hid h
  have hsame := Lib.hid (fun r o => h.post0 (r := r) (h.alloc o) ((Fr.refl _ _).alloc o))
  obtain ⟨-, hg, v, hb, hrow⟩ := h
  have hlt := hb.lt
  cases hat : at? ps i with
  | none =>
    obtain ⟨A, c, rfl, hc, hcm⟩ := hrow.form
    have hc0 : w.cell? ⟨g, 0, none⟩ = some (.slice A ps.length c) := hb.cell 0
    unfold maxLen at hcm
    clear hb hrow
    obtain ⟨hout, hcut⟩ := at?_none hat
    have HE : Hid (delP ps s i = pkt0 ∧ delE ps s i = 4 ∧ cut ps i = ps) := ⟨by simp [delP, hat], by simp [delE, hat], hcut⟩
    clear hat hcut
    rw [HE.out.1, HE.out.2.1, HE.out.2.2]
    rcases hout with hout | hout
    · go_enter Try.func29, Try.ntmps29
      go_wp2_with fail
      exact bodyPost_ret (v := .tuple #[pkt0.agg, .int .i64 4]) (by simp [results, Try.results29, go_sem]; rfl) rfl (hsame.out _ _)
    · have h0 : ¬ i < 0 := by omega
      go_enter Try.func29, Try.ntmps29
      go_wp2_with fail
      exact bodyPost_ret (v := .tuple #[pkt0.agg, .int .i64 4]) (by simp [results, Try.results29, go_sem]; rfl) rfl (hsame.out _ _)
  | some p =>
    obtain ⟨k, rfl, hk, hcut⟩ := at?_some hat
    have hkl : k < ps.length := (List.getElem?_eq_some_iff.1 hk).1
    have z1 : ¬ ((k : Int) < 0) := by omega
    have z2 : (k : Int) < (ps.length : Int) := by omega
    obtain ⟨g', c, rfl, hF', hlt', hc, hcm, hcells⟩ := hrow.at (by omega)
    have hc0 : w.cell? ⟨g, 0, none⟩ = some (.slice (some ⟨g', 0, none⟩) ps.length c) := hb.cell 0
    obtain ⟨x1, x2, x3⟩ := pcells_at ps k p hk
    have y1 := hcells _ _ x1
    have y2 := hcells _ _ x2
    have y3 := hcells _ _ x3
    unfold maxLen at hcm
    rw [hcut]
    have HE : Hid (delP ps s k = (if hearB s p.f p.t then p else pkt0) ∧ delE ps s k = if hearB s p.f p.t then 0 else 10) := ⟨by simp [delP, hat], by simp [delE, hat]⟩
    rw [HE.out.1, HE.out.2]
    clear hb hrow hat hk hcut x1 x2 x3 hcells HE
    have hstep : Hid (∀ w1, NetAt w1 (Grow F ((w.alloc (.cells #[.int .i64 0, .int .i64 0, .string ⟨#[]⟩] 34)).alloc (.cells #[.int .i64 p.f, .int .i64 p.t, .string p.b] 34)) w1) 51 g (ps.eraseIdx k) s → Fr F ((w.alloc (.cells #[.int .i64 0, .int .i64 0, .string ⟨#[]⟩] 34)).alloc (.cells #[.int .i64 p.f, .int .i64 p.t, .string p.b] 34)) w1 →
        Blk w1 w.heap.size 34 #[.int .i64 0, .int .i64 0, .string ⟨#[]⟩] ∧ Blk w1 (w.heap.size + 1) 34 #[.int .i64 p.f, .int .i64 p.t, .string p.b] ∧ w.heap.size + 1 < w1.heap.size ∧ w1.cell? ⟨g, 1, none⟩ = some (.int .i64 s) ∧
        ∀ r w2, Fr (fun k => k = w.heap.size ∨ w1.heap.size ≤ k) w1 w2 → NetPost w F 51 g r (ps.eraseIdx k) s (.returned r) w2) := by
      intro w1 hN1 hf1
      have hs := hf1.size
      simp only [World.size_alloc] at hs
      refine ⟨((Blk.new w 34 _).alloc _).keep hf1 (fun hk => by have := HN.out.1 _ hk; omega), ?_, by omega, hN1.c1, fun r w2 hw => ?_⟩
      · have := (Blk.new (w.alloc (.cells #[.int .i64 0, .int .i64 0, .string ⟨#[]⟩] 34)) 34 #[.int .i64 p.f, .int .i64 p.t, .string p.b]).keep hf1 (fun hk => by have := HN.out.1 _ hk; simp at this; omega)
        simpa using this
      · have hf2 : Fr F w w2 := ((((Fr.refl F w).alloc _).alloc _).trans hf1).trans' hw fun k hk h => by omega
        have hN2 := hN1.keep hw (fun k hk => by
          rcases hk with hk | hk
          · have := HN.out.1 k hk; omega
          · simp at hk; omega)
        exact ⟨rfl, hN2.more (fun k hk => hk.imp id fun h => by have := hw.size; simp at h; omega) (grow_lt HN.out.1 hf2.size), hf2⟩
    cases hh : hearB s p.f p.t with
    | false =>
      have HH := Lib.hid hh
      simp only [Bool.false_eq_true, if_false]
      clear hh
      go_enter Try.func29, Try.ntmps29
      go_wp2_with fail
      refine (remove_any g ps s k _ F (NetAt.alloc (NetAt.alloc HN.out _) _) hkl hmax).mono ?_
      rintro e w1 ⟨rfl, hN1, hf1⟩
      obtain ⟨hbr, hbp, hlt1, hc1, hend0⟩ := hstep.out w1 hN1 hf1
      have hend := Lib.hid hend0
      have e2 : w1.cell? ⟨w.heap.size, 0, none⟩ = some (.int .i64 0) := hbr.cell 0
      have e3 : w1.cell? ⟨w.heap.size, 1, none⟩ = some (.int .i64 0) := hbr.cell 1
      have e4 : w1.cell? ⟨w.heap.size, 2, none⟩ = some (.string ⟨#[]⟩) := hbr.cell 2
      have e5 : w1.frozen? ⟨w.heap.size, 0, none⟩ = false := hbr.frozen 0
      have e6 : w1.frozen? ⟨w.heap.size, 1, none⟩ = false := hbr.frozen 1
      have e7 : w1.frozen? ⟨w.heap.size, 2, none⟩ = false := hbr.frozen 2
      have p2 : w1.cell? ⟨w.heap.size + 1, 0, none⟩ = some (.int .i64 p.f) := hbp.cell 0
      have p3 : w1.cell? ⟨w.heap.size + 1, 1, none⟩ = some (.int .i64 p.t) := hbp.cell 1
      have p4 : w1.cell? ⟨w.heap.size + 1, 2, none⟩ = some (.string p.b) := hbp.cell 2
      clear hN1 hf1 hbr hbp hend0 hstep hc0 y1 y2 y3
      go_wp2_with fail
      refine (rhear_is g s _ _ false _ hc1 HH.out).mono ?_
      rintro e w2 ⟨rfl, rfl⟩
      go_wp2_with fail
      refine bodyPost_ret (v := .tuple #[pkt0.agg, .int .i64 10]) (by simp [results, Try.results29, go_sem, e2, e3, e4]; rfl) rfl (hend.out _ _ ?_)
      refine fr_set3_in (Fr.refl _ _) ?_ _ _ _
      exact .inl rfl
    | true =>
      have HH := Lib.hid hh
      simp only [if_true]
      clear hh
      go_enter Try.func29, Try.ntmps29
      go_wp2_with fail
      refine (remove_any g ps s k _ F (NetAt.alloc (NetAt.alloc HN.out _) _) hkl hmax).mono ?_
      rintro e w1 ⟨rfl, hN1, hf1⟩
      obtain ⟨hbr, hbp, hlt1, hc1, hend0⟩ := hstep.out w1 hN1 hf1
      have hend := Lib.hid hend0
      have e2 : w1.cell? ⟨w.heap.size, 0, none⟩ = some (.int .i64 0) := hbr.cell 0
      have e3 : w1.cell? ⟨w.heap.size, 1, none⟩ = some (.int .i64 0) := hbr.cell 1
      have e4 : w1.cell? ⟨w.heap.size, 2, none⟩ = some (.string ⟨#[]⟩) := hbr.cell 2
      have e5 : w1.frozen? ⟨w.heap.size, 0, none⟩ = false := hbr.frozen 0
      have e6 : w1.frozen? ⟨w.heap.size, 1, none⟩ = false := hbr.frozen 1
      have e7 : w1.frozen? ⟨w.heap.size, 2, none⟩ = false := hbr.frozen 2
      have p2 : w1.cell? ⟨w.heap.size + 1, 0, none⟩ = some (.int .i64 p.f) := hbp.cell 0
      have p3 : w1.cell? ⟨w.heap.size + 1, 1, none⟩ = some (.int .i64 p.t) := hbp.cell 1
      have p4 : w1.cell? ⟨w.heap.size + 1, 2, none⟩ = some (.string p.b) := hbp.cell 2
      clear hN1 hf1 hbr hbp hend0 hstep hc0 y1 y2 y3
      go_wp2_with fail
      refine (rhear_is g s _ _ true _ hc1 HH.out).mono ?_
      rintro e w2 ⟨rfl, rfl⟩
      go_wp2_with fail
      refine bodyPost_ret (v := .tuple #[p.agg, .int .i64 0]) (by simp [results, Try.results29, go_sem, e2, e3, e4]; rfl) rfl (hend.out _ _ ?_)
      refine fr_set3_in (Fr.refl _ _) ?_ _ _ _
      exact .inl rfl
end Go.Proofs.Ytbkloadgbicbeaa
