import Derived.Test.YtjgmbildgcighaaDoorR5
namespace Go.Proofs.YtjgmbildgcighaaDoor
open Go.RowKit
/-! survive. -/
set_option maxRecDepth 100000 in
set_option maxHeartbeats 3200000 in
theorem rsurvive_any (g : Nat) (d : DS) (kv : Value) (f : Int) (m : Nat) (w : World) (F : Nat → Prop) (h : RefAt w F g kv d) (hf0 : 0 ≤ f) (hf1 : f < 16) (hm : m < 262144) :
    Calls Tryd.prog 46 #[.pointer (some ⟨g, 0, none⟩), .agg #[.int .i64 f, .int .i64 m]] w (RPost w F g (.tuple #[]) kv { d with fs := surv1 d.fs (f, (m : Int)) }) := by
  have HAt := Lib.hid h
  have hn16 := h.inv.now f
  have hl16 := h.inv.last f
  have H1 := Lib.hid (h.alloc (.cells #[.int .i64 f, .int .i64 m] 84))
  have B1 := Lib.hid (Blk.new w 84 #[.int .i64 f, .int .i64 m])
  have F1 := Lib.hid ((Fr.refl (fun _ => False) w).alloc (.cells #[.int .i64 f, .int .i64 m] 84))
  have hx0 := Nat.le_refl w.heap.size
  clear h
  go_enter Tryd.func46, Tryd.ntmps46
  go_wp2_with fail
  generalize w.alloc (.cells #[.int .i64 f, .int .i64 m] 84) = w1 at *
  refine (rget_any g d kv f _ F H1.out).mono ?_
  rintro e w2 ⟨rfl, hf⟩
  have BX2 := (B1.out.keep hf fun h => h).alloc (.cells #[.int .i64 f, .string (d.fs f).now, .string (d.fs f).last] 86)
  have hlx := BX2.lt
  have hx1 : w.heap.size < w2.heap.size := Nat.lt_of_lt_of_le B1.out.lt hf.size
  have BX := Lib.hid BX2
  have BY := Lib.hid (Blk.new w2 86 #[.int .i64 f, .string (d.fs f).now, .string (d.fs f).last])
  have H3 := Lib.hid ((H1.out.keep hf fun _ _ h => h).alloc (.cells #[.int .i64 f, .string (d.fs f).now, .string (d.fs f).last] 86))
  have F3 := Lib.hid ((F1.out.trans' hf fun _ _ h => h).alloc (.cells #[.int .i64 f, .string (d.fs f).now, .string (d.fs f).last] 86))
  have cx := BX.out.cell 1
  have cy := BY.out.cell 1
  have cz := BY.out.cell 2
  have cy0 := BY.out.cell 0
  simp only [List.getElem?_toArray, List.getElem?_cons_zero, List.getElem?_cons_succ] at cx cy cz cy0
  clear BX2 hf H1 B1 F1
  have hmul : IntKind.i64.wrap (64 * (m : Int)) = 64 * (m : Int) := IntWalk.i64_in _ (by omega)
  by_cases hat : ((d.fs f).now.size : Int) ≤ (m : Int) * 64
  · have hz : ¬ 64 * (m : Int) < ((d.fs f).now.size : Int) := by omega
    have hs := surv1_no (p := (f, (m : Int))) hat
    have FIN : Hid (Calls Tryd.prog 50 #[.pointer (some ⟨g, 0, none⟩), .agg #[.int .i64 f, .string (d.fs f).now, .string (d.fs f).last]] (w2.alloc (.cells #[.int .i64 f, .string (d.fs f).now, .string (d.fs f).last] 86)) fun e w' => e = .returned (.tuple #[]) ∧ RPost w F g (.tuple #[]) kv { d with fs := surv1 d.fs (f, (m : Int)) } (.returned (.tuple #[])) w') := by
      refine (rset_any g d kv f (d.fs f) _ F H3.out ⟨hf0, hf1⟩ hn16 hl16).mono ?_
      rintro e w' ⟨rfl, hd, hfr⟩
      have s1 := F3.out.size
      have s2 := hfr.size
      refine ⟨rfl, rfl, ?_, (F3.out.mono fun _ _ h => h.elim).trans' hfr fun _ _ h => h⟩
      rw [hs]
      have e : upd d.fs f (d.fs f) = d.fs := by
        funext n
        unfold upd
        split
        · rename_i hn; rw [hn]
        · rfl
      rw [e] at hd
      exact hd.more (fun k hk => hk.imp id fun h => by omega) (grow_lt HAt.out.lt (by omega))
    go_wp2_with fail
    refine FIN.out.mono ?_
    rintro e w6 ⟨rfl, hp⟩
    go_wp2_with fail
    go_end0
    exact hp
  · obtain ⟨e0, he0⟩ : ∃ e0, e0 = min (m * 64 + 64) (d.fs f).now.size := ⟨_, rfl⟩
    have hs := surv1_yes (p := (f, (m : Int))) (a := m * 64) (e := e0) hat (by dsimp only; omega) he0
    have hz : 64 * (m : Int) < ((d.fs f).now.size : Int) := by omega
    have hel : m * 64 ≤ e0 ∧ e0 ≤ (d.fs f).now.size := by omega
    have hsz : (putB (d.fs f).last (m * 64) ((d.fs f).now.extract (m * 64) e0)).size ≤ 16777216 := by
      rw [size_putB, size_extract]
      split <;> omega
    have PUT : Hid (∀ w' s, s = (d.fs f).now.extract (m * 64) e0 → Calls Tryd.prog 49 #[.string (d.fs f).last, .int .i64 (64 * (m : Int)), .string s] w' fun e w'' => e = .returned (.string (putB (d.fs f).last (m * 64) ((d.fs f).now.extract (m * 64) e0))) ∧ Fr (fun _ => False) w' w'') := by
      rintro w' s rfl
      have := rput_any (d.fs f).last ((d.fs f).now.extract (m * 64) e0) (m * 64) w' hl16 (by rw [size_extract]; omega)
      rw [show ((m * 64 : Nat) : Int) = 64 * (m : Int) by omega] at this
      exact this
    have hlt2 : w2.heap.size < (w2.alloc (.cells #[.int .i64 f, .string (d.fs f).now, .string (d.fs f).last] 86)).heap.size := by simp
    go_wp2_with fail
    generalize w2.alloc (.cells #[.int .i64 f, .string (d.fs f).now, .string (d.fs f).last] 86) = w3 at *
    generalize hx : w.heap.size = x at *
    generalize hy : w2.heap.size = y at *
    have hxy : ¬ x = y := by omega
    have FIN : Hid (∀ wv ws, Fr (fun _ => False) w3 wv → Fr (fun k => k = y) wv ws → Calls Tryd.prog 50 #[.pointer (some ⟨g, 0, none⟩), .agg #[.int .i64 f, .string (d.fs f).now, .string (putB (d.fs f).last (m * 64) ((d.fs f).now.extract (m * 64) e0))]] ws fun e w' => e = .returned (.tuple #[]) ∧ RPost w F g (.tuple #[]) kv { d with fs := surv1 d.fs (f, (m : Int)) } (.returned (.tuple #[])) w') := by
      intro wv ws h1 h2
      have H5 := (H3.out.keep h1 fun _ _ h => h).keep h2 fun k hk e => by have := HAt.out.lt k hk; omega
      refine (rset_any g d kv f ⟨(d.fs f).now, putB (d.fs f).last (m * 64) ((d.fs f).now.extract (m * 64) e0)⟩ _ F H5 ⟨hf0, hf1⟩ hn16 hsz).mono ?_
      rintro e w' ⟨rfl, hd, hfr⟩
      have s1 := F3.out.size
      have s2 := hfr.size
      have s3 := h1.size
      have s4 := h2.size
      have F5 : Fr F w w' := (((F3.out.trans' h1 fun _ _ h => h).trans' h2 fun k hk e => by omega : Fr (fun _ => False) w ws).mono fun _ _ h => h.elim).trans' hfr fun _ _ h => h
      refine ⟨rfl, rfl, ?_, F5⟩
      rw [hs]
      exact hd.more (fun k hk => hk.imp id fun h => by omega) (grow_lt HAt.out.lt F5.size)
    have hmul2 : IntKind.i64.wrap (64 * (m : Int) + 64) = 64 * (m : Int) + 64 := IntWalk.i64_in _ (by omega)
    have htn : (64 * (m : Int)).toNat = m * 64 := by omega
    have htn2 : (64 * (m : Int) + 64).toNat = m * 64 + 64 := by omega
    have hz0 : (0 : Int) ≤ 64 * (m : Int) := by omega
    have hlw : y < w3.heap.size := by omega
    clear hs hsz
    by_cases h64 : m * 64 + 64 ≤ (d.fs f).now.size
    · obtain rfl : e0 = m * 64 + 64 := by omega
      have h64' : 64 * (m : Int) + 64 ≤ ((d.fs f).now.size : Int) := by omega
      have hz1 : 64 * (m : Int) ≤ 64 * (m : Int) + 64 := by omega
      clear he0
      refine wp_region_held_drew (S := fun w' => w'.cell? ⟨x, 1, none⟩ = some (.int .i64 (m : Int)) ∧ w'.cell? ⟨y, 1, none⟩ = some (.string (d.fs f).now)) (by kernel_rfl) ⟨cx, cy⟩ (fun hHeld => ?_)
      refine wpAnyH_takeD (i := 0) (t := 16) (v := .pointer (some ⟨y, 2, none⟩)) rfl rfl (by kernel_rfl) (by kernel_rfl) (by kernel_rfl) (fun _ _ _ h => h) (Or.inl ⟨by rfl, fun w' hSw => by obtain ⟨s1, s2⟩ := hSw; go_simp <;> omega⟩) (by assumption) ?_
      simp only [Act.put, List.setIfInBounds_toArray, List.set_cons_zero, List.set_cons_succ]
      refine wpAnyH_takeD (i := 2) (t := 18) (v := .pointer (some ⟨x, 1, none⟩)) rfl rfl (by kernel_rfl) (by kernel_rfl) (by kernel_rfl) (fun _ _ _ h => h) (Or.inl ⟨by rfl, fun w' hSw => by obtain ⟨s1, s2⟩ := hSw; go_simp <;> omega⟩) (by assumption) ?_
      simp only [Act.put, List.setIfInBounds_toArray, List.set_cons_zero, List.set_cons_succ]
      refine wpAnyH_takeD (i := 3) (t := 19) (v := .int .i64 (m : Int)) rfl rfl (by kernel_rfl) (by kernel_rfl) (by kernel_rfl) (fun _ _ _ h => h) (Or.inl ⟨by rfl, fun w' hSw => by obtain ⟨s1, s2⟩ := hSw; go_simp <;> omega⟩) (by assumption) ?_
      simp only [Act.put, List.setIfInBounds_toArray, List.set_cons_zero, List.set_cons_succ]
      refine wpAnyH_takeD (i := 4) (t := 20) (v := .int .i64 (64 * (m : Int))) rfl rfl (by kernel_rfl) (by kernel_rfl) (by kernel_rfl) (fun _ _ _ h => h) (Or.inl ⟨by rfl, fun w' hSw => by obtain ⟨s1, s2⟩ := hSw; go_simp <;> omega⟩) (by assumption) ?_
      simp only [Act.put, List.setIfInBounds_toArray, List.set_cons_zero, List.set_cons_succ]
      refine wpAnyH_takeD (i := 5) (t := 21) (v := .pointer (some ⟨y, 1, none⟩)) rfl rfl (by kernel_rfl) (by kernel_rfl) (by kernel_rfl) (fun _ _ _ h => h) (Or.inl ⟨by rfl, fun w' hSw => by obtain ⟨s1, s2⟩ := hSw; go_simp <;> omega⟩) (by assumption) ?_
      simp only [Act.put, List.setIfInBounds_toArray, List.set_cons_zero, List.set_cons_succ]
      refine wpAnyH_takeD (i := 6) (t := 22) (v := .string (d.fs f).now) rfl rfl (by kernel_rfl) (by kernel_rfl) (by kernel_rfl) (fun _ _ _ h => h) (Or.inl ⟨by rfl, fun w' hSw => by obtain ⟨s1, s2⟩ := hSw; go_simp <;> omega⟩) (by assumption) ?_
      simp only [Act.put, List.setIfInBounds_toArray, List.set_cons_zero, List.set_cons_succ]
      refine wpAnyH_takeD (i := 7) (t := 23) (v := .pointer (some ⟨x, 1, none⟩)) rfl rfl (by kernel_rfl) (by kernel_rfl) (by kernel_rfl) (fun _ _ _ h => h) (Or.inl ⟨by rfl, fun w' hSw => by obtain ⟨s1, s2⟩ := hSw; go_simp <;> omega⟩) (by assumption) ?_
      simp only [Act.put, List.setIfInBounds_toArray, List.set_cons_zero, List.set_cons_succ]
      refine wpAnyH_takeD (i := 8) (t := 24) (v := .int .i64 (m : Int)) rfl rfl (by kernel_rfl) (by kernel_rfl) (by kernel_rfl) (fun _ _ _ h => h) (Or.inl ⟨by rfl, fun w' hSw => by obtain ⟨s1, s2⟩ := hSw; go_simp <;> omega⟩) (by assumption) ?_
      simp only [Act.put, List.setIfInBounds_toArray, List.set_cons_zero, List.set_cons_succ]
      refine wpAnyH_takeD (i := 9) (t := 25) (v := .int .i64 (64 * (m : Int))) rfl rfl (by kernel_rfl) (by kernel_rfl) (by kernel_rfl) (fun _ _ _ h => h) (Or.inl ⟨by rfl, fun w' hSw => by obtain ⟨s1, s2⟩ := hSw; go_simp <;> omega⟩) (by assumption) ?_
      simp only [Act.put, List.setIfInBounds_toArray, List.set_cons_zero, List.set_cons_succ]
      refine wpAnyH_takeD (i := 10) (t := 26) (v := .pointer (some ⟨x, 1, none⟩)) rfl rfl (by kernel_rfl) (by kernel_rfl) (by kernel_rfl) (fun _ _ _ h => h) (Or.inl ⟨by rfl, fun w' hSw => by obtain ⟨s1, s2⟩ := hSw; go_simp <;> omega⟩) (by assumption) ?_
      simp only [Act.put, List.setIfInBounds_toArray, List.set_cons_zero, List.set_cons_succ]
      refine wpAnyH_takeD (i := 11) (t := 27) (v := .int .i64 (m : Int)) rfl rfl (by kernel_rfl) (by kernel_rfl) (by kernel_rfl) (fun _ _ _ h => h) (Or.inl ⟨by rfl, fun w' hSw => by obtain ⟨s1, s2⟩ := hSw; go_simp <;> omega⟩) (by assumption) ?_
      simp only [Act.put, List.setIfInBounds_toArray, List.set_cons_zero, List.set_cons_succ]
      refine wpAnyH_takeD (i := 12) (t := 28) (v := .int .i64 (64 * (m : Int))) rfl rfl (by kernel_rfl) (by kernel_rfl) (by kernel_rfl) (fun _ _ _ h => h) (Or.inl ⟨by rfl, fun w' hSw => by obtain ⟨s1, s2⟩ := hSw; go_simp <;> omega⟩) (by assumption) ?_
      simp only [Act.put, List.setIfInBounds_toArray, List.set_cons_zero, List.set_cons_succ]
      refine wpAnyH_takeD (i := 13) (t := 29) (v := .int .i64 (64 * (m : Int) + 64)) rfl rfl (by kernel_rfl) (by kernel_rfl) (by kernel_rfl) (fun _ _ _ h => h) (Or.inl ⟨by rfl, fun w' hSw => by obtain ⟨s1, s2⟩ := hSw; go_simp <;> omega⟩) (by assumption) ?_
      simp only [Act.put, List.setIfInBounds_toArray, List.set_cons_zero, List.set_cons_succ]
      refine wpAnyH_takeD (i := 14) (t := 30) (v := .pointer (some ⟨y, 1, none⟩)) rfl rfl (by kernel_rfl) (by kernel_rfl) (by kernel_rfl) (fun _ _ _ h => h) (Or.inl ⟨by rfl, fun w' hSw => by obtain ⟨s1, s2⟩ := hSw; go_simp <;> omega⟩) (by assumption) ?_
      simp only [Act.put, List.setIfInBounds_toArray, List.set_cons_zero, List.set_cons_succ]
      refine wpAnyH_takeD (i := 15) (t := 31) (v := .string (d.fs f).now) rfl rfl (by kernel_rfl) (by kernel_rfl) (by kernel_rfl) (fun _ _ _ h => h) (Or.inl ⟨by rfl, fun w' hSw => by obtain ⟨s1, s2⟩ := hSw; go_simp <;> omega⟩) (by assumption) ?_
      simp only [Act.put, List.setIfInBounds_toArray, List.set_cons_zero, List.set_cons_succ]
      refine wpAnyH_takeD (i := 16) (t := 32) (v := .int .i64 ((d.fs f).now.size : Int)) rfl rfl (by kernel_rfl) (by kernel_rfl) (by kernel_rfl) (fun _ _ _ h => h) (Or.inl ⟨by rfl, fun w' hSw => by obtain ⟨s1, s2⟩ := hSw; go_simp <;> omega⟩) (by assumption) ?_
      simp only [Act.put, List.setIfInBounds_toArray, List.set_cons_zero, List.set_cons_succ]
      refine wpAnyH_takeD (i := 17) (t := 33) (v := .int .i64 (64 * (m : Int) + 64)) rfl rfl (by kernel_rfl) (by kernel_rfl) (by kernel_rfl) (fun _ _ _ h => h) (Or.inl ⟨by rfl, fun w' hSw => by obtain ⟨s1, s2⟩ := hSw; go_simp <;> omega⟩) (by assumption) ?_
      simp only [Act.put, List.setIfInBounds_toArray, List.set_cons_zero, List.set_cons_succ]
      refine wpAnyH_takeD (i := 18) (t := 34) (v := .string ((d.fs f).now.extract (m * 64) (m * 64 + 64))) rfl rfl (by kernel_rfl) (by kernel_rfl) (by kernel_rfl) (fun _ _ _ h => h) (Or.inl ⟨by rfl, fun w' hSw => by obtain ⟨s1, s2⟩ := hSw; go_simp <;> omega⟩) (by assumption) ?_
      simp only [Act.put, List.setIfInBounds_toArray, List.set_cons_zero, List.set_cons_succ]
      refine wpAnyH_ready (rs := [1]) (by kernel_rfl) (by simp) ?_
      refine AllReadyH.cons rfl (fun K hK => ?_) AllReadyH.nil
      go_simp
      refine hK.out _ _ hHeld (fun hHeld => ?_)
      clear hK K
      refine wpAnyH_ready (rs := [19]) (by kernel_rfl) (by simp) ?_
      refine AllReadyH.cons rfl (fun K hK => ?_) AllReadyH.nil
      go_simp
      refine (PUT.out _ _ rfl).mono ?_
      rintro e' wv ⟨rfl, hfv⟩
      have hbx := (Blk.drew BX.out).keep hfv fun h => h
      have hby := (Blk.drew BY.out).keep hfv fun h => h
      refine hK.out _ _ ⟨hbx.cell 1, hby.cell 1⟩ (fun hHeld2 => ?_)
      clear hK K
      have v1 : wv.cell? ⟨y, 2, none⟩ = some (.string (d.fs f).last) := hby.cell 2
      have v2 : wv.frozen? ⟨y, 2, none⟩ = false := hby.frozen 2
      have v3 : y < wv.heap.size := hby.lt
      refine wpAnyH_takeD (i := 20) (t := 36) (v := .pointer (some ⟨y, 2, none⟩)) rfl rfl (by kernel_rfl) (by kernel_rfl) (by kernel_rfl) (fun _ _ _ h => h) (Or.inl ⟨by rfl, fun w' hSw => by obtain ⟨s1, s2⟩ := hSw; go_simp <;> omega⟩) (by assumption) ?_
      simp only [Act.put, List.setIfInBounds_toArray, List.set_cons_zero, List.set_cons_succ]
      have hset : Fr (fun k => k = y) wv (wv.setCell ⟨y, 2, none⟩ (.string (putB (d.fs f).last (m * 64) ((d.fs f).now.extract (m * 64) (m * 64 + 64))))) := (Fr.refl (fun k => k = y) wv).setCell (p := ⟨y, 2, none⟩) (fun _ => rfl) _
      have hby2 := hby.set_ 2 (.string (putB (d.fs f).last (m * 64) ((d.fs f).now.extract (m * 64) (m * 64 + 64))))
      have hbx2 := hbx.keep hset hxy
      refine wpAnyH_ready (rs := [21]) (by kernel_rfl) (by simp) ?_
      refine AllReadyH.cons rfl (fun K hK => ?_) AllReadyH.nil
      go_simp
      refine hK.out _ _ ⟨hbx2.cell 1, hby2.cell 1⟩ (fun hHeld3 => ?_)
      clear hK K
      refine wpAnyH_done (by kernel_rfl) ?_ _
      have hfin := FIN.out wv _ ((Fr.drew (Fr.refl (fun _ => False) w3)).trans' hfv fun _ _ h => h.elim) hset
      have z0 := hby2.cell 0
      have z1 := hby2.cell 1
      have z2 := hby2.cell 2
      simp only [List.setIfInBounds_toArray, List.getElem?_toArray, List.set_cons_zero, List.set_cons_succ, List.getElem?_cons_zero, List.getElem?_cons_succ] at z0 z1 z2
      have HFIN := Lib.hid hfin
      clear hHeld hHeld2 hHeld3 v1 v2 hfin hset hby hbx hby2 hbx2 hfv FIN PUT cx cy
      go_wp2_with fail
      refine HFIN.out.mono ?_
      rintro e w6 ⟨rfl, hp⟩
      go_wp2_with fail
      go_end0
      exact hp
    · obtain rfl : e0 = (d.fs f).now.size := by omega
      have h64' : ¬ 64 * (m : Int) + 64 ≤ ((d.fs f).now.size : Int) := by omega
      have hz1 : 64 * (m : Int) ≤ ((d.fs f).now.size : Int) := by omega
      clear he0
      refine wp_region_held_drew (S := fun w' => w'.cell? ⟨x, 1, none⟩ = some (.int .i64 (m : Int)) ∧ w'.cell? ⟨y, 1, none⟩ = some (.string (d.fs f).now)) (by kernel_rfl) ⟨cx, cy⟩ (fun hHeld => ?_)
      refine wpAnyH_takeD (i := 0) (t := 16) (v := .pointer (some ⟨y, 2, none⟩)) rfl rfl (by kernel_rfl) (by kernel_rfl) (by kernel_rfl) (fun _ _ _ h => h) (Or.inl ⟨by rfl, fun w' hSw => by obtain ⟨s1, s2⟩ := hSw; go_simp <;> omega⟩) (by assumption) ?_
      simp only [Act.put, List.setIfInBounds_toArray, List.set_cons_zero, List.set_cons_succ]
      refine wpAnyH_takeD (i := 2) (t := 18) (v := .pointer (some ⟨x, 1, none⟩)) rfl rfl (by kernel_rfl) (by kernel_rfl) (by kernel_rfl) (fun _ _ _ h => h) (Or.inl ⟨by rfl, fun w' hSw => by obtain ⟨s1, s2⟩ := hSw; go_simp <;> omega⟩) (by assumption) ?_
      simp only [Act.put, List.setIfInBounds_toArray, List.set_cons_zero, List.set_cons_succ]
      refine wpAnyH_takeD (i := 3) (t := 19) (v := .int .i64 (m : Int)) rfl rfl (by kernel_rfl) (by kernel_rfl) (by kernel_rfl) (fun _ _ _ h => h) (Or.inl ⟨by rfl, fun w' hSw => by obtain ⟨s1, s2⟩ := hSw; go_simp <;> omega⟩) (by assumption) ?_
      simp only [Act.put, List.setIfInBounds_toArray, List.set_cons_zero, List.set_cons_succ]
      refine wpAnyH_takeD (i := 4) (t := 20) (v := .int .i64 (64 * (m : Int))) rfl rfl (by kernel_rfl) (by kernel_rfl) (by kernel_rfl) (fun _ _ _ h => h) (Or.inl ⟨by rfl, fun w' hSw => by obtain ⟨s1, s2⟩ := hSw; go_simp <;> omega⟩) (by assumption) ?_
      simp only [Act.put, List.setIfInBounds_toArray, List.set_cons_zero, List.set_cons_succ]
      refine wpAnyH_takeD (i := 5) (t := 21) (v := .pointer (some ⟨y, 1, none⟩)) rfl rfl (by kernel_rfl) (by kernel_rfl) (by kernel_rfl) (fun _ _ _ h => h) (Or.inl ⟨by rfl, fun w' hSw => by obtain ⟨s1, s2⟩ := hSw; go_simp <;> omega⟩) (by assumption) ?_
      simp only [Act.put, List.setIfInBounds_toArray, List.set_cons_zero, List.set_cons_succ]
      refine wpAnyH_takeD (i := 6) (t := 22) (v := .string (d.fs f).now) rfl rfl (by kernel_rfl) (by kernel_rfl) (by kernel_rfl) (fun _ _ _ h => h) (Or.inl ⟨by rfl, fun w' hSw => by obtain ⟨s1, s2⟩ := hSw; go_simp <;> omega⟩) (by assumption) ?_
      simp only [Act.put, List.setIfInBounds_toArray, List.set_cons_zero, List.set_cons_succ]
      refine wpAnyH_takeD (i := 7) (t := 23) (v := .pointer (some ⟨x, 1, none⟩)) rfl rfl (by kernel_rfl) (by kernel_rfl) (by kernel_rfl) (fun _ _ _ h => h) (Or.inl ⟨by rfl, fun w' hSw => by obtain ⟨s1, s2⟩ := hSw; go_simp <;> omega⟩) (by assumption) ?_
      simp only [Act.put, List.setIfInBounds_toArray, List.set_cons_zero, List.set_cons_succ]
      refine wpAnyH_takeD (i := 8) (t := 24) (v := .int .i64 (m : Int)) rfl rfl (by kernel_rfl) (by kernel_rfl) (by kernel_rfl) (fun _ _ _ h => h) (Or.inl ⟨by rfl, fun w' hSw => by obtain ⟨s1, s2⟩ := hSw; go_simp <;> omega⟩) (by assumption) ?_
      simp only [Act.put, List.setIfInBounds_toArray, List.set_cons_zero, List.set_cons_succ]
      refine wpAnyH_takeD (i := 9) (t := 25) (v := .int .i64 (64 * (m : Int))) rfl rfl (by kernel_rfl) (by kernel_rfl) (by kernel_rfl) (fun _ _ _ h => h) (Or.inl ⟨by rfl, fun w' hSw => by obtain ⟨s1, s2⟩ := hSw; go_simp <;> omega⟩) (by assumption) ?_
      simp only [Act.put, List.setIfInBounds_toArray, List.set_cons_zero, List.set_cons_succ]
      refine wpAnyH_takeD (i := 10) (t := 26) (v := .pointer (some ⟨x, 1, none⟩)) rfl rfl (by kernel_rfl) (by kernel_rfl) (by kernel_rfl) (fun _ _ _ h => h) (Or.inl ⟨by rfl, fun w' hSw => by obtain ⟨s1, s2⟩ := hSw; go_simp <;> omega⟩) (by assumption) ?_
      simp only [Act.put, List.setIfInBounds_toArray, List.set_cons_zero, List.set_cons_succ]
      refine wpAnyH_takeD (i := 11) (t := 27) (v := .int .i64 (m : Int)) rfl rfl (by kernel_rfl) (by kernel_rfl) (by kernel_rfl) (fun _ _ _ h => h) (Or.inl ⟨by rfl, fun w' hSw => by obtain ⟨s1, s2⟩ := hSw; go_simp <;> omega⟩) (by assumption) ?_
      simp only [Act.put, List.setIfInBounds_toArray, List.set_cons_zero, List.set_cons_succ]
      refine wpAnyH_takeD (i := 12) (t := 28) (v := .int .i64 (64 * (m : Int))) rfl rfl (by kernel_rfl) (by kernel_rfl) (by kernel_rfl) (fun _ _ _ h => h) (Or.inl ⟨by rfl, fun w' hSw => by obtain ⟨s1, s2⟩ := hSw; go_simp <;> omega⟩) (by assumption) ?_
      simp only [Act.put, List.setIfInBounds_toArray, List.set_cons_zero, List.set_cons_succ]
      refine wpAnyH_takeD (i := 13) (t := 29) (v := .int .i64 (64 * (m : Int) + 64)) rfl rfl (by kernel_rfl) (by kernel_rfl) (by kernel_rfl) (fun _ _ _ h => h) (Or.inl ⟨by rfl, fun w' hSw => by obtain ⟨s1, s2⟩ := hSw; go_simp <;> omega⟩) (by assumption) ?_
      simp only [Act.put, List.setIfInBounds_toArray, List.set_cons_zero, List.set_cons_succ]
      refine wpAnyH_takeD (i := 14) (t := 30) (v := .pointer (some ⟨y, 1, none⟩)) rfl rfl (by kernel_rfl) (by kernel_rfl) (by kernel_rfl) (fun _ _ _ h => h) (Or.inl ⟨by rfl, fun w' hSw => by obtain ⟨s1, s2⟩ := hSw; go_simp <;> omega⟩) (by assumption) ?_
      simp only [Act.put, List.setIfInBounds_toArray, List.set_cons_zero, List.set_cons_succ]
      refine wpAnyH_takeD (i := 15) (t := 31) (v := .string (d.fs f).now) rfl rfl (by kernel_rfl) (by kernel_rfl) (by kernel_rfl) (fun _ _ _ h => h) (Or.inl ⟨by rfl, fun w' hSw => by obtain ⟨s1, s2⟩ := hSw; go_simp <;> omega⟩) (by assumption) ?_
      simp only [Act.put, List.setIfInBounds_toArray, List.set_cons_zero, List.set_cons_succ]
      refine wpAnyH_takeD (i := 16) (t := 32) (v := .int .i64 ((d.fs f).now.size : Int)) rfl rfl (by kernel_rfl) (by kernel_rfl) (by kernel_rfl) (fun _ _ _ h => h) (Or.inl ⟨by rfl, fun w' hSw => by obtain ⟨s1, s2⟩ := hSw; go_simp <;> omega⟩) (by assumption) ?_
      simp only [Act.put, List.setIfInBounds_toArray, List.set_cons_zero, List.set_cons_succ]
      refine wpAnyH_takeD (i := 17) (t := 33) (v := .int .i64 (((d.fs f).now.size : Int))) rfl rfl (by kernel_rfl) (by kernel_rfl) (by kernel_rfl) (fun _ _ _ h => h) (Or.inl ⟨by rfl, fun w' hSw => by obtain ⟨s1, s2⟩ := hSw; go_simp <;> omega⟩) (by assumption) ?_
      simp only [Act.put, List.setIfInBounds_toArray, List.set_cons_zero, List.set_cons_succ]
      refine wpAnyH_takeD (i := 18) (t := 34) (v := .string ((d.fs f).now.extract (m * 64) ((d.fs f).now.size))) rfl rfl (by kernel_rfl) (by kernel_rfl) (by kernel_rfl) (fun _ _ _ h => h) (Or.inl ⟨by rfl, fun w' hSw => by obtain ⟨s1, s2⟩ := hSw; go_simp <;> omega⟩) (by assumption) ?_
      simp only [Act.put, List.setIfInBounds_toArray, List.set_cons_zero, List.set_cons_succ]
      refine wpAnyH_ready (rs := [1]) (by kernel_rfl) (by simp) ?_
      refine AllReadyH.cons rfl (fun K hK => ?_) AllReadyH.nil
      go_simp
      refine hK.out _ _ hHeld (fun hHeld => ?_)
      clear hK K
      refine wpAnyH_ready (rs := [19]) (by kernel_rfl) (by simp) ?_
      refine AllReadyH.cons rfl (fun K hK => ?_) AllReadyH.nil
      go_simp
      refine (PUT.out _ _ rfl).mono ?_
      rintro e' wv ⟨rfl, hfv⟩
      have hbx := (Blk.drew BX.out).keep hfv fun h => h
      have hby := (Blk.drew BY.out).keep hfv fun h => h
      refine hK.out _ _ ⟨hbx.cell 1, hby.cell 1⟩ (fun hHeld2 => ?_)
      clear hK K
      have v1 : wv.cell? ⟨y, 2, none⟩ = some (.string (d.fs f).last) := hby.cell 2
      have v2 : wv.frozen? ⟨y, 2, none⟩ = false := hby.frozen 2
      have v3 : y < wv.heap.size := hby.lt
      refine wpAnyH_takeD (i := 20) (t := 36) (v := .pointer (some ⟨y, 2, none⟩)) rfl rfl (by kernel_rfl) (by kernel_rfl) (by kernel_rfl) (fun _ _ _ h => h) (Or.inl ⟨by rfl, fun w' hSw => by obtain ⟨s1, s2⟩ := hSw; go_simp <;> omega⟩) (by assumption) ?_
      simp only [Act.put, List.setIfInBounds_toArray, List.set_cons_zero, List.set_cons_succ]
      have hset : Fr (fun k => k = y) wv (wv.setCell ⟨y, 2, none⟩ (.string (putB (d.fs f).last (m * 64) ((d.fs f).now.extract (m * 64) ((d.fs f).now.size))))) := (Fr.refl (fun k => k = y) wv).setCell (p := ⟨y, 2, none⟩) (fun _ => rfl) _
      have hby2 := hby.set_ 2 (.string (putB (d.fs f).last (m * 64) ((d.fs f).now.extract (m * 64) ((d.fs f).now.size))))
      have hbx2 := hbx.keep hset hxy
      refine wpAnyH_ready (rs := [21]) (by kernel_rfl) (by simp) ?_
      refine AllReadyH.cons rfl (fun K hK => ?_) AllReadyH.nil
      go_simp
      refine hK.out _ _ ⟨hbx2.cell 1, hby2.cell 1⟩ (fun hHeld3 => ?_)
      clear hK K
      refine wpAnyH_done (by kernel_rfl) ?_ _
      have hfin := FIN.out wv _ ((Fr.drew (Fr.refl (fun _ => False) w3)).trans' hfv fun _ _ h => h.elim) hset
      have z0 := hby2.cell 0
      have z1 := hby2.cell 1
      have z2 := hby2.cell 2
      simp only [List.setIfInBounds_toArray, List.getElem?_toArray, List.set_cons_zero, List.set_cons_succ, List.getElem?_cons_zero, List.getElem?_cons_succ] at z0 z1 z2
      have HFIN := Lib.hid hfin
      clear hHeld hHeld2 hHeld3 v1 v2 hfin hset hby hbx hby2 hbx2 hfv FIN PUT cx cy
      go_wp2_with fail
      refine HFIN.out.mono ?_
      rintro e w6 ⟨rfl, hp⟩
      go_wp2_with fail
      go_end0
      exact hp
end Go.Proofs.YtjgmbildgcighaaDoor
