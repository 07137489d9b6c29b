import Derived.Test.YtjgmbildgcighaaDoorD9a
namespace Go.Proofs.YtjgmbildgcighaaDoor
open Go.RowKit
set_option maxRecDepth 100000 in
set_option maxHeartbeats 3200000 in
theorem crash_up (g : Nat) (d : DS) (kv : Value) (A : Option Addr) (c : Nat) (ks : List Int) (w : World) (F : Nat → Prop) (h : DiskAt w F g kv d) (hk : KeepAt w F A ks) (hb : ks.length ≤ 1000000) (hdn : d.down = false) :
    Calls Tryd.prog 22 #[.pointer (some ⟨g, 0, none⟩), .slice A ks.length c] w (DPost w F g (.tuple #[]) kv (crashD d ks)) := by
  have HAt := Lib.hid h
  have HK := Lib.hid hk
  obtain ⟨bf, bs, qv, h⟩ := h
  have c4 : w.cell? ⟨g, 4, none⟩ = some (.bool false) := by rw [← hdn]; exact h.blk.cell 4
  have c5 : w.cell? ⟨g, 5, none⟩ = some (.int .i64 d.armed) := h.blk.cell 5
  have f4 : w.frozen? ⟨g, 4, none⟩ = false := h.blk.frozen 4
  have f5 : w.frozen? ⟨g, 5, none⟩ = false := h.blk.frozen 5
  have c1 : w.cell? ⟨g, 1, none⟩ = some qv := h.blk.cell 1
  have hlen := h.inv.len
  have hinv := h.inv
  have hst : Hid (CrRel w F g kv d ks bf bs qv 0 ((w.setCell ⟨g, 4, none⟩ (.bool true)).setCell ⟨g, 5, none⟩ (.int .i64 0))) := by
    refine ⟨?_, ((Fr.refl F w).setCell (fun _ => h.own) _).setCell (fun _ => h.own) _⟩
    have h1 := h.set_ (i := 4) (u := .bool true) (kv' := kv) (d' := { d with down := true }) ⟨h.inv.nodup, h.inv.sect, h.inv.now, h.inv.last, h.inv.lost, h.inv.armed⟩ rfl rfl rfl
    exact h1.set_ (i := 5) (u := .int .i64 0) (kv' := kv) (d' := midD d d.fs) (hinv.mid ks 0) rfl rfl rfl
  have hrow := h.row
  obtain ⟨A0, c0, rfl, -, hcm⟩ := hrow.form
  unfold maxLen at hcm
  clear h hk hrow
  go_enter Tryd.func22, Tryd.ntmps22
  go_wp2_with fail
  clear c4 c5 f4 f5 c1
  go_loopw [25] (fun i wr => ∃ k : Nat, k ≤ d.q.length ∧ i = .int .i64 k ∧ CrRel w F g kv d ks bf bs (.slice A0 d.q.length c0) k wr) (fun i _ => d.q.length - (intOf i).toNat)
  case atStart => exact ⟨0, Nat.zero_le _, rfl, hst.out⟩
  case round =>
    obtain ⟨k, hkl, rfl, hd, hfr⟩ := hrel
    have HD := Lib.hid hd
    have HFR := Lib.hid hfr
    have hlg := hd.blk.lt
    by_cases hlt : k < d.q.length
    · obtain ⟨p, hp⟩ : ∃ p, d.q[k]? = some p := ⟨_, List.getElem?_eq_getElem hlt⟩
      obtain ⟨b, rfl, hb2, y1, y2⟩ := hd.row.qat k p hp
      have hsec := hinv.sect p (List.mem_of_getElem? hp)
      obtain ⟨hs1, hs2, hs3, hs4⟩ := hsec
      obtain ⟨p1, p2⟩ := p
      obtain ⟨m, rfl⟩ : ∃ m : Nat, p2 = m := ⟨p2.toNat, by dsimp only at hs3; omega⟩
      dsimp only at hs1 hs2 hs4 y1 y2
      have HSU := Lib.hid (survK_succ (fs := d.fs) (ks := ks) hp)
      have hz : (k : Int) < (d.q.length : Int) := by omega
      have g0 : wr.cell? ⟨g, 0, none⟩ = some (.map (some bf)) := hd.blk.cell 0
      clear hst hp hd hfr
      generalize hfs : survK d.fs ks d.q k = fs at *
      have hmul : IntKind.i64.wrap ((m : Int) * 64) = (m : Int) * 64 := IntWalk.i64_in _ (by omega)
      have hx1 := Blk.new wr 78 #[.int .i64 p1, .int .i64 m]
      have hgp : Blk (wr.alloc (.cells #[.int .i64 p1, .int .i64 m] 78)) g 61 _ := HD.out.blk.alloc _
      have hlk := fun (W : World) (hW : W.heap[bf]? = (wr.alloc (.cells #[.int .i64 p1, .int .i64 m] 78)).heap[bf]?) => (((HD.out.files.alloc (.cells #[.int .i64 p1, .int .i64 m] 78)).of_block hW).look p1)
      have hbfl : bf < wr.heap.size := HD.out.files.lt
      unfold fileV at hlk
      have HX1 := Lib.hid hx1
      have HGP := Lib.hid hgp
      have HLK := Lib.hid hlk
      have hw1 : wr.heap.size < (wr.alloc (.cells #[.int .i64 p1, .int .i64 m] 78)).heap.size := by simp
      clear hx1 hgp hlk
      go_wp2_with fail
      clear y1 y2
      generalize hwp : wr.alloc (.cells #[.int .i64 p1, .int .i64 m] 78) = wp at *
      refine wp_region_held_drew (S := fun w' => w'.cell? ⟨g, 0, none⟩ = some (.map (some bf)) ∧ w'.cell? ⟨wr.heap.size, 0, none⟩ = some (.int .i64 p1) ∧ w'.cell? ⟨wr.heap.size, 1, none⟩ = some (.int .i64 m) ∧ (Instr.lookup 57 (.map (some bf)) (.int .i64 p1) false).run Tryd.prog w' = .ok (.agg #[.string (fs p1).now, .string (fs p1).last]) w') (by kernel_rfl) (holdC HGP.out HX1.out HLK.out hbfl hw1 (Fr.drew (Fr.refl _ _))) (fun hHeld => ?_)
      refine wpAnyH_takeD (i := 0) (t := 30) (v := .pointer (some ⟨g, 0, none⟩)) rfl rfl (by kernel_rfl) (by kernel_rfl) (by kernel_rfl) (fun _ _ _ h => h) (Or.inl ⟨by rfl, fun w' hSw => by obtain ⟨s1, s2, s3, s4⟩ := hSw; go_simp⟩) (by assumption) ?_
      simp only [Act.put, List.setIfInBounds_toArray, List.set_cons_zero, List.set_cons_succ]
      refine wpAnyH_takeD (i := 1) (t := 31) (v := .pointer (some ⟨g, 0, none⟩)) rfl rfl (by kernel_rfl) (by kernel_rfl) (by kernel_rfl) (fun _ _ _ h => h) (Or.inl ⟨by rfl, fun w' hSw => by obtain ⟨s1, s2, s3, s4⟩ := hSw; go_simp⟩) (by assumption) ?_
      simp only [Act.put, List.setIfInBounds_toArray, List.set_cons_zero, List.set_cons_succ]
      refine wpAnyH_takeD (i := 2) (t := 32) (v := .pointer (some ⟨g, 0, none⟩)) rfl rfl (by kernel_rfl) (by kernel_rfl) (by kernel_rfl) (fun _ _ _ h => h) (Or.inl ⟨by rfl, fun w' hSw => by obtain ⟨s1, s2, s3, s4⟩ := hSw; go_simp⟩) (by assumption) ?_
      simp only [Act.put, List.setIfInBounds_toArray, List.set_cons_zero, List.set_cons_succ]
      refine wpAnyH_takeD (i := 3) (t := 33) (v := .map (some bf)) rfl rfl (by kernel_rfl) (by kernel_rfl) (by kernel_rfl) (fun _ _ _ h => h) (Or.inl ⟨by rfl, fun w' hSw => by obtain ⟨s1, s2, s3, s4⟩ := hSw; go_simp⟩) (by assumption) ?_
      simp only [Act.put, List.setIfInBounds_toArray, List.set_cons_zero, List.set_cons_succ]
      refine wpAnyH_takeD (i := 4) (t := 34) (v := .pointer (some ⟨wr.heap.size, 0, none⟩)) rfl rfl (by kernel_rfl) (by kernel_rfl) (by kernel_rfl) (fun _ _ _ h => h) (Or.inl ⟨by rfl, fun w' hSw => by obtain ⟨s1, s2, s3, s4⟩ := hSw; go_simp⟩) (by assumption) ?_
      simp only [Act.put, List.setIfInBounds_toArray, List.set_cons_zero, List.set_cons_succ]
      refine wpAnyH_takeD (i := 5) (t := 35) (v := .int .i64 p1) rfl rfl (by kernel_rfl) (by kernel_rfl) (by kernel_rfl) (fun _ _ _ h => h) (Or.inl ⟨by rfl, fun w' hSw => by obtain ⟨s1, s2, s3, s4⟩ := hSw; go_simp⟩) (by assumption) ?_
      simp only [Act.put, List.setIfInBounds_toArray, List.set_cons_zero, List.set_cons_succ]
      refine wpAnyH_takeD (i := 6) (t := 36) (v := .agg #[.string (fs p1).now, .string (fs p1).last]) rfl rfl (by kernel_rfl) (by kernel_rfl) (by kernel_rfl) (fun _ _ _ h => h) (Or.inl ⟨by rfl, fun w' hSw => by obtain ⟨s1, s2, s3, s4⟩ := hSw; go_simp⟩) (by assumption) ?_
      simp only [Act.put, List.setIfInBounds_toArray, List.set_cons_zero, List.set_cons_succ]
      refine wpAnyH_takeD (i := 7) (t := 37) (v := .pointer (some ⟨wr.heap.size, 1, none⟩)) rfl rfl (by kernel_rfl) (by kernel_rfl) (by kernel_rfl) (fun _ _ _ h => h) (Or.inl ⟨by rfl, fun w' hSw => by obtain ⟨s1, s2, s3, s4⟩ := hSw; go_simp⟩) (by assumption) ?_
      simp only [Act.put, List.setIfInBounds_toArray, List.set_cons_zero, List.set_cons_succ]
      refine wpAnyH_takeD (i := 8) (t := 38) (v := .int .i64 m) rfl rfl (by kernel_rfl) (by kernel_rfl) (by kernel_rfl) (fun _ _ _ h => h) (Or.inl ⟨by rfl, fun w' hSw => by obtain ⟨s1, s2, s3, s4⟩ := hSw; go_simp⟩) (by assumption) ?_
      simp only [Act.put, List.setIfInBounds_toArray, List.set_cons_zero, List.set_cons_succ]
      refine wpAnyH_takeD (i := 9) (t := 39) (v := .int .i64 ((m : Int) * 64)) rfl rfl (by kernel_rfl) (by kernel_rfl) (by kernel_rfl) (fun _ _ _ h => h) (Or.inl ⟨by rfl, fun w' hSw => by obtain ⟨s1, s2, s3, s4⟩ := hSw; go_simp⟩) (by assumption) ?_
      simp only [Act.put, List.setIfInBounds_toArray, List.set_cons_zero, List.set_cons_succ]
      refine wpAnyH_ready (rs := [10]) (by kernel_rfl) (by simp) ?_
      refine AllReadyH.cons rfl (fun K hK => ?_) AllReadyH.nil
      go_simp
      refine hK.out _ _ (holdC HGP.out HX1.out HLK.out hbfl hw1 (Fr.drew (Fr.alloc (Fr.refl _ _) _))) (fun hHeld2 => ?_)
      clear hK K
      refine wpAnyH_ready (rs := [11]) (by kernel_rfl) (by simp) ?_
      refine AllReadyH.cons rfl (fun K hK => ?_) AllReadyH.nil
      go_simp
      refine hK.out _ _ (holdC HGP.out HX1.out HLK.out hbfl hw1 (Fr.drew (Fr.alloc (Fr.refl _ _) _))) (fun hHeld3 => ?_)
      clear hK K
      refine wpAnyH_takeD (i := 12) (t := 7) (v := .int .i64 ((m : Int) * 64)) rfl rfl (by kernel_rfl) (by kernel_rfl) (by kernel_rfl) (fun _ _ _ h => h) (Or.inl ⟨by rfl, fun w' hSw => by obtain ⟨s1, s2, s3, s4⟩ := hSw; go_simp⟩) (by assumption) ?_
      simp only [Act.put, List.setIfInBounds_toArray, List.set_cons_zero, List.set_cons_succ]
      refine wpAnyH_done (by kernel_rfl) ?_ _
      clear hHeld hHeld2 hHeld3
      have hq : Hid (CrMid w F g kv d ks fs (p1, (m : Int)) bf bs (.slice (some ⟨b, 0, none⟩) d.q.length c0) wr.heap.size wp.heap.size A (wp.alloc (.cells #[.string (fs p1).now, .string (fs p1).last] 80)).drew) := crmid_start HD.out HFR.out HK.out hwp
      clear g0 hwp HX1 HGP HLK hw1 hbfl hb2 hmul
      generalize (wp.alloc (.cells #[.string (fs p1).now, .string (fs p1).last] 80)).drew = wq at *
      generalize wp.heap.size = x2 at *
      generalize wr.heap.size = x1 at *
      have hn16 : (fs p1).now.size ≤ 16777216 := HD.out.inv.now p1
      have hl16 : (fs p1).last.size ≤ 16777216 := HD.out.inv.last p1
      cases hsv : survB ks k
      · have hend : Hid (CrRel w F g kv d ks bf bs (.slice (some ⟨b, 0, none⟩) d.q.length c0) (k + 1) wq) := by
          show CrRel _ _ _ _ _ _ _ _ _ _ _
          have e := HSU.out
          rw [hsv] at e
          simp only [Bool.false_eq_true, if_false] at e
          exact ⟨e ▸ hq.out.dx, hq.out.fr⟩
        rcases survB_off hsv with h0 | ⟨x, hx, hbit⟩
        · have h0'' : ks = [] := List.eq_nil_of_length_eq_zero h0
          subst h0''
          clear hsv h0
          go_wp2_with fail
          go_roundw
          case rel => exact ⟨k + 1, by omega, by go_num, hend.out⟩
          case measure => simp [intOf]; omega
        · obtain ⟨kb, ko, rfl, hkb, -, hkc⟩ := hq.out.kp _ x hx
          have hxl := (List.getElem?_eq_some_iff.1 hx).1
          have hpos : (0 : Int) < (ks.length : Int) := by omega
          have hne : ((ks.length : Int) == 0) = false := by simp only [beq_eq_false_iff_ne, ne_eq]; omega
          clear hsv
          go_wp2_with fail
          go_roundw
          case rel => exact ⟨k + 1, by omega, by go_num, hend.out⟩
          case measure => simp [intOf]; omega
      · obtain ⟨hl0, x, hx, hbit⟩ := survB_on hsv
        obtain ⟨kb, ko, rfl, hkb, -, hkc⟩ := hq.out.kp _ x hx
        have hxl := (List.getElem?_eq_some_iff.1 hx).1
        have hpos : (0 : Int) < (ks.length : Int) := by omega
        have hne : ((ks.length : Int) == 0) = false := by simp only [beq_eq_false_iff_ne, ne_eq]; omega
        have b20 : wq.cell? ⟨x2, 0, none⟩ = some (.string (fs p1).now) := hq.out.b2.cell 0
        have b21 : wq.cell? ⟨x2, 1, none⟩ = some (.string (fs p1).last) := hq.out.b2.cell 1
        have e0 := HSU.out
        rw [hsv] at e0
        simp only [if_true] at e0
        by_cases hat : ((fs p1).now.size : Int) ≤ (m : Int) * 64
        · have hend : Hid (CrRel w F g kv d ks bf bs (.slice (some ⟨b, 0, none⟩) d.q.length c0) (k + 1) wq) := by
            show CrRel _ _ _ _ _ _ _ _ _ _ _
            rw [surv1_no (p := (p1, (m : Int))) hat] at e0
            exact ⟨e0 ▸ hq.out.dx, hq.out.fr⟩
          clear hsv e0
          go_wp2_with fail
          go_roundw
          case rel => exact ⟨k + 1, by omega, by go_num, hend.out⟩
          case measure => simp [intOf]; omega
        · obtain ⟨e, he⟩ : ∃ e, e = min (m * 64 + 64) (fs p1).now.size := ⟨_, rfl⟩
          rw [surv1_yes (p := (p1, (m : Int))) (a := m * 64) (e := e) hat (by dsimp only; omega) he] at e0
          have HE0 := Lib.hid e0
          have hmine : min ((m : Int) * 64 + 64) ((fs p1).now.size : Int) = (e : Int) := by omega
          have hel : m * 64 ≤ e ∧ e ≤ (fs p1).now.size := by omega
          clear hsv e0
          go_wp2_with fail
          clear hkc hbit hne
          by_cases h64 : m * 64 + 64 ≤ (fs p1).now.size
          · obtain rfl : e = m * 64 + 64 := by omega
            have h64' : (m : Int) * 64 + 64 ≤ ((fs p1).now.size : Int) := by omega
            have hwr : IntKind.i64.wrap ((m : Int) * 64 + 64) = (m : Int) * 64 + 64 := IntWalk.i64_in _ (by omega)
            have htn : ((m : Int) * 64).toNat = m * 64 := by omega
            have htn2 : ((m : Int) * 64 + 64).toNat = m * 64 + 64 := by omega
            have hz0 : (0 : Int) ≤ (m : Int) * 64 := by omega
            have hz1 : (m : Int) * 64 ≤ (m : Int) * 64 + 64 := by omega
            clear hmine he
            refine wp_region_held_drew (S := fun w' => w'.cell? ⟨x2, 0, none⟩ = some (.string (fs p1).now)) (by kernel_rfl) b20 (fun hHeld => ?_)
            refine wpAnyH_takeD (i := 0) (t := 61) (v := .pointer (some ⟨x2, 1, none⟩)) rfl rfl (by kernel_rfl) (by kernel_rfl) (by kernel_rfl) (fun _ _ _ h => h) (Or.inl ⟨by rfl, fun w' hSw => by go_simp <;> omega⟩) (by assumption) ?_
            simp only [Act.put, List.setIfInBounds_toArray, List.set_cons_zero, List.set_cons_succ]
            refine wpAnyH_takeD (i := 2) (t := 63) (v := .int .i64 ((m : Int) * 64)) rfl rfl (by kernel_rfl) (by kernel_rfl) (by kernel_rfl) (fun _ _ _ h => h) (Or.inl ⟨by rfl, fun w' hSw => by go_simp <;> omega⟩) (by assumption) ?_
            simp only [Act.put, List.setIfInBounds_toArray, List.set_cons_zero, List.set_cons_succ]
            refine wpAnyH_takeD (i := 3) (t := 64) (v := .pointer (some ⟨x2, 0, none⟩)) rfl rfl (by kernel_rfl) (by kernel_rfl) (by kernel_rfl) (fun _ _ _ h => h) (Or.inl ⟨by rfl, fun w' hSw => by go_simp <;> omega⟩) (by assumption) ?_
            simp only [Act.put, List.setIfInBounds_toArray, List.set_cons_zero, List.set_cons_succ]
            refine wpAnyH_takeD (i := 4) (t := 65) (v := .string (fs p1).now) rfl rfl (by kernel_rfl) (by kernel_rfl) (by kernel_rfl) (fun _ _ _ h => h) (Or.inl ⟨by rfl, fun w' hSw => by go_simp <;> omega⟩) (by assumption) ?_
            simp only [Act.put, List.setIfInBounds_toArray, List.set_cons_zero, List.set_cons_succ]
            refine wpAnyH_takeD (i := 5) (t := 66) (v := .int .i64 ((m : Int) * 64)) rfl rfl (by kernel_rfl) (by kernel_rfl) (by kernel_rfl) (fun _ _ _ h => h) (Or.inl ⟨by rfl, fun w' hSw => by go_simp <;> omega⟩) (by assumption) ?_
            simp only [Act.put, List.setIfInBounds_toArray, List.set_cons_zero, List.set_cons_succ]
            refine wpAnyH_takeD (i := 6) (t := 67) (v := .int .i64 ((m : Int) * 64)) rfl rfl (by kernel_rfl) (by kernel_rfl) (by kernel_rfl) (fun _ _ _ h => h) (Or.inl ⟨by rfl, fun w' hSw => by go_simp <;> omega⟩) (by assumption) ?_
            simp only [Act.put, List.setIfInBounds_toArray, List.set_cons_zero, List.set_cons_succ]
            refine wpAnyH_takeD (i := 7) (t := 68) (v := .int .i64 ((m : Int) * 64 + 64)) rfl rfl (by kernel_rfl) (by kernel_rfl) (by kernel_rfl) (fun _ _ _ h => h) (Or.inl ⟨by rfl, fun w' hSw => by go_simp <;> omega⟩) (by assumption) ?_
            simp only [Act.put, List.setIfInBounds_toArray, List.set_cons_zero, List.set_cons_succ]
            refine wpAnyH_takeD (i := 8) (t := 69) (v := .pointer (some ⟨x2, 0, none⟩)) rfl rfl (by kernel_rfl) (by kernel_rfl) (by kernel_rfl) (fun _ _ _ h => h) (Or.inl ⟨by rfl, fun w' hSw => by go_simp <;> omega⟩) (by assumption) ?_
            simp only [Act.put, List.setIfInBounds_toArray, List.set_cons_zero, List.set_cons_succ]
            refine wpAnyH_takeD (i := 9) (t := 70) (v := .string (fs p1).now) rfl rfl (by kernel_rfl) (by kernel_rfl) (by kernel_rfl) (fun _ _ _ h => h) (Or.inl ⟨by rfl, fun w' hSw => by go_simp <;> omega⟩) (by assumption) ?_
            simp only [Act.put, List.setIfInBounds_toArray, List.set_cons_zero, List.set_cons_succ]
            refine wpAnyH_takeD (i := 10) (t := 71) (v := .int .i64 ((fs p1).now.size : Int)) rfl rfl (by kernel_rfl) (by kernel_rfl) (by kernel_rfl) (fun _ _ _ h => h) (Or.inl ⟨by rfl, fun w' hSw => by go_simp <;> omega⟩) (by assumption) ?_
            simp only [Act.put, List.setIfInBounds_toArray, List.set_cons_zero, List.set_cons_succ]
            refine wpAnyH_takeD (i := 11) (t := 72) (v := .int .i64 ((m : Int) * 64 + 64)) rfl rfl (by kernel_rfl) (by kernel_rfl) (by kernel_rfl) (fun _ _ _ h => h) (Or.inl ⟨by rfl, fun w' hSw => by go_simp <;> omega⟩) (by assumption) ?_
            simp only [Act.put, List.setIfInBounds_toArray, List.set_cons_zero, List.set_cons_succ]
            refine wpAnyH_takeD (i := 12) (t := 73) (v := .string ((fs p1).now.extract (m * 64) (m * 64 + 64))) rfl rfl (by kernel_rfl) (by kernel_rfl) (by kernel_rfl) (fun _ _ _ h => h) (Or.inl ⟨by rfl, fun w' hSw => by go_simp <;> omega⟩) (by assumption) ?_
            simp only [Act.put, List.setIfInBounds_toArray, List.set_cons_zero, List.set_cons_succ]
            refine wpAnyH_ready (rs := [1]) (by kernel_rfl) (by simp) ?_
            refine AllReadyH.cons rfl (fun K hK => ?_) AllReadyH.nil
            go_simp
            refine hK.out _ _ hHeld (fun hHeld => ?_)
            clear hK K
            refine wpAnyH_ready (rs := [13]) (by kernel_rfl) (by simp) ?_
            refine AllReadyH.cons rfl (fun K hK => ?_) AllReadyH.nil
            go_simp
            refine (put_any (fs p1).last ((fs p1).now.extract (m * 64) (m * 64 + 64)) (m * 64) _ hl16 (by rw [size_extract]; omega)).mono ?_
            rintro e' wv ⟨rfl, hfv⟩
            have hbv := (Blk.drew hq.out.b2).keep hfv fun h => h
            refine hK.out _ _ (hbv.cell 0) (fun hHeld2 => ?_)
            clear hK K
            have v1 : wv.cell? ⟨x2, 1, none⟩ = some (.string (fs p1).last) := hbv.cell 1
            have v2 : wv.frozen? ⟨x2, 1, none⟩ = false := hbv.frozen 1
            have v3 : x2 < wv.heap.size := hbv.lt
            refine wpAnyH_takeD (i := 14) (t := 75) (v := .pointer (some ⟨x2, 1, none⟩)) rfl rfl (by kernel_rfl) (by kernel_rfl) (by kernel_rfl) (fun _ _ _ h => h) (Or.inl ⟨by rfl, fun w' hSw => by go_simp <;> omega⟩) (by assumption) ?_
            simp only [Act.put, List.setIfInBounds_toArray, List.set_cons_zero, List.set_cons_succ]
            refine wpAnyH_ready (rs := [15]) (by kernel_rfl) (by simp) ?_
            refine AllReadyH.cons rfl (fun K hK => ?_) AllReadyH.nil
            go_simp
            refine hK.out _ _ ((hbv.set_ 1 _).cell 0) (fun hHeld3 => ?_)
            clear hK K
            refine wpAnyH_done (by kernel_rfl) ?_ _
            obtain ⟨w3, r3, hend0, z1, z2, z3, z4⟩ := cr_next hq.out hfv HE0.out (by rw [← HE0.out]; exact hinv.mid ks (k + 1))
            have hend := Lib.hid hend0
            clear hHeld hHeld2 hHeld3 v1 v2 b20 b21 hend0
            go_wp2_with fail
            go_region
            clear r3 z1 z2 z3 z4
            go_wp2_with fail
            go_roundw
            case rel => exact ⟨k + 1, by omega, by go_num, hend.out⟩
            case measure => simp [intOf]; omega
          · obtain rfl : e = (fs p1).now.size := by omega
            have h64' : ¬ (m : Int) * 64 + 64 ≤ ((fs p1).now.size : Int) := by omega
            have hwr : IntKind.i64.wrap ((m : Int) * 64 + 64) = (m : Int) * 64 + 64 := IntWalk.i64_in _ (by omega)
            have htn : ((m : Int) * 64).toNat = m * 64 := by omega
            have hz0 : (0 : Int) ≤ (m : Int) * 64 := by omega
            have hz1 : (m : Int) * 64 ≤ ((fs p1).now.size : Int) := by omega
            clear hmine he
            refine wp_region_held_drew (S := fun w' => w'.cell? ⟨x2, 0, none⟩ = some (.string (fs p1).now)) (by kernel_rfl) b20 (fun hHeld => ?_)
            refine wpAnyH_takeD (i := 0) (t := 61) (v := .pointer (some ⟨x2, 1, none⟩)) rfl rfl (by kernel_rfl) (by kernel_rfl) (by kernel_rfl) (fun _ _ _ h => h) (Or.inl ⟨by rfl, fun w' hSw => by go_simp <;> omega⟩) (by assumption) ?_
            simp only [Act.put, List.setIfInBounds_toArray, List.set_cons_zero, List.set_cons_succ]
            refine wpAnyH_takeD (i := 2) (t := 63) (v := .int .i64 ((m : Int) * 64)) rfl rfl (by kernel_rfl) (by kernel_rfl) (by kernel_rfl) (fun _ _ _ h => h) (Or.inl ⟨by rfl, fun w' hSw => by go_simp <;> omega⟩) (by assumption) ?_
            simp only [Act.put, List.setIfInBounds_toArray, List.set_cons_zero, List.set_cons_succ]
            refine wpAnyH_takeD (i := 3) (t := 64) (v := .pointer (some ⟨x2, 0, none⟩)) rfl rfl (by kernel_rfl) (by kernel_rfl) (by kernel_rfl) (fun _ _ _ h => h) (Or.inl ⟨by rfl, fun w' hSw => by go_simp <;> omega⟩) (by assumption) ?_
            simp only [Act.put, List.setIfInBounds_toArray, List.set_cons_zero, List.set_cons_succ]
            refine wpAnyH_takeD (i := 4) (t := 65) (v := .string (fs p1).now) rfl rfl (by kernel_rfl) (by kernel_rfl) (by kernel_rfl) (fun _ _ _ h => h) (Or.inl ⟨by rfl, fun w' hSw => by go_simp <;> omega⟩) (by assumption) ?_
            simp only [Act.put, List.setIfInBounds_toArray, List.set_cons_zero, List.set_cons_succ]
            refine wpAnyH_takeD (i := 5) (t := 66) (v := .int .i64 ((m : Int) * 64)) rfl rfl (by kernel_rfl) (by kernel_rfl) (by kernel_rfl) (fun _ _ _ h => h) (Or.inl ⟨by rfl, fun w' hSw => by go_simp <;> omega⟩) (by assumption) ?_
            simp only [Act.put, List.setIfInBounds_toArray, List.set_cons_zero, List.set_cons_succ]
            refine wpAnyH_takeD (i := 6) (t := 67) (v := .int .i64 ((m : Int) * 64)) rfl rfl (by kernel_rfl) (by kernel_rfl) (by kernel_rfl) (fun _ _ _ h => h) (Or.inl ⟨by rfl, fun w' hSw => by go_simp <;> omega⟩) (by assumption) ?_
            simp only [Act.put, List.setIfInBounds_toArray, List.set_cons_zero, List.set_cons_succ]
            refine wpAnyH_takeD (i := 7) (t := 68) (v := .int .i64 ((m : Int) * 64 + 64)) rfl rfl (by kernel_rfl) (by kernel_rfl) (by kernel_rfl) (fun _ _ _ h => h) (Or.inl ⟨by rfl, fun w' hSw => by go_simp <;> omega⟩) (by assumption) ?_
            simp only [Act.put, List.setIfInBounds_toArray, List.set_cons_zero, List.set_cons_succ]
            refine wpAnyH_takeD (i := 8) (t := 69) (v := .pointer (some ⟨x2, 0, none⟩)) rfl rfl (by kernel_rfl) (by kernel_rfl) (by kernel_rfl) (fun _ _ _ h => h) (Or.inl ⟨by rfl, fun w' hSw => by go_simp <;> omega⟩) (by assumption) ?_
            simp only [Act.put, List.setIfInBounds_toArray, List.set_cons_zero, List.set_cons_succ]
            refine wpAnyH_takeD (i := 9) (t := 70) (v := .string (fs p1).now) rfl rfl (by kernel_rfl) (by kernel_rfl) (by kernel_rfl) (fun _ _ _ h => h) (Or.inl ⟨by rfl, fun w' hSw => by go_simp <;> omega⟩) (by assumption) ?_
            simp only [Act.put, List.setIfInBounds_toArray, List.set_cons_zero, List.set_cons_succ]
            refine wpAnyH_takeD (i := 10) (t := 71) (v := .int .i64 ((fs p1).now.size : Int)) rfl rfl (by kernel_rfl) (by kernel_rfl) (by kernel_rfl) (fun _ _ _ h => h) (Or.inl ⟨by rfl, fun w' hSw => by go_simp <;> omega⟩) (by assumption) ?_
            simp only [Act.put, List.setIfInBounds_toArray, List.set_cons_zero, List.set_cons_succ]
            refine wpAnyH_takeD (i := 11) (t := 72) (v := .int .i64 (((fs p1).now.size : Int))) rfl rfl (by kernel_rfl) (by kernel_rfl) (by kernel_rfl) (fun _ _ _ h => h) (Or.inl ⟨by rfl, fun w' hSw => by go_simp <;> omega⟩) (by assumption) ?_
            simp only [Act.put, List.setIfInBounds_toArray, List.set_cons_zero, List.set_cons_succ]
            refine wpAnyH_takeD (i := 12) (t := 73) (v := .string ((fs p1).now.extract (m * 64) ((fs p1).now.size))) rfl rfl (by kernel_rfl) (by kernel_rfl) (by kernel_rfl) (fun _ _ _ h => h) (Or.inl ⟨by rfl, fun w' hSw => by go_simp <;> omega⟩) (by assumption) ?_
            simp only [Act.put, List.setIfInBounds_toArray, List.set_cons_zero, List.set_cons_succ]
            refine wpAnyH_ready (rs := [1]) (by kernel_rfl) (by simp) ?_
            refine AllReadyH.cons rfl (fun K hK => ?_) AllReadyH.nil
            go_simp
            refine hK.out _ _ hHeld (fun hHeld => ?_)
            clear hK K
            refine wpAnyH_ready (rs := [13]) (by kernel_rfl) (by simp) ?_
            refine AllReadyH.cons rfl (fun K hK => ?_) AllReadyH.nil
            go_simp
            refine (put_any (fs p1).last ((fs p1).now.extract (m * 64) ((fs p1).now.size)) (m * 64) _ hl16 (by rw [size_extract]; omega)).mono ?_
            rintro e' wv ⟨rfl, hfv⟩
            have hbv := (Blk.drew hq.out.b2).keep hfv fun h => h
            refine hK.out _ _ (hbv.cell 0) (fun hHeld2 => ?_)
            clear hK K
            have v1 : wv.cell? ⟨x2, 1, none⟩ = some (.string (fs p1).last) := hbv.cell 1
            have v2 : wv.frozen? ⟨x2, 1, none⟩ = false := hbv.frozen 1
            have v3 : x2 < wv.heap.size := hbv.lt
            refine wpAnyH_takeD (i := 14) (t := 75) (v := .pointer (some ⟨x2, 1, none⟩)) rfl rfl (by kernel_rfl) (by kernel_rfl) (by kernel_rfl) (fun _ _ _ h => h) (Or.inl ⟨by rfl, fun w' hSw => by go_simp <;> omega⟩) (by assumption) ?_
            simp only [Act.put, List.setIfInBounds_toArray, List.set_cons_zero, List.set_cons_succ]
            refine wpAnyH_ready (rs := [15]) (by kernel_rfl) (by simp) ?_
            refine AllReadyH.cons rfl (fun K hK => ?_) AllReadyH.nil
            go_simp
            refine hK.out _ _ ((hbv.set_ 1 _).cell 0) (fun hHeld3 => ?_)
            clear hK K
            refine wpAnyH_done (by kernel_rfl) ?_ _
            obtain ⟨w3, r3, hend0, z1, z2, z3, z4⟩ := cr_next hq.out hfv HE0.out (by rw [← HE0.out]; exact hinv.mid ks (k + 1))
            have hend := Lib.hid hend0
            clear hHeld hHeld2 hHeld3 v1 v2 b20 b21 hend0
            go_wp2_with fail
            go_region
            clear r3 z1 z2 z3 z4
            go_wp2_with fail
            go_roundw
            case rel => exact ⟨k + 1, by omega, by go_num, hend.out⟩
            case measure => simp [intOf]; omega
    · have hz : ¬ (k : Int) < (d.q.length : Int) := by omega
      have hkq : k = d.q.length := by omega
      have hfin : survK d.fs ks d.q k = survFs d.fs ks 0 d.q := by unfold survK; rw [List.take_of_length_le (by omega)]
      rw [hfin] at hd
      have HD2 := Lib.hid hd
      obtain ⟨L0, cc, hm0, hlook⟩ := hd.files
      have hrg1 := run_range_map (P := Tryd.prog) wr 57 3 80 bf _ cc Tryd.underlying57 hm0.heap
      have g0 : wr.cell? ⟨g, 0, none⟩ = some (.map (some bf)) := hd.blk.cell 0
      have hst2 : Hid (RgRel wr bf wr.heap.size L0 cc (unseen L0 #[]) (wr.alloc (.mapIter (some bf) cc #[] cc))) := by
        refine ⟨#[], ?_, heap_alloc_new wr _, (Fr.refl _ wr).alloc _, rfl⟩
        have e : L0.map (setl #[]) = L0 := by
          rw [List.map_congr_left (g := id) fun t _ => by simp [setl]]; simp
        rw [e]
        exact hm0.alloc _
      have HM0 := Lib.hid hm0
      have HLOOK := Lib.hid hlook
      have hlbf : bf < wr.heap.size := hm0.lt
      have hgbf : g ≠ bf := hd.gf
      clear hst hd hfr hm0 hlook hfin HD
      obtain ⟨w9, rfl⟩ : ∃ w', w' = wr := ⟨_, rfl⟩
      go_wp2_with fail
      clear hrg1
      go_loopg [] (unseen L0 #[]) (fun n wz => RgRel w9 bf w9.heap.size L0 cc n wz)
      case atStart => exact hst2.out
      case round =>
        obtain ⟨seen, hm, hi, hfr, hk2⟩ := hrel
        have hrb : w9.heap.size ≠ bf := by omega
        have hlr : w9.heap.size < wr.heap.size := by
          rcases Nat.lt_or_ge w9.heap.size wr.heap.size with h | h
          · exact h
          · rw [Array.getElem?_eq_none h] at hi; cases hi
        rcases hm.next (P := Tryd.prog) hi (fun t ht => hm.old t ht) (Nat.le_refl _) 0 with ⟨hall, hrun⟩ | ⟨t, ht, hseen, w1, hrun, hi1, hf1, hsz1, hent⟩
        · have hfa := rg_done hm hall HLOOK.out
          have hdz := HD2.out.files_ hfa hfr (by have := hinv.crash ks; unfold crashD at this; rw [hdn] at this; exact ⟨hinv.nodup, hinv.sect, this.now, this.last, hinv.lost, by show (0 : Int) ≤ 0 ∧ (0 : Int) ≤ _; decide⟩)
          have hF9 : Fr F w wr := HFR.out.trans' hfr fun k _ e => by subst e; exact HD2.out.ownf
          have hend := Lib.hid (fun w' hw' => crash_end (w' := w') (ks := ks) (d := d) HAt.out.lt hF9 hdz hinv hdn hw')
          have a1 : wr.cell? ⟨g, 1, none⟩ = some (.slice A0 d.q.length c0) := hdz.blk.cell 1
          have a2 : wr.frozen? ⟨g, 1, none⟩ = false := hdz.blk.frozen 1
          have a3 : wr.cell? ⟨g, 2, none⟩ = some (.map (some bs)) := hdz.blk.cell 2
          have a4 : wr.frozen? ⟨g, 2, none⟩ = false := hdz.blk.frozen 2
          have a5 := hdz.blk.lt
          have hmm := @run_makeMap Tryd.prog
          clear hm hi hfr hk2 hst2 hall hfa hdz hF9 g0
          go_wp2_with fail
          go_end0
          exact hend.out _ rfl
        · obtain ⟨w3, r3, ⟨n', hn', hrel'⟩, hbg⟩ := rg_step hlbf hm hfr HM0.out ht hseen hi1 hf1 (by omega) HD2.out.blk hgbf
          have HREL := Lib.hid hrel'
          have a1 : w1.cell? ⟨g, 0, none⟩ = some (.map (some bf)) := hbg.cell 0
          have a2 := hbg.lt
          unfold fileV at hrun hent
          subst hk2
          clear hm hi hfr ht hseen hi1 hf1 hst2 hrel' hbg hsz1 g0
          go_wp2_with fail
          go_region
          go_wp2_with fail
          go_roundg n'
          case rel => exact HREL.out
          case measure => exact hn'
set_option maxHeartbeats 400000 in
theorem crash_any (g : Nat) (d : DS) (kv : Value) (A : Option Addr) (c : Nat) (ks : List Int) (w : World) (F : Nat → Prop) (h : DiskAt w F g kv d) (hk : KeepAt w F A ks) (hb : ks.length ≤ 1000000) :
    Calls Tryd.prog 22 #[.pointer (some ⟨g, 0, none⟩), .slice A ks.length c] w (DPost w F g (.tuple #[]) kv (crashD d ks)) := by
  cases hdn : d.down
  · exact crash_up g d kv A c ks w F h hk hb hdn
  · have hend := Lib.hid (h.same (r := .tuple #[]) 0)
    have HE : Hid (crashD d ks = d) := by show crashD d ks = d; unfold crashD; rw [hdn]; rfl
    obtain ⟨bf, bs, qv, h⟩ := h
    have c4 : w.cell? ⟨g, 4, none⟩ = some (.bool true) := by rw [← hdn]; exact h.blk.cell 4
    clear h hdn hk
    go_enter Tryd.func22, Tryd.ntmps22
    go_wp2_with fail
    go_end0
    rw [HE.out]
    exact hend.out
end Go.Proofs.YtjgmbildgcighaaDoor
