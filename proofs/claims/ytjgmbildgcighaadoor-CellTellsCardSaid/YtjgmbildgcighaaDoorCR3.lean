import Derived.Test.YtjgmbildgcighaaDoorCR2
namespace Go.Proofs.YtjgmbildgcighaaDoor
open Go.RowKit
set_option maxRecDepth 100000 in
set_option maxHeartbeats 12800000 in
theorem rset4_a (W w : World) (own : Nat → Nat) (i j gc gd : Nat) (d : DS) (ks : List Int) (c : CS) (s : ByteArray) (hc : CO 74 w own j gc gd c) (hd : RO w own i gd d ks) (hs : St W w own) (hi : i ≠ 0) (hj : j ≠ 0) (hji : j ≠ i) (hlong : ¬ 65536 < s.size) (hsure : c.sure = false) (hslot : c.slot = 1) :
    Calls Tryd.prog 25 #[.pointer (some ⟨gc, 0, none⟩), .string s] w (SetPostR 74 W w own i j gc gd ks (setF d ks c s)) := by
  have CC0 := Lib.hid hc
  have DD0 := Lib.hid hd
  have SS0 := Lib.hid hs
  have TT0 := Lib.hid (Steps.refl hs (fun n => n = i ∨ n = j))
  obtain ⟨c0, c1, c2, c3, c4⟩ := hc.cells
  rw [hsure] at c4
  rw [hslot] at c2
  have hneed : need c = true := by unfold need; rw [hsure]; simp; omega
  have hnx : nxt c = 2 := by unfold nxt; rw [if_pos hslot]
  have e0 : setF d ks c s = if syncE d ks c.file = 0 then set1F (syncD d ks c.file) ks { c with sure := true } s else (syncE d ks c.file, syncD d ks c.file, c) := by unfold setF; rw [if_neg hlong, if_pos hneed]
  obtain ⟨x, hx⟩ : ∃ x, x = syncE d ks c.file := ⟨_, rfl⟩
  rw [← hx] at e0
  have E := Lib.hid hx.symm
  have E0 := Lib.hid e0
  have hlong' : ¬ (65536 : Int) < (s.size : Int) := by omega
  have HNX := Lib.hid hnx
  have HLG := Lib.hid hlong
  clear hc hd hs hneed e0 hnx hlong hsure hx
  go_enter Tryd.func25, Tryd.ntmps25
  go_wp2_with fail
  clear c0 c1 c2 c3 c4
  refine wp_region_held_drew (S := fun w' => w'.cell? ⟨gc, 0, none⟩ = some (.pointer (some ⟨gd, 0, none⟩)) ∧ w'.cell? ⟨gc, 1, none⟩ = some (.int .i64 c.file)) (by kernel_rfl) (CC0.out.held) (fun hHeld => ?_)
  refine wpAnyH_takeD (i := 0) (t := 24) (v := .pointer (some ⟨gc, 0, none⟩)) rfl rfl (by kernel_rfl) (by kernel_rfl) (by kernel_rfl) (fun _ _ _ h => h) (Or.inl ⟨by rfl, fun w' hSw => by obtain ⟨s1, s2⟩ := hSw; go_simp⟩) (by assumption) ?_
  simp only [Act.put, List.setIfInBounds_toArray, List.set_cons_zero, List.set_cons_succ]
  refine wpAnyH_takeD (i := 1) (t := 25) (v := .pointer (some ⟨gc, 0, none⟩)) rfl rfl (by kernel_rfl) (by kernel_rfl) (by kernel_rfl) (fun _ _ _ h => h) (Or.inl ⟨by rfl, fun w' hSw => by obtain ⟨s1, s2⟩ := hSw; go_simp⟩) (by assumption) ?_
  simp only [Act.put, List.setIfInBounds_toArray, List.set_cons_zero, List.set_cons_succ]
  refine wpAnyH_takeD (i := 2) (t := 26) (v := .pointer (some ⟨gc, 0, none⟩)) rfl rfl (by kernel_rfl) (by kernel_rfl) (by kernel_rfl) (fun _ _ _ h => h) (Or.inl ⟨by rfl, fun w' hSw => by obtain ⟨s1, s2⟩ := hSw; go_simp⟩) (by assumption) ?_
  simp only [Act.put, List.setIfInBounds_toArray, List.set_cons_zero, List.set_cons_succ]
  refine wpAnyH_takeD (i := 3) (t := 27) (v := .pointer (some ⟨gd, 0, none⟩)) rfl rfl (by kernel_rfl) (by kernel_rfl) (by kernel_rfl) (fun _ _ _ h => h) (Or.inl ⟨by rfl, fun w' hSw => by obtain ⟨s1, s2⟩ := hSw; go_simp⟩) (by assumption) ?_
  simp only [Act.put, List.setIfInBounds_toArray, List.set_cons_zero, List.set_cons_succ]
  refine wpAnyH_takeD (i := 4) (t := 28) (v := .pointer (some ⟨gc, 0, none⟩)) rfl rfl (by kernel_rfl) (by kernel_rfl) (by kernel_rfl) (fun _ _ _ h => h) (Or.inl ⟨by rfl, fun w' hSw => by obtain ⟨s1, s2⟩ := hSw; go_simp⟩) (by assumption) ?_
  simp only [Act.put, List.setIfInBounds_toArray, List.set_cons_zero, List.set_cons_succ]
  refine wpAnyH_takeD (i := 5) (t := 29) (v := .pointer (some ⟨gc, 0, none⟩)) rfl rfl (by kernel_rfl) (by kernel_rfl) (by kernel_rfl) (fun _ _ _ h => h) (Or.inl ⟨by rfl, fun w' hSw => by obtain ⟨s1, s2⟩ := hSw; go_simp⟩) (by assumption) ?_
  simp only [Act.put, List.setIfInBounds_toArray, List.set_cons_zero, List.set_cons_succ]
  refine wpAnyH_takeD (i := 6) (t := 30) (v := .pointer (some ⟨gc, 1, none⟩)) rfl rfl (by kernel_rfl) (by kernel_rfl) (by kernel_rfl) (fun _ _ _ h => h) (Or.inl ⟨by rfl, fun w' hSw => by obtain ⟨s1, s2⟩ := hSw; go_simp⟩) (by assumption) ?_
  simp only [Act.put, List.setIfInBounds_toArray, List.set_cons_zero, List.set_cons_succ]
  refine wpAnyH_takeD (i := 7) (t := 31) (v := .int .i64 c.file) rfl rfl (by kernel_rfl) (by kernel_rfl) (by kernel_rfl) (fun _ _ _ h => h) (Or.inl ⟨by rfl, fun w' hSw => by obtain ⟨s1, s2⟩ := hSw; go_simp⟩) (by assumption) ?_
  simp only [Act.put, List.setIfInBounds_toArray, List.set_cons_zero, List.set_cons_succ]
  refine wpAnyH_ready (rs := [8]) (by kernel_rfl) (by simp) ?_
  refine AllReadyH.cons rfl (fun K hK => ?_) AllReadyH.nil
  go_simp
  refine (r_sync (DD0.out.drewN _) (SS0.out.drewN _) hi c.file).mono ?_
  rintro e w1 ⟨rfl, ow1, dd, pp⟩
  rw [E.out]
  have CC1 := Lib.hid ((CC0.out.drewN _).step pp hji)
  have DD1 := Lib.hid dd
  have SS1 := Lib.hid pp.st
  have TT1 := Lib.hid (TT0.out.trans (Steps.of' SS0.out pp (.inl rfl)))
  refine hK.out _ _ (CC1.out.held) (fun hHeld2 => ?_)
  clear hK K dd pp hHeld CC0 DD0 SS0 TT0
  refine wpAnyH_takeD (i := 9) (t := 5) (v := .int .i64 x) rfl rfl (by kernel_rfl) (by kernel_rfl) (by kernel_rfl) (fun _ _ _ h => h) (Or.inl ⟨by rfl, fun w' hSw => by obtain ⟨s1, s2⟩ := hSw; go_simp⟩) (by assumption) ?_
  simp only [Act.put, List.setIfInBounds_toArray, List.set_cons_zero, List.set_cons_succ]
  refine wpAnyH_done (by kernel_rfl) ?_ _
  clear hHeld2
  have hbad : ¬ x = 0 → setF d ks c s = (x, syncD d ks c.file, c) := fun h => by rw [E0.out, if_neg h]
  have HBAD := Lib.hid hbad
  clear hbad
  by_cases hx0 : x = 0
  case neg =>
    have hxb : (x != 0) = true := by simpa using hx0
    have hend := Lib.hid (SetPostR.mk' (HBAD.out hx0) CC1.out DD1.out TT1.out)
    clear CC1 DD1 SS1 TT1 hx0
    go_wp2_with fail
    go_ret
    exact hend.out
  subst hx0
  have e1 : setF d ks c s = set1F (syncD d ks c.file) ks { c with sure := true } s := by rw [E0.out, if_pos rfl]
  have E1 := Lib.hid e1
  clear e1 E0 E HBAD
  generalize syncD d ks c.file = d1 at *
  obtain ⟨q0, q1, q2, q3, q4⟩ := CC1.out.cells
  have fq4 : w1.frozen? ⟨gc, 4, none⟩ = false := CC1.out.blk.frozen 4
  have hlt1 := CC1.out.lt
  obtain ⟨cs, ss⟩ := CC1.out.set_ (c' := { c with sure := true }) SS1.out hj 4 (.bool true) rfl
  have CC2 := Lib.hid cs
  have SS2 := Lib.hid ss.st
  have DD2 := Lib.hid (DD1.out.other ss hi hj (Ne.symm hji))
  have TT2 := Lib.hid (TT1.out.trans (Steps.of ss (.inr rfl)))
  have r2 : (w1.setCell ⟨gc, 4, none⟩ (.bool true)).cell? ⟨gc, 2, none⟩ = some (.int .i64 1) := by rw [← hslot]; exact cs.cells.2.2.1
  clear cs ss q0 q1 q2 q3 CC1 SS1 DD1 TT1
  go_wp2_with fail
  generalize w1.setCell ⟨gc, 4, none⟩ (.bool true) = w2 at *
  clear r2 q4 fq4 hlt1
  obtain ⟨cz, hcz⟩ : ∃ cz : CS, cz = { c with sure := true } := ⟨_, rfl⟩
  have hfile : cz.file = c.file := by rw [hcz]
  have hnz : nxt cz = 2 := by rw [hcz]; exact HNX.out
  rw [← hcz] at CC2 E1
  clear HNX
  have HNX := Lib.hid hnz
  have HFI := Lib.hid hfile
  clear hnz hfile hcz
  obtain ⟨y1, hy1⟩ : ∃ y, y = writeE d1 cz.file (offs (nxt cz)) s := ⟨_, rfl⟩
  have E2 := Lib.hid hy1.symm
  have e2 : setF d ks c s = if y1 = 0 then set2F (writeD d1 ks cz.file (offs (nxt cz)) s) ks cz s else (y1, writeD d1 ks cz.file (offs (nxt cz)) s, cz) := by rw [E1.out]; unfold set1F; rw [← hy1]
  have E3 := Lib.hid e2
  have hof : offs (nxt cz) = 131072 := by rw [HNX.out]; rfl
  rw [hof] at E2 E3
  clear e2 hy1 E1 hof
  refine wp_region_held_drew (S := fun w' => w'.cell? ⟨gc, 0, none⟩ = some (.pointer (some ⟨gd, 0, none⟩)) ∧ w'.cell? ⟨gc, 1, none⟩ = some (.int .i64 cz.file)) (by kernel_rfl) (CC2.out.held) (fun hHeld => ?_)
  refine wpAnyH_takeD (i := 0) (t := 44) (v := .pointer (some ⟨gc, 0, none⟩)) rfl rfl (by kernel_rfl) (by kernel_rfl) (by kernel_rfl) (fun _ _ _ h => h) (Or.inl ⟨by rfl, fun w' hSw => by obtain ⟨s1, s2⟩ := hSw; go_simp⟩) (by assumption) ?_
  simp only [Act.put, List.setIfInBounds_toArray, List.set_cons_zero, List.set_cons_succ]
  refine wpAnyH_takeD (i := 1) (t := 45) (v := .pointer (some ⟨gc, 0, none⟩)) rfl rfl (by kernel_rfl) (by kernel_rfl) (by kernel_rfl) (fun _ _ _ h => h) (Or.inl ⟨by rfl, fun w' hSw => by obtain ⟨s1, s2⟩ := hSw; go_simp⟩) (by assumption) ?_
  simp only [Act.put, List.setIfInBounds_toArray, List.set_cons_zero, List.set_cons_succ]
  refine wpAnyH_takeD (i := 2) (t := 46) (v := .pointer (some ⟨gc, 0, none⟩)) rfl rfl (by kernel_rfl) (by kernel_rfl) (by kernel_rfl) (fun _ _ _ h => h) (Or.inl ⟨by rfl, fun w' hSw => by obtain ⟨s1, s2⟩ := hSw; go_simp⟩) (by assumption) ?_
  simp only [Act.put, List.setIfInBounds_toArray, List.set_cons_zero, List.set_cons_succ]
  refine wpAnyH_takeD (i := 3) (t := 47) (v := .pointer (some ⟨gd, 0, none⟩)) rfl rfl (by kernel_rfl) (by kernel_rfl) (by kernel_rfl) (fun _ _ _ h => h) (Or.inl ⟨by rfl, fun w' hSw => by obtain ⟨s1, s2⟩ := hSw; go_simp⟩) (by assumption) ?_
  simp only [Act.put, List.setIfInBounds_toArray, List.set_cons_zero, List.set_cons_succ]
  refine wpAnyH_takeD (i := 4) (t := 48) (v := .pointer (some ⟨gc, 0, none⟩)) rfl rfl (by kernel_rfl) (by kernel_rfl) (by kernel_rfl) (fun _ _ _ h => h) (Or.inl ⟨by rfl, fun w' hSw => by obtain ⟨s1, s2⟩ := hSw; go_simp⟩) (by assumption) ?_
  simp only [Act.put, List.setIfInBounds_toArray, List.set_cons_zero, List.set_cons_succ]
  refine wpAnyH_takeD (i := 5) (t := 49) (v := .pointer (some ⟨gc, 0, none⟩)) rfl rfl (by kernel_rfl) (by kernel_rfl) (by kernel_rfl) (fun _ _ _ h => h) (Or.inl ⟨by rfl, fun w' hSw => by obtain ⟨s1, s2⟩ := hSw; go_simp⟩) (by assumption) ?_
  simp only [Act.put, List.setIfInBounds_toArray, List.set_cons_zero, List.set_cons_succ]
  refine wpAnyH_takeD (i := 6) (t := 50) (v := .pointer (some ⟨gc, 1, none⟩)) rfl rfl (by kernel_rfl) (by kernel_rfl) (by kernel_rfl) (fun _ _ _ h => h) (Or.inl ⟨by rfl, fun w' hSw => by obtain ⟨s1, s2⟩ := hSw; go_simp⟩) (by assumption) ?_
  simp only [Act.put, List.setIfInBounds_toArray, List.set_cons_zero, List.set_cons_succ]
  refine wpAnyH_takeD (i := 7) (t := 51) (v := .int .i64 cz.file) rfl rfl (by kernel_rfl) (by kernel_rfl) (by kernel_rfl) (fun _ _ _ h => h) (Or.inl ⟨by rfl, fun w' hSw => by obtain ⟨s1, s2⟩ := hSw; go_simp⟩) (by assumption) ?_
  simp only [Act.put, List.setIfInBounds_toArray, List.set_cons_zero, List.set_cons_succ]
  refine wpAnyH_takeD (i := 8) (t := 52) (v := .int .i64 2) rfl rfl (by kernel_rfl) (by kernel_rfl) (by kernel_rfl) (fun _ _ _ h => h) (Or.inl ⟨by rfl, fun w' hSw => by obtain ⟨s1, s2⟩ := hSw; go_simp⟩) (by assumption) ?_
  simp only [Act.put, List.setIfInBounds_toArray, List.set_cons_zero, List.set_cons_succ]
  refine wpAnyH_takeD (i := 10) (t := 54) (v := .string s) rfl rfl (by kernel_rfl) (by kernel_rfl) (by kernel_rfl) (fun _ _ _ h => h) (Or.inl ⟨by rfl, fun w' hSw => by obtain ⟨s1, s2⟩ := hSw; go_simp⟩) (by assumption) ?_
  simp only [Act.put, List.setIfInBounds_toArray, List.set_cons_zero, List.set_cons_succ]
  refine wpAnyH_ready (rs := [9]) (by kernel_rfl) (by simp) ?_
  refine AllReadyH.cons rfl (fun K hK => ?_) AllReadyH.nil
  go_simp
  refine (begin_any 2 _).mono ?_
  rintro e _ ⟨rfl, rfl⟩
  refine hK.out _ _ hHeld (fun hHeld => ?_)
  clear hK K
  refine wpAnyH_ready (rs := [11]) (by kernel_rfl) (by simp) ?_
  refine AllReadyH.cons rfl (fun K hK => ?_) AllReadyH.nil
  go_simp
  refine (r_write (DD2.out.drewN _) (SS2.out.drewN _) hi cz.file 131072 s (by have := HLG.out; omega)).mono ?_
  rintro e w3 ⟨rfl, ow3, dd, pp⟩
  rw [E2.out]
  have CC3 := Lib.hid ((CC2.out.drewN _).step pp hji)
  have DD3 := Lib.hid dd
  have SS3 := Lib.hid pp.st
  have TT3 := Lib.hid (TT2.out.trans (Steps.of' SS2.out pp (.inl rfl)))
  refine hK.out _ _ (CC3.out.held) (fun hHeld2 => ?_)
  clear hK K dd pp hHeld CC2 DD2 SS2 TT2
  refine wpAnyH_takeD (i := 12) (t := 7) (v := .int .i64 y1) rfl rfl (by kernel_rfl) (by kernel_rfl) (by kernel_rfl) (fun _ _ _ h => h) (Or.inl ⟨by rfl, fun w' hSw => by obtain ⟨s1, s2⟩ := hSw; go_simp⟩) (by assumption) ?_
  simp only [Act.put, List.setIfInBounds_toArray, List.set_cons_zero, List.set_cons_succ]
  refine wpAnyH_done (by kernel_rfl) ?_ _
  clear hHeld2
  generalize writeD d1 ks cz.file 131072 s = d2 at *
  clear E2
  have hbad2 : ¬ y1 = 0 → setF d ks c s = (y1, d2, cz) := fun h => by rw [E3.out, if_neg h]
  have HBAD2 := Lib.hid hbad2
  clear hbad2
  by_cases hx0 : y1 = 0
  case neg =>
    have hxb : (y1 != 0) = true := by simpa using hx0
    have hend := Lib.hid (SetPostR.mk' (HBAD2.out hx0) CC3.out DD3.out TT3.out)
    clear CC3 DD3 SS3 TT3 hx0
    go_wp2_with fail
    go_ret
    exact hend.out
  subst hx0
  obtain ⟨y2, hy2⟩ : ∃ y, y = syncE d2 ks cz.file := ⟨_, rfl⟩
  have e3 : setF d ks c s = if y2 = 0 then set3F (syncD d2 ks cz.file) ks cz s else (y2, syncD d2 ks cz.file, cz) := by rw [E3.out, if_pos rfl]; unfold set2F; rw [← hy2]
  have E4 := Lib.hid e3
  have E5 := Lib.hid hy2.symm
  clear e3 hy2 E3 HBAD2
  go_wp2_with fail
  refine wp_region_held_drew (S := fun w' => w'.cell? ⟨gc, 0, none⟩ = some (.pointer (some ⟨gd, 0, none⟩)) ∧ w'.cell? ⟨gc, 1, none⟩ = some (.int .i64 cz.file)) (by kernel_rfl) (CC3.out.held) (fun hHeld => ?_)
  refine wpAnyH_takeD (i := 0) (t := 59) (v := .pointer (some ⟨gc, 0, none⟩)) rfl rfl (by kernel_rfl) (by kernel_rfl) (by kernel_rfl) (fun _ _ _ h => h) (Or.inl ⟨by rfl, fun w' hSw => by obtain ⟨s1, s2⟩ := hSw; go_simp⟩) (by assumption) ?_
  simp only [Act.put, List.setIfInBounds_toArray, List.set_cons_zero, List.set_cons_succ]
  refine wpAnyH_takeD (i := 1) (t := 60) (v := .pointer (some ⟨gc, 0, none⟩)) rfl rfl (by kernel_rfl) (by kernel_rfl) (by kernel_rfl) (fun _ _ _ h => h) (Or.inl ⟨by rfl, fun w' hSw => by obtain ⟨s1, s2⟩ := hSw; go_simp⟩) (by assumption) ?_
  simp only [Act.put, List.setIfInBounds_toArray, List.set_cons_zero, List.set_cons_succ]
  refine wpAnyH_takeD (i := 2) (t := 61) (v := .pointer (some ⟨gc, 0, none⟩)) rfl rfl (by kernel_rfl) (by kernel_rfl) (by kernel_rfl) (fun _ _ _ h => h) (Or.inl ⟨by rfl, fun w' hSw => by obtain ⟨s1, s2⟩ := hSw; go_simp⟩) (by assumption) ?_
  simp only [Act.put, List.setIfInBounds_toArray, List.set_cons_zero, List.set_cons_succ]
  refine wpAnyH_takeD (i := 3) (t := 62) (v := .pointer (some ⟨gd, 0, none⟩)) rfl rfl (by kernel_rfl) (by kernel_rfl) (by kernel_rfl) (fun _ _ _ h => h) (Or.inl ⟨by rfl, fun w' hSw => by obtain ⟨s1, s2⟩ := hSw; go_simp⟩) (by assumption) ?_
  simp only [Act.put, List.setIfInBounds_toArray, List.set_cons_zero, List.set_cons_succ]
  refine wpAnyH_takeD (i := 4) (t := 63) (v := .pointer (some ⟨gc, 0, none⟩)) rfl rfl (by kernel_rfl) (by kernel_rfl) (by kernel_rfl) (fun _ _ _ h => h) (Or.inl ⟨by rfl, fun w' hSw => by obtain ⟨s1, s2⟩ := hSw; go_simp⟩) (by assumption) ?_
  simp only [Act.put, List.setIfInBounds_toArray, List.set_cons_zero, List.set_cons_succ]
  refine wpAnyH_takeD (i := 5) (t := 64) (v := .pointer (some ⟨gc, 0, none⟩)) rfl rfl (by kernel_rfl) (by kernel_rfl) (by kernel_rfl) (fun _ _ _ h => h) (Or.inl ⟨by rfl, fun w' hSw => by obtain ⟨s1, s2⟩ := hSw; go_simp⟩) (by assumption) ?_
  simp only [Act.put, List.setIfInBounds_toArray, List.set_cons_zero, List.set_cons_succ]
  refine wpAnyH_takeD (i := 6) (t := 65) (v := .pointer (some ⟨gc, 1, none⟩)) rfl rfl (by kernel_rfl) (by kernel_rfl) (by kernel_rfl) (fun _ _ _ h => h) (Or.inl ⟨by rfl, fun w' hSw => by obtain ⟨s1, s2⟩ := hSw; go_simp⟩) (by assumption) ?_
  simp only [Act.put, List.setIfInBounds_toArray, List.set_cons_zero, List.set_cons_succ]
  refine wpAnyH_takeD (i := 7) (t := 66) (v := .int .i64 cz.file) rfl rfl (by kernel_rfl) (by kernel_rfl) (by kernel_rfl) (fun _ _ _ h => h) (Or.inl ⟨by rfl, fun w' hSw => by obtain ⟨s1, s2⟩ := hSw; go_simp⟩) (by assumption) ?_
  simp only [Act.put, List.setIfInBounds_toArray, List.set_cons_zero, List.set_cons_succ]
  refine wpAnyH_ready (rs := [8]) (by kernel_rfl) (by simp) ?_
  refine AllReadyH.cons rfl (fun K hK => ?_) AllReadyH.nil
  go_simp
  refine (r_sync (DD3.out.drewN _) (SS3.out.drewN _) hi cz.file).mono ?_
  rintro e w4 ⟨rfl, ow4, dd, pp⟩
  rw [E5.out]
  have CC4 := Lib.hid ((CC3.out.drewN _).step pp hji)
  have DD4 := Lib.hid dd
  have SS4 := Lib.hid pp.st
  have TT4 := Lib.hid (TT3.out.trans (Steps.of' SS3.out pp (.inl rfl)))
  refine hK.out _ _ (CC4.out.held) (fun hHeld2 => ?_)
  clear hK K dd pp hHeld CC3 DD3 SS3 TT3
  refine wpAnyH_takeD (i := 9) (t := 7) (v := .int .i64 y2) rfl rfl (by kernel_rfl) (by kernel_rfl) (by kernel_rfl) (fun _ _ _ h => h) (Or.inl ⟨by rfl, fun w' hSw => by obtain ⟨s1, s2⟩ := hSw; go_simp⟩) (by assumption) ?_
  simp only [Act.put, List.setIfInBounds_toArray, List.set_cons_zero, List.set_cons_succ]
  refine wpAnyH_done (by kernel_rfl) ?_ _
  clear hHeld2
  generalize syncD d2 ks cz.file = d3 at *
  clear E5
  have hbad3 : ¬ y2 = 0 → setF d ks c s = (y2, d3, cz) := fun h => by rw [E4.out, if_neg h]
  have HBAD3 := Lib.hid hbad3
  clear hbad3
  by_cases hx0 : y2 = 0
  case neg =>
    have hxb : (y2 != 0) = true := by simpa using hx0
    have hend := Lib.hid (SetPostR.mk' (HBAD3.out hx0) CC4.out DD4.out TT4.out)
    clear CC4 DD4 SS4 TT4 hx0
    go_wp2_with fail
    go_ret
    exact hend.out
  subst hx0
  obtain ⟨y3, hy3⟩ : ∃ y, y = writeE d3 cz.file 0 (hdrB 2 s.size) := ⟨_, rfl⟩
  have e4 : setF d ks c s = if y3 = 0 then set4F (writeD d3 ks cz.file 0 (hdrB 2 s.size)) ks cz s else (y3, writeD d3 ks cz.file 0 (hdrB 2 s.size), cz) := by rw [E4.out, if_pos rfl]; unfold set3F; rw [HNX.out, ← hy3]
  have E6 := Lib.hid e4
  have E7 := Lib.hid hy3.symm
  clear e4 hy3 E4 HBAD3
  go_wp2_with fail
  refine wp_region_held_drew (S := fun w' => w'.cell? ⟨gc, 0, none⟩ = some (.pointer (some ⟨gd, 0, none⟩)) ∧ w'.cell? ⟨gc, 1, none⟩ = some (.int .i64 cz.file)) (by kernel_rfl) (CC4.out.held) (fun hHeld => ?_)
  refine wpAnyH_takeD (i := 0) (t := 73) (v := .pointer (some ⟨gc, 0, none⟩)) rfl rfl (by kernel_rfl) (by kernel_rfl) (by kernel_rfl) (fun _ _ _ h => h) (Or.inl ⟨by rfl, fun w' hSw => by obtain ⟨s1, s2⟩ := hSw; go_simp⟩) (by assumption) ?_
  simp only [Act.put, List.setIfInBounds_toArray, List.set_cons_zero, List.set_cons_succ]
  refine wpAnyH_takeD (i := 1) (t := 74) (v := .pointer (some ⟨gc, 0, none⟩)) rfl rfl (by kernel_rfl) (by kernel_rfl) (by kernel_rfl) (fun _ _ _ h => h) (Or.inl ⟨by rfl, fun w' hSw => by obtain ⟨s1, s2⟩ := hSw; go_simp⟩) (by assumption) ?_
  simp only [Act.put, List.setIfInBounds_toArray, List.set_cons_zero, List.set_cons_succ]
  refine wpAnyH_takeD (i := 2) (t := 75) (v := .pointer (some ⟨gc, 0, none⟩)) rfl rfl (by kernel_rfl) (by kernel_rfl) (by kernel_rfl) (fun _ _ _ h => h) (Or.inl ⟨by rfl, fun w' hSw => by obtain ⟨s1, s2⟩ := hSw; go_simp⟩) (by assumption) ?_
  simp only [Act.put, List.setIfInBounds_toArray, List.set_cons_zero, List.set_cons_succ]
  refine wpAnyH_takeD (i := 3) (t := 76) (v := .pointer (some ⟨gd, 0, none⟩)) rfl rfl (by kernel_rfl) (by kernel_rfl) (by kernel_rfl) (fun _ _ _ h => h) (Or.inl ⟨by rfl, fun w' hSw => by obtain ⟨s1, s2⟩ := hSw; go_simp⟩) (by assumption) ?_
  simp only [Act.put, List.setIfInBounds_toArray, List.set_cons_zero, List.set_cons_succ]
  refine wpAnyH_takeD (i := 4) (t := 77) (v := .pointer (some ⟨gc, 0, none⟩)) rfl rfl (by kernel_rfl) (by kernel_rfl) (by kernel_rfl) (fun _ _ _ h => h) (Or.inl ⟨by rfl, fun w' hSw => by obtain ⟨s1, s2⟩ := hSw; go_simp⟩) (by assumption) ?_
  simp only [Act.put, List.setIfInBounds_toArray, List.set_cons_zero, List.set_cons_succ]
  refine wpAnyH_takeD (i := 5) (t := 78) (v := .pointer (some ⟨gc, 0, none⟩)) rfl rfl (by kernel_rfl) (by kernel_rfl) (by kernel_rfl) (fun _ _ _ h => h) (Or.inl ⟨by rfl, fun w' hSw => by obtain ⟨s1, s2⟩ := hSw; go_simp⟩) (by assumption) ?_
  simp only [Act.put, List.setIfInBounds_toArray, List.set_cons_zero, List.set_cons_succ]
  refine wpAnyH_takeD (i := 6) (t := 79) (v := .pointer (some ⟨gc, 1, none⟩)) rfl rfl (by kernel_rfl) (by kernel_rfl) (by kernel_rfl) (fun _ _ _ h => h) (Or.inl ⟨by rfl, fun w' hSw => by obtain ⟨s1, s2⟩ := hSw; go_simp⟩) (by assumption) ?_
  simp only [Act.put, List.setIfInBounds_toArray, List.set_cons_zero, List.set_cons_succ]
  refine wpAnyH_takeD (i := 7) (t := 80) (v := .int .i64 cz.file) rfl rfl (by kernel_rfl) (by kernel_rfl) (by kernel_rfl) (fun _ _ _ h => h) (Or.inl ⟨by rfl, fun w' hSw => by obtain ⟨s1, s2⟩ := hSw; go_simp⟩) (by assumption) ?_
  simp only [Act.put, List.setIfInBounds_toArray, List.set_cons_zero, List.set_cons_succ]
  have u0 : IntKind.u8.wrap 2 = 2 := by decide
  obtain ⟨q1, hq1⟩ : ∃ q : Nat, q = s.size % 256 := ⟨_, rfl⟩
  obtain ⟨q2, hq2⟩ : ∃ q : Nat, q = s.size / 256 := ⟨_, rfl⟩
  obtain ⟨q3, hq3⟩ : ∃ q : Nat, q = s.size / 256 % 256 := ⟨_, rfl⟩
  obtain ⟨q4, hq4⟩ : ∃ q : Nat, q = s.size / 65536 := ⟨_, rfl⟩
  have HQ1 := Lib.hid hq1
  have HQ2 := Lib.hid hq2
  have HQ3 := Lib.hid hq3
  have HQ4 := Lib.hid hq4
  have hl := HLG.out
  have f1 : (s.size : Int).tmod 256 = (q1 : Int) := by rw [Int.tmod_eq_emod_of_nonneg (by omega)]; omega
  have g1 := wrap_u8 q1 (by omega)
  have f2 : IntKind.i64.wrap ((s.size : Int) / 256) = (q2 : Int) := by rw [IntKind.wrap_i64]; omega
  have f3 : (q2 : Int).tmod 256 = (q3 : Int) := by rw [Int.tmod_eq_emod_of_nonneg (by omega)]; omega
  have g3 := wrap_u8 q3 (by omega)
  have f4 : IntKind.i64.wrap ((s.size : Int) / 65536) = (q4 : Int) := by rw [IntKind.wrap_i64]; omega
  have g4 := wrap_u8 q4 (by omega)
  clear hq1 hq2 hq3 hq4 hl
  refine wpAnyH_takeD (i := 8) (t := 81) (v := .int .i64 2) rfl rfl (by kernel_rfl) (by kernel_rfl) (by kernel_rfl) (fun _ _ _ h => h) (Or.inl ⟨by rfl, fun w' hSw => by obtain ⟨s1, s2⟩ := hSw; go_simp⟩) (by assumption) ?_
  simp only [Act.put, List.setIfInBounds_toArray, List.set_cons_zero, List.set_cons_succ]
  refine wpAnyH_takeD (i := 9) (t := 82) (v := .int .u8 2) rfl rfl (by kernel_rfl) (by kernel_rfl) (by kernel_rfl) (fun _ _ _ h => h) (Or.inl ⟨by rfl, fun w' hSw => by obtain ⟨s1, s2⟩ := hSw; go_simp⟩) (by assumption) ?_
  simp only [Act.put, List.setIfInBounds_toArray, List.set_cons_zero, List.set_cons_succ]
  refine wpAnyH_takeD (i := 10) (t := 83) (v := .int .i64 (s.size : Int)) rfl rfl (by kernel_rfl) (by kernel_rfl) (by kernel_rfl) (fun _ _ _ h => h) (Or.inl ⟨by rfl, fun w' hSw => by obtain ⟨s1, s2⟩ := hSw; go_simp⟩) (by assumption) ?_
  simp only [Act.put, List.setIfInBounds_toArray, List.set_cons_zero, List.set_cons_succ]
  refine wpAnyH_takeD (i := 11) (t := 84) (v := .int .i64 (q1 : Int)) rfl rfl (by kernel_rfl) (by kernel_rfl) (by kernel_rfl) (fun _ _ _ h => h) (Or.inl ⟨by rfl, fun w' hSw => by obtain ⟨s1, s2⟩ := hSw; go_simp⟩) (by assumption) ?_
  simp only [Act.put, List.setIfInBounds_toArray, List.set_cons_zero, List.set_cons_succ]
  refine wpAnyH_takeD (i := 12) (t := 85) (v := .int .u8 (q1 : Int)) rfl rfl (by kernel_rfl) (by kernel_rfl) (by kernel_rfl) (fun _ _ _ h => h) (Or.inl ⟨by rfl, fun w' hSw => by obtain ⟨s1, s2⟩ := hSw; go_simp⟩) (by assumption) ?_
  simp only [Act.put, List.setIfInBounds_toArray, List.set_cons_zero, List.set_cons_succ]
  refine wpAnyH_takeD (i := 13) (t := 86) (v := .int .i64 (s.size : Int)) rfl rfl (by kernel_rfl) (by kernel_rfl) (by kernel_rfl) (fun _ _ _ h => h) (Or.inl ⟨by rfl, fun w' hSw => by obtain ⟨s1, s2⟩ := hSw; go_simp⟩) (by assumption) ?_
  simp only [Act.put, List.setIfInBounds_toArray, List.set_cons_zero, List.set_cons_succ]
  refine wpAnyH_takeD (i := 14) (t := 87) (v := .int .i64 (q2 : Int)) rfl rfl (by kernel_rfl) (by kernel_rfl) (by kernel_rfl) (fun _ _ _ h => h) (Or.inl ⟨by rfl, fun w' hSw => by obtain ⟨s1, s2⟩ := hSw; go_simp⟩) (by assumption) ?_
  simp only [Act.put, List.setIfInBounds_toArray, List.set_cons_zero, List.set_cons_succ]
  refine wpAnyH_takeD (i := 15) (t := 88) (v := .int .i64 (q3 : Int)) rfl rfl (by kernel_rfl) (by kernel_rfl) (by kernel_rfl) (fun _ _ _ h => h) (Or.inl ⟨by rfl, fun w' hSw => by obtain ⟨s1, s2⟩ := hSw; go_simp⟩) (by assumption) ?_
  simp only [Act.put, List.setIfInBounds_toArray, List.set_cons_zero, List.set_cons_succ]
  refine wpAnyH_takeD (i := 16) (t := 89) (v := .int .u8 (q3 : Int)) rfl rfl (by kernel_rfl) (by kernel_rfl) (by kernel_rfl) (fun _ _ _ h => h) (Or.inl ⟨by rfl, fun w' hSw => by obtain ⟨s1, s2⟩ := hSw; go_simp⟩) (by assumption) ?_
  simp only [Act.put, List.setIfInBounds_toArray, List.set_cons_zero, List.set_cons_succ]
  refine wpAnyH_takeD (i := 17) (t := 90) (v := .int .i64 (s.size : Int)) rfl rfl (by kernel_rfl) (by kernel_rfl) (by kernel_rfl) (fun _ _ _ h => h) (Or.inl ⟨by rfl, fun w' hSw => by obtain ⟨s1, s2⟩ := hSw; go_simp⟩) (by assumption) ?_
  simp only [Act.put, List.setIfInBounds_toArray, List.set_cons_zero, List.set_cons_succ]
  refine wpAnyH_takeD (i := 18) (t := 91) (v := .int .i64 (q4 : Int)) rfl rfl (by kernel_rfl) (by kernel_rfl) (by kernel_rfl) (fun _ _ _ h => h) (Or.inl ⟨by rfl, fun w' hSw => by obtain ⟨s1, s2⟩ := hSw; go_simp⟩) (by assumption) ?_
  simp only [Act.put, List.setIfInBounds_toArray, List.set_cons_zero, List.set_cons_succ]
  refine wpAnyH_takeD (i := 19) (t := 92) (v := .int .u8 (q4 : Int)) rfl rfl (by kernel_rfl) (by kernel_rfl) (by kernel_rfl) (fun _ _ _ h => h) (Or.inl ⟨by rfl, fun w' hSw => by obtain ⟨s1, s2⟩ := hSw; go_simp⟩) (by assumption) ?_
  simp only [Act.put, List.setIfInBounds_toArray, List.set_cons_zero, List.set_cons_succ]
  refine wpAnyH_ready (rs := [20]) (by kernel_rfl) (by simp) ?_
  refine AllReadyH.cons rfl (fun K hK => ?_) AllReadyH.nil
  go_simp
  have hfh : Fr (fun _ => False) w4 ((w4.alloc (Obj.cells #[.int .u8 2, .int .u8 q1, .int .u8 q3, .int .u8 q4, .int .u8 0] 5)).drew) := ((Fr.refl (fun _ => False) w4).alloc _).drewN 1
  have hbh : Blk ((w4.alloc (Obj.cells #[.int .u8 2, .int .u8 q1, .int .u8 q3, .int .u8 q4, .int .u8 0] 5)).drew) w4.heap.size 5 #[.int .u8 2, .int .u8 q1, .int .u8 q3, .int .u8 q4, .int .u8 0] := Blk.new w4 5 #[.int .u8 2, .int .u8 q1, .int .u8 q3, .int .u8 q4, .int .u8 0]
  have hcv := hdr_conv (x := 2) (by decide) HQ1.out HQ3.out HQ4.out (by have := HLG.out; omega) hbh
  have CCh := Lib.hid (CC4.out.fr0 hfh)
  have DDh := Lib.hid (DD4.out.fr0 hfh)
  have SSh := Lib.hid (SS4.out.frF hfh)
  have TTh := Lib.hid (TT4.out.trans (Steps.frF SS4.out hfh _))
  refine hK.out _ _ (CCh.out.held) (fun hHeld3 => ?_)
  clear hK K hfh hbh hHeld CC4 DD4 SS4 TT4 f1 g1 f2 f3 g3 f4 g4 u0 HQ1 HQ2 HQ3 HQ4
  generalize (w4.alloc (Obj.cells #[.int .u8 2, .int .u8 q1, .int .u8 q3, .int .u8 q4, .int .u8 0] 5)).drew = wh at *
  refine wpAnyH_ready (rs := [21]) (by kernel_rfl) (by simp) ?_
  refine AllReadyH.cons rfl (fun K hK => ?_) AllReadyH.nil
  go_simp
  refine hK.out _ _ (CCh.out.held) (fun hHeld4 => ?_)
  clear hK K hcv hHeld3
  refine wpAnyH_ready (rs := [22]) (by kernel_rfl) (by simp) ?_
  refine AllReadyH.cons rfl (fun K hK => ?_) AllReadyH.nil
  go_simp
  refine (r_write DDh.out SSh.out hi cz.file 0 (hdrB 2 s.size) (by rw [size_hdrB]; decide)).mono ?_
  rintro e w5 ⟨rfl, ow5, dd, pp⟩
  rw [E7.out]
  have CC5 := Lib.hid (CCh.out.step pp hji)
  have DD5 := Lib.hid dd
  have SS5 := Lib.hid pp.st
  have TT5 := Lib.hid (TTh.out.trans (Steps.of pp (.inl rfl)))
  refine hK.out _ _ (CC5.out.held) (fun hHeld2 => ?_)
  clear hK K dd pp hHeld4 CCh DDh SSh TTh
  refine wpAnyH_takeD (i := 23) (t := 7) (v := .int .i64 y3) rfl rfl (by kernel_rfl) (by kernel_rfl) (by kernel_rfl) (fun _ _ _ h => h) (Or.inl ⟨by rfl, fun w' hSw => by obtain ⟨s1, s2⟩ := hSw; go_simp⟩) (by assumption) ?_
  simp only [Act.put, List.setIfInBounds_toArray, List.set_cons_zero, List.set_cons_succ]
  refine wpAnyH_done (by kernel_rfl) ?_ _
  clear hHeld2
  generalize writeD d3 ks cz.file 0 (hdrB 2 s.size) = d4 at *
  clear E7
  have hbad4 : ¬ y3 = 0 → setF d ks c s = (y3, d4, cz) := fun h => by rw [E6.out, if_neg h]
  have HBAD4 := Lib.hid hbad4
  clear hbad4
  by_cases hx0 : y3 = 0
  case neg =>
    have hxb : (y3 != 0) = true := by simpa using hx0
    have hend := Lib.hid (SetPostR.mk' (HBAD4.out hx0) CC5.out DD5.out TT5.out)
    clear CC5 DD5 SS5 TT5 hx0
    go_wp2_with fail
    go_ret
    exact hend.out
  subst hx0
  obtain ⟨cs, ss⟩ := CC5.out.set_ (c' := { cz with slot := 2 }) SS5.out hj 2 (.int .i64 2) rfl
  obtain ⟨cs2, ss2⟩ := cs.set_ (c' := { cz with slot := 2, value := s }) ss.st hj 3 (.string s) rfl
  obtain ⟨cs3, ss3⟩ := cs2.set_ (c' := { cz with slot := 2, value := s, sure := false }) ss2.st hj 4 (.bool false) rfl
  obtain ⟨q0, q1, q2, q3, q4⟩ := CC5.out.cells
  have fq2 : w5.frozen? ⟨gc, 2, none⟩ = false := CC5.out.blk.frozen 2
  have fq3 : w5.frozen? ⟨gc, 3, none⟩ = false := CC5.out.blk.frozen 3
  have fq4 : w5.frozen? ⟨gc, 4, none⟩ = false := CC5.out.blk.frozen 4
  have hltk := CC5.out.lt
  have CC6 := Lib.hid cs3
  have SS6 := Lib.hid ss3.st
  have DD6 := Lib.hid (((DD5.out.other ss hi hj (Ne.symm hji)).other ss2 hi hj (Ne.symm hji)).other ss3 hi hj (Ne.symm hji))
  have TT6 := Lib.hid (((TT5.out.trans (Steps.of ss (.inr rfl))).trans (Steps.of ss2 (.inr rfl))).trans (Steps.of ss3 (.inr rfl)))
  obtain ⟨y4, hy4⟩ : ∃ y, y = syncE d4 ks cz.file := ⟨_, rfl⟩
  have e5 : setF d ks c s = (y4, syncD d4 ks cz.file, { cz with slot := 2, value := s, sure := y4 == 0 }) := by rw [E6.out, if_pos rfl]; unfold set4F; rw [HNX.out, ← hy4]
  have E8 := Lib.hid e5
  have E9 := Lib.hid hy4.symm
  clear cs cs2 cs3 ss ss2 ss3 q0 q1 CC5 SS5 DD5 TT5 e5 hy4 E6 HBAD4
  go_wp2_with fail
  clear q2 q3 q4 fq2 fq3 fq4 hltk
  generalize ((w5.setCell ⟨gc, 2, none⟩ (.int .i64 2)).setCell ⟨gc, 3, none⟩ (.string s)).setCell ⟨gc, 4, none⟩ (.bool false) = w6 at *
  refine wp_region_held_drew (S := fun w' => w'.cell? ⟨gc, 0, none⟩ = some (.pointer (some ⟨gd, 0, none⟩)) ∧ w'.cell? ⟨gc, 1, none⟩ = some (.int .i64 cz.file)) (by kernel_rfl) (CC6.out.held) (fun hHeld => ?_)
  refine wpAnyH_takeD (i := 0) (t := 110) (v := .pointer (some ⟨gc, 0, none⟩)) rfl rfl (by kernel_rfl) (by kernel_rfl) (by kernel_rfl) (fun _ _ _ h => h) (Or.inl ⟨by rfl, fun w' hSw => by obtain ⟨s1, s2⟩ := hSw; go_simp⟩) (by assumption) ?_
  simp only [Act.put, List.setIfInBounds_toArray, List.set_cons_zero, List.set_cons_succ]
  refine wpAnyH_takeD (i := 1) (t := 111) (v := .pointer (some ⟨gc, 0, none⟩)) rfl rfl (by kernel_rfl) (by kernel_rfl) (by kernel_rfl) (fun _ _ _ h => h) (Or.inl ⟨by rfl, fun w' hSw => by obtain ⟨s1, s2⟩ := hSw; go_simp⟩) (by assumption) ?_
  simp only [Act.put, List.setIfInBounds_toArray, List.set_cons_zero, List.set_cons_succ]
  refine wpAnyH_takeD (i := 2) (t := 112) (v := .pointer (some ⟨gc, 0, none⟩)) rfl rfl (by kernel_rfl) (by kernel_rfl) (by kernel_rfl) (fun _ _ _ h => h) (Or.inl ⟨by rfl, fun w' hSw => by obtain ⟨s1, s2⟩ := hSw; go_simp⟩) (by assumption) ?_
  simp only [Act.put, List.setIfInBounds_toArray, List.set_cons_zero, List.set_cons_succ]
  refine wpAnyH_takeD (i := 3) (t := 113) (v := .pointer (some ⟨gd, 0, none⟩)) rfl rfl (by kernel_rfl) (by kernel_rfl) (by kernel_rfl) (fun _ _ _ h => h) (Or.inl ⟨by rfl, fun w' hSw => by obtain ⟨s1, s2⟩ := hSw; go_simp⟩) (by assumption) ?_
  simp only [Act.put, List.setIfInBounds_toArray, List.set_cons_zero, List.set_cons_succ]
  refine wpAnyH_takeD (i := 4) (t := 114) (v := .pointer (some ⟨gc, 0, none⟩)) rfl rfl (by kernel_rfl) (by kernel_rfl) (by kernel_rfl) (fun _ _ _ h => h) (Or.inl ⟨by rfl, fun w' hSw => by obtain ⟨s1, s2⟩ := hSw; go_simp⟩) (by assumption) ?_
  simp only [Act.put, List.setIfInBounds_toArray, List.set_cons_zero, List.set_cons_succ]
  refine wpAnyH_takeD (i := 5) (t := 115) (v := .pointer (some ⟨gc, 0, none⟩)) rfl rfl (by kernel_rfl) (by kernel_rfl) (by kernel_rfl) (fun _ _ _ h => h) (Or.inl ⟨by rfl, fun w' hSw => by obtain ⟨s1, s2⟩ := hSw; go_simp⟩) (by assumption) ?_
  simp only [Act.put, List.setIfInBounds_toArray, List.set_cons_zero, List.set_cons_succ]
  refine wpAnyH_takeD (i := 6) (t := 116) (v := .pointer (some ⟨gc, 1, none⟩)) rfl rfl (by kernel_rfl) (by kernel_rfl) (by kernel_rfl) (fun _ _ _ h => h) (Or.inl ⟨by rfl, fun w' hSw => by obtain ⟨s1, s2⟩ := hSw; go_simp⟩) (by assumption) ?_
  simp only [Act.put, List.setIfInBounds_toArray, List.set_cons_zero, List.set_cons_succ]
  refine wpAnyH_takeD (i := 7) (t := 117) (v := .int .i64 cz.file) rfl rfl (by kernel_rfl) (by kernel_rfl) (by kernel_rfl) (fun _ _ _ h => h) (Or.inl ⟨by rfl, fun w' hSw => by obtain ⟨s1, s2⟩ := hSw; go_simp⟩) (by assumption) ?_
  simp only [Act.put, List.setIfInBounds_toArray, List.set_cons_zero, List.set_cons_succ]
  refine wpAnyH_ready (rs := [8]) (by kernel_rfl) (by simp) ?_
  refine AllReadyH.cons rfl (fun K hK => ?_) AllReadyH.nil
  go_simp
  refine (r_sync (DD6.out.drewN _) (SS6.out.drewN _) hi cz.file).mono ?_
  rintro e w7 ⟨rfl, ow7, dd, pp⟩
  rw [E9.out]
  have CC7 := Lib.hid ((CC6.out.drewN _).step pp hji)
  have DD7 := Lib.hid dd
  have SS7 := Lib.hid pp.st
  have TT7 := Lib.hid (TT6.out.trans (Steps.of' SS6.out pp (.inl rfl)))
  refine hK.out _ _ (CC7.out.held) (fun hHeld2 => ?_)
  clear hK K dd pp hHeld CC6 DD6 SS6 TT6
  refine wpAnyH_takeD (i := 9) (t := 7) (v := .int .i64 y4) rfl rfl (by kernel_rfl) (by kernel_rfl) (by kernel_rfl) (fun _ _ _ h => h) (Or.inl ⟨by rfl, fun w' hSw => by obtain ⟨s1, s2⟩ := hSw; go_simp⟩) (by assumption) ?_
  simp only [Act.put, List.setIfInBounds_toArray, List.set_cons_zero, List.set_cons_succ]
  refine wpAnyH_done (by kernel_rfl) ?_ _
  clear hHeld2
  obtain ⟨q0, q1, q2, q3, q4⟩ := CC7.out.cells
  have fq4 : w7.frozen? ⟨gc, 4, none⟩ = false := CC7.out.blk.frozen 4
  have hltk := CC7.out.lt
  obtain ⟨cs, ss⟩ := CC7.out.set_ (c' := { cz with slot := 2, value := s, sure := y4 == 0 }) SS7.out hj 4 (.bool (y4 == 0)) rfl
  have hend := Lib.hid (SetPostR.mk' E8.out cs (DD7.out.other ss hi hj (Ne.symm hji)) (TT7.out.trans (Steps.of ss (.inr rfl))))
  clear cs ss q0 q1 q2 q3 CC7 SS7 DD7 TT7 E8 E9
  go_wp2_with fail
  go_ret
  exact hend.out
set_option maxRecDepth 100000 in
set_option maxHeartbeats 12800000 in
theorem rset4_b (W w : World) (own : Nat → Nat) (i j gc gd : Nat) (d : DS) (ks : List Int) (c : CS) (s : ByteArray) (hc : CO 74 w own j gc gd c) (hd : RO w own i gd d ks) (hs : St W w own) (hi : i ≠ 0) (hj : j ≠ 0) (hji : j ≠ i) (hlong : ¬ 65536 < s.size) (hsure : c.sure = false) (hslot : 0 < c.slot) (hslot1 : ¬ c.slot = 1) :
    Calls Tryd.prog 25 #[.pointer (some ⟨gc, 0, none⟩), .string s] w (SetPostR 74 W w own i j gc gd ks (setF d ks c s)) := by
  have CC0 := Lib.hid hc
  have DD0 := Lib.hid hd
  have SS0 := Lib.hid hs
  have TT0 := Lib.hid (Steps.refl hs (fun n => n = i ∨ n = j))
  obtain ⟨c0, c1, c2, c3, c4⟩ := hc.cells
  rw [hsure] at c4
  have hsl1 : (c.slot == 1) = false := by simpa using hslot1
  have hsn : (c.slot != 0) = true := by simp only [bne_iff_ne, ne_eq]; omega
  have hneed : need c = true := by unfold need; rw [hsure]; simp; omega
  have hnx : nxt c = 1 := by unfold nxt; rw [if_neg hslot1]
  have e0 : setF d ks c s = if syncE d ks c.file = 0 then set1F (syncD d ks c.file) ks { c with sure := true } s else (syncE d ks c.file, syncD d ks c.file, c) := by unfold setF; rw [if_neg hlong, if_pos hneed]
  obtain ⟨x, hx⟩ : ∃ x, x = syncE d ks c.file := ⟨_, rfl⟩
  rw [← hx] at e0
  have E := Lib.hid hx.symm
  have E0 := Lib.hid e0
  have hlong' : ¬ (65536 : Int) < (s.size : Int) := by omega
  have HNX := Lib.hid hnx
  have HLG := Lib.hid hlong
  clear hc hd hs hneed e0 hnx hlong hsure hx
  go_enter Tryd.func25, Tryd.ntmps25
  go_wp2_with fail
  clear c0 c1 c2 c3 c4
  refine wp_region_held_drew (S := fun w' => w'.cell? ⟨gc, 0, none⟩ = some (.pointer (some ⟨gd, 0, none⟩)) ∧ w'.cell? ⟨gc, 1, none⟩ = some (.int .i64 c.file)) (by kernel_rfl) (CC0.out.held) (fun hHeld => ?_)
  refine wpAnyH_takeD (i := 0) (t := 24) (v := .pointer (some ⟨gc, 0, none⟩)) rfl rfl (by kernel_rfl) (by kernel_rfl) (by kernel_rfl) (fun _ _ _ h => h) (Or.inl ⟨by rfl, fun w' hSw => by obtain ⟨s1, s2⟩ := hSw; go_simp⟩) (by assumption) ?_
  simp only [Act.put, List.setIfInBounds_toArray, List.set_cons_zero, List.set_cons_succ]
  refine wpAnyH_takeD (i := 1) (t := 25) (v := .pointer (some ⟨gc, 0, none⟩)) rfl rfl (by kernel_rfl) (by kernel_rfl) (by kernel_rfl) (fun _ _ _ h => h) (Or.inl ⟨by rfl, fun w' hSw => by obtain ⟨s1, s2⟩ := hSw; go_simp⟩) (by assumption) ?_
  simp only [Act.put, List.setIfInBounds_toArray, List.set_cons_zero, List.set_cons_succ]
  refine wpAnyH_takeD (i := 2) (t := 26) (v := .pointer (some ⟨gc, 0, none⟩)) rfl rfl (by kernel_rfl) (by kernel_rfl) (by kernel_rfl) (fun _ _ _ h => h) (Or.inl ⟨by rfl, fun w' hSw => by obtain ⟨s1, s2⟩ := hSw; go_simp⟩) (by assumption) ?_
  simp only [Act.put, List.setIfInBounds_toArray, List.set_cons_zero, List.set_cons_succ]
  refine wpAnyH_takeD (i := 3) (t := 27) (v := .pointer (some ⟨gd, 0, none⟩)) rfl rfl (by kernel_rfl) (by kernel_rfl) (by kernel_rfl) (fun _ _ _ h => h) (Or.inl ⟨by rfl, fun w' hSw => by obtain ⟨s1, s2⟩ := hSw; go_simp⟩) (by assumption) ?_
  simp only [Act.put, List.setIfInBounds_toArray, List.set_cons_zero, List.set_cons_succ]
  refine wpAnyH_takeD (i := 4) (t := 28) (v := .pointer (some ⟨gc, 0, none⟩)) rfl rfl (by kernel_rfl) (by kernel_rfl) (by kernel_rfl) (fun _ _ _ h => h) (Or.inl ⟨by rfl, fun w' hSw => by obtain ⟨s1, s2⟩ := hSw; go_simp⟩) (by assumption) ?_
  simp only [Act.put, List.setIfInBounds_toArray, List.set_cons_zero, List.set_cons_succ]
  refine wpAnyH_takeD (i := 5) (t := 29) (v := .pointer (some ⟨gc, 0, none⟩)) rfl rfl (by kernel_rfl) (by kernel_rfl) (by kernel_rfl) (fun _ _ _ h => h) (Or.inl ⟨by rfl, fun w' hSw => by obtain ⟨s1, s2⟩ := hSw; go_simp⟩) (by assumption) ?_
  simp only [Act.put, List.setIfInBounds_toArray, List.set_cons_zero, List.set_cons_succ]
  refine wpAnyH_takeD (i := 6) (t := 30) (v := .pointer (some ⟨gc, 1, none⟩)) rfl rfl (by kernel_rfl) (by kernel_rfl) (by kernel_rfl) (fun _ _ _ h => h) (Or.inl ⟨by rfl, fun w' hSw => by obtain ⟨s1, s2⟩ := hSw; go_simp⟩) (by assumption) ?_
  simp only [Act.put, List.setIfInBounds_toArray, List.set_cons_zero, List.set_cons_succ]
  refine wpAnyH_takeD (i := 7) (t := 31) (v := .int .i64 c.file) rfl rfl (by kernel_rfl) (by kernel_rfl) (by kernel_rfl) (fun _ _ _ h => h) (Or.inl ⟨by rfl, fun w' hSw => by obtain ⟨s1, s2⟩ := hSw; go_simp⟩) (by assumption) ?_
  simp only [Act.put, List.setIfInBounds_toArray, List.set_cons_zero, List.set_cons_succ]
  refine wpAnyH_ready (rs := [8]) (by kernel_rfl) (by simp) ?_
  refine AllReadyH.cons rfl (fun K hK => ?_) AllReadyH.nil
  go_simp
  refine (r_sync (DD0.out.drewN _) (SS0.out.drewN _) hi c.file).mono ?_
  rintro e w1 ⟨rfl, ow1, dd, pp⟩
  rw [E.out]
  have CC1 := Lib.hid ((CC0.out.drewN _).step pp hji)
  have DD1 := Lib.hid dd
  have SS1 := Lib.hid pp.st
  have TT1 := Lib.hid (TT0.out.trans (Steps.of' SS0.out pp (.inl rfl)))
  refine hK.out _ _ (CC1.out.held) (fun hHeld2 => ?_)
  clear hK K dd pp hHeld CC0 DD0 SS0 TT0
  refine wpAnyH_takeD (i := 9) (t := 5) (v := .int .i64 x) rfl rfl (by kernel_rfl) (by kernel_rfl) (by kernel_rfl) (fun _ _ _ h => h) (Or.inl ⟨by rfl, fun w' hSw => by obtain ⟨s1, s2⟩ := hSw; go_simp⟩) (by assumption) ?_
  simp only [Act.put, List.setIfInBounds_toArray, List.set_cons_zero, List.set_cons_succ]
  refine wpAnyH_done (by kernel_rfl) ?_ _
  clear hHeld2
  have hbad : ¬ x = 0 → setF d ks c s = (x, syncD d ks c.file, c) := fun h => by rw [E0.out, if_neg h]
  have HBAD := Lib.hid hbad
  clear hbad
  by_cases hx0 : x = 0
  case neg =>
    have hxb : (x != 0) = true := by simpa using hx0
    have hend := Lib.hid (SetPostR.mk' (HBAD.out hx0) CC1.out DD1.out TT1.out)
    clear CC1 DD1 SS1 TT1 hx0
    go_wp2_with fail
    go_ret
    exact hend.out
  subst hx0
  have e1 : setF d ks c s = set1F (syncD d ks c.file) ks { c with sure := true } s := by rw [E0.out, if_pos rfl]
  have E1 := Lib.hid e1
  clear e1 E0 E HBAD
  generalize syncD d ks c.file = d1 at *
  obtain ⟨q0, q1, q2, q3, q4⟩ := CC1.out.cells
  have fq4 : w1.frozen? ⟨gc, 4, none⟩ = false := CC1.out.blk.frozen 4
  have hlt1 := CC1.out.lt
  obtain ⟨cs, ss⟩ := CC1.out.set_ (c' := { c with sure := true }) SS1.out hj 4 (.bool true) rfl
  have CC2 := Lib.hid cs
  have SS2 := Lib.hid ss.st
  have DD2 := Lib.hid (DD1.out.other ss hi hj (Ne.symm hji))
  have TT2 := Lib.hid (TT1.out.trans (Steps.of ss (.inr rfl)))
  have r2 : (w1.setCell ⟨gc, 4, none⟩ (.bool true)).cell? ⟨gc, 2, none⟩ = some (.int .i64 c.slot) := cs.cells.2.2.1
  clear cs ss q0 q1 q2 q3 CC1 SS1 DD1 TT1
  go_wp2_with fail
  generalize w1.setCell ⟨gc, 4, none⟩ (.bool true) = w2 at *
  clear r2 q4 fq4 hlt1
  obtain ⟨cz, hcz⟩ : ∃ cz : CS, cz = { c with sure := true } := ⟨_, rfl⟩
  have hfile : cz.file = c.file := by rw [hcz]
  have hnz : nxt cz = 1 := by rw [hcz]; exact HNX.out
  rw [← hcz] at CC2 E1
  clear HNX
  have HNX := Lib.hid hnz
  have HFI := Lib.hid hfile
  clear hnz hfile hcz
  obtain ⟨y1, hy1⟩ : ∃ y, y = writeE d1 cz.file (offs (nxt cz)) s := ⟨_, rfl⟩
  have E2 := Lib.hid hy1.symm
  have e2 : setF d ks c s = if y1 = 0 then set2F (writeD d1 ks cz.file (offs (nxt cz)) s) ks cz s else (y1, writeD d1 ks cz.file (offs (nxt cz)) s, cz) := by rw [E1.out]; unfold set1F; rw [← hy1]
  have E3 := Lib.hid e2
  have hof : offs (nxt cz) = 64 := by rw [HNX.out]; rfl
  rw [hof] at E2 E3
  clear e2 hy1 E1 hof
  refine wp_region_held_drew (S := fun w' => w'.cell? ⟨gc, 0, none⟩ = some (.pointer (some ⟨gd, 0, none⟩)) ∧ w'.cell? ⟨gc, 1, none⟩ = some (.int .i64 cz.file)) (by kernel_rfl) (CC2.out.held) (fun hHeld => ?_)
  refine wpAnyH_takeD (i := 0) (t := 44) (v := .pointer (some ⟨gc, 0, none⟩)) rfl rfl (by kernel_rfl) (by kernel_rfl) (by kernel_rfl) (fun _ _ _ h => h) (Or.inl ⟨by rfl, fun w' hSw => by obtain ⟨s1, s2⟩ := hSw; go_simp⟩) (by assumption) ?_
  simp only [Act.put, List.setIfInBounds_toArray, List.set_cons_zero, List.set_cons_succ]
  refine wpAnyH_takeD (i := 1) (t := 45) (v := .pointer (some ⟨gc, 0, none⟩)) rfl rfl (by kernel_rfl) (by kernel_rfl) (by kernel_rfl) (fun _ _ _ h => h) (Or.inl ⟨by rfl, fun w' hSw => by obtain ⟨s1, s2⟩ := hSw; go_simp⟩) (by assumption) ?_
  simp only [Act.put, List.setIfInBounds_toArray, List.set_cons_zero, List.set_cons_succ]
  refine wpAnyH_takeD (i := 2) (t := 46) (v := .pointer (some ⟨gc, 0, none⟩)) rfl rfl (by kernel_rfl) (by kernel_rfl) (by kernel_rfl) (fun _ _ _ h => h) (Or.inl ⟨by rfl, fun w' hSw => by obtain ⟨s1, s2⟩ := hSw; go_simp⟩) (by assumption) ?_
  simp only [Act.put, List.setIfInBounds_toArray, List.set_cons_zero, List.set_cons_succ]
  refine wpAnyH_takeD (i := 3) (t := 47) (v := .pointer (some ⟨gd, 0, none⟩)) rfl rfl (by kernel_rfl) (by kernel_rfl) (by kernel_rfl) (fun _ _ _ h => h) (Or.inl ⟨by rfl, fun w' hSw => by obtain ⟨s1, s2⟩ := hSw; go_simp⟩) (by assumption) ?_
  simp only [Act.put, List.setIfInBounds_toArray, List.set_cons_zero, List.set_cons_succ]
  refine wpAnyH_takeD (i := 4) (t := 48) (v := .pointer (some ⟨gc, 0, none⟩)) rfl rfl (by kernel_rfl) (by kernel_rfl) (by kernel_rfl) (fun _ _ _ h => h) (Or.inl ⟨by rfl, fun w' hSw => by obtain ⟨s1, s2⟩ := hSw; go_simp⟩) (by assumption) ?_
  simp only [Act.put, List.setIfInBounds_toArray, List.set_cons_zero, List.set_cons_succ]
  refine wpAnyH_takeD (i := 5) (t := 49) (v := .pointer (some ⟨gc, 0, none⟩)) rfl rfl (by kernel_rfl) (by kernel_rfl) (by kernel_rfl) (fun _ _ _ h => h) (Or.inl ⟨by rfl, fun w' hSw => by obtain ⟨s1, s2⟩ := hSw; go_simp⟩) (by assumption) ?_
  simp only [Act.put, List.setIfInBounds_toArray, List.set_cons_zero, List.set_cons_succ]
  refine wpAnyH_takeD (i := 6) (t := 50) (v := .pointer (some ⟨gc, 1, none⟩)) rfl rfl (by kernel_rfl) (by kernel_rfl) (by kernel_rfl) (fun _ _ _ h => h) (Or.inl ⟨by rfl, fun w' hSw => by obtain ⟨s1, s2⟩ := hSw; go_simp⟩) (by assumption) ?_
  simp only [Act.put, List.setIfInBounds_toArray, List.set_cons_zero, List.set_cons_succ]
  refine wpAnyH_takeD (i := 7) (t := 51) (v := .int .i64 cz.file) rfl rfl (by kernel_rfl) (by kernel_rfl) (by kernel_rfl) (fun _ _ _ h => h) (Or.inl ⟨by rfl, fun w' hSw => by obtain ⟨s1, s2⟩ := hSw; go_simp⟩) (by assumption) ?_
  simp only [Act.put, List.setIfInBounds_toArray, List.set_cons_zero, List.set_cons_succ]
  refine wpAnyH_takeD (i := 8) (t := 52) (v := .int .i64 1) rfl rfl (by kernel_rfl) (by kernel_rfl) (by kernel_rfl) (fun _ _ _ h => h) (Or.inl ⟨by rfl, fun w' hSw => by obtain ⟨s1, s2⟩ := hSw; go_simp⟩) (by assumption) ?_
  simp only [Act.put, List.setIfInBounds_toArray, List.set_cons_zero, List.set_cons_succ]
  refine wpAnyH_takeD (i := 10) (t := 54) (v := .string s) rfl rfl (by kernel_rfl) (by kernel_rfl) (by kernel_rfl) (fun _ _ _ h => h) (Or.inl ⟨by rfl, fun w' hSw => by obtain ⟨s1, s2⟩ := hSw; go_simp⟩) (by assumption) ?_
  simp only [Act.put, List.setIfInBounds_toArray, List.set_cons_zero, List.set_cons_succ]
  refine wpAnyH_ready (rs := [9]) (by kernel_rfl) (by simp) ?_
  refine AllReadyH.cons rfl (fun K hK => ?_) AllReadyH.nil
  go_simp
  refine (begin_any 1 _).mono ?_
  rintro e _ ⟨rfl, rfl⟩
  refine hK.out _ _ hHeld (fun hHeld => ?_)
  clear hK K
  refine wpAnyH_ready (rs := [11]) (by kernel_rfl) (by simp) ?_
  refine AllReadyH.cons rfl (fun K hK => ?_) AllReadyH.nil
  go_simp
  refine (r_write (DD2.out.drewN _) (SS2.out.drewN _) hi cz.file 64 s (by have := HLG.out; omega)).mono ?_
  rintro e w3 ⟨rfl, ow3, dd, pp⟩
  rw [E2.out]
  have CC3 := Lib.hid ((CC2.out.drewN _).step pp hji)
  have DD3 := Lib.hid dd
  have SS3 := Lib.hid pp.st
  have TT3 := Lib.hid (TT2.out.trans (Steps.of' SS2.out pp (.inl rfl)))
  refine hK.out _ _ (CC3.out.held) (fun hHeld2 => ?_)
  clear hK K dd pp hHeld CC2 DD2 SS2 TT2
  refine wpAnyH_takeD (i := 12) (t := 7) (v := .int .i64 y1) rfl rfl (by kernel_rfl) (by kernel_rfl) (by kernel_rfl) (fun _ _ _ h => h) (Or.inl ⟨by rfl, fun w' hSw => by obtain ⟨s1, s2⟩ := hSw; go_simp⟩) (by assumption) ?_
  simp only [Act.put, List.setIfInBounds_toArray, List.set_cons_zero, List.set_cons_succ]
  refine wpAnyH_done (by kernel_rfl) ?_ _
  clear hHeld2
  generalize writeD d1 ks cz.file 64 s = d2 at *
  clear E2
  have hbad2 : ¬ y1 = 0 → setF d ks c s = (y1, d2, cz) := fun h => by rw [E3.out, if_neg h]
  have HBAD2 := Lib.hid hbad2
  clear hbad2
  by_cases hx0 : y1 = 0
  case neg =>
    have hxb : (y1 != 0) = true := by simpa using hx0
    have hend := Lib.hid (SetPostR.mk' (HBAD2.out hx0) CC3.out DD3.out TT3.out)
    clear CC3 DD3 SS3 TT3 hx0
    go_wp2_with fail
    go_ret
    exact hend.out
  subst hx0
  obtain ⟨y2, hy2⟩ : ∃ y, y = syncE d2 ks cz.file := ⟨_, rfl⟩
  have e3 : setF d ks c s = if y2 = 0 then set3F (syncD d2 ks cz.file) ks cz s else (y2, syncD d2 ks cz.file, cz) := by rw [E3.out, if_pos rfl]; unfold set2F; rw [← hy2]
  have E4 := Lib.hid e3
  have E5 := Lib.hid hy2.symm
  clear e3 hy2 E3 HBAD2
  go_wp2_with fail
  refine wp_region_held_drew (S := fun w' => w'.cell? ⟨gc, 0, none⟩ = some (.pointer (some ⟨gd, 0, none⟩)) ∧ w'.cell? ⟨gc, 1, none⟩ = some (.int .i64 cz.file)) (by kernel_rfl) (CC3.out.held) (fun hHeld => ?_)
  refine wpAnyH_takeD (i := 0) (t := 59) (v := .pointer (some ⟨gc, 0, none⟩)) rfl rfl (by kernel_rfl) (by kernel_rfl) (by kernel_rfl) (fun _ _ _ h => h) (Or.inl ⟨by rfl, fun w' hSw => by obtain ⟨s1, s2⟩ := hSw; go_simp⟩) (by assumption) ?_
  simp only [Act.put, List.setIfInBounds_toArray, List.set_cons_zero, List.set_cons_succ]
  refine wpAnyH_takeD (i := 1) (t := 60) (v := .pointer (some ⟨gc, 0, none⟩)) rfl rfl (by kernel_rfl) (by kernel_rfl) (by kernel_rfl) (fun _ _ _ h => h) (Or.inl ⟨by rfl, fun w' hSw => by obtain ⟨s1, s2⟩ := hSw; go_simp⟩) (by assumption) ?_
  simp only [Act.put, List.setIfInBounds_toArray, List.set_cons_zero, List.set_cons_succ]
  refine wpAnyH_takeD (i := 2) (t := 61) (v := .pointer (some ⟨gc, 0, none⟩)) rfl rfl (by kernel_rfl) (by kernel_rfl) (by kernel_rfl) (fun _ _ _ h => h) (Or.inl ⟨by rfl, fun w' hSw => by obtain ⟨s1, s2⟩ := hSw; go_simp⟩) (by assumption) ?_
  simp only [Act.put, List.setIfInBounds_toArray, List.set_cons_zero, List.set_cons_succ]
  refine wpAnyH_takeD (i := 3) (t := 62) (v := .pointer (some ⟨gd, 0, none⟩)) rfl rfl (by kernel_rfl) (by kernel_rfl) (by kernel_rfl) (fun _ _ _ h => h) (Or.inl ⟨by rfl, fun w' hSw => by obtain ⟨s1, s2⟩ := hSw; go_simp⟩) (by assumption) ?_
  simp only [Act.put, List.setIfInBounds_toArray, List.set_cons_zero, List.set_cons_succ]
  refine wpAnyH_takeD (i := 4) (t := 63) (v := .pointer (some ⟨gc, 0, none⟩)) rfl rfl (by kernel_rfl) (by kernel_rfl) (by kernel_rfl) (fun _ _ _ h => h) (Or.inl ⟨by rfl, fun w' hSw => by obtain ⟨s1, s2⟩ := hSw; go_simp⟩) (by assumption) ?_
  simp only [Act.put, List.setIfInBounds_toArray, List.set_cons_zero, List.set_cons_succ]
  refine wpAnyH_takeD (i := 5) (t := 64) (v := .pointer (some ⟨gc, 0, none⟩)) rfl rfl (by kernel_rfl) (by kernel_rfl) (by kernel_rfl) (fun _ _ _ h => h) (Or.inl ⟨by rfl, fun w' hSw => by obtain ⟨s1, s2⟩ := hSw; go_simp⟩) (by assumption) ?_
  simp only [Act.put, List.setIfInBounds_toArray, List.set_cons_zero, List.set_cons_succ]
  refine wpAnyH_takeD (i := 6) (t := 65) (v := .pointer (some ⟨gc, 1, none⟩)) rfl rfl (by kernel_rfl) (by kernel_rfl) (by kernel_rfl) (fun _ _ _ h => h) (Or.inl ⟨by rfl, fun w' hSw => by obtain ⟨s1, s2⟩ := hSw; go_simp⟩) (by assumption) ?_
  simp only [Act.put, List.setIfInBounds_toArray, List.set_cons_zero, List.set_cons_succ]
  refine wpAnyH_takeD (i := 7) (t := 66) (v := .int .i64 cz.file) rfl rfl (by kernel_rfl) (by kernel_rfl) (by kernel_rfl) (fun _ _ _ h => h) (Or.inl ⟨by rfl, fun w' hSw => by obtain ⟨s1, s2⟩ := hSw; go_simp⟩) (by assumption) ?_
  simp only [Act.put, List.setIfInBounds_toArray, List.set_cons_zero, List.set_cons_succ]
  refine wpAnyH_ready (rs := [8]) (by kernel_rfl) (by simp) ?_
  refine AllReadyH.cons rfl (fun K hK => ?_) AllReadyH.nil
  go_simp
  refine (r_sync (DD3.out.drewN _) (SS3.out.drewN _) hi cz.file).mono ?_
  rintro e w4 ⟨rfl, ow4, dd, pp⟩
  rw [E5.out]
  have CC4 := Lib.hid ((CC3.out.drewN _).step pp hji)
  have DD4 := Lib.hid dd
  have SS4 := Lib.hid pp.st
  have TT4 := Lib.hid (TT3.out.trans (Steps.of' SS3.out pp (.inl rfl)))
  refine hK.out _ _ (CC4.out.held) (fun hHeld2 => ?_)
  clear hK K dd pp hHeld CC3 DD3 SS3 TT3
  refine wpAnyH_takeD (i := 9) (t := 7) (v := .int .i64 y2) rfl rfl (by kernel_rfl) (by kernel_rfl) (by kernel_rfl) (fun _ _ _ h => h) (Or.inl ⟨by rfl, fun w' hSw => by obtain ⟨s1, s2⟩ := hSw; go_simp⟩) (by assumption) ?_
  simp only [Act.put, List.setIfInBounds_toArray, List.set_cons_zero, List.set_cons_succ]
  refine wpAnyH_done (by kernel_rfl) ?_ _
  clear hHeld2
  generalize syncD d2 ks cz.file = d3 at *
  clear E5
  have hbad3 : ¬ y2 = 0 → setF d ks c s = (y2, d3, cz) := fun h => by rw [E4.out, if_neg h]
  have HBAD3 := Lib.hid hbad3
  clear hbad3
  by_cases hx0 : y2 = 0
  case neg =>
    have hxb : (y2 != 0) = true := by simpa using hx0
    have hend := Lib.hid (SetPostR.mk' (HBAD3.out hx0) CC4.out DD4.out TT4.out)
    clear CC4 DD4 SS4 TT4 hx0
    go_wp2_with fail
    go_ret
    exact hend.out
  subst hx0
  obtain ⟨y3, hy3⟩ : ∃ y, y = writeE d3 cz.file 0 (hdrB 1 s.size) := ⟨_, rfl⟩
  have e4 : setF d ks c s = if y3 = 0 then set4F (writeD d3 ks cz.file 0 (hdrB 1 s.size)) ks cz s else (y3, writeD d3 ks cz.file 0 (hdrB 1 s.size), cz) := by rw [E4.out, if_pos rfl]; unfold set3F; rw [HNX.out, ← hy3]
  have E6 := Lib.hid e4
  have E7 := Lib.hid hy3.symm
  clear e4 hy3 E4 HBAD3
  go_wp2_with fail
  refine wp_region_held_drew (S := fun w' => w'.cell? ⟨gc, 0, none⟩ = some (.pointer (some ⟨gd, 0, none⟩)) ∧ w'.cell? ⟨gc, 1, none⟩ = some (.int .i64 cz.file)) (by kernel_rfl) (CC4.out.held) (fun hHeld => ?_)
  refine wpAnyH_takeD (i := 0) (t := 73) (v := .pointer (some ⟨gc, 0, none⟩)) rfl rfl (by kernel_rfl) (by kernel_rfl) (by kernel_rfl) (fun _ _ _ h => h) (Or.inl ⟨by rfl, fun w' hSw => by obtain ⟨s1, s2⟩ := hSw; go_simp⟩) (by assumption) ?_
  simp only [Act.put, List.setIfInBounds_toArray, List.set_cons_zero, List.set_cons_succ]
  refine wpAnyH_takeD (i := 1) (t := 74) (v := .pointer (some ⟨gc, 0, none⟩)) rfl rfl (by kernel_rfl) (by kernel_rfl) (by kernel_rfl) (fun _ _ _ h => h) (Or.inl ⟨by rfl, fun w' hSw => by obtain ⟨s1, s2⟩ := hSw; go_simp⟩) (by assumption) ?_
  simp only [Act.put, List.setIfInBounds_toArray, List.set_cons_zero, List.set_cons_succ]
  refine wpAnyH_takeD (i := 2) (t := 75) (v := .pointer (some ⟨gc, 0, none⟩)) rfl rfl (by kernel_rfl) (by kernel_rfl) (by kernel_rfl) (fun _ _ _ h => h) (Or.inl ⟨by rfl, fun w' hSw => by obtain ⟨s1, s2⟩ := hSw; go_simp⟩) (by assumption) ?_
  simp only [Act.put, List.setIfInBounds_toArray, List.set_cons_zero, List.set_cons_succ]
  refine wpAnyH_takeD (i := 3) (t := 76) (v := .pointer (some ⟨gd, 0, none⟩)) rfl rfl (by kernel_rfl) (by kernel_rfl) (by kernel_rfl) (fun _ _ _ h => h) (Or.inl ⟨by rfl, fun w' hSw => by obtain ⟨s1, s2⟩ := hSw; go_simp⟩) (by assumption) ?_
  simp only [Act.put, List.setIfInBounds_toArray, List.set_cons_zero, List.set_cons_succ]
  refine wpAnyH_takeD (i := 4) (t := 77) (v := .pointer (some ⟨gc, 0, none⟩)) rfl rfl (by kernel_rfl) (by kernel_rfl) (by kernel_rfl) (fun _ _ _ h => h) (Or.inl ⟨by rfl, fun w' hSw => by obtain ⟨s1, s2⟩ := hSw; go_simp⟩) (by assumption) ?_
  simp only [Act.put, List.setIfInBounds_toArray, List.set_cons_zero, List.set_cons_succ]
  refine wpAnyH_takeD (i := 5) (t := 78) (v := .pointer (some ⟨gc, 0, none⟩)) rfl rfl (by kernel_rfl) (by kernel_rfl) (by kernel_rfl) (fun _ _ _ h => h) (Or.inl ⟨by rfl, fun w' hSw => by obtain ⟨s1, s2⟩ := hSw; go_simp⟩) (by assumption) ?_
  simp only [Act.put, List.setIfInBounds_toArray, List.set_cons_zero, List.set_cons_succ]
  refine wpAnyH_takeD (i := 6) (t := 79) (v := .pointer (some ⟨gc, 1, none⟩)) rfl rfl (by kernel_rfl) (by kernel_rfl) (by kernel_rfl) (fun _ _ _ h => h) (Or.inl ⟨by rfl, fun w' hSw => by obtain ⟨s1, s2⟩ := hSw; go_simp⟩) (by assumption) ?_
  simp only [Act.put, List.setIfInBounds_toArray, List.set_cons_zero, List.set_cons_succ]
  refine wpAnyH_takeD (i := 7) (t := 80) (v := .int .i64 cz.file) rfl rfl (by kernel_rfl) (by kernel_rfl) (by kernel_rfl) (fun _ _ _ h => h) (Or.inl ⟨by rfl, fun w' hSw => by obtain ⟨s1, s2⟩ := hSw; go_simp⟩) (by assumption) ?_
  simp only [Act.put, List.setIfInBounds_toArray, List.set_cons_zero, List.set_cons_succ]
  have u0 : IntKind.u8.wrap 1 = 1 := by decide
  obtain ⟨q1, hq1⟩ : ∃ q : Nat, q = s.size % 256 := ⟨_, rfl⟩
  obtain ⟨q2, hq2⟩ : ∃ q : Nat, q = s.size / 256 := ⟨_, rfl⟩
  obtain ⟨q3, hq3⟩ : ∃ q : Nat, q = s.size / 256 % 256 := ⟨_, rfl⟩
  obtain ⟨q4, hq4⟩ : ∃ q : Nat, q = s.size / 65536 := ⟨_, rfl⟩
  have HQ1 := Lib.hid hq1
  have HQ2 := Lib.hid hq2
  have HQ3 := Lib.hid hq3
  have HQ4 := Lib.hid hq4
  have hl := HLG.out
  have f1 : (s.size : Int).tmod 256 = (q1 : Int) := by rw [Int.tmod_eq_emod_of_nonneg (by omega)]; omega
  have g1 := wrap_u8 q1 (by omega)
  have f2 : IntKind.i64.wrap ((s.size : Int) / 256) = (q2 : Int) := by rw [IntKind.wrap_i64]; omega
  have f3 : (q2 : Int).tmod 256 = (q3 : Int) := by rw [Int.tmod_eq_emod_of_nonneg (by omega)]; omega
  have g3 := wrap_u8 q3 (by omega)
  have f4 : IntKind.i64.wrap ((s.size : Int) / 65536) = (q4 : Int) := by rw [IntKind.wrap_i64]; omega
  have g4 := wrap_u8 q4 (by omega)
  clear hq1 hq2 hq3 hq4 hl
  refine wpAnyH_takeD (i := 8) (t := 81) (v := .int .i64 1) rfl rfl (by kernel_rfl) (by kernel_rfl) (by kernel_rfl) (fun _ _ _ h => h) (Or.inl ⟨by rfl, fun w' hSw => by obtain ⟨s1, s2⟩ := hSw; go_simp⟩) (by assumption) ?_
  simp only [Act.put, List.setIfInBounds_toArray, List.set_cons_zero, List.set_cons_succ]
  refine wpAnyH_takeD (i := 9) (t := 82) (v := .int .u8 1) rfl rfl (by kernel_rfl) (by kernel_rfl) (by kernel_rfl) (fun _ _ _ h => h) (Or.inl ⟨by rfl, fun w' hSw => by obtain ⟨s1, s2⟩ := hSw; go_simp⟩) (by assumption) ?_
  simp only [Act.put, List.setIfInBounds_toArray, List.set_cons_zero, List.set_cons_succ]
  refine wpAnyH_takeD (i := 10) (t := 83) (v := .int .i64 (s.size : Int)) rfl rfl (by kernel_rfl) (by kernel_rfl) (by kernel_rfl) (fun _ _ _ h => h) (Or.inl ⟨by rfl, fun w' hSw => by obtain ⟨s1, s2⟩ := hSw; go_simp⟩) (by assumption) ?_
  simp only [Act.put, List.setIfInBounds_toArray, List.set_cons_zero, List.set_cons_succ]
  refine wpAnyH_takeD (i := 11) (t := 84) (v := .int .i64 (q1 : Int)) rfl rfl (by kernel_rfl) (by kernel_rfl) (by kernel_rfl) (fun _ _ _ h => h) (Or.inl ⟨by rfl, fun w' hSw => by obtain ⟨s1, s2⟩ := hSw; go_simp⟩) (by assumption) ?_
  simp only [Act.put, List.setIfInBounds_toArray, List.set_cons_zero, List.set_cons_succ]
  refine wpAnyH_takeD (i := 12) (t := 85) (v := .int .u8 (q1 : Int)) rfl rfl (by kernel_rfl) (by kernel_rfl) (by kernel_rfl) (fun _ _ _ h => h) (Or.inl ⟨by rfl, fun w' hSw => by obtain ⟨s1, s2⟩ := hSw; go_simp⟩) (by assumption) ?_
  simp only [Act.put, List.setIfInBounds_toArray, List.set_cons_zero, List.set_cons_succ]
  refine wpAnyH_takeD (i := 13) (t := 86) (v := .int .i64 (s.size : Int)) rfl rfl (by kernel_rfl) (by kernel_rfl) (by kernel_rfl) (fun _ _ _ h => h) (Or.inl ⟨by rfl, fun w' hSw => by obtain ⟨s1, s2⟩ := hSw; go_simp⟩) (by assumption) ?_
  simp only [Act.put, List.setIfInBounds_toArray, List.set_cons_zero, List.set_cons_succ]
  refine wpAnyH_takeD (i := 14) (t := 87) (v := .int .i64 (q2 : Int)) rfl rfl (by kernel_rfl) (by kernel_rfl) (by kernel_rfl) (fun _ _ _ h => h) (Or.inl ⟨by rfl, fun w' hSw => by obtain ⟨s1, s2⟩ := hSw; go_simp⟩) (by assumption) ?_
  simp only [Act.put, List.setIfInBounds_toArray, List.set_cons_zero, List.set_cons_succ]
  refine wpAnyH_takeD (i := 15) (t := 88) (v := .int .i64 (q3 : Int)) rfl rfl (by kernel_rfl) (by kernel_rfl) (by kernel_rfl) (fun _ _ _ h => h) (Or.inl ⟨by rfl, fun w' hSw => by obtain ⟨s1, s2⟩ := hSw; go_simp⟩) (by assumption) ?_
  simp only [Act.put, List.setIfInBounds_toArray, List.set_cons_zero, List.set_cons_succ]
  refine wpAnyH_takeD (i := 16) (t := 89) (v := .int .u8 (q3 : Int)) rfl rfl (by kernel_rfl) (by kernel_rfl) (by kernel_rfl) (fun _ _ _ h => h) (Or.inl ⟨by rfl, fun w' hSw => by obtain ⟨s1, s2⟩ := hSw; go_simp⟩) (by assumption) ?_
  simp only [Act.put, List.setIfInBounds_toArray, List.set_cons_zero, List.set_cons_succ]
  refine wpAnyH_takeD (i := 17) (t := 90) (v := .int .i64 (s.size : Int)) rfl rfl (by kernel_rfl) (by kernel_rfl) (by kernel_rfl) (fun _ _ _ h => h) (Or.inl ⟨by rfl, fun w' hSw => by obtain ⟨s1, s2⟩ := hSw; go_simp⟩) (by assumption) ?_
  simp only [Act.put, List.setIfInBounds_toArray, List.set_cons_zero, List.set_cons_succ]
  refine wpAnyH_takeD (i := 18) (t := 91) (v := .int .i64 (q4 : Int)) rfl rfl (by kernel_rfl) (by kernel_rfl) (by kernel_rfl) (fun _ _ _ h => h) (Or.inl ⟨by rfl, fun w' hSw => by obtain ⟨s1, s2⟩ := hSw; go_simp⟩) (by assumption) ?_
  simp only [Act.put, List.setIfInBounds_toArray, List.set_cons_zero, List.set_cons_succ]
  refine wpAnyH_takeD (i := 19) (t := 92) (v := .int .u8 (q4 : Int)) rfl rfl (by kernel_rfl) (by kernel_rfl) (by kernel_rfl) (fun _ _ _ h => h) (Or.inl ⟨by rfl, fun w' hSw => by obtain ⟨s1, s2⟩ := hSw; go_simp⟩) (by assumption) ?_
  simp only [Act.put, List.setIfInBounds_toArray, List.set_cons_zero, List.set_cons_succ]
  refine wpAnyH_ready (rs := [20]) (by kernel_rfl) (by simp) ?_
  refine AllReadyH.cons rfl (fun K hK => ?_) AllReadyH.nil
  go_simp
  have hfh : Fr (fun _ => False) w4 ((w4.alloc (Obj.cells #[.int .u8 1, .int .u8 q1, .int .u8 q3, .int .u8 q4, .int .u8 0] 5)).drew) := ((Fr.refl (fun _ => False) w4).alloc _).drewN 1
  have hbh : Blk ((w4.alloc (Obj.cells #[.int .u8 1, .int .u8 q1, .int .u8 q3, .int .u8 q4, .int .u8 0] 5)).drew) w4.heap.size 5 #[.int .u8 1, .int .u8 q1, .int .u8 q3, .int .u8 q4, .int .u8 0] := Blk.new w4 5 #[.int .u8 1, .int .u8 q1, .int .u8 q3, .int .u8 q4, .int .u8 0]
  have hcv := hdr_conv (x := 1) (by decide) HQ1.out HQ3.out HQ4.out (by have := HLG.out; omega) hbh
  have CCh := Lib.hid (CC4.out.fr0 hfh)
  have DDh := Lib.hid (DD4.out.fr0 hfh)
  have SSh := Lib.hid (SS4.out.frF hfh)
  have TTh := Lib.hid (TT4.out.trans (Steps.frF SS4.out hfh _))
  refine hK.out _ _ (CCh.out.held) (fun hHeld3 => ?_)
  clear hK K hfh hbh hHeld CC4 DD4 SS4 TT4 f1 g1 f2 f3 g3 f4 g4 u0 HQ1 HQ2 HQ3 HQ4
  generalize (w4.alloc (Obj.cells #[.int .u8 1, .int .u8 q1, .int .u8 q3, .int .u8 q4, .int .u8 0] 5)).drew = wh at *
  refine wpAnyH_ready (rs := [21]) (by kernel_rfl) (by simp) ?_
  refine AllReadyH.cons rfl (fun K hK => ?_) AllReadyH.nil
  go_simp
  refine hK.out _ _ (CCh.out.held) (fun hHeld4 => ?_)
  clear hK K hcv hHeld3
  refine wpAnyH_ready (rs := [22]) (by kernel_rfl) (by simp) ?_
  refine AllReadyH.cons rfl (fun K hK => ?_) AllReadyH.nil
  go_simp
  refine (r_write DDh.out SSh.out hi cz.file 0 (hdrB 1 s.size) (by rw [size_hdrB]; decide)).mono ?_
  rintro e w5 ⟨rfl, ow5, dd, pp⟩
  rw [E7.out]
  have CC5 := Lib.hid (CCh.out.step pp hji)
  have DD5 := Lib.hid dd
  have SS5 := Lib.hid pp.st
  have TT5 := Lib.hid (TTh.out.trans (Steps.of pp (.inl rfl)))
  refine hK.out _ _ (CC5.out.held) (fun hHeld2 => ?_)
  clear hK K dd pp hHeld4 CCh DDh SSh TTh
  refine wpAnyH_takeD (i := 23) (t := 7) (v := .int .i64 y3) rfl rfl (by kernel_rfl) (by kernel_rfl) (by kernel_rfl) (fun _ _ _ h => h) (Or.inl ⟨by rfl, fun w' hSw => by obtain ⟨s1, s2⟩ := hSw; go_simp⟩) (by assumption) ?_
  simp only [Act.put, List.setIfInBounds_toArray, List.set_cons_zero, List.set_cons_succ]
  refine wpAnyH_done (by kernel_rfl) ?_ _
  clear hHeld2
  generalize writeD d3 ks cz.file 0 (hdrB 1 s.size) = d4 at *
  clear E7
  have hbad4 : ¬ y3 = 0 → setF d ks c s = (y3, d4, cz) := fun h => by rw [E6.out, if_neg h]
  have HBAD4 := Lib.hid hbad4
  clear hbad4
  by_cases hx0 : y3 = 0
  case neg =>
    have hxb : (y3 != 0) = true := by simpa using hx0
    have hend := Lib.hid (SetPostR.mk' (HBAD4.out hx0) CC5.out DD5.out TT5.out)
    clear CC5 DD5 SS5 TT5 hx0
    go_wp2_with fail
    go_ret
    exact hend.out
  subst hx0
  obtain ⟨cs, ss⟩ := CC5.out.set_ (c' := { cz with slot := 1 }) SS5.out hj 2 (.int .i64 1) rfl
  obtain ⟨cs2, ss2⟩ := cs.set_ (c' := { cz with slot := 1, value := s }) ss.st hj 3 (.string s) rfl
  obtain ⟨cs3, ss3⟩ := cs2.set_ (c' := { cz with slot := 1, value := s, sure := false }) ss2.st hj 4 (.bool false) rfl
  obtain ⟨q0, q1, q2, q3, q4⟩ := CC5.out.cells
  have fq2 : w5.frozen? ⟨gc, 2, none⟩ = false := CC5.out.blk.frozen 2
  have fq3 : w5.frozen? ⟨gc, 3, none⟩ = false := CC5.out.blk.frozen 3
  have fq4 : w5.frozen? ⟨gc, 4, none⟩ = false := CC5.out.blk.frozen 4
  have hltk := CC5.out.lt
  have CC6 := Lib.hid cs3
  have SS6 := Lib.hid ss3.st
  have DD6 := Lib.hid (((DD5.out.other ss hi hj (Ne.symm hji)).other ss2 hi hj (Ne.symm hji)).other ss3 hi hj (Ne.symm hji))
  have TT6 := Lib.hid (((TT5.out.trans (Steps.of ss (.inr rfl))).trans (Steps.of ss2 (.inr rfl))).trans (Steps.of ss3 (.inr rfl)))
  obtain ⟨y4, hy4⟩ : ∃ y, y = syncE d4 ks cz.file := ⟨_, rfl⟩
  have e5 : setF d ks c s = (y4, syncD d4 ks cz.file, { cz with slot := 1, value := s, sure := y4 == 0 }) := by rw [E6.out, if_pos rfl]; unfold set4F; rw [HNX.out, ← hy4]
  have E8 := Lib.hid e5
  have E9 := Lib.hid hy4.symm
  clear cs cs2 cs3 ss ss2 ss3 q0 q1 CC5 SS5 DD5 TT5 e5 hy4 E6 HBAD4
  go_wp2_with fail
  clear q2 q3 q4 fq2 fq3 fq4 hltk
  generalize ((w5.setCell ⟨gc, 2, none⟩ (.int .i64 1)).setCell ⟨gc, 3, none⟩ (.string s)).setCell ⟨gc, 4, none⟩ (.bool false) = w6 at *
  refine wp_region_held_drew (S := fun w' => w'.cell? ⟨gc, 0, none⟩ = some (.pointer (some ⟨gd, 0, none⟩)) ∧ w'.cell? ⟨gc, 1, none⟩ = some (.int .i64 cz.file)) (by kernel_rfl) (CC6.out.held) (fun hHeld => ?_)
  refine wpAnyH_takeD (i := 0) (t := 110) (v := .pointer (some ⟨gc, 0, none⟩)) rfl rfl (by kernel_rfl) (by kernel_rfl) (by kernel_rfl) (fun _ _ _ h => h) (Or.inl ⟨by rfl, fun w' hSw => by obtain ⟨s1, s2⟩ := hSw; go_simp⟩) (by assumption) ?_
  simp only [Act.put, List.setIfInBounds_toArray, List.set_cons_zero, List.set_cons_succ]
  refine wpAnyH_takeD (i := 1) (t := 111) (v := .pointer (some ⟨gc, 0, none⟩)) rfl rfl (by kernel_rfl) (by kernel_rfl) (by kernel_rfl) (fun _ _ _ h => h) (Or.inl ⟨by rfl, fun w' hSw => by obtain ⟨s1, s2⟩ := hSw; go_simp⟩) (by assumption) ?_
  simp only [Act.put, List.setIfInBounds_toArray, List.set_cons_zero, List.set_cons_succ]
  refine wpAnyH_takeD (i := 2) (t := 112) (v := .pointer (some ⟨gc, 0, none⟩)) rfl rfl (by kernel_rfl) (by kernel_rfl) (by kernel_rfl) (fun _ _ _ h => h) (Or.inl ⟨by rfl, fun w' hSw => by obtain ⟨s1, s2⟩ := hSw; go_simp⟩) (by assumption) ?_
  simp only [Act.put, List.setIfInBounds_toArray, List.set_cons_zero, List.set_cons_succ]
  refine wpAnyH_takeD (i := 3) (t := 113) (v := .pointer (some ⟨gd, 0, none⟩)) rfl rfl (by kernel_rfl) (by kernel_rfl) (by kernel_rfl) (fun _ _ _ h => h) (Or.inl ⟨by rfl, fun w' hSw => by obtain ⟨s1, s2⟩ := hSw; go_simp⟩) (by assumption) ?_
  simp only [Act.put, List.setIfInBounds_toArray, List.set_cons_zero, List.set_cons_succ]
  refine wpAnyH_takeD (i := 4) (t := 114) (v := .pointer (some ⟨gc, 0, none⟩)) rfl rfl (by kernel_rfl) (by kernel_rfl) (by kernel_rfl) (fun _ _ _ h => h) (Or.inl ⟨by rfl, fun w' hSw => by obtain ⟨s1, s2⟩ := hSw; go_simp⟩) (by assumption) ?_
  simp only [Act.put, List.setIfInBounds_toArray, List.set_cons_zero, List.set_cons_succ]
  refine wpAnyH_takeD (i := 5) (t := 115) (v := .pointer (some ⟨gc, 0, none⟩)) rfl rfl (by kernel_rfl) (by kernel_rfl) (by kernel_rfl) (fun _ _ _ h => h) (Or.inl ⟨by rfl, fun w' hSw => by obtain ⟨s1, s2⟩ := hSw; go_simp⟩) (by assumption) ?_
  simp only [Act.put, List.setIfInBounds_toArray, List.set_cons_zero, List.set_cons_succ]
  refine wpAnyH_takeD (i := 6) (t := 116) (v := .pointer (some ⟨gc, 1, none⟩)) rfl rfl (by kernel_rfl) (by kernel_rfl) (by kernel_rfl) (fun _ _ _ h => h) (Or.inl ⟨by rfl, fun w' hSw => by obtain ⟨s1, s2⟩ := hSw; go_simp⟩) (by assumption) ?_
  simp only [Act.put, List.setIfInBounds_toArray, List.set_cons_zero, List.set_cons_succ]
  refine wpAnyH_takeD (i := 7) (t := 117) (v := .int .i64 cz.file) rfl rfl (by kernel_rfl) (by kernel_rfl) (by kernel_rfl) (fun _ _ _ h => h) (Or.inl ⟨by rfl, fun w' hSw => by obtain ⟨s1, s2⟩ := hSw; go_simp⟩) (by assumption) ?_
  simp only [Act.put, List.setIfInBounds_toArray, List.set_cons_zero, List.set_cons_succ]
  refine wpAnyH_ready (rs := [8]) (by kernel_rfl) (by simp) ?_
  refine AllReadyH.cons rfl (fun K hK => ?_) AllReadyH.nil
  go_simp
  refine (r_sync (DD6.out.drewN _) (SS6.out.drewN _) hi cz.file).mono ?_
  rintro e w7 ⟨rfl, ow7, dd, pp⟩
  rw [E9.out]
  have CC7 := Lib.hid ((CC6.out.drewN _).step pp hji)
  have DD7 := Lib.hid dd
  have SS7 := Lib.hid pp.st
  have TT7 := Lib.hid (TT6.out.trans (Steps.of' SS6.out pp (.inl rfl)))
  refine hK.out _ _ (CC7.out.held) (fun hHeld2 => ?_)
  clear hK K dd pp hHeld CC6 DD6 SS6 TT6
  refine wpAnyH_takeD (i := 9) (t := 7) (v := .int .i64 y4) rfl rfl (by kernel_rfl) (by kernel_rfl) (by kernel_rfl) (fun _ _ _ h => h) (Or.inl ⟨by rfl, fun w' hSw => by obtain ⟨s1, s2⟩ := hSw; go_simp⟩) (by assumption) ?_
  simp only [Act.put, List.setIfInBounds_toArray, List.set_cons_zero, List.set_cons_succ]
  refine wpAnyH_done (by kernel_rfl) ?_ _
  clear hHeld2
  obtain ⟨q0, q1, q2, q3, q4⟩ := CC7.out.cells
  have fq4 : w7.frozen? ⟨gc, 4, none⟩ = false := CC7.out.blk.frozen 4
  have hltk := CC7.out.lt
  obtain ⟨cs, ss⟩ := CC7.out.set_ (c' := { cz with slot := 1, value := s, sure := y4 == 0 }) SS7.out hj 4 (.bool (y4 == 0)) rfl
  have hend := Lib.hid (SetPostR.mk' E8.out cs (DD7.out.other ss hi hj (Ne.symm hji)) (TT7.out.trans (Steps.of ss (.inr rfl))))
  clear cs ss q0 q1 q2 q3 CC7 SS7 DD7 TT7 E8 E9
  go_wp2_with fail
  go_ret
  exact hend.out
end Go.Proofs.YtjgmbildgcighaaDoor
