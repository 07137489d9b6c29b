import Derived.Test.YtjgmbildgcighaaDoorCR4
import Derived.Test.YtjgmbildgcighaaDoorCP4
import Derived.Test.YtjgmbildgcighaaDoorC6
namespace Go.Proofs.YtjgmbildgcighaaDoor
open Go.RowKit

theorem openF_slot' (d : DS) (f : Int) : 0 ≤ (openF d f).2.slot := by
  unfold openF
  dsimp only
  repeat' split
  all_goals first | exact Int.le_refl _ | exact Int.natCast_nonneg _
theorem setF_slot (d : DS) (ks : List Int) (c : CS) (s : ByteArray) (h : 0 ≤ c.slot) : 0 ≤ (setF d ks c s).2.2.slot := by
  have hn : ∀ c : CS, 0 ≤ nxt c := fun c => by unfold nxt; split <;> decide
  have h4 : ∀ d (c : CS), 0 ≤ (set4F d ks c s).2.2.slot := fun d c => hn c
  have h3 : ∀ d (c : CS), 0 ≤ c.slot → 0 ≤ (set3F d ks c s).2.2.slot := fun d c h => by unfold set3F; split <;> first | exact h4 _ _ | exact h
  have h2 : ∀ d (c : CS), 0 ≤ c.slot → 0 ≤ (set2F d ks c s).2.2.slot := fun d c h => by unfold set2F; split <;> first | exact h3 _ _ h | exact h
  have h1 : ∀ d (c : CS), 0 ≤ c.slot → 0 ≤ (set1F d ks c s).2.2.slot := fun d c h => by unfold set1F; split <;> first | exact h2 _ _ h | exact h
  unfold setF
  split
  · exact h
  · split
    · split
      · exact h1 _ _ h
      · exact h
    · exact h1 _ _ h
/-- The state in the loop of CellTells: disks and cells on both sides are in the same state. -/
def SyT (W : World) (gd gr : Nat) (v e v2 e2 : Value) (wr : World) : Prop :=
  ∃ own ga gb D ks C x y, v = .pointer (some ⟨ga, 0, none⟩) ∧ e = .int .i64 x ∧ v2 = .pointer (some ⟨gb, 0, none⟩) ∧ e2 = .int .i64 y ∧ DO wr own 1 gd D ks ∧ RO wr own 2 gr D ks ∧ CO 70 wr own 3 ga gd C ∧ CO 74 wr own 4 gb gr C ∧ St W wr own ∧ CI D 3 C (fun _ _ => True) ∧ 0 ≤ C.slot
set_option maxRecDepth 100000 in
set_option maxHeartbeats 12800000 in
theorem ctells_walk (A : Option Addr) (c : Nat) (ops : List OpV) (W : World) (hG : GAt W) (h : OpsAt W A ops) (hm : ops.length ≤ 9223372036854775807) :
    Calls Tryd.prog 7 #[.slice A ops.length c] W fun e w' => e = .returned (.bool true) ∧ Below W.heap.size W w' := by
  have HG := Lib.hid hG
  have H := Lib.hid h
  clear hG h
  go_enter Tryd.func7, Tryd.ntmps7
  go_wp2_with fail
  refine (csmall_any W HG.out).mono ?_
  rintro e w1 ⟨rfl, hb⟩
  have s1 : Hid (St W w1 (fun _ => 0)) := ⟨fun _ _ => rfl, fun _ _ => rfl, hb⟩
  clear hb
  go_wp2_with fail
  cases hfew : fewO ops with
  | false =>
    refine (cfew_is false A c ops W w1 _ H.out s1.out hm hfew).mono ?_
    rintro e _ ⟨rfl, rfl⟩
    go_wp2_with fail
    go_ret
    exact ⟨rfl, s1.out.fr⟩
  | true =>
  refine (cfew_is true A c ops W w1 _ H.out s1.out hm hfew).mono ?_
  rintro e _ ⟨rfl, rfl⟩
  have HF := Lib.hid (fewO_ok hfew)
  have hl30 := (fewO_ok hfew).2
  have HO := Lib.hid (open_new (f := 3) (by decide))
  clear hfew
  go_wp2_with fail
  refine (o_new (i := 1) s1.out (by decide)).mono ?_
  rintro e w2 ⟨gd, rfl, o2, d2, p2⟩
  have D2 := Lib.hid d2
  have P2 := Lib.hid p2.st
  clear d2 p2 s1
  go_wp2_with fail
  refine (r_new (i := 2) P2.out (by decide)).mono ?_
  rintro e w3 ⟨gr, rfl, o3, r3, p3⟩
  have D3 := Lib.hid (D2.out.other p3 (by decide) (by decide) (by decide))
  have R3 := Lib.hid r3
  have P3 := Lib.hid p3.st
  clear r3 p3 D2 P2
  go_wp2_with fail
  refine (o_open (j := 3) D3.out P3.out (by decide) (by decide) (by decide) HG.out HO.out).mono ?_
  rintro e w4 ⟨ga0, rfl, o4, c4, d4, p4⟩
  have A4 := Lib.hid c4
  have D4 := Lib.hid d4
  have R4 := Lib.hid (R3.out.other p4 (by decide) (by decide) (by decide))
  have P4 := Lib.hid p4.st
  clear c4 d4 p4 D3 R3 P3
  go_wp2_with fail
  refine (ropen_any W _ _ 2 4 gr _ [] 3 R4.out P4.out (by decide)).mono ?_
  intro e w5 hp
  rw [HO.out] at hp
  obtain ⟨gb0, o5, rfl, c5, p5⟩ := hp.1 rfl
  have hst : Hid (SyT W gd gr (.pointer (some ⟨ga0, 0, none⟩)) (.int .i64 0) (.pointer (some ⟨gb0, 0, none⟩)) (.int .i64 0) w5) := ⟨o5, ga0, gb0, _, _, _, 0, 0, rfl, rfl, rfl, rfl, D4.out.other p5 (by decide) (by decide) (by decide), R4.out.other p5 (by decide) (by decide) (by decide), A4.out.step p5 (by decide), c5, p5.st, CI.new (f := 3) (by decide) trivial, Int.le_refl 0⟩
  clear hp c5 p5 A4 D4 R4 P4 HO
  go_wp2_with fail
  go_loopw [7, 8, 9, 10, 11] (fun v y v2 y2 i wr => ∃ k : Nat, k ≤ ops.length ∧ i = .int .i64 k ∧ SyT W gd gr v y v2 y2 wr) (fun v y v2 y2 i _ => ops.length - (intOf i).toNat)
  case atStart => exact ⟨0, Nat.zero_le _, rfl, hst.out⟩
  case round =>
    obtain ⟨k, hk, rfl, own, ga, gb, D, ks, C, x, y, rfl, rfl, rfl, rfl, hd, hrr, hca, hcb, hs, hci, hsl⟩ := hrel
    have HD := Lib.hid hd
    have HR := Lib.hid hrr
    have HA := Lib.hid hca
    have HB := Lib.hid hcb
    have HS := Lib.hid hs
    have HCI := Lib.hid hci
    have HSL : Hid (0 ≤ C.slot) := hsl
    clear hst hd hrr hca hcb hs hci hsl
    obtain ⟨w0, rfl⟩ : ∃ w', w' = wr := ⟨_, rfl⟩
    by_cases hlt : k < ops.length
    · obtain ⟨a, ha⟩ : ∃ a, ops[k]? = some a := ⟨_, List.getElem?_eq_getElem hlt⟩
      obtain ⟨b, o, rfl, hb, q1, q2, q3, q4⟩ := H.out.at HS.out ha
      obtain ⟨-, hkb, hn⟩ := H.out k a ha
      obtain ⟨hsz, hkl⟩ := HF.out.1 a (List.mem_of_getElem? ha)
      have hz : (k : Int) < (ops.length : Int) := by omega
      have HKB := Lib.hid hkb
      clear ha hkb hb
      by_cases k0 : a.kind = 0
      · skip
        rw [k0] at q1
        obtain ⟨⟨x', D', C'⟩, hr⟩ : ∃ r, r = setF D ks C a.s := ⟨_, rfl⟩
        have hlaw := (set_law HCI.out ks a.s).2
        have hslo := setF_slot D ks C a.s HSL.out
        rw [← hr] at hlaw hslo
        have HRR := Lib.hid hr.symm
        have HCJ : Hid (CI D' 3 C' (fun _ _ => True)) := hlaw.mono fun _ _ _ => trivial
        have HSL2 : Hid (0 ≤ C'.slot) := hslo
        clear hr hlaw hslo k0 HCI
        go_wp2_with fail
        have hf := (Fr.refl (fun _ => False) w0).alloc (Obj.cells #[.int .i64 0, .string a.s, .int .i64 a.n, .slice a.kA a.k.length a.kc] 42)
        have BX := Blk.new w0 42 #[.int .i64 0, .string a.s, .int .i64 a.n, .slice a.kA a.k.length a.kc]
        have ow0 : own w0.heap.size = 0 := HS.out.hi _ (Nat.le_refl _)
        have DB := Lib.hid (HD.out.fr0 hf)
        have RB := Lib.hid (HR.out.fr0 hf)
        have AB := Lib.hid (HA.out.fr0 hf)
        have BB := Lib.hid (HB.out.fr0 hf)
        have SB := Lib.hid (HS.out.frF hf)
        clear hf HD HR HA HB HS q1 q2 q3 q4
        generalize w0.alloc (Obj.cells #[.int .i64 0, .string a.s, .int .i64 a.n, .slice a.kA a.k.length a.kc] 42) = wb at *
        generalize w0.heap.size = g at *
        have BXd : Blk wb.drew g 42 #[.int .i64 0, .string a.s, .int .i64 a.n, .slice a.kA a.k.length a.kc] := BX
        refine wp_region_held_drew (S := fun w' => w'.cell? ⟨g, 1, none⟩ = some (.string a.s)) (by kernel_rfl) (BX.cell 1) (fun hHeld => ?_)
        refine wpAnyH_takeD (i := 0) (t := 72) (v := .pointer (some ⟨ga, 0, none⟩)) rfl rfl (by kernel_rfl) (by kernel_rfl) (by kernel_rfl) (fun _ _ _ h => h) (Or.inl ⟨by rfl, fun w' hSw => by have s1 := hSw; go_simp⟩) (by assumption) ?_
        simp only [Act.put, List.setIfInBounds_toArray, List.set_cons_zero, List.set_cons_succ]
        refine wpAnyH_takeD (i := 1) (t := 73) (v := .pointer (some ⟨g, 1, none⟩)) rfl rfl (by kernel_rfl) (by kernel_rfl) (by kernel_rfl) (fun _ _ _ h => h) (Or.inl ⟨by rfl, fun w' hSw => by have s1 := hSw; go_simp⟩) (by assumption) ?_
        simp only [Act.put, List.setIfInBounds_toArray, List.set_cons_zero, List.set_cons_succ]
        refine wpAnyH_takeD (i := 2) (t := 74) (v := .string a.s) rfl rfl (by kernel_rfl) (by kernel_rfl) (by kernel_rfl) (fun _ _ _ h => h) (Or.inl ⟨by rfl, fun w' hSw => by have s1 := hSw; go_simp⟩) (by assumption) ?_
        simp only [Act.put, List.setIfInBounds_toArray, List.set_cons_zero, List.set_cons_succ]
        refine wpAnyH_takeD (i := 4) (t := 76) (v := .pointer (some ⟨gb, 0, none⟩)) rfl rfl (by kernel_rfl) (by kernel_rfl) (by kernel_rfl) (fun _ _ _ h => h) (Or.inl ⟨by rfl, fun w' hSw => by have s1 := hSw; go_simp⟩) (by assumption) ?_
        simp only [Act.put, List.setIfInBounds_toArray, List.set_cons_zero, List.set_cons_succ]
        refine wpAnyH_takeD (i := 5) (t := 77) (v := .pointer (some ⟨g, 1, none⟩)) rfl rfl (by kernel_rfl) (by kernel_rfl) (by kernel_rfl) (fun _ _ _ h => h) (Or.inl ⟨by rfl, fun w' hSw => by have s1 := hSw; go_simp⟩) (by assumption) ?_
        simp only [Act.put, List.setIfInBounds_toArray, List.set_cons_zero, List.set_cons_succ]
        refine wpAnyH_takeD (i := 6) (t := 78) (v := .string a.s) rfl rfl (by kernel_rfl) (by kernel_rfl) (by kernel_rfl) (fun _ _ _ h => h) (Or.inl ⟨by rfl, fun w' hSw => by have s1 := hSw; go_simp⟩) (by assumption) ?_
        simp only [Act.put, List.setIfInBounds_toArray, List.set_cons_zero, List.set_cons_succ]
        refine wpAnyH_ready (rs := [3]) (by kernel_rfl) (by simp) ?_
        refine AllReadyH.cons rfl (fun K hK => ?_) AllReadyH.nil
        go_simp
        refine (o_set (AB.out.drewN _) (DB.out.drewN _) (SB.out.drewN _) (by decide) (by decide) (by decide) HG.out HRR.out).mono ?_
        rintro e w5 ⟨rfl, o5, c5, d5, p5⟩
        have BX5 := BXd.keep p5.fr (by show ¬ (own g = 1 ∨ own g = 3); rw [ow0]; decide)
        have ow5 : o5 g = 0 := (p5.same g BXd.lt).trans ow0
        have A5 := Lib.hid c5
        have D5 := Lib.hid d5
        have S5 := Lib.hid p5.st
        have R5 := Lib.hid ((RB.out.drewN _).steps p5 (by decide) (by decide) (by decide))
        have B5 := Lib.hid ((BB.out.drewN _).steps p5 (by decide))
        refine hK.out _ _ (BX5.cell 1) (fun hHeld5 => ?_)
        clear hK K c5 d5 p5 hHeld BX BXd DB RB AB BB SB
        refine wpAnyH_ready (rs := [7]) (by kernel_rfl) (by simp) ?_
        refine AllReadyH.cons rfl (fun K hK => ?_) AllReadyH.nil
        go_simp
        refine (r_set B5.out R5.out S5.out (by decide) (by decide) (by decide) HSL.out HRR.out).mono ?_
        rintro e w6 ⟨rfl, o6, c6, r6, p6⟩
        have BX6 := BX5.keep p6.fr (by show ¬ (o5 g = 2 ∨ o5 g = 4); rw [ow5]; decide)
        have B6 := Lib.hid c6
        have R6 := Lib.hid r6
        have S6 := Lib.hid p6.st
        have D6 := Lib.hid (D5.out.steps p6 (by decide) (by decide) (by decide))
        have A6 := Lib.hid (A5.out.steps p6 (by decide))
        refine hK.out _ _ (BX6.cell 1) (fun hHeld6 => ?_)
        clear hK K c6 r6 p6 hHeld5 BX5 D5 R5 A5 B5 S5 HRR HSL
        have hx : (x' != x') = false := by simp
        refine wpAnyH_takeD (i := 8) (t := 80) (v := .bool false) rfl rfl (by kernel_rfl) (by kernel_rfl) (by kernel_rfl) (fun _ _ _ h => h) (Or.inl ⟨by rfl, fun w' hSw => by have s1 := hSw; go_simp⟩) (by assumption) ?_
        simp only [Act.put, List.setIfInBounds_toArray, List.set_cons_zero, List.set_cons_succ]
        refine wpAnyH_done (by kernel_rfl) ?_ _
        clear hHeld6 hx BX6 ow5 ow0
        go_wp2_with fail
        refine (o_get A6.out).mono ?_
        rintro e wp ⟨rfl, np, hwp⟩
        have Dp : Hid (DO wp o6 1 gd D' ks) := by show DO _ _ _ _ _ _; rw [hwp]; exact D6.out.drewN np
        have Rp : Hid (RO wp o6 2 gr D' ks) := by show RO _ _ _ _ _ _; rw [hwp]; exact R6.out.drewN np
        have Ap : Hid (CO 70 wp o6 3 ga gd C') := by show CO _ _ _ _ _ _ _; rw [hwp]; exact A6.out.drewN np
        have Bp : Hid (CO 74 wp o6 4 gb gr C') := by show CO _ _ _ _ _ _ _; rw [hwp]; exact B6.out.drewN np
        have Sp : Hid (St W wp o6) := by show St _ _ _; rw [hwp]; exact S6.out.drewN np
        clear hwp D6 R6 A6 B6 S6
        go_wp2_with fail
        refine (rget_c _ _ _ _ _ _ Bp.out HSL2.out).mono ?_
        rintro e wq ⟨rfl, nq, hwq⟩
        have hend : Hid (SyT W gd gr (.pointer (some ⟨ga, 0, none⟩)) (.int .i64 x) (.pointer (some ⟨gb, 0, none⟩)) (.int .i64 y) wq) := by
          refine ⟨o6, ga, gb, D', ks, C', x, y, rfl, rfl, rfl, rfl, ?_, ?_, ?_, ?_, ?_, HCJ.out, HSL2.out⟩
          · rw [hwq]; exact Dp.out.drewN nq
          · rw [hwq]; exact Rp.out.drewN nq
          · rw [hwq]; exact Ap.out.drewN nq
          · rw [hwq]; exact Bp.out.drewN nq
          · rw [hwq]; exact Sp.out.drewN nq
        clear hwq Dp Rp Ap Bp Sp
        generalize decide (0 < CS.slot C') = bb
        generalize CS.value C' = vv
        cases bb
        · go_wp2_with fail
          go_roundw
          case rel => exact ⟨k + 1, by omega, by go_num, hend.out⟩
          case measure => simp [intOf]; omega
        · go_wp2_with fail
          go_roundw
          case rel => exact ⟨k + 1, by omega, by go_num, hend.out⟩
          case measure => simp [intOf]; omega
      · have k0' : (a.kind == 0) = false := by simpa using k0
        by_cases k1 : a.kind = 1
        · have k1' : (a.kind == 1) = true := by simpa using k1
          clear k0 k1
          go_wp2_with fail
          have hf := (Fr.refl (fun _ => False) w0).alloc (Obj.cells #[.int .i64 a.kind, .string a.s, .int .i64 a.n, .slice a.kA a.k.length a.kc] 42)
          have BX := Blk.new w0 42 #[.int .i64 a.kind, .string a.s, .int .i64 a.n, .slice a.kA a.k.length a.kc]
          have ow0 : own w0.heap.size = 0 := HS.out.hi _ (Nat.le_refl _)
          have DB := Lib.hid (HD.out.fr0 hf)
          have RB := Lib.hid (HR.out.fr0 hf)
          have AB := Lib.hid (HA.out.fr0 hf)
          have BB := Lib.hid (HB.out.fr0 hf)
          have SB := Lib.hid (HS.out.frF hf)
          clear hf HD HR HA HB HS q1 q2 q3 q4
          generalize w0.alloc (Obj.cells #[.int .i64 a.kind, .string a.s, .int .i64 a.n, .slice a.kA a.k.length a.kc] 42) = wb at *
          generalize w0.heap.size = g at *
          refine (o_lose DB.out SB.out (by decide) a.n hn).mono ?_
          rintro e w5 ⟨rfl, o5, d5, p5⟩
          have BX5 := (BX.keep p5.fr (by show ¬ own g = 1; rw [ow0]; decide)).cell 2
          have D5 := Lib.hid d5
          have S5 := Lib.hid p5.st
          have R5 := Lib.hid (RB.out.other p5 (by decide) (by decide) (by decide))
          have A5 := Lib.hid (AB.out.step p5 (by decide))
          have B5 := Lib.hid (BB.out.step p5 (by decide))
          clear d5 p5 DB RB AB BB SB BX
          go_wp2_with fail
          refine (r_lose R5.out S5.out (by decide) a.n hn).mono ?_
          rintro e w6 ⟨rfl, o6, r6, p6⟩
          have R6 := Lib.hid r6
          have S6 := Lib.hid p6.st
          have D6 := Lib.hid (D5.out.other p6 (by decide) (by decide) (by decide))
          have A6 := Lib.hid (A5.out.step p6 (by decide))
          have B6 := Lib.hid (B5.out.step p6 (by decide))
          have HCJ := Lib.hid (HCI.out.lose a.n hn)
          clear r6 p6 D5 R5 A5 B5 S5 BX5 HCI
          go_wp2_with fail
          refine (o_get A6.out).mono ?_
          rintro e wp ⟨rfl, np, hwp⟩
          have Dp : Hid (DO wp o6 1 gd (loseD D a.n) ks) := by show DO _ _ _ _ _ _; rw [hwp]; exact D6.out.drewN np
          have Rp : Hid (RO wp o6 2 gr (loseD D a.n) ks) := by show RO _ _ _ _ _ _; rw [hwp]; exact R6.out.drewN np
          have Ap : Hid (CO 70 wp o6 3 ga gd C) := by show CO _ _ _ _ _ _ _; rw [hwp]; exact A6.out.drewN np
          have Bp : Hid (CO 74 wp o6 4 gb gr C) := by show CO _ _ _ _ _ _ _; rw [hwp]; exact B6.out.drewN np
          have Sp : Hid (St W wp o6) := by show St _ _ _; rw [hwp]; exact S6.out.drewN np
          clear hwp D6 R6 A6 B6 S6
          go_wp2_with fail
          refine (rget_c _ _ _ _ _ _ Bp.out HSL.out).mono ?_
          rintro e wq ⟨rfl, nq, hwq⟩
          have hend : Hid (SyT W gd gr (.pointer (some ⟨ga, 0, none⟩)) (.int .i64 x) (.pointer (some ⟨gb, 0, none⟩)) (.int .i64 y) wq) := by
            refine ⟨o6, ga, gb, (loseD D a.n), ks, C, x, y, rfl, rfl, rfl, rfl, ?_, ?_, ?_, ?_, ?_, HCJ.out, HSL.out⟩
            · rw [hwq]; exact Dp.out.drewN nq
            · rw [hwq]; exact Rp.out.drewN nq
            · rw [hwq]; exact Ap.out.drewN nq
            · rw [hwq]; exact Bp.out.drewN nq
            · rw [hwq]; exact Sp.out.drewN nq
          clear hwq Dp Rp Ap Bp Sp
          generalize decide (0 < CS.slot C) = bb
          generalize CS.value C = vv
          cases bb
          · go_wp2_with fail
            go_roundw
            case rel => exact ⟨k + 1, by omega, by go_num, hend.out⟩
            case measure => simp [intOf]; omega
          · go_wp2_with fail
            go_roundw
            case rel => exact ⟨k + 1, by omega, by go_num, hend.out⟩
            case measure => simp [intOf]; omega
        · have k1' : (a.kind == 1) = false := by simpa using k1
          by_cases k2 : a.kind = 2
          · have k2' : (a.kind == 2) = true := by simpa using k2
            clear k0 k1 k2
            go_wp2_with fail
            have hf := (Fr.refl (fun _ => False) w0).alloc (Obj.cells #[.int .i64 a.kind, .string a.s, .int .i64 a.n, .slice a.kA a.k.length a.kc] 42)
            have BX := Blk.new w0 42 #[.int .i64 a.kind, .string a.s, .int .i64 a.n, .slice a.kA a.k.length a.kc]
            have ow0 : own w0.heap.size = 0 := HS.out.hi _ (Nat.le_refl _)
            have DB := Lib.hid (HD.out.fr0 hf)
            have RB := Lib.hid (HR.out.fr0 hf)
            have AB := Lib.hid (HA.out.fr0 hf)
            have BB := Lib.hid (HB.out.fr0 hf)
            have SB := Lib.hid (HS.out.frF hf)
            clear hf HD HR HA HB HS q1 q2 q3 q4
            generalize w0.alloc (Obj.cells #[.int .i64 a.kind, .string a.s, .int .i64 a.n, .slice a.kA a.k.length a.kc] 42) = wb at *
            generalize w0.heap.size = g at *
            refine (o_arm DB.out SB.out (by decide) a.n hn _ _ (HKB.out.at SB.out) (by omega)).mono ?_
            rintro e w5 ⟨rfl, o5, d5, p5⟩
            have BX5 := (BX.keep p5.fr (by show ¬ own g = 1; rw [ow0]; decide)).cell 2
            have BX5b := (BX.keep p5.fr (by show ¬ own g = 1; rw [ow0]; decide)).cell 3
            have D5 := Lib.hid d5
            have S5 := Lib.hid p5.st
            have R5 := Lib.hid (RB.out.other p5 (by decide) (by decide) (by decide))
            have A5 := Lib.hid (AB.out.step p5 (by decide))
            have B5 := Lib.hid (BB.out.step p5 (by decide))
            clear d5 p5 DB RB AB BB SB BX
            go_wp2_with fail
            refine (r_arm R5.out S5.out (by decide) a.n hn _ _ (HKB.out.at S5.out) (by omega)).mono ?_
            rintro e w6 ⟨rfl, o6, r6, p6⟩
            have R6 := Lib.hid r6
            have S6 := Lib.hid p6.st
            have D6 := Lib.hid (D5.out.other p6 (by decide) (by decide) (by decide))
            have A6 := Lib.hid (A5.out.step p6 (by decide))
            have B6 := Lib.hid (B5.out.step p6 (by decide))
            have HCJ := Lib.hid (HCI.out.arm a.n hn)
            clear r6 p6 D5 R5 A5 B5 S5 BX5 BX5b HCI
            go_wp2_with fail
            refine (o_get A6.out).mono ?_
            rintro e wp ⟨rfl, np, hwp⟩
            have Dp : Hid (DO wp o6 1 gd (armD D a.n) a.k) := by show DO _ _ _ _ _ _; rw [hwp]; exact D6.out.drewN np
            have Rp : Hid (RO wp o6 2 gr (armD D a.n) a.k) := by show RO _ _ _ _ _ _; rw [hwp]; exact R6.out.drewN np
            have Ap : Hid (CO 70 wp o6 3 ga gd C) := by show CO _ _ _ _ _ _ _; rw [hwp]; exact A6.out.drewN np
            have Bp : Hid (CO 74 wp o6 4 gb gr C) := by show CO _ _ _ _ _ _ _; rw [hwp]; exact B6.out.drewN np
            have Sp : Hid (St W wp o6) := by show St _ _ _; rw [hwp]; exact S6.out.drewN np
            clear hwp D6 R6 A6 B6 S6
            go_wp2_with fail
            refine (rget_c _ _ _ _ _ _ Bp.out HSL.out).mono ?_
            rintro e wq ⟨rfl, nq, hwq⟩
            have hend : Hid (SyT W gd gr (.pointer (some ⟨ga, 0, none⟩)) (.int .i64 x) (.pointer (some ⟨gb, 0, none⟩)) (.int .i64 y) wq) := by
              refine ⟨o6, ga, gb, (armD D a.n), a.k, C, x, y, rfl, rfl, rfl, rfl, ?_, ?_, ?_, ?_, ?_, HCJ.out, HSL.out⟩
              · rw [hwq]; exact Dp.out.drewN nq
              · rw [hwq]; exact Rp.out.drewN nq
              · rw [hwq]; exact Ap.out.drewN nq
              · rw [hwq]; exact Bp.out.drewN nq
              · rw [hwq]; exact Sp.out.drewN nq
            clear hwq Dp Rp Ap Bp Sp
            generalize decide (0 < CS.slot C) = bb
            generalize CS.value C = vv
            cases bb
            · go_wp2_with fail
              go_roundw
              case rel => exact ⟨k + 1, by omega, by go_num, hend.out⟩
              case measure => simp [intOf]; omega
            · go_wp2_with fail
              go_roundw
              case rel => exact ⟨k + 1, by omega, by go_num, hend.out⟩
              case measure => simp [intOf]; omega
          · have k2' : (a.kind == 2) = false := by simpa using k2
            by_cases k3 : a.kind = 3
            · have k3' : (a.kind == 3) = true := by simpa using k3
              clear k0 k1 k2 k3
              obtain ⟨sl, v, hO, hci, -, -⟩ := HCI.out.again a.k
              generalize (⟨3, sl, v, false⟩ : CS) = C2 at hO hci
              have hslo := openF_slot' (startD (crashD D a.k)) 3
              rw [hO] at hslo
              have HO := Lib.hid hO
              have HCJ := Lib.hid hci
              have HSL2 : Hid (0 ≤ C2.slot) := hslo
              clear hO hci HCI hslo
              go_wp2_with fail
              have hf := (Fr.refl (fun _ => False) w0).alloc (Obj.cells #[.int .i64 a.kind, .string a.s, .int .i64 a.n, .slice a.kA a.k.length a.kc] 42)
              have BX := Blk.new w0 42 #[.int .i64 a.kind, .string a.s, .int .i64 a.n, .slice a.kA a.k.length a.kc]
              have ow0 : own w0.heap.size = 0 := HS.out.hi _ (Nat.le_refl _)
              have DB := Lib.hid (HD.out.fr0 hf)
              have RB := Lib.hid (HR.out.fr0 hf)
              have AB := Lib.hid (HA.out.fr0 hf)
              have BB := Lib.hid (HB.out.fr0 hf)
              have SB := Lib.hid (HS.out.frF hf)
              clear hf HD HR HA HB HS q1 q2 q3 q4
              generalize w0.alloc (Obj.cells #[.int .i64 a.kind, .string a.s, .int .i64 a.n, .slice a.kA a.k.length a.kc] 42) = wb at *
              generalize w0.heap.size = g at *
              refine (again_any DB.out SB.out (by decide) (by decide) (by decide : (3 : Nat) ≠ 1) HG.out (HKB.out.at SB.out) (by omega) HO.out).mono ?_
              rintro e w5 ⟨ga5, rfl, o5, c5, d5, p5⟩
              have BX5 := (BX.keep p5.fr (by show ¬ (own g = 1 ∨ own g = 3); rw [ow0]; decide)).cell 3
              have A5 := Lib.hid c5
              have D5 := Lib.hid d5
              have S5 := Lib.hid p5.st
              have R5 := Lib.hid (RB.out.steps p5 (by decide) (by decide) (by decide))
              clear c5 d5 p5 DB RB AB BB SB BX
              go_wp2_with fail
              refine (r_crash R5.out S5.out (by decide) _ _ (HKB.out.at S5.out) (by omega)).mono ?_
              rintro e w6 ⟨rfl, o6, r6, p6⟩
              have R6 := Lib.hid r6
              have S6 := Lib.hid p6.st
              have D6 := Lib.hid (D5.out.other p6 (by decide) (by decide) (by decide))
              have A6 := Lib.hid (A5.out.step p6 (by decide))
              clear r6 p6 D5 R5 A5 S5 BX5
              go_wp2_with fail
              refine (r_start R6.out S6.out (by decide)).mono ?_
              rintro e w7 ⟨rfl, o7, r7, p7⟩
              have R7 := Lib.hid r7
              have S7 := Lib.hid p7.st
              have D7 := Lib.hid (D6.out.other p7 (by decide) (by decide) (by decide))
              have A7 := Lib.hid (A6.out.step p7 (by decide))
              clear r7 p7 D6 R6 A6 S6
              go_wp2_with fail
              refine (ropen_any W _ _ 2 4 gr _ ks 3 R7.out S7.out (by decide)).mono ?_
              intro e w8 hp
              rw [HO.out] at hp
              obtain ⟨gb8, o8, rfl, c8, p8⟩ := hp.1 rfl
              have B8 := Lib.hid c8
              have S8 := Lib.hid p8.st
              have R8 := Lib.hid (R7.out.other p8 (by decide) (by decide) (by decide))
              have D8 := Lib.hid (D7.out.other p8 (by decide) (by decide) (by decide))
              have A8 := Lib.hid (A7.out.step p8 (by decide))
              clear hp c8 p8 D7 R7 A7 S7 HO
              go_wp2_with fail
              refine (o_get A8.out).mono ?_
              rintro e wp ⟨rfl, np, hwp⟩
              have Dp : Hid (DO wp o8 1 gd (startD (crashD D a.k)) ks) := by show DO _ _ _ _ _ _; rw [hwp]; exact D8.out.drewN np
              have Rp : Hid (RO wp o8 2 gr (startD (crashD D a.k)) ks) := by show RO _ _ _ _ _ _; rw [hwp]; exact R8.out.drewN np
              have Ap : Hid (CO 70 wp o8 3 ga5 gd C2) := by show CO _ _ _ _ _ _ _; rw [hwp]; exact A8.out.drewN np
              have Bp : Hid (CO 74 wp o8 4 gb8 gr C2) := by show CO _ _ _ _ _ _ _; rw [hwp]; exact B8.out.drewN np
              have Sp : Hid (St W wp o8) := by show St _ _ _; rw [hwp]; exact S8.out.drewN np
              clear hwp D8 R8 A8 B8 S8
              go_wp2_with fail
              refine (rget_c _ _ _ _ _ _ Bp.out HSL2.out).mono ?_
              rintro e wq ⟨rfl, nq, hwq⟩
              have hend : Hid (SyT W gd gr (.pointer (some ⟨ga5, 0, none⟩)) (.int .i64 0) (.pointer (some ⟨gb8, 0, none⟩)) (.int .i64 0) wq) := by
                refine ⟨o8, ga5, gb8, (startD (crashD D a.k)), ks, C2, 0, 0, rfl, rfl, rfl, rfl, ?_, ?_, ?_, ?_, ?_, HCJ.out, HSL2.out⟩
                · rw [hwq]; exact Dp.out.drewN nq
                · rw [hwq]; exact Rp.out.drewN nq
                · rw [hwq]; exact Ap.out.drewN nq
                · rw [hwq]; exact Bp.out.drewN nq
                · rw [hwq]; exact Sp.out.drewN nq
              clear hwq Dp Rp Ap Bp Sp
              generalize decide (0 < CS.slot C2) = bb
              generalize CS.value C2 = vv
              cases bb
              · go_wp2_with fail
                go_roundw
                case rel => exact ⟨k + 1, by omega, by go_num, hend.out⟩
                case measure => simp [intOf]; omega
              · go_wp2_with fail
                go_roundw
                case rel => exact ⟨k + 1, by omega, by go_num, hend.out⟩
                case measure => simp [intOf]; omega
            · have k3' : (a.kind == 3) = false := by simpa using k3
              clear k0 k1 k2 k3
              have hf := (Fr.refl (fun _ => False) w0).alloc (Obj.cells #[.int .i64 a.kind, .string a.s, .int .i64 a.n, .slice a.kA a.k.length a.kc] 42)
              have Db := Lib.hid (HD.out.fr0 hf)
              have Rb := Lib.hid (HR.out.fr0 hf)
              have Ab := Lib.hid (HA.out.fr0 hf)
              have Bb := Lib.hid (HB.out.fr0 hf)
              have Sb := Lib.hid (HS.out.frF hf)
              obtain ⟨ob, hob⟩ : ∃ o, o = own := ⟨_, rfl⟩
              rw [← hob] at Db Rb Ab Bb Sb
              clear hf HD HR HA HB HS hob
              go_wp2_with fail
              refine (o_get Ab.out).mono ?_
              rintro e wp ⟨rfl, np, hwp⟩
              have Dp : Hid (DO wp ob 1 gd D ks) := by show DO _ _ _ _ _ _; rw [hwp]; exact Db.out.drewN np
              have Rp : Hid (RO wp ob 2 gr D ks) := by show RO _ _ _ _ _ _; rw [hwp]; exact Rb.out.drewN np
              have Ap : Hid (CO 70 wp ob 3 ga gd C) := by show CO _ _ _ _ _ _ _; rw [hwp]; exact Ab.out.drewN np
              have Bp : Hid (CO 74 wp ob 4 gb gr C) := by show CO _ _ _ _ _ _ _; rw [hwp]; exact Bb.out.drewN np
              have Sp : Hid (St W wp ob) := by show St _ _ _; rw [hwp]; exact Sb.out.drewN np
              clear hwp Db Rb Ab Bb Sb
              go_wp2_with fail
              refine (rget_c _ _ _ _ _ _ Bp.out HSL.out).mono ?_
              rintro e wq ⟨rfl, nq, hwq⟩
              have hend : Hid (SyT W gd gr (.pointer (some ⟨ga, 0, none⟩)) (.int .i64 x) (.pointer (some ⟨gb, 0, none⟩)) (.int .i64 y) wq) := by
                refine ⟨ob, ga, gb, D, ks, C, x, y, rfl, rfl, rfl, rfl, ?_, ?_, ?_, ?_, ?_, HCI.out, HSL.out⟩
                · rw [hwq]; exact Dp.out.drewN nq
                · rw [hwq]; exact Rp.out.drewN nq
                · rw [hwq]; exact Ap.out.drewN nq
                · rw [hwq]; exact Bp.out.drewN nq
                · rw [hwq]; exact Sp.out.drewN nq
              clear hwq Dp Rp Ap Bp Sp
              generalize decide (0 < CS.slot C) = bb
              generalize CS.value C = vv
              cases bb
              · go_wp2_with fail
                go_roundw
                case rel => exact ⟨k + 1, by omega, by go_num, hend.out⟩
                case measure => simp [intOf]; omega
              · go_wp2_with fail
                go_roundw
                case rel => exact ⟨k + 1, by omega, by go_num, hend.out⟩
                case measure => simp [intOf]; omega
    · have hz : ¬ (k : Int) < (ops.length : Int) := by omega
      have hn3 : (((startD (crashD D [])).fs 3).now.size : Int) ≤ 9223372036854775807 := by
        have := (HCI.out.crash [] C HCI.out.file).inv.now 3
        have e : ((startD (crashD D [])).fs 3).now.size = ((crashD D []).fs 3).now.size := rfl
        omega
      have HN3 := Lib.hid hn3
      clear HA HB HCI HSL hn3
      go_wp2_with fail
      refine (o_crash (ks' := []) HD.out HS.out (by decide) none 0 (KeepAt.nil _ _ _) (by decide)).mono ?_
      rintro e w5 ⟨rfl, o5, d5, p5⟩
      have D5 := Lib.hid d5
      have S5 := Lib.hid p5.st
      have R5 := Lib.hid (HR.out.other p5 (by decide) (by decide) (by decide))
      clear d5 p5 HD HR HS
      go_wp2_with fail
      refine (o_start D5.out S5.out (by decide)).mono ?_
      rintro e w6 ⟨rfl, o6, d6, p6⟩
      have D6 := Lib.hid d6
      have S6 := Lib.hid p6.st
      have R6 := Lib.hid (R5.out.other p6 (by decide) (by decide) (by decide))
      clear d6 p6 D5 R5 S5
      go_wp2_with fail
      refine (r_crash (ks' := []) R6.out S6.out (by decide) none 0 (KeepAt.nil _ _ _) (by decide)).mono ?_
      rintro e w7 ⟨rfl, o7, r7, p7⟩
      have R7 := Lib.hid r7
      have S7 := Lib.hid p7.st
      have D7 := Lib.hid (D6.out.other p7 (by decide) (by decide) (by decide))
      clear r7 p7 D6 R6 S6
      go_wp2_with fail
      refine (r_start R7.out S7.out (by decide)).mono ?_
      rintro e w8 ⟨rfl, o8, r8, p8⟩
      have R8 := Lib.hid r8
      have S8 := Lib.hid p8.st
      have D8 := Lib.hid (D7.out.other p8 (by decide) (by decide) (by decide))
      clear r8 p8 D7 R7 S7
      generalize startD (crashD D []) = DD at *
      go_wp2_with fail
      refine (o_size D8.out 3).mono ?_
      rintro e _ ⟨rfl, rfl⟩
      go_wp2_with fail
      refine (o_read D8.out 3 0 _).mono ?_
      rintro e _ ⟨rfl, rfl⟩
      go_wp2_with fail
      refine (r_read R8.out 3 0 _ HN3.out).mono ?_
      rintro e w9 ⟨rfl, hf9⟩
      have R9 := Lib.hid (R8.out.fr0 hf9)
      have S9 := Lib.hid (S8.out.frF hf9)
      clear hf9 R8 S8 D8
      go_wp2_with fail
      refine (r_size R9.out 3).mono ?_
      rintro e w10 ⟨rfl, hf10⟩
      have S10 := Lib.hid (S9.out.frF hf10)
      clear hf10 R9 S9 HN3
      go_wp2_with fail
      go_ret
      exact ⟨rfl, S10.out.fr⟩
end Go.Proofs.YtjgmbildgcighaaDoor
