import Derived.Test.YtjgmbildgcighaaDoorR6
namespace Go.Proofs.YtjgmbildgcighaaDoor
open Go.RowKit
/-! Crash. -/
def RcRel (w : World) (F : Nat → Prop) (g : Nat) (kv : Value) (d : DS) (ks : List Int) (k : Nat) (wr : World) : Prop :=
  RefAt wr (Grow F w wr) g kv (midD d (survK d.fs ks d.q k)) ∧ Fr F w wr
theorem survR_off {ks : List Int} {k : Nat} (h : survB ks k = false) (hl : 0 < ks.length) : ∃ x, ks[k % ks.length]? = some x ∧ (bits .and .i64 x 1 == 1) = false := by
  rcases survB_off h with h0 | ⟨x, hx, hb⟩
  · omega
  · refine ⟨x, hx, ?_⟩
    rw [beq_iff_eq] at hb
    rw [hb]; rfl
theorem survR_on {ks : List Int} {k : Nat} (h : survB ks k = true) : 0 < ks.length ∧ ∃ x, ks[k % ks.length]? = some x ∧ (bits .and .i64 x 1 == 1) = true := by
  obtain ⟨h0, x, hx, hb⟩ := survB_on h
  refine ⟨by omega, x, hx, ?_⟩
  rw [and1] at hb ⊢
  simp only [beq_eq_false_iff_ne, ne_eq] at hb
  simp only [beq_iff_eq]
  omega
theorem rsurv_none (q : List (Int × Int)) : ∀ (fs : Int → FileC) (i : Nat), survFs fs [] i q = fs := by
  induction q with
  | nil => intro fs i; rfl
  | cons p r ih =>
    intro fs i
    unfold survFs
    rw [ih]
    simp [survB]
theorem lastF_take {L : List (Int × FileC)} {k : Nat} {p : Int × FileC} (h : L[k]? = some p) : lastF (L.take (k + 1)) = lastF (L.take k) ++ [(p.1, ⟨p.2.last, p.2.last⟩)] := by
  obtain ⟨hl, rfl⟩ := List.getElem?_eq_some_iff.1 h
  unfold lastF
  rw [List.take_succ_eq_append_getElem hl, List.map_append]
  rfl
/-- The end of Crash. -/
theorem rcrash_end {w w1 w2 : World} {F : Nat → Prop} {g : Nat} {kv fv qv fv' : Value} {d : DS} {ks : List Int} {L : List (Int × FileC)} (hl : ∀ k, F k → k < w.heap.size) (hf : Fr F w w1) (h : RefX w1 (Grow F w w1) g kv (midD d (survK d.fs ks d.q d.q.length)) fv qv L) (ho : OutAt w1 fv' (lastF L) w2) (hI : DInv d) (hdn : d.down = false) :
    RPost w F g (.tuple #[]) kv (crashD d ks) (.returned (.tuple #[])) ((w2.setCell ⟨g, 0, none⟩ fv').setCell ⟨g, 1, none⟩ (.slice none 0 0)) := by
  have hc : crashD d ks = { fs := fun n => ⟨(survFs d.fs ks 0 d.q n).last, (survFs d.fs ks 0 d.q n).last⟩, q := [], lost := d.lost, down := true, armed := 0 } := by
    unfold crashD; rw [hdn]; rfl
  have hIc := hI.crash ks
  rw [hc] at hIc
  have hsk : survK d.fs ks d.q d.q.length = survFs d.fs ks 0 d.q := by unfold survK; rw [List.take_length]
  have hsh := h.inv
  obtain ⟨hX, hF⟩ := h.files_ (d' := { midD d (survK d.fs ks d.q d.q.length) with fs := fun n => ⟨(survFs d.fs ks 0 d.q n).last, (survFs d.fs ks 0 d.q n).last⟩ }) ho.1 ho.2
    ⟨hsh.nodup, hsh.sect, fun n => by show (survFs d.fs ks 0 d.q n).last.size ≤ _; rw [← hsk]; exact hsh.last n, fun n => by show (survFs d.fs ks 0 d.q n).last.size ≤ _; rw [← hsk]; exact hsh.last n, hsh.lost, hsh.armed⟩ rfl rfl rfl rfl
    (fun n => by
      rw [lookF_last, h.look n]
      show (⟨(survK d.fs ks d.q d.q.length n).last, (survK d.fs ks d.q d.q.length n).last⟩ : FileC) = _
      rw [hsk]) (by rw [lastF_keys]; exact h.keys) (lastF_range h.range)
  generalize hW : w2.setCell ⟨g, 0, none⟩ fv' = w3 at hX hF ⊢
  obtain ⟨hY, hF2⟩ := hX.queue_ (w1 := w3) (qv' := .slice none 0 0) (d' := crashD d ks) (by rw [hc]; exact Row.nil _ _ _ _) (Fr.refl _ _) (by rw [hc]; exact hIc) (by rw [hc]) (by rw [hc]; rfl) (by rw [hc]; rfl) (by rw [hc]; rfl)
  have s1 := hf.size
  have s2 := hF.size
  have s3 : w3.heap.size = w2.heap.size := by rw [← hW]; simp [World.setCell]
  have s4 := ho.2.size
  have s5 : (w3.setCell ⟨g, 1, none⟩ (.slice none 0 0)).heap.size = w3.heap.size := by simp [World.setCell]
  have hFF : Fr F w (w3.setCell ⟨g, 1, none⟩ (.slice none 0 0)) := (hf.trans' hF fun k hk h => by
    rcases h with h | h
    · exact h
    · omega).trans' hF2 fun k hk h => by
    rcases h with (h | h) | h
    · exact h
    · omega
    · omega
  refine ⟨rfl, RefAt.more ⟨_, _, _, hY⟩ (fun k hk => ?_) (grow_lt hl hFF.size), hFF⟩
  rcases hk with ((h | h) | h) | h
  · exact .inl h
  · exact .inr (by omega)
  · exact .inr (by omega)
  · exact .inr (by omega)
theorem keepF {w : World} {g b k : Nat} {n : Int} {s : ByteArray} {v1 v2 v3 v4 v5 v6 : Value} (hb : Blk w g 65 #[v1, v2, v3, v4, v5, v6]) (hbb : b < w.heap.size) (y0 : w.cell? ⟨b, k, none⟩ = some (.int .i64 n)) (y2 : w.cell? ⟨b, k + 2, none⟩ = some (.string s)) (o : Obj) :
    (w.alloc o).drew.cell? ⟨g, 0, none⟩ = some v1 ∧ (w.alloc o).drew.cell? ⟨b, k, none⟩ = some (.int .i64 n) ∧ (w.alloc o).drew.cell? ⟨b, k + 2, none⟩ = some (.string s) :=
  ⟨(Blk.drew (hb.alloc o)).cell 0, (World.cell?_alloc_lt w o ⟨b, k, none⟩ hbb).trans y0, (World.cell?_alloc_lt w o ⟨b, k + 2, none⟩ hbb).trans y2⟩
theorem keepF2 {w w4 : World} {g b k : Nat} {L : List (Int × FileC)} {p : Int × FileC} {v : Value} (hL : FAt w (some ⟨b, 0, none⟩) L) (hp : L[k]? = some p) (hf : Fr (fun _ => False) w w4) (hg : w4.cell? ⟨g, 0, none⟩ = some v) :
    w4.cell? ⟨g, 0, none⟩ = some v ∧ w4.cell? ⟨b, k * 3, none⟩ = some (.int .i64 p.1) ∧ w4.cell? ⟨b, k * 3 + 2, none⟩ = some (.string p.2.last) := by
  obtain ⟨b', hb', -, h0, -, h2⟩ := hL.fr hf k p hp
  obtain rfl : b = b' := by simpa using hb'
  exact ⟨hg, h0, h2⟩
set_option maxRecDepth 100000 in
set_option maxHeartbeats 6400000 in
theorem rcrash_up (g : Nat) (d : DS) (kv : Value) (A : Option Addr) (c : Nat) (ks : List Int) (w : World) (F : Nat → Prop) (h : RefAt w F g kv d) (hk : KeepAt w F A ks) (hb : ks.length ≤ 1000000) (hdn : d.down = false) :
    Calls Tryd.prog 28 #[.pointer (some ⟨g, 0, none⟩), .slice A ks.length c] w (RPost w F g (.tuple #[]) kv (crashD d ks)) := by
  have HAt := Lib.hid h
  have HK := Lib.hid hk
  obtain ⟨fv0, qv0, L0, h⟩ := h
  have c3 : w.cell? ⟨g, 3, none⟩ = some (.bool false) := by rw [← hdn]; exact h.blk.cell 3
  have c4 : w.cell? ⟨g, 4, none⟩ = some (.int .i64 d.armed) := h.blk.cell 4
  have f3 : w.frozen? ⟨g, 3, none⟩ = false := h.blk.frozen 3
  have f4 : w.frozen? ⟨g, 4, none⟩ = false := h.blk.frozen 4
  have hlen := h.inv.len
  have HI := Lib.hid h.inv
  have HDN := Lib.hid hdn
  have hlt0 := h.blk.lt
  have hst : Hid (RcRel w F g kv d ks 0 ((w.setCell ⟨g, 3, none⟩ (.bool true)).setCell ⟨g, 4, none⟩ (.int .i64 0))) := by
    have hF : Fr F w ((w.setCell ⟨g, 3, none⟩ (.bool true)).setCell ⟨g, 4, none⟩ (.int .i64 0)) := ((Fr.refl F w).setCell (fun _ => h.own) _).setCell (fun _ => h.own) _
    refine ⟨?_, hF⟩
    have h1 := h.set_ (i := 3) (u := .bool true) (kv' := kv) (d' := { d with down := true }) ⟨h.inv.nodup, h.inv.sect, h.inv.now, h.inv.last, h.inv.lost, h.inv.armed⟩ rfl rfl rfl
    have h2 := h1.set_ (i := 4) (u := .int .i64 0) (kv' := kv) (d' := midD d d.fs) (HI.out.mid ks 0) rfl rfl rfl
    exact RefAt.more ⟨_, _, _, h2⟩ (fun _ h => .inl h) (grow_lt HAt.out.lt hF.size)
  clear h hk hdn
  go_enter Tryd.func28, Tryd.ntmps28
  go_wp2_with fail
  clear c3 c4 f3 f4 hlt0
  have hend1 : Hid (∀ k, k = d.q.length ∨ ks.length = 0 → survK d.fs ks d.q k = survK d.fs ks d.q d.q.length) := by
    rintro k (rfl | h0)
    · rfl
    · obtain rfl := List.eq_nil_of_length_eq_zero h0
      unfold survK
      rw [rsurv_none, rsurv_none]
  go_loopw [4] (fun i wr => ∃ k : Nat, k ≤ d.q.length ∧ i = .int .i64 k ∧ RcRel w F g kv d ks k wr) (fun i _ => d.q.length - (intOf i).toNat)
  case atStart => exact ⟨0, Nat.zero_le _, rfl, hst.out⟩
  case round =>
    obtain ⟨k, hkl, rfl, hr⟩ := hrel
    have HR := Lib.hid hr
    obtain ⟨⟨fv, qv, L, hx⟩, hfr⟩ := hr
    have HX := Lib.hid hx
    have HFR := Lib.hid hfr
    have hlg := hx.blk.lt
    obtain ⟨A0, c0, rfl, -, -⟩ := hx.queue.form
    have c1 : wr.cell? ⟨g, 1, none⟩ = some (.slice A0 d.q.length c0) := hx.blk.cell 1
    have hQ := hx.queue.rqat
    have HKr := Lib.hid (HK.out.fr hfr (fun _ _ h => h) (fun j hj hh => hh.elim id fun h => by omega : ∀ j, j < w.heap.size → Grow F w wr j → F j))
    clear hst hx hfr
    by_cases hgo : k < d.q.length ∧ 0 < ks.length
    · obtain ⟨hlt, hpos⟩ := hgo
      obtain ⟨p, hp⟩ : ∃ p, d.q[k]? = some p := ⟨_, List.getElem?_eq_getElem hlt⟩
      obtain ⟨b, rfl, hb2, y1, y2⟩ := hQ k p hp
      have hsec := HI.out.sect p (List.mem_of_getElem? hp)
      obtain ⟨hs1, hs2, hs3, hs4⟩ := hsec
      obtain ⟨p1, p2⟩ := p
      obtain ⟨m, rfl⟩ : ∃ m : Nat, p2 = m := ⟨p2.toNat, by dsimp only at hs3; omega⟩
      dsimp only at hs1 hs2 hs4 y1 y2
      have HSU := Lib.hid (survK_succ (fs := d.fs) (ks := ks) hp)
      have hz : (k : Int) < (d.q.length : Int) := by omega
      have hpos' : (0 : Int) < (ks.length : Int) := by omega
      have hne : ((ks.length : Int) == 0) = false := by simp only [beq_eq_false_iff_ne, ne_eq]; omega
      clear hQ hp
      cases hsv : survB ks k
      · obtain ⟨x, hx, hbit⟩ := survR_off hsv hpos
        obtain ⟨kb, ko, rfl, hkb, -, hkc⟩ := HKr.out _ x hx
        have hxl := (List.getElem?_eq_some_iff.1 hx).1
        have hend : Hid (RcRel w F g kv d ks (k + 1) wr) := by
          show RcRel _ _ _ _ _ _ _ _
          unfold RcRel
          rw [HSU.out, hsv]
          exact HR.out
        clear hsv hx
        go_wp2_with fail
        go_roundw
        case rel => exact ⟨k + 1, by omega, by go_num, hend.out⟩
        case measure => simp [intOf]; omega
      · obtain ⟨-, x, hx, hbit⟩ := survR_on hsv
        obtain ⟨kb, ko, rfl, hkb, -, hkc⟩ := HKr.out _ x hx
        have hxl := (List.getElem?_eq_some_iff.1 hx).1
        have hsur : Hid (Calls Tryd.prog 46 #[.pointer (some ⟨g, 0, none⟩), .agg #[.int .i64 p1, .int .i64 m]] wr fun e w' => e = .returned (.tuple #[]) ∧ RcRel w F g kv d ks (k + 1) w') := by
          refine (rsurvive_any g _ kv p1 m wr _ HR.out.1 hs1 hs2 (by omega)).mono ?_
          rintro e w' ⟨rfl, hd, hf⟩
          have s1 := HFR.out.size
          have s2 := hf.size
          have hF : Fr F w w' := HFR.out.trans' hf fun j hj h => by
            rcases h with h | h
            · exact h
            · omega
          refine ⟨rfl, ?_, hF⟩
          rw [HSU.out, hsv, if_pos rfl]
          refine RefAt.more hd (fun j hj => ?_) (grow_lt HAt.out.lt hF.size)
          rcases hj with (h | h) | h
          · exact .inl h
          · exact .inr (by omega)
          · exact .inr (by omega)
        clear hsv hx
        go_wp2_with fail
        refine hsur.out.mono ?_
        rintro e w5 ⟨rfl, hR5⟩
        have hend := Lib.hid hR5
        clear hR5 hsur c1 y1 y2 hkc
        go_wp2_with fail
        go_roundw
        case rel => exact ⟨k + 1, by omega, by go_num, hend.out⟩
        case measure => simp [intOf]; omega
    · have hke : survK d.fs ks d.q k = survK d.fs ks d.q d.q.length := hend1.out k (by omega)
      have HX2 : Hid (RefX wr (Grow F w wr) g kv (midD d (survK d.fs ks d.q d.q.length)) fv (.slice A0 d.q.length c0) L) := by
        show RefX _ _ _ _ _ _ _ _
        rw [← hke]; exact HX.out
      have hL16 := HX.out.len
      obtain ⟨A1, c1', rfl, -, hcm1⟩ := HX.out.files.form
      have e0 : wr.cell? ⟨g, 0, none⟩ = some (.slice A1 L.length c1') := HX.out.blk.cell 0
      have hfin : Hid (∀ fv' w2, OutAt wr fv' (lastF L) w2 → RPost w F g (.tuple #[]) kv (crashD d ks) (.returned (.tuple #[])) ((w2.setCell ⟨g, 0, none⟩ fv').setCell ⟨g, 1, none⟩ (.slice none 0 0))) :=
        fun fv' w2 ho => rcrash_end HAt.out.lt HFR.out HX2.out ho HI.out HDN.out
      have hFL := Lib.hid HX.out.files.fat
      have hB := Lib.hid HX.out.blk
      clear hke HX HX2 HR HKr hQ
      unfold maxLen at hcm1
      by_cases hlt : k < d.q.length
      · have hz : (k : Int) < (d.q.length : Int) := by omega
        have hpos' : ¬ (0 : Int) < (ks.length : Int) := by omega
        go_wp2_with fail
        clear c1
        obtain ⟨w1, rfl⟩ : ∃ w', w' = wr := ⟨_, rfl⟩
        go_loopw [5, 6] (fun v i wr => ∃ k2 : Nat, k2 ≤ L.length ∧ i = .int .i64 k2 ∧ OutAt w1 v (lastF (L.take k2)) wr) (fun v i _ => L.length - (intOf i).toNat)
        case atStart => exact ⟨0, Nat.zero_le _, rfl, Row.nil _ _ _ _, Fr.refl _ _⟩
        case round =>
          obtain ⟨k2, hk2, rfl, ho⟩ := hrel
          have hb2 := hB.out.keep ho.2 fun h => h
          have hLr := hFL.out.fr ho.2
          have e0 : wr.cell? ⟨g, 0, none⟩ = some (.slice A1 L.length c1') := hb2.cell 0
          have HO := Lib.hid ho
          have HB2 := Lib.hid hb2
          have hl2 := hb2.lt
          obtain ⟨A2, c2, rfl, -, hcm2⟩ := ho.1.form
          have hkl2 : (lastF (L.take k2)).length ≤ 16 := by unfold lastF; rw [List.length_map, List.length_take]; omega
          unfold maxLen at hcm2
          clear ho hb2
          by_cases hlt2 : k2 < L.length
          · obtain ⟨p, hp⟩ : ∃ p, L[k2]? = some p := ⟨_, List.getElem?_eq_getElem hlt2⟩
            obtain ⟨b, rfl, hbb, y0, y1, y2⟩ := hLr k2 p hp
            have hz2 : (k2 : Int) < (L.length : Int) := by omega
            have HLT := Lib.hid (lastF_take hp)
            have HP := Lib.hid hp
            clear hp hLr
            go_wp2_with fail
            refine wp_region_held_drew (S := fun w' => w'.cell? ⟨g, 0, none⟩ = some (.slice (some ⟨b, 0, none⟩) L.length c1') ∧ w'.cell? ⟨b, k2 * 3, none⟩ = some (.int .i64 p.1) ∧ w'.cell? ⟨b, k2 * 3 + 2, none⟩ = some (.string p.2.last)) (by kernel_rfl) ⟨e0, y0, y2⟩ (fun hHeld => ?_)
            refine wpAnyH_takeD (i := 0) (t := 58) (v := .slice A2 (lastF (L.take k2)).length c2) rfl rfl (by kernel_rfl) (by kernel_rfl) (by kernel_rfl) (fun _ _ _ h => h) (Or.inl ⟨by rfl, fun w' hSw => by obtain ⟨s1, s2, s3⟩ := hSw; go_simp⟩) (by assumption) ?_
            simp only [Act.put, List.setIfInBounds_toArray, List.set_cons_zero, List.set_cons_succ]
            refine wpAnyH_takeD (i := 1) (t := 59) (v := .pointer (some ⟨g, 0, none⟩)) rfl rfl (by kernel_rfl) (by kernel_rfl) (by kernel_rfl) (fun _ _ _ h => h) (Or.inl ⟨by rfl, fun w' hSw => by obtain ⟨s1, s2, s3⟩ := hSw; go_simp⟩) (by assumption) ?_
            simp only [Act.put, List.setIfInBounds_toArray, List.set_cons_zero, List.set_cons_succ]
            refine wpAnyH_takeD (i := 2) (t := 60) (v := .pointer (some ⟨g, 0, none⟩)) rfl rfl (by kernel_rfl) (by kernel_rfl) (by kernel_rfl) (fun _ _ _ h => h) (Or.inl ⟨by rfl, fun w' hSw => by obtain ⟨s1, s2, s3⟩ := hSw; go_simp⟩) (by assumption) ?_
            simp only [Act.put, List.setIfInBounds_toArray, List.set_cons_zero, List.set_cons_succ]
            refine wpAnyH_takeD (i := 3) (t := 61) (v := .pointer (some ⟨g, 0, none⟩)) rfl rfl (by kernel_rfl) (by kernel_rfl) (by kernel_rfl) (fun _ _ _ h => h) (Or.inl ⟨by rfl, fun w' hSw => by obtain ⟨s1, s2, s3⟩ := hSw; go_simp⟩) (by assumption) ?_
            simp only [Act.put, List.setIfInBounds_toArray, List.set_cons_zero, List.set_cons_succ]
            refine wpAnyH_takeD (i := 4) (t := 62) (v := .slice (some ⟨b, 0, none⟩) L.length c1') rfl rfl (by kernel_rfl) (by kernel_rfl) (by kernel_rfl) (fun _ _ _ h => h) (Or.inl ⟨by rfl, fun w' hSw => by obtain ⟨s1, s2, s3⟩ := hSw; go_simp⟩) (by assumption) ?_
            simp only [Act.put, List.setIfInBounds_toArray, List.set_cons_zero, List.set_cons_succ]
            refine wpAnyH_takeD (i := 5) (t := 63) (v := .int .i64 (k2 : Int)) rfl rfl (by kernel_rfl) (by kernel_rfl) (by kernel_rfl) (fun _ _ _ h => h) (Or.inl ⟨by rfl, fun w' hSw => by obtain ⟨s1, s2, s3⟩ := hSw; go_simp⟩) (by assumption) ?_
            simp only [Act.put, List.setIfInBounds_toArray, List.set_cons_zero, List.set_cons_succ]
            refine wpAnyH_takeD (i := 6) (t := 64) (v := .pointer (some ⟨b, k2 * 3, none⟩)) rfl rfl (by kernel_rfl) (by kernel_rfl) (by kernel_rfl) (fun _ _ _ h => h) (Or.inl ⟨by rfl, fun w' hSw => by obtain ⟨s1, s2, s3⟩ := hSw; go_simp⟩) (by assumption) ?_
            simp only [Act.put, List.setIfInBounds_toArray, List.set_cons_zero, List.set_cons_succ]
            refine wpAnyH_takeD (i := 7) (t := 65) (v := .pointer (some ⟨b, k2 * 3, none⟩)) rfl rfl (by kernel_rfl) (by kernel_rfl) (by kernel_rfl) (fun _ _ _ h => h) (Or.inl ⟨by rfl, fun w' hSw => by obtain ⟨s1, s2, s3⟩ := hSw; go_simp⟩) (by assumption) ?_
            simp only [Act.put, List.setIfInBounds_toArray, List.set_cons_zero, List.set_cons_succ]
            refine wpAnyH_takeD (i := 8) (t := 66) (v := .int .i64 p.1) rfl rfl (by kernel_rfl) (by kernel_rfl) (by kernel_rfl) (fun _ _ _ h => h) (Or.inl ⟨by rfl, fun w' hSw => by obtain ⟨s1, s2, s3⟩ := hSw; go_simp⟩) (by assumption) ?_
            simp only [Act.put, List.setIfInBounds_toArray, List.set_cons_zero, List.set_cons_succ]
            refine wpAnyH_takeD (i := 9) (t := 67) (v := .pointer (some ⟨g, 0, none⟩)) rfl rfl (by kernel_rfl) (by kernel_rfl) (by kernel_rfl) (fun _ _ _ h => h) (Or.inl ⟨by rfl, fun w' hSw => by obtain ⟨s1, s2, s3⟩ := hSw; go_simp⟩) (by assumption) ?_
            simp only [Act.put, List.setIfInBounds_toArray, List.set_cons_zero, List.set_cons_succ]
            refine wpAnyH_takeD (i := 10) (t := 68) (v := .pointer (some ⟨g, 0, none⟩)) rfl rfl (by kernel_rfl) (by kernel_rfl) (by kernel_rfl) (fun _ _ _ h => h) (Or.inl ⟨by rfl, fun w' hSw => by obtain ⟨s1, s2, s3⟩ := hSw; go_simp⟩) (by assumption) ?_
            simp only [Act.put, List.setIfInBounds_toArray, List.set_cons_zero, List.set_cons_succ]
            refine wpAnyH_takeD (i := 11) (t := 69) (v := .pointer (some ⟨g, 0, none⟩)) rfl rfl (by kernel_rfl) (by kernel_rfl) (by kernel_rfl) (fun _ _ _ h => h) (Or.inl ⟨by rfl, fun w' hSw => by obtain ⟨s1, s2, s3⟩ := hSw; go_simp⟩) (by assumption) ?_
            simp only [Act.put, List.setIfInBounds_toArray, List.set_cons_zero, List.set_cons_succ]
            refine wpAnyH_takeD (i := 12) (t := 70) (v := .slice (some ⟨b, 0, none⟩) L.length c1') rfl rfl (by kernel_rfl) (by kernel_rfl) (by kernel_rfl) (fun _ _ _ h => h) (Or.inl ⟨by rfl, fun w' hSw => by obtain ⟨s1, s2, s3⟩ := hSw; go_simp⟩) (by assumption) ?_
            simp only [Act.put, List.setIfInBounds_toArray, List.set_cons_zero, List.set_cons_succ]
            refine wpAnyH_takeD (i := 13) (t := 71) (v := .int .i64 (k2 : Int)) rfl rfl (by kernel_rfl) (by kernel_rfl) (by kernel_rfl) (fun _ _ _ h => h) (Or.inl ⟨by rfl, fun w' hSw => by obtain ⟨s1, s2, s3⟩ := hSw; go_simp⟩) (by assumption) ?_
            simp only [Act.put, List.setIfInBounds_toArray, List.set_cons_zero, List.set_cons_succ]
            refine wpAnyH_takeD (i := 14) (t := 72) (v := .pointer (some ⟨b, k2 * 3, none⟩)) rfl rfl (by kernel_rfl) (by kernel_rfl) (by kernel_rfl) (fun _ _ _ h => h) (Or.inl ⟨by rfl, fun w' hSw => by obtain ⟨s1, s2, s3⟩ := hSw; go_simp⟩) (by assumption) ?_
            simp only [Act.put, List.setIfInBounds_toArray, List.set_cons_zero, List.set_cons_succ]
            refine wpAnyH_takeD (i := 15) (t := 73) (v := .pointer (some ⟨b, k2 * 3 + 2, none⟩)) rfl rfl (by kernel_rfl) (by kernel_rfl) (by kernel_rfl) (fun _ _ _ h => h) (Or.inl ⟨by rfl, fun w' hSw => by obtain ⟨s1, s2, s3⟩ := hSw; go_simp⟩) (by assumption) ?_
            simp only [Act.put, List.setIfInBounds_toArray, List.set_cons_zero, List.set_cons_succ]
            refine wpAnyH_takeD (i := 16) (t := 74) (v := .string p.2.last) rfl rfl (by kernel_rfl) (by kernel_rfl) (by kernel_rfl) (fun _ _ _ h => h) (Or.inl ⟨by rfl, fun w' hSw => by obtain ⟨s1, s2, s3⟩ := hSw; go_simp⟩) (by assumption) ?_
            simp only [Act.put, List.setIfInBounds_toArray, List.set_cons_zero, List.set_cons_succ]
            refine wpAnyH_takeD (i := 17) (t := 75) (v := .pointer (some ⟨g, 0, none⟩)) rfl rfl (by kernel_rfl) (by kernel_rfl) (by kernel_rfl) (fun _ _ _ h => h) (Or.inl ⟨by rfl, fun w' hSw => by obtain ⟨s1, s2, s3⟩ := hSw; go_simp⟩) (by assumption) ?_
            simp only [Act.put, List.setIfInBounds_toArray, List.set_cons_zero, List.set_cons_succ]
            refine wpAnyH_takeD (i := 18) (t := 76) (v := .pointer (some ⟨g, 0, none⟩)) rfl rfl (by kernel_rfl) (by kernel_rfl) (by kernel_rfl) (fun _ _ _ h => h) (Or.inl ⟨by rfl, fun w' hSw => by obtain ⟨s1, s2, s3⟩ := hSw; go_simp⟩) (by assumption) ?_
            simp only [Act.put, List.setIfInBounds_toArray, List.set_cons_zero, List.set_cons_succ]
            refine wpAnyH_takeD (i := 19) (t := 77) (v := .pointer (some ⟨g, 0, none⟩)) rfl rfl (by kernel_rfl) (by kernel_rfl) (by kernel_rfl) (fun _ _ _ h => h) (Or.inl ⟨by rfl, fun w' hSw => by obtain ⟨s1, s2, s3⟩ := hSw; go_simp⟩) (by assumption) ?_
            simp only [Act.put, List.setIfInBounds_toArray, List.set_cons_zero, List.set_cons_succ]
            refine wpAnyH_takeD (i := 20) (t := 78) (v := .slice (some ⟨b, 0, none⟩) L.length c1') rfl rfl (by kernel_rfl) (by kernel_rfl) (by kernel_rfl) (fun _ _ _ h => h) (Or.inl ⟨by rfl, fun w' hSw => by obtain ⟨s1, s2, s3⟩ := hSw; go_simp⟩) (by assumption) ?_
            simp only [Act.put, List.setIfInBounds_toArray, List.set_cons_zero, List.set_cons_succ]
            refine wpAnyH_takeD (i := 21) (t := 79) (v := .int .i64 (k2 : Int)) rfl rfl (by kernel_rfl) (by kernel_rfl) (by kernel_rfl) (fun _ _ _ h => h) (Or.inl ⟨by rfl, fun w' hSw => by obtain ⟨s1, s2, s3⟩ := hSw; go_simp⟩) (by assumption) ?_
            simp only [Act.put, List.setIfInBounds_toArray, List.set_cons_zero, List.set_cons_succ]
            refine wpAnyH_takeD (i := 22) (t := 80) (v := .pointer (some ⟨b, k2 * 3, none⟩)) rfl rfl (by kernel_rfl) (by kernel_rfl) (by kernel_rfl) (fun _ _ _ h => h) (Or.inl ⟨by rfl, fun w' hSw => by obtain ⟨s1, s2, s3⟩ := hSw; go_simp⟩) (by assumption) ?_
            simp only [Act.put, List.setIfInBounds_toArray, List.set_cons_zero, List.set_cons_succ]
            refine wpAnyH_takeD (i := 23) (t := 81) (v := .pointer (some ⟨b, k2 * 3 + 2, none⟩)) rfl rfl (by kernel_rfl) (by kernel_rfl) (by kernel_rfl) (fun _ _ _ h => h) (Or.inl ⟨by rfl, fun w' hSw => by obtain ⟨s1, s2, s3⟩ := hSw; go_simp⟩) (by assumption) ?_
            simp only [Act.put, List.setIfInBounds_toArray, List.set_cons_zero, List.set_cons_succ]
            refine wpAnyH_takeD (i := 24) (t := 82) (v := .string p.2.last) rfl rfl (by kernel_rfl) (by kernel_rfl) (by kernel_rfl) (fun _ _ _ h => h) (Or.inl ⟨by rfl, fun w' hSw => by obtain ⟨s1, s2, s3⟩ := hSw; go_simp⟩) (by assumption) ?_
            simp only [Act.put, List.setIfInBounds_toArray, List.set_cons_zero, List.set_cons_succ]
            refine wpAnyH_takeD (i := 25) (t := 83) (v := .agg #[.int .i64 p.1, .string p.2.last, .string p.2.last]) rfl rfl (by kernel_rfl) (by kernel_rfl) (by kernel_rfl) (fun _ _ _ h => h) (Or.inl ⟨by rfl, fun w' hSw => by obtain ⟨s1, s2, s3⟩ := hSw; go_simp⟩) (by assumption) ?_
            simp only [Act.put, List.setIfInBounds_toArray, List.set_cons_zero, List.set_cons_succ]
            refine wpAnyH_ready (rs := [26]) (by kernel_rfl) (by simp) ?_
            refine AllReadyH.cons rfl (fun K hK => ?_) AllReadyH.nil
            go_simp
            refine hK.out _ _ (keepF HB2.out hbb y0 y2 _) (fun hHeld2 => ?_)
            clear hK K
            refine wpAnyH_ready (rs := [27]) (by kernel_rfl) (by simp) ?_
            refine AllReadyH.cons rfl (fun K hK => ?_) AllReadyH.nil
            refine step_append_rowD _ rfl rfl (.tmp 58) (.tmp 84) 62 rfl 86 _ 3 40 rfile_elem (Grow (fun _ => False) w1 wr) (.slice A2 (lastF (L.take k2)).length c2) (lastF (L.take k2)).length (fcells (lastF (L.take k2))) rfl (Row.drew (HO.out.1.alloc _)) _ 1 1 (fcells [(p.1, ⟨p.2.last, p.2.last⟩)]) rfl (rd_newF _ p.1 ⟨p.2.last, p.2.last⟩) (fcells_ok _) (by omega) ?_
            intro v' w4 r4 f4
            have HNX : Hid (OutAt w1 v' (lastF (L.take (k2 + 1))) w4) := by
              show OutAt _ _ _ _
              rw [HLT.out]
              exact HO.out.next (((Fr.refl _ wr).alloc _).drew) r4 f4
            have hq4 : w4.cell? ⟨g, 0, none⟩ = some (.slice (some ⟨b, 0, none⟩) L.length c1') := (hB.out.keep HNX.out.2 fun h => h).cell 0
            obtain ⟨A4, c4, rfl, -, -⟩ := r4.form
            refine hK.out _ _ (keepF2 hFL.out HP.out HNX.out.2 hq4) (fun hHeld3 => ?_)
            clear hK K r4 f4 hHeld hHeld2
            simp only [Act.put, List.setIfInBounds_toArray, List.set_cons_zero, List.set_cons_succ]
            refine wpAnyH_takeD (i := 28) (t := 5) (v := .slice A4 ((lastF (L.take k2)).length + 1) c4) rfl rfl (by kernel_rfl) (by kernel_rfl) (by kernel_rfl) (fun _ _ _ h => h) (Or.inl ⟨by rfl, fun w' hSw => by obtain ⟨s1, s2, s3⟩ := hSw; go_simp⟩) (by assumption) ?_
            simp only [Act.put, List.setIfInBounds_toArray, List.set_cons_zero, List.set_cons_succ]
            refine wpAnyH_done (by kernel_rfl) ?_ _
            clear hHeld3 hq4 e0 y0 y1 y2
            go_wp2_with fail
            go_roundw
            case rel => exact ⟨k2 + 1, by omega, by go_num, HNX.out⟩
            case measure => simp [intOf]; omega
          · have hz2 : ¬ (k2 : Int) < (L.length : Int) := by omega
            rw [List.take_of_length_le (by omega : L.length ≤ k2)] at *
            have hend := Lib.hid (hfin.out _ _ HO.out)
            have f0 : wr.frozen? ⟨g, 0, none⟩ = false := HB2.out.frozen 0
            have g1 := (HB2.out.set_ 0 (.slice A2 (lastF L).length c2)).cell 1
            have g2 := (HB2.out.set_ 0 (.slice A2 (lastF L).length c2)).frozen 1
            simp only [List.setIfInBounds_toArray, List.getElem?_toArray, List.set_cons_zero, List.getElem?_cons_succ, List.getElem?_cons_zero] at g1
            clear hLr
            go_wp2_with fail
            go_end0
            exact hend.out
      · have hz : ¬ (k : Int) < (d.q.length : Int) := by omega
        go_wp2_with fail
        clear c1
        obtain ⟨w1, rfl⟩ : ∃ w', w' = wr := ⟨_, rfl⟩
        go_loopw [5, 6] (fun v i wr => ∃ k2 : Nat, k2 ≤ L.length ∧ i = .int .i64 k2 ∧ OutAt w1 v (lastF (L.take k2)) wr) (fun v i _ => L.length - (intOf i).toNat)
        case atStart => exact ⟨0, Nat.zero_le _, rfl, Row.nil _ _ _ _, Fr.refl _ _⟩
        case round =>
          obtain ⟨k2, hk2, rfl, ho⟩ := hrel
          have hb2 := hB.out.keep ho.2 fun h => h
          have hLr := hFL.out.fr ho.2
          have e0 : wr.cell? ⟨g, 0, none⟩ = some (.slice A1 L.length c1') := hb2.cell 0
          have HO := Lib.hid ho
          have HB2 := Lib.hid hb2
          have hl2 := hb2.lt
          obtain ⟨A2, c2, rfl, -, hcm2⟩ := ho.1.form
          have hkl2 : (lastF (L.take k2)).length ≤ 16 := by unfold lastF; rw [List.length_map, List.length_take]; omega
          unfold maxLen at hcm2
          clear ho hb2
          by_cases hlt2 : k2 < L.length
          · obtain ⟨p, hp⟩ : ∃ p, L[k2]? = some p := ⟨_, List.getElem?_eq_getElem hlt2⟩
            obtain ⟨b, rfl, hbb, y0, y1, y2⟩ := hLr k2 p hp
            have hz2 : (k2 : Int) < (L.length : Int) := by omega
            have HLT := Lib.hid (lastF_take hp)
            have HP := Lib.hid hp
            clear hp hLr
            go_wp2_with fail
            refine wp_region_held_drew (S := fun w' => w'.cell? ⟨g, 0, none⟩ = some (.slice (some ⟨b, 0, none⟩) L.length c1') ∧ w'.cell? ⟨b, k2 * 3, none⟩ = some (.int .i64 p.1) ∧ w'.cell? ⟨b, k2 * 3 + 2, none⟩ = some (.string p.2.last)) (by kernel_rfl) ⟨e0, y0, y2⟩ (fun hHeld => ?_)
            refine wpAnyH_takeD (i := 0) (t := 58) (v := .slice A2 (lastF (L.take k2)).length c2) rfl rfl (by kernel_rfl) (by kernel_rfl) (by kernel_rfl) (fun _ _ _ h => h) (Or.inl ⟨by rfl, fun w' hSw => by obtain ⟨s1, s2, s3⟩ := hSw; go_simp⟩) (by assumption) ?_
            simp only [Act.put, List.setIfInBounds_toArray, List.set_cons_zero, List.set_cons_succ]
            refine wpAnyH_takeD (i := 1) (t := 59) (v := .pointer (some ⟨g, 0, none⟩)) rfl rfl (by kernel_rfl) (by kernel_rfl) (by kernel_rfl) (fun _ _ _ h => h) (Or.inl ⟨by rfl, fun w' hSw => by obtain ⟨s1, s2, s3⟩ := hSw; go_simp⟩) (by assumption) ?_
            simp only [Act.put, List.setIfInBounds_toArray, List.set_cons_zero, List.set_cons_succ]
            refine wpAnyH_takeD (i := 2) (t := 60) (v := .pointer (some ⟨g, 0, none⟩)) rfl rfl (by kernel_rfl) (by kernel_rfl) (by kernel_rfl) (fun _ _ _ h => h) (Or.inl ⟨by rfl, fun w' hSw => by obtain ⟨s1, s2, s3⟩ := hSw; go_simp⟩) (by assumption) ?_
            simp only [Act.put, List.setIfInBounds_toArray, List.set_cons_zero, List.set_cons_succ]
            refine wpAnyH_takeD (i := 3) (t := 61) (v := .pointer (some ⟨g, 0, none⟩)) rfl rfl (by kernel_rfl) (by kernel_rfl) (by kernel_rfl) (fun _ _ _ h => h) (Or.inl ⟨by rfl, fun w' hSw => by obtain ⟨s1, s2, s3⟩ := hSw; go_simp⟩) (by assumption) ?_
            simp only [Act.put, List.setIfInBounds_toArray, List.set_cons_zero, List.set_cons_succ]
            refine wpAnyH_takeD (i := 4) (t := 62) (v := .slice (some ⟨b, 0, none⟩) L.length c1') rfl rfl (by kernel_rfl) (by kernel_rfl) (by kernel_rfl) (fun _ _ _ h => h) (Or.inl ⟨by rfl, fun w' hSw => by obtain ⟨s1, s2, s3⟩ := hSw; go_simp⟩) (by assumption) ?_
            simp only [Act.put, List.setIfInBounds_toArray, List.set_cons_zero, List.set_cons_succ]
            refine wpAnyH_takeD (i := 5) (t := 63) (v := .int .i64 (k2 : Int)) rfl rfl (by kernel_rfl) (by kernel_rfl) (by kernel_rfl) (fun _ _ _ h => h) (Or.inl ⟨by rfl, fun w' hSw => by obtain ⟨s1, s2, s3⟩ := hSw; go_simp⟩) (by assumption) ?_
            simp only [Act.put, List.setIfInBounds_toArray, List.set_cons_zero, List.set_cons_succ]
            refine wpAnyH_takeD (i := 6) (t := 64) (v := .pointer (some ⟨b, k2 * 3, none⟩)) rfl rfl (by kernel_rfl) (by kernel_rfl) (by kernel_rfl) (fun _ _ _ h => h) (Or.inl ⟨by rfl, fun w' hSw => by obtain ⟨s1, s2, s3⟩ := hSw; go_simp⟩) (by assumption) ?_
            simp only [Act.put, List.setIfInBounds_toArray, List.set_cons_zero, List.set_cons_succ]
            refine wpAnyH_takeD (i := 7) (t := 65) (v := .pointer (some ⟨b, k2 * 3, none⟩)) rfl rfl (by kernel_rfl) (by kernel_rfl) (by kernel_rfl) (fun _ _ _ h => h) (Or.inl ⟨by rfl, fun w' hSw => by obtain ⟨s1, s2, s3⟩ := hSw; go_simp⟩) (by assumption) ?_
            simp only [Act.put, List.setIfInBounds_toArray, List.set_cons_zero, List.set_cons_succ]
            refine wpAnyH_takeD (i := 8) (t := 66) (v := .int .i64 p.1) rfl rfl (by kernel_rfl) (by kernel_rfl) (by kernel_rfl) (fun _ _ _ h => h) (Or.inl ⟨by rfl, fun w' hSw => by obtain ⟨s1, s2, s3⟩ := hSw; go_simp⟩) (by assumption) ?_
            simp only [Act.put, List.setIfInBounds_toArray, List.set_cons_zero, List.set_cons_succ]
            refine wpAnyH_takeD (i := 9) (t := 67) (v := .pointer (some ⟨g, 0, none⟩)) rfl rfl (by kernel_rfl) (by kernel_rfl) (by kernel_rfl) (fun _ _ _ h => h) (Or.inl ⟨by rfl, fun w' hSw => by obtain ⟨s1, s2, s3⟩ := hSw; go_simp⟩) (by assumption) ?_
            simp only [Act.put, List.setIfInBounds_toArray, List.set_cons_zero, List.set_cons_succ]
            refine wpAnyH_takeD (i := 10) (t := 68) (v := .pointer (some ⟨g, 0, none⟩)) rfl rfl (by kernel_rfl) (by kernel_rfl) (by kernel_rfl) (fun _ _ _ h => h) (Or.inl ⟨by rfl, fun w' hSw => by obtain ⟨s1, s2, s3⟩ := hSw; go_simp⟩) (by assumption) ?_
            simp only [Act.put, List.setIfInBounds_toArray, List.set_cons_zero, List.set_cons_succ]
            refine wpAnyH_takeD (i := 11) (t := 69) (v := .pointer (some ⟨g, 0, none⟩)) rfl rfl (by kernel_rfl) (by kernel_rfl) (by kernel_rfl) (fun _ _ _ h => h) (Or.inl ⟨by rfl, fun w' hSw => by obtain ⟨s1, s2, s3⟩ := hSw; go_simp⟩) (by assumption) ?_
            simp only [Act.put, List.setIfInBounds_toArray, List.set_cons_zero, List.set_cons_succ]
            refine wpAnyH_takeD (i := 12) (t := 70) (v := .slice (some ⟨b, 0, none⟩) L.length c1') rfl rfl (by kernel_rfl) (by kernel_rfl) (by kernel_rfl) (fun _ _ _ h => h) (Or.inl ⟨by rfl, fun w' hSw => by obtain ⟨s1, s2, s3⟩ := hSw; go_simp⟩) (by assumption) ?_
            simp only [Act.put, List.setIfInBounds_toArray, List.set_cons_zero, List.set_cons_succ]
            refine wpAnyH_takeD (i := 13) (t := 71) (v := .int .i64 (k2 : Int)) rfl rfl (by kernel_rfl) (by kernel_rfl) (by kernel_rfl) (fun _ _ _ h => h) (Or.inl ⟨by rfl, fun w' hSw => by obtain ⟨s1, s2, s3⟩ := hSw; go_simp⟩) (by assumption) ?_
            simp only [Act.put, List.setIfInBounds_toArray, List.set_cons_zero, List.set_cons_succ]
            refine wpAnyH_takeD (i := 14) (t := 72) (v := .pointer (some ⟨b, k2 * 3, none⟩)) rfl rfl (by kernel_rfl) (by kernel_rfl) (by kernel_rfl) (fun _ _ _ h => h) (Or.inl ⟨by rfl, fun w' hSw => by obtain ⟨s1, s2, s3⟩ := hSw; go_simp⟩) (by assumption) ?_
            simp only [Act.put, List.setIfInBounds_toArray, List.set_cons_zero, List.set_cons_succ]
            refine wpAnyH_takeD (i := 15) (t := 73) (v := .pointer (some ⟨b, k2 * 3 + 2, none⟩)) rfl rfl (by kernel_rfl) (by kernel_rfl) (by kernel_rfl) (fun _ _ _ h => h) (Or.inl ⟨by rfl, fun w' hSw => by obtain ⟨s1, s2, s3⟩ := hSw; go_simp⟩) (by assumption) ?_
            simp only [Act.put, List.setIfInBounds_toArray, List.set_cons_zero, List.set_cons_succ]
            refine wpAnyH_takeD (i := 16) (t := 74) (v := .string p.2.last) rfl rfl (by kernel_rfl) (by kernel_rfl) (by kernel_rfl) (fun _ _ _ h => h) (Or.inl ⟨by rfl, fun w' hSw => by obtain ⟨s1, s2, s3⟩ := hSw; go_simp⟩) (by assumption) ?_
            simp only [Act.put, List.setIfInBounds_toArray, List.set_cons_zero, List.set_cons_succ]
            refine wpAnyH_takeD (i := 17) (t := 75) (v := .pointer (some ⟨g, 0, none⟩)) rfl rfl (by kernel_rfl) (by kernel_rfl) (by kernel_rfl) (fun _ _ _ h => h) (Or.inl ⟨by rfl, fun w' hSw => by obtain ⟨s1, s2, s3⟩ := hSw; go_simp⟩) (by assumption) ?_
            simp only [Act.put, List.setIfInBounds_toArray, List.set_cons_zero, List.set_cons_succ]
            refine wpAnyH_takeD (i := 18) (t := 76) (v := .pointer (some ⟨g, 0, none⟩)) rfl rfl (by kernel_rfl) (by kernel_rfl) (by kernel_rfl) (fun _ _ _ h => h) (Or.inl ⟨by rfl, fun w' hSw => by obtain ⟨s1, s2, s3⟩ := hSw; go_simp⟩) (by assumption) ?_
            simp only [Act.put, List.setIfInBounds_toArray, List.set_cons_zero, List.set_cons_succ]
            refine wpAnyH_takeD (i := 19) (t := 77) (v := .pointer (some ⟨g, 0, none⟩)) rfl rfl (by kernel_rfl) (by kernel_rfl) (by kernel_rfl) (fun _ _ _ h => h) (Or.inl ⟨by rfl, fun w' hSw => by obtain ⟨s1, s2, s3⟩ := hSw; go_simp⟩) (by assumption) ?_
            simp only [Act.put, List.setIfInBounds_toArray, List.set_cons_zero, List.set_cons_succ]
            refine wpAnyH_takeD (i := 20) (t := 78) (v := .slice (some ⟨b, 0, none⟩) L.length c1') rfl rfl (by kernel_rfl) (by kernel_rfl) (by kernel_rfl) (fun _ _ _ h => h) (Or.inl ⟨by rfl, fun w' hSw => by obtain ⟨s1, s2, s3⟩ := hSw; go_simp⟩) (by assumption) ?_
            simp only [Act.put, List.setIfInBounds_toArray, List.set_cons_zero, List.set_cons_succ]
            refine wpAnyH_takeD (i := 21) (t := 79) (v := .int .i64 (k2 : Int)) rfl rfl (by kernel_rfl) (by kernel_rfl) (by kernel_rfl) (fun _ _ _ h => h) (Or.inl ⟨by rfl, fun w' hSw => by obtain ⟨s1, s2, s3⟩ := hSw; go_simp⟩) (by assumption) ?_
            simp only [Act.put, List.setIfInBounds_toArray, List.set_cons_zero, List.set_cons_succ]
            refine wpAnyH_takeD (i := 22) (t := 80) (v := .pointer (some ⟨b, k2 * 3, none⟩)) rfl rfl (by kernel_rfl) (by kernel_rfl) (by kernel_rfl) (fun _ _ _ h => h) (Or.inl ⟨by rfl, fun w' hSw => by obtain ⟨s1, s2, s3⟩ := hSw; go_simp⟩) (by assumption) ?_
            simp only [Act.put, List.setIfInBounds_toArray, List.set_cons_zero, List.set_cons_succ]
            refine wpAnyH_takeD (i := 23) (t := 81) (v := .pointer (some ⟨b, k2 * 3 + 2, none⟩)) rfl rfl (by kernel_rfl) (by kernel_rfl) (by kernel_rfl) (fun _ _ _ h => h) (Or.inl ⟨by rfl, fun w' hSw => by obtain ⟨s1, s2, s3⟩ := hSw; go_simp⟩) (by assumption) ?_
            simp only [Act.put, List.setIfInBounds_toArray, List.set_cons_zero, List.set_cons_succ]
            refine wpAnyH_takeD (i := 24) (t := 82) (v := .string p.2.last) rfl rfl (by kernel_rfl) (by kernel_rfl) (by kernel_rfl) (fun _ _ _ h => h) (Or.inl ⟨by rfl, fun w' hSw => by obtain ⟨s1, s2, s3⟩ := hSw; go_simp⟩) (by assumption) ?_
            simp only [Act.put, List.setIfInBounds_toArray, List.set_cons_zero, List.set_cons_succ]
            refine wpAnyH_takeD (i := 25) (t := 83) (v := .agg #[.int .i64 p.1, .string p.2.last, .string p.2.last]) rfl rfl (by kernel_rfl) (by kernel_rfl) (by kernel_rfl) (fun _ _ _ h => h) (Or.inl ⟨by rfl, fun w' hSw => by obtain ⟨s1, s2, s3⟩ := hSw; go_simp⟩) (by assumption) ?_
            simp only [Act.put, List.setIfInBounds_toArray, List.set_cons_zero, List.set_cons_succ]
            refine wpAnyH_ready (rs := [26]) (by kernel_rfl) (by simp) ?_
            refine AllReadyH.cons rfl (fun K hK => ?_) AllReadyH.nil
            go_simp
            refine hK.out _ _ (keepF HB2.out hbb y0 y2 _) (fun hHeld2 => ?_)
            clear hK K
            refine wpAnyH_ready (rs := [27]) (by kernel_rfl) (by simp) ?_
            refine AllReadyH.cons rfl (fun K hK => ?_) AllReadyH.nil
            refine step_append_rowD _ rfl rfl (.tmp 58) (.tmp 84) 62 rfl 86 _ 3 40 rfile_elem (Grow (fun _ => False) w1 wr) (.slice A2 (lastF (L.take k2)).length c2) (lastF (L.take k2)).length (fcells (lastF (L.take k2))) rfl (Row.drew (HO.out.1.alloc _)) _ 1 1 (fcells [(p.1, ⟨p.2.last, p.2.last⟩)]) rfl (rd_newF _ p.1 ⟨p.2.last, p.2.last⟩) (fcells_ok _) (by omega) ?_
            intro v' w4 r4 f4
            have HNX : Hid (OutAt w1 v' (lastF (L.take (k2 + 1))) w4) := by
              show OutAt _ _ _ _
              rw [HLT.out]
              exact HO.out.next (((Fr.refl _ wr).alloc _).drew) r4 f4
            have hq4 : w4.cell? ⟨g, 0, none⟩ = some (.slice (some ⟨b, 0, none⟩) L.length c1') := (hB.out.keep HNX.out.2 fun h => h).cell 0
            obtain ⟨A4, c4, rfl, -, -⟩ := r4.form
            refine hK.out _ _ (keepF2 hFL.out HP.out HNX.out.2 hq4) (fun hHeld3 => ?_)
            clear hK K r4 f4 hHeld hHeld2
            simp only [Act.put, List.setIfInBounds_toArray, List.set_cons_zero, List.set_cons_succ]
            refine wpAnyH_takeD (i := 28) (t := 5) (v := .slice A4 ((lastF (L.take k2)).length + 1) c4) rfl rfl (by kernel_rfl) (by kernel_rfl) (by kernel_rfl) (fun _ _ _ h => h) (Or.inl ⟨by rfl, fun w' hSw => by obtain ⟨s1, s2, s3⟩ := hSw; go_simp⟩) (by assumption) ?_
            simp only [Act.put, List.setIfInBounds_toArray, List.set_cons_zero, List.set_cons_succ]
            refine wpAnyH_done (by kernel_rfl) ?_ _
            clear hHeld3 hq4 e0 y0 y1 y2
            go_wp2_with fail
            go_roundw
            case rel => exact ⟨k2 + 1, by omega, by go_num, HNX.out⟩
            case measure => simp [intOf]; omega
          · have hz2 : ¬ (k2 : Int) < (L.length : Int) := by omega
            rw [List.take_of_length_le (by omega : L.length ≤ k2)] at *
            have hend := Lib.hid (hfin.out _ _ HO.out)
            have f0 : wr.frozen? ⟨g, 0, none⟩ = false := HB2.out.frozen 0
            have g1 := (HB2.out.set_ 0 (.slice A2 (lastF L).length c2)).cell 1
            have g2 := (HB2.out.set_ 0 (.slice A2 (lastF L).length c2)).frozen 1
            simp only [List.setIfInBounds_toArray, List.getElem?_toArray, List.set_cons_zero, List.getElem?_cons_succ, List.getElem?_cons_zero] at g1
            clear hLr
            go_wp2_with fail
            go_end0
            exact hend.out
end Go.Proofs.YtjgmbildgcighaaDoor
