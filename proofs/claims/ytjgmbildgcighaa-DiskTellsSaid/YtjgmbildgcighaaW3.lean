import Derived.Test.YtjgmbildgcighaaR11
import Derived.Test.YtjgmbildgcighaaL2
namespace Go.Proofs.Ytjgmbildgcighaa
open Go.RowKit

def ActCells (b o k : Nat) (a : ActV) (w : World) : Prop := w.cell? ⟨b, o + k * 5, none⟩ = some (.int .i64 a.d) ∧ w.cell? ⟨b, o + k * 5 + 1, none⟩ = some (.int .i64 a.f) ∧
    w.cell? ⟨b, o + k * 5 + 2, none⟩ = some (.int .i64 a.n) ∧ w.cell? ⟨b, o + k * 5 + 3, none⟩ = some (.string a.s) ∧ w.cell? ⟨b, o + k * 5 + 4, none⟩ = some (.slice a.kA a.k.length a.kc)
theorem cells_at {W w : World} {own : Nat → Nat} {b o k : Nat} {acts : List ActV} {a : ActV} (h : ActsAt W (some ⟨b, o, none⟩) acts) (hs : St W w own) (hk : acts[k]? = some a) : ActCells b o k a w := by
  obtain ⟨b', o', e, -, c⟩ := h.at hs hk
  obtain ⟨rfl, rfl⟩ : b = b' ∧ o = o' := by simpa using e
  exact c
/-- The state in the loop of DiskTells: both disks are in the same state. -/
def TeRel (W : World) (g2 : Nat) (v : Value) (wr : World) : Prop :=
  ∃ own j g1 D ks, v = .pointer (some ⟨g1, 0, none⟩) ∧ j ≠ 0 ∧ j ≠ 2 ∧ DO wr own j g1 D ks ∧ RO wr own 2 g2 D ks ∧ St W wr own
set_option maxRecDepth 100000 in
set_option maxHeartbeats 6400000 in
theorem tells_walk (A : Option Addr) (c : Nat) (acts : List ActV) (f at_ size : Int) (W : World) (h : ActsAt W A acts) (hm : acts.length ≤ 9223372036854775807) (hsize : size ≤ 9223372036854775807) :
    Calls Try.prog 3 #[.slice A acts.length c, .int .i64 f, .int .i64 at_, .int .i64 size] W fun e w' => e = .returned (.bool true) ∧ Below W.heap.size W w' := by
  have H := Lib.hid h
  clear h
  go_enter Try.func3, Try.ntmps3
  go_wp2_with fail
  refine (small_any W).mono ?_
  rintro e w1 ⟨rfl, hb⟩
  have s1 : St W w1 (fun _ => 0) := ⟨fun _ _ => rfl, fun _ _ => rfl, hb⟩
  clear hb
  go_wp2_with fail
  cases hfew : fewB acts with
  | false =>
    refine (few_is false A c acts W w1 _ H.out s1 hm hfew).mono ?_
    rintro e _ ⟨rfl, rfl⟩
    go_wp2_with fail
    go_ret
    exact ⟨rfl, s1.fr⟩
  | true =>
  refine (few_is true A c acts W w1 _ H.out s1 hm hfew).mono ?_
  rintro e _ ⟨rfl, rfl⟩
  have HF := Lib.hid (few_ok hfew)
  have hl40 := (few_ok hfew).2
  clear hfew
  go_wp2_with fail
  refine (o_new (i := 1) s1 (by decide)).mono ?_
  rintro e w2 ⟨g0, rfl, o2, d2, p2⟩
  go_wp2_with fail
  refine (r_new (i := 2) p2.st (by decide)).mono ?_
  rintro e w3 ⟨g2, rfl, o3, r3, p3⟩
  have d3 := d2.other p3 (by decide) (by decide) (by decide)
  have hst : Hid (TeRel W g2 (.pointer (some ⟨g0, 0, none⟩)) w3) := ⟨o3, 1, g0, _, _, rfl, by decide, by decide, d3, r3, p3.st⟩
  clear d2 p2 s1 d3 r3 p3
  go_wp2_with fail
  go_loopw [10, 12] (fun v i wr => ∃ k : Nat, k ≤ acts.length ∧ i = .int .i64 k ∧ TeRel W g2 v wr) (fun v i _ => acts.length - (intOf i).toNat)
  case atStart => exact ⟨0, Nat.zero_le _, rfl, hst.out⟩
  case round =>
    obtain ⟨k, hk, rfl, own2, j, g1, D, ks, rfl, hj, hj2, hd, hr, hs⟩ := hrel
    have HD := Lib.hid hd
    have HR := Lib.hid hr
    have HS := Lib.hid hs
    clear hst hd hr hs
    by_cases hlt : k < acts.length
    · obtain ⟨a, ha⟩ : ∃ a, acts[k]? = some a := ⟨_, List.getElem?_eq_getElem hlt⟩
      obtain ⟨b, o, rfl, hb, c1, cf, c3, c4, c5⟩ := H.out.at HS.out ha
      obtain ⟨-, hkb, hn⟩ := H.out k a ha
      obtain ⟨hsz, hkl, -⟩ := HF.out.1 a (List.mem_of_getElem? ha)
      have hz : (k : Int) < (acts.length : Int) := by omega
      have HKB := Lib.hid hkb
      have HA := Lib.hid ha
      clear ha hkb hb
      go_wp2_with fail
      refine wp_region_held_drew (S := ActCells b o k a) (by kernel_rfl) ⟨c1, cf, c3, c4, c5⟩ (fun hHeld => ?_)
      refine wpAnyH_takeD (i := 0) (t := 33) (v := .pointer (some ⟨g1, 0, none⟩)) rfl rfl (by kernel_rfl) (by kernel_rfl) (by kernel_rfl) (fun _ _ _ h => h) (Or.inl ⟨by rfl, fun w' hSw => by obtain ⟨s1, s2, s3, s4, s5⟩ := hSw; go_simp⟩) (by assumption) ?_
      simp only [Act.put, List.setIfInBounds_toArray, List.set_cons_zero, List.set_cons_succ]
      refine wpAnyH_takeD (i := 1) (t := 34) (v := .slice (some ⟨b, o, none⟩) acts.length c) rfl rfl (by kernel_rfl) (by kernel_rfl) (by kernel_rfl) (fun _ _ _ h => h) (Or.inl ⟨by rfl, fun w' hSw => by obtain ⟨s1, s2, s3, s4, s5⟩ := hSw; go_simp⟩) (by assumption) ?_
      simp only [Act.put, List.setIfInBounds_toArray, List.set_cons_zero, List.set_cons_succ]
      refine wpAnyH_takeD (i := 2) (t := 35) (v := .int .i64 (k : Int)) rfl rfl (by kernel_rfl) (by kernel_rfl) (by kernel_rfl) (fun _ _ _ h => h) (Or.inl ⟨by rfl, fun w' hSw => by obtain ⟨s1, s2, s3, s4, s5⟩ := hSw; go_simp⟩) (by assumption) ?_
      simp only [Act.put, List.setIfInBounds_toArray, List.set_cons_zero, List.set_cons_succ]
      refine wpAnyH_takeD (i := 3) (t := 36) (v := .pointer (some ⟨b, o + k * 5, none⟩)) rfl rfl (by kernel_rfl) (by kernel_rfl) (by kernel_rfl) (fun _ _ _ h => h) (Or.inl ⟨by rfl, fun w' hSw => by obtain ⟨s1, s2, s3, s4, s5⟩ := hSw; go_simp⟩) (by assumption) ?_
      simp only [Act.put, List.setIfInBounds_toArray, List.set_cons_zero, List.set_cons_succ]
      refine wpAnyH_takeD (i := 4) (t := 37) (v := .agg #[.int .i64 a.d, .int .i64 a.f, .int .i64 a.n, .string a.s, .slice a.kA a.k.length a.kc]) rfl rfl (by kernel_rfl) (by kernel_rfl) (by kernel_rfl) (fun _ _ _ h => h) (Or.inl ⟨by rfl, fun w' hSw => by obtain ⟨s1, s2, s3, s4, s5⟩ := hSw; go_simp⟩) (by assumption) ?_
      simp only [Act.put, List.setIfInBounds_toArray, List.set_cons_zero, List.set_cons_succ]
      refine wpAnyH_takeD (i := 6) (t := 39) (v := .pointer (some ⟨g2, 0, none⟩)) rfl rfl (by kernel_rfl) (by kernel_rfl) (by kernel_rfl) (fun _ _ _ h => h) (Or.inl ⟨by rfl, fun w' hSw => by obtain ⟨s1, s2, s3, s4, s5⟩ := hSw; go_simp⟩) (by assumption) ?_
      simp only [Act.put, List.setIfInBounds_toArray, List.set_cons_zero, List.set_cons_succ]
      refine wpAnyH_takeD (i := 7) (t := 40) (v := .slice (some ⟨b, o, none⟩) acts.length c) rfl rfl (by kernel_rfl) (by kernel_rfl) (by kernel_rfl) (fun _ _ _ h => h) (Or.inl ⟨by rfl, fun w' hSw => by obtain ⟨s1, s2, s3, s4, s5⟩ := hSw; go_simp⟩) (by assumption) ?_
      simp only [Act.put, List.setIfInBounds_toArray, List.set_cons_zero, List.set_cons_succ]
      refine wpAnyH_takeD (i := 8) (t := 41) (v := .int .i64 (k : Int)) rfl rfl (by kernel_rfl) (by kernel_rfl) (by kernel_rfl) (fun _ _ _ h => h) (Or.inl ⟨by rfl, fun w' hSw => by obtain ⟨s1, s2, s3, s4, s5⟩ := hSw; go_simp⟩) (by assumption) ?_
      simp only [Act.put, List.setIfInBounds_toArray, List.set_cons_zero, List.set_cons_succ]
      refine wpAnyH_takeD (i := 9) (t := 42) (v := .pointer (some ⟨b, o + k * 5, none⟩)) rfl rfl (by kernel_rfl) (by kernel_rfl) (by kernel_rfl) (fun _ _ _ h => h) (Or.inl ⟨by rfl, fun w' hSw => by obtain ⟨s1, s2, s3, s4, s5⟩ := hSw; go_simp⟩) (by assumption) ?_
      simp only [Act.put, List.setIfInBounds_toArray, List.set_cons_zero, List.set_cons_succ]
      refine wpAnyH_takeD (i := 10) (t := 43) (v := .agg #[.int .i64 a.d, .int .i64 a.f, .int .i64 a.n, .string a.s, .slice a.kA a.k.length a.kc]) rfl rfl (by kernel_rfl) (by kernel_rfl) (by kernel_rfl) (fun _ _ _ h => h) (Or.inl ⟨by rfl, fun w' hSw => by obtain ⟨s1, s2, s3, s4, s5⟩ := hSw; go_simp⟩) (by assumption) ?_
      simp only [Act.put, List.setIfInBounds_toArray, List.set_cons_zero, List.set_cons_succ]
      refine wpAnyH_ready (rs := [5]) (by kernel_rfl) (by simp) ?_
      refine AllReadyH.cons rfl (fun K hK => ?_) AllReadyH.nil
      go_simp
      refine (do_any g1 j D ks a W _ own2 (HD.out.drewN _) (HS.out.drewN _) hj HKB.out hkl hn).mono ?_
      rintro e w5 ⟨rfl, o5, d5, p5⟩
      have R5 := Lib.hid ((HR.out.drewN _).other p5 (by decide) hj (Ne.symm hj2))
      have D5 := Lib.hid d5
      have S5 := Lib.hid p5.st
      refine hK.out _ _ (cells_at H.out p5.st HA.out) (fun hHeld5 => ?_)
      clear hK K d5 p5 hHeld HD HR HS
      refine wpAnyH_ready (rs := [11]) (by kernel_rfl) (by simp) ?_
      refine AllReadyH.cons rfl (fun K hK => ?_) AllReadyH.nil
      go_simp
      refine (tell_any g2 2 D ks a W _ o5 R5.out S5.out (by decide) hsz HKB.out hkl hn).mono ?_
      rintro e w6 ⟨rfl, o6, r6, p6⟩
      have D6 := Lib.hid (D5.out.other p6 hj (by decide) hj2)
      have R6 := Lib.hid r6
      have S6 := Lib.hid p6.st
      refine hK.out _ _ (cells_at H.out p6.st HA.out) (fun hHeld6 => ?_)
      clear hK K r6 p6 hHeld5 D5 R5 S5
      generalize actE D ks a = x
      have hx : (x != x) = false := by simp
      generalize actD D ks a = D2 at *
      generalize actK ks a = ks2 at *
      refine wpAnyH_takeD (i := 12) (t := 45) (v := .bool false) rfl rfl (by kernel_rfl) (by kernel_rfl) (by kernel_rfl) (fun _ _ _ h => h) (Or.inl ⟨by rfl, fun w' hSw => by obtain ⟨s1, s2, s3, s4, s5⟩ := hSw; go_simp⟩) (by assumption) ?_
      simp only [Act.put, List.setIfInBounds_toArray, List.set_cons_zero, List.set_cons_succ]
      refine wpAnyH_takeD (i := 13) (t := 46) (v := .bool false) rfl rfl (by kernel_rfl) (by kernel_rfl) (by kernel_rfl) (fun _ _ _ h => h) (Or.inl ⟨by rfl, fun w' hSw => by obtain ⟨s1, s2, s3, s4, s5⟩ := hSw; go_simp⟩) (by assumption) ?_
      simp only [Act.put, List.setIfInBounds_toArray, List.set_cons_zero, List.set_cons_succ]
      refine wpAnyH_takeD (i := 14) (t := 47) (v := .pointer (some ⟨g1, 0, none⟩)) rfl rfl (by kernel_rfl) (by kernel_rfl) (by kernel_rfl) (fun _ _ _ h => h) (Or.inl ⟨by rfl, fun w' hSw => by obtain ⟨s1, s2, s3, s4, s5⟩ := hSw; go_simp⟩) (by assumption) ?_
      simp only [Act.put, List.setIfInBounds_toArray, List.set_cons_zero, List.set_cons_succ]
      refine wpAnyH_takeD (i := 16) (t := 49) (v := .pointer (some ⟨g2, 0, none⟩)) rfl rfl (by kernel_rfl) (by kernel_rfl) (by kernel_rfl) (fun _ _ _ h => h) (Or.inl ⟨by rfl, fun w' hSw => by obtain ⟨s1, s2, s3, s4, s5⟩ := hSw; go_simp⟩) (by assumption) ?_
      simp only [Act.put, List.setIfInBounds_toArray, List.set_cons_zero, List.set_cons_succ]
      refine wpAnyH_ready (rs := [15]) (by kernel_rfl) (by simp) ?_
      refine AllReadyH.cons rfl (fun K hK => ?_) AllReadyH.nil
      go_simp
      refine (o_down D6.out).mono ?_
      rintro e _ ⟨rfl, rfl⟩
      refine hK.out _ _ hHeld6 (fun hHeld6 => ?_)
      clear hK K
      refine wpAnyH_ready (rs := [17]) (by kernel_rfl) (by simp) ?_
      refine AllReadyH.cons rfl (fun K hK => ?_) AllReadyH.nil
      go_simp
      refine (r_down R6.out).mono ?_
      rintro e _ ⟨rfl, rfl⟩
      refine hK.out _ _ hHeld6 (fun hHeld6 => ?_)
      clear hK K
      have hbb : (D2.down != D2.down) = false := by simp
      refine wpAnyH_takeD (i := 18) (t := 51) (v := .bool false) rfl rfl (by kernel_rfl) (by kernel_rfl) (by kernel_rfl) (fun _ _ _ h => h) (Or.inl ⟨by rfl, fun w' hSw => by obtain ⟨s1, s2, s3, s4, s5⟩ := hSw; go_simp⟩) (by assumption) ?_
      simp only [Act.put, List.setIfInBounds_toArray, List.set_cons_zero, List.set_cons_succ]
      refine wpAnyH_takeD (i := 19) (t := 52) (v := .bool false) rfl rfl (by kernel_rfl) (by kernel_rfl) (by kernel_rfl) (fun _ _ _ h => h) (Or.inl ⟨by rfl, fun w' hSw => by obtain ⟨s1, s2, s3, s4, s5⟩ := hSw; go_simp⟩) (by assumption) ?_
      simp only [Act.put, List.setIfInBounds_toArray, List.set_cons_zero, List.set_cons_succ]
      refine wpAnyH_takeD (i := 20) (t := 53) (v := .bool false) rfl rfl (by kernel_rfl) (by kernel_rfl) (by kernel_rfl) (fun _ _ _ h => h) (Or.inl ⟨by rfl, fun w' hSw => by obtain ⟨s1, s2, s3, s4, s5⟩ := hSw; go_simp⟩) (by assumption) ?_
      simp only [Act.put, List.setIfInBounds_toArray, List.set_cons_zero, List.set_cons_succ]
      refine wpAnyH_takeD (i := 21) (t := 54) (v := .pointer (some ⟨g1, 0, none⟩)) rfl rfl (by kernel_rfl) (by kernel_rfl) (by kernel_rfl) (fun _ _ _ h => h) (Or.inl ⟨by rfl, fun w' hSw => by obtain ⟨s1, s2, s3, s4, s5⟩ := hSw; go_simp⟩) (by assumption) ?_
      simp only [Act.put, List.setIfInBounds_toArray, List.set_cons_zero, List.set_cons_succ]
      refine wpAnyH_takeD (i := 22) (t := 55) (v := .int .i64 f) rfl rfl (by kernel_rfl) (by kernel_rfl) (by kernel_rfl) (fun _ _ _ h => h) (Or.inl ⟨by rfl, fun w' hSw => by obtain ⟨s1, s2, s3, s4, s5⟩ := hSw; go_simp⟩) (by assumption) ?_
      simp only [Act.put, List.setIfInBounds_toArray, List.set_cons_zero, List.set_cons_succ]
      refine wpAnyH_takeD (i := 24) (t := 57) (v := .pointer (some ⟨g2, 0, none⟩)) rfl rfl (by kernel_rfl) (by kernel_rfl) (by kernel_rfl) (fun _ _ _ h => h) (Or.inl ⟨by rfl, fun w' hSw => by obtain ⟨s1, s2, s3, s4, s5⟩ := hSw; go_simp⟩) (by assumption) ?_
      simp only [Act.put, List.setIfInBounds_toArray, List.set_cons_zero, List.set_cons_succ]
      refine wpAnyH_takeD (i := 25) (t := 58) (v := .int .i64 f) rfl rfl (by kernel_rfl) (by kernel_rfl) (by kernel_rfl) (fun _ _ _ h => h) (Or.inl ⟨by rfl, fun w' hSw => by obtain ⟨s1, s2, s3, s4, s5⟩ := hSw; go_simp⟩) (by assumption) ?_
      simp only [Act.put, List.setIfInBounds_toArray, List.set_cons_zero, List.set_cons_succ]
      refine wpAnyH_ready (rs := [23]) (by kernel_rfl) (by simp) ?_
      refine AllReadyH.cons rfl (fun K hK => ?_) AllReadyH.nil
      go_simp
      refine (o_size D6.out f).mono ?_
      rintro e _ ⟨rfl, rfl⟩
      refine hK.out _ _ hHeld6 (fun hHeld6 => ?_)
      clear hK K
      refine wpAnyH_ready (rs := [26]) (by kernel_rfl) (by simp) ?_
      refine AllReadyH.cons rfl (fun K hK => ?_) AllReadyH.nil
      go_simp
      refine (r_size R6.out f).mono ?_
      rintro e w7 ⟨rfl, hf7⟩
      have S7 := Lib.hid (S6.out.frF hf7)
      have D7 := Lib.hid (D6.out.fr0 hf7)
      have R7 := Lib.hid (R6.out.fr0 hf7)
      refine hK.out _ _ (cells_at H.out S7.out HA.out) (fun hHeld7 => ?_)
      clear hK K hf7 S6 D6 R6 hHeld6
      have hss : ((((D2.fs f).now.size : Nat) : Int) != (((D2.fs f).now.size : Nat) : Int)) = false := by simp
      refine wpAnyH_takeD (i := 27) (t := 60) (v := .bool false) rfl rfl (by kernel_rfl) (by kernel_rfl) (by kernel_rfl) (fun _ _ _ h => h) (Or.inl ⟨by rfl, fun w' hSw => by obtain ⟨s1, s2, s3, s4, s5⟩ := hSw; go_simp⟩) (by assumption) ?_
      simp only [Act.put, List.setIfInBounds_toArray, List.set_cons_zero, List.set_cons_succ]
      refine wpAnyH_takeD (i := 28) (t := 61) (v := .bool false) rfl rfl (by kernel_rfl) (by kernel_rfl) (by kernel_rfl) (fun _ _ _ h => h) (Or.inl ⟨by rfl, fun w' hSw => by obtain ⟨s1, s2, s3, s4, s5⟩ := hSw; go_simp⟩) (by assumption) ?_
      simp only [Act.put, List.setIfInBounds_toArray, List.set_cons_zero, List.set_cons_succ]
      refine wpAnyH_done (by kernel_rfl) ?_ _
      clear hHeld7 hss hbb hx c1 cf c3 c4 c5
      clear hHeld6
      by_cases hmid : k = acts.length / 2
      · obtain ⟨a0, ha0⟩ : ∃ a0, acts[0]? = some a0 := ⟨_, List.getElem?_eq_getElem (by omega)⟩
        obtain ⟨-, hkb0, hn0⟩ := H.out 0 a0 ha0
        obtain ⟨-, hkl0, -⟩ := HF.out.1 a0 (List.mem_of_getElem? ha0)
        have HKB0 := Lib.hid hkb0
        have HA0 := Lib.hid ha0
        have hq : ((k : Int) == (acts.length : Int) / 2) = true := by simp; omega
        have hz0 : (0 : Int) < (acts.length : Int) := by omega
        clear hkb0 ha0 hmid
        go_wp2_with fail
        refine (o_copy (j := j + 3) D7.out S7.out (by omega)).mono ?_
        rintro e w8 ⟨g3, rfl, o8, d8, p8⟩
        have D8 := Lib.hid (D7.out.other p8 hj (by omega) (by omega))
        have R8 := Lib.hid (R7.out.other p8 (by decide) (by omega) (by omega))
        have C8 := Lib.hid d8
        have S8 := Lib.hid p8.st
        obtain ⟨e1, e2, e3, e4, e5⟩ := cells_at H.out p8.st HA0.out
        simp only [Nat.zero_mul, Nat.add_zero] at e1 e2 e3 e4 e5
        clear d8 p8 D7 R7 S7
        go_wp2_with fail
        refine (do_any g1 j D2 ks2 a0 W _ o8 D8.out S8.out hj HKB0.out hkl0 hn0).mono ?_
        rintro e w9 ⟨rfl, o9, d9, p9⟩
        have C9 := Lib.hid (C8.out.other p9 (by omega) hj (by omega))
        have R9 := Lib.hid (R8.out.other p9 (by decide) hj (Ne.symm hj2))
        have D9 := Lib.hid d9
        have S9 := Lib.hid p9.st
        clear d9 p9 D8 R8 C8 S8 e1 e2 e3 e4 e5
        go_wp2_with fail
        refine (o_sync D9.out S9.out hj f).mono ?_
        rintro e w10 ⟨rfl, o10, d10, p10⟩
        have hend : Hid (TeRel W g2 (.pointer (some ⟨g3, 0, none⟩)) w10) := ⟨o10, j + 3, g3, D2, ks2, rfl, by omega, by omega, C9.out.other p10 (by omega) hj (by omega), R9.out.other p10 (by decide) hj (Ne.symm hj2), p10.st⟩
        clear d10 p10 D9 C9 R9 S9
        go_wp2_with fail
        go_roundw
        case rel => exact ⟨k + 1, by omega, by go_num, hend.out⟩
        case measure => simp [intOf]; omega
      · have hq : ((k : Int) == (acts.length : Int) / 2) = false := by simp; omega
        have hend : Hid (TeRel W g2 (.pointer (some ⟨g1, 0, none⟩)) w7) := ⟨o6, j, g1, D2, ks2, rfl, hj, hj2, D7.out, R7.out, S7.out⟩
        clear hmid D7 R7 S7
        go_wp2_with fail
        go_roundw
        case rel => exact ⟨k + 1, by omega, by go_num, hend.out⟩
        case measure => simp [intOf]; omega
    · have hz : ¬ (k : Int) < (acts.length : Int) := by omega
      go_wp2_with fail
      refine (o_read HD.out f at_ size).mono ?_
      rintro e _ ⟨rfl, rfl⟩
      go_wp2_with fail
      refine (r_read HR.out f at_ size hsize).mono ?_
      rintro e w7 ⟨rfl, hf7⟩
      have S7 := Lib.hid (HS.out.frF hf7)
      clear hf7 HD HR HS
      generalize readS D f at_ size = s
      generalize readE D f at_ size = x
      go_wp2_with fail
      go_ret
      exact ⟨rfl, S7.out.fr⟩
end Go.Proofs.Ytjgmbildgcighaa
