import Derived.Test.YtbkloadgbicbeaaList
namespace Go.Proofs.Ytbkloadgbicbeaa
open Go.RowKit

theorem Row.at {w : World} {F : Nat → Prop} {n : Nat} {v : Value} {ps : List Pkt} (h : Row w F 34 3 v n (pcells ps)) (hn : 0 < n) :
    ∃ g c, v = .slice (some ⟨g, 0, none⟩) n c ∧ F g ∧ g < w.heap.size ∧ n ≤ c ∧ c ≤ maxLen ∧ ∀ j u, (pcells ps)[j]? = some u → w.cell? ⟨g, j, none⟩ = some u := by
  rcases h.1.2 with ⟨_, h0⟩ | ⟨g, cap, cur, rfl, -, hb, hc, hm, hs, hcur⟩
  · omega
  · refine ⟨g, cap, rfl, h.2 g (by simp [Value.ownBlock]), Blk.lt (t := 34) hb, hc, hm, fun j u hu => ?_⟩
    have hl := h.1.1
    have hj := (List.getElem?_eq_some_iff.1 hu).1
    rw [Blk.cell (t := 34) hb j, ← hu, ← hcur, List.getElem?_take, if_pos (by omega)]
    simp

set_option maxRecDepth 100000 in
set_option maxHeartbeats 800000 in
theorem same_nil (A B : Option Addr) (c d : Nat) (w : World) :
    Calls Try.prog 12 #[.slice A 0 c, .slice B 0 d] w fun e w' => e = .returned (.bool true) ∧ ∃ n, w' = w.drewN n := by
  go_enter Try.func12, Try.ntmps12
  go_wp2_with fail
  refine wp_loop_rounds 1 ?_
  rw [rounds_succ]
  go_wp2_with fail
  go_ret
  exact ⟨rfl, 0, rfl⟩

set_option maxRecDepth 100000 in
set_option maxHeartbeats 800000 in
theorem same_pos (g1 g2 c d : Nat) (ps : List Pkt) (w : World) (h1 : ∀ j u, (pcells ps)[j]? = some u → w.cell? ⟨g1, j, none⟩ = some u) (h2 : ∀ j u, (pcells ps)[j]? = some u → w.cell? ⟨g2, j, none⟩ = some u) (hm : ps.length ≤ 1000000) :
    Calls Try.prog 12 #[.slice (some ⟨g1, 0, none⟩) ps.length c, .slice (some ⟨g2, 0, none⟩) ps.length d] w fun e w' => e = .returned (.bool true) ∧ ∃ n, w' = w.drewN n := by
  have H1 := Lib.hid h1
  have H2 := Lib.hid h2
  clear h1 h2
  go_enter Try.func12, Try.ntmps12
  go_wp2_with fail
  go_loopw [5] (fun i wr => ∃ k : Nat, k ≤ ps.length ∧ i = .int .i64 k ∧ ∃ q, wr = w.drewN q) (fun i _ => ps.length - (intOf i).toNat)
  case atStart => exact ⟨0, Nat.zero_le _, rfl, 0, rfl⟩
  case round =>
    obtain ⟨k, hk, rfl, q, rfl⟩ := hrel
    by_cases hlt : k < ps.length
    · obtain ⟨a1, a2, a3⟩ := pcells_at ps k _ (List.getElem?_eq_getElem hlt)
      generalize ps[k] = p at *
      have b1 := H1.out _ _ a1
      have b2 := H1.out _ _ a2
      have b3 := H1.out _ _ a3
      have d1 := H2.out _ _ a1
      have d2 := H2.out _ _ a2
      have d3 := H2.out _ _ a3
      clear a1 a2 a3
      have hz : (k : Int) < (ps.length : Int) := by omega
      go_wp2_with fail
      go_quiet (fail)
      go_wp2_with fail
      go_roundw
      case rel => exact ⟨k + 1, by omega, by go_num, _, rfl⟩
      case measure => simp [intOf]; omega
    · have hz : ¬ (k : Int) < (ps.length : Int) := by omega
      go_wp2_with fail
      go_ret
      exact ⟨rfl, q, rfl⟩

theorem same_row {w : World} {F G : Nat → Prop} {u v : Value} {ps : List Pkt} (h1 : Row w F 34 3 u ps.length (pcells ps)) (h2 : Row w G 34 3 v ps.length (pcells ps)) (hm : ps.length ≤ 1000000) :
    Calls Try.prog 12 #[u, v] w fun e w' => e = .returned (.bool true) ∧ ∃ n, w' = w.drewN n := by
  rcases Nat.eq_zero_or_pos ps.length with h0 | h0
  · obtain ⟨A, c, rfl, -, -⟩ := h1.form
    obtain ⟨B, d, rfl, -, -⟩ := h2.form
    rw [h0]
    exact same_nil A B c d w
  · obtain ⟨g1, c, rfl, -, -, -, -, hc1⟩ := h1.at h0
    obtain ⟨g2, d, rfl, -, -, -, -, hc2⟩ := h2.at h0
    exact same_pos g1 g2 c d ps w hc1 hc2 hm

/-- An operation as the law's argument has it. -/
structure OpV where
  d : Int
  n : Int
  t : Int
  s : ByteArray
/-- The slice value '.slice A ops.length c' reads as the operations ops. -/
def OpsAt (w : World) (A : Option Addr) (ops : List OpV) : Prop :=
  ∀ k op, ops[k]? = some op → ∃ b o, A = some ⟨b, o, none⟩ ∧ b < w.heap.size ∧ w.cell? ⟨b, o + k * 4, none⟩ = some (.int .i64 op.d) ∧ w.cell? ⟨b, o + k * 4 + 1, none⟩ = some (.int .i64 op.n) ∧
    w.cell? ⟨b, o + k * 4 + 2, none⟩ = some (.int .i64 op.t) ∧ w.cell? ⟨b, o + k * 4 + 3, none⟩ = some (.string op.s)
def fewB (ops : List OpV) (most : Nat) : Bool := (ops.take 1000).all (fun op => decide (op.s.size ≤ 100)) && decide (ops.length ≤ most)

theorem all_take_succ (ops : List OpV) (k : Nat) (h : k < ops.length) (f : OpV → Bool) : (ops.take (k + 1)).all f = ((ops.take k).all f && f ops[k]) := by
  rw [List.take_succ_eq_append_getElem h, List.all_append]; simp

set_option maxRecDepth 100000 in
set_option maxHeartbeats 800000 in
theorem few_any (A : Option Addr) (c : Nat) (ops : List OpV) (most : Nat) (w : World) (h : OpsAt w A ops) :
    Calls Try.prog 9 #[.slice A ops.length c, .int .i64 most] w fun e w' => e = .returned (.bool (fewB ops most)) ∧ w = w' := by
  have H := Lib.hid h
  clear h
  go_enter Try.func9, Try.ntmps9
  go_wp2_with fail
  go_loop [5] (fun i => ∃ k : Nat, k ≤ ops.length ∧ k ≤ 1000 ∧ i = .int .i64 k ∧ (ops.take k).all (fun op => decide (op.s.size ≤ 100)) = true) (fun i => 1000 - (intOf i).toNat)
  case atStart => exact ⟨0, Nat.zero_le _, by omega, rfl, rfl⟩
  case round =>
    obtain ⟨k, hk, hk2, rfl, hall⟩ := hrel
    have HA := Lib.hid hall
    clear hall
    by_cases hlt : k < ops.length
    · by_cases h1000 : k < 1000
      · obtain ⟨b, o, rfl, -, -, -, -, hs⟩ := H.out k _ (List.getElem?_eq_getElem hlt)
        by_cases hbig : ops[k].s.size ≤ 100
        · have HA' : Hid ((ops.take (k + 1)).all (fun op => decide (op.s.size ≤ 100)) = true) := by
            show _ = true
            rw [all_take_succ ops k hlt, HA.out]; simp [hbig]
          generalize ops[k] = op at *
          have hq : ¬ (100 : Int) < (op.s.size : Int) := by omega
          clear hbig
          go_wp2_with fail
          go_round
          case rel => exact ⟨k + 1, by omega, by omega, by go_num, HA'.out⟩
          case measure => simp [intOf]; omega
        · have HF : Hid (fewB ops most = false) := by
            show _ = false
            unfold fewB
            rw [Bool.and_eq_false_iff]
            refine .inl (List.all_eq_false.2 ⟨ops[k], ?_, by simpa using hbig⟩)
            rw [List.mem_take_iff_getElem]
            exact ⟨k, by omega, rfl⟩
          generalize ops[k] = op at *
          have hq : (100 : Int) < (op.s.size : Int) := by omega
          clear hbig
          go_wp2_with fail
          go_ret
          exact ⟨by rw [HF.out]; rfl, rfl⟩
      · have hk3 : k = 1000 := by omega
        have HF : Hid (fewB ops most = decide (ops.length ≤ most)) := by
          show _ = _
          unfold fewB
          rw [← hk3, HA.out]; simp
        have hz : ¬ (k : Int) < 1000 := by omega
        clear hk3
        go_wp2_with fail
        go_ret
        exact ⟨by rw [HF.out]; rfl, rfl⟩
    · have hk3 : k = ops.length := by omega
      have HF : Hid (fewB ops most = decide (ops.length ≤ most)) := by
        show _ = _
        unfold fewB
        rw [List.take_of_length_le (by omega)]
        have := HA.out
        rw [hk3, List.take_of_length_le (Nat.le_refl _)] at this
        rw [this]; simp
      have hz : ¬ (k : Int) < (ops.length : Int) := by omega
      clear hk3
      go_wp2_with fail
      go_ret
      exact ⟨by rw [HF.out]; rfl, rfl⟩
theorem few_is (m : Int) (most : Nat) (b : Bool) (A : Option Addr) (c : Nat) (ops : List OpV) (w : World) (h : OpsAt w A ops) (he : m = most) (hb : fewB ops most = b) :
    Calls Try.prog 9 #[.slice A ops.length c, .int .i64 m] w fun e w' => e = .returned (.bool b) ∧ w = w' := by
  subst he; subst hb
  exact few_any A c ops most w h
end Go.Proofs.Ytbkloadgbicbeaa
