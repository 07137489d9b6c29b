import Derived.Test.YtbkloadgbicbeaaDo
namespace Go.Proofs.Ytbkloadgbicbeaa
open Go.RowKit
instance pktDec : DecidableEq Pkt := fun p q =>
  decidable_of_iff (p.f = q.f ∧ p.t = q.t ∧ p.b = q.b) ⟨fun h => by cases p; cases q; simp_all, fun h => by subst h; exact ⟨rfl, rfl, rfl⟩⟩

theorem str_inj {s t : ByteArray} (h : s.toList = t.toList) : s = t := Go.WideShapes.bytes_inj (by rw [← ByteArray.toList_eq, ← ByteArray.toList_eq]; exact h)
theorem run_eql_pkt (w : World) (p q : Pkt) (b : Bool) (h : decide (p = q) = b) : (binOp .eql 34 (.agg #[.int .i64 p.f, .int .i64 p.t, .string p.b]) (.agg #[.int .i64 q.f, .int .i64 q.t, .string q.b])).run Try.prog w = .ok (.bool b) w := by
  obtain ⟨f, t, s⟩ := p
  obtain ⟨f', t', s'⟩ := q
  have hd : decide ((⟨f, t, s⟩ : Pkt) = ⟨f', t', s'⟩) = (decide (f = f') && decide (t = t') && decide (s = s')) := by
    simp [Bool.and_assoc]
  rw [hd] at h
  subst h
  by_cases h1 : f = f' <;> by_cases h2 : t = t' <;> by_cases h3 : s = s' <;> simp [h1, h2, h3] <;> go_simp
  exact fun h => h3 (str_inj h)
theorem run_neq_pkt (w : World) (p q : Pkt) (b : Bool) (h : (!decide (p = q)) = b) : (binOp .neq 34 (.agg #[.int .i64 p.f, .int .i64 p.t, .string p.b]) (.agg #[.int .i64 q.f, .int .i64 q.t, .string q.b])).run Try.prog w = .ok (.bool b) w := by
  obtain ⟨f, t, s⟩ := p
  obtain ⟨f', t', s'⟩ := q
  have hd : decide ((⟨f, t, s⟩ : Pkt) = ⟨f', t', s'⟩) = (decide (f = f') && decide (t = t') && decide (s = s')) := by
    simp [Bool.and_assoc]
  rw [hd] at h
  subst h
  by_cases h1 : f = f' <;> by_cases h2 : t = t' <;> by_cases h3 : s = s' <;> simp [h1, h2, h3] <;> go_simp
  exact fun h => h3 (str_inj h)

/-- How often a packet is in a list. -/
def cnt (ps : List Pkt) (q : Pkt) : Nat := ps.countP (fun p => decide (p = q))
theorem cnt_le (ps : List Pkt) (q : Pkt) : cnt ps q ≤ ps.length := List.countP_le_length
theorem cnt_append (a b : List Pkt) (q : Pkt) : cnt (a ++ b) q = cnt a q + cnt b q := List.countP_append
theorem cnt_one (p q : Pkt) : cnt [p] q = if p = q then 1 else 0 := by simp [cnt, List.countP_cons]
theorem cnt_take (ps : List Pkt) (k : Nat) (h : k < ps.length) (q : Pkt) : cnt (ps.take (k + 1)) q = cnt (ps.take k) q + if ps[k] = q then 1 else 0 := by
  rw [List.take_succ_eq_append_getElem h, cnt_append, cnt_one]

/-- Nothing that was there has turned. -/
def CountPost (w : World) (ps : List Pkt) (p : Pkt) (e : Ending) (w' : World) : Prop :=
  e = .returned (.int .i64 (cnt ps p)) ∧ ∃ n, w' = (w.alloc (.cells #[.int .i64 p.f, .int .i64 p.t, .string p.b] 34)).drewN n

set_option maxRecDepth 100000 in
set_option maxHeartbeats 800000 in
theorem count_nil (A : Option Addr) (c : Nat) (p : Pkt) (w : World) :
    Calls Try.prog 20 #[.slice A 0 c, .agg #[.int .i64 p.f, .int .i64 p.t, .string p.b]] w (CountPost w [] p) := by
  go_enter Try.func20, Try.ntmps20
  go_wp2_with fail
  refine wp_loop_rounds 1 ?_
  rw [rounds_succ]
  go_wp2_with fail
  go_ret
  exact ⟨rfl, 0, rfl⟩

set_option maxRecDepth 100000 in
set_option maxHeartbeats 800000 in
theorem count_pos (g c : Nat) (ps : List Pkt) (p : Pkt) (w : World) (hg : g < w.heap.size) (h1 : ∀ j u, (pcells ps)[j]? = some u → w.cell? ⟨g, j, none⟩ = some u) (hm : ps.length ≤ 1000000) :
    Calls Try.prog 20 #[.slice (some ⟨g, 0, none⟩) ps.length c, .agg #[.int .i64 p.f, .int .i64 p.t, .string p.b]] w (CountPost w ps p) := by
  have H1 := Lib.hid h1
  clear h1
  go_enter Try.func20, Try.ntmps20
  go_wp2_with fail
  go_loopw [5, 6] (fun n i wr => ∃ k : Nat, k ≤ ps.length ∧ i = .int .i64 k ∧ n = .int .i64 (cnt (ps.take k) p) ∧ ∃ q, wr = (w.alloc (.cells #[.int .i64 p.f, .int .i64 p.t, .string p.b] 34)).drewN q) (fun _ i _ => ps.length - (intOf i).toNat)
  case atStart => exact ⟨0, Nat.zero_le _, rfl, rfl, 0, rfl⟩
  case round =>
    obtain ⟨k, hk, rfl, rfl, q, rfl⟩ := hrel
    have hcb : cnt (ps.take k) p ≤ 1000000 := by have := cnt_le (ps.take k) p; simp at this; omega
    by_cases hlt : k < ps.length
    · obtain ⟨a1, a2, a3⟩ := pcells_at ps k _ (List.getElem?_eq_getElem hlt)
      have HC := Lib.hid (cnt_take ps k hlt p)
      generalize ps[k] = p' at *
      have b1 := H1.out _ _ a1
      have b2 := H1.out _ _ a2
      have b3 := H1.out _ _ a3
      clear a1 a2 a3
      have hz : (k : Int) < (ps.length : Int) := by omega
      by_cases he : p' = p
      · have hq := fun W => run_eql_pkt W p' p true (by simp [he])
        have HE := Lib.hid he
        clear he
        go_wp2_with fail
        go_quiet (fail)
        go_wp2_with fail
        go_roundw
        case rel => exact ⟨k + 1, by omega, by go_num, by rw [HC.out, if_pos HE.out]; rfl, _, rfl⟩
        case measure => simp [intOf]; omega
      · have hq := fun W => run_eql_pkt W p' p false (by simp [he])
        have HE := Lib.hid he
        clear he
        go_wp2_with fail
        go_quiet (fail)
        go_wp2_with fail
        go_roundw
        case rel => exact ⟨k + 1, by omega, by go_num, by rw [HC.out, if_neg HE.out]; rfl, _, rfl⟩
        case measure => simp [intOf]; omega
    · have hz : ¬ (k : Int) < (ps.length : Int) := by omega
      have HK : Hid (ps.take k = ps) := List.take_of_length_le (by omega)
      go_wp2_with fail
      go_ret
      exact ⟨by rw [HK.out]; rfl, q, rfl⟩
theorem count_row {w : World} {F : Nat → Prop} {v : Value} {ps : List Pkt} (h : Row w F 34 3 v ps.length (pcells ps)) (hm : ps.length ≤ 1000000) (p : Pkt) :
    Calls Try.prog 20 #[v, .agg #[.int .i64 p.f, .int .i64 p.t, .string p.b]] w (CountPost w ps p) := by
  rcases Nat.eq_zero_or_pos ps.length with h0 | h0
  · obtain ⟨A, c, rfl, -, -⟩ := h.form
    have hp : ps = [] := List.eq_nil_of_length_eq_zero h0
    subst hp
    exact count_nil A c p w
  · obtain ⟨g1, c, rfl, -, hlt, -, -, hc1⟩ := h.at h0
    exact count_pos g1 c ps p w hlt hc1 hm
end Go.Proofs.Ytbkloadgbicbeaa
