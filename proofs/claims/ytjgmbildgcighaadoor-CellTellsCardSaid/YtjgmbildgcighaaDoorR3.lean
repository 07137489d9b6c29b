import Derived.Test.YtjgmbildgcighaaDoorR2
namespace Go.Proofs.YtjgmbildgcighaaDoor
open Go.RowKit

/-! settle. -/
def keptQ (q : List (Int × Int)) (f : Int) : List (Int × Int) := q.filter (fun p => decide (p.1 ≠ f))
theorem keptQ_take {q : List (Int × Int)} {f : Int} {k : Nat} {p : Int × Int} (h : q[k]? = some p) : keptQ (q.take (k + 1)) f = if p.1 = f then keptQ (q.take k) f else keptQ (q.take k) f ++ [p] := by
  obtain ⟨hl, rfl⟩ := List.getElem?_eq_some_iff.1 h
  unfold keptQ
  rw [List.take_succ_eq_append_getElem hl, List.filter_append]
  split
  · rename_i he
    rw [List.filter_cons_of_neg (by simpa using he)]
    simp
  · rename_i he
    rw [List.filter_cons_of_pos (by simpa using he)]
    simp
theorem rd_newS (w : World) (p : Int × Int) : Rd (w.alloc (.cells #[.int .i64 p.1, .int .i64 p.2] 84)) 2 (some ⟨w.heap.size, 0, none⟩) 1 (qcells [p]) := by
  rw [qcells_one]
  exact rd_new2 _ _ _ _ _ rfl
def OutQ (w : World) (v : Value) (q : List (Int × Int)) (wr : World) : Prop := Row wr (Grow (fun _ => False) w wr) 84 2 v q.length (qcells q) ∧ Fr (fun _ => False) w wr
theorem OutQ.next {w w0 w1 w2 : World} {v v' : Value} {q : List (Int × Int)} {p : Int × Int} (h : OutQ w v q w0) (h0 : Fr (fun _ => False) w0 w1) (hr : Row w2 (Grow (Grow (fun _ => False) w w0) w1 w2) 84 2 v' (q.length + 1) (qcells q ++ qcells [p])) (hf : Fr (Own v) w1 w2) : OutQ w v' (q ++ [p]) w2 := by
  have s1 := h.2.size
  have s2 := h0.size
  have s3 := hf.size
  refine ⟨?_, ((h.2.trans' h0 fun _ _ h => h.elim).trans' hf fun k hk e => ?_)⟩
  · rw [qcells_append]
    have : Row w2 (Grow (fun _ => False) w w2) 84 2 v' (q.length + 1) (qcells q ++ qcells [p]) := hr.more fun k _ hk => by
      rcases hk with (hk | hk) | hk
      · exact .inl hk
      · exact .inr (by omega)
      · exact .inr (by omega)
    simpa using this
  · rcases h.1.2 k e with h | h
    · exact h
    · omega
/-- A new queue is laid. -/
theorem queue_end {w w1 : World} {F : Nat → Prop} {g : Nat} {kv fv qv qv' r : Value} {d : DS} {L : List (Int × FileC)} {q' : List (Int × Int)} (h : RefX w F g kv d fv qv L) (ho : OutQ w qv' q' w1) (hinv : DInv { d with q := q' }) :
    RPost w F g r kv { d with q := q' } (.returned r) (w1.setCell ⟨g, 1, none⟩ qv') := by
  obtain ⟨hX, hF⟩ := h.queue_ (d' := { d with q := q' }) (ho.1.more fun k _ hk => hk.imp (fun h => h.elim) id) (ho.2.mono fun _ _ h => h.elim) hinv rfl rfl rfl rfl
  refine ⟨rfl, ?_, hF⟩
  have hs : (w1.setCell ⟨g, 1, none⟩ qv').heap.size = w1.heap.size := by simp [World.setCell]
  exact RefAt.more ⟨_, _, _, hX⟩ (fun k hk => hk.imp id fun hk => by rw [hs]; exact hk) (grow_lt h.lt hF.size)
set_option maxRecDepth 100000 in
set_option maxHeartbeats 1600000 in
theorem rsettle_any (g : Nat) (d : DS) (kv : Value) (f : Int) (s : ByteArray) (w : World) (F : Nat → Prop) (h : RefAt w F g kv d) (hn : 0 ≤ f ∧ f < 16) (h1 : s.size ≤ 16777216) :
    Calls Tryd.prog 53 #[.pointer (some ⟨g, 0, none⟩), .int .i64 f, .string s] w (RPost w F g (.tuple #[]) kv (settleD d f s)) := by
  have H := Lib.hid h
  have hI := h.inv.settle f s h1
  have HI := Lib.hid hI
  clear h hI
  go_enter Tryd.func53, Tryd.ntmps53
  go_wp2_with fail
  refine (rset_any g d kv f ⟨s, s⟩ w F H.out hn h1 h1).mono ?_
  intro e w1 hp
  have P1 := Lib.hid hp
  obtain ⟨rfl, ⟨fv, qv, L, hx⟩, -⟩ := hp
  have hlen := hx.inv.len
  have hlg := hx.blk.lt
  have hq0 : ({ d with fs := upd d.fs f ⟨s, s⟩ } : DS).q = d.q := rfl
  rw [hq0] at hlen
  obtain ⟨A, c, rfl, -, hcm⟩ := hx.queue.form
  rw [hq0] at hx
  have hfin : Hid (∀ qv' wr, OutQ w1 qv' (keptQ d.q f) wr → RPost w F g (.tuple #[]) kv (settleD d f s) (.returned (.tuple #[])) (wr.setCell ⟨g, 1, none⟩ qv')) := by
    intro qv' wr ho
    exact P1.out.then_ (queue_end (r := .tuple #[]) (q' := keptQ d.q f) hx ho HI.out) H.out.lt
  have hb0 := Lib.hid hx.blk
  have hQ := Lib.hid hx.queue.rqat
  rw [hq0] at hQ
  clear hx hq0 P1
  unfold maxLen at hcm
  go_wp2_with fail
  go_loopw [6, 7] (fun v i wr => ∃ k : Nat, k ≤ d.q.length ∧ i = .int .i64 k ∧ OutQ w1 v (keptQ (d.q.take k) f) wr) (fun v i _ => d.q.length - (intOf i).toNat)
  case atStart => exact ⟨0, Nat.zero_le _, rfl, Row.nil _ _ _ _, Fr.refl _ _⟩
  case round =>
    obtain ⟨k, hk, rfl, ho⟩ := hrel
    have hb := hb0.out.keep ho.2 fun h => h
    have hQr := hQ.out.fr ho.2
    have c1 : wr.cell? ⟨g, 1, none⟩ = some (.slice A d.q.length c) := hb.cell 1
    have f1 : wr.frozen? ⟨g, 1, none⟩ = false := hb.frozen 1
    have hlr := hb.lt
    have HO := Lib.hid ho
    obtain ⟨A1, cc1, rfl, -, hcm1⟩ := ho.1.form
    have hkl : (keptQ (d.q.take k) f).length ≤ 4194304 := Nat.le_trans (List.length_filter_le _ _) (by simp; omega)
    unfold maxLen at hcm1
    clear hb ho
    by_cases hlt : k < d.q.length
    · obtain ⟨p, hp⟩ : ∃ p, d.q[k]? = some p := ⟨_, List.getElem?_eq_getElem hlt⟩
      obtain ⟨b, rfl, hbb, y0, y1⟩ := hQr k p hp
      have hz : (k : Int) < (d.q.length : Int) := by omega
      have HK := Lib.hid (keptQ_take (f := f) hp)
      by_cases hpn : p.1 = f
      · have hpn' : (p.1 != f) = false := by simpa using hpn
        have hend : Hid (OutQ w1 (.slice A1 (keptQ (d.q.take k) f).length cc1) (keptQ (d.q.take (k + 1)) f) wr) := by
          show OutQ _ _ _ _
          rw [HK.out, if_pos hpn]
          exact HO.out
        clear hp hQr hpn
        go_wp2_with fail
        go_roundw
        case rel => exact ⟨k + 1, by omega, by go_num, hend.out⟩
        case measure => simp [intOf]; omega
      · have hpn' : (p.1 != f) = true := by simpa using hpn
        have hPN := Lib.hid hpn
        clear hp hQr hpn
        go_wp2_with (at_builtin; refine wpList_append_row _ rfl (.tmp 33) (.tmp 41) 63 rfl 84 _ 2 16 rsec_elem (Grow (fun _ => False) w1 wr) (.slice A1 (keptQ (d.q.take k) f).length cc1) (keptQ (d.q.take k) f).length (qcells (keptQ (d.q.take k) f)) rfl ?c0 _ 1 1 (qcells [p]) rfl ?c1 (qcells_ok _) ?c2 ?_)
        case c0 => exact Row.alloc HO.out.1 _
        case c1 => exact rd_newS _ _
        case c2 => omega
        intro v' w2 hrow2 hfr2
        obtain ⟨A2, cc2, rfl, -, -⟩ := hrow2.form
        have hend : Hid (OutQ w1 (.slice A2 ((keptQ (d.q.take k) f).length + 1) cc2) (keptQ (d.q.take (k + 1)) f) w2) := by
          show OutQ _ _ _ _
          rw [HK.out, if_neg hPN.out]
          exact HO.out.next ((Fr.refl _ wr).alloc _) hrow2 hfr2
        clear hrow2 hfr2
        go_wp2_with fail
        go_roundw
        case rel => exact ⟨k + 1, by omega, by go_num, hend.out⟩
        case measure => simp [intOf]; omega
    · have hz : ¬ (k : Int) < (d.q.length : Int) := by omega
      rw [List.take_of_length_le (by omega : d.q.length ≤ k)] at *
      have hend := Lib.hid (hfin.out _ _ HO.out)
      clear hQr
      go_wp2_with fail
      go_end0
      exact hend.out

end Go.Proofs.YtjgmbildgcighaaDoor
