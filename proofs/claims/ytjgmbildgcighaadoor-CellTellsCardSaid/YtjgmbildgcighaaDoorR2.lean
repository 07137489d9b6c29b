import Derived.Test.YtjgmbildgcighaaDoorR1
namespace Go.Proofs.YtjgmbildgcighaaDoor
open Go.RowKit

/-! set. -/
theorem rd_newF (w : World) (n : Int) (x : FileC) : Rd (w.alloc (.cells #[.int .i64 n, .string x.now, .string x.last] 86)) 3 (some ⟨w.heap.size, 0, none⟩) 1 (fcells [(n, x)]) := by
  rw [fcells_one]
  exact rd_new3 _ _ _ _ _
def keptF (L : List (Int × FileC)) (n : Int) : List (Int × FileC) := L.filter (fun p => decide (p.1 ≠ n))
theorem keptF_take {L : List (Int × FileC)} {n : Int} {k : Nat} {p : Int × FileC} (h : L[k]? = some p) : keptF (L.take (k + 1)) n = if p.1 = n then keptF (L.take k) n else keptF (L.take k) n ++ [p] := by
  obtain ⟨hl, rfl⟩ := List.getElem?_eq_some_iff.1 h
  unfold keptF
  rw [List.take_succ_eq_append_getElem hl, List.filter_append]
  split
  · rename_i he
    rw [List.filter_cons_of_neg (by simpa using he)]
    simp
  · rename_i he
    rw [List.filter_cons_of_pos (by simpa using he)]
    simp
/-- The new slice on its way: it lies in what is new. -/
def OutAt (w : World) (fv : Value) (L : List (Int × FileC)) (wr : World) : Prop := Row wr (Grow (fun _ => False) w wr) 86 3 fv L.length (fcells L) ∧ Fr (fun _ => False) w wr
theorem OutAt.next {w w0 w1 w2 : World} {v v' : Value} {L : List (Int × FileC)} {p : Int × FileC} (h : OutAt w v L w0) (h0 : Fr (fun _ => False) w0 w1) (hr : Row w2 (Grow (Grow (fun _ => False) w w0) w1 w2) 86 3 v' (L.length + 1) (fcells L ++ fcells [p])) (hf : Fr (Own v) w1 w2) : OutAt w v' (L ++ [p]) w2 := by
  have s1 := h.2.size
  have s2 := h0.size
  have s3 := hf.size
  refine ⟨?_, ((h.2.trans' h0 fun _ _ h => h.elim).trans' hf fun k hk e => ?_)⟩
  · rw [fcells_append]
    have : Row w2 (Grow (fun _ => False) w w2) 86 3 v' (L.length + 1) (fcells L ++ fcells [p]) := hr.more fun k _ hk => by
      rcases hk with (hk | hk) | hk
      · exact .inl hk
      · exact .inr (by omega)
      · exact .inr (by omega)
    simpa using this
  · rcases h.1.2 k e with h | h
    · exact h
    · omega
theorem set_end {w w1 : World} {F : Nat → Prop} {g : Nat} {kv fv qv fv' : Value} {d : DS} {L : List (Int × FileC)} {n : Int} {x : FileC} (h : RefX w F g kv d fv qv L) (ho : OutAt w fv' (putF L n x) w1) (hn : 0 ≤ n ∧ n < 16) (h1 : x.now.size ≤ 16777216) (h2 : x.last.size ≤ 16777216) :
    RPost w F g (.tuple #[]) kv { d with fs := upd d.fs n x } (.returned (.tuple #[])) (w1.setCell ⟨g, 0, none⟩ fv') := by
  have hinv : DInv { d with fs := upd d.fs n x } := by
    refine ⟨h.inv.nodup, h.inv.sect, fun m => ?_, fun m => ?_, h.inv.lost, h.inv.armed⟩
    · show (upd d.fs n x m).now.size ≤ _
      unfold upd; split
      · exact h1
      · exact h.inv.now m
    · show (upd d.fs n x m).last.size ≤ _
      unfold upd; split
      · exact h2
      · exact h.inv.last m
  obtain ⟨hX, hF⟩ := h.files_ (d' := { d with fs := upd d.fs n x }) ho.1 ho.2 hinv rfl rfl rfl rfl (fun m => by
    rw [lookF_put]
    show _ = upd d.fs n x m
    unfold upd
    split
    · rfl
    · exact h.look m) (putF_keys h.keys) (putF_range h.range hn)
  refine ⟨rfl, ?_, hF⟩
  have hs : (w1.setCell ⟨g, 0, none⟩ fv').heap.size = w1.heap.size := by simp [World.setCell]
  exact RefAt.more ⟨_, _, _, hX⟩ (fun k hk => hk.imp id fun hk => by rw [hs]; exact hk) (grow_lt h.lt hF.size)
set_option maxRecDepth 100000 in
set_option maxHeartbeats 1600000 in
theorem rset_any (g : Nat) (d : DS) (kv : Value) (n : Int) (x : FileC) (w : World) (F : Nat → Prop) (h : RefAt w F g kv d) (hn : 0 ≤ n ∧ n < 16) (h1 : x.now.size ≤ 16777216) (h2 : x.last.size ≤ 16777216) :
    Calls Tryd.prog 50 #[.pointer (some ⟨g, 0, none⟩), .agg #[.int .i64 n, .string x.now, .string x.last]] w (RPost w F g (.tuple #[]) kv { d with fs := upd d.fs n x }) := by
  obtain ⟨fv, qv, L, h⟩ := h
  have hlen := h.len
  have hlg := h.blk.lt
  have hlF := Lib.hid h.lt
  obtain ⟨A, c, rfl, -, hcm⟩ := h.files.form
  have hfin : Hid (∀ fv' wr, OutAt (w.alloc (.cells #[.int .i64 n, .string x.now, .string x.last] 86)) fv' (putF L n x) wr → RPost w F g (.tuple #[]) kv { d with fs := upd d.fs n x } (.returned (.tuple #[])) (wr.setCell ⟨g, 0, none⟩ fv')) := by
    intro fv' wr ho
    have ha := (Fr.refl (fun _ => False) w).alloc (.cells #[.int .i64 n, .string x.now, .string x.last] 86)
    refine set_end h ⟨ho.1.more fun k _ hk => hk.imp id fun hk => ⟨by have := ha.size; omega, hk.2⟩, ha.trans' ho.2 fun _ _ h => h⟩ hn h1 h2
  have hb0 := Lib.hid (h.blk.alloc (.cells #[.int .i64 n, .string x.now, .string x.last] 86))
  have hL := Lib.hid (h.files.fat.fr ((Fr.refl _ w).alloc (.cells #[.int .i64 n, .string x.now, .string x.last] 86)))
  have hbn := Lib.hid (Blk.new w 86 #[.int .i64 n, .string x.now, .string x.last])
  have hxl : w.heap.size < (w.alloc (.cells #[.int .i64 n, .string x.now, .string x.last] 86)).heap.size := by simp
  clear h
  unfold maxLen at hcm
  go_enter Tryd.func50, Tryd.ntmps50
  go_wp2_with fail
  generalize w.alloc (.cells #[.int .i64 n, .string x.now, .string x.last] 86) = w1 at *
  generalize hy : w.heap.size = y at *
  go_loopw [4, 5] (fun v i wr => ∃ k : Nat, k ≤ L.length ∧ i = .int .i64 k ∧ OutAt w1 v (keptF (L.take k) n) wr) (fun v i _ => L.length - (intOf i).toNat)
  case atStart => exact ⟨0, Nat.zero_le _, rfl, Row.nil _ _ _ _, Fr.refl _ _⟩
  case round =>
    obtain ⟨k, hk, rfl, ho⟩ := hrel
    have hb := hb0.out.keep ho.2 fun h => h
    have hbx := hbn.out.keep ho.2 fun h => h
    have hLr := hL.out.fr ho.2
    have c0 : wr.cell? ⟨g, 0, none⟩ = some (.slice A L.length c) := hb.cell 0
    have x0 : wr.cell? ⟨y, 0, none⟩ = some (.int .i64 n) := hbx.cell 0
    have x1 : wr.cell? ⟨y, 1, none⟩ = some (.string x.now) := hbx.cell 1
    have x2 : wr.cell? ⟨y, 2, none⟩ = some (.string x.last) := hbx.cell 2
    have f0 : wr.frozen? ⟨g, 0, none⟩ = false := hb.frozen 0
    have hlr := hb.lt
    have HB := Lib.hid hb
    have HO := Lib.hid ho
    obtain ⟨A1, cc1, rfl, -, hcm1⟩ := ho.1.form
    have hkl : (keptF (L.take k) n).length ≤ 16 := Nat.le_trans (List.length_filter_le _ _) (by simp; omega)
    unfold maxLen at hcm1
    clear hb hbx ho
    by_cases hlt : k < L.length
    · obtain ⟨p, hp⟩ : ∃ p, L[k]? = some p := ⟨_, List.getElem?_eq_getElem hlt⟩
      obtain ⟨b, rfl, hbb, y0, y1, y2⟩ := hLr k p hp
      have hz : (k : Int) < (L.length : Int) := by omega
      have HK := Lib.hid (keptF_take (n := n) hp)
      by_cases hpn : p.1 = n
      · have hpn' : (p.1 != n) = false := by simpa using hpn
        have hend : Hid (∀ q, OutAt w1 (.slice A1 (keptF (L.take k) n).length cc1) (keptF (L.take (k + 1)) n) (wr.drewN q)) := by
          intro q
          rw [HK.out, if_pos hpn]
          exact ⟨HO.out.1, HO.out.2.drewN q⟩
        clear hp hLr hpn
        go_wp2_with fail
        go_quiet (fail)
        go_wp2_with fail
        go_roundw
        case rel => exact ⟨k + 1, by omega, by go_num, hend.out _⟩
        case measure => simp [intOf]; omega
      · have hpn' : (p.1 != n) = true := by simpa using hpn
        have hPN := Lib.hid hpn
        clear hp hLr hpn
        go_wp2_with fail
        go_quiet (fail)
        go_wp2_with (at_builtin; refine wpList_append_row _ rfl (.tmp 26) (.tmp 34) 62 rfl 86 _ 3 40 rfile_elem (Grow (fun _ => False) w1 wr) (.slice A1 (keptF (L.take k) n).length cc1) (keptF (L.take k) n).length (fcells (keptF (L.take k) n)) rfl ?c0 _ 1 1 (fcells [p]) rfl ?c1 (fcells_ok _) ?c2 ?_)
        case c0 => exact Row.alloc (HO.out.1.drewN _) _
        case c1 => exact rd_newF _ _ _
        case c2 => omega
        intro v' w2 hrow2 hfr2
        obtain ⟨A2, cc2, rfl, -, -⟩ := hrow2.form
        have hend : Hid (OutAt w1 (.slice A2 ((keptF (L.take k) n).length + 1) cc2) (keptF (L.take (k + 1)) n) w2) := by
          show OutAt _ _ _ _
          rw [HK.out, if_neg hPN.out]
          exact HO.out.next (((Fr.refl _ wr).drewN _).alloc _) hrow2 hfr2
        clear hrow2 hfr2
        go_wp2_with fail
        go_roundw
        case rel => exact ⟨k + 1, by omega, by go_num, hend.out⟩
        case measure => simp [intOf]; omega
    · have hz : ¬ (k : Int) < (L.length : Int) := by omega
      clear hLr
      rw [List.take_of_length_le (by omega : L.length ≤ k)] at *
      go_wp2_with (at_builtin; refine wpList_append_row _ rfl (.tmp 37) (.tmp 39) 62 rfl 86 _ 3 40 rfile_elem (Grow (fun _ => False) w1 wr) (.slice A1 (keptF L n).length cc1) (keptF L n).length (fcells (keptF L n)) rfl ?c0 _ 1 1 (fcells [(n, x)]) rfl ?c1 (fcells_ok _) ?c2 ?_)
      case c0 => exact Row.alloc HO.out.1 _
      case c1 => exact rd_newF _ _ _
      case c2 => omega
      intro v' w2 hrow2 hfr2
      obtain ⟨A2, cc2, rfl, -, -⟩ := hrow2.form
      have ho2 : OutAt w1 (.slice A2 ((keptF L n).length + 1) cc2) (putF L n x) w2 := HO.out.next ((Fr.refl _ wr).alloc _) hrow2 hfr2
      have hend := Lib.hid (hfin.out _ _ ho2)
      have hb2 := hb0.out.keep ho2.2 fun h => h
      have e0 : w2.cell? ⟨g, 0, none⟩ = some (.slice A L.length c) := hb2.cell 0
      have e1 : w2.frozen? ⟨g, 0, none⟩ = false := hb2.frozen 0
      have hl2 := hb2.lt
      clear hrow2 hfr2 ho2 hb2 c0 x0 x1 x2 f0
      go_wp2_with fail
      go_end0
      exact hend.out
end Go.Proofs.YtjgmbildgcighaaDoor
