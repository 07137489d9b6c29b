import Derived.Test.YtjgmbildgcighaaDoorR4
namespace Go.Proofs.YtjgmbildgcighaaDoor
open Go.RowKit

/-! add. -/
def RwRel (w : World) (F : Nat → Prop) (g : Nat) (kv : Value) (d : DS) (f n : Int) (k : Nat) (wr : World) : Prop := RefAt wr (Grow F w wr) g kv (addD d f n k) ∧ Fr F w wr
theorem rw_next {w wr w0 w2 : World} {F : Nat → Prop} {g : Nat} {kv fv qv qv' : Value} {d : DS} {f n : Int} {k : Nat} {L : List (Int × FileC)} (hx : RefX wr (Grow F w wr) g kv (addD d f n k) fv qv L) (hf : Fr F w wr) (hl : ∀ k, F k → k < w.heap.size)
    (hinv : DInv (addD d f n (k + 1))) (hout : (f, n + k) ∉ addQ d.q f n k) (h0 : Fr (fun _ => False) wr w0) (hr : Row w2 (Grow (Grow F w wr) w0 w2) 84 2 qv' ((addQ d.q f n k).length + 1) (qcells (addQ d.q f n k) ++ qcells [(f, n + (k : Int))])) (hf2 : Fr (Own qv) w0 w2) :
    RwRel w F g kv d f n (k + 1) (w2.setCell ⟨g, 1, none⟩ qv') := by
  have hx0 := hx.keep h0 fun _ _ h => h
  have s1 := hf.size
  have s2 := h0.size
  have s3 := hf2.size
  have hr2 : Row w2 (Grow (Grow F w wr) w0 w2) 84 2 qv' (addD d f n (k + 1)).q.length (qcells (addD d f n (k + 1)).q) := by
    show Row _ _ _ _ _ (addQ d.q f n (k + 1)).length (qcells (addQ d.q f n (k + 1)))
    rw [addQ_out hout, qcells_append]
    simpa using hr
  obtain ⟨hX, hF⟩ := hx0.queue_ (d' := addD d f n (k + 1)) hr2 hf2 hinv rfl rfl rfl rfl
  have hs : (w2.setCell ⟨g, 1, none⟩ qv').heap.size = w2.heap.size := by simp [World.setCell]
  have hFF : Fr F w (w2.setCell ⟨g, 1, none⟩ qv') := (hf.trans' h0 fun _ _ h => h.elim).trans' hF fun k hk h => by
    rcases h with h | h
    · exact h
    · omega
  refine ⟨RefAt.more ⟨_, _, _, hX⟩ (fun j hj => ?_) (grow_lt hl hFF.size), hFF⟩
  rcases hj with (h | h) | h
  · exact .inl h
  · exact .inr (by rw [hs]; omega)
  · exact .inr (by rw [hs]; omega)
set_option maxRecDepth 100000 in
set_option maxHeartbeats 3200000 in
theorem radd_ok (g : Nat) (d : DS) (kv : Value) (f : Int) (a : Nat) (s : ByteArray) (w : World) (F : Nat → Prop) (h : RefAt w F g kv d) (hf0 : 0 ≤ f) (hf1 : f < 16) (ha : a ≤ 16777216) (hs : a + s.size ≤ 16777216) (hs0 : ¬ s.size = 0) (hdn : d.down = false) :
    Calls Tryd.prog 39 #[.pointer (some ⟨g, 0, none⟩), .int .i64 f, .int .i64 a, .string s] w (RPost w F g (.tuple #[]) kv (wrD d f a s)) := by
  have HAt := Lib.hid h
  have hm : mayE d f = 0 := by unfold mayE; rw [hdn, if_neg (by simp), if_neg (by omega), if_neg (by omega)]
  have hwE := wrE_ok (d := d) (f := f) (a := a) (s := s) hm (by omega) (by omega) (by omega)
  have hinv := h.inv
  have hnow := hinv.now f
  have hlast := hinv.last f
  have hse := toList_empty hs0
  have hse2 := ne_empty hs0
  have hI := hinv.wr f a s
  rw [wrD_add hwE hs0] at hI
  have hI1 : DInv { d with fs := upd d.fs f ⟨putB (d.fs f).now a s, (d.fs f).last⟩ } := ⟨hinv.nodup, hinv.sect, hI.now, hI.last, hinv.lost, hinv.armed⟩
  have hput : (putB (d.fs f).now a s).size ≤ 16777216 := by
    rw [size_putB, if_neg hs0]; omega
  have HW := Lib.hid (wrD_add hwE hs0)
  have HI1 := Lib.hid hI1
  clear h hm hdn hwE hI hI1 hinv
  go_enter Tryd.func39, Tryd.ntmps39
  go_wp2_with fail
  refine (rget_any g d kv f _ F HAt.out).mono ?_
  rintro e w1 ⟨rfl, hf⟩
  have H1 := Lib.hid (HAt.out.keep hf fun _ _ h => h)
  have F1 := Lib.hid hf
  clear hf
  go_wp2_with fail
  have H2 := Lib.hid (H1.out.alloc (.cells #[.int .i64 f, .string (d.fs f).now, .string (d.fs f).last] 86))
  have B2 := Lib.hid (Blk.new w1 86 #[.int .i64 f, .string (d.fs f).now, .string (d.fs f).last])
  have F2 := Lib.hid (F1.out.alloc (.cells #[.int .i64 f, .string (d.fs f).now, .string (d.fs f).last] 86))
  have hx1 : w.heap.size ≤ w1.heap.size := F1.out.size
  clear H1 F1
  generalize w1.alloc (.cells #[.int .i64 f, .string (d.fs f).now, .string (d.fs f).last] 86) = w2 at *
  generalize w1.heap.size = x at *
  refine (rput_any (d.fs f).now s a _ hnow hs).mono ?_
  rintro e w3 ⟨rfl, hf3⟩
  have hb3 := B2.out.keep hf3 fun h => h
  have x0 : w3.cell? ⟨x, 0, none⟩ = some (.int .i64 f) := hb3.cell 0
  have x1 : w3.cell? ⟨x, 1, none⟩ = some (.string (d.fs f).now) := hb3.cell 1
  have x2 : w3.cell? ⟨x, 2, none⟩ = some (.string (d.fs f).last) := hb3.cell 2
  have y1 : w3.frozen? ⟨x, 1, none⟩ = false := hb3.frozen 1
  have hxl := hb3.lt
  have hf4 : Fr (fun k => k = x) w3 (w3.setCell ⟨x, 1, none⟩ (.string (putB (d.fs f).now a s))) := (Fr.refl (fun k => k = x) w3).setCell (p := ⟨x, 1, none⟩) (fun _ => rfl) _
  have H4 := Lib.hid ((H2.out.keep hf3 fun _ _ h => h).keep hf4 fun k hk e => by have := HAt.out.lt k hk; omega)
  have F4 := Lib.hid (((F2.out.trans' hf3 fun _ _ h => h).trans' hf4 fun k hk e => by omega : Fr (fun _ => False) w _))
  clear hf3 hb3 hf4 H2 B2 F2
  go_wp2_with fail
  refine (rset_any g d kv f ⟨putB (d.fs f).now a s, (d.fs f).last⟩ _ F H4.out ⟨hf0, hf1⟩ hput hlast).mono ?_
  intro e w5 hp
  obtain ⟨rfl, hd5, hf5⟩ := hp
  have hst : Hid (RwRel w F g kv { d with fs := upd d.fs f ⟨putB (d.fs f).now a s, (d.fs f).last⟩ } f (((a / 64 : Nat)) : Int) 0 w5) := by
    have s4 := F4.out.size
    refine ⟨hd5.more (fun k hk => hk.imp id fun h => by omega) (grow_lt HAt.out.lt (by have := hf5.size; omega)), (F4.out.mono fun _ _ h => h.elim).trans' hf5 fun _ _ h => h⟩
  clear x0 x1 x2 y1 hd5 hf5 H4 F4 hput hnow hlast
  generalize hd' : { d with fs := upd d.fs f ⟨putB (d.fs f).now a s, (d.fs f).last⟩ } = d1 at *
  clear hd'
  have hdiv : ((a : Int) + (s.size : Int) - 1) / 64 = (((a + s.size - 1) / 64 : Nat) : Int) := by omega
  have hb1 : a / 64 ≤ (a + s.size - 1) / 64 := by omega
  have hb2 : (a + s.size - 1) / 64 < 262144 := by omega
  obtain ⟨n0, hn0⟩ : ∃ n0, a / 64 = n0 := ⟨_, rfl⟩
  obtain ⟨nb, hnb⟩ : ∃ nb, (a + s.size - 1) / 64 = nb := ⟨_, rfl⟩
  rw [hn0] at hst HW hb1
  rw [hnb] at HW hb1 hb2 hdiv
  have HN0 := Lib.hid hn0
  clear hn0 hnb
  go_wp2_with fail
  go_loopw [9] (fun i wr => ∃ k : Nat, n0 + k ≤ nb + 1 ∧ i = .int .i64 ((n0 + k : Nat) : Int) ∧ RwRel w F g kv d1 f (n0 : Int) k wr) (fun i _ => nb + 1 - (intOf i).toNat)
  case atStart => exact ⟨0, by omega, by rw [← HN0.out]; go_num, hst.out⟩
  case round =>
    obtain ⟨k, hk, rfl, hrel⟩ := hrel
    have HR := Lib.hid hrel
    obtain ⟨⟨fv, qv, L, hx⟩, hfr⟩ := hrel
    have HX := Lib.hid hx
    have hlen : (addD d1 f n0 k).q.length ≤ 4194304 := hx.inv.len
    have hlg := hx.blk.lt
    obtain ⟨A0, c0, rfl, -, -⟩ := hx.queue.form
    have c1 : wr.cell? ⟨g, 1, none⟩ = some (.slice A0 (addD d1 f n0 k).q.length c0) := hx.blk.cell 1
    have f1 : wr.frozen? ⟨g, 1, none⟩ = false := hx.blk.frozen 1
    clear hst hx
    by_cases hlt2 : n0 + k ≤ nb
    · have hz : ((n0 + k : Nat) : Int) ≤ (nb : Int) := by omega
      have hnk : ((n0 + k : Nat) : Int) = (n0 : Int) + (k : Int) := by omega
      have HNK := Lib.hid hnk
      have hinv2 : DInv (addD d1 f n0 (k + 1)) := HI1.out.add ⟨hf0, hf1⟩ (by omega) (by omega)
      clear hnk
      generalize hm : ((n0 + k : Nat) : Int) = m at *
      have hpd := rpending_any g (addD d1 f n0 k) kv f m wr _ HR.out.1
      cases hin : decide ((f, m) ∈ (addD d1 f n0 k).q)
      · rw [hin] at hpd
        have hout : (f, (n0 : Int) + (k : Int)) ∉ addQ d1.q f n0 k := by rw [← HNK.out]; exact of_decide_eq_false hin
        have HPD := Lib.hid hpd
        clear hin hpd
        go_wp2_with fail
        refine HPD.out.mono ?_
        rintro e _ ⟨rfl, rfl⟩
        clear HPD
        go_wp2_with (at_builtin; refine wpList_append_row _ rfl (.tmp 45) (.tmp 49) 63 rfl 84 _ 2 16 rsec_elem (Grow F w wr) (.slice A0 (addD d1 f n0 k).q.length c0) (addD d1 f n0 k).q.length (qcells (addD d1 f n0 k).q) rfl ?c0 _ 1 1 (qcells [(f, m)]) rfl ?c1 (qcells_ok _) ?c2 ?_)
        case c0 => exact Row.alloc HX.out.queue _
        case c1 => exact rd_newS _ (f, m)
        case c2 => omega
        intro v' w6 hrow6 hfr6
        have hend : Hid (RwRel w F g kv d1 f n0 (k + 1) (w6.setCell ⟨g, 1, none⟩ v')) := by
          have hq : qcells [(f, m)] = qcells [(f, (n0 : Int) + (k : Int))] := by rw [HNK.out]
          rw [hq] at hrow6
          exact rw_next HX.out hfr HAt.out.lt hinv2 hout ((Fr.refl _ wr).alloc _) hrow6 hfr6
        have hb6 := ((HX.out.alloc _).blk.keep hfr6 HX.out.qg)
        have e1 : w6.cell? ⟨g, 1, none⟩ = some (.slice A0 (addD d1 f n0 k).q.length c0) := hb6.cell 1
        have e2 : w6.frozen? ⟨g, 1, none⟩ = false := hb6.frozen 1
        have hl6 := hb6.lt
        obtain ⟨A6, c6, rfl, -, -⟩ := hrow6.form
        clear hrow6 hfr6 hb6 c1 f1
        go_wp2_with fail
        go_roundw
        case rel => exact ⟨k + 1, by omega, by rw [← hm]; go_num, hend.out⟩
        case measure => simp [intOf]; omega
      · rw [hin] at hpd
        have HPD := Lib.hid hpd
        have hend : Hid (RwRel w F g kv d1 f n0 (k + 1) wr) := by
          have hin2 : (f, (n0 : Int) + (k : Int)) ∈ addQ d1.q f n0 k := by rw [← HNK.out]; exact of_decide_eq_true hin
          have e : addD d1 f n0 (k + 1) = addD d1 f n0 k := by unfold addD; rw [addQ_in hin2]
          refine ⟨?_, hfr⟩
          rw [e]
          exact HR.out.1
        clear hin hpd
        go_wp2_with fail
        refine HPD.out.mono ?_
        rintro e _ ⟨rfl, rfl⟩
        clear HPD
        go_wp2_with fail
        go_roundw
        case rel => exact ⟨k + 1, by omega, by rw [← hm]; go_num, hend.out⟩
        case measure => simp [intOf]; omega
    · have hz : ¬ ((n0 + k : Nat) : Int) ≤ (nb : Int) := by omega
      have hend : Hid (RPost w F g (.tuple #[]) kv (wrD d f a s) (.returned (.tuple #[])) wr) := by
        refine ⟨rfl, ?_, hfr⟩
        rw [HW.out, show nb - n0 + 1 = k by omega]
        exact HR.out.1
      clear hfr c1 f1
      go_wp2_with fail
      go_end0
      exact hend.out
theorem wrD_none {d : DS} {f a : Int} {s : ByteArray} (h : s.size = 0) : wrD d f a s = d := by unfold wrD; rw [if_neg (fun hc => hc.2 h)]
set_option maxRecDepth 100000 in
set_option maxHeartbeats 400000 in
theorem radd_any (g : Nat) (d : DS) (kv : Value) (f : Int) (a : Nat) (s : ByteArray) (w : World) (F : Nat → Prop) (h : RefAt w F g kv d) (hf0 : 0 ≤ f) (hf1 : f < 16) (ha : a ≤ 16777216) (hs : a + s.size ≤ 16777216) (hdn : d.down = false) :
    Calls Tryd.prog 39 #[.pointer (some ⟨g, 0, none⟩), .int .i64 f, .int .i64 a, .string s] w (RPost w F g (.tuple #[]) kv (wrD d f a s)) := by
  by_cases hs0 : s.size = 0
  · have hend : Hid (RPost w F g (.tuple #[]) kv (wrD d f a s) (.returned (.tuple #[])) w) := by
      show RPost _ _ _ _ _ _ _ _
      rw [wrD_none hs0]; exact h.same 0
    obtain rfl := eq_empty hs0
    clear h hs0
    go_enter Tryd.func39, Tryd.ntmps39
    go_wp2_with fail
    go_end0
    exact hend.out
  · exact radd_ok g d kv f a s w F h hf0 hf1 ha hs hs0 hdn

end Go.Proofs.YtjgmbildgcighaaDoor
