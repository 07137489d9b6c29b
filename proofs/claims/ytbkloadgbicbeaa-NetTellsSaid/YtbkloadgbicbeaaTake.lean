import Derived.Test.YtbkloadgbicbeaaSend
namespace Go.Proofs.Ytbkloadgbicbeaa
open Go.RowKit

def DelPost (w : World) (g n cap i : Nat) (cur : Array Value) (e : Ending) (w' : World) : Prop :=
  e = .returned (.slice (some ⟨g, 0, none⟩) (n - 1) cap) ∧ Fr (fun k => k = g) w w' ∧
  ∃ cur', Blk w' g 34 cur' ∧ cur'.size = cap * 3 ∧ cur'.toList.take ((n - 1) * 3) = cur.toList.take (i * 3) ++ (cur.toList.take (n * 3)).drop ((i + 1) * 3)

theorem del_len {cur : Array Value} {n cap i : Nat} (hs : cur.size = cap * 3) (hn : n ≤ cap) (hi : i < n) : ((cur.toList.take (n * 3)).drop ((i + 1) * 3)).length = (n - (i + 1)) * 3 := by
  simp; omega
theorem del_fit {cur : Array Value} {n cap i : Nat} (hs : cur.size = cap * 3) (hn : n ≤ cap) (hi : i < n) : i * 3 + (n - (i + 1)) * 3 ≤ cur.size := by omega
theorem del_ok {xs : List Value} {j : Nat} (h : ∀ u ∈ xs, u.oneCell' = true) : ∀ u ∈ xs.drop j, u.oneCell' = true := fun u hu => h u (List.mem_of_mem_drop hu)

theorem del_end {cur : Array Value} {z : Value} {w w1 w2 : World} {g n cap i : Nat} (hs : cur.size = cap * 3) (hn : n ≤ cap) (hi : i < n)
    (hf1 : Fr (fun k => k = g) w.drew w1) (hz : z.cells.size = 3)
    (hb2 : Blk w2 g 34 (splice (splice cur (i * 3) ((cur.toList.take (n * 3)).drop ((i + 1) * 3))) ((n - 1) * 3) (zeros z 1))) (hf2 : Fr (fun k => k = g) w1 w2) :
    DelPost w g n cap i cur (.returned (.slice (some ⟨g, 0, none⟩) (i + (n - (i + 1))) cap)) w2 := by
  have hl := del_len hs hn hi
  have hs1 : (splice cur (i * 3) ((cur.toList.take (n * 3)).drop ((i + 1) * 3))).size = cur.size := size_splice (by rw [hl]; omega)
  refine ⟨by rw [show i + (n - (i + 1)) = n - 1 by omega], ?_, _, hb2, ?_, ?_⟩
  · exact (Fr.trans ((Fr.refl _ w).drew.trans' hf1 fun _ _ h => h) hf2)
  · rw [size_splice (by rw [length_zeros, hz, hs1]; omega), hs1, hs]
  · rw [take_splice_lo (Nat.le_refl _) (by rw [hs1]; omega), show (n - 1) * 3 = i * 3 + ((cur.toList.take (n * 3)).drop ((i + 1) * 3)).length by rw [hl]; omega, take_splice_hi (by omega)]

set_option maxRecDepth 100000 in
set_option maxHeartbeats 800000 in
theorem delete_row (g n cap i : Nat) (cur : Array Value) (w : World) (hb : Blk w g 34 cur) (hsz : cur.size = cap * 3) (hn : n ≤ cap) (hcm0 : cap ≤ maxLen) (hi : i < n)
    (hok : ∀ u ∈ cur.toList.take (n * 3), u.oneCell' = true) :
    Calls Try.prog 35 #[.slice (some ⟨g, 0, none⟩) n cap, .int .i64 i, .int .i64 (i + 1)] w (DelPost w g n cap i cur) := by
  have hcm := hcm0
  unfold maxLen at hcm
  have hic : i ≤ cap := by omega
  have hjc : i + 1 ≤ cap := by omega
  have hz1 : (0 : Int) ≤ (i : Int) + 1 := by omega
  have hz2 : (i : Int) + 1 ≤ (n : Int) := by omega
  have hne : ((i : Int) == (i : Int) + 1) = false := by simp; omega
  obtain ⟨A, hA, hsrc⟩ : ∃ A : Addr, (if cap = i + 1 then some (⟨g, 0, none⟩ : Addr) else some ⟨g, (i + 1) * 3, none⟩) = some A ∧ Hid (∀ t u, ((cur.toList.take (n * 3)).drop ((i + 1) * 3))[t]? = some u → w.cell? (A.add t) = some u) := by
    by_cases h : cap = i + 1
    · refine ⟨_, by simp [h]; rfl, fun t u hu => ?_⟩
      have h0 : n = i + 1 := by omega
      subst h0
      rw [List.drop_eq_nil_of_le (by simp; omega)] at hu
      simp at hu
    · refine ⟨_, by simp [h]; rfl, fun t u hu => ?_⟩
      rw [Addr.add_lit, hb.cell]
      rw [List.getElem?_drop, List.getElem?_take] at hu
      split at hu
      · simpa using hu
      · simp at hu
  have HB := Lib.hid hb
  have HS := Lib.hid hsz
  have HO := Lib.hid hok
  clear hb hsz hok
  go_enter Try.func35, Try.ntmps35
  go_wp2_with fail
  go_region_law (refine step_append_blk _ rfl (.tmp 22) (.tmp 25) 28 rfl 34 _ 3 32 pkt_elem g i cap cur (Blk.drew HB.out) (by simp [Act.eval, Act.put]) A (n - (i + 1)) (cap - (i + 1)) ((cur.toList.take (n * 3)).drop ((i + 1) * 3)) (by simp [Act.eval, Act.put]) (del_len HS.out hn hi) hsrc.out (del_ok HO.out) (by omega) (del_fit HS.out hn hi) ?_; intro w1 hb1 hf1)
  have hfin := Lib.hid (fun w2 hb2 hf2 => del_end (w := w) (w2 := w2) (z := .agg #[.int .i64 0, .int .i64 0, .string ⟨#[]⟩]) HS.out hn hi hf1 rfl hb2 hf2)
  have HC1 := Lib.hid (show (splice cur (i * 3) ((cur.toList.take (n * 3)).drop ((i + 1) * 3))).size = cap * 3 by rw [size_splice (by rw [del_len HS.out hn hi]; exact del_fit HS.out hn hi), HS.out])
  have HB1 := Lib.hid hb1
  clear hb1 hf1 hsrc hA HO
  go_wp2_with (refine wpList_clear_row _ rfl (.tmp 31) 28 rfl 34 _ 3 32 pkt_elem (by decide) g ((n - 1) * 3) 1 (cap - (n - 1)) _ ?c1 HB1.out ?c2 ?_)
  case c1 =>
    show Value.slice (some ⟨g, (i + (n - (i + 1))) * 3, none⟩) (n - (i + (n - (i + 1)))) (cap - (i + (n - (i + 1)))) = _
    rw [show i + (n - (i + 1)) = n - 1 by omega, show n - (n - 1) = 1 by omega]
  case c2 => rw [HC1.out]; omega
  intro w2 hb2 hf2
  have hend := Lib.hid (hfin.out w2 hb2 hf2)
  clear hb2 hf2 hfin
  go_wp2_with fail
  go_ret
  exact hend.out

def Pkt.agg (p : Pkt) : Value := .agg #[.int .i64 p.f, .int .i64 p.t, .string p.b]
def pkt0 : Pkt := ⟨0, 0, ⟨#[]⟩⟩

set_option maxRecDepth 100000 in
set_option maxHeartbeats 800000 in
theorem take_no (g : Nat) (ps : List Pkt) (s i : Int) (w : World) (F : Nat → Prop) (h : NetAt w F 56 g ps s) (hi : i < 0 ∨ (ps.length : Int) ≤ i) :
    Calls Try.prog 26 #[.pointer (some ⟨g, 0, none⟩), .int .i64 i] w (NetPost w F 56 g (.tuple #[pkt0.agg, .bool false]) ps s) := by
  have HN := Lib.hid h
  obtain ⟨-, hg, v, hb, hrow⟩ := h
  obtain ⟨A, c, rfl, hc, hcm⟩ := hrow.form
  have hc0 : w.cell? ⟨g, 0, none⟩ = some (.slice A ps.length c) := hb.cell 0
  have hlt := hb.lt
  unfold maxLen at hcm
  clear hb hrow
  rcases hi with hi | hi
  · go_enter Try.func26, Try.ntmps26
    go_wp2_with fail
    exact bodyPost_ret (v := .tuple #[pkt0.agg, .bool false]) (by simp [results, Try.results26, go_sem]; rfl) rfl (HN.out.post0 (HN.out.alloc _) ((Fr.refl _ _).alloc _))
  · by_cases h0 : i < 0
    · omega
    · go_enter Try.func26, Try.ntmps26
      go_wp2_with fail
      exact bodyPost_ret (v := .tuple #[pkt0.agg, .bool false]) (by simp [results, Try.results26, go_sem]; rfl) rfl (HN.out.post0 (HN.out.alloc _) ((Fr.refl _ _).alloc _))

theorem pcells_cons (p : Pkt) (ps : List Pkt) : pcells (p :: ps) = [.int .i64 p.f, .int .i64 p.t, .string p.b] ++ pcells ps := rfl
theorem pcells_at (ps : List Pkt) (i : Nat) (p : Pkt) (h : ps[i]? = some p) :
    (pcells ps)[i * 3]? = some (.int .i64 p.f) ∧ (pcells ps)[i * 3 + 1]? = some (.int .i64 p.t) ∧ (pcells ps)[i * 3 + 2]? = some (.string p.b) := by
  induction ps generalizing i with
  | nil => simp at h
  | cons q qs ih =>
    rw [pcells_cons]
    cases i with
    | zero => simp at h; subst h; exact ⟨rfl, rfl, rfl⟩
    | succ i =>
      have := ih i (by simpa using h)
      rw [show (i + 1) * 3 = i * 3 + 3 by omega]
      refine ⟨?_, ?_, ?_⟩
      · rw [List.getElem?_append_right (by simp)]; simpa using this.1
      · rw [List.getElem?_append_right (by simp)]; simpa using this.2.1
      · rw [List.getElem?_append_right (by simp)]; simpa using this.2.2
theorem pcells_erase (ps : List Pkt) (i : Nat) (h : i < ps.length) : pcells (ps.eraseIdx i) = (pcells ps).take (i * 3) ++ (pcells ps).drop ((i + 1) * 3) := by
  induction ps generalizing i with
  | nil => simp at h
  | cons q qs ih =>
    cases i with
    | zero => simp [pcells_cons]
    | succ i =>
      simp only [List.eraseIdx_cons_succ, pcells_cons, ih i (by simpa using h)]
      rw [show (i + 1 + 1) * 3 = (i + 1) * 3 + 3 by omega, show (i + 1) * 3 = i * 3 + 3 by omega]
      simp
theorem take_end {w w1 w' : World} {F : Nat → Prop} {g g' : Nat} {ps : List Pkt} {s : Int} {cap i : Nat} {cur : Array Value} {o1 o2 : Obj} {e : Ending} {r : Value}
    (hN : NetAt w F 56 g ps s) (hg : F g) (hb : Blk w g 56 #[.slice (some ⟨g', 0, none⟩) ps.length cap, .int .i64 s]) (hrow : Row w F 34 3 (.slice (some ⟨g', 0, none⟩) ps.length cap) ps.length (pcells ps))
    (hlt' : g' < w.heap.size)
    (hcap : ps.length ≤ cap) (hm : cap ≤ maxLen) (hcur : cur.toList.take (ps.length * 3) = pcells ps) (hi : i < ps.length)
    (hd : DelPost ((w.alloc o1).alloc o2) g' ps.length cap i cur e w1) (hw : Fr (fun k => k = w.heap.size) (w1.setCell ⟨g, 0, none⟩ (.slice (some ⟨g', 0, none⟩) (ps.length - 1) cap)) w') :
    NetPost w F 56 g r (ps.eraseIdx i) s (.returned r) w' := by
  obtain ⟨_, hf, cur', hb', hsz', hc'⟩ := hd
  have hlt := hb.lt
  have hne : g ≠ g' := by
    have := own_blk_ne hrow.1 hb (by decide)
    simpa [Value.ownBlock, eq_comm] using this
  have hb1 : Blk w1 g 56 #[.slice (some ⟨g', 0, none⟩) ps.length cap, .int .i64 s] := ((hb.alloc o1).alloc o2).keep hf hne
  have hF' : F g' := hrow.2 g' (by simp [Value.ownBlock])
  have hf2 : Fr F w w' := by
    refine Fr.trans' ?_ hw (fun k hk h => by omega)
    refine Fr.setCell ?_ (fun _ => hg) _
    exact (((Fr.refl F w).alloc o1).alloc o2).trans' hf fun k _ h => by rw [h]; exact hF'
  refine hN.post0 ⟨fun k hk => Nat.lt_of_lt_of_le (hN.1 k hk) hf2.size, hg, .slice (some ⟨g', 0, none⟩) (ps.length - 1) cap, Blk.keep (by simpa using hb1.set_ 0 _) hw (by omega), ?_⟩ hf2
  have hl : (ps.eraseIdx i).length = ps.length - 1 := by rw [List.length_eraseIdx]; simp [hi]
  rw [hl]
  refine ⟨⟨by rw [length_pcells, hl], .inr ⟨g', cap, cur', rfl, Nat.zero_le _, Blk.keep (hb'.far (p := ⟨g, 0, none⟩) (Ne.symm hne) _) hw (by omega), by omega, hm, hsz', ?_⟩⟩, ?_⟩
  · rw [hc', pcells_erase _ _ hi, ← hcur, List.take_take, Nat.min_eq_left (by omega)]
  · intro k hk
    have : g' = k := by simpa [Value.ownBlock] using hk
    exact this ▸ hF'

set_option maxRecDepth 100000 in
set_option maxHeartbeats 800000 in
theorem take_yes (g : Nat) (ps : List Pkt) (s : Int) (i : Nat) (p : Pkt) (w : World) (F : Nat → Prop) (h : NetAt w F 56 g ps s) (hp : ps[i]? = some p) :
    Calls Try.prog 26 #[.pointer (some ⟨g, 0, none⟩), .int .i64 i] w (NetPost w F 56 g (.tuple #[p.agg, .bool true]) (ps.eraseIdx i) s) := by
  have hi : i < ps.length := (List.getElem?_eq_some_iff.1 hp).1
  have HN := Lib.hid h
  obtain ⟨-, hg, v, hb, hrow⟩ := h
  have hrow0 := hrow
  rcases hrow0.1.2 with ⟨_, h0⟩ | ⟨g', cap, cur, rfl, -, hb', hcap, hm, hsz, hcur⟩
  · omega
  have hc0 : w.cell? ⟨g, 0, none⟩ = some (.slice (some ⟨g', 0, none⟩) ps.length cap) := hb.cell 0
  have hlt := hb.lt
  have hlt' : g' < w.heap.size := Blk.lt (t := 34) hb'
  have hcell : ∀ j u, (pcells ps)[j]? = some u → w.cell? ⟨g', j, none⟩ = some u := by
    intro j u hu
    rw [Blk.cell (t := 34) hb' j, ← hu, ← hcur, List.getElem?_take, if_pos (by have := (List.getElem?_eq_some_iff.1 hu).1; rw [length_pcells] at this; exact this)]
    simp
  have hp1 := hcell _ _ (pcells_at ps i p hp).1
  have hp2 := hcell _ _ (pcells_at ps i p hp).2.1
  have hp3 := hcell _ _ (pcells_at ps i p hp).2.2
  have HB := Lib.hid hb
  have HB' := Lib.hid (show Blk w g' 34 cur from hb')
  have HR := Lib.hid hrow
  have HS := Lib.hid hsz
  have HC := Lib.hid hcur
  have HM := Lib.hid hm
  unfold maxLen at hm
  clear hb hb' hrow hrow0 hsz hcur hcell hp
  go_enter Try.func26, Try.ntmps26
  go_wp2_with fail
  refine (delete_row g' ps.length cap i cur _ (Blk.alloc (Blk.alloc HB'.out _) _) HS.out hcap HM.out hi ?c1).mono ?_
  case c1 => rw [HC.out]; exact pcells_ok ps
  intro e w1 hd
  have hf := hd.2.1
  have hne := own_blk_ne HR.out.1 HB.out (by decide)
  have hb1 := (Blk.alloc (Blk.alloc HB.out _) _).keep hf (by simpa [Value.ownBlock, eq_comm] using hne)
  have hbr := (Blk.alloc (Blk.new w 34 #[.int .i64 0, .int .i64 0, .string ⟨#[]⟩]) _).keep hf (by omega)
  have hbp := (Blk.new (w.alloc _) 34 _).keep hf (by simp; omega)
  have hend := Lib.hid (fun r w' hw => take_end (w' := w') (r := r) HN.out hg HB.out HR.out hlt' hcap HM.out HC.out hi hd hw)
  obtain rfl := hd.1
  have e0 : w1.cell? ⟨g, 0, none⟩ = some (.slice (some ⟨g', 0, none⟩) ps.length cap) := hb1.cell 0
  have e1 : w1.frozen? ⟨g, 0, none⟩ = false := hb1.frozen 0
  have e2 : w1.cell? ⟨w.heap.size, 0, none⟩ = some (.int .i64 0) := hbr.cell 0
  have e3 : w1.cell? ⟨w.heap.size, 1, none⟩ = some (.int .i64 0) := hbr.cell 1
  have e4 : w1.cell? ⟨w.heap.size, 2, none⟩ = some (.string ⟨#[]⟩) := hbr.cell 2
  have e5 : w1.frozen? ⟨w.heap.size, 0, none⟩ = false := hbr.frozen 0
  have e6 : w1.frozen? ⟨w.heap.size, 1, none⟩ = false := hbr.frozen 1
  have e7 : w1.frozen? ⟨w.heap.size, 2, none⟩ = false := hbr.frozen 2
  simp only [World.size_alloc] at hbp
  have e8 : w1.cell? ⟨w.heap.size + 1, 0, none⟩ = some (.int .i64 p.f) := hbp.cell 0
  have e9 : w1.cell? ⟨w.heap.size + 1, 1, none⟩ = some (.int .i64 p.t) := hbp.cell 1
  have e10 : w1.cell? ⟨w.heap.size + 1, 2, none⟩ = some (.string p.b) := hbp.cell 2
  clear hbp hbr hb1 hd hf hp1 hp2 hp3 hc0
  go_wp2_with fail
  refine bodyPost_ret (v := .tuple #[p.agg, .bool true]) (by simp [results, Try.results26, go_sem, e2, e3, e4]; rfl) rfl (hend.out _ _ ?_)
  exact fr_set3 _ _ _ _ _

end Go.Proofs.Ytbkloadgbicbeaa
