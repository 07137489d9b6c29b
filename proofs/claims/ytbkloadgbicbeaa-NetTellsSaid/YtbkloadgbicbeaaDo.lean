import Derived.Test.YtbkloadgbicbeaaDouble
import Derived.Test.YtbkloadgbicbeaaOrd0
namespace Go.Proofs.Ytbkloadgbicbeaa
open Go.RowKit

/-- Which operation an Op is. -/
def kindOf (op : OpV) : Int := bits .and .i64 op.d 7
/-- What do answers: packet and number; and what it makes of the list and the split. -/
def doP (ps : List Pkt) (s : Int) (op : OpV) : Pkt := if kindOf op = 3 then delP ps s op.n else pkt0
def doE (ps : List Pkt) (s : Int) (op : OpV) : Int :=
  if kindOf op = 3 then delE ps s op.n else if kindOf op = 4 then dropE ps op.n else if kindOf op = 5 then dblE ps op.n else if kindOf op = 6 then 0 else if kindOf op = 7 then 0 else sendE ps s op.n op.t
def doL (ps : List Pkt) (s : Int) (op : OpV) : List Pkt :=
  if kindOf op = 3 then cut ps op.n else if kindOf op = 4 then cut ps op.n else if kindOf op = 5 then dblL ps op.n else if kindOf op = 6 then ps else if kindOf op = 7 then ps else sendL ps s op.n op.t op.s
def doS (s : Int) (op : OpV) : Int := if kindOf op = 6 then maskOf op.n else if kindOf op = 7 then 0 else s
def OpV.agg (op : OpV) : Value := .agg #[.int .i64 op.d, .int .i64 op.n, .int .i64 op.t, .string op.s]

theorem do_end {w w1 w2 : World} {F : Nat → Prop} {ty : TypeId} {g : Nat} {ps qs : List Pkt} {s s' : Int} {o1 o2 : Obj} {r : Value} (hN : NetAt w F ty g ps s)
    (hN1 : NetAt w1 (Grow F ((w.alloc o1).alloc o2) w1) ty g qs s') (hf1 : Fr F ((w.alloc o1).alloc o2) w1) (hw : Fr (fun k => k = w.heap.size + 1 ∨ w1.heap.size ≤ k) w1 w2) : NetPost w F ty g r qs s' (.returned r) w2 := by
  have hs := hf1.size
  simp only [World.size_alloc] at hs
  have hf2 : Fr F w w2 := ((((Fr.refl F w).alloc o1).alloc o2).trans hf1).trans' hw fun k hk h => by omega
  have hN2 := hN1.keep hw (fun k hk => by
    rcases hk with hk | hk
    · have := hN.1 k hk; omega
    · simp at hk; omega)
  exact ⟨rfl, hN2.more (fun k hk => hk.imp id fun h => by have := hw.size; simp at h; omega) (grow_lt hN.1 hf2.size), hf2⟩

set_option maxRecDepth 100000 in
set_option maxHeartbeats 1600000 in
theorem do3 (g : Nat) (ps : List Pkt) (s : Int) (op : OpV) (w : World) (F : Nat → Prop) (h : NetAt w F 56 g ps s) (hk : kindOf op = 3) :
    Calls Try.prog 19 #[.pointer (some ⟨g, 0, none⟩), .agg #[.int .i64 op.d, .int .i64 op.n, .int .i64 op.t, .string op.s]] w (NetPost w F 56 g (.tuple #[(delP ps s op.n).agg, .int .i64 (delE ps s op.n)]) (cut ps op.n) s) := by
  have HN := Lib.hid h
  have k3 : (bits .and .i64 op.d 7 == 3) = true := by simpa [kindOf] using hk
  clear h hk
  go_enter Try.func19, Try.ntmps19
  go_wp2_with fail
  refine (deliver_any g ps s op.n _ F (NetAt.alloc (NetAt.alloc HN.out _) _)).mono ?_
  rintro e w1 ⟨rfl, hN1, hf1⟩
  have hbr := (Blk.new (w.alloc _) 34 #[.int .i64 0, .int .i64 0, .string ⟨#[]⟩]).keep hf1 (fun hk => by have := HN.out.1 _ hk; simp at this; omega)
  have hlt1 : w.heap.size + 1 < w1.heap.size := by have := hf1.size; simp at this; omega
  simp only [World.size_alloc] at hbr
  have e2 : w1.cell? ⟨w.heap.size + 1, 0, none⟩ = some (.int .i64 0) := hbr.cell 0
  have e3 : w1.cell? ⟨w.heap.size + 1, 1, none⟩ = some (.int .i64 0) := hbr.cell 1
  have e4 : w1.cell? ⟨w.heap.size + 1, 2, none⟩ = some (.string ⟨#[]⟩) := hbr.cell 2
  have e5 : w1.frozen? ⟨w.heap.size + 1, 0, none⟩ = false := hbr.frozen 0
  have e6 : w1.frozen? ⟨w.heap.size + 1, 1, none⟩ = false := hbr.frozen 1
  have e7 : w1.frozen? ⟨w.heap.size + 1, 2, none⟩ = false := hbr.frozen 2
  have hend := Lib.hid (fun r w2 hw => do_end (w2 := w2) (r := r) HN.out hN1 hf1 hw)
  clear hN1 hf1 hbr
  unfold Pkt.agg
  go_wp2_with fail
  refine bodyPost_ret (v := .tuple #[(delP ps s op.n).agg, .int .i64 (delE ps s op.n)]) (by simp [results, Try.results19, go_sem, e2, e3, e4]; rfl) rfl (hend.out _ _ ?_)
  refine fr_set3_in (Fr.refl _ _) ?_ _ _ _
  exact .inl rfl
set_option maxRecDepth 100000 in
set_option maxHeartbeats 1600000 in
theorem do4 (g : Nat) (ps : List Pkt) (s : Int) (op : OpV) (w : World) (F : Nat → Prop) (h : NetAt w F 56 g ps s) (hk3 : ¬ kindOf op = 3) (hk : kindOf op = 4) :
    Calls Try.prog 19 #[.pointer (some ⟨g, 0, none⟩), .agg #[.int .i64 op.d, .int .i64 op.n, .int .i64 op.t, .string op.s]] w (NetPost w F 56 g (.tuple #[pkt0.agg, .int .i64 (dropE ps op.n)]) (cut ps op.n) s) := by
  have HN := Lib.hid h
  have k3 : (bits .and .i64 op.d 7 == 3) = false := by simpa [kindOf] using hk3
  have k4 : (bits .and .i64 op.d 7 == 4) = true := by simpa [kindOf] using hk
  clear h hk3 hk
  go_enter Try.func19, Try.ntmps19
  go_wp2_with fail
  refine (drop_any g ps s op.n _ F (NetAt.alloc (NetAt.alloc HN.out _) _)).mono ?_
  rintro e w1 ⟨rfl, hN1, hf1⟩
  have hbr := (Blk.new (w.alloc _) 34 #[.int .i64 0, .int .i64 0, .string ⟨#[]⟩]).keep hf1 (fun hk => by have := HN.out.1 _ hk; simp at this; omega)
  have hlt1 : w.heap.size + 1 < w1.heap.size := by have := hf1.size; simp at this; omega
  simp only [World.size_alloc] at hbr
  have e2 : w1.cell? ⟨w.heap.size + 1, 0, none⟩ = some (.int .i64 0) := hbr.cell 0
  have e3 : w1.cell? ⟨w.heap.size + 1, 1, none⟩ = some (.int .i64 0) := hbr.cell 1
  have e4 : w1.cell? ⟨w.heap.size + 1, 2, none⟩ = some (.string ⟨#[]⟩) := hbr.cell 2
  have e5 : w1.frozen? ⟨w.heap.size + 1, 0, none⟩ = false := hbr.frozen 0
  have e6 : w1.frozen? ⟨w.heap.size + 1, 1, none⟩ = false := hbr.frozen 1
  have e7 : w1.frozen? ⟨w.heap.size + 1, 2, none⟩ = false := hbr.frozen 2
  have hend := Lib.hid (fun r w2 hw => do_end (w2 := w2) (r := r) HN.out hN1 hf1 hw)
  clear hN1 hf1 hbr
  go_wp2_with fail
  refine bodyPost_ret (v := .tuple #[pkt0.agg, .int .i64 (dropE ps op.n)]) (by simp [results, Try.results19, go_sem, e2, e3, e4]; rfl) rfl (hend.out _ _ ?_)
  refine fr_set3_in (Fr.refl _ _) ?_ _ _ _
  exact .inl rfl
set_option maxRecDepth 100000 in
set_option maxHeartbeats 1600000 in
theorem do5 (g : Nat) (ps : List Pkt) (s : Int) (op : OpV) (w : World) (F : Nat → Prop) (h : NetAt w F 56 g ps s) (hk3 : ¬ kindOf op = 3) (hk4 : ¬ kindOf op = 4) (hk : kindOf op = 5) :
    Calls Try.prog 19 #[.pointer (some ⟨g, 0, none⟩), .agg #[.int .i64 op.d, .int .i64 op.n, .int .i64 op.t, .string op.s]] w (NetPost w F 56 g (.tuple #[pkt0.agg, .int .i64 (dblE ps op.n)]) (dblL ps op.n) s) := by
  have HN := Lib.hid h
  have k3 : (bits .and .i64 op.d 7 == 3) = false := by simpa [kindOf] using hk3
  have k4 : (bits .and .i64 op.d 7 == 4) = false := by simpa [kindOf] using hk4
  have k5 : (bits .and .i64 op.d 7 == 5) = true := by simpa [kindOf] using hk
  clear h hk3 hk4 hk
  go_enter Try.func19, Try.ntmps19
  go_wp2_with fail
  refine (double_any g ps s op.n _ F (NetAt.alloc (NetAt.alloc HN.out _) _)).mono ?_
  rintro e w1 ⟨rfl, hN1, hf1⟩
  have hbr := (Blk.new (w.alloc _) 34 #[.int .i64 0, .int .i64 0, .string ⟨#[]⟩]).keep hf1 (fun hk => by have := HN.out.1 _ hk; simp at this; omega)
  have hlt1 : w.heap.size + 1 < w1.heap.size := by have := hf1.size; simp at this; omega
  simp only [World.size_alloc] at hbr
  have e2 : w1.cell? ⟨w.heap.size + 1, 0, none⟩ = some (.int .i64 0) := hbr.cell 0
  have e3 : w1.cell? ⟨w.heap.size + 1, 1, none⟩ = some (.int .i64 0) := hbr.cell 1
  have e4 : w1.cell? ⟨w.heap.size + 1, 2, none⟩ = some (.string ⟨#[]⟩) := hbr.cell 2
  have e5 : w1.frozen? ⟨w.heap.size + 1, 0, none⟩ = false := hbr.frozen 0
  have e6 : w1.frozen? ⟨w.heap.size + 1, 1, none⟩ = false := hbr.frozen 1
  have e7 : w1.frozen? ⟨w.heap.size + 1, 2, none⟩ = false := hbr.frozen 2
  have hend := Lib.hid (fun r w2 hw => do_end (w2 := w2) (r := r) HN.out hN1 hf1 hw)
  clear hN1 hf1 hbr
  go_wp2_with fail
  refine bodyPost_ret (v := .tuple #[pkt0.agg, .int .i64 (dblE ps op.n)]) (by simp [results, Try.results19, go_sem, e2, e3, e4]; rfl) rfl (hend.out _ _ ?_)
  refine fr_set3_in (Fr.refl _ _) ?_ _ _ _
  exact .inl rfl
set_option maxRecDepth 100000 in
set_option maxHeartbeats 1600000 in
theorem do6 (g : Nat) (ps : List Pkt) (s : Int) (op : OpV) (w : World) (F : Nat → Prop) (h : NetAt w F 56 g ps s) (hk3 : ¬ kindOf op = 3) (hk4 : ¬ kindOf op = 4) (hk5 : ¬ kindOf op = 5) (hk : kindOf op = 6) :
    Calls Try.prog 19 #[.pointer (some ⟨g, 0, none⟩), .agg #[.int .i64 op.d, .int .i64 op.n, .int .i64 op.t, .string op.s]] w (NetPost w F 56 g (.tuple #[pkt0.agg, .int .i64 0]) ps (maskOf op.n)) := by
  have HN := Lib.hid h
  have k3 : (bits .and .i64 op.d 7 == 3) = false := by simpa [kindOf] using hk3
  have k4 : (bits .and .i64 op.d 7 == 4) = false := by simpa [kindOf] using hk4
  have k5 : (bits .and .i64 op.d 7 == 5) = false := by simpa [kindOf] using hk5
  have k6 : (bits .and .i64 op.d 7 == 6) = true := by simpa [kindOf] using hk
  clear h hk3 hk4 hk5 hk
  go_enter Try.func19, Try.ntmps19
  go_wp2_with fail
  refine (split_any g ps s op.n _ F (NetAt.alloc (NetAt.alloc HN.out _) _)).mono ?_
  rintro e w1 ⟨rfl, hN1, hf1⟩
  have hbr := (Blk.new (w.alloc _) 34 #[.int .i64 0, .int .i64 0, .string ⟨#[]⟩]).keep hf1 (fun hk => by have := HN.out.1 _ hk; simp at this; omega)
  have hlt1 : w.heap.size + 1 < w1.heap.size := by have := hf1.size; simp at this; omega
  simp only [World.size_alloc] at hbr
  have e2 : w1.cell? ⟨w.heap.size + 1, 0, none⟩ = some (.int .i64 0) := hbr.cell 0
  have e3 : w1.cell? ⟨w.heap.size + 1, 1, none⟩ = some (.int .i64 0) := hbr.cell 1
  have e4 : w1.cell? ⟨w.heap.size + 1, 2, none⟩ = some (.string ⟨#[]⟩) := hbr.cell 2
  have e5 : w1.frozen? ⟨w.heap.size + 1, 0, none⟩ = false := hbr.frozen 0
  have e6 : w1.frozen? ⟨w.heap.size + 1, 1, none⟩ = false := hbr.frozen 1
  have e7 : w1.frozen? ⟨w.heap.size + 1, 2, none⟩ = false := hbr.frozen 2
  have hend := Lib.hid (fun r w2 hw => do_end (w2 := w2) (r := r) HN.out hN1 hf1 hw)
  clear hN1 hf1 hbr
  go_wp2_with fail
  refine bodyPost_ret (v := .tuple #[pkt0.agg, .int .i64 0]) (by simp [results, Try.results19, go_sem, e2, e3, e4]; rfl) rfl (hend.out _ _ ?_)
  refine fr_set3_in (Fr.refl _ _) ?_ _ _ _
  exact .inl rfl
set_option maxRecDepth 100000 in
set_option maxHeartbeats 1600000 in
theorem do7 (g : Nat) (ps : List Pkt) (s : Int) (op : OpV) (w : World) (F : Nat → Prop) (h : NetAt w F 56 g ps s) (hk3 : ¬ kindOf op = 3) (hk4 : ¬ kindOf op = 4) (hk5 : ¬ kindOf op = 5) (hk6 : ¬ kindOf op = 6) (hk : kindOf op = 7) :
    Calls Try.prog 19 #[.pointer (some ⟨g, 0, none⟩), .agg #[.int .i64 op.d, .int .i64 op.n, .int .i64 op.t, .string op.s]] w (NetPost w F 56 g (.tuple #[pkt0.agg, .int .i64 0]) ps 0) := by
  have HN := Lib.hid h
  have k3 : (bits .and .i64 op.d 7 == 3) = false := by simpa [kindOf] using hk3
  have k4 : (bits .and .i64 op.d 7 == 4) = false := by simpa [kindOf] using hk4
  have k5 : (bits .and .i64 op.d 7 == 5) = false := by simpa [kindOf] using hk5
  have k6 : (bits .and .i64 op.d 7 == 6) = false := by simpa [kindOf] using hk6
  have k7 : (bits .and .i64 op.d 7 == 7) = true := by simpa [kindOf] using hk
  clear h hk3 hk4 hk5 hk6 hk
  go_enter Try.func19, Try.ntmps19
  go_wp2_with fail
  refine (heal_any g ps s _ F (NetAt.alloc (NetAt.alloc HN.out _) _)).mono ?_
  rintro e w1 ⟨rfl, hN1, hf1⟩
  have hbr := (Blk.new (w.alloc _) 34 #[.int .i64 0, .int .i64 0, .string ⟨#[]⟩]).keep hf1 (fun hk => by have := HN.out.1 _ hk; simp at this; omega)
  have hlt1 : w.heap.size + 1 < w1.heap.size := by have := hf1.size; simp at this; omega
  simp only [World.size_alloc] at hbr
  have e2 : w1.cell? ⟨w.heap.size + 1, 0, none⟩ = some (.int .i64 0) := hbr.cell 0
  have e3 : w1.cell? ⟨w.heap.size + 1, 1, none⟩ = some (.int .i64 0) := hbr.cell 1
  have e4 : w1.cell? ⟨w.heap.size + 1, 2, none⟩ = some (.string ⟨#[]⟩) := hbr.cell 2
  have e5 : w1.frozen? ⟨w.heap.size + 1, 0, none⟩ = false := hbr.frozen 0
  have e6 : w1.frozen? ⟨w.heap.size + 1, 1, none⟩ = false := hbr.frozen 1
  have e7 : w1.frozen? ⟨w.heap.size + 1, 2, none⟩ = false := hbr.frozen 2
  have hend := Lib.hid (fun r w2 hw => do_end (w2 := w2) (r := r) HN.out hN1 hf1 hw)
  clear hN1 hf1 hbr
  go_wp2_with fail
  refine bodyPost_ret (v := .tuple #[pkt0.agg, .int .i64 0]) (by simp [results, Try.results19, go_sem, e2, e3, e4]; rfl) rfl (hend.out _ _ ?_)
  refine fr_set3_in (Fr.refl _ _) ?_ _ _ _
  exact .inl rfl
set_option maxRecDepth 100000 in
set_option maxHeartbeats 1600000 in
theorem do0 (g : Nat) (ps : List Pkt) (s : Int) (op : OpV) (w : World) (F : Nat → Prop) (h : NetAt w F 56 g ps s) (hk3 : ¬ kindOf op = 3) (hk4 : ¬ kindOf op = 4) (hk5 : ¬ kindOf op = 5) (hk6 : ¬ kindOf op = 6) (hk7 : ¬ kindOf op = 7) :
    Calls Try.prog 19 #[.pointer (some ⟨g, 0, none⟩), .agg #[.int .i64 op.d, .int .i64 op.n, .int .i64 op.t, .string op.s]] w (NetPost w F 56 g (.tuple #[pkt0.agg, .int .i64 (sendE ps s op.n op.t)]) (sendL ps s op.n op.t op.s) s) := by
  have HN := Lib.hid h
  have k3 : (bits .and .i64 op.d 7 == 3) = false := by simpa [kindOf] using hk3
  have k4 : (bits .and .i64 op.d 7 == 4) = false := by simpa [kindOf] using hk4
  have k5 : (bits .and .i64 op.d 7 == 5) = false := by simpa [kindOf] using hk5
  have k6 : (bits .and .i64 op.d 7 == 6) = false := by simpa [kindOf] using hk6
  have k7 : (bits .and .i64 op.d 7 == 7) = false := by simpa [kindOf] using hk7
  clear h hk3 hk4 hk5 hk6 hk7
  go_enter Try.func19, Try.ntmps19
  go_wp2_with fail
  refine (send_any g ps s op.n op.t op.s _ F (NetAt.alloc (NetAt.alloc HN.out _) _)).mono ?_
  rintro e w1 ⟨rfl, hN1, hf1⟩
  have hbr := (Blk.new (w.alloc _) 34 #[.int .i64 0, .int .i64 0, .string ⟨#[]⟩]).keep hf1 (fun hk => by have := HN.out.1 _ hk; simp at this; omega)
  have hlt1 : w.heap.size + 1 < w1.heap.size := by have := hf1.size; simp at this; omega
  simp only [World.size_alloc] at hbr
  have e2 : w1.cell? ⟨w.heap.size + 1, 0, none⟩ = some (.int .i64 0) := hbr.cell 0
  have e3 : w1.cell? ⟨w.heap.size + 1, 1, none⟩ = some (.int .i64 0) := hbr.cell 1
  have e4 : w1.cell? ⟨w.heap.size + 1, 2, none⟩ = some (.string ⟨#[]⟩) := hbr.cell 2
  have e5 : w1.frozen? ⟨w.heap.size + 1, 0, none⟩ = false := hbr.frozen 0
  have e6 : w1.frozen? ⟨w.heap.size + 1, 1, none⟩ = false := hbr.frozen 1
  have e7 : w1.frozen? ⟨w.heap.size + 1, 2, none⟩ = false := hbr.frozen 2
  have hend := Lib.hid (fun r w2 hw => do_end (w2 := w2) (r := r) HN.out hN1 hf1 hw)
  clear hN1 hf1 hbr
  go_wp2_with fail
  refine bodyPost_ret (v := .tuple #[pkt0.agg, .int .i64 (sendE ps s op.n op.t)]) (by simp [results, Try.results19, go_sem, e2, e3, e4]; rfl) rfl (hend.out _ _ ?_)
  refine fr_set3_in (Fr.refl _ _) ?_ _ _ _
  exact .inl rfl
theorem do_any (g : Nat) (ps : List Pkt) (s : Int) (op : OpV) (w : World) (F : Nat → Prop) (h : NetAt w F 56 g ps s) :
    Calls Try.prog 19 #[.pointer (some ⟨g, 0, none⟩), .agg #[.int .i64 op.d, .int .i64 op.n, .int .i64 op.t, .string op.s]] w (NetPost w F 56 g (.tuple #[(doP ps s op).agg, .int .i64 (doE ps s op)]) (doL ps s op) (doS s op)) := by
  unfold doP doE doL doS
  by_cases h3 : kindOf op = 3
  · rw [if_pos h3, if_pos h3, if_pos h3, if_neg (by omega), if_neg (by omega)]; exact do3 g ps s op w F h h3
  by_cases h4 : kindOf op = 4
  · rw [if_neg h3, if_neg h3, if_neg h3, if_pos h4, if_pos h4, if_neg (by omega), if_neg (by omega)]; exact do4 g ps s op w F h h3 h4
  by_cases h5 : kindOf op = 5
  · rw [if_neg h3, if_neg h3, if_neg h3, if_neg h4, if_neg h4, if_pos h5, if_pos h5, if_neg (by omega), if_neg (by omega)]; exact do5 g ps s op w F h h3 h4 h5
  by_cases h6 : kindOf op = 6
  · rw [if_neg h3, if_neg h3, if_neg h3, if_neg h4, if_neg h4, if_neg h5, if_neg h5, if_pos h6, if_pos h6, if_pos h6]; exact do6 g ps s op w F h h3 h4 h5 h6
  by_cases h7 : kindOf op = 7
  · rw [if_neg h3, if_neg h3, if_neg h3, if_neg h4, if_neg h4, if_neg h5, if_neg h5, if_neg h6, if_neg h6, if_neg h6, if_pos h7, if_pos h7, if_pos h7]; exact do7 g ps s op w F h h3 h4 h5 h6 h7
  · rw [if_neg h3, if_neg h3, if_neg h3, if_neg h4, if_neg h4, if_neg h5, if_neg h5, if_neg h6, if_neg h6, if_neg h6, if_neg h7, if_neg h7, if_neg h7]; exact do0 g ps s op w F h h3 h4 h5 h6 h7
end Go.Proofs.Ytbkloadgbicbeaa
