import Derived.Test.YtbkloadgbicbeaaRefC
import Derived.Test.YtbkloadgbicbeaaRefD
namespace Go.Proofs.Ytbkloadgbicbeaa
open Go.RowKit
theorem mask0 : maskOf 0 = 0 := by decide
theorem rheal_any (g : Nat) (ps : List Pkt) (s : Int) (w : World) (F : Nat → Prop) (h : NetAt w F 51 g ps s) :
    Calls Try.prog 32 #[.pointer (some ⟨g, 0, none⟩), .int .i64 0] w (NetPost w F 51 g (.tuple #[]) ps 0) := by
  have := rsplit_any g ps s 0 w F h
  rw [mask0] at this
  exact this

set_option maxRecDepth 100000 in
set_option maxHeartbeats 1600000 in
theorem mo3 (g : Nat) (ps : List Pkt) (s : Int) (op : OpV) (w : World) (F : Nat → Prop) (h : NetAt w F 51 g ps s) (hmax : ps.length ≤ 1000000) (hk : kindOf op = 3) :
    Calls Try.prog 23 #[.pointer (some ⟨g, 0, none⟩), .agg #[.int .i64 op.d, .int .i64 op.n, .int .i64 op.t, .string op.s]] w (NetPost w F 51 g (.tuple #[(delP ps s op.n).agg, .int .i64 (delE ps s op.n)]) (cut ps op.n) s) := by
  have HN := Lib.hid h
  have k3 : (bits .and .i64 op.d 7 == 3) = true := by simpa [kindOf] using hk
  clear h hk
  go_enter Try.func23, Try.ntmps23
  go_wp2_with fail
  refine (rdeliver_any g ps s op.n _ F (NetAt.alloc (NetAt.alloc HN.out _) _) hmax).mono ?_
  rintro e w1 ⟨rfl, hN1, hf1⟩
  have hbr := (Blk.new (w.alloc _) 34 #[.int .i64 0, .int .i64 0, .string ⟨#[]⟩]).keep hf1 (fun hk => by have := HN.out.1 _ hk; simp at this; omega)
  have hlt1 : w.heap.size + 1 < w1.heap.size := by have := hf1.size; simp at this; omega
  simp only [World.size_alloc] at hbr
  have e2 : w1.cell? ⟨w.heap.size + 1, 0, none⟩ = some (.int .i64 0) := hbr.cell 0
  have e3 : w1.cell? ⟨w.heap.size + 1, 1, none⟩ = some (.int .i64 0) := hbr.cell 1
  have e4 : w1.cell? ⟨w.heap.size + 1, 2, none⟩ = some (.string ⟨#[]⟩) := hbr.cell 2
  have e5 : w1.frozen? ⟨w.heap.size + 1, 0, none⟩ = false := hbr.frozen 0
  have e6 : w1.frozen? ⟨w.heap.size + 1, 1, none⟩ = false := hbr.frozen 1
  have e7 : w1.frozen? ⟨w.heap.size + 1, 2, none⟩ = false := hbr.frozen 2
  have hend := Lib.hid (fun r w2 hw => do_end (w2 := w2) (r := r) HN.out hN1 hf1 hw)
  clear hN1 hf1 hbr
  unfold Pkt.agg
  go_wp2_with fail
  refine bodyPost_ret (v := .tuple #[(delP ps s op.n).agg, .int .i64 (delE ps s op.n)]) (by simp [results, Try.results23, go_sem, e2, e3, e4]; rfl) rfl (hend.out _ _ ?_)
  refine fr_set3_in (Fr.refl _ _) ?_ _ _ _
  exact .inl rfl
set_option maxRecDepth 100000 in
set_option maxHeartbeats 1600000 in
theorem mo4 (g : Nat) (ps : List Pkt) (s : Int) (op : OpV) (w : World) (F : Nat → Prop) (h : NetAt w F 51 g ps s) (hmax : ps.length ≤ 1000000) (hk3 : ¬ kindOf op = 3) (hk : kindOf op = 4) :
    Calls Try.prog 23 #[.pointer (some ⟨g, 0, none⟩), .agg #[.int .i64 op.d, .int .i64 op.n, .int .i64 op.t, .string op.s]] w (NetPost w F 51 g (.tuple #[pkt0.agg, .int .i64 (dropE ps op.n)]) (cut ps op.n) s) := by
  have HN := Lib.hid h
  have k3 : (bits .and .i64 op.d 7 == 3) = false := by simpa [kindOf] using hk3
  have k4 : (bits .and .i64 op.d 7 == 4) = true := by simpa [kindOf] using hk
  clear h hk3 hk
  go_enter Try.func23, Try.ntmps23
  go_wp2_with fail
  refine (rdrop_any g ps s op.n _ F (NetAt.alloc (NetAt.alloc HN.out _) _) hmax).mono ?_
  rintro e w1 ⟨rfl, hN1, hf1⟩
  have hbr := (Blk.new (w.alloc _) 34 #[.int .i64 0, .int .i64 0, .string ⟨#[]⟩]).keep hf1 (fun hk => by have := HN.out.1 _ hk; simp at this; omega)
  have hlt1 : w.heap.size + 1 < w1.heap.size := by have := hf1.size; simp at this; omega
  simp only [World.size_alloc] at hbr
  have e2 : w1.cell? ⟨w.heap.size + 1, 0, none⟩ = some (.int .i64 0) := hbr.cell 0
  have e3 : w1.cell? ⟨w.heap.size + 1, 1, none⟩ = some (.int .i64 0) := hbr.cell 1
  have e4 : w1.cell? ⟨w.heap.size + 1, 2, none⟩ = some (.string ⟨#[]⟩) := hbr.cell 2
  have e5 : w1.frozen? ⟨w.heap.size + 1, 0, none⟩ = false := hbr.frozen 0
  have e6 : w1.frozen? ⟨w.heap.size + 1, 1, none⟩ = false := hbr.frozen 1
  have e7 : w1.frozen? ⟨w.heap.size + 1, 2, none⟩ = false := hbr.frozen 2
  have hend := Lib.hid (fun r w2 hw => do_end (w2 := w2) (r := r) HN.out hN1 hf1 hw)
  clear hN1 hf1 hbr
  go_wp2_with fail
  refine bodyPost_ret (v := .tuple #[pkt0.agg, .int .i64 (dropE ps op.n)]) (by simp [results, Try.results23, go_sem, e2, e3, e4]; rfl) rfl (hend.out _ _ ?_)
  refine fr_set3_in (Fr.refl _ _) ?_ _ _ _
  exact .inl rfl
set_option maxRecDepth 100000 in
set_option maxHeartbeats 1600000 in
theorem mo5 (g : Nat) (ps : List Pkt) (s : Int) (op : OpV) (w : World) (F : Nat → Prop) (h : NetAt w F 51 g ps s) (hk3 : ¬ kindOf op = 3) (hk4 : ¬ kindOf op = 4) (hk : kindOf op = 5) :
    Calls Try.prog 23 #[.pointer (some ⟨g, 0, none⟩), .agg #[.int .i64 op.d, .int .i64 op.n, .int .i64 op.t, .string op.s]] w (NetPost w F 51 g (.tuple #[pkt0.agg, .int .i64 (dblE ps op.n)]) (dblL ps op.n) s) := by
  have HN := Lib.hid h
  have k3 : (bits .and .i64 op.d 7 == 3) = false := by simpa [kindOf] using hk3
  have k4 : (bits .and .i64 op.d 7 == 4) = false := by simpa [kindOf] using hk4
  have k5 : (bits .and .i64 op.d 7 == 5) = true := by simpa [kindOf] using hk
  clear h hk3 hk4 hk
  go_enter Try.func23, Try.ntmps23
  go_wp2_with fail
  refine (rdouble_any g ps s op.n _ F (NetAt.alloc (NetAt.alloc HN.out _) _)).mono ?_
  rintro e w1 ⟨rfl, hN1, hf1⟩
  have hbr := (Blk.new (w.alloc _) 34 #[.int .i64 0, .int .i64 0, .string ⟨#[]⟩]).keep hf1 (fun hk => by have := HN.out.1 _ hk; simp at this; omega)
  have hlt1 : w.heap.size + 1 < w1.heap.size := by have := hf1.size; simp at this; omega
  simp only [World.size_alloc] at hbr
  have e2 : w1.cell? ⟨w.heap.size + 1, 0, none⟩ = some (.int .i64 0) := hbr.cell 0
  have e3 : w1.cell? ⟨w.heap.size + 1, 1, none⟩ = some (.int .i64 0) := hbr.cell 1
  have e4 : w1.cell? ⟨w.heap.size + 1, 2, none⟩ = some (.string ⟨#[]⟩) := hbr.cell 2
  have e5 : w1.frozen? ⟨w.heap.size + 1, 0, none⟩ = false := hbr.frozen 0
  have e6 : w1.frozen? ⟨w.heap.size + 1, 1, none⟩ = false := hbr.frozen 1
  have e7 : w1.frozen? ⟨w.heap.size + 1, 2, none⟩ = false := hbr.frozen 2
  have hend := Lib.hid (fun r w2 hw => do_end (w2 := w2) (r := r) HN.out hN1 hf1 hw)
  clear hN1 hf1 hbr
  go_wp2_with fail
  refine bodyPost_ret (v := .tuple #[pkt0.agg, .int .i64 (dblE ps op.n)]) (by simp [results, Try.results23, go_sem, e2, e3, e4]; rfl) rfl (hend.out _ _ ?_)
  refine fr_set3_in (Fr.refl _ _) ?_ _ _ _
  exact .inl rfl
set_option maxRecDepth 100000 in
set_option maxHeartbeats 1600000 in
theorem mo6 (g : Nat) (ps : List Pkt) (s : Int) (op : OpV) (w : World) (F : Nat → Prop) (h : NetAt w F 51 g ps s) (hk3 : ¬ kindOf op = 3) (hk4 : ¬ kindOf op = 4) (hk5 : ¬ kindOf op = 5) (hk : kindOf op = 6) :
    Calls Try.prog 23 #[.pointer (some ⟨g, 0, none⟩), .agg #[.int .i64 op.d, .int .i64 op.n, .int .i64 op.t, .string op.s]] w (NetPost w F 51 g (.tuple #[pkt0.agg, .int .i64 0]) ps (maskOf op.n)) := by
  have HN := Lib.hid h
  have k3 : (bits .and .i64 op.d 7 == 3) = false := by simpa [kindOf] using hk3
  have k4 : (bits .and .i64 op.d 7 == 4) = false := by simpa [kindOf] using hk4
  have k5 : (bits .and .i64 op.d 7 == 5) = false := by simpa [kindOf] using hk5
  have k6 : (bits .and .i64 op.d 7 == 6) = true := by simpa [kindOf] using hk
  clear h hk3 hk4 hk5 hk
  go_enter Try.func23, Try.ntmps23
  go_wp2_with fail
  refine (rsplit_any g ps s op.n _ F (NetAt.alloc (NetAt.alloc HN.out _) _)).mono ?_
  rintro e w1 ⟨rfl, hN1, hf1⟩
  have hbr := (Blk.new (w.alloc _) 34 #[.int .i64 0, .int .i64 0, .string ⟨#[]⟩]).keep hf1 (fun hk => by have := HN.out.1 _ hk; simp at this; omega)
  have hlt1 : w.heap.size + 1 < w1.heap.size := by have := hf1.size; simp at this; omega
  simp only [World.size_alloc] at hbr
  have e2 : w1.cell? ⟨w.heap.size + 1, 0, none⟩ = some (.int .i64 0) := hbr.cell 0
  have e3 : w1.cell? ⟨w.heap.size + 1, 1, none⟩ = some (.int .i64 0) := hbr.cell 1
  have e4 : w1.cell? ⟨w.heap.size + 1, 2, none⟩ = some (.string ⟨#[]⟩) := hbr.cell 2
  have e5 : w1.frozen? ⟨w.heap.size + 1, 0, none⟩ = false := hbr.frozen 0
  have e6 : w1.frozen? ⟨w.heap.size + 1, 1, none⟩ = false := hbr.frozen 1
  have e7 : w1.frozen? ⟨w.heap.size + 1, 2, none⟩ = false := hbr.frozen 2
  have hend := Lib.hid (fun r w2 hw => do_end (w2 := w2) (r := r) HN.out hN1 hf1 hw)
  clear hN1 hf1 hbr
  go_wp2_with fail
  refine bodyPost_ret (v := .tuple #[pkt0.agg, .int .i64 0]) (by simp [results, Try.results23, go_sem, e2, e3, e4]; rfl) rfl (hend.out _ _ ?_)
  refine fr_set3_in (Fr.refl _ _) ?_ _ _ _
  exact .inl rfl
set_option maxRecDepth 100000 in
set_option maxHeartbeats 1600000 in
theorem mo7 (g : Nat) (ps : List Pkt) (s : Int) (op : OpV) (w : World) (F : Nat → Prop) (h : NetAt w F 51 g ps s) (hk3 : ¬ kindOf op = 3) (hk4 : ¬ kindOf op = 4) (hk5 : ¬ kindOf op = 5) (hk6 : ¬ kindOf op = 6) (hk : kindOf op = 7) :
    Calls Try.prog 23 #[.pointer (some ⟨g, 0, none⟩), .agg #[.int .i64 op.d, .int .i64 op.n, .int .i64 op.t, .string op.s]] w (NetPost w F 51 g (.tuple #[pkt0.agg, .int .i64 0]) ps 0) := by
  have HN := Lib.hid h
  have k3 : (bits .and .i64 op.d 7 == 3) = false := by simpa [kindOf] using hk3
  have k4 : (bits .and .i64 op.d 7 == 4) = false := by simpa [kindOf] using hk4
  have k5 : (bits .and .i64 op.d 7 == 5) = false := by simpa [kindOf] using hk5
  have k6 : (bits .and .i64 op.d 7 == 6) = false := by simpa [kindOf] using hk6
  have k7 : (bits .and .i64 op.d 7 == 7) = true := by simpa [kindOf] using hk
  clear h hk3 hk4 hk5 hk6 hk
  go_enter Try.func23, Try.ntmps23
  go_wp2_with fail
  refine (rheal_any g ps s _ F (NetAt.alloc (NetAt.alloc HN.out _) _)).mono ?_
  rintro e w1 ⟨rfl, hN1, hf1⟩
  have hbr := (Blk.new (w.alloc _) 34 #[.int .i64 0, .int .i64 0, .string ⟨#[]⟩]).keep hf1 (fun hk => by have := HN.out.1 _ hk; simp at this; omega)
  have hlt1 : w.heap.size + 1 < w1.heap.size := by have := hf1.size; simp at this; omega
  simp only [World.size_alloc] at hbr
  have e2 : w1.cell? ⟨w.heap.size + 1, 0, none⟩ = some (.int .i64 0) := hbr.cell 0
  have e3 : w1.cell? ⟨w.heap.size + 1, 1, none⟩ = some (.int .i64 0) := hbr.cell 1
  have e4 : w1.cell? ⟨w.heap.size + 1, 2, none⟩ = some (.string ⟨#[]⟩) := hbr.cell 2
  have e5 : w1.frozen? ⟨w.heap.size + 1, 0, none⟩ = false := hbr.frozen 0
  have e6 : w1.frozen? ⟨w.heap.size + 1, 1, none⟩ = false := hbr.frozen 1
  have e7 : w1.frozen? ⟨w.heap.size + 1, 2, none⟩ = false := hbr.frozen 2
  have hend := Lib.hid (fun r w2 hw => do_end (w2 := w2) (r := r) HN.out hN1 hf1 hw)
  clear hN1 hf1 hbr
  go_wp2_with fail
  refine bodyPost_ret (v := .tuple #[pkt0.agg, .int .i64 0]) (by simp [results, Try.results23, go_sem, e2, e3, e4]; rfl) rfl (hend.out _ _ ?_)
  refine fr_set3_in (Fr.refl _ _) ?_ _ _ _
  exact .inl rfl
set_option maxRecDepth 100000 in
set_option maxHeartbeats 1600000 in
theorem mo0 (g : Nat) (ps : List Pkt) (s : Int) (op : OpV) (w : World) (F : Nat → Prop) (h : NetAt w F 51 g ps s) (hk3 : ¬ kindOf op = 3) (hk4 : ¬ kindOf op = 4) (hk5 : ¬ kindOf op = 5) (hk6 : ¬ kindOf op = 6) (hk7 : ¬ kindOf op = 7) :
    Calls Try.prog 23 #[.pointer (some ⟨g, 0, none⟩), .agg #[.int .i64 op.d, .int .i64 op.n, .int .i64 op.t, .string op.s]] w (NetPost w F 51 g (.tuple #[pkt0.agg, .int .i64 (sendE ps s op.n op.t)]) (sendL ps s op.n op.t op.s) s) := by
  have HN := Lib.hid h
  have k3 : (bits .and .i64 op.d 7 == 3) = false := by simpa [kindOf] using hk3
  have k4 : (bits .and .i64 op.d 7 == 4) = false := by simpa [kindOf] using hk4
  have k5 : (bits .and .i64 op.d 7 == 5) = false := by simpa [kindOf] using hk5
  have k6 : (bits .and .i64 op.d 7 == 6) = false := by simpa [kindOf] using hk6
  have k7 : (bits .and .i64 op.d 7 == 7) = false := by simpa [kindOf] using hk7
  clear h hk3 hk4 hk5 hk6 hk7
  go_enter Try.func23, Try.ntmps23
  go_wp2_with fail
  refine (rsend_any g ps s op.n op.t op.s _ F (NetAt.alloc (NetAt.alloc HN.out _) _)).mono ?_
  rintro e w1 ⟨rfl, hN1, hf1⟩
  have hbr := (Blk.new (w.alloc _) 34 #[.int .i64 0, .int .i64 0, .string ⟨#[]⟩]).keep hf1 (fun hk => by have := HN.out.1 _ hk; simp at this; omega)
  have hlt1 : w.heap.size + 1 < w1.heap.size := by have := hf1.size; simp at this; omega
  simp only [World.size_alloc] at hbr
  have e2 : w1.cell? ⟨w.heap.size + 1, 0, none⟩ = some (.int .i64 0) := hbr.cell 0
  have e3 : w1.cell? ⟨w.heap.size + 1, 1, none⟩ = some (.int .i64 0) := hbr.cell 1
  have e4 : w1.cell? ⟨w.heap.size + 1, 2, none⟩ = some (.string ⟨#[]⟩) := hbr.cell 2
  have e5 : w1.frozen? ⟨w.heap.size + 1, 0, none⟩ = false := hbr.frozen 0
  have e6 : w1.frozen? ⟨w.heap.size + 1, 1, none⟩ = false := hbr.frozen 1
  have e7 : w1.frozen? ⟨w.heap.size + 1, 2, none⟩ = false := hbr.frozen 2
  have hend := Lib.hid (fun r w2 hw => do_end (w2 := w2) (r := r) HN.out hN1 hf1 hw)
  clear hN1 hf1 hbr
  go_wp2_with fail
  refine bodyPost_ret (v := .tuple #[pkt0.agg, .int .i64 (sendE ps s op.n op.t)]) (by simp [results, Try.results23, go_sem, e2, e3, e4]; rfl) rfl (hend.out _ _ ?_)
  refine fr_set3_in (Fr.refl _ _) ?_ _ _ _
  exact .inl rfl
theorem model_any (g : Nat) (ps : List Pkt) (s : Int) (op : OpV) (w : World) (F : Nat → Prop) (h : NetAt w F 51 g ps s) (hmax : ps.length ≤ 1000000) :
    Calls Try.prog 23 #[.pointer (some ⟨g, 0, none⟩), .agg #[.int .i64 op.d, .int .i64 op.n, .int .i64 op.t, .string op.s]] w (NetPost w F 51 g (.tuple #[(doP ps s op).agg, .int .i64 (doE ps s op)]) (doL ps s op) (doS s op)) := by
  unfold doP doE doL doS
  by_cases h3 : kindOf op = 3
  · rw [if_pos h3, if_pos h3, if_pos h3, if_neg (by omega), if_neg (by omega)]; exact mo3 g ps s op w F h hmax h3
  by_cases h4 : kindOf op = 4
  · rw [if_neg h3, if_neg h3, if_neg h3, if_pos h4, if_pos h4, if_neg (by omega), if_neg (by omega)]; exact mo4 g ps s op w F h hmax h3 h4
  by_cases h5 : kindOf op = 5
  · rw [if_neg h3, if_neg h3, if_neg h3, if_neg h4, if_neg h4, if_pos h5, if_pos h5, if_neg (by omega), if_neg (by omega)]; exact mo5 g ps s op w F h h3 h4 h5
  by_cases h6 : kindOf op = 6
  · rw [if_neg h3, if_neg h3, if_neg h3, if_neg h4, if_neg h4, if_neg h5, if_neg h5, if_pos h6, if_pos h6, if_pos h6]; exact mo6 g ps s op w F h h3 h4 h5 h6
  by_cases h7 : kindOf op = 7
  · rw [if_neg h3, if_neg h3, if_neg h3, if_neg h4, if_neg h4, if_neg h5, if_neg h5, if_neg h6, if_neg h6, if_neg h6, if_pos h7, if_pos h7, if_pos h7]; exact mo7 g ps s op w F h h3 h4 h5 h6 h7
  · rw [if_neg h3, if_neg h3, if_neg h3, if_neg h4, if_neg h4, if_neg h5, if_neg h5, if_neg h6, if_neg h6, if_neg h6, if_neg h7, if_neg h7, if_neg h7]; exact mo0 g ps s op w F h h3 h4 h5 h6 h7
end Go.Proofs.Ytbkloadgbicbeaa
