import Derived.Test.YtjgmbildgcighaaD10t
import Derived.Shelf.SlMaps.Clone
namespace Go.Proofs.Ytjgmbildgcighaa
open Go.RowKit
set_option maxRecDepth 100000 in
set_option maxHeartbeats 800000 in
theorem mcloneF_any (b : Nat) (es : Array MapEntry) (clock : Nat) (w : World) (hb : w.heap[b]? = some (.map es clock)) :
    Calls Try.prog 40 #[.map (some b)] w fun e w' => e = .returned (.map (some w.heap.size)) ∧ w' = w.alloc (.map es clock) := by
  have hq := fun w => run_eql_map_nil_sl (P := Try.prog) w 52 _ _ (some b) Try.underlying52
  go_enter Try.func40, Try.ntmps40
  go_wp2_with fail
  rw [run_callFunc_extern Try.func55 (by kernel_rfl) (by kernel_rfl) (by kernel_rfl) (e := Extern.MapsClone.clone) (by kernel_rfl), run_maps_clone_sl w 52 hb]
  simp only [Result.andThen]
  rw [Oper.upon_value]
  go_wp2_with fail
  rw [run_typeAssert_map_sl _ 52 20 _ _ _ Try.underlying52]
  simp only [Result.andThen]
  rw [Oper.upon_value]
  go_wp2_with fail
  go_ret
  exact ⟨rfl, rfl⟩
set_option maxRecDepth 100000 in
set_option maxHeartbeats 800000 in
theorem mcloneS_any (b : Nat) (es : Array MapEntry) (clock : Nat) (w : World) (hb : w.heap[b]? = some (.map es clock)) :
    Calls Try.prog 42 #[.map (some b)] w fun e w' => e = .returned (.map (some w.heap.size)) ∧ w' = w.alloc (.map es clock) := by
  have hq := fun w => run_eql_map_nil_sl (P := Try.prog) w 53 _ _ (some b) Try.underlying53
  go_enter Try.func42, Try.ntmps42
  go_wp2_with fail
  rw [run_callFunc_extern Try.func55 (by kernel_rfl) (by kernel_rfl) (by kernel_rfl) (e := Extern.MapsClone.clone) (by kernel_rfl), run_maps_clone_sl w 53 hb]
  simp only [Result.andThen]
  rw [Oper.upon_value]
  go_wp2_with fail
  rw [run_typeAssert_map_sl _ 53 20 _ _ _ Try.underlying53]
  simp only [Result.andThen]
  rw [Oper.upon_value]
  go_wp2_with fail
  go_ret
  exact ⟨rfl, rfl⟩
/-- A new slice of sectors; nothing that was there has turned. -/
def NewSecs (w : World) (q : List (Int × Int)) (e : Ending) (w' : World) : Prop :=
  ∃ A c, e = .returned (.slice A q.length c) ∧ Row w' (fun k => w.heap.size ≤ k ∧ k < w'.heap.size) 70 2 (.slice A q.length c) q.length (qcells q) ∧ Fr (fun _ => False) w w'
theorem cloneQ_end {w w1 : World} {q : List (Int × Int)} {A : Option Addr} {c : Nat} {o : Obj} (hr : Row w1 (Grow (fun k => k = w.heap.size) (w.alloc o) w1) 70 2 (.slice A q.length c) q.length (qcells q))
    (hf : Fr (Own (.slice (some ⟨w.heap.size, 0, none⟩) 0 0)) (w.alloc o) w1) : NewSecs w q (.returned (.slice A q.length c)) w1 := by
  refine ⟨A, c, rfl, ?_, ?_⟩
  · have := hf.size
    simp only [World.size_alloc] at this
    exact hr.more fun k _ h => by
      rcases h with h | h
      · omega
      · simp at h; omega
  · refine ((Fr.refl _ w).alloc o).trans' hf fun k hk h => ?_
    have : w.heap.size = k := by simpa [Own, Value.ownBlock] using h
    omega
set_option maxRecDepth 100000 in
set_option maxHeartbeats 800000 in
theorem cloneQ_any (A : Option Addr) (c : Nat) (q : List (Int × Int)) (w : World) (h : Rd w 2 A q.length (qcells q)) (hb : q.length ≤ 4194304) :
    Calls Try.prog 41 #[.slice A q.length c] w (NewSecs w q) := by
  cases A with
  | none =>
    have h0 : q = [] := by
      rcases Nat.eq_zero_or_pos q.length with h0 | h0
      · exact List.eq_nil_of_length_eq_zero h0
      · obtain ⟨ad, h1, _⟩ := h.2 h0; cases h1
    subst h0
    have hend : Hid (NewSecs w [] (.returned (.slice none 0 0)) w) := ⟨none, 0, rfl, Row.nil _ _ _ _, Fr.refl _ _⟩
    clear h hb
    have hq := fun W => Lib.run_eql_slice_nil (P := Try.prog) W 54 70 none 0 c 0 0 Try.underlying54
    go_enter Try.func41, Try.ntmps41
    go_wp2_with fail
    go_ret
    exact hend.out
  | some ad =>
    have HR := Lib.hid h
    clear h
    have hq := fun W => Lib.run_eql_slice_nil (P := Try.prog) W 54 70 (some ad) q.length c 0 0 Try.underlying54
    go_enter Try.func41, Try.ntmps41
    go_wp2_with (at_builtin; refine wpList_append_row _ rfl (.tmp 5) (.tmp 6) 54 rfl 70 _ 2 16 sec_elem (fun k => k = w.heap.size) (.slice (some ⟨w.heap.size, 0, none⟩) 0 0) 0 [] rfl ?c0 _ q.length c (qcells q) rfl ?c1 (qcells_ok _) ?c2 ?_)
    case c0 => exact ⟨⟨rfl, .inr ⟨w.heap.size, 0, #[], rfl, Nat.zero_le _, Blk.new w 70 #[], Nat.le_refl _, Nat.zero_le _, rfl, rfl⟩⟩, by simp [Value.ownBlock, eq_comm]⟩
    case c1 => exact HR.out.alloc _
    case c2 => omega
    intro v' w1 hrow1 hfr1
    obtain ⟨A', c', rfl, -, -⟩ := hrow1.form
    have hend := Lib.hid (cloneQ_end hrow1 hfr1)
    clear hrow1 hfr1
    go_wp2_with fail
    go_ret
    exact hend.out
theorem mcF_held {w : World} {bf : Nat} {fs : Int → FileC} (h : FilesAt w bf fs) : Calls Try.prog 40 #[.map (some bf)] w fun e w' => e = .returned (.map (some w.heap.size)) ∧ FilesAt w' w.heap.size fs ∧ Fr (fun _ => False) w w' := by
  obtain ⟨L, c, hm, hl⟩ := h
  refine (mcloneF_any bf _ c w hm.heap).mono fun e w' ⟨he, hw⟩ => ⟨he, ?_, ?_⟩
  · rw [hw]
    exact ⟨L, c, ⟨heap_alloc_new w _, hm.keys, hm.born, hm.old⟩, hl⟩
  · rw [hw]; exact (Fr.refl _ w).alloc _
theorem mcS_held {w : World} {bs : Nat} {q : List (Int × Int)} (h : SetAt w bs q) : Calls Try.prog 42 #[.map (some bs)] w fun e w' => e = .returned (.map (some w.heap.size)) ∧ SetAt w' w.heap.size q ∧ Fr (fun _ => False) w w' := by
  obtain ⟨L, c, hm, hl⟩ := h
  refine (mcloneS_any bs _ c w hm.heap).mono fun e w' ⟨he, hw⟩ => ⟨he, ?_, ?_⟩
  · rw [hw]
    exact ⟨L, c, ⟨heap_alloc_new w _, hm.keys, hm.born, hm.old⟩, hl⟩
  · rw [hw]; exact (Fr.refl _ w).alloc _
/-- A copy: a new disk with the same state and the same 'keep'; nothing that was there has turned. -/
def CopyPost (w : World) (kv : Value) (d : DS) (e : Ending) (w' : World) : Prop :=
  ∃ g', e = .returned (.pointer (some ⟨g', 0, none⟩)) ∧ DiskAt w' (fun k => w.heap.size ≤ k ∧ k < w'.heap.size) g' kv d ∧ Fr (fun _ => False) w w'
theorem copy_end {w w1 w2 w3 w4 w5 : World} {F : Nat → Prop} {g bf bs : Nat} {kv qv : Value} {d : DS} {A : Option Addr} {c : Nat} (hd : DiskX w F g kv d bf bs qv) (hf1 : Fr (fun _ => False) w w1)
    (hx : Blk w1 w.heap.size 56 #[.map (some bf), qv, .map (some bs), .int .i64 d.lost, .bool d.down, .int .i64 d.armed, kv])
    (hfa : FilesAt w2 w1.heap.size d.fs) (hf2 : Fr (fun _ => False) w1 w2)
    (hr : Row w3 (fun k => w2.heap.size ≤ k ∧ k < w3.heap.size) 70 2 (.slice A d.q.length c) d.q.length (qcells d.q)) (hf3 : Fr (fun _ => False) w2 w3)
    (hs : SetAt w4 w3.heap.size d.q) (hf4 : Fr (fun _ => False) w3 w4)
    (hw5 : w5 = ((w4.setCell ⟨w.heap.size, 0, none⟩ (.map (some w1.heap.size))).setCell ⟨w.heap.size, 1, none⟩ (.slice A d.q.length c)).setCell ⟨w.heap.size, 2, none⟩ (.map (some w3.heap.size))) :
    CopyPost w kv d (.returned (.pointer (some ⟨w.heap.size, 0, none⟩))) w5 := by
  have lx := hx.lt
  have s2 := hf2.size
  have s3 := hf3.size
  have s4 := hf4.size
  have lf := hfa.lt
  have ls := hs.lt
  have hset : Fr (fun j => j = w.heap.size) w4 w5 := by
    rw [hw5]
    exact (((Fr.refl (fun j => j = w.heap.size) w4).setCell (p := ⟨w.heap.size, 0, none⟩) (fun _ => rfl) _).setCell (p := ⟨w.heap.size, 1, none⟩) (fun _ => rfl) _).setCell (p := ⟨w.heap.size, 2, none⟩) (fun _ => rfl) _
  have hsz : w5.heap.size = w4.heap.size := by rw [hw5]; simp [World.setCell]
  have hf5 : Fr (fun _ => False) w w5 := (((hf1.trans' hf2 fun _ _ h => h).trans' hf3 fun _ _ h => h).trans' hf4 fun _ _ h => h).trans' hset fun k hk e => by omega
  refine ⟨_, rfl, ⟨w1.heap.size, w3.heap.size, .slice A d.q.length c, fun k hk => hk.2, ⟨Nat.le_refl _, by omega⟩, hd.inv, ?_, ⟨by omega, by omega⟩, ⟨by omega, by omega⟩, by omega, ?_, ?_, ?_⟩, hf5⟩
  · have h4 := ((hx.keep hf2 fun h => h).keep hf3 fun h => h).keep hf4 fun h => h
    rw [hw5]
    have := ((h4.set_ 0 (.map (some w1.heap.size))).set_ 1 (.slice A d.q.length c)).set_ 2 (.map (some w3.heap.size))
    simpa using this
  · exact (((hfa.keep hf3 fun h => h).keep hf4 fun h => h)).keep hset (by omega)
  · exact hs.keep hset (by omega)
  · refine ((hr.keep hf4 fun _ _ _ h => h).keep' hset fun k hk e => ?_).more fun k hk h => ⟨by omega, by omega⟩
    have := (hr.2 k hk).1
    omega
theorem holdG {w w' : World} {g bf bs : Nat} {t : TypeId} {qv v3 v4 v5 v6 : Value} (hb : Blk w g t #[.map (some bf), qv, .map (some bs), v3, v4, v5, v6]) {S : Nat → Prop} (hf : Fr S w w') (hn : ¬ S g) : w'.cell? ⟨g, 0, none⟩ = some (.map (some bf)) ∧ w'.cell? ⟨g, 1, none⟩ = some qv ∧ w'.cell? ⟨g, 2, none⟩ = some (.map (some bs)) :=
  ⟨(hb.keep hf hn).cell 0, (hb.keep hf hn).cell 1, (hb.keep hf hn).cell 2⟩
theorem copy_mid {w w' : World} {x : Nat} {t : TypeId} {v0 v1 v2 v3 v4 v5 v6 : Value} (hx : Blk w x t #[v0, v1, v2, v3, v4, v5, v6]) (hf : Fr (fun _ => False) w w') (m1 : Nat) (A : Option Addr) (n c m3 : Nat) :
    x < w'.heap.size ∧ w'.cell? ⟨x, 0, none⟩ = some v0 ∧ w'.cell? ⟨x, 1, none⟩ = some v1 ∧ w'.cell? ⟨x, 2, none⟩ = some v2 ∧ w'.frozen? ⟨x, 0, none⟩ = false ∧ w'.frozen? ⟨x, 1, none⟩ = false ∧ w'.frozen? ⟨x, 2, none⟩ = false ∧
    ∀ W, W = w'.setCell ⟨x, 0, none⟩ (.map (some m1)) ∨ W = (w'.setCell ⟨x, 0, none⟩ (.map (some m1))).setCell ⟨x, 1, none⟩ (.slice A n c) ∨ W = ((w'.setCell ⟨x, 0, none⟩ (.map (some m1))).setCell ⟨x, 1, none⟩ (.slice A n c)).setCell ⟨x, 2, none⟩ (.map (some m3)) → Fr (fun k => k = x) w W := by
  have hb := hx.keep hf fun h => h
  have h0 : Fr (fun k => k = x) w w' := hf.mono fun _ _ h => h.elim
  have s0 := h0.setCell (p := ⟨x, 0, none⟩) (fun _ => rfl) (.map (some m1))
  have s1 := s0.setCell (p := ⟨x, 1, none⟩) (fun _ => rfl) (.slice A n c)
  have s2 := s1.setCell (p := ⟨x, 2, none⟩) (fun _ => rfl) (.map (some m3))
  refine ⟨hb.lt, hb.cell 0, hb.cell 1, hb.cell 2, hb.frozen 0, hb.frozen 1, hb.frozen 2, ?_⟩
  rintro W (rfl | rfl | rfl)
  · exact s0
  · exact s1
  · exact s2
set_option maxRecDepth 100000 in
set_option maxHeartbeats 1600000 in
theorem dcopy_any (g : Nat) (d : DS) (B : Option Addr) (nk ck : Nat) (w : World) (F : Nat → Prop) (h : DiskAt w F g (.slice B nk ck) d) :
    Calls Try.prog 18 #[.pointer (some ⟨g, 0, none⟩)] w (CopyPost w (.slice B nk ck) d) := by
  obtain ⟨bf, bs, qv, h⟩ := h
  obtain ⟨A0, c0, rfl, -, -⟩ := h.row.form
  have a0 : w.cell? ⟨g, 0, none⟩ = some (.map (some bf)) := h.blk.cell 0
  have a1 : w.cell? ⟨g, 1, none⟩ = some (.slice A0 d.q.length c0) := h.blk.cell 1
  have a2 : w.cell? ⟨g, 2, none⟩ = some (.map (some bs)) := h.blk.cell 2
  have a3 : w.cell? ⟨g, 3, none⟩ = some (.int .i64 d.lost) := h.blk.cell 3
  have a4 : w.cell? ⟨g, 4, none⟩ = some (.bool d.down) := h.blk.cell 4
  have a5 : w.cell? ⟨g, 5, none⟩ = some (.int .i64 d.armed) := h.blk.cell 5
  have a6 : w.cell? ⟨g, 6, none⟩ = some (.slice B nk ck) := h.blk.cell 6
  have hlt := h.blk.lt
  have HD := Lib.hid h
  clear h
  go_enter Try.func18, Try.ntmps18
  go_wp2_with fail
  have hx := Blk.new w 56 #[.map (some bf), .slice A0 d.q.length c0, .map (some bs), .int .i64 d.lost, .bool d.down, .int .i64 d.armed, .slice B nk ck]
  have hf1 := (Fr.refl (fun _ => False) w).alloc (.cells #[.map (some bf), .slice A0 d.q.length c0, .map (some bs), .int .i64 d.lost, .bool d.down, .int .i64 d.armed, .slice B nk ck] 56)
  have hd1 := HD.out.alloc (.cells #[.map (some bf), .slice A0 d.q.length c0, .map (some bs), .int .i64 d.lost, .bool d.down, .int .i64 d.armed, .slice B nk ck] 56)
  clear a0 a1 a2 a3 a4 a5 a6
  generalize w.alloc (.cells #[.map (some bf), .slice A0 d.q.length c0, .map (some bs), .int .i64 d.lost, .bool d.down, .int .i64 d.armed, .slice B nk ck] 56) = w1 at *
  have HD1 := Lib.hid hd1
  have HF1 := Lib.hid hf1
  have HX := Lib.hid hx
  have hlen := HD.out.inv.len
  have hgx : ¬ g = w.heap.size := by omega
  clear hd1 hf1 hx
  go_region_held3 (fun w' => w'.cell? ⟨g, 0, none⟩ = some (.map (some bf)) ∧ w'.cell? ⟨g, 1, none⟩ = some (.slice A0 d.q.length c0) ∧ w'.cell? ⟨g, 2, none⟩ = some (.map (some bs)))
    (first | exact holdG HD1.out.blk (Fr.drew (Fr.refl (fun _ => False) _)) (fun h => h) | exact holdG HD1.out.blk (by assumption) (fun h => h) | exact holdG HD1.out.blk (hS1 _ (.inl rfl)) hgx | exact holdG HD1.out.blk (hS1 _ (.inr (.inl rfl))) hgx | exact holdG HD1.out.blk (hS1 _ (.inr (.inr rfl))) hgx)
    (first
      | (go_at_call 40; refine (mcF_held HD1.out.drew.files).mono ?_; rintro e w2 ⟨rfl, hfa, hf2⟩; have HFA := Lib.hid hfa; have hf2' : Fr (fun _ => False) w1 w2 := (Fr.drew (Fr.refl _ w1)).trans' hf2 (fun _ _ h => h); have HF2 := Lib.hid hf2'; clear hfa hf2)
      | (go_at_call 41; refine (cloneQ_any A0 c0 d.q _ (Rd.of_row (HD1.out.row.keep HF2.out (fun _ _ _ h => h))) hlen).mono ?_; rintro e w3 ⟨A3, c3, rfl, hr3, hf3⟩; have HR3 := Lib.hid hr3; have HF3 := Lib.hid hf3; have hf3' : Fr (fun _ => False) w1 w3 := HF2.out.trans' hf3 (fun _ _ h => h); clear hr3 hf3)
      | (go_at_call 42; refine (mcS_held ((HD1.out.set.keep HF2.out (fun h => h)).keep HF3.out (fun h => h))).mono ?_; rintro e w4 ⟨rfl, hs4, hf4⟩; have HS4 := Lib.hid hs4; have HF4 := Lib.hid hf4; have hf4' : Fr (fun _ => False) w1 w4 := (HF2.out.trans' HF3.out (fun _ _ h => h)).trans' hf4 (fun _ _ h => h); obtain ⟨x0, x1, x2, x3, x4, x5, x6, hS1⟩ := copy_mid HX.out hf4' (w1.heap.size) A3 d.q.length c3 (w3.heap.size); clear hs4 hf4))
  all_goals
    have hend := Lib.hid (copy_end HD.out HF1.out HX.out HFA.out HF2.out HR3.out HF3.out HS4.out HF4.out rfl)
    clear hf2' hf3' hf4' x0 x1 x2 x3 x4 x5 x6 hS1
    go_wp2_with fail
    go_ret
    exact hend.out
end Go.Proofs.Ytjgmbildgcighaa
