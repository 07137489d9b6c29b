import Derived.Test.YtjgmbildgcighaaDoorDAt
namespace Go.Proofs.YtjgmbildgcighaaDoor
open Go.RowKit

set_option maxHeartbeats 400000 in
theorem dnew_any (w : World) : Calls Tryd.prog 9 #[] w fun e w' => e = .returned (.pointer (some ⟨w.heap.size + 2, 0, none⟩)) ∧
    w' = ((w.alloc (.map #[] 0)).alloc (.map #[] 0)).alloc (.cells #[.map (some w.heap.size), .slice none 0 0, .map (some (w.heap.size + 1)), .int .i64 0, .bool false, .int .i64 0, .slice none 0 0] 61) := by
  have hmm := @run_makeMap Tryd.prog
  go_enter Tryd.func9, Tryd.ntmps9
  go_wp2_with fail
  go_ret
  exact ⟨rfl, rfl⟩
theorem dnew_at (w : World) : DiskAt (((w.alloc (.map #[] 0)).alloc (.map #[] 0)).alloc (.cells #[.map (some w.heap.size), .slice none 0 0, .map (some (w.heap.size + 1)), .int .i64 0, .bool false, .int .i64 0, .slice none 0 0] 61)) (fun k => w.heap.size ≤ k ∧ k < w.heap.size + 3) (w.heap.size + 2) (.slice none 0 0) ds0 := by
  refine ⟨w.heap.size, w.heap.size + 1, .slice none 0 0, fun k hk => by simp; omega, by omega, inv0, ?_, by omega, by omega, by omega, ?_, ?_, Row.nil _ _ _ _⟩
  · have := Blk.new ((w.alloc (.map #[] 0)).alloc (.map #[] 0)) 61 #[.map (some w.heap.size), .slice none 0 0, .map (some (w.heap.size + 1)), .int .i64 0, .bool false, .int .i64 0, .slice none 0 0]
    simp only [World.size_alloc, Nat.add_assoc] at this
    exact this
  · exact ⟨[], 0, ((MapX.made w _ _).alloc _).alloc _, fun n => rfl⟩
  · have := (MapX.made (w.alloc (.map #[] 0)) secV Value.bool).alloc (.cells #[.map (some w.heap.size), .slice none 0 0, .map (some (w.heap.size + 1)), .int .i64 0, .bool false, .int .i64 0, .slice none 0 0] 61)
    simp only [World.size_alloc] at this
    exact ⟨[], 0, this, by simp, fun x => by simp [hasX, ds0]⟩

theorem field_now (a b : ByteArray) (w : World) : (Instr.field 80 (.agg #[.string a, .string b]) 0).run Tryd.prog w = .ok (.string a) w := by kernel_rfl
set_option maxHeartbeats 400000 in
theorem size_any (g : Nat) (d : DS) (kv : Value) (f : Int) (w : World) (F : Nat → Prop) (h : DiskAt w F g kv d) :
    Calls Tryd.prog 30 #[.pointer (some ⟨g, 0, none⟩), .int .i64 f] w fun e w' => e = .returned (.int .i64 (d.fs f).now.size) ∧ w = w' := by
  obtain ⟨bf, bs, qv, h⟩ := h
  have c0 : w.cell? ⟨g, 0, none⟩ = some (.map (some bf)) := h.blk.cell 0
  have hl := h.files.look f
  unfold fileV at hl
  have hfn := field_now (d.fs f).now (d.fs f).last
  clear h
  go_enter Tryd.func30, Tryd.ntmps30
  go_wp2_with fail
  go_ret
  exact ⟨rfl, rfl⟩

set_option maxHeartbeats 400000 in
theorem may_any (g : Nat) (d : DS) (kv : Value) (f : Int) (w : World) (F : Nat → Prop) (h : DiskAt w F g kv d) :
    Calls Tryd.prog 47 #[.pointer (some ⟨g, 0, none⟩), .int .i64 f] w fun e w' => e = .returned (.int .i64 (mayE d f)) ∧ w = w' := by
  obtain ⟨bf, bs, qv, h⟩ := h
  have c4 : w.cell? ⟨g, 4, none⟩ = some (.bool d.down) := h.blk.cell 4
  clear h
  cases hd : d.down
  · rw [hd] at c4
    by_cases h0 : f < 0
    · have HE : Hid (mayE d f = 1) := by simp [Hid, mayE, hd, h0]
      clear hd
      go_enter Tryd.func47, Tryd.ntmps47
      go_wp2_with fail
      go_ret
      exact ⟨by rw [HE.out]; rfl, rfl⟩
    · by_cases h1 : 16 ≤ f
      · have HE : Hid (mayE d f = 1) := by simp [Hid, mayE, hd, h1]
        clear hd
        go_enter Tryd.func47, Tryd.ntmps47
        go_wp2_with fail
        go_ret
        exact ⟨by rw [HE.out]; rfl, rfl⟩
      · have HE : Hid (mayE d f = 0) := by simp [Hid, mayE, hd, h0, h1]
        clear hd
        go_enter Tryd.func47, Tryd.ntmps47
        go_wp2_with fail
        go_ret
        exact ⟨by rw [HE.out]; rfl, rfl⟩
  · rw [hd] at c4
    have HE : Hid (mayE d f = 9) := by simp [Hid, mayE, hd]
    clear hd
    go_enter Tryd.func47, Tryd.ntmps47
    go_wp2_with fail
    go_ret
    exact ⟨by rw [HE.out]; rfl, rfl⟩
theorem may_is (g : Nat) (d : DS) (kv : Value) (f r : Int) (w : World) (F : Nat → Prop) (h : DiskAt w F g kv d) (hr : mayE d f = r) :
    Calls Tryd.prog 47 #[.pointer (some ⟨g, 0, none⟩), .int .i64 f] w fun e w' => e = .returned (.int .i64 r) ∧ w = w' := hr ▸ may_any g d kv f w F h

set_option maxHeartbeats 800000 in
theorem ends_any (g : Nat) (d : DS) (kv : Value) (w : World) (F : Nat → Prop) (h : DiskAt w F g kv d) :
    Calls Tryd.prog 34 #[.pointer (some ⟨g, 0, none⟩)] w (DPost w F g (.bool (endsB d)) kv (endsD d)) := by
  have hsame := Lib.hid (fun r => h.same (r := r) 0)
  have H := Lib.hid h
  obtain ⟨bf, bs, qv, h⟩ := h
  have c4 : w.cell? ⟨g, 4, none⟩ = some (.bool d.down) := h.blk.cell 4
  have c5 : w.cell? ⟨g, 5, none⟩ = some (.int .i64 d.armed) := h.blk.cell 5
  have f5 : w.frozen? ⟨g, 5, none⟩ = false := h.blk.frozen 5
  obtain ⟨ha0, ha1⟩ := h.inv.armed
  cases hd : d.down
  · rw [hd] at c4
    by_cases h0 : d.armed = 0
    · have HE : Hid (endsB d = false ∧ endsD d = d) := by simp [Hid, endsB, endsD, hd, h0]
      have h0' : (d.armed == 0) = true := by simpa using h0
      clear hd h h0
      go_enter Tryd.func34, Tryd.ntmps34
      go_wp2_with fail
      go_ret
      rw [HE.out.1, HE.out.2]
      exact hsame.out _
    · have HD : Hid (endsD d = { d with armed := d.armed - 1 }) := by simp [Hid, endsD, hd, h0]
      have h0' : (d.armed == 0) = false := by simpa using h0
      have hend : Hid (∀ r, DPost w F g r kv (endsD d) (.returned r) (w.setCell ⟨g, 5, none⟩ (.int .i64 (d.armed - 1)))) := fun r => by
        rw [HD.out]
        refine H.out.post0 ⟨bf, bs, qv, h.set_ ?_ rfl rfl rfl⟩ ((Fr.refl _ _).setCell (fun _ => h.own) _)
        exact HD.out ▸ h.inv.ends
      have hlt := h.blk.lt
      by_cases h1 : d.armed = 1
      · have HB : Hid (endsB d = true) := by simp [Hid, endsB, hd, h1]
        have h1' : (d.armed - 1 == 0) = true := by simp; omega
        clear hd h h0 h1
        go_enter Tryd.func34, Tryd.ntmps34
        go_wp2_with fail
        go_ret
        rw [HB.out]
        exact hend.out _
      · have HB : Hid (endsB d = false) := by simp [Hid, endsB, hd, h1]
        have h1' : (d.armed - 1 == 0) = false := by simp; omega
        clear hd h h0 h1
        go_enter Tryd.func34, Tryd.ntmps34
        go_wp2_with fail
        go_ret
        rw [HB.out]
        exact hend.out _
  · rw [hd] at c4
    have HE : Hid (endsB d = false ∧ endsD d = d) := by simp [Hid, endsB, endsD, hd]
    clear hd h
    go_enter Tryd.func34, Tryd.ntmps34
    go_wp2_with fail
    go_ret
    rw [HE.out.1, HE.out.2]
    exact hsame.out _
theorem ends_is (g : Nat) (d : DS) (kv : Value) (b : Bool) (w : World) (F : Nat → Prop) (h : DiskAt w F g kv d) (hb : endsB d = b) :
    Calls Tryd.prog 34 #[.pointer (some ⟨g, 0, none⟩)] w (DPost w F g (.bool b) kv (endsD d)) := hb ▸ ends_any g d kv w F h

set_option maxHeartbeats 400000 in
theorem start_any (g : Nat) (d : DS) (kv : Value) (w : World) (F : Nat → Prop) (h : DiskAt w F g kv d) :
    Calls Tryd.prog 23 #[.pointer (some ⟨g, 0, none⟩)] w (DPost w F g (.tuple #[]) kv (startD d)) := by
  have H := Lib.hid h
  obtain ⟨bf, bs, qv, h⟩ := h
  have c4 : w.cell? ⟨g, 4, none⟩ = some (.bool d.down) := h.blk.cell 4
  have f4 : w.frozen? ⟨g, 4, none⟩ = false := h.blk.frozen 4
  have hend : Hid (DPost w F g (.tuple #[]) kv (startD d) (.returned (.tuple #[])) (w.setCell ⟨g, 4, none⟩ (.bool false))) :=
    H.out.post0 ⟨bf, bs, qv, h.set_ h.inv.start rfl rfl rfl⟩ ((Fr.refl _ _).setCell (fun _ => h.own) _)
  clear h
  go_enter Tryd.func23, Tryd.ntmps23
  go_wp2_with fail
  go_end0
  exact hend.out

set_option maxHeartbeats 400000 in
theorem lose_any (g : Nat) (d : DS) (kv : Value) (n : Int) (hn : n ≤ 9223372036854775807) (w : World) (F : Nat → Prop) (h : DiskAt w F g kv d) :
    Calls Tryd.prog 19 #[.pointer (some ⟨g, 0, none⟩), .int .i64 n] w (DPost w F g (.tuple #[]) kv (loseD d n)) := by
  have H := Lib.hid h
  obtain ⟨bf, bs, qv, h⟩ := h
  have c4 : w.cell? ⟨g, 3, none⟩ = some (.int .i64 d.lost) := h.blk.cell 3
  have f4 : w.frozen? ⟨g, 3, none⟩ = false := h.blk.frozen 3
  have hend : Hid (∀ m, m = max n 0 → DPost w F g (.tuple #[]) kv (loseD d n) (.returned (.tuple #[])) (w.setCell ⟨g, 3, none⟩ (.int .i64 m))) := by
    rintro m rfl
    exact H.out.post0 ⟨bf, bs, qv, h.set_ (h.inv.lose n hn) rfl rfl rfl⟩ ((Fr.refl _ _).setCell (fun _ => h.own) _)
  clear h
  go_enter Tryd.func19, Tryd.ntmps19
  go_wp2_with fail
  all_goals
    go_end0
    exact hend.out _ (by omega)

def intsV (ks : List Int) : List Value := ks.map (Value.int .i64)
theorem intsV_ok (ks : List Int) : ∀ u ∈ intsV ks, u.oneCell' = true := by
  intro u hu
  obtain ⟨k, _, rfl⟩ := List.mem_map.1 hu
  rfl
theorem KeepAt.rd {w : World} {F : Nat → Prop} {B : Option Addr} {ks : List Int} (h : KeepAt w F B ks) : Rd w 1 B ks.length (intsV ks) := by
  refine ⟨by simp [intsV], fun hn => ?_⟩
  obtain ⟨b, o, rfl, -, -, -⟩ := h 0 _ (List.getElem?_eq_getElem hn)
  refine ⟨_, rfl, fun j u hu => ?_⟩
  simp only [intsV, List.getElem?_map, Option.map_eq_some_iff] at hu
  obtain ⟨p, hp, rfl⟩ := hu
  obtain ⟨b', o', e, -, -, hc⟩ := h j p hp
  simp only [Option.some.injEq, Addr.mk.injEq] at e
  obtain ⟨rfl, rfl, -⟩ := e
  rw [Addr.add_lit]
  exact hc
/-- A new slice of ints; nothing that was there has turned. -/
def NewInts (w : World) (ks : List Int) (e : Ending) (w' : World) : Prop :=
  ∃ v, e = .returned v ∧ Row w' (fun k => w.heap.size ≤ k ∧ k < w'.heap.size) 3 1 v ks.length (intsV ks) ∧ Fr (fun _ => False) w w'
theorem cloneI_end {w w1 : World} {ks : List Int} {v' : Value} {o : Obj} (hr : Row w1 (Grow (fun k => k = w.heap.size) (w.alloc o) w1) 3 1 v' ks.length (intsV ks))
    (hf : Fr (Own (.slice (some ⟨w.heap.size, 0, none⟩) 0 0)) (w.alloc o) w1) : NewInts w ks (.returned v') w1 := by
  refine ⟨v', rfl, ?_, ?_⟩
  · have := hf.size
    simp only [World.size_alloc] at this
    exact hr.more fun k _ h => by
      rcases h with h | h
      · omega
      · simp at h; omega
  · refine ((Fr.refl _ w).alloc o).trans' hf fun k hk h => ?_
    have : w.heap.size = k := by simpa [Own, Value.ownBlock] using h
    omega
set_option maxRecDepth 100000 in
set_option maxHeartbeats 800000 in
theorem cloneI_any (A : Option Addr) (c : Nat) (ks : List Int) (w : World) (h : Rd w 1 A ks.length (intsV ks)) (hb : ks.length ≤ 1000000) :
    Calls Tryd.prog 43 #[.slice A ks.length c] w (NewInts w ks) := by
  cases A with
  | none =>
    have h0 : ks = [] := by
      rcases Nat.eq_zero_or_pos ks.length with h0 | h0
      · exact List.eq_nil_of_length_eq_zero h0
      · obtain ⟨ad, h1, _⟩ := h.2 h0; cases h1
    subst h0
    have hend : Hid (NewInts w [] (.returned (.slice none 0 0)) w) := ⟨_, rfl, Row.nil _ _ _ _, Fr.refl _ _⟩
    clear h hb
    have hq := fun W => Lib.run_eql_slice_nil (P := Tryd.prog) W 39 3 none 0 c 0 0 Tryd.underlying39
    go_enter Tryd.func43, Tryd.ntmps43
    go_wp2_with fail
    go_ret
    exact hend.out
  | some ad =>
    have HR := Lib.hid h
    clear h
    have hq := fun W => Lib.run_eql_slice_nil (P := Tryd.prog) W 39 3 (some ad) ks.length c 0 0 Tryd.underlying39
    go_enter Tryd.func43, Tryd.ntmps43
    go_wp2_with (at_builtin; refine wpList_append_row _ rfl (.tmp 5) (.tmp 6) 39 rfl 3 _ 1 8 int_elem (fun k => k = w.heap.size) (.slice (some ⟨w.heap.size, 0, none⟩) 0 0) 0 [] rfl ?c0 _ ks.length c (intsV ks) rfl ?c1 (intsV_ok _) ?c2 ?_)
    case c0 => exact ⟨⟨rfl, .inr ⟨w.heap.size, 0, #[], rfl, Nat.zero_le _, Blk.new w 3 #[], Nat.le_refl _, Nat.zero_le _, rfl, rfl⟩⟩, by simp [Value.ownBlock, eq_comm]⟩
    case c1 => exact HR.out.alloc _
    case c2 => omega
    intro v' w1 hrow1 hfr1
    have hend := Lib.hid (cloneI_end (ks := ks) (by simpa using hrow1) hfr1)
    obtain ⟨A', c', rfl, -, -⟩ := hrow1.form
    clear hrow1 hfr1
    go_wp2_with fail
    go_ret
    exact hend.out
/-- What Arm leaves: a disk with a new 'keep', which lies outside of the disk's blocks. -/
def ArmPost (w : World) (F : Nat → Prop) (g : Nat) (d : DS) (ks : List Int) (e : Ending) (w' : World) : Prop :=
  e = .returned (.tuple #[]) ∧ ∃ B c, DiskAt w' F g (.slice B ks.length c) d ∧ KeepAt w' F B ks ∧ Fr F w w' ∧ ∀ ad, B = some ad → w.heap.size ≤ ad.block
theorem row_keep {w : World} {F G : Nat → Prop} {B : Option Addr} {ks : List Int} {n c : Nat} (h : Row w G 3 1 (.slice B n c) ks.length (intsV ks)) (hG : ∀ k, k < w.heap.size → G k → ¬ F k) : KeepAt w F B ks := by
  intro k p hk
  have hlt := (List.getElem?_eq_some_iff.1 hk).1
  rcases h.1.2 with ⟨_, h0⟩ | ⟨g, cap, cur, hv, _⟩
  · omega
  · have hB : B = some ⟨g, 0, none⟩ := by injection hv
    subst hB
    have hg : g < w.heap.size := h.lt (by simp [Value.ownBlock])
    refine ⟨g, 0, rfl, hg, hG g hg (h.2 g (by simp [Value.ownBlock])), ?_⟩
    have := h.1.cells (g := g) rfl k (.int .i64 p) (by simp [intsV, hk])
    rw [Addr.add_lit] at this
    exact this
set_option maxRecDepth 100000 in
set_option maxHeartbeats 800000 in
theorem arm_any (g : Nat) (d : DS) (kv : Value) (n : Int) (hn : n ≤ 9223372036854775807) (A : Option Addr) (c : Nat) (ks : List Int) (w : World) (F : Nat → Prop) (h : DiskAt w F g kv d) (hk : KeepAt w F A ks) (hb : ks.length ≤ 1000000) :
    Calls Tryd.prog 21 #[.pointer (some ⟨g, 0, none⟩), .int .i64 n, .slice A ks.length c] w (ArmPost w F g (armD d n) ks) := by
  have HK := Lib.hid hk
  obtain ⟨bf, bs, qv, h⟩ := h
  have H := Lib.hid h
  have hstep : Hid (∀ w1 m, m = max n 0 → ∀ B c', Row w1 (fun k => w.heap.size ≤ k ∧ k < w1.heap.size) 3 1 (.slice B ks.length c') ks.length (intsV ks) → Fr (fun _ => False) w w1 →
      w1.cell? ⟨g, 5, none⟩ = some (.int .i64 d.armed) ∧ w1.frozen? ⟨g, 5, none⟩ = false ∧ w1.cell? ⟨g, 6, none⟩ = some kv ∧ w1.frozen? ⟨g, 6, none⟩ = false ∧
      ArmPost w F g (armD d n) ks (.returned (.tuple #[])) ((w1.setCell ⟨g, 5, none⟩ (.int .i64 m)).setCell ⟨g, 6, none⟩ (.slice B ks.length c'))) := by
    rintro w1 m rfl B c' hr hf
    have h1 := H.out.keep hf fun _ _ h => h
    refine ⟨h1.blk.cell 5, h1.blk.frozen 5, h1.blk.cell 6, h1.blk.frozen 6, rfl, B, c', ⟨bf, bs, qv, ?_⟩, ?_, ?_, ?_⟩
    · have h2 := h1.set_ (i := 5) (u := .int .i64 (max n 0)) (kv' := kv) (d' := armD d n) (h1.inv.arm n hn) rfl rfl rfl
      exact h2.set_ (i := 6) (u := .slice B ks.length c') (kv' := .slice B ks.length c') (d' := armD d n) (h1.inv.arm n hn) rfl rfl rfl
    · have hr2 : Row ((w1.setCell ⟨g, 5, none⟩ (.int .i64 (max n 0))).setCell ⟨g, 6, none⟩ (.slice B ks.length c')) (fun k => w.heap.size ≤ k ∧ k < w1.heap.size) 3 1 (.slice B ks.length c') ks.length (intsV ks) := by
        have hg : ∀ e, (Value.slice B ks.length c').ownBlock = some e → e ≠ g := fun e he heq => by
          have h3 := (hr.2 e he).1
          have h4 := H.out.lt g H.out.own
          omega
        refine (hr.far (p := ⟨g, 5, none⟩) (fun e => hg _ e rfl) _).far (p := ⟨g, 6, none⟩) (fun e => hg _ e rfl) _
      exact row_keep hr2 fun k _ hk hF => by have := H.out.lt k hF; omega
    · exact ((hf.mono (T := F) fun _ _ h => h.elim).setCell (fun _ => H.out.own) _).setCell (fun _ => H.out.own) _
    · intro ad hB
      subst hB
      rcases hr.1.2 with ⟨hv, _⟩ | ⟨g', cap, cur, hv, _⟩
      · cases hv
      · injection hv with hv
        injection hv with hv
        subst hv
        exact (hr.2 g' (by simp [Value.ownBlock])).1
  clear h hk
  by_cases h0 : n < 0
  all_goals
    go_enter Tryd.func21, Tryd.ntmps21
    go_wp2_with fail
    refine (cloneI_any A c ks _ HK.out.rd hb).mono ?_
    rintro e w1 ⟨v, rfl, hr, hf⟩
    obtain ⟨B, c', rfl, -, -⟩ := hr.form
    obtain ⟨x1, x2, x3, x4, hend0⟩ := hstep.out w1 _ rfl B c' hr hf
    have hend := Lib.hid hend0
    clear hend0 hr hf hstep
    go_wp2_with fail
    go_end0
    have h9 := hend.out
    first | (rw [show max n 0 = 0 by omega] at h9; exact h9) | (rw [show max n 0 = n by omega] at h9; exact h9)
end Go.Proofs.YtjgmbildgcighaaDoor
