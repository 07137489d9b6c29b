import Derived.Test.YtjgmbildgcighaaDoorR0
namespace Go.Proofs.YtjgmbildgcighaaDoor
open Go.RowKit

set_option maxHeartbeats 400000 in
theorem rnew_any (w : World) : Calls Tryd.prog 10 #[] w fun e w' => e = .returned (.pointer (some ⟨w.heap.size, 0, none⟩)) ∧
    w' = w.alloc (.cells #[.slice none 0 0, .slice none 0 0, .int .i64 0, .bool false, .int .i64 0, .slice none 0 0] 65) := by
  go_enter Tryd.func10, Tryd.ntmps10
  go_wp2_with fail
  go_ret
  exact ⟨rfl, rfl⟩
theorem rnew_at (w : World) : RefAt (w.alloc (.cells #[.slice none 0 0, .slice none 0 0, .int .i64 0, .bool false, .int .i64 0, .slice none 0 0] 65)) (fun k => k = w.heap.size) w.heap.size (.slice none 0 0) ds0 :=
  ⟨.slice none 0 0, .slice none 0 0, [], fun k hk => by simp; omega, rfl, inv0, Blk.new w _ _, Row.nil _ _ _ _, Row.nil _ _ _ _, fun n => rfl, by simp, by simp⟩
set_option maxHeartbeats 400000 in
theorem rmay_any (g : Nat) (d : DS) (kv : Value) (f : Int) (w : World) (F : Nat → Prop) (h : RefAt w F g kv d) :
    Calls Tryd.prog 37 #[.pointer (some ⟨g, 0, none⟩), .int .i64 f] w fun e w' => e = .returned (.int .i64 (mayE d f)) ∧ w = w' := by
  obtain ⟨fv, qv, L, h⟩ := h
  have c3 : w.cell? ⟨g, 3, none⟩ = some (.bool d.down) := h.blk.cell 3
  clear h
  cases hd : d.down
  · rw [hd] at c3
    by_cases h0 : f < 0
    · have HE : Hid (mayE d f = 1) := by simp [Hid, mayE, hd, h0]
      clear hd
      go_enter Tryd.func37, Tryd.ntmps37
      go_wp2_with fail
      go_ret
      exact ⟨by rw [HE.out]; rfl, rfl⟩
    · by_cases h1 : 15 < f
      · have HE : Hid (mayE d f = 1) := by simp [Hid, mayE, hd, h0]; omega
        clear hd
        go_enter Tryd.func37, Tryd.ntmps37
        go_wp2_with fail
        go_ret
        exact ⟨by rw [HE.out]; rfl, rfl⟩
      · have HE : Hid (mayE d f = 0) := by simp [Hid, mayE, hd, h0]; omega
        clear hd
        go_enter Tryd.func37, Tryd.ntmps37
        go_wp2_with fail
        go_ret
        exact ⟨by rw [HE.out]; rfl, rfl⟩
  · rw [hd] at c3
    have HE : Hid (mayE d f = 9) := by simp [Hid, mayE, hd]
    clear hd
    go_enter Tryd.func37, Tryd.ntmps37
    go_wp2_with fail
    go_ret
    exact ⟨by rw [HE.out]; rfl, rfl⟩
theorem rmay_is (g : Nat) (d : DS) (kv : Value) (f r : Int) (w : World) (F : Nat → Prop) (h : RefAt w F g kv d) (hr : mayE d f = r) :
    Calls Tryd.prog 37 #[.pointer (some ⟨g, 0, none⟩), .int .i64 f] w fun e w' => e = .returned (.int .i64 r) ∧ w = w' := hr ▸ rmay_any g d kv f w F h
def fitsB (a : Int) (s : ByteArray) : Bool := decide (0 ≤ a) && decide (a ≤ 16777216) && decide (a + s.size ≤ 16777216)
set_option maxHeartbeats 400000 in
theorem fits_any (a : Int) (s : ByteArray) (hs : s.size ≤ 9000000000000000000) (w : World) :
    Calls Tryd.prog 38 #[.int .i64 a, .string s] w fun e w' => e = .returned (.bool (fitsB a s)) ∧ w = w' := by
  by_cases h0 : 0 ≤ a
  · by_cases h1 : a ≤ 16777216
    · have HE : Hid (fitsB a s = decide (a + (s.size : Int) ≤ 16777216)) := by simp [Hid, fitsB, h0, h1]
      go_enter Tryd.func38, Tryd.ntmps38
      go_wp2_with fail
      go_ret
      exact ⟨by rw [HE.out]; rfl, rfl⟩
    · have HE : Hid (fitsB a s = false) := by simp [Hid, fitsB, h1]
      go_enter Tryd.func38, Tryd.ntmps38
      go_wp2_with fail
      go_ret
      exact ⟨by rw [HE.out]; rfl, rfl⟩
  · have HE : Hid (fitsB a s = false) := by simp [Hid, fitsB, h0]
    go_enter Tryd.func38, Tryd.ntmps38
    go_wp2_with fail
    go_ret
    exact ⟨by rw [HE.out]; rfl, rfl⟩
theorem fits_is (a : Int) (s : ByteArray) (b : Bool) (hs : s.size ≤ 9000000000000000000) (w : World) (hb : fitsB a s = b) :
    Calls Tryd.prog 38 #[.int .i64 a, .string s] w fun e w' => e = .returned (.bool b) ∧ w = w' := hb ▸ fits_any a s hs w
set_option maxHeartbeats 400000 in
theorem rstart_any (g : Nat) (d : DS) (kv : Value) (w : World) (F : Nat → Prop) (h : RefAt w F g kv d) :
    Calls Tryd.prog 29 #[.pointer (some ⟨g, 0, none⟩)] w (RPost w F g (.tuple #[]) kv (startD d)) := by
  have H := Lib.hid h
  obtain ⟨fv, qv, L, h⟩ := h
  have c3 : w.cell? ⟨g, 3, none⟩ = some (.bool d.down) := h.blk.cell 3
  have f3 : w.frozen? ⟨g, 3, none⟩ = false := h.blk.frozen 3
  have hend : Hid (RPost w F g (.tuple #[]) kv (startD d) (.returned (.tuple #[])) (w.setCell ⟨g, 3, none⟩ (.bool false))) :=
    H.out.post0 ⟨fv, qv, L, h.set_ h.inv.start rfl rfl rfl⟩ ((Fr.refl _ _).setCell (fun _ => h.own) _)
  clear h
  go_enter Tryd.func29, Tryd.ntmps29
  go_wp2_with fail
  go_end0
  exact hend.out
set_option maxHeartbeats 400000 in
theorem rlose_any (g : Nat) (d : DS) (kv : Value) (n : Int) (hn : n ≤ 9223372036854775807) (w : World) (F : Nat → Prop) (h : RefAt w F g kv d) :
    Calls Tryd.prog 26 #[.pointer (some ⟨g, 0, none⟩), .int .i64 n] w (RPost w F g (.tuple #[]) kv (loseD d n)) := by
  have H := Lib.hid h
  obtain ⟨fv, qv, L, h⟩ := h
  have c2 : w.cell? ⟨g, 2, none⟩ = some (.int .i64 d.lost) := h.blk.cell 2
  have f2 : w.frozen? ⟨g, 2, none⟩ = false := h.blk.frozen 2
  have hend : Hid (∀ m, m = max n 0 → RPost w F g (.tuple #[]) kv (loseD d n) (.returned (.tuple #[])) (w.setCell ⟨g, 2, none⟩ (.int .i64 m))) := by
    rintro m rfl
    exact H.out.post0 ⟨fv, qv, L, h.set_ (h.inv.lose n hn) rfl rfl rfl⟩ ((Fr.refl _ _).setCell (fun _ => h.own) _)
  clear h
  go_enter Tryd.func26, Tryd.ntmps26
  go_wp2_with fail
  all_goals
    go_end0
    exact hend.out _ (by omega)
theorem field_rnow (n : Int) (a b : ByteArray) (w : World) : (Instr.field 86 (.agg #[.int .i64 n, .string a, .string b]) 1).run Tryd.prog w = .ok (.string a) w := by kernel_rfl
set_option maxRecDepth 100000 in
set_option maxHeartbeats 1600000 in
theorem rget_any (g : Nat) (d : DS) (kv : Value) (f : Int) (w : World) (F : Nat → Prop) (h : RefAt w F g kv d) :
    Calls Tryd.prog 48 #[.pointer (some ⟨g, 0, none⟩), .int .i64 f] w fun e w' => e = .returned (.agg #[.int .i64 f, .string (d.fs f).now, .string (d.fs f).last]) ∧ Fr (fun _ => False) w w' := by
  obtain ⟨fv, qv, L, h⟩ := h
  have hlen := h.len
  have hlg := h.blk.lt
  obtain ⟨A, c, rfl, -, hcm⟩ := h.files.form
  have hb0 := Lib.hid (h.blk.alloc (.cells #[.int .i64 0, .string ⟨#[]⟩, .string ⟨#[]⟩] 86))
  have hL := Lib.hid (h.files.fat.fr ((Fr.refl _ w).alloc (.cells #[.int .i64 0, .string ⟨#[]⟩, .string ⟨#[]⟩] 86)))
  have HLK := Lib.hid (h.look f)
  have hbn := Lib.hid (Blk.new w 86 #[.int .i64 0, .string ⟨#[]⟩, .string ⟨#[]⟩])
  clear h
  have hxl : w.heap.size < (w.alloc (.cells #[.int .i64 0, .string ⟨#[]⟩, .string ⟨#[]⟩] 86)).heap.size := by simp
  have hF1 := Lib.hid ((Fr.refl (fun _ => False) w).alloc (.cells #[.int .i64 0, .string ⟨#[]⟩, .string ⟨#[]⟩] 86))
  have hx0 := Nat.le_refl w.heap.size
  unfold maxLen at hcm
  go_enter Tryd.func48, Tryd.ntmps48
  go_wp2_with fail
  generalize w.alloc (.cells #[.int .i64 0, .string ⟨#[]⟩, .string ⟨#[]⟩] 86) = w1 at *
  generalize hx : w.heap.size = x at *
  have c0 : w1.cell? ⟨g, 0, none⟩ = some (.slice A L.length c) := hb0.out.cell 0
  have x0 : w1.cell? ⟨x, 0, none⟩ = some (.int .i64 0) := hbn.out.cell 0
  have x1 : w1.cell? ⟨x, 1, none⟩ = some (.string ⟨#[]⟩) := hbn.out.cell 1
  have x2 : w1.cell? ⟨x, 2, none⟩ = some (.string ⟨#[]⟩) := hbn.out.cell 2
  have fx0 : w1.frozen? ⟨x, 0, none⟩ = false := hbn.out.frozen 0
  have fx1 : w1.frozen? ⟨x, 1, none⟩ = false := hbn.out.frozen 1
  have fx2 : w1.frozen? ⟨x, 2, none⟩ = false := hbn.out.frozen 2
  have hfin : Hid (∀ a b c, Fr (fun _ => False) w (((w1.setCell ⟨x, 0, none⟩ a).setCell ⟨x, 1, none⟩ b).setCell ⟨x, 2, none⟩ c)) := by
    intro a b c
    exact hF1.out.trans' (fr_set3 w1 x a b c) fun k hk e => by omega
  have hcel : Hid (∀ a b c, Blk (((w1.setCell ⟨x, 0, none⟩ a).setCell ⟨x, 1, none⟩ b).setCell ⟨x, 2, none⟩ c) x 86 #[a, b, c]) := by
    intro a b c
    simpa using ((hbn.out.set_ 0 a).set_ 1 b).set_ 2 c
  go_loop [5] (fun i => ∃ k : Nat, k ≤ L.length ∧ i = .int .i64 k ∧ ∀ q ∈ L.take k, q.1 ≠ f) (fun i => L.length - (intOf i).toNat)
  case atStart => exact ⟨0, Nat.zero_le _, rfl, by simp⟩
  case round =>
    obtain ⟨k, hk, rfl, hall⟩ := hrel
    by_cases hlt : k < L.length
    · obtain ⟨p, hp⟩ : ∃ p, L[k]? = some p := ⟨_, List.getElem?_eq_getElem hlt⟩
      obtain ⟨b, rfl, hb, y0, y1, y2⟩ := hL.out k p hp
      have hz : (k : Int) < (L.length : Int) := by omega
      by_cases hpf : p.1 = f
      · have hfx := lookF_at hp hpf hall
        rw [HLK.out] at hfx
        have HFX := Lib.hid hfx
        have hpf' : (p.1 == f) = true := by simpa using hpf
        have HPF := Lib.hid hpf
        clear hall hp hpf hfx
        go_wp2_with fail
        have hc := hcel.out (.int .i64 p.1) (.string p.2.now) (.string p.2.last)
        have e0 := hc.cell 0
        have e1 := hc.cell 1
        have e2 := hc.cell 2
        refine bodyPost_ret (v := .agg #[.int .i64 p.1, .string p.2.now, .string p.2.last]) (by simp [results, Tryd.results48, go_sem, e0, e1, e2]) rfl ⟨by rw [HFX.out, ← HPF.out], hfin.out _ _ _⟩
      · have hpf' : (p.1 == f) = false := by simpa using hpf
        have hall2 : Hid (∀ q ∈ L.take (k + 1), q.1 ≠ f) := by
          show ∀ q ∈ L.take (k + 1), q.1 ≠ f
          obtain ⟨hl, rfl⟩ := List.getElem?_eq_some_iff.1 hp
          intro q hq
          rw [List.take_succ_eq_append_getElem hl] at hq
          rcases List.mem_append.1 hq with hq | hq
          · exact hall q hq
          · simp at hq; subst hq; exact hpf
        clear hall hp hpf
        go_wp2_with fail
        go_round
        case rel => exact ⟨k + 1, by omega, by go_num, hall2.out⟩
        case measure => simp [intOf]; omega
    · have hz : ¬ (k : Int) < (L.length : Int) := by omega
      have hno : Hid (d.fs f = file0) := by
        show _ = _
        rw [← HLK.out]
        exact lookF_none fun p hp => hall p (by rw [List.take_of_length_le (by omega)]; exact hp)
      clear hall
      go_wp2_with fail
      have hc := hcel.out (.int .i64 f) (.string ⟨#[]⟩) (.string ⟨#[]⟩)
      have e0 := hc.cell 0
      have e1 := hc.cell 1
      have e2 := hc.cell 2
      refine bodyPost_ret (v := .agg #[.int .i64 f, .string ⟨#[]⟩, .string ⟨#[]⟩]) (by simp [results, Tryd.results48, go_sem, e0, e1, e2]) rfl ⟨by rw [hno.out]; rfl, hfin.out _ _ _⟩
set_option maxHeartbeats 400000 in
theorem rsize_any (g : Nat) (d : DS) (kv : Value) (f : Int) (w : World) (F : Nat → Prop) (h : RefAt w F g kv d) :
    Calls Tryd.prog 33 #[.pointer (some ⟨g, 0, none⟩), .int .i64 f] w fun e w' => e = .returned (.int .i64 (d.fs f).now.size) ∧ Fr (fun _ => False) w w' := by
  have H := Lib.hid h
  have hfn := field_rnow f (d.fs f).now (d.fs f).last
  clear h
  go_enter Tryd.func33, Tryd.ntmps33
  go_wp2_with fail
  refine (rget_any g d kv f _ F H.out).mono ?_
  rintro e w1 ⟨rfl, hf⟩
  go_wp2_with fail
  go_ret
  exact ⟨rfl, hf⟩
theorem readE_no {d : DS} {f a n : Int} (h : ¬ mayE d f = 0) : readE d f a n = mayE d f ∧ readS d f a n = ⟨#[]⟩ := by
  have : readE d f a n = mayE d f := by unfold readE; rw [if_neg h]
  exact ⟨this, by unfold readS; rw [if_neg (by rw [this]; exact h)]⟩
theorem rreadE_arg {d : DS} {f a n : Int} (h : mayE d f = 0) (hn : a < 0 ∨ n < 0) : readE d f a n = 1 ∧ readS d f a n = ⟨#[]⟩ := by
  have : readE d f a n = 1 := by
    unfold readE
    rw [if_pos h]
    by_cases h0 : a < 0
    · rw [if_pos h0]
    · rw [if_neg h0, if_pos (by omega)]
  exact ⟨this, by unfold readS; rw [if_neg (by rw [this]; decide)]⟩
theorem readS_end {d : DS} {f a n : Int} (h : mayE d f = 0) (ha : 0 ≤ a) (hn : 0 ≤ n) (hl : ((d.fs f).now.size : Int) ≤ a) : readE d f a n = 0 ∧ readS d f a n = ⟨#[]⟩ := by
  have h0 : readE d f a n = 0 := by
    unfold readE
    rw [if_pos h, if_neg (by omega), if_neg (by omega)]
  refine ⟨h0, ?_⟩
  unfold readS
  rw [if_pos h0]
  dsimp only
  refine eq_empty ?_
  rw [size_extract, size_extract]
  omega
theorem extract_extract' (s : ByteArray) (a b n : Nat) : (s.extract a b).extract 0 n = s.extract a (min (a + n) b) := by
  rw [ByteArray.extract_extract]
  rfl
theorem readS_in {d : DS} {f : Int} {a : Nat} {n : Int} (h : mayE d f = 0) (hn : 0 ≤ n) (hl : a < (d.fs f).now.size) {e : Nat} (he : (e : Int) = a + min n ((d.fs f).now.size - a)) : readE d f a n = 0 ∧ readS d f a n = (d.fs f).now.extract a e := by
  have h0 : readE d f a n = 0 := by
    unfold readE
    rw [if_pos h, if_neg (by omega), if_neg (by omega)]
  refine ⟨h0, ?_⟩
  unfold readS
  rw [if_pos h0]
  dsimp only
  rw [size_extract, ByteArray.extract_extract]
  congr 1 <;> omega
set_option maxRecDepth 100000 in
set_option maxHeartbeats 1600000 in
theorem rread_any (g : Nat) (d : DS) (kv : Value) (f a n : Int) (hn63 : n ≤ 9223372036854775807) (w : World) (F : Nat → Prop) (h : RefAt w F g kv d) :
    Calls Tryd.prog 32 #[.pointer (some ⟨g, 0, none⟩), .int .i64 f, .int .i64 a, .int .i64 n] w fun e w' => e = .returned (.tuple #[.string (readS d f a n), .int .i64 (readE d f a n)]) ∧ Fr (fun _ => False) w w' := by
  have H := Lib.hid h
  have h16 := h.inv.now f
  clear h
  by_cases hm : mayE d f = 0
  · have HM := Lib.hid hm
    by_cases h0 : a < 0
    · have HE := Lib.hid (rreadE_arg (n := n) hm (.inl h0))
      clear hm
      go_enter Tryd.func32, Tryd.ntmps32
      go_wp2_with fail
      refine (rmay_is g d kv f 0 _ F H.out HM.out).mono ?_
      rintro e w' ⟨rfl, rfl⟩
      go_wp2_with fail
      go_ret2
      exact ⟨by rw [HE.out.1, HE.out.2]; rfl, Fr.refl _ _⟩
    by_cases h1 : n < 0
    · have HE := Lib.hid (rreadE_arg (a := a) hm (.inr h1))
      clear hm
      go_enter Tryd.func32, Tryd.ntmps32
      go_wp2_with fail
      refine (rmay_is g d kv f 0 _ F H.out HM.out).mono ?_
      rintro e w' ⟨rfl, rfl⟩
      go_wp2_with fail
      go_ret2
      exact ⟨by rw [HE.out.1, HE.out.2]; rfl, Fr.refl _ _⟩
    have hfn := field_rnow f (d.fs f).now (d.fs f).last
    by_cases hl : ((d.fs f).now.size : Int) ≤ a
    · have HE := Lib.hid (readS_end hm (by omega) (by omega : 0 ≤ n) hl)
      clear hm
      go_enter Tryd.func32, Tryd.ntmps32
      go_wp2_with fail
      refine (rmay_is g d kv f 0 _ F H.out HM.out).mono ?_
      rintro e w' ⟨rfl, rfl⟩
      go_wp2_with fail
      refine (rget_any g d kv f _ F H.out).mono ?_
      rintro e w1 ⟨rfl, hf⟩
      go_wp2_with fail
      go_ret2
      exact ⟨by rw [HE.out.1, HE.out.2]; rfl, hf⟩
    · obtain ⟨k, rfl⟩ : ∃ k : Nat, a = k := ⟨a.toNat, by omega⟩
      obtain ⟨e0, he⟩ : ∃ e0 : Nat, (e0 : Int) = k + min n ((d.fs f).now.size - k) := ⟨(k + min n ((d.fs f).now.size - k)).toNat, by omega⟩
      have HE := Lib.hid (readS_in hm (by omega : 0 ≤ n) (by omega : k < (d.fs f).now.size) he)
      have hke : k ≤ e0 := by omega
      have hel : e0 ≤ (d.fs f).now.size := by omega
      clear hm
      generalize hs : (d.fs f).now = s at *
      have hs0 : ¬ (s.size : Int) ≤ (k : Int) := by omega
      by_cases hc : n ≤ (s.size : Int) - (k : Int)
      · obtain ⟨m, rfl⟩ : ∃ m : Nat, n = m := ⟨n.toNat, by omega⟩
        obtain rfl : e0 = k + m := by omega
        clear he
        go_enter Tryd.func32, Tryd.ntmps32
        go_wp2_with fail
        refine (rmay_is g d kv f 0 _ F H.out HM.out).mono ?_
        rintro e w' ⟨rfl, rfl⟩
        go_wp2_with fail
        refine (rget_any g d kv f _ F H.out).mono ?_
        rintro e w1 ⟨rfl, hf⟩
        go_wp2_with fail
        go_ret2
        exact ⟨by rw [HE.out.1, HE.out.2]; rfl, hf⟩
      · obtain rfl : e0 = k + (s.size - k) := by omega
        clear he
        go_enter Tryd.func32, Tryd.ntmps32
        go_wp2_with fail
        refine (rmay_is g d kv f 0 _ F H.out HM.out).mono ?_
        rintro e w' ⟨rfl, rfl⟩
        go_wp2_with fail
        refine (rget_any g d kv f _ F H.out).mono ?_
        rintro e w1 ⟨rfl, hf⟩
        go_wp2_with fail
        go_ret2
        exact ⟨by rw [HE.out.1, HE.out.2]; rfl, hf⟩
  · have HM := Lib.hid hm
    have HE := Lib.hid (readE_no (a := a) (n := n) hm)
    have hm' : (mayE d f != 0) = true := by simpa using hm
    clear hm
    go_enter Tryd.func32, Tryd.ntmps32
    go_wp2_with fail
    refine (rmay_any g d kv f _ F H.out).mono ?_
    rintro e w' ⟨rfl, rfl⟩
    go_wp2_with fail
    go_ret2
    exact ⟨by rw [HE.out.1, HE.out.2]; rfl, Fr.refl _ _⟩
set_option maxRecDepth 100000 in
set_option maxHeartbeats 800000 in
theorem rpending_any (g : Nat) (d : DS) (kv : Value) (f n : Int) (w : World) (F : Nat → Prop) (h : RefAt w F g kv d) :
    Calls Tryd.prog 51 #[.pointer (some ⟨g, 0, none⟩), .int .i64 f, .int .i64 n] w fun e w' => e = .returned (.bool (decide ((f, n) ∈ d.q))) ∧ w = w' := by
  obtain ⟨fv, qv, L, h⟩ := h
  have hlen := h.inv.len
  obtain ⟨A, c, rfl, -, hcm⟩ := h.queue.form
  have c1 : w.cell? ⟨g, 1, none⟩ = some (.slice A d.q.length c) := h.blk.cell 1
  have HQ := Lib.hid h.queue.rqat
  clear h
  unfold maxLen at hcm
  go_enter Tryd.func51, Tryd.ntmps51
  go_wp2_with fail
  go_loop [7] (fun i => ∃ k : Nat, k ≤ d.q.length ∧ i = .int .i64 k ∧ (f, n) ∉ d.q.take k) (fun i => d.q.length - (intOf i).toNat)
  case atStart => exact ⟨0, Nat.zero_le _, rfl, by simp⟩
  case round =>
    obtain ⟨k, hk, rfl, hall⟩ := hrel
    by_cases hlt : k < d.q.length
    · obtain ⟨p, hp⟩ : ∃ p, d.q[k]? = some p := ⟨_, List.getElem?_eq_getElem hlt⟩
      obtain ⟨b, rfl, hb, y0, y1⟩ := HQ.out k p hp
      have hz : (k : Int) < (d.q.length : Int) := by omega
      have hall2 : p ≠ (f, n) → Hid ((f, n) ∉ d.q.take (k + 1)) := fun hne => by
        show (f, n) ∉ d.q.take (k + 1)
        obtain ⟨hl, rfl⟩ := List.getElem?_eq_some_iff.1 hp
        intro hq
        rw [List.take_succ_eq_append_getElem hl] at hq
        rcases List.mem_append.1 hq with hq | hq
        · exact hall hq
        · simp at hq; exact hne hq.symm
      by_cases h1 : p.1 = f
      · have h1' : (p.1 == f) = true := by simpa using h1
        by_cases h2 : p.2 = n
        · have h2' : (p.2 == n) = true := by simpa using h2
          have hin : Hid (decide ((f, n) ∈ d.q) = true) := by
            show _ = _
            have : p = (f, n) := Prod.ext h1 h2
            rw [← this]
            simpa using List.mem_of_getElem? hp
          clear hall hall2 hp h1 h2
          go_wp2_with fail
          go_ret
          exact ⟨by rw [hin.out]; rfl, rfl⟩
        · have h2' : (p.2 == n) = false := by simpa using h2
          have hall3 := hall2 fun e => h2 (by rw [e])
          clear hall hall2 hp h1 h2
          go_wp2_with fail
          go_round
          case rel => exact ⟨k + 1, by omega, by go_num, hall3.out⟩
          case measure => simp [intOf]; omega
      · have h1' : (p.1 == f) = false := by simpa using h1
        have hall3 := hall2 fun e => h1 (by rw [e])
        clear hall hall2 hp h1
        go_wp2_with fail
        go_round
        case rel => exact ⟨k + 1, by omega, by go_num, hall3.out⟩
        case measure => simp [intOf]; omega
    · have hz : ¬ (k : Int) < (d.q.length : Int) := by omega
      have hno : Hid (decide ((f, n) ∈ d.q) = false) := by
        show _ = _
        rw [List.take_of_length_le (by omega)] at hall
        simpa using hall
      clear hall
      go_wp2_with fail
      go_ret
      exact ⟨by rw [hno.out]; rfl, rfl⟩
end Go.Proofs.YtjgmbildgcighaaDoor
