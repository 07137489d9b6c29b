import Derived.Test.YtjgmbildgcighaaDoorC3
namespace Go.Proofs.YtjgmbildgcighaaDoor
open Go.RowKit Go.BigFrame
/-! The reference's begin, Get, Open. -/
set_option maxHeartbeats 800000 in
theorem begin_any (x : Int) (w : World) : Calls Tryd.prog 40 #[.int .i64 x] w fun e w' => e = .returned (.int .i64 (offs x)) ∧ w = w' := by
  have h2 : offs x = if x = 2 then 131072 else 64 := rfl
  rw [h2]
  clear h2
  go_enter Tryd.func40, Tryd.ntmps40
  by_cases h : x = 2
  · have h' : (x == 2) = true := by simpa using h
    rw [if_pos h]
    go_wp2_with fail
    go_ret
    exact ⟨rfl, rfl⟩
  · have h' : (x == 2) = false := by simpa using h
    rw [if_neg h]
    go_wp2_with fail
    go_ret
    exact ⟨rfl, rfl⟩
set_option maxHeartbeats 800000 in
theorem rget_c (w : World) (own : Nat → Nat) (j g gd : Nat) (c : CS) (h : CO 74 w own j g gd c) (hp : 0 ≤ c.slot) :
    Calls Tryd.prog 16 #[.pointer (some ⟨g, 0, none⟩)] w fun e w' => e = .returned (.tuple #[.string c.value, .bool (decide (0 < c.slot))]) ∧ ∃ n, w' = w.drewN n := by
  obtain ⟨-, -, c2, c3, -⟩ := h.cells
  have hn : Hid ((c.slot != 0) = decide (0 < c.slot)) := by
    show _ = _
    by_cases h0 : c.slot = 0
    · rw [h0]; rfl
    · have : 0 < c.slot := by omega
      simp [h0, this]
  clear h
  go_enter Tryd.func16, Tryd.ntmps16
  go_wp2_with fail
  go_quiet (fail)
  go_wp2_with fail
  go_ret2
  rw [hn.out]
  exact ⟨rfl, _, rfl⟩
set_option maxRecDepth 100000 in
set_option maxHeartbeats 6400000 in
theorem ropen_any (W w : World) (own : Nat → Nat) (i j gd : Nat) (d : DS) (ks : List Int) (f : Int) (hd : RO w own i gd d ks) (hs : St W w own) (hj : j ≠ 0) :
    Calls Tryd.prog 14 #[.pointer (some ⟨gd, 0, none⟩), .int .i64 f] w (OpenPost 74 W w own j gd (openF d f)) := by
  have HS := Lib.hid hs
  have HD := Lib.hid hd
  clear hd hs
  go_enter Tryd.func14, Tryd.ntmps14
  go_wp2_with fail
  refine (r_read HD.out f 0 5 (by decide)).mono ?_
  rintro e w0 ⟨rfl, hf0⟩
  have HF0 := Lib.hid hf0
  have HDW := Lib.hid (HD.out.fr0 hf0)
  clear hf0
  obtain ⟨h, hh⟩ : ∃ h, h = readS d f 0 5 := ⟨_, rfl⟩
  rw [← hh]
  by_cases hE : readE d f 0 5 = 0
  · have hOF : openF d f = if byB h 0 = 0 then (0, ⟨f, 0, ⟨#[]⟩, false⟩) else if h.size < 5 ∨ (byB h 0 ≠ 1 ∧ byB h 0 ≠ 2) then (2, ⟨f, 0, ⟨#[]⟩, false⟩) else if 65536 < lenB h then (2, ⟨f, 0, ⟨#[]⟩, false⟩)
        else if (readS d f (offs (byB h 0)) (lenB h)).size = lenB h then (0, ⟨f, byB h 0, readS d f (offs (byB h 0)) (lenB h), false⟩) else (2, ⟨f, 0, ⟨#[]⟩, false⟩) := by
      unfold openF
      dsimp only
      rw [if_pos hE, ← hh]
    rw [hE]
    have HB := Lib.hid (Blk.new w0 74 #[.pointer (some ⟨gd, 0, none⟩), .int .i64 f, .int .i64 0, .string ⟨#[]⟩, .bool false])
    have HF := Lib.hid (HF0.out.alloc (.cells #[.pointer (some ⟨gd, 0, none⟩), .int .i64 f, .int .i64 0, .string ⟨#[]⟩, .bool false] 74))
    have hx0 : w.heap.size ≤ w0.heap.size := HF0.out.size
    by_cases h0 : h.size = 0
    · obtain rfl := eq_empty h0
      have hfin : openF d f = (0, ⟨f, 0, ⟨#[]⟩, false⟩) := by rw [hOF]; rfl
      have hend := Lib.hid (open_ok (t := 74) (j := j) hfin HS.out hj HF.out hx0 HB.out)
      clear hOF hfin h0 hh
      go_wp2_with fail
      go_ret2
      exact hend.out
    · have hse := toList_empty h0
      have hse2 := ne_empty h0
      have hp0 : 0 < h.size := by omega
      have hb0 := byB_at hp0
      by_cases hz0 : byB h 0 = 0
      · have hzz : (h[0]).toNat = 0 := by rw [← hb0]; exact hz0
        have hfin : openF d f = (0, ⟨f, 0, ⟨#[]⟩, false⟩) := by rw [hOF, if_pos hz0]
        have hend := Lib.hid (open_ok (t := 74) (j := j) hfin HS.out hj HF.out hx0 HB.out)
        clear hOF hfin h0 hh hz0 hb0
        go_wp2_with fail
        go_ret2
        exact hend.out
      have hzf : (((h[0]).toNat : Int) == 0) = false := by rw [← hb0]; simpa using hz0
      by_cases h5 : h.size < 5
      · have hfin : openF d f = (2, ⟨f, 0, ⟨#[]⟩, false⟩) := by rw [hOF, if_neg hz0, if_pos (.inl h5)]
        have hend := Lib.hid (open_bad (t := 74) (W := W) (own := own) (j := j) (gd := gd) hfin (by decide) HF.out)
        have h5' : (h.size : Int) < 5 := by omega
        clear hOF hfin h0 hh hz0 hb0
        go_wp2_with fail
        go_ret2
        exact hend.out
      · have h5' : ¬ (h.size : Int) < 5 := by omega
        have i1 : 1 < h.size := by omega
        have i2 : 2 < h.size := by omega
        have i3 : 3 < h.size := by omega
        have i4 : 4 < h.size := by omega
        have j1 : (1 : Int) < (h.size : Int) := by omega
        have j2 : (2 : Int) < (h.size : Int) := by omega
        have j3 : (3 : Int) < (h.size : Int) := by omega
        have j4 : (4 : Int) < (h.size : Int) := by omega
        obtain ⟨b1, hb1⟩ : ∃ b, (h[1]).toNat = b := ⟨_, rfl⟩
        obtain ⟨b2, hb2⟩ : ∃ b, (h[2]).toNat = b := ⟨_, rfl⟩
        obtain ⟨b3, hb3⟩ : ∃ b, (h[3]).toNat = b := ⟨_, rfl⟩
        obtain ⟨b4, hb4⟩ : ∃ b, (h[4]).toNat = b := ⟨_, rfl⟩
        have l1 : b1 < 256 := hb1 ▸ UInt8.toNat_lt (h[1])
        have l2 : b2 < 256 := hb2 ▸ UInt8.toNat_lt (h[2])
        have l3 : b3 < 256 := hb3 ▸ UInt8.toNat_lt (h[3])
        have l4 : b4 < 256 := hb4 ▸ UInt8.toNat_lt (h[4])
        have hlb : Hid ((b1 : Int) + 256 * (b2 : Int) + 65536 * (b3 : Int) + 16777216 * (b4 : Int) = (lenB h : Int)) := by
          show _ = _
          unfold lenB
          rw [byB_at i1, byB_at i2, byB_at i3, byB_at i4, hb1, hb2, hb3, hb4]
          omega
        have HOF := Lib.hid hOF
        have HB0 := Lib.hid hb0
        have HZ0 := Lib.hid hz0
        clear hOF h0 hh hz0 hb0
        go_wp2_with fail
        go_quiet (fail)
        rw [hlb.out]
        have HB1 : Hid (Blk ((w0.alloc (Obj.cells #[.pointer (some ⟨gd, 0, none⟩), .int .i64 f, .int .i64 0, .string ⟨#[]⟩, .bool false] 74)).drewN nq) w0.heap.size 74 #[.pointer (some ⟨gd, 0, none⟩), .int .i64 f, .int .i64 0, .string ⟨#[]⟩, .bool false]) := HB.out
        have HF1 : Hid (Fr (fun _ => False) w ((w0.alloc (Obj.cells #[.pointer (some ⟨gd, 0, none⟩), .int .i64 f, .int .i64 0, .string ⟨#[]⟩, .bool false] 74)).drewN nq)) := HF.out.drewN nq
        have hOF3 := HOF.out
        rw [if_neg HZ0.out] at hOF3
        clear HOF HB HF hlb hb1 hb2 hb3 hb4 l1 l2 l3 l4 j1 j2 j3 j4
        generalize (w0.alloc (Obj.cells #[.pointer (some ⟨gd, 0, none⟩), .int .i64 f, .int .i64 0, .string ⟨#[]⟩, .bool false] 74)).drewN nq = w1 at *
        generalize w0.heap.size = x at *
        generalize lenB h = n at *
        by_cases hb6 : byB h 0 ≠ 1 ∧ byB h 0 ≠ 2
        · rw [if_pos (.inr hb6)] at hOF3
          have hend := Lib.hid (open_bad (t := 74) (W := W) (own := own) (j := j) (gd := gd) hOF3 (by decide) HF1.out)
          have hn1 : (((h[0]).toNat : Int) != 1) = true := by
            have := hb6.1
            rw [HB0.out] at this
            simp only [bne_iff_ne, ne_eq]
            omega
          have hn2 : (((h[0]).toNat : Int) != 2) = true := by
            have := hb6.2
            rw [HB0.out] at this
            simp only [bne_iff_ne, ne_eq]
            omega
          clear hOF3 hb6
          go_wp2_with fail
          go_ret2
          exact hend.out
        · have hv12 : byB h 0 = 1 ∨ byB h 0 = 2 := by omega
          rw [if_neg (by omega)] at hOF3
          clear hb6
          rcases hv12 with hv | hv
          · have hzz : (h[0]).toNat = 1 := by rw [← HB0.out]; exact hv
            by_cases hn : 65536 < n
            · have hn' : (65536 : Int) < (n : Int) := by omega
              rw [if_pos hn] at hOF3
              have hend := Lib.hid (open_bad (t := 74) (W := W) (own := own) (j := j) (gd := gd) hOF3 (by decide) HF1.out)
              clear hOF3 hv
              go_wp2_with fail
              go_ret2
              exact hend.out
            · have hn' : ¬ (65536 : Int) < (n : Int) := by omega
              rw [if_neg hn, hv] at hOF3
              have hOF4 := Lib.hid hOF3
              have x2 : w1.cell? ⟨x, 2, none⟩ = some (.int .i64 0) := HB1.out.cell 2
              have fx2 : w1.frozen? ⟨x, 2, none⟩ = false := HB1.out.frozen 2
              have hxl := HB1.out.lt
              clear hOF3 hv
              have hset : Fr (fun k => k = x) w1 (w1.setCell ⟨x, 2, none⟩ (.int .i64 1)) := (Fr.refl (fun k => k = x) w1).setCell (p := ⟨x, 2, none⟩) (fun _ => rfl) _
              have hF2 : Fr (fun _ => False) w (w1.setCell ⟨x, 2, none⟩ (.int .i64 1)) := HF1.out.trans' hset fun k hk e => by omega
              have hB2 := HB1.out.set_ 2 (.int .i64 1)
              simp only [List.setIfInBounds_toArray, List.set_cons_zero, List.set_cons_succ] at hB2
              have z2 := hB2.cell 2
              simp only [List.getElem?_toArray, List.getElem?_cons_zero, List.getElem?_cons_succ] at z2
              have D2 := Lib.hid (HD.out.fr0 hF2)
              have HF2 := Lib.hid hF2
              have HB2 := Lib.hid hB2
              have hread0 : readE d f (offs 1) n = 0 := creadE_ok (creadE_zero hE) (by decide) (by omega)
              have HR0 := Lib.hid hread0
              have hxl2 := hB2.lt
              clear hF2 hB2 hset hread0
              go_wp2_with fail
              refine (begin_any 1 _).mono ?_
              rintro e _ ⟨rfl, rfl⟩
              go_wp2_with fail
              generalize w1.setCell ⟨x, 2, none⟩ (.int .i64 1) = w2 at *
              refine (r_read D2.out f (offs 1) n (by omega)).mono ?_
              rintro e w3 ⟨rfl, hf3⟩
              rw [HR0.out]
              have hO5 : openF d f = if (readS d f (offs 1) n).size = n then (0, ⟨f, 1, readS d f (offs 1) n, false⟩) else (2, ⟨f, 0, ⟨#[]⟩, false⟩) := hOF4.out
              obtain ⟨v, hvv⟩ : ∃ v, v = readS d f (offs 1) n := ⟨_, rfl⟩
              have hvle : v.size ≤ n := by rw [hvv]; exact readS_le d f _ n
              rw [← hvv] at hO5 ⊢
              have hB3 := HB2.out.keep hf3 (fun h => h)
              have hFc := HF2.out.trans' hf3 (fun k hk e => e.elim)
              have y3 : w3.cell? ⟨x, 3, none⟩ = some (.string ⟨#[]⟩) := hB3.cell 3
              have fy3 : w3.frozen? ⟨x, 3, none⟩ = false := hB3.frozen 3
              have hset : Fr (fun k => k = x) w3 (w3.setCell ⟨x, 3, none⟩ (.string v)) := (Fr.refl (fun k => k = x) w3).setCell (p := ⟨x, 3, none⟩) (fun _ => rfl) _
              have hF3 : Fr (fun _ => False) w (w3.setCell ⟨x, 3, none⟩ (.string v)) := hFc.trans' hset fun k hk e => by omega
              have hB4 := hB3.set_ 3 (.string v)
              simp only [List.setIfInBounds_toArray, List.set_cons_zero, List.set_cons_succ] at hB4
              have z3 := hB4.cell 3
              simp only [List.getElem?_toArray, List.getElem?_cons_zero, List.getElem?_cons_succ] at z3
              by_cases hvn : v.size = n
              · rw [if_pos hvn] at hO5
                have hend := Lib.hid (open_ok (t := 74) (j := j) hO5 HS.out hj hF3 (by omega) hB4)
                have hvn' : ((v.size : Int) != (n : Int)) = false := by simp only [bne_eq_false_iff_eq]; omega
                clear hO5 hvv hF3 hB3 hB4 hFc hf3 hset hOF4 x2 fx2 z2 hvn
                go_wp2_with fail
                go_ret2
                exact hend.out
              · rw [if_neg hvn] at hO5
                have hend := Lib.hid (open_bad (t := 74) (W := W) (own := own) (j := j) (gd := gd) hO5 (by decide) hF3)
                have hvn' : ((v.size : Int) != (n : Int)) = true := by simp only [bne_iff_ne, ne_eq]; omega
                clear hO5 hvv hF3 hB3 hB4 hFc hf3 hset hOF4 x2 fx2 z2 hvn
                go_wp2_with fail
                go_ret2
                exact hend.out
          · have hzz : (h[0]).toNat = 2 := by rw [← HB0.out]; exact hv
            by_cases hn : 65536 < n
            · have hn' : (65536 : Int) < (n : Int) := by omega
              rw [if_pos hn] at hOF3
              have hend := Lib.hid (open_bad (t := 74) (W := W) (own := own) (j := j) (gd := gd) hOF3 (by decide) HF1.out)
              clear hOF3 hv
              go_wp2_with fail
              go_ret2
              exact hend.out
            · have hn' : ¬ (65536 : Int) < (n : Int) := by omega
              rw [if_neg hn, hv] at hOF3
              have hOF4 := Lib.hid hOF3
              have x2 : w1.cell? ⟨x, 2, none⟩ = some (.int .i64 0) := HB1.out.cell 2
              have fx2 : w1.frozen? ⟨x, 2, none⟩ = false := HB1.out.frozen 2
              have hxl := HB1.out.lt
              clear hOF3 hv
              have hset : Fr (fun k => k = x) w1 (w1.setCell ⟨x, 2, none⟩ (.int .i64 2)) := (Fr.refl (fun k => k = x) w1).setCell (p := ⟨x, 2, none⟩) (fun _ => rfl) _
              have hF2 : Fr (fun _ => False) w (w1.setCell ⟨x, 2, none⟩ (.int .i64 2)) := HF1.out.trans' hset fun k hk e => by omega
              have hB2 := HB1.out.set_ 2 (.int .i64 2)
              simp only [List.setIfInBounds_toArray, List.set_cons_zero, List.set_cons_succ] at hB2
              have z2 := hB2.cell 2
              simp only [List.getElem?_toArray, List.getElem?_cons_zero, List.getElem?_cons_succ] at z2
              have D2 := Lib.hid (HD.out.fr0 hF2)
              have HF2 := Lib.hid hF2
              have HB2 := Lib.hid hB2
              have hread0 : readE d f (offs 2) n = 0 := creadE_ok (creadE_zero hE) (by decide) (by omega)
              have HR0 := Lib.hid hread0
              have hxl2 := hB2.lt
              clear hF2 hB2 hset hread0
              go_wp2_with fail
              refine (begin_any 2 _).mono ?_
              rintro e _ ⟨rfl, rfl⟩
              go_wp2_with fail
              generalize w1.setCell ⟨x, 2, none⟩ (.int .i64 2) = w2 at *
              refine (r_read D2.out f (offs 2) n (by omega)).mono ?_
              rintro e w3 ⟨rfl, hf3⟩
              rw [HR0.out]
              have hO5 : openF d f = if (readS d f (offs 2) n).size = n then (0, ⟨f, 2, readS d f (offs 2) n, false⟩) else (2, ⟨f, 0, ⟨#[]⟩, false⟩) := hOF4.out
              obtain ⟨v, hvv⟩ : ∃ v, v = readS d f (offs 2) n := ⟨_, rfl⟩
              have hvle : v.size ≤ n := by rw [hvv]; exact readS_le d f _ n
              rw [← hvv] at hO5 ⊢
              have hB3 := HB2.out.keep hf3 (fun h => h)
              have hFc := HF2.out.trans' hf3 (fun k hk e => e.elim)
              have y3 : w3.cell? ⟨x, 3, none⟩ = some (.string ⟨#[]⟩) := hB3.cell 3
              have fy3 : w3.frozen? ⟨x, 3, none⟩ = false := hB3.frozen 3
              have hset : Fr (fun k => k = x) w3 (w3.setCell ⟨x, 3, none⟩ (.string v)) := (Fr.refl (fun k => k = x) w3).setCell (p := ⟨x, 3, none⟩) (fun _ => rfl) _
              have hF3 : Fr (fun _ => False) w (w3.setCell ⟨x, 3, none⟩ (.string v)) := hFc.trans' hset fun k hk e => by omega
              have hB4 := hB3.set_ 3 (.string v)
              simp only [List.setIfInBounds_toArray, List.set_cons_zero, List.set_cons_succ] at hB4
              have z3 := hB4.cell 3
              simp only [List.getElem?_toArray, List.getElem?_cons_zero, List.getElem?_cons_succ] at z3
              by_cases hvn : v.size = n
              · rw [if_pos hvn] at hO5
                have hend := Lib.hid (open_ok (t := 74) (j := j) hO5 HS.out hj hF3 (by omega) hB4)
                have hvn' : ((v.size : Int) != (n : Int)) = false := by simp only [bne_eq_false_iff_eq]; omega
                clear hO5 hvv hF3 hB3 hB4 hFc hf3 hset hOF4 x2 fx2 z2 hvn
                go_wp2_with fail
                go_ret2
                exact hend.out
              · rw [if_neg hvn] at hO5
                have hend := Lib.hid (open_bad (t := 74) (W := W) (own := own) (j := j) (gd := gd) hO5 (by decide) hF3)
                have hvn' : ((v.size : Int) != (n : Int)) = true := by simp only [bne_iff_ne, ne_eq]; omega
                clear hO5 hvv hF3 hB3 hB4 hFc hf3 hset hOF4 x2 fx2 z2 hvn
                go_wp2_with fail
                go_ret2
                exact hend.out
  · have hfin : openF d f = (readE d f 0 5, ⟨f, 0, ⟨#[]⟩, false⟩) := by unfold openF; dsimp only; rw [if_neg hE]
    have hend := Lib.hid (open_bad (t := 74) (W := W) (own := own) (j := j) (gd := gd) hfin hE HF0.out)
    have hne : (readE d f 0 5 != 0) = true := by simpa using hE
    clear hfin hh
    go_wp2_with fail
    go_ret2
    exact hend.out
end Go.Proofs.YtjgmbildgcighaaDoor
