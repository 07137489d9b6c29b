import Derived.Test.YtjgmbildgcighaaDoorC2
namespace Go.Proofs.YtjgmbildgcighaaDoor
open Go.RowKit
/-! Open. -/
theorem byB_at {s : ByteArray} {i : Nat} (h : i < s.size) : byB s i = (s[i]).toNat := by
  unfold byB
  rw [List.getElem?_eq_getElem (by rw [← size_eq_length]; exact h)]
  rfl
theorem byB_lt (s : ByteArray) (i : Nat) : byB s i < 256 := UInt8.toNat_lt _
/-- What Open leaves. -/
def OpenPost (t : TypeId) (W w : World) (own : Nat → Nat) (j gd : Nat) (r : Int × CS) (e : Ending) (w' : World) : Prop :=
  (r.1 = 0 → ∃ gc own', e = .returned (.tuple #[.pointer (some ⟨gc, 0, none⟩), .int .i64 0]) ∧ CO t w' own' j gc gd r.2 ∧ Step W w w' own own' j) ∧
  (r.1 ≠ 0 → e = .returned (.tuple #[.pointer none, .int .i64 r.1]) ∧ Fr (fun _ => False) w w')
theorem open_ok {t : TypeId} {W w w' : World} {own : Nat → Nat} {j gd gc : Nat} {c : CS} {r : Int × CS} (hr : r = (0, c)) (hs : St W w own) (hj : j ≠ 0) (hf : Fr (fun _ => False) w w') (hgc : w.heap.size ≤ gc)
    (hb : Blk w' gc t #[.pointer (some ⟨gd, 0, none⟩), .int .i64 c.file, .int .i64 c.slot, .string c.value, .bool c.sure]) : OpenPost t W w own j gd r (.returned (.tuple #[.pointer (some ⟨gc, 0, none⟩), .int .i64 0])) w' := by
  subst hr
  obtain ⟨own', h1, h2⟩ := hs.step hj (hf.mono (T := fun k => own k = j) fun _ _ h => h.elim)
  exact ⟨fun _ => ⟨gc, own', rfl, ⟨hb, (h2 gc).2 (.inr ⟨hgc, hb.lt⟩)⟩, h1⟩, fun h => absurd rfl h⟩
theorem open_bad {t : TypeId} {W w w' : World} {own : Nat → Nat} {j gd : Nat} {x : Int} {c : CS} {r : Int × CS} (hr : r = (x, c)) (hx : x ≠ 0) (hf : Fr (fun _ => False) w w') : OpenPost t W w own j gd r (.returned (.tuple #[.pointer none, .int .i64 x])) w' := by
  subst hr
  exact ⟨fun h => absurd h hx, fun _ => ⟨rfl, hf⟩⟩
def accB (h : ByteArray) : Nat → Nat
  | 0 => 0
  | j + 1 => accB h j * 256 + byB h (4 - j)
theorem accB_4 (h : ByteArray) : accB h 4 = lenB h := by
  unfold lenB
  simp only [accB, Nat.sub_zero, Nat.reduceSub]
  omega
theorem accB_lt (h : ByteArray) : ∀ j, accB h j < 256 ^ j
  | 0 => by simp [accB]
  | j + 1 => by
    have := accB_lt h j
    have h2 := byB_lt h (4 - j)
    rw [Nat.pow_succ]
    simp only [accB]
    omega
theorem or_byte (x y : Nat) (h : x < 16777216) (hy : y < 256) : bits .or .i64 ((x : Int) * 256) (y : Int) = ((x * 256 + y : Nat) : Int) := by
  show IntKind.i64.wrap ((BitVec.ofInt 64 ((x : Int) * 256) ||| BitVec.ofInt 64 (y : Int)).toNat : Int) = _
  have e1 : (x : Int) * 256 = ((x * 256 : Nat) : Int) := by omega
  rw [e1, BitVec.ofInt_natCast, BitVec.ofInt_natCast, BitVec.toNat_or, BitVec.toNat_ofNat, BitVec.toNat_ofNat, Nat.mod_eq_of_lt (by omega), Nat.mod_eq_of_lt (by omega)]
  have : x * 256 ||| y = x * 256 + y := by
    rw [show x * 256 = x <<< 8 by rw [Nat.shiftLeft_eq], ← Nat.shiftLeft_add_eq_or_of_lt hy]
  rw [this]
  exact IntWalk.i64_in _ (by omega)
theorem creadE_zero {d : DS} {f a n : Int} (h : readE d f a n = 0) : mayE d f = 0 := by
  unfold readE at h
  split at h
  · assumption
  · exact h
theorem creadE_ok {d : DS} {f a n : Int} (hm : mayE d f = 0) (ha : 0 ≤ a) (hn : 0 ≤ n) : readE d f a n = 0 := by
  unfold readE
  rw [if_pos hm, if_neg (by omega), if_neg (by omega)]
theorem readS_le (d : DS) (f a : Int) (n : Nat) : (readS d f a n).size ≤ n := by
  unfold readS
  split
  · dsimp only
    rw [size_extract]
    omega
  · exact Nat.zero_le _
set_option maxRecDepth 100000 in
set_option maxHeartbeats 6400000 in
theorem copen_any (W w : World) (own : Nat → Nat) (i j gd : Nat) (d : DS) (ks : List Int) (f : Int) (hd : DO w own i gd d ks) (hs : St W w own) (hj : j ≠ 0) (hG : GAt W) :
    Calls Tryd.prog 13 #[.pointer (some ⟨gd, 0, none⟩), .int .i64 f] w (OpenPost 70 W w own j gd (openF d f)) := by
  have HS := Lib.hid hs
  have D1 := Lib.hid (hd.alloc (.cells #[.pointer (some ⟨gd, 0, none⟩), .int .i64 f, .int .i64 0, .string ⟨#[]⟩, .bool false] 70))
  have hS1 := hs.alloc (.cells #[.pointer (some ⟨gd, 0, none⟩), .int .i64 f, .int .i64 0, .string ⟨#[]⟩, .bool false] 70)
  obtain ⟨g1, g2⟩ := hG.at hS1
  have HB := Lib.hid (Blk.new w 70 #[.pointer (some ⟨gd, 0, none⟩), .int .i64 f, .int .i64 0, .string ⟨#[]⟩, .bool false])
  have HF := Lib.hid ((Fr.refl (fun _ => False) w).alloc (.cells #[.pointer (some ⟨gd, 0, none⟩), .int .i64 f, .int .i64 0, .string ⟨#[]⟩, .bool false] 70))
  have hx0 := Nat.le_refl w.heap.size
  have hglt : 0 < w.heap.size := Nat.lt_of_lt_of_le (block_lt_of_cell (hG.1)) hs.le
  have HD := Lib.hid hd
  clear hd hs hS1
  go_enter Tryd.func13, Tryd.ntmps13
  go_wp2_with fail
  generalize w.alloc (.cells #[.pointer (some ⟨gd, 0, none⟩), .int .i64 f, .int .i64 0, .string ⟨#[]⟩, .bool false] 70) = w1 at *
  generalize hx : w.heap.size = x at *
  refine (o_read D1.out f 0 5).mono ?_
  rintro e _ ⟨rfl, rfl⟩
  obtain ⟨h, hh⟩ : ∃ h, h = readS d f 0 5 := ⟨_, rfl⟩
  rw [← hh]
  by_cases hE : readE d f 0 5 = 0
  · have hOF : openF d f = if byB h 0 = 0 then (0, ⟨f, 0, ⟨#[]⟩, false⟩) else if h.size < 5 ∨ (byB h 0 ≠ 1 ∧ byB h 0 ≠ 2) then (2, ⟨f, 0, ⟨#[]⟩, false⟩) else if 65536 < lenB h then (2, ⟨f, 0, ⟨#[]⟩, false⟩)
        else if (readS d f (offs (byB h 0)) (lenB h)).size = lenB h then (0, ⟨f, byB h 0, readS d f (offs (byB h 0)) (lenB h), false⟩) else (2, ⟨f, 0, ⟨#[]⟩, false⟩) := by
      unfold openF
      dsimp only
      rw [if_pos hE, ← hh]
    rw [hE]
    by_cases h0 : h.size = 0
    · obtain rfl := eq_empty h0
      have hfin : openF d f = (0, ⟨f, 0, ⟨#[]⟩, false⟩) := by rw [hOF]; rfl
      have hend := Lib.hid (open_ok (t := 70) (j := j) hfin HS.out hj HF.out (by omega) HB.out)
      clear hOF hfin h0 hh
      go_wp2_with fail
      go_ret2
      exact hend.out
    · have hse := toList_empty h0
      have hse2 := ne_empty h0
      have hp0 : 0 < h.size := by omega
      have hb0 := byB_at hp0
      by_cases hz0 : byB h 0 = 0
      · have hzz : (h[0]).toNat = 0 := by rw [← hb0]; exact hz0
        have hfin : openF d f = (0, ⟨f, 0, ⟨#[]⟩, false⟩) := by rw [hOF, if_pos hz0]
        have hend := Lib.hid (open_ok (t := 70) (j := j) hfin HS.out hj HF.out (by omega) HB.out)
        clear hOF hfin h0 hh hz0 hb0
        go_wp2_with fail
        go_ret2
        exact hend.out
      by_cases hb5 : h.size < 5 ∨ (byB h 0 ≠ 1 ∧ byB h 0 ≠ 2)
      · have hfin : openF d f = (2, ⟨f, 0, ⟨#[]⟩, false⟩) := by rw [hOF, if_neg hz0, if_pos hb5]
        have hend := Lib.hid (open_bad (t := 70) (W := W) (own := own) (j := j) (gd := gd) hfin (by decide) HF.out)
        have hzz : (((h[0]).toNat : Int) == 0) = false := by rw [← hb0]; simpa using hz0
        by_cases h5 : h.size < 5
        · have h5' : (h.size : Int) < 5 := by omega
          clear hOF hfin h0 hh hz0 hb0 hb5
          go_wp2_with fail
          go_ret2
          exact hend.out
        · have h5' : ¬ (h.size : Int) < 5 := by omega
          have hb6 := hb5.resolve_left h5
          have hn1 : (((h[0]).toNat : Int) != 1) = true := by
            have := hb6.1
            rw [hb0] at this
            simp only [bne_iff_ne, ne_eq]
            omega
          have hn2 : (((h[0]).toNat : Int) != 2) = true := by
            have := hb6.2
            rw [hb0] at this
            simp only [bne_iff_ne, ne_eq]
            omega
          clear hOF hfin h0 hh hz0 hb0 hb5 hb6
          go_wp2_with fail
          go_ret2
          exact hend.out
      · have h5 : 5 ≤ h.size := by omega
        have h5' : ¬ (h.size : Int) < 5 := by omega
        have hv12 : byB h 0 = 1 ∨ byB h 0 = 2 := by omega
        rw [if_neg hz0, if_neg hb5] at hOF
        rcases hv12 with hv | hv
        · skip
          have hzz : (h[0]).toNat = 1 := by rw [← hb0]; exact hv
          have hcs : ((((1 : Nat)) : Int) == 0) = false := by decide
          have hOF2 := Lib.hid hOF
          have hv2 := Lib.hid hv
          clear hOF h0 hb0 hv hz0 hb5 hh
          go_wp2_with fail
          go_loop [9, 10] (fun n i => ∃ k m : Nat, k + m = 4 ∧ n = .int .i64 (accB h k : Nat) ∧ i = .int .i64 (m : Nat)) (fun _ i => (intOf i).toNat)
          case atStart => exact ⟨0, 4, rfl, rfl, rfl⟩
          case round =>
            obtain ⟨k, m, hkm, rfl, rfl⟩ := hrel
            by_cases hm : 0 < m
            · have hm1 : (0 : Int) < (m : Int) := by omega
              have hml : m < h.size := by omega
              have hmi : (m : Int) < (h.size : Int) := by omega
              have hbm := Lib.hid (byB_at hml)
              have hlt := accB_lt h k
              have hlt2 : accB h k < 16777216 := by
                have : 256 ^ k ≤ 256 ^ 3 := Nat.pow_le_pow_right (by decide) (by omega)
                omega
              have horb := or_byte (accB h k) (h[m]).toNat hlt2 (UInt8.toNat_lt _)
              have hacc : Hid (accB h k * 256 + (h[m]).toNat = accB h (k + 1)) := by
                show _ = _
                rw [← hbm.out]
                simp only [accB]
                rw [show 4 - k = m by omega]
              have hwr : wrap64 (((h[m]).toNat : Nat) : Int) = (((h[m]).toNat : Nat) : Int) := IntWalk.wrap64_in _ (by have := UInt8.toNat_lt (h[m]); omega)
              clear hlt
              go_wp2_with fail
              go_round
              case rel => exact ⟨k + 1, m - 1, by omega, by rw [← hacc.out]; go_num, by go_num⟩
              case measure => simp [intOf]; omega
            · have hm1 : ¬ (0 : Int) < (m : Int) := by omega
              obtain rfl : m = 0 := by omega
              obtain rfl : k = 4 := by omega
              have hOF3 := hOF2.out
              rw [accB_4]
              have hl32 : lenB h < 4294967296 := by rw [← accB_4]; exact accB_lt h 4
              generalize lenB h = n at *
              rw [hv2.out] at hOF3
              by_cases hn : 65536 < n
              · have hn' : (65536 : Int) < (n : Int) := by omega
                rw [if_pos hn] at hOF3
                have hend := Lib.hid (open_bad (t := 70) (W := W) (own := own) (j := j) (gd := gd) hOF3 (by decide) HF.out)
                clear hOF3 hOF2
                go_wp2_with fail
                go_ret2
                exact hend.out
              · have hn' : ¬ (65536 : Int) < (n : Int) := by omega
                rw [if_neg hn] at hOF3
                have hOF4 := Lib.hid hOF3
                have x2 : w1.cell? ⟨x, 2, none⟩ = some (.int .i64 0) := HB.out.cell 2
                have fx2 : w1.frozen? ⟨x, 2, none⟩ = false := HB.out.frozen 2
                have hxl := HB.out.lt
                clear hOF3 hOF2
                have hset : Fr (fun k => k = x) w1 (w1.setCell ⟨x, 2, none⟩ (.int .i64 1)) := (Fr.refl (fun k => k = x) w1).setCell (p := ⟨x, 2, none⟩) (fun _ => rfl) _
                have hF2 : Fr (fun _ => False) w (w1.setCell ⟨x, 2, none⟩ (.int .i64 1)) := HF.out.trans' hset fun k hk e => by omega
                have hB2 := HB.out.set_ 2 (.int .i64 1)
                simp only [List.setIfInBounds_toArray, List.set_cons_zero, List.set_cons_succ] at hB2
                have D2 := Lib.hid (HD.out.fr0 hF2)
                have HF2 := Lib.hid hF2
                have HB2 := Lib.hid hB2
                have hread0 : readE d f 64 n = 0 := by
                  have hm := creadE_zero hE
                  exact creadE_ok hm (by omega) (by omega)
                have HR0 := Lib.hid hread0
                clear hF2 hB2 hset hread0
                go_wp2_with fail
                generalize w1.setCell ⟨x, 2, none⟩ (.int .i64 1) = w2 at *
                refine (o_read D2.out f 64 n).mono ?_
                rintro e _ ⟨rfl, rfl⟩
                rw [HR0.out]
                have hO5 : openF d f = if (readS d f 64 n).size = n then (0, ⟨f, 1, readS d f 64 n, false⟩) else (2, ⟨f, 0, ⟨#[]⟩, false⟩) := hOF4.out
                obtain ⟨v, hvv⟩ : ∃ v, v = readS d f 64 n := ⟨_, rfl⟩
                have hvle : v.size ≤ n := by rw [hvv]; exact readS_le d f 64 n
                rw [← hvv] at hO5 ⊢
                have y3 : w2.cell? ⟨x, 3, none⟩ = some (.string ⟨#[]⟩) := HB2.out.cell 3
                have fy3 : w2.frozen? ⟨x, 3, none⟩ = false := HB2.out.frozen 3
                have hset : Fr (fun k => k = x) w2 (w2.setCell ⟨x, 3, none⟩ (.string v)) := (Fr.refl (fun k => k = x) w2).setCell (p := ⟨x, 3, none⟩) (fun _ => rfl) _
                have hF3 : Fr (fun _ => False) w (w2.setCell ⟨x, 3, none⟩ (.string v)) := HF2.out.trans' hset fun k hk e => by omega
                have hB3 := HB2.out.set_ 3 (.string v)
                simp only [List.setIfInBounds_toArray, List.set_cons_zero, List.set_cons_succ] at hB3
                have z3 := hB3.cell 3
                simp only [List.getElem?_toArray, List.getElem?_cons_zero, List.getElem?_cons_succ] at z3
                by_cases hvn : v.size = n
                · rw [if_pos hvn] at hO5
                  have hend := Lib.hid (open_ok (t := 70) (j := j) hO5 HS.out hj hF3 (by omega) hB3)
                  have hvn' : ¬ (v.size : Int) < (n : Int) := by omega
                  clear hO5 hvv hF3 hB3 hset hOF4 x2 fx2 hvn
                  go_wp2_with fail
                  go_ret2
                  exact hend.out
                · rw [if_neg hvn] at hO5
                  have hend := Lib.hid (open_bad (t := 70) (W := W) (own := own) (j := j) (gd := gd) hO5 (by decide) hF3)
                  have hvn' : (v.size : Int) < (n : Int) := by omega
                  clear hO5 hvv hF3 hB3 hset hOF4 x2 fx2 hvn
                  go_wp2_with fail
                  go_ret2
                  exact hend.out
        · skip
          have hzz : (h[0]).toNat = 2 := by rw [← hb0]; exact hv
          have hcs : ((((2 : Nat)) : Int) == 0) = false := by decide
          have hOF2 := Lib.hid hOF
          have hv2 := Lib.hid hv
          clear hOF h0 hb0 hv hz0 hb5 hh
          go_wp2_with fail
          go_loop [9, 10] (fun n i => ∃ k m : Nat, k + m = 4 ∧ n = .int .i64 (accB h k : Nat) ∧ i = .int .i64 (m : Nat)) (fun _ i => (intOf i).toNat)
          case atStart => exact ⟨0, 4, rfl, rfl, rfl⟩
          case round =>
            obtain ⟨k, m, hkm, rfl, rfl⟩ := hrel
            by_cases hm : 0 < m
            · have hm1 : (0 : Int) < (m : Int) := by omega
              have hml : m < h.size := by omega
              have hmi : (m : Int) < (h.size : Int) := by omega
              have hbm := Lib.hid (byB_at hml)
              have hlt := accB_lt h k
              have hlt2 : accB h k < 16777216 := by
                have : 256 ^ k ≤ 256 ^ 3 := Nat.pow_le_pow_right (by decide) (by omega)
                omega
              have horb := or_byte (accB h k) (h[m]).toNat hlt2 (UInt8.toNat_lt _)
              have hacc : Hid (accB h k * 256 + (h[m]).toNat = accB h (k + 1)) := by
                show _ = _
                rw [← hbm.out]
                simp only [accB]
                rw [show 4 - k = m by omega]
              have hwr : wrap64 (((h[m]).toNat : Nat) : Int) = (((h[m]).toNat : Nat) : Int) := IntWalk.wrap64_in _ (by have := UInt8.toNat_lt (h[m]); omega)
              clear hlt
              go_wp2_with fail
              go_round
              case rel => exact ⟨k + 1, m - 1, by omega, by rw [← hacc.out]; go_num, by go_num⟩
              case measure => simp [intOf]; omega
            · have hm1 : ¬ (0 : Int) < (m : Int) := by omega
              obtain rfl : m = 0 := by omega
              obtain rfl : k = 4 := by omega
              have hOF3 := hOF2.out
              rw [accB_4]
              have hl32 : lenB h < 4294967296 := by rw [← accB_4]; exact accB_lt h 4
              generalize lenB h = n at *
              rw [hv2.out] at hOF3
              by_cases hn : 65536 < n
              · have hn' : (65536 : Int) < (n : Int) := by omega
                rw [if_pos hn] at hOF3
                have hend := Lib.hid (open_bad (t := 70) (W := W) (own := own) (j := j) (gd := gd) hOF3 (by decide) HF.out)
                clear hOF3 hOF2
                go_wp2_with fail
                go_ret2
                exact hend.out
              · have hn' : ¬ (65536 : Int) < (n : Int) := by omega
                rw [if_neg hn] at hOF3
                have hOF4 := Lib.hid hOF3
                have x2 : w1.cell? ⟨x, 2, none⟩ = some (.int .i64 0) := HB.out.cell 2
                have fx2 : w1.frozen? ⟨x, 2, none⟩ = false := HB.out.frozen 2
                have hxl := HB.out.lt
                clear hOF3 hOF2
                have hset : Fr (fun k => k = x) w1 (w1.setCell ⟨x, 2, none⟩ (.int .i64 2)) := (Fr.refl (fun k => k = x) w1).setCell (p := ⟨x, 2, none⟩) (fun _ => rfl) _
                have hF2 : Fr (fun _ => False) w (w1.setCell ⟨x, 2, none⟩ (.int .i64 2)) := HF.out.trans' hset fun k hk e => by omega
                have hB2 := HB.out.set_ 2 (.int .i64 2)
                simp only [List.setIfInBounds_toArray, List.set_cons_zero, List.set_cons_succ] at hB2
                have D2 := Lib.hid (HD.out.fr0 hF2)
                have HF2 := Lib.hid hF2
                have HB2 := Lib.hid hB2
                have hread0 : readE d f 131072 n = 0 := by
                  have hm := creadE_zero hE
                  exact creadE_ok hm (by omega) (by omega)
                have HR0 := Lib.hid hread0
                clear hF2 hB2 hset hread0
                go_wp2_with fail
                generalize w1.setCell ⟨x, 2, none⟩ (.int .i64 2) = w2 at *
                refine (o_read D2.out f 131072 n).mono ?_
                rintro e _ ⟨rfl, rfl⟩
                rw [HR0.out]
                have hO5 : openF d f = if (readS d f 131072 n).size = n then (0, ⟨f, 2, readS d f 131072 n, false⟩) else (2, ⟨f, 0, ⟨#[]⟩, false⟩) := hOF4.out
                obtain ⟨v, hvv⟩ : ∃ v, v = readS d f 131072 n := ⟨_, rfl⟩
                have hvle : v.size ≤ n := by rw [hvv]; exact readS_le d f 131072 n
                rw [← hvv] at hO5 ⊢
                have y3 : w2.cell? ⟨x, 3, none⟩ = some (.string ⟨#[]⟩) := HB2.out.cell 3
                have fy3 : w2.frozen? ⟨x, 3, none⟩ = false := HB2.out.frozen 3
                have hset : Fr (fun k => k = x) w2 (w2.setCell ⟨x, 3, none⟩ (.string v)) := (Fr.refl (fun k => k = x) w2).setCell (p := ⟨x, 3, none⟩) (fun _ => rfl) _
                have hF3 : Fr (fun _ => False) w (w2.setCell ⟨x, 3, none⟩ (.string v)) := HF2.out.trans' hset fun k hk e => by omega
                have hB3 := HB2.out.set_ 3 (.string v)
                simp only [List.setIfInBounds_toArray, List.set_cons_zero, List.set_cons_succ] at hB3
                have z3 := hB3.cell 3
                simp only [List.getElem?_toArray, List.getElem?_cons_zero, List.getElem?_cons_succ] at z3
                by_cases hvn : v.size = n
                · rw [if_pos hvn] at hO5
                  have hend := Lib.hid (open_ok (t := 70) (j := j) hO5 HS.out hj hF3 (by omega) hB3)
                  have hvn' : ¬ (v.size : Int) < (n : Int) := by omega
                  clear hO5 hvv hF3 hB3 hset hOF4 x2 fx2 hvn
                  go_wp2_with fail
                  go_ret2
                  exact hend.out
                · rw [if_neg hvn] at hO5
                  have hend := Lib.hid (open_bad (t := 70) (W := W) (own := own) (j := j) (gd := gd) hO5 (by decide) hF3)
                  have hvn' : (v.size : Int) < (n : Int) := by omega
                  clear hO5 hvv hF3 hB3 hset hOF4 x2 fx2 hvn
                  go_wp2_with fail
                  go_ret2
                  exact hend.out
  · have hfin : openF d f = (readE d f 0 5, ⟨f, 0, ⟨#[]⟩, false⟩) := by unfold openF; dsimp only; rw [if_neg hE]
    have hend := Lib.hid (open_bad (t := 70) (W := W) (own := own) (j := j) (gd := gd) hfin hE HF.out)
    have hne : (readE d f 0 5 != 0) = true := by simpa using hE
    clear hfin hh
    go_wp2_with fail
    go_ret2
    exact hend.out
end Go.Proofs.YtjgmbildgcighaaDoor
