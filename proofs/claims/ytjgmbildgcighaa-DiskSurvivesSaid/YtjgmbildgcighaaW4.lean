import Derived.Test.YtjgmbildgcighaaP4
namespace Go.Proofs.Ytjgmbildgcighaa
open Go.RowKit

set_option maxRecDepth 100000 in
set_option maxHeartbeats 1600000 in
theorem after_any (g : Nat) (d : DS) (ks keep : List Int) (f : Int) (A : Option Addr) (c : Nat) (W w : World) (own : Nat → Nat) (hd : DO w own 1 g d ks) (hs : St W w own) (hk : KeepAt w (fun k => own k ≠ 0) A keep) (hb : keep.length ≤ 1000000)
    (s : ByteArray) (h1 : readS (startD (crashD d keep)) f 0 16777216 = s) (h2 : readE (startD (crashD d keep)) f 0 16777216 = 0) :
    Calls Try.prog 23 #[.pointer (some ⟨g, 0, none⟩), .int .i64 f, .slice A keep.length c] w fun e w' => e = .returned (.tuple #[.string s, .bool true]) ∧ ∃ own', DO w' own' 1 g d ks ∧ Step W w w' own own' 2 := by
  have HD := Lib.hid hd
  have HS := Lib.hid hs
  have HK := Lib.hid hk
  have X1 := Lib.hid h1
  have X2 := Lib.hid h2
  clear hd hs hk h1 h2
  go_enter Try.func23, Try.ntmps23
  go_wp2_with fail
  refine (o_copy (j := 2) HD.out HS.out (by decide)).mono ?_
  rintro e w1 ⟨gc, rfl, o1, c1, p1⟩
  have K1 := Lib.hid (HK.out.step p1 (by decide))
  have D1 := Lib.hid (HD.out.other p1 (by decide) (by decide) (by decide))
  go_wp2_with fail
  refine (o_crash c1 p1.st (by decide) A c K1.out hb).mono ?_
  rintro e w2 ⟨rfl, o2, c2, p2⟩
  have D2 := Lib.hid (D1.out.other p2 (by decide) (by decide) (by decide))
  have P2 := Lib.hid (p1.trans p2)
  clear c1 p1 D1 K1
  go_wp2_with fail
  refine (o_start c2 p2.st (by decide)).mono ?_
  rintro e w3 ⟨rfl, o3, c3, p3⟩
  have D3 := Lib.hid (D2.out.other p3 (by decide) (by decide) (by decide))
  have P3 := Lib.hid (P2.out.trans p3)
  clear c2 p2 D2 P2 p3
  go_wp2_with fail
  refine (o_read c3 f 0 16777216).mono ?_
  rintro e _ ⟨rfl, rfl⟩
  rw [X1.out, X2.out]
  clear c3
  go_wp2_with fail
  go_ret2
  exact ⟨rfl, o3, D3.out, P3.out⟩

theorem byt_at {s : ByteArray} {i : Nat} (h : i < s.size) : byt s i = s[i] := by
  unfold byt toL
  rw [List.getElem?_eq_getElem (by rw [← size_eq_length]; exact h)]
  rfl
theorem byte_eq (a b : UInt8) : (((a.toNat : Int)) == ((b.toNat : Int))) = (a == b) := by
  rw [Bool.eq_iff_iff]
  simp only [beq_iff_eq, Int.natCast_inj]
  exact ⟨fun h => UInt8.toNat_inj.1 h, fun h => by rw [h]⟩
/-- k bytes from a on are alike. -/
def eqB (L N : ByteArray) (a : Nat) : Nat → Bool
  | 0 => true
  | k + 1 => eqB L N a k && (byt L (a + k) == byt N (a + k))
theorem eqB_all {L N : ByteArray} {a : Nat} : ∀ {k : Nat}, (∀ j, j < k → byt L (a + j) = byt N (a + j)) → eqB L N a k = true
  | 0, _ => rfl
  | k + 1, h => by
    unfold eqB
    rw [eqB_all (fun j hj => h j (by omega)), h k (by omega)]
    simp
theorem eqB_step {L N : ByteArray} {a k : Nat} (h : a ≤ k) (b : Bool) (hb : eqB L N a (k - a) = b) : eqB L N a (k + 1 - a) = (b && (byt L k == byt N k)) := by
  subst hb
  have h1 : k + 1 - a = (k - a) + 1 := by omega
  have h2 : a + (k - a) = k := by omega
  rw [h1, eqB, h2]
theorem Below.drew_ {B : Nat} {W w : World} (h : Below B W w) (n : Nat) : Below B W (w.drewN n) := Below.trans h ⟨rfl, rfl, rfl, Nat.le_refl _, fun _ _ => rfl⟩
theorem sect_one {L N O : ByteArray} {n : Nat} (h : Sect L N O n) (k : Nat) (hk : k ≤ 64) : eqB L N (64 * n) k = true ∨ eqB L O (64 * n) k = true := by
  rcases h with h | h
  · exact .inl (eqB_all fun j hj => h _ (by omega))
  · exact .inr (eqB_all fun j hj => h _ (by omega))
set_option maxRecDepth 100000 in
set_option maxHeartbeats 1600000 in
theorem byteAt_any (s : ByteArray) (i : Nat) (w : World) : Calls Try.prog 24 #[.string s, .int .i64 i] w fun e w' => e = .returned (.int .u8 (byt s i).toNat) ∧ w' = w := by
  by_cases h : i < s.size
  · have h' : (i : Int) < (s.size : Int) := by omega
    go_enter Try.func24, Try.ntmps24
    go_wp2_with fail
    go_ret
    exact ⟨by rw [byt_at h]; rfl, rfl⟩
  · have h' : ¬ (i : Int) < (s.size : Int) := by omega
    have hz := Lib.hid (byt_end (s := s) (i := i) (by omega))
    go_enter Try.func24, Try.ntmps24
    go_wp2_with fail
    go_ret
    exact ⟨by rw [hz.out]; rfl, rfl⟩

set_option maxRecDepth 100000 in
set_option maxHeartbeats 6400000 in
theorem survives_walk (A : Option Addr) (c : Nat) (acts : List ActV) (f : Int) (A2 : Option Addr) (c2 : Nat) (keep : List Int) (W : World) (h : ActsAt W A acts) (hm : acts.length ≤ 9223372036854775807) (hk : KeepB W A2 keep) (hm2 : keep.length ≤ 9223372036854775807) :
    Calls Try.prog 4 #[.slice A acts.length c, .int .i64 f, .slice A2 keep.length c2] W fun e w' => e = .returned (.bool true) ∧ Below W.heap.size W w' := by
  have H := Lib.hid h
  have HK := Lib.hid hk
  clear h hk
  go_enter Try.func4, Try.ntmps4
  go_wp2_with fail
  refine (small_any W).mono ?_
  rintro e w1 ⟨rfl, hb⟩
  have s1 : St W w1 (fun _ => 0) := ⟨fun _ _ => rfl, fun _ _ => rfl, hb⟩
  clear hb
  go_wp2_with fail
  cases hfew : fewB acts with
  | false =>
    refine (few_is false A c acts W w1 _ H.out s1 hm hfew).mono ?_
    rintro e _ ⟨rfl, rfl⟩
    go_wp2_with fail
    go_ret
    exact ⟨rfl, s1.fr⟩
  | true =>
  refine (few_is true A c acts W w1 _ H.out s1 hm hfew).mono ?_
  rintro e _ ⟨rfl, rfl⟩
  by_cases h3 : (60 : Int) < (keep.length : Int)
  · go_wp2_with fail
    go_ret
    exact ⟨rfl, s1.fr⟩
  go_wp2_with fail
  refine (played_any A c acts W w1 _ H.out s1 hfew).mono ?_
  rintro e w2 ⟨g, rfl, o2, d2, p2⟩
  clear s1
  have hJ := playJ acts (ds0, []) J.zero
  generalize (playD acts (ds0, [])).1 = d at d2 hJ
  generalize (playD acts (ds0, [])).2 = ks at d2
  go_wp2_with fail
  refine (o_down d2).mono ?_
  rintro e _ ⟨rfl, rfl⟩
  cases hdn : d.down with
  | true =>
    go_wp2_with fail
    go_ret
    exact ⟨rfl, p2.st.fr⟩
  | false =>
  by_cases hf0 : f < 0
  · go_wp2_with fail
    go_ret
    exact ⟨rfl, p2.st.fr⟩
  by_cases hf1 : 15 < f
  · go_wp2_with fail
    go_ret
    exact ⟨rfl, p2.st.fr⟩
  go_wp2_with fail
  refine (o_size d2 f).mono ?_
  rintro e _ ⟨rfl, rfl⟩
  by_cases hsz : (100000 : Int) < ((d.fs f).now.size : Int)
  · go_wp2_with fail
    go_ret
    exact ⟨rfl, p2.st.fr⟩
  obtain ⟨N, O, L, law, hN⟩ := surv_law d2.inv hJ hdn (by omega) (by omega : f ≤ 15) keep
  have hszN : ¬ (100000 : Int) < (N.size : Int) := by rw [hN]; exact hsz
  have LAW := Lib.hid law
  have lo := law.lo
  have hi := law.hi
  clear law hN hJ hdn hfew
  go_wp2_with fail
  refine (o_read d2 f 0 16777216).mono ?_
  rintro e _ ⟨rfl, rfl⟩
  rw [LAW.out.now.1, LAW.out.now.2]
  go_wp2_with fail
  refine (after_any g d ks [] f none 0 W _ _ d2 p2.st (KeepAt.nil _ _ _) (by decide) O LAW.out.last.1 LAW.out.last.2).mono ?_
  rintro e w3 ⟨rfl, o3, d3, p3⟩
  clear d2 p2
  go_wp2_with fail
  have k1 := keep_box p3.st 3 [1]
  have s3 := p3.st.alloc (.cells #[.int .i64 1] 3)
  replace d3 := d3.alloc (.cells #[.int .i64 1] 3)
  refine (after_any g d ks [1] f _ _ W _ _ d3 s3 k1 (by decide) N LAW.out.all.1 LAW.out.all.2).mono ?_
  rintro e w4 ⟨rfl, o4, d4, p4⟩
  clear d3 p3 k1 s3
  go_wp2_with fail
  refine (after_any g d ks keep f _ _ W _ _ d4 p4.st (HK.out.at p4.st) (by omega) L LAW.out.some.1 LAW.out.some.2).mono ?_
  rintro e w5 ⟨rfl, o5, -, p5⟩
  have HB := Lib.hid p5.st.fr
  clear d4 p4 p5
  have lo' : ¬ (L.size : Int) < (O.size : Int) := by omega
  have hi' : ¬ (N.size : Int) < (L.size : Int) := by omega
  have HS := Lib.hid LAW.out.sect
  clear LAW HK H
  go_wp2_with fail
  go_loopw [17] (fun i wr => ∃ k : Nat, k ≤ 1000000 ∧ i = .int .i64 k ∧ Below W.heap.size W wr) (fun i _ => 1000001 - (intOf i).toNat)
  case atStart => exact ⟨0, Nat.zero_le _, rfl, HB.out⟩
  case round =>
    obtain ⟨n, hn, rfl, hbel⟩ := hrel
    have HB2 := Lib.hid hbel
    clear hbel HB
    by_cases hlt : 64 * n < L.size
    · have hz : 64 * (n : Int) < (L.size : Int) := by omega
      go_wp2_with fail
      go_loopw [18, 19, 20] (fun x y i wr => ∃ k : Nat, 64 * n ≤ k ∧ k ≤ 64 * n + 64 ∧ k ≤ L.size ∧ x = .bool (eqB L N (64 * n) (k - 64 * n)) ∧ y = .bool (eqB L O (64 * n) (k - 64 * n)) ∧ i = .int .i64 k ∧ Below W.heap.size W wr) (fun x y i _ => 100000 - (intOf i).toNat)
      case atStart => exact ⟨64 * n, Nat.le_refl _, by omega, by omega, by simp [eqB], by simp [eqB], by simp, HB2.out⟩
      case round =>
        obtain ⟨k, hk0, hk, hkL, rfl, rfl, rfl, hbel⟩ := hrel
        have HB3 := Lib.hid hbel
        clear hbel HB2
        by_cases hin : k < 64 * n + 64 ∧ k < L.size
        · have hi1 : (k : Int) < 64 * (n : Int) + 64 := by omega
          have hi2 : (k : Int) < (L.size : Int) := by omega
          have hi3 : (k : Int) < (N.size : Int) := by omega
          obtain ⟨hin1, hin2⟩ := hin
          have e1 := Lib.hid (eqB_step (L := L) (N := N) hk0)
          have e2 := Lib.hid (eqB_step (L := L) (N := O) hk0)
          have hb1 := Lib.hid (byt_at hin2)
          have hb2 := Lib.hid (byt_at (show k < N.size by omega))
          go_wp2_with fail
          cases hx : eqB L N (64 * n) (k - 64 * n)
          · have E1 := Lib.hid (e1.out _ hx)
            clear hx
            go_quiet (fail)
            have HB4 := Lib.hid (Below.drew_ HB3.out nq)
            clear HB3
            generalize wr.drewN nq = wr2 at *
            go_wp2_with fail
            cases hy : eqB L O (64 * n) (k - 64 * n)
            · have E2 := Lib.hid (e2.out _ hy)
              clear hy e1 e2
              go_quiet (fail)
              go_wp2_with fail
              go_roundw
              case rel => exact ⟨k + 1, by omega, by omega, by omega, by rw [E1.out, Bool.false_and], by rw [E2.out, Bool.false_and], by go_num, Below.drew_ HB4.out _⟩
              case measure => simp [intOf]; omega
            · have E2 := Lib.hid (e2.out _ hy)
              clear hy e1 e2
              go_quiet (first | (go_at_call 24; exact Calls.quiet_of_same (byteAt_any O k _)))
              go_wp2_with fail
              go_roundw
              case rel => exact ⟨k + 1, by omega, by omega, by omega, by rw [E1.out, Bool.false_and], by rw [E2.out, Bool.true_and, hb1.out, ← byte_eq], by go_num, Below.drew_ HB4.out _⟩
              case measure => simp [intOf]; omega
          · have E1 := Lib.hid (e1.out _ hx)
            clear hx
            go_quiet (fail)
            have HB4 := Lib.hid (Below.drew_ HB3.out nq)
            clear HB3
            generalize wr.drewN nq = wr2 at *
            go_wp2_with fail
            cases hy : eqB L O (64 * n) (k - 64 * n)
            · have E2 := Lib.hid (e2.out _ hy)
              clear hy e1 e2
              go_quiet (fail)
              go_wp2_with fail
              go_roundw
              case rel => exact ⟨k + 1, by omega, by omega, by omega, by rw [E1.out, Bool.true_and, hb1.out, hb2.out, ← byte_eq], by rw [E2.out, Bool.false_and], by go_num, Below.drew_ HB4.out _⟩
              case measure => simp [intOf]; omega
            · have E2 := Lib.hid (e2.out _ hy)
              clear hy e1 e2
              go_quiet (first | (go_at_call 24; exact Calls.quiet_of_same (byteAt_any O k _)))
              go_wp2_with fail
              go_roundw
              case rel => exact ⟨k + 1, by omega, by omega, by omega, by rw [E1.out, Bool.true_and, hb1.out, hb2.out, ← byte_eq], by rw [E2.out, Bool.true_and, hb1.out, ← byte_eq], by go_num, Below.drew_ HB4.out _⟩
              case measure => simp [intOf]; omega
        · have hor := sect_one (HS.out n) (k - 64 * n) (by omega)
          have HB4 := Lib.hid HB3.out
          clear HB3
          have fin : Hid (∃ j : Nat, j ≤ 1000000 ∧ (Value.int .i64 ((n : Int) + 1)) = .int .i64 j ∧ Below W.heap.size W wr) := ⟨n + 1, by omega, by simp, HB4.out⟩
          by_cases hc : (k : Int) < 64 * (n : Int) + 64
          · have hc2 : ¬ (k : Int) < (L.size : Int) := by omega
            cases hx : eqB L N (64 * n) (k - 64 * n) <;> cases hy : eqB L O (64 * n) (k - 64 * n)
            · rw [hx, hy] at hor; simp at hor
            all_goals
              clear hx hy hor hin
              go_wp2_with fail
              go_roundw
              case rel => exact fin.out
              case measure => simp [intOf]; omega
          · cases hx : eqB L N (64 * n) (k - 64 * n) <;> cases hy : eqB L O (64 * n) (k - 64 * n)
            · rw [hx, hy] at hor; simp at hor
            all_goals
              clear hx hy hor hin
              go_wp2_with fail
              go_roundw
              case rel => exact fin.out
              case measure => simp [intOf]; omega
    · have hz : ¬ 64 * (n : Int) < (L.size : Int) := by omega
      go_wp2_with fail
      go_ret
      exact ⟨rfl, HB2.out⟩
end Go.Proofs.Ytjgmbildgcighaa
