import Derived.Test.YtbkloadgbicbeaaSidesE
namespace Go.Proofs.Ytbkloadgbicbeaa
open Go.RowKit

set_option maxRecDepth 100000 in
set_option maxHeartbeats 3200000 in
theorem sides_late (mask more : Int) (w : World) (more0 : 0 ≤ more) (more1 : more ≤ 600) :
    Calls Try.prog 4 #[.int .i64 mask, .bool true, .int .i64 more] w (Good w) := by
  go_enter Try.func4, Try.ntmps4
  go_wp2_with fail
  refine (small_any _).mono ?_
  rintro e w0 ⟨rfl, hb0⟩
  have s0 : St w w0 (fun _ => 0) := ⟨fun _ _ => rfl, fun _ _ => rfl, hb0⟩
  clear hb0
  go_wp2_with fail
  refine (new_any _).mono ?_
  rintro e w1 ⟨rfl, hw1⟩
  obtain ⟨o1, n1, p1⟩ := new_own s0 (i := 1) (by decide)
  rw [← hw1] at n1 p1
  clear hw1 s0
  generalize w0.heap.size = gn at n1
  have z1 : decide (more < 0) = false := by simp; omega
  have z2 : decide (600 < more) = false := by simp; omega
  go_wp2_with fail
  have hst : Hid (RelS w gn 0 w1) := ⟨o1, p1.st, n1⟩
  clear n1 p1 z1 z2
  go_loopw [9] (fun i wr => ∃ a : Nat, a ≤ 16 ∧ i = .int .i64 a ∧ RelS w gn 0 wr) (fun i _ => 16 - (intOf i).toNat)
  case atStart => exact ⟨0, Nat.zero_le _, rfl, hst.out⟩
  case round =>
    obtain ⟨a, ha, rfl, own, st, nt⟩ := hrel
    by_cases hlt : a < 16
    · have hz : (a : Int) < 16 := by omega
      obtain ⟨wo, rfl⟩ : ∃ w', w' = wr := ⟨_, rfl⟩
      go_wp2_with fail
      have hst1 : Hid (RelS w gn 0 wo) := ⟨own, st, nt⟩
      clear st nt
      go_loopw [10] (fun i wr => ∃ b : Nat, b ≤ 16 ∧ i = .int .i64 b ∧ RelS w gn 0 wr) (fun i _ => 16 - (intOf i).toNat)
      case atStart => exact ⟨0, Nat.zero_le _, rfl, hst1.out⟩
      case round =>
        obtain ⟨b, hb, rfl, own, st, nt⟩ := hrel
        by_cases hblt : b < 16
        · have hz2 : (b : Int) < 16 := by omega
          by_cases hab : a = b
          · subst hab
            have HE := Lib.hid (sides_same [] 0 a hlt)
            go_wp2_with fail
            refine (send_any gn [] _ _ _ _ _ _ nt).mono ?_
            intro e w3 hp
            obtain ⟨rfl, own3, nt3, p3⟩ := (hp.is (r' := .int .i64 1) (ps' := []) (by rw [HE.out.1]) (by simp [sendL, HE.out.1]) rfl).mine st (by decide)
            have hc1 := nt3.c1
            have hst2 : Hid (∀ n, RelS w gn 0 (w3.drewN n)) := fun n => ⟨own3, p3.st.drewN n, nt3.drewN n⟩
            have heq : ((a : Int) == (a : Int)) = true := by simp
            clear hp nt nt3 p3 st
            go_wp2_with fail
            refine (hear_is gn _ _ _ true _ hc1 HE.out.2).mono ?_
            rintro e w4 ⟨rfl, n, rfl⟩
            clear hc1
            go_wp2_with fail
            go_roundw
            case rel => exact ⟨a + 1, by omega, by go_num, hst2.out _⟩
            case measure => simp [intOf]; omega
          · have heq : ((a : Int) == (b : Int)) = false := by simp; omega
            cases hnb : (bits BinOp.and IntKind.i64 (mask / 2 ^ a) 1 == bits BinOp.and IntKind.i64 (mask / 2 ^ b) 1) with
            | true =>
              have HE := Lib.hid (sides_near mask a b hlt hblt hab hnb)
              have HS := Lib.hid (sides_zero a b hlt hblt hab)
              go_wp2_with fail
              refine (send_any gn [] _ _ _ _ _ _ nt).mono ?_
              intro e w3 hp
              obtain ⟨rfl, own3, nt3, p3⟩ := (hp.is (r' := .int .i64 0) (ps' := [⟨a, b, ⟨#[120]⟩⟩]) (by rw [HS.out]) (by simp [sendL, HS.out]) rfl).mine st (by decide)
              clear hp nt st
              go_wp2_with fail
              refine (split_any gn _ _ mask _ _ nt3).mono ?_
              intro e w3a hp
              obtain ⟨rfl, own3a, nt3a, p3a⟩ := hp.mine p3.st (by decide)
              clear hp nt3 p3
              go_wp2_with fail
              refine (deliver_any gn _ _ 0 _ _ nt3a).mono ?_
              intro e w4 hp
              obtain ⟨rfl, own4, nt4, p4⟩ := (hp.is (r' := .tuple #[.agg #[.int .i64 a, .int .i64 b, .string ⟨#[120]⟩], .int .i64 0]) (ps' := []) (by simp [delP, delE, at?, HE.out.2, Pkt.agg]) rfl rfl).mine p3a.st (by decide)
              have nt4' := nt4.alloc (.cells #[.int .i64 a, .int .i64 b, .string ⟨#[120]⟩] 34)
              have st4 := p4.st.alloc (.cells #[.int .i64 a, .int .i64 b, .string ⟨#[120]⟩] 34)
              have hc1 := nt4'.c1
              clear hp nt3a p3a p4 nt4
              go_wp2_with fail
              refine (hear_is gn _ _ _ true _ hc1 HE.out.2).mono ?_
              rintro e w5 ⟨rfl, n, rfl⟩
              clear hc1
              replace nt4' := nt4'.drewN n
              replace st4 := st4.drewN n
              go_wp2_with fail
              refine (heal_any gn [] _ _ _ nt4').mono ?_
              intro e w6 hp
              obtain ⟨rfl, own6, nt6, p6⟩ := hp.mine st4 (by decide)
              have hst2 : Hid (RelS w gn 0 w6) := ⟨own6, p6.st, nt6⟩
              clear hp nt4' st4 nt6 p6
              go_wp2_with fail
              go_roundw
              case rel => exact ⟨b + 1, by omega, by go_num, hst2.out⟩
              case measure => simp [intOf]; omega
            | false =>
              have HE := Lib.hid (sides_far mask a b hlt hblt hab hnb)
              have HS := Lib.hid (sides_zero a b hlt hblt hab)
              go_wp2_with fail
              refine (send_any gn [] _ _ _ _ _ _ nt).mono ?_
              intro e w3 hp
              obtain ⟨rfl, own3, nt3, p3⟩ := (hp.is (r' := .int .i64 0) (ps' := [⟨a, b, ⟨#[120]⟩⟩]) (by rw [HS.out]) (by simp [sendL, HS.out]) rfl).mine st (by decide)
              clear hp nt st
              go_wp2_with fail
              refine (split_any gn _ _ mask _ _ nt3).mono ?_
              intro e w3a hp
              obtain ⟨rfl, own3a, nt3a, p3a⟩ := hp.mine p3.st (by decide)
              clear hp nt3 p3
              go_wp2_with fail
              refine (deliver_any gn _ _ 0 _ _ nt3a).mono ?_
              intro e w4 hp
              obtain ⟨rfl, own4, nt4, p4⟩ := (hp.is (r' := .tuple #[.agg #[.int .i64 0, .int .i64 0, .string ⟨#[]⟩], .int .i64 10]) (ps' := []) (by simp [delP, delE, at?, HE.out.2, Pkt.agg, pkt0]) rfl rfl).mine p3a.st (by decide)
              have nt4' := nt4.alloc (.cells #[.int .i64 0, .int .i64 0, .string ⟨#[]⟩] 34)
              have st4 := p4.st.alloc (.cells #[.int .i64 0, .int .i64 0, .string ⟨#[]⟩] 34)
              have hc1 := nt4'.c1
              clear hp nt3a p3a p4 nt4
              go_wp2_with fail
              refine (hear_is gn _ _ _ false _ hc1 HE.out.2).mono ?_
              rintro e w5 ⟨rfl, n, rfl⟩
              clear hc1
              replace nt4' := nt4'.drewN n
              replace st4 := st4.drewN n
              go_wp2_with fail
              refine (heal_any gn [] _ _ _ nt4').mono ?_
              intro e w6 hp
              obtain ⟨rfl, own6, nt6, p6⟩ := hp.mine st4 (by decide)
              have hst2 : Hid (RelS w gn 0 w6) := ⟨own6, p6.st, nt6⟩
              clear hp nt4' st4 nt6 p6
              go_wp2_with fail
              go_roundw
              case rel => exact ⟨b + 1, by omega, by go_num, hst2.out⟩
              case measure => simp [intOf]; omega
        · have hz2 : ¬ (b : Int) < 16 := by omega
          have hst2 : Hid (RelS w gn 0 wr) := ⟨own, st, nt⟩
          clear st nt
          go_wp2_with fail
          go_roundw
          case rel => exact ⟨a + 1, by omega, by go_num, hst2.out⟩
          case measure => simp [intOf]; omega
    · have hz : ¬ (a : Int) < 16 := by omega
      obtain ⟨wo, rfl⟩ : ∃ w', w' = wr := ⟨_, rfl⟩
      go_wp2_with fail
      refine (heal_any gn [] _ _ _ nt).mono ?_
      intro e w3 hp
      obtain ⟨rfl, own3, nt3, p3⟩ := hp.mine st (by decide)
      have hst3 : Hid (RelT w gn 0 w3) := ⟨own3, [], p3.st, nt3, rfl⟩
      clear hp nt nt3 p3 st hst
      obtain ⟨m, rfl⟩ := Int.eq_ofNat_of_zero_le more0
      go_wp2_with fail
      go_loopw [15] (fun i wr => ∃ k : Nat, k ≤ m ∧ i = .int .i64 k ∧ RelT w gn k wr) (fun i _ => m - (intOf i).toNat)
      case atStart => exact ⟨0, Nat.zero_le _, rfl, hst3.out⟩
      case round =>
        obtain ⟨k, hk, rfl, own, ps, st, nt, hps⟩ := hrel
        by_cases hkm : k < m
        · have hz3 : (k : Int) < (m : Int) := by omega
          have HP := Lib.hid hps
          clear hps
          by_cases h500 : k < 500
          · have hd : decide ((k : Int) < 500) = true := by simp; omega
            have HE := Lib.hid (tail_send ps k (.inl ⟨h500, HP.out⟩))
            go_wp2_with fail
            refine (send_any gn ps 0 _ _ _ _ _ nt).mono ?_
            intro e w4 hp
            obtain ⟨rfl, own4, nt4, p4⟩ := (hp.is (r' := .int .i64 0) (by rw [HE.out, if_pos h500]) rfl rfl).mine st (by decide)
            have hnx : Hid (RelT w gn (k + 1) w4) := ⟨own4, _, p4.st, nt4, tail_len (HE.out) HP.out⟩
            clear hp nt nt4 p4 st
            go_wp2_with fail
            go_roundw
            case rel => exact ⟨k + 1, by omega, by go_num, hnx.out⟩
            case measure => simp [intOf]; omega
          · have hd : decide ((k : Int) < 500) = false := by simp; omega
            have HE := Lib.hid (tail_send ps k (.inr ⟨h500, HP.out⟩))
            go_wp2_with fail
            refine (send_any gn ps 0 _ _ _ _ _ nt).mono ?_
            intro e w4 hp
            obtain ⟨rfl, own4, nt4, p4⟩ := (hp.is (r' := .int .i64 6) (by rw [HE.out, if_neg h500]) rfl rfl).mine st (by decide)
            have hnx : Hid (RelT w gn (k + 1) w4) := ⟨own4, _, p4.st, nt4, tail_len (HE.out) HP.out⟩
            clear hp nt nt4 p4 st
            go_wp2_with fail
            go_roundw
            case rel => exact ⟨k + 1, by omega, by go_num, hnx.out⟩
            case measure => simp [intOf]; omega
        · have hz3 : ¬ (k : Int) < (m : Int) := by omega
          obtain rfl : k = m := by omega
          have HP := Lib.hid hps
          clear hps
          by_cases h500 : k < 500
          · have hd : decide ((k : Int) < 500) = true := by simp; omega
            have hcnt : ((ps.length : Int) == (k : Int)) = true := by have := HP.out; simp; omega
            go_wp2_with fail
            refine (count_any gn _ _ _ _ nt).mono ?_
            rintro e wx ⟨rfl, rfl⟩
            · go_wp2_with fail
              refine (send_any gn _ 0 _ _ _ _ _ nt).mono ?_
              intro e w4 hp
              obtain ⟨rfl, own4, nt4, p4⟩ := (hp.is (r' := .int .i64 1) rfl rfl rfl).mine st (by decide)
              clear hp nt st
              go_wp2_with fail
              refine (send_any gn _ 0 _ _ _ _ _ nt4).mono ?_
              intro e w5 hp
              obtain ⟨rfl, own5, nt5, p5⟩ := (hp.is (r' := .int .i64 1) rfl rfl rfl).mine p4.st (by decide)
              have hfin := Lib.hid p5.st.fr
              clear hp nt4 nt5 p4 p5
              go_wp2_with fail
              go_ret
              exact ⟨rfl, hfin.out⟩
          · have hd : decide ((k : Int) < 500) = false := by simp; omega
            by_cases h5 : 500 < k
            · have h5' : (500 : Int) < (k : Int) := by omega
              have hcnt : ((ps.length : Int) == 500) = true := by have := HP.out; simp; omega
              have hcnt2 : (ps.length : Int) = 500 := by have := HP.out; omega
              go_wp2_with fail
              refine (count_any gn _ _ _ _ nt).mono ?_
              rintro e wx ⟨rfl, rfl⟩
              · go_wp2_with fail
                refine (double_any gn ps 0 3 _ _ nt).mono ?_
                intro e w3b hp
                obtain ⟨h6, hL⟩ := dbl_full ps (by have := HP.out; omega)
                obtain ⟨rfl, own3b, nt3b, p3b⟩ := (hp.is (r' := .int .i64 6) (ps' := ps) (by rw [h6]) hL rfl).mine st (by decide)
                clear hp nt st h6 hL
                go_wp2_with fail
                refine (send_any gn _ 0 _ _ _ _ _ nt3b).mono ?_
                intro e w4 hp
                obtain ⟨rfl, own4, nt4, p4⟩ := (hp.is (r' := .int .i64 1) rfl rfl rfl).mine p3b.st (by decide)
                clear hp nt3b p3b
                go_wp2_with fail
                refine (send_any gn _ 0 _ _ _ _ _ nt4).mono ?_
                intro e w5 hp
                obtain ⟨rfl, own5, nt5, p5⟩ := (hp.is (r' := .int .i64 1) rfl rfl rfl).mine p4.st (by decide)
                have hfin := Lib.hid p5.st.fr
                clear hp nt4 nt5 p4 p5
                go_wp2_with fail
                go_ret
                exact ⟨rfl, hfin.out⟩

            · have h5' : ¬ (500 : Int) < (k : Int) := by omega
              have hcnt : ((ps.length : Int) == (k : Int)) = true := by have := HP.out; simp; omega
              go_wp2_with fail
              refine (count_any gn _ _ _ _ nt).mono ?_
              rintro e wx ⟨rfl, rfl⟩
              · go_wp2_with fail
                refine (double_any gn ps 0 3 _ _ nt).mono ?_
                intro e w3b hp
                obtain ⟨h6, hL⟩ := dbl_full ps (by have := HP.out; omega)
                obtain ⟨rfl, own3b, nt3b, p3b⟩ := (hp.is (r' := .int .i64 6) (ps' := ps) (by rw [h6]) hL rfl).mine st (by decide)
                clear hp nt st h6 hL
                go_wp2_with fail
                refine (send_any gn _ 0 _ _ _ _ _ nt3b).mono ?_
                intro e w4 hp
                obtain ⟨rfl, own4, nt4, p4⟩ := (hp.is (r' := .int .i64 1) rfl rfl rfl).mine p3b.st (by decide)
                clear hp nt3b p3b
                go_wp2_with fail
                refine (send_any gn _ 0 _ _ _ _ _ nt4).mono ?_
                intro e w5 hp
                obtain ⟨rfl, own5, nt5, p5⟩ := (hp.is (r' := .int .i64 1) rfl rfl rfl).mine p4.st (by decide)
                have hfin := Lib.hid p5.st.fr
                clear hp nt4 nt5 p4 p5
                go_wp2_with fail
                go_ret
                exact ⟨rfl, hfin.out⟩

set_option maxRecDepth 100000 in
set_option maxHeartbeats 800000 in
theorem sides_out (mask more : Int) (late : Bool) (w : World) (h : more < 0 ∨ 600 < more) :
    Calls Try.prog 4 #[.int .i64 mask, .bool late, .int .i64 more] w (Good w) := by
  rcases h with h | h
  · go_enter Try.func4, Try.ntmps4
    go_wp2_with fail
    refine (small_any _).mono ?_
    rintro e w0 ⟨rfl, hb0⟩
    have s0 : St w w0 (fun _ => 0) := ⟨fun _ _ => rfl, fun _ _ => rfl, hb0⟩
    clear hb0
    go_wp2_with fail
    refine (new_any _).mono ?_
    rintro e w1 ⟨rfl, hw1⟩
    have hfin := Lib.hid (s0.alloc (.cells #[.slice none 0 0, .int .i64 0] 56)).fr
    rw [← hw1] at hfin
    clear hw1 s0
    go_wp2_with fail
    go_ret
    exact ⟨rfl, hfin.out⟩
  · have h0 : ¬ more < 0 := by omega
    go_enter Try.func4, Try.ntmps4
    go_wp2_with fail
    refine (small_any _).mono ?_
    rintro e w0 ⟨rfl, hb0⟩
    have s0 : St w w0 (fun _ => 0) := ⟨fun _ _ => rfl, fun _ _ => rfl, hb0⟩
    clear hb0
    go_wp2_with fail
    refine (new_any _).mono ?_
    rintro e w1 ⟨rfl, hw1⟩
    have hfin := Lib.hid (s0.alloc (.cells #[.slice none 0 0, .int .i64 0] 56)).fr
    rw [← hw1] at hfin
    clear hw1 s0
    go_wp2_with fail
    go_ret
    exact ⟨rfl, hfin.out⟩
theorem sides_walk (mask more : Int) (late : Bool) (w : World) : Calls Try.prog 4 #[.int .i64 mask, .bool late, .int .i64 more] w (Good w) := by
  by_cases h : more < 0 ∨ 600 < more
  · exact sides_out mask more late w h
  · cases late with
    | false => exact sides_early mask more w (by omega) (by omega)
    | true => exact sides_late mask more w (by omega) (by omega)
end Go.Proofs.Ytbkloadgbicbeaa
