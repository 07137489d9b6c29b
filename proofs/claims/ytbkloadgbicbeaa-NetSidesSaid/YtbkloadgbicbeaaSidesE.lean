import Derived.Test.YtbkloadgbicbeaaDouble
import Derived.Test.YtbkloadgbicbeaaOrd0
namespace Go.Proofs.Ytbkloadgbicbeaa
open Go.RowKit

def Good (w : World) (e : Ending) (w' : World) : Prop := e = .returned (.bool true) ∧ Below w.heap.size w w'
def RelS (W : World) (gn : Nat) (s : Int) (wr : World) : Prop := ∃ own, St W wr own ∧ NetAt wr (fun b => own b = 1) 56 gn [] s

def RelT (W : World) (gn k : Nat) (wr : World) : Prop := ∃ own ps, St W wr own ∧ NetAt wr (fun b => own b = 1) 56 gn ps 0 ∧ ps.length = min k 500
theorem tail_send (ps : List Pkt) (k : Nat) (h : (k < 500 ∧ ps.length = min k 500) ∨ (¬ k < 500 ∧ ps.length = min k 500)) : sendE ps 0 (bits .and .i64 k 15) (bits .and .i64 (k + 1) 15) = if k < 500 then 0 else 6 := by
  have h1 : endB (bits .and .i64 k 15) = true := by rw [and15]; simp [endB]; omega
  have h2 : endB (bits .and .i64 (k + 1) 15) = true := by rw [and15]; simp [endB]; omega
  have h3 : (bits .and .i64 k 15 == bits .and .i64 (k + 1) 15) = false := by rw [and15, and15]; simp; omega
  simp only [sendE, h1, h2, h3, hear0 h1 h2]
  rcases h with ⟨h, h'⟩ | ⟨h, h'⟩
  · simp [h]; omega
  · simp [h]; omega
theorem tail_len {ps : List Pkt} {k : Nat} {f t : Int} {b : ByteArray} (h : sendE ps 0 f t = if k < 500 then 0 else 6) (hl : ps.length = min k 500) : (sendL ps 0 f t b).length = min (k + 1) 500 := by
  unfold sendL
  rw [h]
  by_cases hk : k < 500
  · simp [hk]; omega
  · simp [hk]; omega
theorem dbl_full (ps : List Pkt) (h : ps.length = 500) : dblE ps 3 = 6 ∧ dblL ps 3 = ps := by
  have : at? ps 3 = some (ps[3]'(by omega)) := by
    show (if (3 : Int) < 0 then none else ps[(3 : Int).toNat]?) = _
    rw [if_neg (by decide)]
    exact List.getElem?_eq_getElem (by omega)
  simp [dblE, dblL, this, h]
theorem endB_nat {a : Nat} (h : a < 16) : endB (a : Int) = true := by simp [endB]; omega
theorem sides_same (ps : List Pkt) (s : Int) (a : Nat) (h : a < 16) : sendE ps s a a = 1 ∧ hearB s a a = true := by
  simp [sendE, hearB, endB_nat h]
theorem bit_mask (mask : Int) (a : Nat) (h : a < 16) : bitOf (maskOf mask) a = bits .and .i64 (mask / 2 ^ a) 1 := by
  unfold bitOf maskOf
  rw [and65535, and1, and1]
  have e : (65536 : Int) = 2 ^ a * (2 * 2 ^ (15 - a)) := by
    rw [← Int.mul_assoc, Int.mul_comm (2 ^ a) 2, Int.mul_assoc, ← Int.pow_add, show a + (15 - a) = 15 by omega]; rfl
  have hp : (2 : Int) ^ a ≠ 0 := Int.pow_ne_zero (by decide)
  rw [Int.toNat_natCast, e]
  generalize (2 : Int) ^ a = p at *
  generalize (2 : Int) ^ (15 - a) = r at *
  have h1 : mask % (p * (2 * r)) = mask + p * (-(2 * (r * (mask / (p * (2 * r)))))) := by
    rw [Int.emod_def, Int.sub_eq_add_neg, Int.mul_neg, Int.mul_assoc, Int.mul_assoc]
  rw [h1, Int.add_mul_ediv_left _ _ hp]
  omega
theorem hear_mask (mask : Int) (a b : Nat) (ha : a < 16) (hb : b < 16) : hearB (maskOf mask) a b = (bits .and .i64 (mask / 2 ^ a) 1 == bits .and .i64 (mask / 2 ^ b) 1) := by
  simp only [hearB, endB_nat ha, endB_nat hb, Bool.true_and, bit_mask mask a ha, bit_mask mask b hb]
theorem sides_zero (a b : Nat) (ha : a < 16) (hb : b < 16) (hab : a ≠ b) : sendE [] 0 a b = 0 := by
  have hne : ((a : Int) == (b : Int)) = false := by simp; omega
  simp [sendE, endB_nat ha, endB_nat hb, hear0 (endB_nat ha) (endB_nat hb), hne]
theorem sides_near (mask : Int) (a b : Nat) (ha : a < 16) (hb : b < 16) (hab : a ≠ b) (h : (bits .and .i64 (mask / 2 ^ a) 1 == bits .and .i64 (mask / 2 ^ b) 1) = true) : sendE [] (maskOf mask) a b = 0 ∧ hearB (maskOf mask) a b = true := by
  have hh := (hear_mask mask a b ha hb).trans h
  have hne : ((a : Int) == (b : Int)) = false := by simp; omega
  simp [sendE, endB_nat ha, endB_nat hb, hh, hne]
theorem sides_far (mask : Int) (a b : Nat) (ha : a < 16) (hb : b < 16) (hab : a ≠ b) (h : (bits .and .i64 (mask / 2 ^ a) 1 == bits .and .i64 (mask / 2 ^ b) 1) = false) : sendE [] (maskOf mask) a b = 10 ∧ hearB (maskOf mask) a b = false := by
  have hh := (hear_mask mask a b ha hb).trans h
  have hne : ((a : Int) == (b : Int)) = false := by simp; omega
  simp [sendE, endB_nat ha, endB_nat hb, hh, hne]

set_option maxRecDepth 100000 in
set_option maxHeartbeats 3200000 in
theorem sides_early (mask more : Int) (w : World) (more0 : 0 ≤ more) (more1 : more ≤ 600) :
    Calls Try.prog 4 #[.int .i64 mask, .bool false, .int .i64 more] w (Good w) := by
  go_enter Try.func4, Try.ntmps4
  go_wp2_with fail
  refine (small_any _).mono ?_
  rintro e w0 ⟨rfl, hb0⟩
  have s0 : St w w0 (fun _ => 0) := ⟨fun _ _ => rfl, fun _ _ => rfl, hb0⟩
  clear hb0
  go_wp2_with fail
  refine (new_any _).mono ?_
  rintro e w1 ⟨rfl, hw1⟩
  obtain ⟨o1, n1, p1⟩ := new_own s0 (i := 1) (by decide)
  rw [← hw1] at n1 p1
  clear hw1 s0
  generalize w0.heap.size = gn at n1
  have z1 : decide (more < 0) = false := by simp; omega
  have z2 : decide (600 < more) = false := by simp; omega
  go_wp2_with fail
  refine (split_any gn [] 0 mask _ _ n1).mono ?_
  intro e w2 hp
  obtain ⟨rfl, o2, n2, p2⟩ := hp.mine p1.st (by decide)
  have hst : Hid (RelS w gn (maskOf mask) w2) := ⟨o2, p2.st, n2⟩
  clear hp n1 p1 n2 p2 z1 z2
  go_wp2_with fail
  go_loopw [9] (fun i wr => ∃ a : Nat, a ≤ 16 ∧ i = .int .i64 a ∧ RelS w gn (maskOf mask) wr) (fun i _ => 16 - (intOf i).toNat)
  case atStart => exact ⟨0, Nat.zero_le _, rfl, hst.out⟩
  case round =>
    obtain ⟨a, ha, rfl, own, st, nt⟩ := hrel
    by_cases hlt : a < 16
    · have hz : (a : Int) < 16 := by omega
      obtain ⟨wo, rfl⟩ : ∃ w', w' = wr := ⟨_, rfl⟩
      go_wp2_with fail
      have hst1 : Hid (RelS w gn (maskOf mask) wo) := ⟨own, st, nt⟩
      clear st nt
      go_loopw [10] (fun i wr => ∃ b : Nat, b ≤ 16 ∧ i = .int .i64 b ∧ RelS w gn (maskOf mask) wr) (fun i _ => 16 - (intOf i).toNat)
      case atStart => exact ⟨0, Nat.zero_le _, rfl, hst1.out⟩
      case round =>
        obtain ⟨b, hb, rfl, own, st, nt⟩ := hrel
        by_cases hblt : b < 16
        · have hz2 : (b : Int) < 16 := by omega
          by_cases hab : a = b
          · subst hab
            have HE := Lib.hid (sides_same [] (maskOf mask) a hlt)
            go_wp2_with fail
            refine (send_any gn [] _ _ _ _ _ _ nt).mono ?_
            intro e w3 hp
            obtain ⟨rfl, own3, nt3, p3⟩ := (hp.is (r' := .int .i64 1) (ps' := []) (by rw [HE.out.1]) (by simp [sendL, HE.out.1]) rfl).mine st (by decide)
            have hc1 := nt3.c1
            have hst2 : Hid (∀ n, RelS w gn (maskOf mask) (w3.drewN n)) := fun n => ⟨own3, p3.st.drewN n, nt3.drewN n⟩
            have heq : ((a : Int) == (a : Int)) = true := by simp
            clear hp nt nt3 p3 st
            go_wp2_with fail
            refine (hear_is gn _ _ _ true _ hc1 HE.out.2).mono ?_
            rintro e w4 ⟨rfl, n, rfl⟩
            clear hc1
            go_wp2_with fail
            go_roundw
            case rel => exact ⟨a + 1, by omega, by go_num, hst2.out _⟩
            case measure => simp [intOf]; omega
          · have heq : ((a : Int) == (b : Int)) = false := by simp; omega
            cases hnb : (bits BinOp.and IntKind.i64 (mask / 2 ^ a) 1 == bits BinOp.and IntKind.i64 (mask / 2 ^ b) 1) with
            | true =>
              have HE := Lib.hid (sides_near mask a b hlt hblt hab hnb)
              go_wp2_with fail
              refine (send_any gn [] _ _ _ _ _ _ nt).mono ?_
              intro e w3 hp
              obtain ⟨rfl, own3, nt3, p3⟩ := (hp.is (r' := .int .i64 0) (ps' := [⟨a, b, ⟨#[120]⟩⟩]) (by rw [HE.out.1]) (by simp [sendL, HE.out.1]) rfl).mine st (by decide)
              clear hp nt st
              go_wp2_with fail
              refine (deliver_any gn _ _ 0 _ _ nt3).mono ?_
              intro e w4 hp
              obtain ⟨rfl, own4, nt4, p4⟩ := (hp.is (r' := .tuple #[.agg #[.int .i64 a, .int .i64 b, .string ⟨#[120]⟩], .int .i64 0]) (ps' := []) (by simp [delP, delE, at?, HE.out.2, Pkt.agg]) rfl rfl).mine p3.st (by decide)
              have nt4' := nt4.alloc (.cells #[.int .i64 a, .int .i64 b, .string ⟨#[120]⟩] 34)
              have hst2 : Hid (∀ n, RelS w gn (maskOf mask) ((w4.alloc (.cells #[.int .i64 a, .int .i64 b, .string ⟨#[120]⟩] 34)).drewN n)) := fun n => ⟨own4, (p4.st.alloc _).drewN n, nt4'.drewN n⟩
              have hc1 := nt4'.c1
              clear hp nt3 p3 p4 nt4 nt4'
              go_wp2_with fail
              refine (hear_is gn _ _ _ true _ hc1 HE.out.2).mono ?_
              rintro e w5 ⟨rfl, n, rfl⟩
              clear hc1
              go_wp2_with fail
              go_roundw
              case rel => exact ⟨b + 1, by omega, by go_num, hst2.out _⟩
              case measure => simp [intOf]; omega
            | false =>
              have HE := Lib.hid (sides_far mask a b hlt hblt hab hnb)
              go_wp2_with fail
              refine (send_any gn [] _ _ _ _ _ _ nt).mono ?_
              intro e w3 hp
              obtain ⟨rfl, own3, nt3, p3⟩ := (hp.is (r' := .int .i64 10) (ps' := []) (by rw [HE.out.1]) (by simp [sendL, HE.out.1]) rfl).mine st (by decide)
              clear hp nt st
              go_wp2_with fail
              refine (deliver_any gn _ _ 0 _ _ nt3).mono ?_
              intro e w4 hp
              obtain ⟨rfl, own4, nt4, p4⟩ := (hp.is (r' := .tuple #[.agg #[.int .i64 0, .int .i64 0, .string ⟨#[]⟩], .int .i64 4]) (ps' := []) (by simp [delP, delE, at?, Pkt.agg, pkt0]) rfl rfl).mine p3.st (by decide)
              have nt4' := nt4.alloc (.cells #[.int .i64 0, .int .i64 0, .string ⟨#[]⟩] 34)
              have hst2 : Hid (∀ n, RelS w gn (maskOf mask) ((w4.alloc (.cells #[.int .i64 0, .int .i64 0, .string ⟨#[]⟩] 34)).drewN n)) := fun n => ⟨own4, (p4.st.alloc _).drewN n, nt4'.drewN n⟩
              have hc1 := nt4'.c1
              clear hp nt3 p3 p4 nt4 nt4'
              go_wp2_with fail
              refine (hear_is gn _ _ _ false _ hc1 HE.out.2).mono ?_
              rintro e w5 ⟨rfl, n, rfl⟩
              clear hc1
              go_wp2_with fail
              go_roundw
              case rel => exact ⟨b + 1, by omega, by go_num, hst2.out _⟩
              case measure => simp [intOf]; omega
        · have hz2 : ¬ (b : Int) < 16 := by omega
          have hst2 : Hid (RelS w gn (maskOf mask) wr) := ⟨own, st, nt⟩
          clear st nt
          go_wp2_with fail
          go_roundw
          case rel => exact ⟨a + 1, by omega, by go_num, hst2.out⟩
          case measure => simp [intOf]; omega
    · have hz : ¬ (a : Int) < 16 := by omega
      obtain ⟨wo, rfl⟩ : ∃ w', w' = wr := ⟨_, rfl⟩
      go_wp2_with fail
      refine (heal_any gn [] _ _ _ nt).mono ?_
      intro e w3 hp
      obtain ⟨rfl, own3, nt3, p3⟩ := hp.mine st (by decide)
      have hst3 : Hid (RelT w gn 0 w3) := ⟨own3, [], p3.st, nt3, rfl⟩
      clear hp nt nt3 p3 st hst
      obtain ⟨m, rfl⟩ := Int.eq_ofNat_of_zero_le more0
      go_wp2_with fail
      go_loopw [15] (fun i wr => ∃ k : Nat, k ≤ m ∧ i = .int .i64 k ∧ RelT w gn k wr) (fun i _ => m - (intOf i).toNat)
      case atStart => exact ⟨0, Nat.zero_le _, rfl, hst3.out⟩
      case round =>
        obtain ⟨k, hk, rfl, own, ps, st, nt, hps⟩ := hrel
        by_cases hkm : k < m
        · have hz3 : (k : Int) < (m : Int) := by omega
          have HP := Lib.hid hps
          clear hps
          by_cases h500 : k < 500
          · have hd : decide ((k : Int) < 500) = true := by simp; omega
            have HE := Lib.hid (tail_send ps k (.inl ⟨h500, HP.out⟩))
            go_wp2_with fail
            refine (send_any gn ps 0 _ _ _ _ _ nt).mono ?_
            intro e w4 hp
            obtain ⟨rfl, own4, nt4, p4⟩ := (hp.is (r' := .int .i64 0) (by rw [HE.out, if_pos h500]) rfl rfl).mine st (by decide)
            have hnx : Hid (RelT w gn (k + 1) w4) := ⟨own4, _, p4.st, nt4, tail_len (HE.out) HP.out⟩
            clear hp nt nt4 p4 st
            go_wp2_with fail
            go_roundw
            case rel => exact ⟨k + 1, by omega, by go_num, hnx.out⟩
            case measure => simp [intOf]; omega
          · have hd : decide ((k : Int) < 500) = false := by simp; omega
            have HE := Lib.hid (tail_send ps k (.inr ⟨h500, HP.out⟩))
            go_wp2_with fail
            refine (send_any gn ps 0 _ _ _ _ _ nt).mono ?_
            intro e w4 hp
            obtain ⟨rfl, own4, nt4, p4⟩ := (hp.is (r' := .int .i64 6) (by rw [HE.out, if_neg h500]) rfl rfl).mine st (by decide)
            have hnx : Hid (RelT w gn (k + 1) w4) := ⟨own4, _, p4.st, nt4, tail_len (HE.out) HP.out⟩
            clear hp nt nt4 p4 st
            go_wp2_with fail
            go_roundw
            case rel => exact ⟨k + 1, by omega, by go_num, hnx.out⟩
            case measure => simp [intOf]; omega
        · have hz3 : ¬ (k : Int) < (m : Int) := by omega
          obtain rfl : k = m := by omega
          have HP := Lib.hid hps
          clear hps
          by_cases h500 : k < 500
          · have hd : decide ((k : Int) < 500) = true := by simp; omega
            have hcnt : ((ps.length : Int) == (k : Int)) = true := by have := HP.out; simp; omega
            go_wp2_with fail
            refine (count_any gn _ _ _ _ nt).mono ?_
            rintro e wx ⟨rfl, rfl⟩
            · go_wp2_with fail
              refine (send_any gn _ 0 _ _ _ _ _ nt).mono ?_
              intro e w4 hp
              obtain ⟨rfl, own4, nt4, p4⟩ := (hp.is (r' := .int .i64 1) rfl rfl rfl).mine st (by decide)
              clear hp nt st
              go_wp2_with fail
              refine (send_any gn _ 0 _ _ _ _ _ nt4).mono ?_
              intro e w5 hp
              obtain ⟨rfl, own5, nt5, p5⟩ := (hp.is (r' := .int .i64 1) rfl rfl rfl).mine p4.st (by decide)
              have hfin := Lib.hid p5.st.fr
              clear hp nt4 nt5 p4 p5
              go_wp2_with fail
              go_ret
              exact ⟨rfl, hfin.out⟩
          · have hd : decide ((k : Int) < 500) = false := by simp; omega
            by_cases h5 : 500 < k
            · have h5' : (500 : Int) < (k : Int) := by omega
              have hcnt : ((ps.length : Int) == 500) = true := by have := HP.out; simp; omega
              have hcnt2 : (ps.length : Int) = 500 := by have := HP.out; omega
              go_wp2_with fail
              refine (count_any gn _ _ _ _ nt).mono ?_
              rintro e wx ⟨rfl, rfl⟩
              · go_wp2_with fail
                refine (double_any gn ps 0 3 _ _ nt).mono ?_
                intro e w3b hp
                obtain ⟨h6, hL⟩ := dbl_full ps (by have := HP.out; omega)
                obtain ⟨rfl, own3b, nt3b, p3b⟩ := (hp.is (r' := .int .i64 6) (ps' := ps) (by rw [h6]) hL rfl).mine st (by decide)
                clear hp nt st h6 hL
                go_wp2_with fail
                refine (send_any gn _ 0 _ _ _ _ _ nt3b).mono ?_
                intro e w4 hp
                obtain ⟨rfl, own4, nt4, p4⟩ := (hp.is (r' := .int .i64 1) rfl rfl rfl).mine p3b.st (by decide)
                clear hp nt3b p3b
                go_wp2_with fail
                refine (send_any gn _ 0 _ _ _ _ _ nt4).mono ?_
                intro e w5 hp
                obtain ⟨rfl, own5, nt5, p5⟩ := (hp.is (r' := .int .i64 1) rfl rfl rfl).mine p4.st (by decide)
                have hfin := Lib.hid p5.st.fr
                clear hp nt4 nt5 p4 p5
                go_wp2_with fail
                go_ret
                exact ⟨rfl, hfin.out⟩

            · have h5' : ¬ (500 : Int) < (k : Int) := by omega
              have hcnt : ((ps.length : Int) == (k : Int)) = true := by have := HP.out; simp; omega
              go_wp2_with fail
              refine (count_any gn _ _ _ _ nt).mono ?_
              rintro e wx ⟨rfl, rfl⟩
              · go_wp2_with fail
                refine (double_any gn ps 0 3 _ _ nt).mono ?_
                intro e w3b hp
                obtain ⟨h6, hL⟩ := dbl_full ps (by have := HP.out; omega)
                obtain ⟨rfl, own3b, nt3b, p3b⟩ := (hp.is (r' := .int .i64 6) (ps' := ps) (by rw [h6]) hL rfl).mine st (by decide)
                clear hp nt st h6 hL
                go_wp2_with fail
                refine (send_any gn _ 0 _ _ _ _ _ nt3b).mono ?_
                intro e w4 hp
                obtain ⟨rfl, own4, nt4, p4⟩ := (hp.is (r' := .int .i64 1) rfl rfl rfl).mine p3b.st (by decide)
                clear hp nt3b p3b
                go_wp2_with fail
                refine (send_any gn _ 0 _ _ _ _ _ nt4).mono ?_
                intro e w5 hp
                obtain ⟨rfl, own5, nt5, p5⟩ := (hp.is (r' := .int .i64 1) rfl rfl rfl).mine p4.st (by decide)
                have hfin := Lib.hid p5.st.fr
                clear hp nt4 nt5 p4 p5
                go_wp2_with fail
                go_ret
                exact ⟨rfl, hfin.out⟩

end Go.Proofs.Ytbkloadgbicbeaa
