import Derived.Test.YtjgmbildgcighaaP6
namespace Go.Proofs.Ytjgmbildgcighaa
open Go.RowKit

set_option maxRecDepth 100000 in
set_option maxHeartbeats 3200000 in
theorem same_any (g1 g2 : Nat) (d c : DS) (ks ks2 : List Int) (A : Option Addr) (cp : Nat) (acts : List ActV) (W w : World) (own : Nat → Nat) (hd : DO w own 1 g1 d ks) (hc : DO w own 2 g2 c ks2) (hs : St W w own) (h : ActsAt W A acts) (hl : Like d c) (hm : acts.length ≤ 40) :
    Calls Try.prog 28 #[.pointer (some ⟨g1, 0, none⟩), .pointer (some ⟨g2, 0, none⟩), .slice A acts.length cp] w fun e w' => e = .returned (.bool true) ∧ ∃ n, w' = w.drewN n := by
  have HD := Lib.hid hd
  have HC := Lib.hid hc
  have HS := Lib.hid hs
  have H := Lib.hid h
  have HL := Lib.hid hl
  have hdn := hl.down
  clear hd hc hs h hl
  go_enter Try.func28, Try.ntmps28
  go_wp2_with fail
  refine (o_down HD.out).mono ?_
  rintro e _ ⟨rfl, rfl⟩
  go_wp2_with fail
  refine (o_down HC.out).mono ?_
  rintro e _ ⟨rfl, rfl⟩
  have hbb : (c.down != c.down) = false := by simp
  go_wp2_with fail
  go_loopw [7] (fun i wr => ∃ k : Nat, k ≤ acts.length ∧ i = .int .i64 k ∧ ∃ n, wr = w.drewN n) (fun i _ => acts.length - (intOf i).toNat)
  case atStart => exact ⟨0, Nat.zero_le _, rfl, 0, rfl⟩
  case round =>
    obtain ⟨k, hk, rfl, n, hn⟩ := hrel
    have HN := Lib.hid hn
    have HSn : Hid (St W wr own) := by show St W wr own; rw [hn]; exact HS.out.drewN n
    have HDn : Hid (DO wr own 1 g1 d ks) := by show DO wr own 1 g1 d ks; rw [hn]; exact HD.out.drewN n
    have HCn : Hid (DO wr own 2 g2 c ks2) := by show DO wr own 2 g2 c ks2; rw [hn]; exact HC.out.drewN n
    clear hn HS HD HC
    by_cases hlt : k < acts.length
    · obtain ⟨a, ha⟩ : ∃ a, acts[k]? = some a := ⟨_, List.getElem?_eq_getElem hlt⟩
      obtain ⟨b, o, rfl, hb, c1, cf, c3, c4, c5⟩ := H.out.at HSn.out ha
      have hz : (k : Int) < (acts.length : Int) := by omega
      obtain ⟨r1, r2⟩ := HL.out.read a.f 0 16777216
      have r3 : (d.fs a.f).now.size = (c.fs a.f).now.size := by rw [HL.out.fs]
      clear ha hb c1 c3 c4 c5 hbb hdn
      go_wp2_with fail
      refine (o_read HDn.out a.f 0 16777216).mono ?_
      rintro e _ ⟨rfl, rfl⟩
      rw [r1, r2]
      go_wp2_with fail
      refine (o_read HCn.out a.f 0 16777216).mono ?_
      rintro e _ ⟨rfl, rfl⟩
      generalize readS c a.f 0 16777216 = s at *
      generalize readE c a.f 0 16777216 = x at *
      have b2 : (x != x) = false := by simp
      have b3 : ((((c.fs a.f).now.size : Nat) : Int) != (((c.fs a.f).now.size : Nat) : Int)) = false := by simp
      clear r1 r2
      go_wp2_with fail
      go_quiet (first | (go_at_call_of 16 (Value.pointer (some ⟨g1, 0, none⟩)); exact Calls.quiet_of_same ((o_size (HDn.out.drewN _) a.f).mono fun _ _ h => ⟨h.1, h.2.symm⟩)) | (go_at_call_of 16 (Value.pointer (some ⟨g2, 0, none⟩)); exact Calls.quiet_of_same ((o_size (HCn.out.drewN _) a.f).mono fun _ _ h => ⟨h.1, h.2.symm⟩)))
      go_wp2_with fail
      go_roundw
      case rel => exact ⟨k + 1, by omega, by go_num, n + nq, by rw [HN.out]; exact World.drewN_drewN _ _ _⟩
      case measure => simp [intOf]; omega
    · have hz : ¬ (k : Int) < (acts.length : Int) := by omega
      go_wp2_with fail
      go_ret
      exact ⟨rfl, n, HN.out⟩
/-- The state in the loop of DiskArms. -/
def ArRel (W : World) (g1 g2 : Nat) (keep : List Int) (n m : Int) (wr : World) : Prop :=
  ∃ own d c, DO wr own 1 g1 d keep ∧ DO wr own 2 g2 c [] ∧ St W wr own ∧ ((m < n ∧ Ahead d c (n - m)) ∨ (n ≤ m ∧ Behind d c))
theorem kind_lt (a : ActV) : 0 ≤ kindA a ∧ kindA a < 8 := by
  have : kindA a = a.d % 8 := and_low a.d 3 (by decide)
  omega
set_option maxRecDepth 100000 in
set_option maxHeartbeats 6400000 in
theorem arms_walk (A : Option Addr) (c : Nat) (acts : List ActV) (n : Int) (A2 : Option Addr) (c2 : Nat) (keep : List Int) (W : World) (h : ActsAt W A acts) (hm : acts.length ≤ 9223372036854775807) (hk : KeepB W A2 keep) (hm2 : keep.length ≤ 9223372036854775807) :
    Calls Try.prog 6 #[.slice A acts.length c, .int .i64 n, .slice A2 keep.length c2] W fun e w' => e = .returned (.bool true) ∧ Below W.heap.size W w' := by
  have H := Lib.hid h
  have HK := Lib.hid hk
  clear h hk
  go_enter Try.func6, Try.ntmps6
  go_wp2_with fail
  refine (small_any W).mono ?_
  rintro e w1 ⟨rfl, hb⟩
  have s1 : St W w1 (fun _ => 0) := ⟨fun _ _ => rfl, fun _ _ => rfl, hb⟩
  clear hb
  go_wp2_with fail
  cases hfew : fewB acts with
  | false =>
    refine (few_is false A c acts W w1 _ H.out s1 hm hfew).mono ?_
    rintro e _ ⟨rfl, rfl⟩
    go_wp2_with fail
    go_ret
    exact ⟨rfl, s1.fr⟩
  | true =>
  refine (few_is true A c acts W w1 _ H.out s1 hm hfew).mono ?_
  rintro e _ ⟨rfl, rfl⟩
  by_cases h3 : (60 : Int) < (keep.length : Int)
  · go_wp2_with fail
    go_ret
    exact ⟨rfl, s1.fr⟩
  by_cases hn1 : n < 1
  · go_wp2_with fail
    go_ret
    exact ⟨rfl, s1.fr⟩
  by_cases hn2 : 60 < n
  · go_wp2_with fail
    go_ret
    exact ⟨rfl, s1.fr⟩
  have HF := Lib.hid (few_ok hfew)
  have hl40 := (few_ok hfew).2
  clear hfew
  go_wp2_with fail
  refine (o_new (i := 1) s1 (by decide)).mono ?_
  rintro e w2 ⟨g1, rfl, o2, d2, p2⟩
  go_wp2_with fail
  refine (o_new (i := 2) p2.st (by decide)).mono ?_
  rintro e w3 ⟨g2, rfl, o3, c3, p3⟩
  have d3 := d2.other p3 (by decide) (by decide) (by decide)
  clear d2 p2 s1
  go_wp2_with fail
  refine (o_arm d3 p3.st (by decide) n (by omega) A2 c2 (HK.out.at p3.st) (by omega)).mono ?_
  rintro e w4 ⟨rfl, o4, d4, p4⟩
  have c4 := c3.other p4 (by decide) (by decide) (by decide)
  have hst : Hid (ArRel W g1 g2 keep n 0 w4) := by
    refine ⟨o4, _, _, d4, c4, p4.st, .inl ⟨by omega, ?_, rfl, rfl, by omega⟩⟩
    unfold armD arm1
    rw [show max n 0 = n - 0 by omega]
  clear d3 p3 c3 d4 c4 p4
  go_wp2_with fail
  go_loopw [10, 11] (fun x i wr => ∃ k : Nat, k ≤ acts.length ∧ i = .int .i64 k ∧ ∃ m : Int, 0 ≤ m ∧ m ≤ k ∧ x = .int .i64 m ∧ ArRel W g1 g2 keep n m wr) (fun x i _ => acts.length - (intOf i).toNat)
  case atStart => exact ⟨0, Nat.zero_le _, rfl, 0, by decide, by decide, rfl, hst.out⟩
  case round =>
    obtain ⟨k, hk, rfl, m, hm0, hmk, rfl, o5, d, c, hd, hc, hs, hR⟩ := hrel
    have HD := Lib.hid hd
    have HC := Lib.hid hc
    have HS := Lib.hid hs
    clear hst hd hc hs
    by_cases hlt : k < acts.length
    · obtain ⟨a, ha⟩ : ∃ a, acts[k]? = some a := ⟨_, List.getElem?_eq_getElem hlt⟩
      obtain ⟨b, o, rfl, hb, c1, cf, c3, c4, c5⟩ := H.out.at HS.out ha
      obtain ⟨-, hkb, hn⟩ := H.out k a ha
      have hkl := (HF.out.1 a (List.mem_of_getElem? ha)).2.1
      have hz : (k : Int) < (acts.length : Int) := by omega
      have HKB := Lib.hid hkb
      have HA := Lib.hid ha
      have hkd : bits .and .i64 a.d 7 = kindA a := rfl
      obtain ⟨hk0, hk8⟩ := kind_lt a
      clear ha hkb hb
      by_cases h4 : 4 < kindA a
      · go_wp2_with fail
        go_ret
        exact ⟨rfl, HS.out.fr⟩
      have hks : ∀ ks, actK ks a = ks := fun ks => by unfold actK; rw [if_neg (by omega)]
      have hdo : Hid (Calls Try.prog 12 #[.pointer (some ⟨g1, 0, none⟩), .agg #[.int .i64 a.d, .int .i64 a.f, .int .i64 a.n, .string a.s, .slice a.kA a.k.length a.kc]] wr (Res W wr o5 1 g1 (.int .i64 (actE d keep a)) (actD d keep a) keep)) := by
        have := do_any g1 1 d keep a W wr o5 HD.out HS.out (by decide) HKB.out hkl hn
        rw [hks] at this
        exact this
      have hdo2 : Hid (∀ wx ox cx, DO wx ox 2 g2 cx [] → St W wx ox → Calls Try.prog 12 #[.pointer (some ⟨g2, 0, none⟩), .agg #[.int .i64 a.d, .int .i64 a.f, .int .i64 a.n, .string a.s, .slice a.kA a.k.length a.kc]] wx (Res W wx ox 2 g2 (.int .i64 (actE cx [] a)) (actD cx [] a) [])) := by
        intro wx ox cx h1 h2
        have := do_any g2 2 cx [] a W wx ox h1 h2 (by decide) HKB.out hkl hn
        rw [hks] at this
        exact this
      clear hks
      rcases hR with ⟨hmn, hA⟩ | ⟨hmn, hB⟩
      · by_cases hk4 : kindA a < 4
        · have hC4 : (kindA a == 4) = false := by simp; omega
          by_cases hl : m + 1 < n
          · obtain ⟨x1, x2⟩ := hA.act keep a ⟨hk0, hk4⟩ (by omega)
            rw [show n - m - 1 = n - (m + 1) by omega] at x2
            have X := Lib.hid x2
            have X1 := Lib.hid x1
            clear hA x1 x2
            go_wp2_with fail
            refine hdo.out.mono ?_
            rintro e w5 ⟨rfl, o6, d6, p6⟩
            rw [X1.out]
            have c6 := HC.out.other p6 (by decide) (by decide) (by decide)
            obtain ⟨b', o', hbo, hb', c1', cf', c3', c4', c5'⟩ := H.out.at p6.st HA.out
            obtain ⟨rfl, rfl⟩ : b' = b ∧ o' = o := by simp at hbo; exact ⟨hbo.1.symm, hbo.2.symm⟩
            clear c1 cf c3 c4 c5 hbo hb' HC HD HS hdo
            go_wp2_with fail
            refine (hdo2.out _ _ _ c6 p6.st).mono ?_
            rintro e w7 ⟨rfl, o7, c7, p7⟩
            have d7 := d6.other p7 (by decide) (by decide) (by decide)
            have hend : Hid (ArRel W g1 g2 keep n (m + 1) w7) := ⟨o7, _, _, d7, c7, p7.st, .inl ⟨hl, X.out⟩⟩
            clear d6 c6 p6 c7 d7 p7 c1' cf' c3' c4' c5' hdo2 X X1
            generalize actE c [] a = x
            have hx : (x != x) = false := by simp
            go_wp2_with fail
            go_roundw
            case rel => exact ⟨k + 1, by omega, by go_num, m + 1, by omega, by omega, rfl, hend.out⟩
            case measure => simp [intOf]; omega
          · obtain rfl : n = m + 1 := by omega
            rw [show m + 1 - m = 1 by omega] at hA
            have hee : (m + 1 == m + 1) = true := by simp
            by_cases hk2 : kindA a < 2
            · obtain ⟨x1, x2⟩ := hA.lastW keep a ⟨hk0, hk2⟩
              have X := Lib.hid x2
              have X1 := Lib.hid x1
              clear hA x1 x2
              go_wp2_with fail
              refine hdo.out.mono ?_
              rintro e w5 ⟨rfl, o6, d6, p6⟩
              rw [X1.out]
              have c6 := HC.out.other p6 (by decide) (by decide) (by decide)
              obtain ⟨b', o', hbo, hb', c1', cf', c3', c4', c5'⟩ := H.out.at p6.st HA.out
              obtain ⟨rfl, rfl⟩ : b' = b ∧ o' = o := by simp at hbo; exact ⟨hbo.1.symm, hbo.2.symm⟩
              clear c1 cf c3 c4 c5 hbo hb' HC HD HS hdo
              go_wp2_with fail
              refine (hdo2.out _ _ _ c6 p6.st).mono ?_
              rintro e w7 ⟨rfl, o7, c7, p7⟩
              have d7 := d6.other p7 (by decide) (by decide) (by decide)
              clear d6 c6 p6 c1' cf' c3' c4' c5' hdo2
              go_wp2_with fail
              refine (o_crash (ks' := keep) c7 p7.st (by decide) A2 c2 (HK.out.at p7.st) (by omega)).mono ?_
              rintro e w8 ⟨rfl, o8, c8, p8⟩
              have d8 := d7.other p8 (by decide) (by decide) (by decide)
              have hend : Hid (ArRel W g1 g2 keep (m + 1) (m + 1) w8) := ⟨o8, _, _, d8, c8, p8.st, .inr ⟨Int.le_refl _, X.out⟩⟩
              have D8 := Lib.hid d8
              clear c7 d7 p7 d8 c8 p8
              go_wp2_with fail
              refine (o_down D8.out).mono ?_
              rintro e _ ⟨rfl, rfl⟩
              rw [X.out.dd]
              clear X X1 D8
              go_wp2_with fail
              go_roundw
              case rel => exact ⟨k + 1, by omega, by go_num, m + 1, by omega, by omega, rfl, hend.out⟩
              case measure => simp [intOf]; omega
            · obtain ⟨x1, x2⟩ := hA.last keep a (by omega)
              have X := Lib.hid x2
              have X1 := Lib.hid x1
              clear hA x1 x2
              go_wp2_with fail
              refine hdo.out.mono ?_
              rintro e w5 ⟨rfl, o6, d6, p6⟩
              rw [X1.out]
              have c6 := HC.out.other p6 (by decide) (by decide) (by decide)
              clear c1 cf c3 c4 c5 HC HD HS hdo hdo2
              go_wp2_with fail
              refine (o_crash (ks' := keep) c6 p6.st (by decide) A2 c2 (HK.out.at p6.st) (by omega)).mono ?_
              rintro e w8 ⟨rfl, o8, c8, p8⟩
              have d8 := d6.other p8 (by decide) (by decide) (by decide)
              have hend : Hid (ArRel W g1 g2 keep (m + 1) (m + 1) w8) := ⟨o8, _, _, d8, c8, p8.st, .inr ⟨Int.le_refl _, X.out⟩⟩
              have D8 := Lib.hid d8
              clear c6 d6 p6 d8 c8 p8
              go_wp2_with fail
              refine (o_down D8.out).mono ?_
              rintro e _ ⟨rfl, rfl⟩
              rw [X.out.dd]
              clear X X1 D8
              go_wp2_with fail
              go_roundw
              case rel => exact ⟨k + 1, by omega, by go_num, m + 1, by omega, by omega, rfl, hend.out⟩
              case measure => simp [intOf]; omega
        · have hk4' : kindA a = 4 := by omega
          obtain ⟨x1, x2⟩ := hA.lose keep a hk4'
          have X := Lib.hid x2
          have X1 := Lib.hid x1
          clear hA x1 x2
          go_wp2_with fail
          refine hdo.out.mono ?_
          rintro e w5 ⟨rfl, o6, d6, p6⟩
          rw [X1.out]
          have c6 := HC.out.other p6 (by decide) (by decide) (by decide)
          obtain ⟨b', o', hbo, hb', c1', cf', c3', c4', c5'⟩ := H.out.at p6.st HA.out
          obtain ⟨rfl, rfl⟩ : b' = b ∧ o' = o := by simp at hbo; exact ⟨hbo.1.symm, hbo.2.symm⟩
          clear c1 cf c3 c4 c5 hbo hb' HC HD HS hdo
          go_wp2_with fail
          refine (hdo2.out _ _ _ c6 p6.st).mono ?_
          rintro e w7 ⟨rfl, o7, c7, p7⟩
          have d7 := d6.other p7 (by decide) (by decide) (by decide)
          have hend : Hid (ArRel W g1 g2 keep n m w7) := ⟨o7, _, _, d7, c7, p7.st, .inl ⟨hmn, X.out⟩⟩
          clear d6 c6 p6 c7 d7 p7 c1' cf' c3' c4' c5' hdo2 X X1
          generalize actE c [] a = x
          have hx : (x != x) = false := by simp
          go_wp2_with fail
          go_roundw
          case rel => exact ⟨k + 1, by omega, by go_num, m, by omega, by omega, rfl, hend.out⟩
          case measure => simp [intOf]; omega
      · by_cases hk4 : kindA a < 4
        · have hC4 : (kindA a == 4) = false := by simp; omega
          have hne : (m + 1 == n) = false := by simp; omega
          have hnl : ¬ m + 1 < n := by omega
          obtain ⟨x1, x2⟩ := hB.act keep a ⟨hk0, hk4⟩
          have X := Lib.hid x2
          have X1 := Lib.hid x1
          clear hB x1 x2
          go_wp2_with fail
          refine hdo.out.mono ?_
          rintro e w5 ⟨rfl, o6, d6, p6⟩
          rw [X1.out]
          have c6 := HC.out.other p6 (by decide) (by decide) (by decide)
          have hend : Hid (ArRel W g1 g2 keep n (m + 1) w5) := ⟨o6, _, _, d6, c6, p6.st, .inr ⟨by omega, X.out⟩⟩
          have D6 := Lib.hid d6
          clear c1 cf c3 c4 c5 HC HD HS hdo hdo2 d6 c6 p6
          go_wp2_with fail
          refine (o_down D6.out).mono ?_
          rintro e _ ⟨rfl, rfl⟩
          rw [X.out.dd]
          clear X X1 D6
          go_wp2_with fail
          go_roundw
          case rel => exact ⟨k + 1, by omega, by go_num, m + 1, by omega, by omega, rfl, hend.out⟩
          case measure => simp [intOf]; omega
        · have hk4' : kindA a = 4 := by omega
          have x2 := hB.lose keep a hk4'
          have X := Lib.hid x2
          have hnl : ¬ m < n := by omega
          clear hB x2
          by_cases hmn2 : m = n
          · subst hmn2
            have hee : (m == m) = true := by simp
            go_wp2_with fail
            refine hdo.out.mono ?_
            rintro e w5 ⟨rfl, o6, d6, p6⟩
            have c6 := HC.out.other p6 (by decide) (by decide) (by decide)
            have hend : Hid (ArRel W g1 g2 keep m m w5) := ⟨o6, _, _, d6, c6, p6.st, .inr ⟨Int.le_refl _, X.out⟩⟩
            have D6 := Lib.hid d6
            clear c1 cf c3 c4 c5 HC HD HS hdo hdo2 d6 c6 p6
            go_wp2_with fail
            refine (o_down D6.out).mono ?_
            rintro e _ ⟨rfl, rfl⟩
            rw [X.out.dd]
            go_wp2_with fail
            refine (o_down D6.out).mono ?_
            rintro e _ ⟨rfl, rfl⟩
            rw [X.out.dd]
            clear X D6
            go_wp2_with fail
            go_roundw
            case rel => exact ⟨k + 1, by omega, by go_num, m, by omega, by omega, rfl, hend.out⟩
            case measure => simp [intOf]; omega
          · have hne : (m == n) = false := by simp; omega
            go_wp2_with fail
            refine hdo.out.mono ?_
            rintro e w5 ⟨rfl, o6, d6, p6⟩
            have c6 := HC.out.other p6 (by decide) (by decide) (by decide)
            have hend : Hid (ArRel W g1 g2 keep n m w5) := ⟨o6, _, _, d6, c6, p6.st, .inr ⟨hmn, X.out⟩⟩
            have D6 := Lib.hid d6
            clear c1 cf c3 c4 c5 HC HD HS hdo hdo2 d6 c6 p6
            go_wp2_with fail
            refine (o_down D6.out).mono ?_
            rintro e _ ⟨rfl, rfl⟩
            rw [X.out.dd]
            clear X D6
            go_wp2_with fail
            go_roundw
            case rel => exact ⟨k + 1, by omega, by go_num, m, by omega, by omega, rfl, hend.out⟩
            case measure => simp [intOf]; omega
    · have hz : ¬ (k : Int) < (acts.length : Int) := by omega
      have hlike : Like d c := by
        rcases hR with ⟨-, h⟩ | ⟨-, h⟩
        · exact h.like
        · exact h.like
      have HL := Lib.hid hlike
      clear hR hlike
      go_wp2_with fail
      refine (same_any g1 g2 d c keep [] A _ acts W wr o5 HD.out HC.out HS.out H.out HL.out hl40).mono ?_
      rintro e w6 ⟨rfl, q, rfl⟩
      have d6 := HD.out.drewN q
      have c6 := HC.out.drewN q
      have s6 := HS.out.drewN q
      clear HD HC HS
      generalize wr.drewN q = wq at *
      go_wp2_with fail
      refine (o_start d6 s6 (by decide)).mono ?_
      rintro e w7 ⟨rfl, o7, d7, p7⟩
      have c7 := c6.other p7 (by decide) (by decide) (by decide)
      clear d6 c6 s6
      go_wp2_with fail
      refine (o_start c7 p7.st (by decide)).mono ?_
      rintro e w8 ⟨rfl, o8, c8, p8⟩
      have d8 := d7.other p8 (by decide) (by decide) (by decide)
      clear d7 c7 p7
      go_wp2_with fail
      refine (same_any g1 g2 _ _ keep [] A _ acts W w8 o8 d8 c8 p8.st H.out HL.out.start hl40).mono ?_
      rintro e w9 ⟨rfl, q2, rfl⟩
      go_wp2_with fail
      go_ret
      exact ⟨rfl, (p8.st.drewN q2).fr⟩
end Go.Proofs.Ytjgmbildgcighaa
