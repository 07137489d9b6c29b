import Derived.Test.YtjgmbildgcighaaDoorD2
namespace Go.Proofs.YtjgmbildgcighaaDoor
open Go.RowKit
theorem readE_may {d : DS} {f a n : Int} (h : ¬ mayE d f = 0) : readE d f a n = mayE d f ∧ readS d f a n = ⟨#[]⟩ := by
  have : readE d f a n = mayE d f := by unfold readE; rw [if_neg h]
  exact ⟨this, by unfold readS; rw [if_neg (by rw [this]; exact h)]⟩
theorem readE_arg {d : DS} {f a n : Int} (h : mayE d f = 0) (ha : a < 0 ∨ n < 0) : readE d f a n = 1 ∧ readS d f a n = ⟨#[]⟩ := by
  have : readE d f a n = 1 := by
    unfold readE
    rw [if_pos h]
    by_cases h1 : a < 0
    · rw [if_pos h1]
    · rw [if_neg h1, if_pos (by omega)]
  exact ⟨this, by unfold readS; rw [if_neg (by rw [this]; decide)]⟩
theorem readE_ok {d : DS} {f a n : Int} (h : mayE d f = 0) (ha : 0 ≤ a) (hn : 0 ≤ n) : readE d f a n = 0 := by
  unfold readE
  rw [if_pos h, if_neg (by omega), if_neg (by omega)]
set_option maxRecDepth 100000 in
set_option maxHeartbeats 1600000 in
theorem read_any (g : Nat) (d : DS) (kv : Value) (f a n : Int) (w : World) (F : Nat → Prop) (h : DiskAt w F g kv d) :
    Calls Tryd.prog 31 #[.pointer (some ⟨g, 0, none⟩), .int .i64 f, .int .i64 a, .int .i64 n] w fun e w' => e = .returned (.tuple #[.string (readS d f a n), .int .i64 (readE d f a n)]) ∧ w = w' := by
  have H := Lib.hid h
  by_cases hm : mayE d f = 0
  · have HM := Lib.hid hm
    by_cases harg : a < 0 ∨ n < 0
    · have HE := Lib.hid (readE_arg hm harg)
      clear h hm
      rcases harg with h1 | h1
      · go_enter Tryd.func31, Tryd.ntmps31
        go_wp2_with fail
        refine (may_is g d kv f 0 _ F H.out HM.out).mono ?_
        rintro e w' ⟨rfl, rfl⟩
        go_wp2_with fail
        go_ret2
        exact ⟨by rw [HE.out.1, HE.out.2]; rfl, rfl⟩
      · by_cases h2 : a < 0
        all_goals
          go_enter Tryd.func31, Tryd.ntmps31
          go_wp2_with fail
          refine (may_is g d kv f 0 _ F H.out HM.out).mono ?_
          rintro e w' ⟨rfl, rfl⟩
          go_wp2_with fail
          go_ret2
          exact ⟨by rw [HE.out.1, HE.out.2]; rfl, rfl⟩
    · have h1 : 0 ≤ a := by omega
      have h2 : 0 ≤ n := by omega
      have HE := Lib.hid (readE_ok hm h1 h2)
      obtain ⟨k, rfl⟩ : ∃ k : Nat, a = k := ⟨a.toNat, by omega⟩
      obtain ⟨m, rfl⟩ : ∃ k : Nat, n = k := ⟨n.toNat, by omega⟩
      have HS : Hid (readS d f k m = ((d.fs f).now.extract (min k (d.fs f).now.size) (d.fs f).now.size).extract 0 (min m ((d.fs f).now.extract (min k (d.fs f).now.size) (d.fs f).now.size).size)) := by
        show readS d f k m = _
        unfold readS
        rw [if_pos HE.out]
        have e1 : (min (k : Int) ((d.fs f).now.size : Int)).toNat = min k (d.fs f).now.size := by omega
        dsimp only
        rw [e1]
        congr 1
        omega
      have hsz := H.out.inv.now f
      obtain ⟨bf, bs, qv, h⟩ := h
      have c0 : w.cell? ⟨g, 0, none⟩ = some (.map (some bf)) := h.blk.cell 0
      have hl := h.files.look f
      unfold fileV at hl
      have hfn := field_now (d.fs f).now (d.fs f).last
      clear h hm harg h1 h2
      have h1 : (0 : Int) ≤ (k : Int) := by omega
      have h2 : (0 : Int) ≤ (m : Int) := by omega
      generalize (d.fs f).now = s at *
      by_cases hk : k ≤ s.size
      · rw [Nat.min_eq_left hk] at HS
        have hk' : (k : Int) ≤ (s.size : Int) := by omega
        have hes : (s.extract k s.size).size = s.size - k := by rw [size_extract]; omega
        by_cases hm2 : m ≤ s.size - k
        · rw [hes, Nat.min_eq_left hm2] at HS
          have hm3 : (m : Int) ≤ (s.size : Int) - (k : Int) := by omega
          clear hes
          go_enter Tryd.func31, Tryd.ntmps31
          go_wp2_with fail
          refine (may_is g d kv f 0 _ F H.out HM.out).mono ?_
          rintro e w' ⟨rfl, rfl⟩
          go_wp2_with fail
          go_ret2
          exact ⟨by rw [HS.out, HE.out]; rfl, rfl⟩
        · rw [hes, Nat.min_eq_right (by omega)] at HS
          have hm3 : ¬ (m : Int) ≤ (s.size : Int) - (k : Int) := by omega
          clear hes
          go_enter Tryd.func31, Tryd.ntmps31
          go_wp2_with fail
          refine (may_is g d kv f 0 _ F H.out HM.out).mono ?_
          rintro e w' ⟨rfl, rfl⟩
          go_wp2_with fail
          go_ret2
          exact ⟨by rw [HS.out, HE.out]; rfl, rfl⟩
      · rw [Nat.min_eq_right (by omega)] at HS
        have hk' : ¬ (k : Int) ≤ (s.size : Int) := by omega
        have hes : (s.extract s.size s.size).size = 0 := by rw [size_extract]; omega
        rw [hes, Nat.min_zero, show (s.extract s.size s.size).extract 0 0 = ByteArray.empty from eq_empty (by rw [size_extract]; omega)] at HS
        clear hes
        by_cases hm0 : m = 0
        · subst hm0
          go_enter Tryd.func31, Tryd.ntmps31
          go_wp2_with fail
          refine (may_is g d kv f 0 _ F H.out HM.out).mono ?_
          rintro e w' ⟨rfl, rfl⟩
          go_wp2_with fail
          go_ret2
          exact ⟨by rw [HS.out, HE.out]; rfl, rfl⟩
        · have hm3 : ¬ (m : Int) ≤ 0 := by omega
          go_enter Tryd.func31, Tryd.ntmps31
          go_wp2_with fail
          refine (may_is g d kv f 0 _ F H.out HM.out).mono ?_
          rintro e w' ⟨rfl, rfl⟩
          go_wp2_with fail
          go_ret2
          exact ⟨by rw [HS.out, HE.out]; rfl, rfl⟩
  · have HM := Lib.hid hm
    have HE := Lib.hid (readE_may (a := a) (n := n) hm)
    have hm' : (mayE d f != 0) = true := by simpa using hm
    clear h hm
    go_enter Tryd.func31, Tryd.ntmps31
    go_wp2_with fail
    refine (may_any g d kv f _ F H.out).mono ?_
    rintro e w' ⟨rfl, rfl⟩
    go_wp2_with fail
    go_ret2
    exact ⟨by rw [HE.out.1, HE.out.2]; rfl, rfl⟩
end Go.Proofs.YtjgmbildgcighaaDoor
