import Derived.Test.YtjgmbildgcighaaD10
namespace Go.Proofs.Ytjgmbildgcighaa
open Go.RowKit
set_option maxRecDepth 100000 in
set_option maxHeartbeats 3200000 in
theorem trunc_any (g : Nat) (d : DS) (A : Option Addr) (c : Nat) (ks : List Int) (f n : Int) (w : World) (F : Nat → Prop) (h : DiskAt w F g (.slice A ks.length c) d) (hk : KeepAt w F A ks) (hb : ks.length ≤ 1000000) :
    Calls Try.prog 30 #[.pointer (some ⟨g, 0, none⟩), .int .i64 f, .int .i64 n] w (DPost w F g (.int .i64 (truncE d ks f n)) (.slice A ks.length c) (truncD d ks f n)) := by
  have HAt := Lib.hid h
  have HK := Lib.hid hk
  cases he : endsB d
  · have HB := Lib.hid he
    have hC := comes_f (ks := ks) he
    clear h hk he
    by_cases hm : mayE (endsD d) f = 0
    · have HM := Lib.hid hm
      by_cases hn : n < 0
      · have HE : Hid (truncE d ks f n = 1 ∧ truncD d ks f n = (endsD d)) := by simp [Hid, truncE, truncD, truncE1, truncD1, hC, hm, hn]
        clear hm hC
        go_enter Try.func30, Try.ntmps30
        go_wp2_with fail
        refine (ends_is g d _ false _ F HAt.out HB.out).mono ?_
        intro e w1 hp
        have PX := Lib.hid hp
        obtain ⟨rfl, -, -⟩ := hp
        obtain ⟨w2, rfl⟩ : ∃ w', w' = w1 := ⟨_, rfl⟩
        have DX := Lib.hid PX.out.2.1
        go_wp2_with fail
        refine (may_is g _ _ f 0 _ _ DX.out HM.out).mono ?_
        rintro e w3 ⟨rfl, rfl⟩
        have hend := Lib.hid (PX.out.at (r' := .int .i64 1) HAt.out.lt DX.out (Fr.refl _ _))
        clear DX PX
        go_wp2_with fail
        go_ret
        rw [HE.out.1, HE.out.2]
        exact hend.out
      · by_cases hl : (((endsD d).fs f).now.size : Int) < n
        · have HE : Hid (truncE d ks f n = 1 ∧ truncD d ks f n = (endsD d)) := by simp [Hid, truncE, truncD, truncE1, truncD1, hC, hm, hl]
          clear hm hC
          go_enter Try.func30, Try.ntmps30
          go_wp2_with fail
          refine (ends_is g d _ false _ F HAt.out HB.out).mono ?_
          intro e w1 hp
          have PX := Lib.hid hp
          obtain ⟨rfl, -, -⟩ := hp
          obtain ⟨w2, rfl⟩ : ∃ w', w' = w1 := ⟨_, rfl⟩
          have DX := Lib.hid PX.out.2.1
          go_wp2_with fail
          refine (may_is g _ _ f 0 _ _ DX.out HM.out).mono ?_
          rintro e w3 ⟨rfl, rfl⟩
          have hend := Lib.hid (PX.out.at (r' := .int .i64 1) HAt.out.lt DX.out (Fr.refl _ _))
          clear PX
          go_wp2_with fail
          refine (size_any g _ _ f _ _ DX.out).mono ?_
          rintro e w3 ⟨rfl, rfl⟩
          clear DX
          go_wp2_with fail
          go_ret
          rw [HE.out.1, HE.out.2]
          exact hend.out
        · obtain ⟨k, rfl⟩ : ∃ k : Nat, n = k := ⟨n.toNat, by omega⟩
          have hE0 : truncE1 (endsD d) f k = 0 := by unfold truncE1; rw [if_pos hm, if_neg (by omega), if_neg hl]
          have HE : Hid (truncE d ks f k = 0 ∧ truncD d ks f k = settleD (endsD d) f (((endsD d).fs f).now.extract 0 k)) := by
            refine ⟨by unfold truncE; rw [hC, hE0], ?_⟩
            unfold truncD truncD1
            rw [hC, if_pos hE0]
            rfl
          have hkl : k ≤ ((endsD d).fs f).now.size := by omega
          clear hm hC hE0
          go_enter Try.func30, Try.ntmps30
          go_wp2_with fail
          refine (ends_is g d _ false _ F HAt.out HB.out).mono ?_
          intro e w1 hp
          have PX := Lib.hid hp
          obtain ⟨rfl, -, -⟩ := hp
          obtain ⟨w2, rfl⟩ : ∃ w', w' = w1 := ⟨_, rfl⟩
          have DX := Lib.hid PX.out.2.1
          go_wp2_with fail
          refine (may_is g _ _ f 0 _ _ DX.out HM.out).mono ?_
          rintro e w3 ⟨rfl, rfl⟩
          obtain ⟨bf, bs, qv, hx⟩ := DX.out
          have c0 : w2.cell? ⟨g, 0, none⟩ = some (.map (some bf)) := hx.blk.cell 0
          have hlk := hx.files.look f
          have hsz : (((endsD d).fs f).now.extract 0 k).size ≤ 16777216 := by rw [size_extract]; have := hx.inv.now f; omega
          unfold fileV at hlk
          have hfn := field_now ((endsD d).fs f).now ((endsD d).fs f).last
          have HSZ := Lib.hid hsz
          clear hx hsz
          go_wp2_with fail
          refine (size_any g _ _ f _ _ DX.out).mono ?_
          rintro e w3 ⟨rfl, rfl⟩
          have hkl' : (k : Int) ≤ (((endsD d).fs f).now.size : Int) := by omega
          go_wp2_with fail
          refine (settle_any g _ _ f _ HSZ.out _ _ DX.out).mono ?_
          intro e w4 hp4
          have hend := Lib.hid (PX.out.then_ hp4 HAt.out.lt)
          obtain ⟨rfl, -, -⟩ := hp4
          clear DX PX c0 hlk hfn
          go_wp2_with fail
          go_ret
          rw [HE.out.1, HE.out.2]
          exact ⟨rfl, hend.out.2⟩
    · have HE : Hid (truncE d ks f n = mayE (endsD d) f ∧ truncD d ks f n = (endsD d)) := by simp [Hid, truncE, truncD, truncE1, truncD1, hC, hm]
      have hm' : (mayE (endsD d) f != 0) = true := by simpa using hm
      clear hm hC
      go_enter Try.func30, Try.ntmps30
      go_wp2_with fail
      refine (ends_is g d _ false _ F HAt.out HB.out).mono ?_
      intro e w1 hp
      have PX := Lib.hid hp
      obtain ⟨rfl, -, -⟩ := hp
      obtain ⟨w2, rfl⟩ : ∃ w', w' = w1 := ⟨_, rfl⟩
      have DX := Lib.hid PX.out.2.1
      go_wp2_with fail
      refine (may_any g _ _ f _ _ DX.out).mono ?_
      rintro e w3 ⟨rfl, rfl⟩
      have hend := Lib.hid (PX.out.at (r' := .int .i64 (mayE (endsD d) f)) HAt.out.lt DX.out (Fr.refl _ _))
      clear DX PX
      go_wp2_with fail
      go_ret
      rw [HE.out.1, HE.out.2]
      exact hend.out
  · have HB := Lib.hid he
    have hC := comes_t (ks := ks) he
    clear h hk he
    by_cases hm : mayE (crashD (endsD d) ks) f = 0
    · have HM := Lib.hid hm
      by_cases hn : n < 0
      · have HE : Hid (truncE d ks f n = 1 ∧ truncD d ks f n = (crashD (endsD d) ks)) := by simp [Hid, truncE, truncD, truncE1, truncD1, hC, hm, hn]
        clear hm hC
        go_enter Try.func30, Try.ntmps30
        go_wp2_with fail
        refine (ends_is g d _ true _ F HAt.out HB.out).mono ?_
        intro e w1 hp
        have P1 := Lib.hid hp
        have K1 := Lib.hid (HK.out.post hp)
        obtain ⟨rfl, hd1, hf1⟩ := hp
        have c6 := hd1.c6
        have D1 := Lib.hid hd1
        clear hd1 hf1
        go_wp2_with fail
        refine (crash_any g _ _ A c ks _ _ D1.out K1.out hb).mono ?_
        intro e w2 hp2
        have PX := Lib.hid (P1.out.then_ hp2 HAt.out.lt)
        obtain ⟨rfl, -, -⟩ := hp2
        clear c6 D1 K1 P1
        have DX := Lib.hid PX.out.2.1
        go_wp2_with fail
        refine (may_is g _ _ f 0 _ _ DX.out HM.out).mono ?_
        rintro e w3 ⟨rfl, rfl⟩
        have hend := Lib.hid (PX.out.at (r' := .int .i64 1) HAt.out.lt DX.out (Fr.refl _ _))
        clear DX PX
        go_wp2_with fail
        go_ret
        rw [HE.out.1, HE.out.2]
        exact hend.out
      · by_cases hl : (((crashD (endsD d) ks).fs f).now.size : Int) < n
        · have HE : Hid (truncE d ks f n = 1 ∧ truncD d ks f n = (crashD (endsD d) ks)) := by simp [Hid, truncE, truncD, truncE1, truncD1, hC, hm, hl]
          clear hm hC
          go_enter Try.func30, Try.ntmps30
          go_wp2_with fail
          refine (ends_is g d _ true _ F HAt.out HB.out).mono ?_
          intro e w1 hp
          have P1 := Lib.hid hp
          have K1 := Lib.hid (HK.out.post hp)
          obtain ⟨rfl, hd1, hf1⟩ := hp
          have c6 := hd1.c6
          have D1 := Lib.hid hd1
          clear hd1 hf1
          go_wp2_with fail
          refine (crash_any g _ _ A c ks _ _ D1.out K1.out hb).mono ?_
          intro e w2 hp2
          have PX := Lib.hid (P1.out.then_ hp2 HAt.out.lt)
          obtain ⟨rfl, -, -⟩ := hp2
          clear c6 D1 K1 P1
          have DX := Lib.hid PX.out.2.1
          go_wp2_with fail
          refine (may_is g _ _ f 0 _ _ DX.out HM.out).mono ?_
          rintro e w3 ⟨rfl, rfl⟩
          have hend := Lib.hid (PX.out.at (r' := .int .i64 1) HAt.out.lt DX.out (Fr.refl _ _))
          clear PX
          go_wp2_with fail
          refine (size_any g _ _ f _ _ DX.out).mono ?_
          rintro e w3 ⟨rfl, rfl⟩
          clear DX
          go_wp2_with fail
          go_ret
          rw [HE.out.1, HE.out.2]
          exact hend.out
        · obtain ⟨k, rfl⟩ : ∃ k : Nat, n = k := ⟨n.toNat, by omega⟩
          have hE0 : truncE1 (crashD (endsD d) ks) f k = 0 := by unfold truncE1; rw [if_pos hm, if_neg (by omega), if_neg hl]
          have HE : Hid (truncE d ks f k = 0 ∧ truncD d ks f k = settleD (crashD (endsD d) ks) f (((crashD (endsD d) ks).fs f).now.extract 0 k)) := by
            refine ⟨by unfold truncE; rw [hC, hE0], ?_⟩
            unfold truncD truncD1
            rw [hC, if_pos hE0]
            rfl
          have hkl : k ≤ ((crashD (endsD d) ks).fs f).now.size := by omega
          clear hm hC hE0
          go_enter Try.func30, Try.ntmps30
          go_wp2_with fail
          refine (ends_is g d _ true _ F HAt.out HB.out).mono ?_
          intro e w1 hp
          have P1 := Lib.hid hp
          have K1 := Lib.hid (HK.out.post hp)
          obtain ⟨rfl, hd1, hf1⟩ := hp
          have c6 := hd1.c6
          have D1 := Lib.hid hd1
          clear hd1 hf1
          go_wp2_with fail
          refine (crash_any g _ _ A c ks _ _ D1.out K1.out hb).mono ?_
          intro e w2 hp2
          have PX := Lib.hid (P1.out.then_ hp2 HAt.out.lt)
          obtain ⟨rfl, -, -⟩ := hp2
          clear c6 D1 K1 P1
          have DX := Lib.hid PX.out.2.1
          go_wp2_with fail
          refine (may_is g _ _ f 0 _ _ DX.out HM.out).mono ?_
          rintro e w3 ⟨rfl, rfl⟩
          obtain ⟨bf, bs, qv, hx⟩ := DX.out
          have c0 : w2.cell? ⟨g, 0, none⟩ = some (.map (some bf)) := hx.blk.cell 0
          have hlk := hx.files.look f
          have hsz : (((crashD (endsD d) ks).fs f).now.extract 0 k).size ≤ 16777216 := by rw [size_extract]; have := hx.inv.now f; omega
          unfold fileV at hlk
          have hfn := field_now ((crashD (endsD d) ks).fs f).now ((crashD (endsD d) ks).fs f).last
          have HSZ := Lib.hid hsz
          clear hx hsz
          go_wp2_with fail
          refine (size_any g _ _ f _ _ DX.out).mono ?_
          rintro e w3 ⟨rfl, rfl⟩
          have hkl' : (k : Int) ≤ (((crashD (endsD d) ks).fs f).now.size : Int) := by omega
          go_wp2_with fail
          refine (settle_any g _ _ f _ HSZ.out _ _ DX.out).mono ?_
          intro e w4 hp4
          have hend := Lib.hid (PX.out.then_ hp4 HAt.out.lt)
          obtain ⟨rfl, -, -⟩ := hp4
          clear DX PX c0 hlk hfn
          go_wp2_with fail
          go_ret
          rw [HE.out.1, HE.out.2]
          exact ⟨rfl, hend.out.2⟩
    · have HE : Hid (truncE d ks f n = mayE (crashD (endsD d) ks) f ∧ truncD d ks f n = (crashD (endsD d) ks)) := by simp [Hid, truncE, truncD, truncE1, truncD1, hC, hm]
      have hm' : (mayE (crashD (endsD d) ks) f != 0) = true := by simpa using hm
      clear hm hC
      go_enter Try.func30, Try.ntmps30
      go_wp2_with fail
      refine (ends_is g d _ true _ F HAt.out HB.out).mono ?_
      intro e w1 hp
      have P1 := Lib.hid hp
      have K1 := Lib.hid (HK.out.post hp)
      obtain ⟨rfl, hd1, hf1⟩ := hp
      have c6 := hd1.c6
      have D1 := Lib.hid hd1
      clear hd1 hf1
      go_wp2_with fail
      refine (crash_any g _ _ A c ks _ _ D1.out K1.out hb).mono ?_
      intro e w2 hp2
      have PX := Lib.hid (P1.out.then_ hp2 HAt.out.lt)
      obtain ⟨rfl, -, -⟩ := hp2
      clear c6 D1 K1 P1
      have DX := Lib.hid PX.out.2.1
      go_wp2_with fail
      refine (may_any g _ _ f _ _ DX.out).mono ?_
      rintro e w3 ⟨rfl, rfl⟩
      have hend := Lib.hid (PX.out.at (r' := .int .i64 (mayE (crashD (endsD d) ks) f)) HAt.out.lt DX.out (Fr.refl _ _))
      clear DX PX
      go_wp2_with fail
      go_ret
      rw [HE.out.1, HE.out.2]
      exact hend.out
end Go.Proofs.Ytjgmbildgcighaa
