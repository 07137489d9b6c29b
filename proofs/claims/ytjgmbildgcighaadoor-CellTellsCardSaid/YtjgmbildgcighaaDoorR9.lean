import Derived.Test.YtjgmbildgcighaaDoorR8
namespace Go.Proofs.YtjgmbildgcighaaDoor
open Go.RowKit
theorem rcrash_down (d : DS) (ks : List Int) : (crashD d ks).down = true := by
  unfold crashD
  cases h : d.down
  · rfl
  · rw [if_pos rfl]; exact h
theorem may_crash (d : DS) (ks : List Int) (f : Int) : mayE (crashD d ks) f = 9 := by unfold mayE; rw [rcrash_down]; rfl
theorem write_r1 {d : DS} {ks : List Int} {f a : Int} {s : ByteArray} (h : ¬ mayE (comesR d ks f a s) f = 0) : writeE d f a s = mayE (comesR d ks f a s) f ∧ writeD d ks f a s = comesR d ks f a s := by
  unfold comesR at h ⊢
  unfold writeE writeD
  cases hb : endsB d
  · rw [hb] at h
    simp only [Bool.false_eq_true, if_false] at h ⊢
    exact wrE_may h
  · simp only [if_true]
    exact ⟨(may_crash _ _ _).symm, trivial⟩
theorem write_r2 {d : DS} {ks : List Int} {f a : Int} {s : ByteArray} (h : mayE (comesR d ks f a s) f = 0) : writeE d f a s = wrE (comesR d ks f a s) f a s ∧ writeD d ks f a s = wrD (comesR d ks f a s) f a s := by
  unfold comesR at h ⊢
  unfold writeE writeD
  cases hb : endsB d
  · simp only [Bool.false_eq_true, if_false]
    exact ⟨trivial, trivial⟩
  · rw [hb] at h
    simp only [if_true] at h
    rw [may_crash] at h
    exact absurd h (by decide)
theorem fits_full {a : Int} {s : ByteArray} (h : fitsB a s = false) (h0 : 0 ≤ a) : 16777216 < a ∨ 16777216 - a < s.size := by
  simp [fitsB] at h
  omega
set_option maxRecDepth 100000 in
set_option maxHeartbeats 1600000 in
theorem rwrite_any (g : Nat) (d : DS) (A : Option Addr) (c : Nat) (ks : List Int) (f a : Int) (s : ByteArray) (hs : s.size ≤ 1000000000) (w : World) (F : Nat → Prop) (h : RefAt w F g (.slice A ks.length c) d) (hk : KeepAt w F A ks) (hb : ks.length ≤ 1000000) :
    Calls Tryd.prog 12 #[.pointer (some ⟨g, 0, none⟩), .int .i64 f, .int .i64 a, .string s] w (RPost w F g (.int .i64 (writeE d f a s)) (.slice A ks.length c) (writeD d ks f a s)) := by
  have HAt := Lib.hid h
  have HK := Lib.hid hk
  clear h hk
  by_cases hm : mayE (comesR d ks f a s) f = 0
  · have HM := Lib.hid hm
    obtain ⟨e1, e2⟩ := write_r2 hm
    by_cases h0 : a < 0
    · obtain ⟨e3, e4⟩ := wrE_neg (s := s) hm h0
      have HE : Hid (writeE d f a s = 1 ∧ writeD d ks f a s = comesR d ks f a s) := ⟨e1.trans e3, e2.trans e4⟩
      clear hm e1 e2 e3 e4
      go_enter Tryd.func12, Tryd.ntmps12
      go_wp2_with fail
      refine (rcomes_any g d A c ks f a s hs _ F HAt.out HK.out hb).mono ?_
      intro e w1 hp
      have P1 := Lib.hid hp
      obtain ⟨rfl, -, -⟩ := hp
      go_wp2_with fail
      refine (rmay_is g _ _ f 0 _ _ P1.out.2.1 HM.out).mono ?_
      rintro e w3 ⟨rfl, rfl⟩
      go_wp2_with fail
      go_ret
      rw [HE.out.1, HE.out.2]
      exact P1.out.at HAt.out.lt P1.out.2.1 (Fr.refl _ _)
    · cases hfit : fitsB a s
      · obtain ⟨e3, e4⟩ := wrE_full (s := s) hm (by omega) (fits_full hfit (by omega))
        have HE : Hid (writeE d f a s = 6 ∧ writeD d ks f a s = comesR d ks f a s) := ⟨e1.trans e3, e2.trans e4⟩
        have HFT := Lib.hid hfit
        clear hm e1 e2 e3 e4 hfit
        go_enter Tryd.func12, Tryd.ntmps12
        go_wp2_with fail
        refine (rcomes_any g d A c ks f a s hs _ F HAt.out HK.out hb).mono ?_
        intro e w1 hp
        have P1 := Lib.hid hp
        obtain ⟨rfl, -, -⟩ := hp
        go_wp2_with fail
        refine (rmay_is g _ _ f 0 _ _ P1.out.2.1 HM.out).mono ?_
        rintro e w3 ⟨rfl, rfl⟩
        go_wp2_with fail
        refine (fits_is a s false (by omega) _ HFT.out).mono ?_
        rintro e _ ⟨rfl, rfl⟩
        go_wp2_with fail
        go_ret
        rw [HE.out.1, HE.out.2]
        exact P1.out.at HAt.out.lt P1.out.2.1 (Fr.refl _ _)
      · have hft := hfit
        simp only [fitsB, Bool.and_eq_true, decide_eq_true_eq] at hft
        obtain ⟨hdn, hf0, hf1⟩ := mayE_zero hm
        have e3 := wrE_ok (s := s) hm (by omega) (by omega) (by omega : (s.size : Int) ≤ 16777216 - a)
        obtain ⟨k, rfl⟩ : ∃ k : Nat, a = k := ⟨a.toNat, by omega⟩
        have HE : Hid (writeE d f k s = 0 ∧ writeD d ks f k s = wrD (comesR d ks f k s) f k s) := ⟨e1.trans e3, e2⟩
        have HFT := Lib.hid hfit
        have HDN := Lib.hid hdn
        have hk1 : k ≤ 16777216 := by omega
        have hk2 : k + s.size ≤ 16777216 := by omega
        clear hm e1 e2 e3 hfit hft hdn
        go_enter Tryd.func12, Tryd.ntmps12
        go_wp2_with fail
        refine (rcomes_any g d A c ks f k s hs _ F HAt.out HK.out hb).mono ?_
        intro e w1 hp
        have P1 := Lib.hid hp
        obtain ⟨rfl, -, -⟩ := hp
        obtain ⟨w2, rfl⟩ : ∃ w', w' = w1 := ⟨_, rfl⟩
        go_wp2_with fail
        refine (rmay_is g _ _ f 0 _ _ P1.out.2.1 HM.out).mono ?_
        rintro e w3 ⟨rfl, rfl⟩
        go_wp2_with fail
        refine (fits_is k s true (by omega) _ HFT.out).mono ?_
        rintro e _ ⟨rfl, rfl⟩
        go_wp2_with fail
        refine (radd_any g _ _ f k s _ _ P1.out.2.1 hf0 hf1 hk1 hk2 HDN.out).mono ?_
        intro e w4 hp4
        have hend := Lib.hid (P1.out.then_ hp4 HAt.out.lt)
        obtain ⟨rfl, -, -⟩ := hp4
        go_wp2_with fail
        go_ret
        rw [HE.out.1, HE.out.2]
        exact ⟨rfl, hend.out.2⟩
  · have HE := Lib.hid (write_r1 hm)
    have hm' : (mayE (comesR d ks f a s) f != 0) = true := by simpa using hm
    clear hm
    go_enter Tryd.func12, Tryd.ntmps12
    go_wp2_with fail
    refine (rcomes_any g d A c ks f a s hs _ F HAt.out HK.out hb).mono ?_
    intro e w1 hp
    have P1 := Lib.hid hp
    obtain ⟨rfl, -, -⟩ := hp
    go_wp2_with fail
    refine (rmay_any g _ _ f _ _ P1.out.2.1).mono ?_
    rintro e w3 ⟨rfl, rfl⟩
    go_wp2_with fail
    go_ret
    rw [HE.out.1, HE.out.2]
    exact P1.out.at HAt.out.lt P1.out.2.1 (Fr.refl _ _)
theorem comesR_none (d : DS) (ks : List Int) : comesR d ks 0 0 ⟨#[]⟩ = comesD d ks := by
  unfold comesR comesD
  rw [wrD_none rfl]
theorem rcomes0 (g : Nat) (d : DS) (A : Option Addr) (c : Nat) (ks : List Int) (w : World) (F : Nat → Prop) (h : RefAt w F g (.slice A ks.length c) d) (hk : KeepAt w F A ks) (hb : ks.length ≤ 1000000) :
    Calls Tryd.prog 36 #[.pointer (some ⟨g, 0, none⟩), .int .i64 0, .int .i64 0, .string ⟨#[]⟩] w (RPost w F g (.tuple #[]) (.slice A ks.length c) (comesD d ks)) := by
  rw [← comesR_none]
  exact rcomes_any g d A c ks 0 0 ⟨#[]⟩ (by decide) w F h hk hb
set_option maxRecDepth 100000 in
set_option maxHeartbeats 1600000 in
theorem rsync_any (g : Nat) (d : DS) (A : Option Addr) (c : Nat) (ks : List Int) (f : Int) (w : World) (F : Nat → Prop) (h : RefAt w F g (.slice A ks.length c) d) (hk : KeepAt w F A ks) (hb : ks.length ≤ 1000000) :
    Calls Tryd.prog 45 #[.pointer (some ⟨g, 0, none⟩), .int .i64 f] w (RPost w F g (.int .i64 (syncE d ks f)) (.slice A ks.length c) (syncD d ks f)) := by
  have HAt := Lib.hid h
  have HK := Lib.hid hk
  clear h hk
  have H1 : Hid (Calls Tryd.prog 36 #[.pointer (some ⟨g, 0, none⟩), .int .i64 0, .int .i64 0, .string ⟨#[]⟩] w (RPost w F g (.tuple #[]) (.slice A ks.length c) (comesD d ks))) := rcomes0 g d A c ks w F HAt.out HK.out hb
  by_cases hm : mayE (comesD d ks) f = 0
  · have HM := Lib.hid hm
    by_cases hl : 0 < (comesD d ks).lost
    · have HE : Hid (syncE d ks f = 10 ∧ syncD d ks f = { comesD d ks with lost := (comesD d ks).lost - 1 }) := by simp [Hid, syncE, syncD, syncE1, syncD1, hm, hl]
      clear hm
      generalize comesD d ks = d1 at *
      go_enter Tryd.func45, Tryd.ntmps45
      go_wp2_with fail
      refine H1.out.mono ?_
      intro e w1 hp
      have P1 := Lib.hid hp
      obtain ⟨rfl, ⟨fv, qv, L, hx⟩, -⟩ := hp
      obtain ⟨w2, rfl⟩ : ∃ w', w' = w1 := ⟨_, rfl⟩
      have c2 : w2.cell? ⟨g, 2, none⟩ = some (.int .i64 d1.lost) := hx.blk.cell 2
      have f2 : w2.frozen? ⟨g, 2, none⟩ = false := hx.blk.frozen 2
      obtain ⟨hl0, hl1⟩ := hx.inv.lost
      have hend := Lib.hid (P1.out.at (r' := .int .i64 10) HAt.out.lt (d2 := { d1 with lost := d1.lost - 1 }) ⟨fv, qv, L, hx.set_ (i := 2) (u := .int .i64 (d1.lost - 1)) (kv' := .slice A ks.length c) ⟨hx.inv.nodup, hx.inv.sect, hx.inv.now, hx.inv.last, by show 0 ≤ d1.lost - 1 ∧ d1.lost - 1 ≤ _; omega, hx.inv.armed⟩ rfl rfl rfl⟩ ((Fr.refl _ _).setCell (fun _ => hx.own) _))
      clear hx
      go_wp2_with fail
      refine (rmay_is g _ _ f 0 _ _ P1.out.2.1 HM.out).mono ?_
      rintro e w3 ⟨rfl, rfl⟩
      go_wp2_with fail
      go_ret
      rw [HE.out.1, HE.out.2]
      exact hend.out
    · have HE : Hid (syncE d ks f = 0 ∧ syncD d ks f = settleD (comesD d ks) f ((comesD d ks).fs f).now) := by simp [Hid, syncE, syncD, syncE1, syncD1, hm, hl]
      obtain ⟨-, hf0, hf1⟩ := mayE_zero hm
      clear hm
      generalize comesD d ks = d1 at *
      have hfn := field_rnow f (d1.fs f).now (d1.fs f).last
      go_enter Tryd.func45, Tryd.ntmps45
      go_wp2_with fail
      refine H1.out.mono ?_
      intro e w1 hp
      have P1 := Lib.hid hp
      obtain ⟨rfl, ⟨fv, qv, L, hx⟩, -⟩ := hp
      obtain ⟨w2, rfl⟩ : ∃ w', w' = w1 := ⟨_, rfl⟩
      have c2 : w2.cell? ⟨g, 2, none⟩ = some (.int .i64 d1.lost) := hx.blk.cell 2
      have hsz := hx.inv.now f
      clear hx
      go_wp2_with fail
      refine (rmay_is g _ _ f 0 _ _ P1.out.2.1 HM.out).mono ?_
      rintro e w3 ⟨rfl, rfl⟩
      go_wp2_with fail
      refine (rget_any g _ _ f _ _ P1.out.2.1).mono ?_
      rintro e w4 ⟨rfl, hf4⟩
      have P4 := Lib.hid (P1.out.at (r' := .tuple #[]) HAt.out.lt (P1.out.2.1.keep hf4 fun _ _ h => h) (hf4.mono fun _ _ h => h.elim))
      clear c2 hf4
      go_wp2_with fail
      refine (rsettle_any g _ _ f _ _ _ P4.out.2.1 ⟨hf0, hf1⟩ hsz).mono ?_
      intro e w5 hp5
      have hend := Lib.hid (P4.out.then_ hp5 HAt.out.lt)
      obtain ⟨rfl, -, -⟩ := hp5
      go_wp2_with fail
      go_ret
      rw [HE.out.1, HE.out.2]
      exact ⟨rfl, hend.out.2⟩
  · have HE : Hid (syncE d ks f = mayE (comesD d ks) f ∧ syncD d ks f = comesD d ks) := by simp [Hid, syncE, syncD, syncE1, syncD1, hm]
    have hm' : (mayE (comesD d ks) f != 0) = true := by simpa using hm
    clear hm
    go_enter Tryd.func45, Tryd.ntmps45
    go_wp2_with fail
    refine H1.out.mono ?_
    intro e w1 hp
    have P1 := Lib.hid hp
    obtain ⟨rfl, -, -⟩ := hp
    go_wp2_with fail
    refine (rmay_any g _ _ f _ _ P1.out.2.1).mono ?_
    rintro e w3 ⟨rfl, rfl⟩
    go_wp2_with fail
    go_ret
    rw [HE.out.1, HE.out.2]
    exact P1.out.at HAt.out.lt P1.out.2.1 (Fr.refl _ _)
end Go.Proofs.YtjgmbildgcighaaDoor
