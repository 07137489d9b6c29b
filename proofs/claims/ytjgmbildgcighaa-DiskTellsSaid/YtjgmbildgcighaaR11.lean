import Derived.Test.YtjgmbildgcighaaR10
import Derived.Test.YtjgmbildgcighaaL1
namespace Go.Proofs.Ytjgmbildgcighaa
open Go.RowKit
set_option maxRecDepth 100000 in
set_option maxHeartbeats 1600000 in
theorem tell2 (g i : Nat) (d : DS) (ks : List Int) (a : ActV) (W w : World) (own : Nat → Nat) (hd : RO w own i g d ks) (hs : St W w own) (hi : i ≠ 0) (h2 : kindA a = 2) :
    Calls Try.prog 13 #[.pointer (some ⟨g, 0, none⟩), .agg #[.int .i64 a.d, .int .i64 a.f, .int .i64 a.n, .string a.s, .slice a.kA a.k.length a.kc]] w (RRes W w own i g (.int .i64 (syncE d ks a.f)) (syncD d ks a.f) ks) := by
  have k2 : (bits .and .i64 a.d 7 == 2) = true := by simpa [kindA] using h2
  have hd1 := Lib.hid (hd.alloc (.cells #[.int .i64 a.d, .int .i64 a.f, .int .i64 a.n, .string a.s, .slice a.kA a.k.length a.kc] 33))
  have hs1 := Lib.hid (hs.alloc (.cells #[.int .i64 a.d, .int .i64 a.f, .int .i64 a.n, .string a.s, .slice a.kA a.k.length a.kc] 33))
  have HS := Lib.hid hs
  clear hd hs h2
  go_enter Try.func13, Try.ntmps13
  go_wp2_with fail
  refine (r_sync hd1.out hs1.out hi a.f).mono ?_
  rintro e w1 ⟨rfl, own', hD, hP⟩
  have hend : Hid (∀ r, RRes W w own i g r (syncD d ks a.f) ks (.returned r) w1) := fun r => ⟨rfl, own', hD, hP.alloc_left HS.out⟩
  clear hD hP
  go_wp2_with fail
  go_ret
  exact hend.out _
set_option maxRecDepth 100000 in
set_option maxHeartbeats 1600000 in
theorem tell3 (g i : Nat) (d : DS) (ks : List Int) (a : ActV) (W w : World) (own : Nat → Nat) (hd : RO w own i g d ks) (hs : St W w own) (hi : i ≠ 0) (h2 : ¬ kindA a = 2) (h3 : kindA a = 3) :
    Calls Try.prog 13 #[.pointer (some ⟨g, 0, none⟩), .agg #[.int .i64 a.d, .int .i64 a.f, .int .i64 a.n, .string a.s, .slice a.kA a.k.length a.kc]] w (RRes W w own i g (.int .i64 (truncE d ks a.f a.n)) (truncD d ks a.f a.n) ks) := by
  have k2 : (bits .and .i64 a.d 7 == 2) = false := by simpa [kindA] using h2
  have k3 : (bits .and .i64 a.d 7 == 3) = true := by simpa [kindA] using h3
  have hd1 := Lib.hid (hd.alloc (.cells #[.int .i64 a.d, .int .i64 a.f, .int .i64 a.n, .string a.s, .slice a.kA a.k.length a.kc] 33))
  have hs1 := Lib.hid (hs.alloc (.cells #[.int .i64 a.d, .int .i64 a.f, .int .i64 a.n, .string a.s, .slice a.kA a.k.length a.kc] 33))
  have HS := Lib.hid hs
  clear hd hs h2 h3
  go_enter Try.func13, Try.ntmps13
  go_wp2_with fail
  refine (r_trunc hd1.out hs1.out hi a.f a.n).mono ?_
  rintro e w1 ⟨rfl, own', hD, hP⟩
  have hend : Hid (∀ r, RRes W w own i g r (truncD d ks a.f a.n) ks (.returned r) w1) := fun r => ⟨rfl, own', hD, hP.alloc_left HS.out⟩
  clear hD hP
  go_wp2_with fail
  go_ret
  exact hend.out _
set_option maxRecDepth 100000 in
set_option maxHeartbeats 1600000 in
theorem tell4 (g i : Nat) (d : DS) (ks : List Int) (a : ActV) (W w : World) (own : Nat → Nat) (hd : RO w own i g d ks) (hs : St W w own) (hi : i ≠ 0) (h2 : ¬ kindA a = 2) (h3 : ¬ kindA a = 3) (h4 : kindA a = 4) :
    Calls Try.prog 13 #[.pointer (some ⟨g, 0, none⟩), .agg #[.int .i64 a.d, .int .i64 a.f, .int .i64 a.n, .string a.s, .slice a.kA a.k.length a.kc]] w (RRes W w own i g (.int .i64 0) (loseD d (bits .and .i64 a.n 3)) ks) := by
  have k2 : (bits .and .i64 a.d 7 == 2) = false := by simpa [kindA] using h2
  have k3 : (bits .and .i64 a.d 7 == 3) = false := by simpa [kindA] using h3
  have k4 : (bits .and .i64 a.d 7 == 4) = true := by simpa [kindA] using h4
  have hd1 := Lib.hid (hd.alloc (.cells #[.int .i64 a.d, .int .i64 a.f, .int .i64 a.n, .string a.s, .slice a.kA a.k.length a.kc] 33))
  have hs1 := Lib.hid (hs.alloc (.cells #[.int .i64 a.d, .int .i64 a.f, .int .i64 a.n, .string a.s, .slice a.kA a.k.length a.kc] 33))
  have HS := Lib.hid hs
  have hb3 : bits .and .i64 a.n 3 ≤ 9223372036854775807 := by rw [and3]; omega
  clear hd hs h2 h3 h4
  go_enter Try.func13, Try.ntmps13
  go_wp2_with fail
  refine (r_lose hd1.out hs1.out hi _ hb3).mono ?_
  rintro e w1 ⟨rfl, own', hD, hP⟩
  have hend : Hid (∀ r, RRes W w own i g r (loseD d (bits .and .i64 a.n 3)) ks (.returned r) w1) := fun r => ⟨rfl, own', hD, hP.alloc_left HS.out⟩
  clear hD hP
  go_wp2_with fail
  go_ret
  exact hend.out _
set_option maxRecDepth 100000 in
set_option maxHeartbeats 1600000 in
theorem tell5 (g i : Nat) (d : DS) (ks : List Int) (a : ActV) (W w : World) (own : Nat → Nat) (hd : RO w own i g d ks) (hs : St W w own) (hi : i ≠ 0) (hk : KeepB W a.kA a.k) (hkl : a.k.length ≤ 60) (hn : a.n ≤ 9223372036854775807) (h2 : ¬ kindA a = 2) (h3 : ¬ kindA a = 3) (h4 : ¬ kindA a = 4) (h5 : kindA a = 5) :
    Calls Try.prog 13 #[.pointer (some ⟨g, 0, none⟩), .agg #[.int .i64 a.d, .int .i64 a.f, .int .i64 a.n, .string a.s, .slice a.kA a.k.length a.kc]] w (RRes W w own i g (.int .i64 0) (armD d a.n) a.k) := by
  have k2 : (bits .and .i64 a.d 7 == 2) = false := by simpa [kindA] using h2
  have k3 : (bits .and .i64 a.d 7 == 3) = false := by simpa [kindA] using h3
  have k4 : (bits .and .i64 a.d 7 == 4) = false := by simpa [kindA] using h4
  have k5 : (bits .and .i64 a.d 7 == 5) = true := by simpa [kindA] using h5
  have hd1 := Lib.hid (hd.alloc (.cells #[.int .i64 a.d, .int .i64 a.f, .int .i64 a.n, .string a.s, .slice a.kA a.k.length a.kc] 33))
  have hs1 := Lib.hid (hs.alloc (.cells #[.int .i64 a.d, .int .i64 a.f, .int .i64 a.n, .string a.s, .slice a.kA a.k.length a.kc] 33))
  have HS := Lib.hid hs
  have HK := Lib.hid (hk.at hs1.out)
  clear hd hs h2 h3 h4 h5
  go_enter Try.func13, Try.ntmps13
  go_wp2_with fail
  refine (r_arm hd1.out hs1.out hi _ hn _ _ HK.out (by omega)).mono ?_
  rintro e w1 ⟨rfl, own', hD, hP⟩
  have hend : Hid (∀ r, RRes W w own i g r (armD d a.n) a.k (.returned r) w1) := fun r => ⟨rfl, own', hD, hP.alloc_left HS.out⟩
  clear hD hP
  go_wp2_with fail
  go_ret
  exact hend.out _
set_option maxRecDepth 100000 in
set_option maxHeartbeats 1600000 in
theorem tell6 (g i : Nat) (d : DS) (ks : List Int) (a : ActV) (W w : World) (own : Nat → Nat) (hd : RO w own i g d ks) (hs : St W w own) (hi : i ≠ 0) (hk : KeepB W a.kA a.k) (hkl : a.k.length ≤ 60) (h2 : ¬ kindA a = 2) (h3 : ¬ kindA a = 3) (h4 : ¬ kindA a = 4) (h5 : ¬ kindA a = 5) (h6 : kindA a = 6) :
    Calls Try.prog 13 #[.pointer (some ⟨g, 0, none⟩), .agg #[.int .i64 a.d, .int .i64 a.f, .int .i64 a.n, .string a.s, .slice a.kA a.k.length a.kc]] w (RRes W w own i g (.int .i64 0) (crashD d a.k) ks) := by
  have k2 : (bits .and .i64 a.d 7 == 2) = false := by simpa [kindA] using h2
  have k3 : (bits .and .i64 a.d 7 == 3) = false := by simpa [kindA] using h3
  have k4 : (bits .and .i64 a.d 7 == 4) = false := by simpa [kindA] using h4
  have k5 : (bits .and .i64 a.d 7 == 5) = false := by simpa [kindA] using h5
  have k6 : (bits .and .i64 a.d 7 == 6) = true := by simpa [kindA] using h6
  have hd1 := Lib.hid (hd.alloc (.cells #[.int .i64 a.d, .int .i64 a.f, .int .i64 a.n, .string a.s, .slice a.kA a.k.length a.kc] 33))
  have hs1 := Lib.hid (hs.alloc (.cells #[.int .i64 a.d, .int .i64 a.f, .int .i64 a.n, .string a.s, .slice a.kA a.k.length a.kc] 33))
  have HS := Lib.hid hs
  have HK := Lib.hid (hk.at hs1.out)
  clear hd hs h2 h3 h4 h5 h6
  go_enter Try.func13, Try.ntmps13
  go_wp2_with fail
  refine (r_crash hd1.out hs1.out hi _ _ HK.out (by omega)).mono ?_
  rintro e w1 ⟨rfl, own', hD, hP⟩
  have hend : Hid (∀ r, RRes W w own i g r (crashD d a.k) ks (.returned r) w1) := fun r => ⟨rfl, own', hD, hP.alloc_left HS.out⟩
  clear hD hP
  go_wp2_with fail
  go_ret
  exact hend.out _
set_option maxRecDepth 100000 in
set_option maxHeartbeats 1600000 in
theorem tell7 (g i : Nat) (d : DS) (ks : List Int) (a : ActV) (W w : World) (own : Nat → Nat) (hd : RO w own i g d ks) (hs : St W w own) (hi : i ≠ 0) (h2 : ¬ kindA a = 2) (h3 : ¬ kindA a = 3) (h4 : ¬ kindA a = 4) (h5 : ¬ kindA a = 5) (h6 : ¬ kindA a = 6) (h7 : kindA a = 7) :
    Calls Try.prog 13 #[.pointer (some ⟨g, 0, none⟩), .agg #[.int .i64 a.d, .int .i64 a.f, .int .i64 a.n, .string a.s, .slice a.kA a.k.length a.kc]] w (RRes W w own i g (.int .i64 0) (startD d) ks) := by
  have k2 : (bits .and .i64 a.d 7 == 2) = false := by simpa [kindA] using h2
  have k3 : (bits .and .i64 a.d 7 == 3) = false := by simpa [kindA] using h3
  have k4 : (bits .and .i64 a.d 7 == 4) = false := by simpa [kindA] using h4
  have k5 : (bits .and .i64 a.d 7 == 5) = false := by simpa [kindA] using h5
  have k6 : (bits .and .i64 a.d 7 == 6) = false := by simpa [kindA] using h6
  have k7 : (bits .and .i64 a.d 7 == 7) = true := by simpa [kindA] using h7
  have hd1 := Lib.hid (hd.alloc (.cells #[.int .i64 a.d, .int .i64 a.f, .int .i64 a.n, .string a.s, .slice a.kA a.k.length a.kc] 33))
  have hs1 := Lib.hid (hs.alloc (.cells #[.int .i64 a.d, .int .i64 a.f, .int .i64 a.n, .string a.s, .slice a.kA a.k.length a.kc] 33))
  have HS := Lib.hid hs
  clear hd hs h2 h3 h4 h5 h6 h7
  go_enter Try.func13, Try.ntmps13
  go_wp2_with fail
  refine (r_start hd1.out hs1.out hi).mono ?_
  rintro e w1 ⟨rfl, own', hD, hP⟩
  have hend : Hid (∀ r, RRes W w own i g r (startD d) ks (.returned r) w1) := fun r => ⟨rfl, own', hD, hP.alloc_left HS.out⟩
  clear hD hP
  go_wp2_with fail
  go_ret
  exact hend.out _
set_option maxRecDepth 100000 in
set_option maxHeartbeats 1600000 in
theorem tell0 (g i : Nat) (d : DS) (ks : List Int) (a : ActV) (W w : World) (own : Nat → Nat) (hd : RO w own i g d ks) (hs : St W w own) (hi : i ≠ 0) (hsz : a.s.size ≤ 300) (h2 : ¬ kindA a = 2) (h3 : ¬ kindA a = 3) (h4 : ¬ kindA a = 4) (h5 : ¬ kindA a = 5) (h6 : ¬ kindA a = 6) (h7 : ¬ kindA a = 7) :
    Calls Try.prog 13 #[.pointer (some ⟨g, 0, none⟩), .agg #[.int .i64 a.d, .int .i64 a.f, .int .i64 a.n, .string a.s, .slice a.kA a.k.length a.kc]] w (RRes W w own i g (.int .i64 (writeE d a.f a.n a.s)) (writeD d ks a.f a.n a.s) ks) := by
  have k2 : (bits .and .i64 a.d 7 == 2) = false := by simpa [kindA] using h2
  have k3 : (bits .and .i64 a.d 7 == 3) = false := by simpa [kindA] using h3
  have k4 : (bits .and .i64 a.d 7 == 4) = false := by simpa [kindA] using h4
  have k5 : (bits .and .i64 a.d 7 == 5) = false := by simpa [kindA] using h5
  have k6 : (bits .and .i64 a.d 7 == 6) = false := by simpa [kindA] using h6
  have k7 : (bits .and .i64 a.d 7 == 7) = false := by simpa [kindA] using h7
  have hd1 := Lib.hid (hd.alloc (.cells #[.int .i64 a.d, .int .i64 a.f, .int .i64 a.n, .string a.s, .slice a.kA a.k.length a.kc] 33))
  have hs1 := Lib.hid (hs.alloc (.cells #[.int .i64 a.d, .int .i64 a.f, .int .i64 a.n, .string a.s, .slice a.kA a.k.length a.kc] 33))
  have HS := Lib.hid hs
  clear hd hs h2 h3 h4 h5 h6 h7
  go_enter Try.func13, Try.ntmps13
  go_wp2_with fail
  refine (r_write hd1.out hs1.out hi a.f a.n a.s (by omega)).mono ?_
  rintro e w1 ⟨rfl, own', hD, hP⟩
  have hend : Hid (∀ r, RRes W w own i g r (writeD d ks a.f a.n a.s) ks (.returned r) w1) := fun r => ⟨rfl, own', hD, hP.alloc_left HS.out⟩
  clear hD hP
  go_wp2_with fail
  go_ret
  exact hend.out _
theorem tell_any (g i : Nat) (d : DS) (ks : List Int) (a : ActV) (W w : World) (own : Nat → Nat) (hd : RO w own i g d ks) (hs : St W w own) (hi : i ≠ 0) (hsz : a.s.size ≤ 300) (hk : KeepB W a.kA a.k) (hkl : a.k.length ≤ 60) (hn : a.n ≤ 9223372036854775807) :
    Calls Try.prog 13 #[.pointer (some ⟨g, 0, none⟩), .agg #[.int .i64 a.d, .int .i64 a.f, .int .i64 a.n, .string a.s, .slice a.kA a.k.length a.kc]] w (RRes W w own i g (.int .i64 (actE d ks a)) (actD d ks a) (actK ks a)) := by
  unfold actE actD actK
  by_cases h2 : kindA a = 2
  · simp only [h2, if_true, Int.reduceEq, if_false]; exact tell2 g i d ks a W w own hd hs hi h2
  by_cases h3 : kindA a = 3
  · simp only [h3, if_true, Int.reduceEq, if_false]; exact tell3 g i d ks a W w own hd hs hi (by omega) h3
  by_cases h4 : kindA a = 4
  · simp only [h4, if_true, Int.reduceEq, if_false]; exact tell4 g i d ks a W w own hd hs hi (by omega) (by omega) h4
  by_cases h5 : kindA a = 5
  · simp only [h5, if_true, Int.reduceEq, if_false]; exact tell5 g i d ks a W w own hd hs hi hk hkl hn (by omega) (by omega) (by omega) h5
  by_cases h6 : kindA a = 6
  · simp only [h6, if_true, Int.reduceEq, if_false]; exact tell6 g i d ks a W w own hd hs hi hk hkl (by omega) (by omega) (by omega) (by omega) h6
  by_cases h7 : kindA a = 7
  · simp only [h7, if_true, Int.reduceEq, if_false]; exact tell7 g i d ks a W w own hd hs hi (by omega) (by omega) (by omega) (by omega) (by omega) h7
  · simp only [h2, h3, h4, h5, h6, h7, if_false]; exact tell0 g i d ks a W w own hd hs hi hsz h2 h3 h4 h5 h6 h7
end Go.Proofs.Ytjgmbildgcighaa
