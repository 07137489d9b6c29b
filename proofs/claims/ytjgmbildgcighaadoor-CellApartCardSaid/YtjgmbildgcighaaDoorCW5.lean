import Derived.Test.YtjgmbildgcighaaDoorC6
import Derived.Test.YtjgmbildgcighaaDoorCP4
namespace Go.Proofs.YtjgmbildgcighaaDoor
open Go.RowKit

set_option maxRecDepth 100000 in
set_option maxHeartbeats 6400000 in
theorem apart_walk (s t : ByteArray) (f g n : Int) (hn : n ≤ 9223372036854775807) (A : Option Addr) (c : Nat) (keep : List Int) (W : World) (hG : GAt W) (hk : KeepB W A keep) (hkm : keep.length ≤ 9223372036854775807) :
    Calls Tryd.prog 5 #[.string s, .string t, .int .i64 f, .int .i64 g, .int .i64 n, .slice A keep.length c] W fun e w' => e = .returned (.bool true) ∧ Below W.heap.size W w' := by
  have HG := Lib.hid hG
  have HK := Lib.hid hk
  clear hG hk
  go_enter Tryd.func5, Tryd.ntmps5
  go_wp2_with fail
  refine (csmall_any W HG.out).mono ?_
  rintro e w1 ⟨rfl, hb⟩
  have s1 : Hid (St W w1 (fun _ => 0)) := ⟨fun _ _ => rfl, fun _ _ => rfl, hb⟩
  clear hb
  by_cases h1 : (400 : Int) < (s.size : Int)
  · go_wp2_with fail
    go_ret
    exact ⟨rfl, s1.out.fr⟩
  by_cases h2 : (400 : Int) < (t.size : Int)
  · go_wp2_with fail
    go_ret
    exact ⟨rfl, s1.out.fr⟩
  by_cases h3 : f < 0
  · go_wp2_with fail
    go_ret
    exact ⟨rfl, s1.out.fr⟩
  by_cases h4 : 15 < f
  · go_wp2_with fail
    go_ret
    exact ⟨rfl, s1.out.fr⟩
  by_cases h5 : g < 0
  · go_wp2_with fail
    go_ret
    exact ⟨rfl, s1.out.fr⟩
  by_cases h6 : 15 < g
  · go_wp2_with fail
    go_ret
    exact ⟨rfl, s1.out.fr⟩
  by_cases h7 : f = g
  · have h7' : (f == g) = true := by simpa using h7
    subst h7
    go_wp2_with fail
    go_ret
    exact ⟨rfl, s1.out.fr⟩
  have h7' : (f == g) = false := by simpa using h7
  by_cases h8 : (100 : Int) < (keep.length : Int)
  · go_wp2_with fail
    go_ret
    exact ⟨rfl, s1.out.fr⟩
  obtain ⟨d1, d3, x, b1, sl, v, L⟩ := apart_plain (s := s) (t := t) (f := f) (g := g) (n := n) keep (by omega) ⟨by omega, by omega⟩ ⟨by omega, by omega⟩ h7 hn
  have LAW := Lib.hid L
  have HOf := Lib.hid (open_new (f := f) ⟨by omega, by omega⟩)
  have HOg := Lib.hid (open_new (f := g) ⟨by omega, by omega⟩)
  have hres := L.res
  clear L
  go_wp2_with fail
  refine (o_new (i := 1) s1.out (by decide)).mono ?_
  rintro e w2 ⟨gd, rfl, o2, d2, p2⟩
  have D2 := Lib.hid d2
  have P2 := Lib.hid p2.st
  clear d2 p2 s1
  go_wp2_with fail
  refine (o_open (j := 2) D2.out P2.out (by decide) (by decide) (by decide) HG.out HOf.out).mono ?_
  rintro e w3 ⟨ga, rfl, o3, c3, d3', p3⟩
  have A3 := Lib.hid c3
  have D3 := Lib.hid d3'
  have P3 := Lib.hid p3.st
  clear c3 d3' p3 D2 P2 HOf
  go_wp2_with fail
  refine (o_open (j := 3) D3.out P3.out (by decide) (by decide) (by decide) HG.out HOg.out).mono ?_
  rintro e w4 ⟨gb, rfl, o4, c4, d4, p4⟩
  have B4 := Lib.hid c4
  have A4 := Lib.hid (A3.out.step p4 (by decide))
  have D4 := Lib.hid d4
  have P4 := Lib.hid p4.st
  clear c4 d4 p4 D3 P3 HOg A3
  go_wp2_with fail
  refine (o_set A4.out D4.out P4.out (by decide) (by decide) (by decide) HG.out LAW.out.s1).mono ?_
  rintro e w5 ⟨rfl, o5, c5, d5, p5⟩
  have B5 := Lib.hid (B4.out.steps p5 (by decide))
  have D5 := Lib.hid d5
  have P5 := Lib.hid p5.st
  clear c5 d5 p5 D4 P4 A4 B4
  go_wp2_with fail
  refine (o_arm D5.out P5.out (by decide) n hn A c (HK.out.at P5.out) (by omega)).mono ?_
  rintro e w6 ⟨rfl, o6, d6, p6⟩
  have B6 := Lib.hid (B5.out.step p6 (by decide))
  have D6 := Lib.hid d6
  have P6 := Lib.hid p6.st
  clear d6 p6 D5 P5 B5
  go_wp2_with fail
  refine (o_set B6.out D6.out P6.out (by decide) (by decide) (by decide) HG.out LAW.out.s2).mono ?_
  rintro e w7 ⟨rfl, o7, c7, d7, p7⟩
  have D7 := Lib.hid d7
  have P7 := Lib.hid p7.st
  clear c7 d7 p7 D6 P6 B6
  go_wp2_with fail
  refine (o_crash D7.out P7.out (by decide) A c (HK.out.at P7.out) (by omega)).mono ?_
  rintro e w8 ⟨rfl, o8, d8, p8⟩
  have D8 := Lib.hid d8
  have P8 := Lib.hid p8.st
  clear d8 p8 D7 P7
  go_wp2_with fail
  refine (o_start D8.out P8.out (by decide)).mono ?_
  rintro e w9 ⟨rfl, o9, d9, p9⟩
  have D9 := Lib.hid d9
  have P9 := Lib.hid p9.st
  clear d9 p9 D8 P8
  go_wp2_with fail
  refine (o_open (j := 2) D9.out P9.out (by decide) (by decide) (by decide) HG.out LAW.out.oa).mono ?_
  rintro e w10 ⟨ga2, rfl, o10, c10, d10, p10⟩
  have A10 := Lib.hid c10
  have D10 := Lib.hid d10
  have P10 := Lib.hid p10.st
  clear c10 d10 p10 D9 P9
  go_wp2_with fail
  refine (o_open (j := 3) D10.out P10.out (by decide) (by decide) (by decide) HG.out LAW.out.ob).mono ?_
  rintro e w11 ⟨gb2, rfl, o11, c11, d11, p11⟩
  have B11 := Lib.hid c11
  have A11 := Lib.hid (A10.out.step p11 (by decide))
  have P11 := Lib.hid p11.st
  clear c11 d11 p11 D10 P10 A10
  go_wp2_with fail
  refine (o_get A11.out).mono ?_
  rintro e w12 ⟨rfl, n12, hw12⟩
  have B12 : Hid (CO 70 w12 o11 3 gb2 gd ⟨g, sl, v, false⟩) := by show CO _ _ _ _ _ _ _; rw [hw12]; exact B11.out.drewN n12
  have P12 : Hid (St W w12 o11) := by show St _ _ _; rw [hw12]; exact P11.out.drewN n12
  clear hw12 A11 B11 P11
  go_wp2_with fail
  refine (o_get B12.out).mono ?_
  rintro e w13 ⟨rfl, n13, hw13⟩
  have P13 : Hid (St W w13 o11) := by show St _ _ _; rw [hw13]; exact P12.out.drewN n13
  clear hw13 B12 P12
  rcases hres with ⟨hsl, rfl⟩ | ⟨rfl, hx⟩
  · cases hxx : (x != 0)
    all_goals
      go_wp2_with fail
      go_ret
      exact ⟨rfl, P13.out.fr⟩
  · have hxx : (x != 0) = true := by simpa using hx
    go_wp2_with fail
    go_ret
    exact ⟨rfl, P13.out.fr⟩
end Go.Proofs.YtjgmbildgcighaaDoor
