import Derived.Test.YtjgmbildgcighaaDoorCR1
import Derived.Test.YtjgmbildgcighaaDoorC6
namespace Go.Proofs.YtjgmbildgcighaaDoor
open Go.RowKit
theorem openF_slot (d : DS) (f : Int) : 0 ≤ (openF d f).2.slot := by
  unfold openF
  dsimp only
  repeat' split
  all_goals first | exact Int.le_refl _ | exact Int.natCast_nonneg _
set_option maxRecDepth 100000 in
set_option maxHeartbeats 6400000 in
theorem reads_walk (s t : ByteArray) (f : Int) (W : World) (hG : GAt W) :
    Calls Tryd.prog 3 #[.string s, .string t, .int .i64 f] W fun e w' => e = .returned (.bool true) ∧ Below W.heap.size W w' := by
  have HG := Lib.hid hG
  clear hG
  go_enter Tryd.func3, Tryd.ntmps3
  go_wp2_with fail
  refine (csmall_any W HG.out).mono ?_
  rintro e w1 ⟨rfl, hb⟩
  have s1 : Hid (St W w1 (fun _ => 0)) := ⟨fun _ _ => rfl, fun _ _ => rfl, hb⟩
  clear hb
  by_cases h1 : (300 : Int) < (s.size : Int)
  · go_wp2_with fail
    go_ret
    exact ⟨rfl, s1.out.fr⟩
  by_cases h2 : (300 : Int) < (t.size : Int)
  · go_wp2_with fail
    go_ret
    exact ⟨rfl, s1.out.fr⟩
  go_wp2_with fail
  refine (o_new (i := 1) s1.out (by decide)).mono ?_
  rintro e w2 ⟨gd, rfl, o2, d2, p2⟩
  have D2 := Lib.hid d2
  have P2 := Lib.hid p2.st
  clear d2 p2 s1
  go_wp2_with fail
  refine (r_new (i := 2) P2.out (by decide)).mono ?_
  rintro e w3 ⟨gr, rfl, o3, r3, p3⟩
  have D3 := Lib.hid (D2.out.other p3 (by decide) (by decide) (by decide))
  have R3 := Lib.hid r3
  have P3 := Lib.hid p3.st
  clear r3 p3 D2 P2
  go_wp2_with fail
  refine (o_write D3.out P3.out (by decide) f 0 s).mono ?_
  rintro e w4 ⟨rfl, o4, d4, p4⟩
  have D4 := Lib.hid d4
  have R4 := Lib.hid (R3.out.other p4 (by decide) (by decide) (by decide))
  have P4 := Lib.hid p4.st
  clear d4 p4 D3 R3 P3
  go_wp2_with fail
  refine (r_write R4.out P4.out (by decide) f 0 s (by omega)).mono ?_
  rintro e w5 ⟨rfl, o5, r5, p5⟩
  have D5 := Lib.hid (D4.out.other p5 (by decide) (by decide) (by decide))
  have R5 := Lib.hid r5
  have P5 := Lib.hid p5.st
  clear r5 p5 D4 R4 P4
  generalize writeD ds0 [] f 0 s = da at *
  generalize writeE ds0 f 0 s = ea at *
  go_wp2_with fail
  refine (o_write D5.out P5.out (by decide) f 131072 t).mono ?_
  rintro e w6 ⟨rfl, o6, d6, p6⟩
  have D6 := Lib.hid d6
  have R6 := Lib.hid (R5.out.other p6 (by decide) (by decide) (by decide))
  have P6 := Lib.hid p6.st
  clear d6 p6 D5 R5 P5
  go_wp2_with fail
  refine (r_write R6.out P6.out (by decide) f 131072 t (by omega)).mono ?_
  rintro e w7 ⟨rfl, o7, r7, p7⟩
  have D7 := Lib.hid (D6.out.other p7 (by decide) (by decide) (by decide))
  have R7 := Lib.hid r7
  have P7 := Lib.hid p7.st
  clear r7 p7 D6 R6 P6
  generalize writeD da [] f 131072 t = db at *
  generalize writeE da f 131072 t = eb at *
  go_wp2_with fail
  obtain ⟨⟨x, c⟩, hr⟩ : ∃ r, r = openF db f := ⟨_, rfl⟩
  have HSL := Lib.hid (openF_slot db f)
  refine (copen_any W _ _ 1 3 gd db [] f D7.out P7.out (by decide) HG.out).mono ?_
  intro e w8 hp
  by_cases hx : x = 0
  · subst hx
    rw [← hr] at hp HSL
    obtain ⟨ga, o8, rfl, c8, p8⟩ := hp.1 rfl
    have A8 := Lib.hid c8
    have R8 := Lib.hid (R7.out.other p8 (by decide) (by decide) (by decide))
    have P8 := Lib.hid p8.st
    have HR := Lib.hid hr
    clear hp c8 p8 R7 P7 D7 hr
    go_wp2_with fail
    refine (ropen_any W _ _ 2 4 gr db [] f R8.out P8.out (by decide)).mono ?_
    intro e w9 hp
    rw [← HR.out] at hp
    obtain ⟨gb, o9, rfl, c9, p9⟩ := hp.1 rfl
    have A9 := Lib.hid (A8.out.step p9 (by decide))
    have B9 := Lib.hid c9
    have P9 := Lib.hid p9.st
    clear hp c9 p9 A8 R8 P8 HR
    go_wp2_with fail
    refine (o_get A9.out).mono ?_
    rintro e w10 ⟨rfl, n10, hw10⟩
    have B10 : Hid (CO 74 w10 o9 4 gb gr c) := by show CO _ _ _ _ _ _ _; rw [hw10]; exact B9.out.drewN n10
    have P10 : Hid (St W w10 o9) := by show St _ _ _; rw [hw10]; exact P9.out.drewN n10
    clear hw10 A9 B9 P9
    go_wp2_with fail
    refine (rget_c _ _ _ _ _ _ B10.out HSL.out).mono ?_
    rintro e w11 ⟨rfl, n11, hw11⟩
    have P11 : Hid (St W w11 o9) := by show St _ _ _; rw [hw11]; exact P10.out.drewN n11
    clear hw11 B10 P10
    generalize decide (0 < c.slot) = b at *
    generalize c.value = v at *
    cases b
    · go_wp2_with fail
      go_ret
      exact ⟨rfl, P11.out.fr⟩
    · go_wp2_with fail
      go_ret
      exact ⟨rfl, P11.out.fr⟩
  · rw [← hr] at hp
    obtain ⟨rfl, hf⟩ := hp.2 hx
    have R8 := Lib.hid (R7.out.fr0 hf)
    have P8 := Lib.hid (P7.out.frF hf)
    have HR := Lib.hid hr
    have HX := Lib.hid hx
    clear hp hf R7 P7 D7 HSL hr hx
    go_wp2_with fail
    refine (ropen_any W _ _ 2 4 gr db [] f R8.out P8.out (by decide)).mono ?_
    intro e w9 hp
    rw [← HR.out] at hp
    obtain ⟨rfl, hf⟩ := hp.2 HX.out
    have P9 := Lib.hid (P8.out.frF hf)
    clear hp hf R8 P8 HR HX
    go_wp2_with fail
    go_ret
    exact ⟨rfl, P9.out.fr⟩
end Go.Proofs.YtjgmbildgcighaaDoor
