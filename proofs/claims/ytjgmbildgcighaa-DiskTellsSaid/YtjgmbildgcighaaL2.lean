import Derived.Test.YtjgmbildgcighaaL1
namespace Go.Proofs.Ytjgmbildgcighaa
open Go.RowKit

theorem keep_box {W w : World} {own : Nat → Nat} (hs : St W w own) (t : TypeId) (ks : List Int) : KeepAt (w.alloc (.cells (ks.map (Value.int .i64)).toArray t)) (fun k => own k ≠ 0) (some ⟨w.heap.size, 0, none⟩) ks := by
  intro k p hk
  refine ⟨w.heap.size, 0, rfl, by simp, fun hn => hn (hs.hi _ (Nat.le_refl _)), ?_⟩
  rw [(Blk.new w t _).cell]
  simp [hk]
def sd1 : DS := writeD ds0 [] 0 0 ⟨#[97, 98, 99]⟩
def sd2 : DS := syncD sd1 [] 0
def sd3 : DS := writeD sd2 [] 0 1 ⟨#[88, 89]⟩
def sd4 : DS := crashD sd3 [1]
def sd5 : DS := startD sd4
def sc4 : DS := crashD sd3 [0]
def sc5 : DS := startD sc4
def sc6 : DS := writeD sc5 [] 1 62 ⟨#[97, 98, 99, 100]⟩
def sc7 : DS := crashD sc6 [0, 1]
def sc8 : DS := startD sc7
def sc9 : DS := writeD sc8 [] 16 0 ⟨#[]⟩
def sc10 : DS := writeD sc9 [] 1 16777216 ⟨#[97]⟩
theorem ev1 : writeE ds0 0 0 ⟨#[97, 98, 99]⟩ = 0 := by decide +kernel
theorem ev2 : syncE sd1 [] 0 = 0 := by decide +kernel
theorem ev3 : sd4.down = true := by decide +kernel
theorem ev4 : readE sd4 0 0 9 = 9 := by decide +kernel
theorem ev5 : readS sd5 0 0 9 = ⟨#[97, 88, 89]⟩ := by decide +kernel
theorem ev6 : readE sd5 0 0 9 = 0 := by decide +kernel
theorem ev7 : readS sc5 0 1 9 = ⟨#[98, 99]⟩ := by decide +kernel
theorem ev8 : readE sc5 0 1 9 = 0 := by decide +kernel
theorem ev9 : writeE sc5 1 62 ⟨#[97, 98, 99, 100]⟩ = 0 := by decide +kernel
theorem ev10 : readS sc8 1 60 100 = ⟨#[0, 0, 0, 0, 99, 100]⟩ := by decide +kernel
theorem ev11 : readE sc8 1 60 100 = 0 := by decide +kernel
theorem ev12 : (sc8.fs 1).now.size = 66 := by decide +kernel
theorem ev13 : writeE sc8 16 0 ⟨#[]⟩ = 1 := by decide +kernel
theorem ev14 : writeE sc9 1 16777216 ⟨#[97]⟩ = 6 := by decide +kernel
theorem Res.is {W w : World} {own : Nat → Nat} {i g : Nat} {r r' : Value} {d d' : DS} {ks : List Int} {e : Ending} {w' : World} (h : Res W w own i g r d ks e w') (hr : r = r') (hd : d = d') : Res W w own i g r' d' ks e w' := by subst hr hd; exact h

set_option maxRecDepth 100000 in
set_option maxHeartbeats 3200000 in
theorem small_any (w : World) : Calls Try.prog 8 #[] w fun e w' => e = .returned (.bool true) ∧ Below w.heap.size w w' := by
  go_enter Try.func8, Try.ntmps8
  go_wp2_with fail
  refine (o_new (i := 1) (St.start w) (by decide)).mono ?_
  rintro e w1 ⟨gd, rfl, o1, d1, p1⟩
  go_wp2_with fail
  refine (o_write d1 p1.st (by decide) 0 0 ⟨#[97, 98, 99]⟩).mono ?_
  intro e w2 hp
  obtain ⟨rfl, o2, d2, p2⟩ := hp.is (r' := .int .i64 0) (d' := sd1) (by rw [ev1]) rfl
  clear hp d1 p1
  go_wp2_with fail
  refine (o_sync d2 p2.st (by decide) 0).mono ?_
  intro e w3 hp
  obtain ⟨rfl, o3, d3, p3⟩ := hp.is (r' := .int .i64 0) (d' := sd2) (by rw [ev2]) rfl
  clear hp d2 p2
  go_wp2_with fail
  refine (o_write d3 p3.st (by decide) 0 1 ⟨#[88, 89]⟩).mono ?_
  intro e w4 hp
  obtain ⟨rfl, o4, d4, p4⟩ := hp.is (d' := sd3) rfl rfl
  clear hp d3 p3
  go_wp2_with fail
  refine (o_copy (j := 2) d4 p4.st (by decide)).mono ?_
  rintro e w5 ⟨gc, rfl, o5, c5, p5⟩
  have d5 := d4.other p5 (by decide) (by decide) (by decide)
  clear d4 p4
  go_wp2_with fail
  have k1 := keep_box p5.st 3 [1]
  have s5 := p5.st.alloc (.cells #[.int .i64 1] 3)
  replace d5 := d5.alloc (.cells #[.int .i64 1] 3)
  replace c5 := c5.alloc (.cells #[.int .i64 1] 3)
  refine (o_crash (ks' := [1]) d5 s5 (by decide) _ _ k1 (by decide)).mono ?_
  intro e w6 hp
  obtain ⟨rfl, o6, d6, p6⟩ := hp.is (d' := sd4) rfl rfl
  have c6 := c5.other p6 (by decide) (by decide) (by decide)
  clear hp d5 c5 p5 s5 k1
  go_wp2_with fail
  refine (o_down d6).mono ?_
  rintro e _ ⟨rfl, rfl⟩
  rw [ev3]
  go_wp2_with fail
  refine (o_read d6 0 0 9).mono ?_
  rintro e _ ⟨rfl, rfl⟩
  rw [ev4]
  go_wp2_with fail
  refine (o_start d6 p6.st (by decide)).mono ?_
  intro e w7 hp
  obtain ⟨rfl, o7, d7, p7⟩ := hp.is (d' := sd5) rfl rfl
  have c7 := c6.other p7 (by decide) (by decide) (by decide)
  clear hp d6 c6 p6
  go_wp2_with fail
  refine (o_read d7 0 0 9).mono ?_
  rintro e _ ⟨rfl, rfl⟩
  rw [ev5, ev6]
  clear d7
  go_wp2_with fail
  have k1 := keep_box p7.st 3 [0]
  have s7 := p7.st.alloc (.cells #[.int .i64 0] 3)
  replace c7 := c7.alloc (.cells #[.int .i64 0] 3)
  refine (o_crash (ks' := [0]) c7 s7 (by decide) _ _ k1 (by decide)).mono ?_
  intro e w8 hp
  obtain ⟨rfl, o8, c8, p8⟩ := hp.is (d' := sc4) rfl rfl
  clear hp c7 p7 s7 k1
  go_wp2_with fail
  refine (o_start c8 p8.st (by decide)).mono ?_
  intro e w9 hp
  obtain ⟨rfl, o9, c9, p9⟩ := hp.is (d' := sc5) rfl rfl
  clear hp c8 p8
  go_wp2_with fail
  refine (o_read c9 0 1 9).mono ?_
  rintro e _ ⟨rfl, rfl⟩
  rw [ev7, ev8]
  go_wp2_with fail
  refine (o_write c9 p9.st (by decide) 1 62 ⟨#[97, 98, 99, 100]⟩).mono ?_
  intro e w10 hp
  obtain ⟨rfl, o10, c10, p10⟩ := hp.is (r' := .int .i64 0) (d' := sc6) (by rw [ev9]) rfl
  clear hp c9 p9
  go_wp2_with fail
  have k1 := keep_box p10.st 3 [0, 1]
  have s10 := p10.st.alloc (.cells #[.int .i64 0, .int .i64 1] 3)
  replace c10 := c10.alloc (.cells #[.int .i64 0, .int .i64 1] 3)
  refine (o_crash (ks' := [0, 1]) c10 s10 (by decide) _ _ k1 (by decide)).mono ?_
  intro e w11 hp
  obtain ⟨rfl, o11, c11, p11⟩ := hp.is (d' := sc7) rfl rfl
  clear hp c10 p10 s10 k1
  go_wp2_with fail
  refine (o_start c11 p11.st (by decide)).mono ?_
  intro e w12 hp
  obtain ⟨rfl, o12, c12, p12⟩ := hp.is (d' := sc8) rfl rfl
  clear hp c11 p11
  go_wp2_with fail
  refine (o_read c12 1 60 100).mono ?_
  rintro e _ ⟨rfl, rfl⟩
  rw [ev10, ev11]
  go_wp2_with fail
  refine (o_size c12 1).mono ?_
  rintro e _ ⟨rfl, rfl⟩
  rw [ev12]
  go_wp2_with fail
  refine (o_write c12 p12.st (by decide) 16 0 ⟨#[]⟩).mono ?_
  intro e w13 hp
  obtain ⟨rfl, o13, c13, p13⟩ := hp.is (r' := .int .i64 1) (d' := sc9) (by rw [ev13]) rfl
  clear hp c12 p12
  go_wp2_with fail
  refine (o_write c13 p13.st (by decide) 1 16777216 ⟨#[97]⟩).mono ?_
  intro e w14 hp
  obtain ⟨rfl, o14, c14, p14⟩ := hp.is (r' := .int .i64 6) (d' := sc10) (by rw [ev14]) rfl
  clear hp c13 p13
  go_wp2_with fail
  go_ret
  exact ⟨rfl, p14.st.fr⟩
end Go.Proofs.Ytjgmbildgcighaa
