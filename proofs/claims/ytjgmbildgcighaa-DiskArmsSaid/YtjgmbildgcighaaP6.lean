import Derived.Test.YtjgmbildgcighaaP1
namespace Go.Proofs.Ytjgmbildgcighaa
open Go.RowKit

/-! DiskArms, in plain terms. -/
/-- The disk c, with a crash scheduled. -/
def arm1 (c : DS) (r : Int) : DS := { c with armed := r }
/-- Ahead of the crash: d is c, but for the schedule. -/
structure Ahead (d c : DS) (r : Int) : Prop where
  is : d = arm1 c r
  zero : c.armed = 0
  up : c.down = false
  pos : 1 ≤ r
/-- Behind it. -/
structure Behind (d c : DS) : Prop where
  fs : d.fs = c.fs
  dd : d.down = true
  dc : c.down = true
theorem ends_more {c : DS} {r : Int} (hu : c.down = false) (h : 2 ≤ r) : endsB (arm1 c r) = false ∧ endsD (arm1 c r) = arm1 c (r - 1) := by
  unfold endsB endsD arm1
  dsimp only
  rw [hu]
  simp only [Bool.false_eq_true, if_false]
  refine ⟨by simp; omega, ?_⟩
  rw [if_neg (by omega)]
theorem ends_last {c : DS} (hz : c.armed = 0) (hu : c.down = false) : endsB (arm1 c 1) = true ∧ endsD (arm1 c 1) = c := by
  unfold endsB endsD arm1
  dsimp only
  rw [hu]
  simp only [Bool.false_eq_true, if_false]
  refine ⟨by simp, ?_⟩
  rw [if_neg (by omega)]
  cases c
  dsimp only at hz hu ⊢
  subst hz hu; rfl
theorem may_arm (c : DS) (r f : Int) : mayE (arm1 c r) f = mayE c f := rfl
theorem wr_arm (c : DS) (r f a : Int) (s : ByteArray) : wrE (arm1 c r) f a s = wrE c f a s ∧ wrD (arm1 c r) f a s = arm1 (wrD c f a s) r := by
  have h : wrE (arm1 c r) f a s = wrE c f a s := rfl
  refine ⟨h, ?_⟩
  unfold wrD
  rw [h]
  split <;> rfl
theorem wr_keeps (c : DS) (f a : Int) (s : ByteArray) : (wrD c f a s).armed = c.armed ∧ (wrD c f a s).down = c.down := by
  unfold wrD
  split <;> exact ⟨rfl, rfl⟩
theorem sync1_arm (c : DS) (r f : Int) : syncE1 (arm1 c r) f = syncE1 c f ∧ syncD1 (arm1 c r) f = arm1 (syncD1 c f) r := by
  have h : syncE1 (arm1 c r) f = syncE1 c f := rfl
  refine ⟨h, ?_⟩
  unfold syncD1
  rw [may_arm]
  split
  · show (if 0 < c.lost then _ else _) = _
    split <;> rfl
  · rfl
theorem sync1_keeps (c : DS) (f : Int) : (syncD1 c f).armed = c.armed ∧ (syncD1 c f).down = c.down := by
  unfold syncD1
  split
  · split <;> exact ⟨rfl, rfl⟩
  · exact ⟨rfl, rfl⟩
theorem trunc1_arm (c : DS) (r f n : Int) : truncE1 (arm1 c r) f n = truncE1 c f n ∧ truncD1 (arm1 c r) f n = arm1 (truncD1 c f n) r := by
  have h : truncE1 (arm1 c r) f n = truncE1 c f n := rfl
  refine ⟨h, ?_⟩
  unfold truncD1
  rw [h]
  split <;> rfl
theorem trunc1_keeps (c : DS) (f n : Int) : (truncD1 c f n).armed = c.armed ∧ (truncD1 c f n).down = c.down := by
  unfold truncD1
  split <;> exact ⟨rfl, rfl⟩
theorem comes_0 {c : DS} (h : c.armed = 0) (ks : List Int) : comesD c ks = c := by
  obtain ⟨e1, e2⟩ := ends_0 h
  unfold comesD
  rw [e1, e2]
  rfl
theorem comes_more {c : DS} {r : Int} (hu : c.down = false) (h : 2 ≤ r) (ks : List Int) : comesD (arm1 c r) ks = arm1 c (r - 1) := by
  obtain ⟨e1, e2⟩ := ends_more hu h
  unfold comesD
  rw [e1, e2]
  rfl
theorem crash_down (c : DS) (ks : List Int) : (crashD c ks).down = true := by
  unfold crashD
  cases h : c.down
  · rfl
  · rw [if_pos rfl]; exact h
theorem comes_last {c : DS} (hz : c.armed = 0) (hu : c.down = false) (ks : List Int) : comesD (arm1 c 1) ks = crashD c ks := by
  obtain ⟨e1, e2⟩ := ends_last hz hu
  unfold comesD
  rw [e1, e2]
  rfl
/-- A call ahead of the last one. -/
theorem Ahead.act {d c : DS} {r : Int} (h : Ahead d c r) (ks : List Int) (a : ActV) (hk : 0 ≤ kindA a ∧ kindA a < 4) (hr : 2 ≤ r) : actE d ks a = actE c [] a ∧ Ahead (actD d ks a) (actD c [] a) (r - 1) := by
  obtain ⟨rfl, hz, hu, hp⟩ := h
  unfold actE actD
  by_cases h2 : kindA a = 2
  · simp only [h2, if_true]
    unfold syncE syncD
    rw [comes_more hu hr, comes_0 hz]
    obtain ⟨e1, e2⟩ := sync1_arm c (r - 1) a.f
    obtain ⟨e3, e4⟩ := sync1_keeps c a.f
    exact ⟨e1, e2, e3.trans hz, e4.trans hu, by omega⟩
  · by_cases h3 : kindA a = 3
    · simp only [h3, if_true, if_false, Int.reduceEq]
      unfold truncE truncD
      rw [comes_more hu hr, comes_0 hz]
      obtain ⟨e1, e2⟩ := trunc1_arm c (r - 1) a.f a.n
      obtain ⟨e3, e4⟩ := trunc1_keeps c a.f a.n
      exact ⟨e1, e2, e3.trans hz, e4.trans hu, by omega⟩
    · rw [if_neg h2, if_neg h2, if_neg h2, if_neg h2, if_neg h3, if_neg h3, if_neg h3, if_neg h3, if_neg (by omega), if_neg (by omega), if_neg (by omega), if_neg (by omega), if_neg (by omega), if_neg (by omega), if_neg (by omega), if_neg (by omega)]
      rw [if_neg (by omega), if_neg (by omega), if_neg (by omega), if_neg (by omega), if_neg (by omega), if_neg (by omega), if_neg (by omega), if_neg (by omega)]
      unfold writeE writeD
      obtain ⟨e1, e2⟩ := ends_more hu hr
      obtain ⟨e3, e4⟩ := ends_0 hz
      rw [e1, e2, e3, e4]
      simp only [Bool.false_eq_true, if_false]
      obtain ⟨e5, e6⟩ := wr_arm c (r - 1) a.f a.n a.s
      obtain ⟨e7, e8⟩ := wr_keeps c a.f a.n a.s
      exact ⟨e5, e6, e7.trans hz, e8.trans hu, by omega⟩
/-- Lose, ahead of the crash. -/
theorem Ahead.lose {d c : DS} {r : Int} (h : Ahead d c r) (ks : List Int) (a : ActV) (hk : kindA a = 4) : actE d ks a = actE c [] a ∧ Ahead (actD d ks a) (actD c [] a) r := by
  obtain ⟨rfl, hz, hu, hp⟩ := h
  unfold actE actD
  simp only [hk, if_true, if_false, Int.reduceEq]
  exact ⟨trivial, rfl, hz, hu, hp⟩
/-- The call in which it happens: a Write. -/
theorem Ahead.lastW {d c : DS} (h : Ahead d c 1) (ks : List Int) (a : ActV) (hk : 0 ≤ kindA a ∧ kindA a < 2) : actE d ks a = 9 ∧ Behind (actD d ks a) (crashD (actD c [] a) ks) := by
  obtain ⟨rfl, hz, hu, hp⟩ := h
  unfold actE actD
  rw [if_neg (by omega), if_neg (by omega), if_neg (by omega), if_neg (by omega), if_neg (by omega), if_neg (by omega), if_neg (by omega), if_neg (by omega), if_neg (by omega), if_neg (by omega), if_neg (by omega), if_neg (by omega)]
  rw [if_neg (by omega), if_neg (by omega), if_neg (by omega), if_neg (by omega), if_neg (by omega), if_neg (by omega)]
  unfold writeE writeD
  obtain ⟨e1, e2⟩ := ends_last hz hu
  obtain ⟨e3, e4⟩ := ends_0 hz
  rw [e1, e2, e3, e4]
  simp only [if_true, Bool.false_eq_true, if_false]
  exact ⟨trivial, rfl, crash_down _ _, crash_down _ _⟩
/-- The call in which it happens: another one. -/
theorem Ahead.last {d c : DS} (h : Ahead d c 1) (ks : List Int) (a : ActV) (hk : kindA a = 2 ∨ kindA a = 3) : actE d ks a = 9 ∧ Behind (actD d ks a) (crashD c ks) := by
  obtain ⟨rfl, hz, hu, hp⟩ := h
  have hm : ∀ f, mayE (crashD c ks) f = 9 := fun f => by unfold mayE; rw [crash_down]; rfl
  unfold actE actD
  rcases hk with hk | hk
  · simp only [hk, if_true]
    unfold syncE syncD syncE1 syncD1
    rw [comes_last hz hu, hm]
    exact ⟨rfl, rfl, crash_down _ _, crash_down _ _⟩
  · simp only [hk, if_true, if_false, Int.reduceEq]
    unfold truncE truncD truncD1 truncE1
    rw [comes_last hz hu, hm]
    exact ⟨rfl, rfl, crash_down _ _, crash_down _ _⟩
theorem ends_down {d : DS} (h : d.down = true) : endsB d = false ∧ endsD d = d := by
  unfold endsB endsD
  rw [h]
  simp
/-- A call behind it. -/
theorem Behind.act {d c : DS} (h : Behind d c) (ks : List Int) (a : ActV) (hk : 0 ≤ kindA a ∧ kindA a < 4) : actE d ks a = 9 ∧ Behind (actD d ks a) c := by
  obtain ⟨e1, e2⟩ := ends_down h.dd
  have hm : ∀ f, mayE d f = 9 := fun f => by unfold mayE; rw [h.dd]; rfl
  have hc : comesD d ks = d := by unfold comesD; rw [e1, e2]; rfl
  unfold actE actD
  by_cases h2 : kindA a = 2
  · simp only [h2, if_true]
    unfold syncE syncD syncE1 syncD1
    rw [hc, hm]
    exact ⟨rfl, h⟩
  · by_cases h3 : kindA a = 3
    · simp only [h3, if_true, if_false, Int.reduceEq]
      unfold truncE truncD truncD1 truncE1
      rw [hc, hm]
      exact ⟨rfl, h⟩
    · rw [if_neg h2, if_neg h2, if_neg h3, if_neg h3, if_neg (by omega), if_neg (by omega), if_neg (by omega), if_neg (by omega)]
      rw [if_neg (by omega), if_neg (by omega), if_neg (by omega), if_neg (by omega)]
      unfold writeE writeD
      rw [e1, e2]
      simp only [Bool.false_eq_true, if_false]
      unfold wrD wrE
      rw [hm]
      exact ⟨rfl, h⟩
theorem Behind.lose {d c : DS} (h : Behind d c) (ks : List Int) (a : ActV) (hk : kindA a = 4) : Behind (actD d ks a) c := by
  unfold actD
  simp only [hk, if_true, if_false, Int.reduceEq]
  exact ⟨h.fs, h.dd, h.dc⟩
/-- Two disks that read alike. -/
structure Like (d c : DS) : Prop where
  fs : d.fs = c.fs
  down : d.down = c.down
theorem Ahead.like {d c : DS} {r : Int} (h : Ahead d c r) : Like d c := by
  obtain ⟨rfl, hz, hu, hp⟩ := h
  exact ⟨rfl, rfl⟩
theorem Behind.like {d c : DS} (h : Behind d c) : Like d c := ⟨h.fs, h.dd.trans h.dc.symm⟩
theorem Like.start {d c : DS} (h : Like d c) : Like (startD d) (startD c) := ⟨h.fs, rfl⟩
theorem Like.read {d c : DS} (h : Like d c) (f a n : Int) : readS d f a n = readS c f a n ∧ readE d f a n = readE c f a n := by
  have hm : mayE d f = mayE c f := by unfold mayE; rw [h.down]
  have he : readE d f a n = readE c f a n := by unfold readE; rw [hm]
  refine ⟨?_, he⟩
  unfold readS
  rw [he, h.fs]
end Go.Proofs.Ytjgmbildgcighaa
