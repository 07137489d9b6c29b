import Derived.Test.YtjgmbildgcighaaDoorCP1
namespace Go.Proofs.YtjgmbildgcighaaDoor
open Go.RowKit

/-! The calls of a disk, for one file. -/
theorem ends_tick {d : DS} (hd : d.down = false) : (endsD d).down = false ∧ (endsD d).fs = d.fs ∧ (endsD d).q = d.q ∧ (endsD d).lost = d.lost := by
  unfold endsD
  rw [hd]
  split
  · contradiction
  · split
    · exact ⟨hd, rfl, rfl, rfl⟩
    · exact ⟨by first | rfl | exact hd, rfl, rfl, rfl⟩
theorem ends_fs {d : DS} (hd : d.down = false) (f : Int) : (endsD d).fs f = d.fs f := by rw [(ends_tick hd).2.1]
/-- A write that is possible: it is performed, or performed and then the crash comes. -/
theorem write_cases {d : DS} {f a : Int} {s : ByteArray} (hd : d.down = false) (hE : ∀ d', d'.down = false → wrE d' f a s = 0) (ks : List Int) :
    (writeE d f a s = 9 ∧ writeD d ks f a s = crashD (wrD (endsD d) f a s) ks) ∨ (writeE d f a s = 0 ∧ writeD d ks f a s = wrD (endsD d) f a s) := by
  unfold writeE writeD
  cases hb : endsB d
  · right
    exact ⟨by simpa using hE _ (ends_tick hd).1, by simp⟩
  · left
    exact ⟨rfl, by simp⟩
theorem sync_cases {d : DS} {f : Int} (hd : d.down = false) (hf : 0 ≤ f ∧ f ≤ 15) (ks : List Int) :
    (syncE d ks f = 9 ∧ syncD d ks f = crashD (endsD d) ks) ∨ (syncE d ks f = 10 ∧ syncD d ks f = { endsD d with lost := (endsD d).lost - 1 }) ∨ (syncE d ks f = 0 ∧ syncD d ks f = settleD (endsD d) f ((endsD d).fs f).now) := by
  unfold syncE syncD
  cases hb : endsB d
  · have hc : comesD d ks = endsD d := by unfold comesD; rw [hb]; rfl
    rw [hc]
    have hm : mayE (endsD d) f = 0 := may_up (ends_tick hd).1 hf.1 hf.2
    unfold syncE1 syncD1
    rw [hm]
    by_cases hl : 0 < (endsD d).lost
    · right; left
      rw [if_pos rfl, if_pos rfl, if_pos hl, if_pos hl]
      exact ⟨rfl, rfl⟩
    · right; right
      rw [if_pos rfl, if_pos rfl, if_neg hl, if_neg hl]
      exact ⟨rfl, rfl⟩
  · have hc : comesD d ks = crashD (endsD d) ks := by unfold comesD; rw [hb]; rfl
    rw [hc]
    left
    unfold syncE1 syncD1
    rw [may_crash, if_neg (by decide), if_neg (by decide)]
    exact ⟨rfl, rfl⟩
theorem down_calls {d : DS} (hd : d.down = true) (ks : List Int) (f a : Int) (s : ByteArray) : writeE d f a s = 9 ∧ writeD d ks f a s = d ∧ syncE d ks f = 9 ∧ syncD d ks f = d := by
  have e1 : endsB d = false := by unfold endsB; rw [hd]; rfl
  have e2 : endsD d = d := by unfold endsD; rw [hd]; rfl
  have hm : ∀ f, mayE d f = 9 := fun f => by unfold mayE; rw [hd]; rfl
  have hc : comesD d ks = d := by unfold comesD; rw [e1, e2]; rfl
  refine ⟨?_, ?_, ?_, ?_⟩
  · unfold writeE wrE
    rw [e1, e2, hm]; rfl
  · unfold writeD wrD wrE
    rw [e1, e2, hm]; rfl
  · unfold syncE syncE1
    rw [hc, hm]; rfl
  · unfold syncD syncD1
    rw [hc, hm]; rfl
theorem J.lost {d : DS} (h : J d) (n : Int) : J { d with lost := n } := ⟨h.size, h.tail, h.same⟩
theorem J.write {d : DS} (h : J d) (ks : List Int) (f a : Int) (s : ByteArray) : J (writeD d ks f a s) := by
  unfold writeD
  split
  · exact (h.ends.wr _ _ _).crash ks
  · exact h.ends.wr _ _ _
theorem J.sync {d : DS} (h : J d) (ks : List Int) (f : Int) : J (syncD d ks f) := by
  unfold syncD syncD1
  split
  · split
    · exact (h.comes ks).lost _
    · exact (h.comes ks).settle _ _
  · exact h.comes ks
theorem DInv.sync {d : DS} (h : DInv d) (ks : List Int) (f : Int) : DInv (syncD d ks f) := (h.comes ks).sync1 f

/-! A cell on its disk. P: what the cell may read as behind a crash. -/
structure CI (d : DS) (f : Int) (c : CS) (P : Int → ByteArray → Prop) : Prop where
  inv : DInv d
  j : J d
  rng : 0 ≤ f ∧ f ≤ 15
  file : c.file = f
  st : (d.down = false ∧ Stab d f c.slot c.value ∧ P c.slot c.value) ∨
    (d.down = false ∧ c.sure = false ∧ 0 < c.slot ∧ ∃ sl0 v0, Pend d f c.slot c.value sl0 v0 ∧ P c.slot c.value ∧ P sl0 v0) ∨
    (d.down = true ∧ ∃ sl v, Stab d f sl v ∧ P sl v)
section
variable {d : DS} {f : Int} {c : CS} {P Q : Int → ByteArray → Prop}
theorem CI.mono (h : CI d f c P) (hPQ : ∀ sl v, P sl v → Q sl v) : CI d f c Q := by
  refine ⟨h.inv, h.j, h.rng, h.file, ?_⟩
  rcases h.st with ⟨h1, h2, h3⟩ | ⟨h1, h2, h3, sl0, v0, h4, h5, h6⟩ | ⟨h1, sl, v, h2, h3⟩
  · exact .inl ⟨h1, h2, hPQ _ _ h3⟩
  · exact .inr (.inl ⟨h1, h2, h3, sl0, v0, h4, hPQ _ _ h5, hPQ _ _ h6⟩)
  · exact .inr (.inr ⟨h1, sl, v, h2, hPQ _ _ h3⟩)
/-- A crash. -/
theorem CI.crash (h : CI d f c P) (ks : List Int) (c' : CS) (hc : c'.file = f) : CI (crashD d ks) f c' P := by
  refine ⟨h.inv.crash ks, h.j.crash ks, h.rng, hc, .inr (.inr ⟨rcrash_down d ks, ?_⟩)⟩
  rcases h.st with ⟨h1, h2, h3⟩ | ⟨h1, h2, h3, sl0, v0, h4, h5, h6⟩ | ⟨h1, sl, v, h2, h3⟩
  · exact ⟨_, _, h2.crash h.inv h.j ks, h3⟩
  · rcases h4.crash h.j h1 ks with hs | hs
    · exact ⟨_, _, hs, h5⟩
    · exact ⟨_, _, hs, h6⟩
  · exact ⟨sl, v, h2.crash h.inv h.j ks, h3⟩
/-- The clock of the scheduled crash. -/
theorem CI.ends (h : CI d f c P) : CI (endsD d) f c P := by
  refine ⟨h.inv.ends, h.j.ends, h.rng, h.file, ?_⟩
  have hs := SameF.ends d f
  have hdn : (endsD d).down = d.down := by
    unfold endsD
    split
    · rfl
    · split <;> rfl
  rw [hdn]
  rcases h.st with ⟨h1, h2, h3⟩ | ⟨h1, h2, h3, sl0, v0, h4, h5, h6⟩ | ⟨h1, sl, v, h2, h3⟩
  · exact .inl ⟨h1, h2.same hs, h3⟩
  · exact .inr (.inl ⟨h1, h2, h3, sl0, v0, h4.same hs, h5, h6⟩)
  · exact .inr (.inr ⟨h1, sl, v, h2.same hs, h3⟩)
theorem CI.lost (h : CI d f c P) (n : Int) (hn : 0 ≤ n ∧ n ≤ 9223372036854775807) : CI { d with lost := n } f c P := by
  refine ⟨⟨h.inv.nodup, h.inv.sect, h.inv.now, h.inv.last, hn, h.inv.armed⟩, h.j.lost n, h.rng, h.file, ?_⟩
  have hs : SameF d { d with lost := n } f := ⟨rfl, fun _ h => h⟩
  rcases h.st with ⟨h1, h2, h3⟩ | ⟨h1, h2, h3, sl0, v0, h4, h5, h6⟩ | ⟨h1, sl, v, h2, h3⟩
  · exact .inl ⟨h1, h2.same hs, h3⟩
  · exact .inr (.inl ⟨h1, h2, h3, sl0, v0, h4.same hs, h5, h6⟩)
  · exact .inr (.inr ⟨h1, sl, v, h2.same hs, h3⟩)
theorem CI.lose (h : CI d f c P) (n : Int) (hn : n ≤ 9223372036854775807) : CI (loseD d n) f c P := h.lost _ ⟨by omega, by omega⟩
theorem CI.arm (h : CI d f c P) (n : Int) (hn : n ≤ 9223372036854775807) : CI (armD d n) f c P := by
  refine ⟨h.inv.arm n hn, ⟨h.j.size, h.j.tail, h.j.same⟩, h.rng, h.file, ?_⟩
  have hs : SameF d (armD d n) f := ⟨rfl, fun _ h => h⟩
  rcases h.st with ⟨h1, h2, h3⟩ | ⟨h1, h2, h3, sl0, v0, h4, h5, h6⟩ | ⟨h1, sl, v, h2, h3⟩
  · exact .inl ⟨h1, h2.same hs, h3⟩
  · exact .inr (.inl ⟨h1, h2, h3, sl0, v0, h4.same hs, h5, h6⟩)
  · exact .inr (.inr ⟨h1, sl, v, h2.same hs, h3⟩)
/-- A restart, behind a crash. -/
theorem CI.again (h : CI d f c P) (ks : List Int) : ∃ sl v, openF (startD (crashD d ks)) f = (0, ⟨f, sl, v, false⟩) ∧ CI (startD (crashD d ks)) f ⟨f, sl, v, false⟩ P ∧ P sl v ∧ Has ((startD (crashD d ks)).fs f).now sl v := by
  have h2 := h.crash ks c h.file
  rcases h2.st with ⟨h1, -⟩ | ⟨h1, -⟩ | ⟨h1, sl, v, hs, hP⟩
  · rw [rcrash_down] at h1; cases h1
  · rw [rcrash_down] at h1; cases h1
  · have hs2 : Stab (startD (crashD d ks)) f sl v := ⟨hs.now, hs.last, hs.q⟩
    exact ⟨sl, v, open_has rfl h.rng hs2.now, ⟨h2.inv.start, ⟨h2.j.size, h2.j.tail, h2.j.same⟩, h.rng, rfl, .inl ⟨rfl, hs2, hP⟩⟩, hP, hs2.now⟩

/-! Set. -/
/-- P, or the value s. -/
def Or_ (P : Int → ByteArray → Prop) (s : ByteArray) : Int → ByteArray → Prop := fun sl v => P sl v ∨ (0 < sl ∧ v = s)
/-- What Set leaves. -/
structure SetOk (d : DS) (f : Int) (c : CS) (s : ByteArray) : Prop where
  up : d.down = false
  stab : Stab d f c.slot s
  value : c.value = s
  pos : 0 < c.slot
def SetLaw (f : Int) (P : Int → ByteArray → Prop) (s : ByteArray) (r : Int × DS × CS) : Prop :=
  (r.1 = 0 → SetOk r.2.1 f r.2.2 s) ∧ CI r.2.1 f r.2.2 (Or_ P s)
theorem nxt_pos (c : CS) : nxt c = 1 ∨ nxt c = 2 := by unfold nxt; split <;> simp
theorem noX {x : Int} {p : Prop} (hx : ¬ x = 0) (h : x = 0) : p := absurd h hx
theorem set4_law {s : ByteArray} (hI : DInv d) (hj : J d) (hr : 0 ≤ f ∧ f ≤ 15) (hf : c.file = f) (hd : d.down = false) {sl0 : Int} {v0 : ByteArray} (hp : Pend d f (nxt c) s sl0 v0) (hP : P sl0 v0) (ks : List Int) : SetLaw f P s (set4F d ks c s) := by
  subst hf
  have hn : 0 < nxt c := by rcases nxt_pos c with h | h <;> omega
  have hI4 := hI.sync ks c.file
  have hj4 := hj.sync ks c.file
  have hci : CI d c.file { c with slot := nxt c, value := s, sure := false } (Or_ P s) := ⟨hI, hj, hr, rfl, .inr (.inl ⟨hd, rfl, hn, sl0, v0, hp, .inr ⟨hn, rfl⟩, .inl hP⟩)⟩
  unfold set4F
  rcases sync_cases hd hr ks with ⟨e1, e2⟩ | ⟨e1, e2⟩ | ⟨e1, e2⟩
  · rw [e1, e2]
    exact ⟨fun h => noX (x := 9) (by decide) h, hci.ends.crash ks _ rfl⟩
  · rw [e1, e2]
    refine ⟨fun h => noX (x := 10) (by decide) h, ?_⟩
    have := hci.ends
    rw [e2] at hI4
    exact this.lost _ hI4.lost
  · rw [e2] at hI4 hj4
    rw [e1, e2]
    have hfs := ends_fs hd c.file
    rw [hfs] at hI4 hj4 ⊢
    obtain ⟨hs, -⟩ := hp.now.settle (endsD d) c.file
    have hup : (settleD (endsD d) c.file (d.fs c.file).now).down = false := (ends_tick hd).1
    exact ⟨fun _ => ⟨hup, hs, rfl, hn⟩, ⟨hI4, hj4, hr, rfl, .inl ⟨hup, hs, .inr ⟨hn, rfl⟩⟩⟩⟩
theorem set3_law {s : ByteArray} (hs : s.size ≤ 65536) (hI : DInv d) (hj : J d) (hr : 0 ≤ f ∧ f ≤ 15) (hf : c.file = f) (hd : d.down = false) (h : Stab d f c.slot c.value) (hP : P c.slot c.value) (hD : Dat (d.fs f).now (nxt c) s) (hq : ∀ n : Int, (f, n) ∉ d.q) (ks : List Int) : SetLaw f P s (set3F d ks c s) := by
  subst hf
  have hn : 0 < nxt c := by rcases nxt_pos c with h | h <;> omega
  have hd1 := (ends_tick hd).1
  have hfs := ends_fs hd c.file
  have hs1 := h.same (SameF.ends d c.file)
  have hw : ∀ d' : DS, d'.down = false → wrE d' c.file 0 (hdrB (nxt c) s.size) = 0 := fun d' h' => wrE_ok (may_up h' hr.1 hr.2) (by omega) (by omega) (by rw [size_hdrB]; omega)
  obtain ⟨-, hp⟩ := hs1.wrh (s := s) hs (nxt_pos c) hd1 hr (by rw [hfs]; exact hD) (fun n hn => hq n ((SameF.ends d c.file).q n hn))
  have hI3 := hI.ends.wr c.file 0 (hdrB (nxt c) s.size)
  have hj3 := hj.ends.wr c.file 0 (hdrB (nxt c) s.size)
  have hd3 : (wrD (endsD d) c.file 0 (hdrB (nxt c) s.size)).down = false := by
    unfold wrD; split <;> exact hd1
  unfold set3F
  rcases write_cases hd hw ks with ⟨e1, e2⟩ | ⟨e1, e2⟩
  · rw [e1, e2, if_neg (by decide)]
    refine ⟨fun h => noX (x := 9) (by decide) h, ?_⟩
    have hci : CI (wrD (endsD d) c.file 0 (hdrB (nxt c) s.size)) c.file { c with slot := nxt c, value := s, sure := false } (Or_ P s) := ⟨hI3, hj3, hr, rfl, .inr (.inl ⟨hd3, rfl, hn, _, _, hp, .inr ⟨hn, rfl⟩, .inl hP⟩)⟩
    exact hci.crash ks c rfl
  · rw [e1, e2, if_pos rfl]
    exact set4_law hI3 hj3 hr rfl hd3 hp hP ks
theorem set2_law {s : ByteArray} (hs : s.size ≤ 65536) (hI : DInv d) (hj : J d) (hr : 0 ≤ f ∧ f ≤ 15) (hf : c.file = f) (hd : d.down = false) (h : Stab d f c.slot c.value) (hP : P c.slot c.value) (hD : Dat (d.fs f).now (nxt c) s) (ks : List Int) : SetLaw f P s (set2F d ks c s) := by
  subst hf
  have hI2 := hI.sync ks c.file
  have hj2 := hj.sync ks c.file
  have hci : CI d c.file c (Or_ P s) := ⟨hI, hj, hr, rfl, .inl ⟨hd, h, .inl hP⟩⟩
  have hfs := ends_fs hd c.file
  unfold set2F
  rcases sync_cases hd hr ks with ⟨e1, e2⟩ | ⟨e1, e2⟩ | ⟨e1, e2⟩
  · rw [e1, e2, if_neg (by decide)]
    exact ⟨fun h => noX (x := 9) (by decide) h, hci.ends.crash ks c rfl⟩
  · rw [e1, e2, if_neg (by decide)]
    rw [e2] at hI2
    exact ⟨fun h => noX (x := 10) (by decide) h, hci.ends.lost _ hI2.lost⟩
  · rw [e2] at hI2 hj2
    rw [e1, e2, if_pos rfl]
    rw [hfs] at hI2 hj2 ⊢
    obtain ⟨h3, h4⟩ := h.now.settle (endsD d) c.file
    refine set3_law hs hI2 hj2 hr rfl (ends_tick hd).1 h3 hP ?_ h4 ks
    have : (settleD (endsD d) c.file (d.fs c.file).now).fs c.file = ⟨(d.fs c.file).now, (d.fs c.file).now⟩ := by show upd _ _ _ c.file = _; unfold upd; rw [if_pos rfl]
    rw [this]; exact hD
theorem set1_law {s : ByteArray} (hs : s.size ≤ 65536) (hI : DInv d) (hj : J d) (hr : 0 ≤ f ∧ f ≤ 15) (hf : c.file = f) (hd : d.down = false) (h : Stab d f c.slot c.value) (hP : P c.slot c.value) (ks : List Int) : SetLaw f P s (set1F d ks c s) := by
  subst hf
  have hd1 := (ends_tick hd).1
  have hs1 := h.same (SameF.ends d c.file)
  obtain ⟨-, h2, h3⟩ := hs1.wrv hs hd1 hr
  have hnx : (if c.slot = 1 then (2 : Int) else 1) = nxt c := rfl
  rw [hnx] at h2 h3
  have hw : ∀ d' : DS, d'.down = false → wrE d' c.file (offs (nxt c)) s = 0 := fun d' h' => by
    have : offs (nxt c) = 64 ∨ offs (nxt c) = 131072 := by rcases nxt_pos c with e | e <;> rw [e] <;> simp [offs]
    exact wrE_ok (may_up h' hr.1 hr.2) (by omega) (by omega) (by omega)
  have hI2 := hI.ends.wr c.file (offs (nxt c)) s
  have hj2 := hj.ends.wr c.file (offs (nxt c)) s
  have hd2 : (wrD (endsD d) c.file (offs (nxt c)) s).down = false := by
    unfold wrD; split <;> exact hd1
  unfold set1F
  rcases write_cases hd hw ks with ⟨e1, e2⟩ | ⟨e1, e2⟩
  · rw [e1, e2, if_neg (by decide)]
    have hci : CI (wrD (endsD d) c.file (offs (nxt c)) s) c.file c (Or_ P s) := ⟨hI2, hj2, hr, rfl, .inl ⟨hd2, h2, .inl hP⟩⟩
    exact ⟨fun h => noX (x := 9) (by decide) h, hci.crash ks c rfl⟩
  · rw [e1, e2, if_pos rfl]
    exact set2_law hs hI2 hj2 hr rfl hd2 h2 hP h3 ks
theorem set_law (h : CI d f c P) (ks : List Int) (s : ByteArray) : SetLaw f P s (setF d ks c s) := by
  have hf := h.file
  subst hf
  have hm : CI d c.file c (Or_ P s) := h.mono fun _ _ => .inl
  unfold setF
  split
  · exact ⟨fun h => noX (x := 6) (by decide) h, hm⟩
  · rename_i hlong
    have hs : s.size ≤ 65536 := by omega
    have hI2 := h.inv.sync ks c.file
    have hj2 := h.j.sync ks c.file
    rcases h.st with ⟨h1, h2, h3⟩ | ⟨h1, h2, h3, sl0, v0, h4, h5, h6⟩ | ⟨h1, sl, v, h2, h3⟩
    · have hfs := ends_fs h1 c.file
      split
      · rcases sync_cases h1 h.rng ks with ⟨e1, e2⟩ | ⟨e1, e2⟩ | ⟨e1, e2⟩
        · rw [e1, e2, if_neg (by decide)]
          exact ⟨fun h => noX (x := 9) (by decide) h, hm.ends.crash ks c rfl⟩
        · rw [e1, e2, if_neg (by decide)]
          rw [e2] at hI2
          exact ⟨fun h => noX (x := 10) (by decide) h, hm.ends.lost _ hI2.lost⟩
        · rw [e2] at hI2 hj2
          rw [e1, e2, if_pos rfl]
          rw [hfs] at hI2 hj2 ⊢
          obtain ⟨h4, -⟩ := h2.now.settle (endsD d) c.file
          exact set1_law (c := { c with sure := true }) hs hI2 hj2 h.rng rfl (ends_tick h1).1 h4 h3 ks
      · exact set1_law hs h.inv h.j h.rng rfl h1 h2 h3 ks
    · have hfs := ends_fs h1 c.file
      have hn : need c = true := by unfold need; rw [h2]; simpa using h3
      rw [if_pos hn]
      rcases sync_cases h1 h.rng ks with ⟨e1, e2⟩ | ⟨e1, e2⟩ | ⟨e1, e2⟩
      · rw [e1, e2, if_neg (by decide)]
        exact ⟨fun h => noX (x := 9) (by decide) h, hm.ends.crash ks c rfl⟩
      · rw [e1, e2, if_neg (by decide)]
        rw [e2] at hI2
        exact ⟨fun h => noX (x := 10) (by decide) h, hm.ends.lost _ hI2.lost⟩
      · rw [e2] at hI2 hj2
        rw [e1, e2, if_pos rfl]
        rw [hfs] at hI2 hj2 ⊢
        obtain ⟨h7, -⟩ := h4.now.settle (endsD d) c.file
        exact set1_law (c := { c with sure := true }) hs hI2 hj2 h.rng rfl (ends_tick h1).1 h7 h5 ks
    · obtain ⟨e1, e2, e3, e4⟩ := down_calls h1 ks c.file (offs (nxt c)) s
      have hbad : CI d c.file c (Or_ P s) := hm
      split
      · rw [e3, e4, if_neg (by decide)]
        exact ⟨fun h => noX (x := 9) (by decide) h, hbad⟩
      · unfold set1F
        rw [e1, e2, if_neg (by decide)]
        exact ⟨fun h => noX (x := 9) (by decide) h, hbad⟩
end
end Go.Proofs.YtjgmbildgcighaaDoor
