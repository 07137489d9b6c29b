import Derived.Test.YtjgmbildgcighaaDoorCP2
namespace Go.Proofs.YtjgmbildgcighaaDoor
open Go.RowKit

/-! Where no crash is scheduled and no sync is lost. -/
structure Calm (d : DS) : Prop where
  up : d.down = false
  armed : d.armed = 0
  lost : d.lost = 0
theorem calm0 : Calm ds0 := ⟨rfl, rfl, rfl⟩
section
variable {d : DS} {f : Int}
theorem Calm.sync (h : Calm d) (hr : 0 ≤ f ∧ f ≤ 15) (ks : List Int) : syncE d ks f = 0 ∧ Calm (syncD d ks f) ∧ ((syncD d ks f).fs f).now = (d.fs f).now := by
  obtain ⟨e1, e2⟩ := ends_0 h.armed
  have hc : comesD d ks = d := by unfold comesD; rw [e1, e2]; rfl
  have hm := may_up h.up hr.1 hr.2
  have hl : ¬ 0 < d.lost := by rw [h.lost]; decide
  have hD : syncD d ks f = settleD d f (d.fs f).now := by
    unfold syncD syncD1
    rw [hc, if_pos hm, if_neg hl]
  refine ⟨?_, ?_, ?_⟩
  · unfold syncE syncE1
    rw [hc, if_pos hm, if_neg hl]
  · rw [hD]; exact ⟨h.up, h.armed, h.lost⟩
  · rw [hD]
    show (upd _ _ _ f).now = _
    unfold upd; rw [if_pos rfl]
theorem Calm.write (h : Calm d) (hr : 0 ≤ f ∧ f ≤ 15) {a : Int} {s : ByteArray} (h0 : 0 ≤ a) (h1 : a + s.size ≤ 16777216) (ks : List Int) : writeE d f a s = 0 ∧ Calm (writeD d ks f a s) ∧ ((writeD d ks f a s).fs f).now = putB (d.fs f).now a.toNat s := by
  obtain ⟨e1, e2, e3, e4⟩ := write_up (s := s) h.armed (may_up h.up hr.1 hr.2) h0 h1 ks
  refine ⟨e1, ⟨e3.trans h.up, e2, ?_⟩, e4⟩
  obtain ⟨x1, x2⟩ := ends_0 h.armed
  unfold writeD
  rw [x1, x2]
  simp only [Bool.false_eq_true, if_false]
  unfold wrD
  split <;> exact h.lost
theorem set_ok {c : CS} {s : ByteArray} (h : Calm d) (hr : 0 ≤ f ∧ f ≤ 15) (hf : c.file = f) (hs : s.size ≤ 65536) (ks : List Int) :
    ∃ d', setF d ks c s = (0, d', ⟨f, nxt c, s, true⟩) ∧ Calm d' ∧ (d'.fs f).now = putB (putB (d.fs f).now (offs (nxt c)).toNat s) 0 (hdrB (nxt c) s.size) := by
  subst hf
  have ho : offs (nxt c) = 64 ∨ offs (nxt c) = 131072 := by rcases nxt_pos c with e | e <;> rw [e] <;> simp [offs]
  have go : ∀ (d : DS) (c0 : CS), Calm d → c0.file = c.file → nxt c0 = nxt c → ∃ d', set1F d ks c0 s = (0, d', ⟨c.file, nxt c, s, true⟩) ∧ Calm d' ∧ (d'.fs c.file).now = putB (putB (d.fs c.file).now (offs (nxt c)).toNat s) 0 (hdrB (nxt c) s.size) := by
    intro d c0 h hcf hcn
    obtain ⟨a1, a2, a3⟩ := h.write hr (a := offs (nxt c)) (s := s) (by omega) (by omega) ks
    obtain ⟨b1, b2, b3⟩ := a2.sync hr ks
    obtain ⟨c1, c2, c3⟩ := b2.write hr (a := 0) (s := hdrB (nxt c) s.size) (by omega) (by rw [size_hdrB]; omega) ks
    obtain ⟨g1, g2, g3⟩ := c2.sync hr ks
    refine ⟨_, ?_, g2, by rw [g3, c3, b3, a3]; rfl⟩
    unfold set1F set2F set3F set4F
    rw [hcf, hcn, if_pos a1, if_pos b1, if_pos c1, g1]
    rfl
  unfold setF
  rw [if_neg (by omega)]
  split
  · obtain ⟨b1, b2, b3⟩ := h.sync hr ks
    rw [if_pos b1]
    obtain ⟨d', e1, e2, e3⟩ := go (syncD d ks c.file) { c with sure := true } b2 rfl rfl
    exact ⟨d', e1, e2, by rw [e3, b3]⟩
  · exact go d c h rfl rfl
theorem read_is {a n : Int} {t : ByteArray} (hm : mayE d f = 0) (ha : 0 ≤ a) (hn : (t.size : Int) ≤ n) (hsz : (a.toNat + t.size = (d.fs f).now.size ∨ ((t.size : Int) = n ∧ a.toNat + t.size ≤ (d.fs f).now.size))) (hb : ∀ i, i < t.size → byt (d.fs f).now (a.toNat + i) = byt t i) : readS d f a n = t := by
  apply toL_inj
  rw [readL hm ha (by omega)]
  have hlen : (((toL (d.fs f).now).drop a.toNat).take n.toNat).length = t.size := by
    rw [List.length_take, List.length_drop, toL_len]
    omega
  apply List.ext_getElem (by rw [hlen, toL_len])
  intro i h1 h2
  have hi : i < t.size := by rw [hlen] at h1; exact h1
  have := hb i hi
  unfold byt at this
  rw [List.getElem?_eq_getElem (by rw [toL_len]; omega), List.getElem?_eq_getElem (by rw [toL_len]; omega)] at this
  simpa using this
end
/-! The small example. -/
def c00 : CS := ⟨3, 0, ⟨#[]⟩, false⟩
theorem open_new {f : Int} (hr : 0 ≤ f ∧ f ≤ 15) : openF ds0 f = (0, ⟨f, 0, ⟨#[]⟩, false⟩) := open_has rfl hr (.inl ⟨rfl, rfl, rfl⟩)
theorem J0 : J ds0 := J.zero
structure SmallP (d1 d2 : DS) : Prop where
  s1 : setF ds0 [] c00 ⟨#[97]⟩ = (0, d1, ⟨3, 1, ⟨#[97]⟩, true⟩)
  s2 : setF d1 [] ⟨3, 1, ⟨#[97]⟩, true⟩ ⟨#[98, 99]⟩ = (0, d2, ⟨3, 2, ⟨#[98, 99]⟩, true⟩)
  r1 : readS d2 3 0 6 = ⟨#[2, 2, 0, 0, 0, 0]⟩
  r2 : readS d2 3 64 1 = ⟨#[97]⟩
  r3 : readS d2 3 131072 9 = ⟨#[98, 99]⟩
theorem small_plain : ∃ d1 d2, SmallP d1 d2 := by
  obtain ⟨d1, e1, k1, n1⟩ := set_ok (f := 3) (c := c00) (s := ⟨#[97]⟩) calm0 (by decide) rfl (by decide) []
  obtain ⟨d2, e2, k2, n2⟩ := set_ok (f := 3) (c := ⟨3, 1, ⟨#[97]⟩, true⟩) (s := ⟨#[98, 99]⟩) k1 (by decide) rfl (by decide) []
  have x1 : nxt c00 = 1 := rfl
  have x2 : nxt ⟨3, 1, ⟨#[97]⟩, true⟩ = 2 := rfl
  rw [x1, offs_1] at n1
  rw [x2, offs_2, n1] at n2
  have h0 : (ds0.fs 3).now = ⟨#[]⟩ := rfl
  rw [h0] at n2
  have z1 : (putB ⟨#[]⟩ 64 ⟨#[97]⟩).size = 65 := by rw [size_putB]; rfl
  have z2 : (putB (putB ⟨#[]⟩ 64 ⟨#[97]⟩) 0 (hdrB 1 1)).size = 65 := by rw [size_putB, z1]; rfl
  have z3 : (putB (putB (putB ⟨#[]⟩ 64 ⟨#[97]⟩) 0 (hdrB 1 1)) 131072 ⟨#[98, 99]⟩).size = 131074 := by rw [size_putB, z2]; rfl
  have z4 : (d2.fs 3).now.size = 131074 := by rw [n2, size_putB]; show (if 5 = 0 then _ else max (putB (putB (putB ⟨#[]⟩ 64 ⟨#[97]⟩) 0 (hdrB 1 1)) 131072 ⟨#[98, 99]⟩).size (0 + 5)) = _; rw [z3]; rfl
  have hm : mayE d2 3 = 0 := may_up k2.up (by decide) (by decide)
  have hh1 : (hdrB 1 (ByteArray.mk #[97]).size).size = 5 := rfl
  have hh2 : (hdrB 2 (ByteArray.mk #[98, 99]).size).size = 5 := rfl
  have ha : (ByteArray.mk #[97]).size = 1 := rfl
  have hb : (ByteArray.mk #[98, 99]).size = 2 := rfl
  refine ⟨d1, d2, e1, e2, read_is hm (by decide) (by decide) (.inr ⟨rfl, by rw [z4]; decide⟩) fun i hi => ?_, read_is hm (by decide) (by decide) (.inr ⟨rfl, by rw [z4]; decide⟩) fun i hi => ?_, read_is hm (by decide) (by decide) (.inl (by rw [z4]; rfl)) fun i hi => ?_⟩
  · have hi6 : i < 6 := hi
    rw [n2, byt_putB, hh2, show (0 : Int).toNat + i = i by omega]
    by_cases h5 : i < 5
    · rw [if_pos (by omega)]
      have : i = 0 ∨ i = 1 ∨ i = 2 ∨ i = 3 ∨ i = 4 := by omega
      rcases this with rfl | rfl | rfl | rfl | rfl <;> rfl
    · obtain rfl : i = 5 := by omega
      rw [if_neg (by decide), byt_putB, if_neg (by rw [hb]; decide), byt_putB, hh1, if_neg (by decide), byt_putB, if_neg (by rw [ha]; decide)]
      rfl
  · have hi1 : i < 1 := hi
    obtain rfl : i = 0 := by omega
    rw [n2, byt_putB, hh2, if_neg (by decide), byt_putB, if_neg (by rw [hb]; decide), byt_putB, hh1, if_neg (by decide), byt_putB, if_pos (by rw [ha]; decide)]
    rfl
  · have hi2 : i < 2 := hi
    have e : (131072 : Int).toNat = 131072 := Int.toNat_natCast 131072
    have e2 : 131072 + i - 131072 = i := by omega
    rw [n2, byt_putB, hh2, e, if_neg (by omega), byt_putB, if_pos (by rw [hb]; omega), e2]
end Go.Proofs.YtjgmbildgcighaaDoor
