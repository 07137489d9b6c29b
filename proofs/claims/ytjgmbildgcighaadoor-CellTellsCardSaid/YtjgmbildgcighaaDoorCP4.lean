import Derived.Test.YtjgmbildgcighaaDoorCP3
namespace Go.Proofs.YtjgmbildgcighaaDoor
open Go.RowKit

/-! CellApart, in plain terms. -/
section
variable {d : DS} {f g : Int} {c : CS} {s : ByteArray} {sl : Int} {v : ByteArray}
/-- Stab of file f, and what keeps it. -/
structure Keep (d : DS) (f sl : Int) (v : ByteArray) : Prop where
  inv : DInv d
  j : J d
  st : Stab d f sl v
theorem Keep.crash (h : Keep d f sl v) (ks : List Int) : Keep (crashD d ks) f sl v := ⟨h.inv.crash ks, h.j.crash ks, h.st.crash h.inv h.j ks⟩
theorem Keep.ends (h : Keep d f sl v) : Keep (endsD d) f sl v := ⟨h.inv.ends, h.j.ends, h.st.same (SameF.ends d f)⟩
theorem Keep.write (h : Keep d f sl v) (hg : g ≠ f) (ks : List Int) (a : Int) (t : ByteArray) : Keep (writeD d ks g a t) f sl v := by
  have h1 : Keep (wrD (endsD d) g a t) f sl v := ⟨h.ends.inv.wr _ _ _, h.ends.j.wr _ _ _, h.ends.st.same (SameF.wr hg)⟩
  unfold writeD
  split
  · exact h1.crash ks
  · exact h1
theorem Keep.sync (h : Keep d f sl v) (hg : g ≠ f) (ks : List Int) : Keep (syncD d ks g) f sl v := by
  have hc : Keep (comesD d ks) f sl v := by
    unfold comesD
    split
    · exact h.ends.crash ks
    · exact h.ends
  refine ⟨h.inv.sync ks g, h.j.sync ks g, ?_⟩
  unfold syncD syncD1
  split
  · split
    · exact hc.st.same ⟨rfl, fun _ h => h⟩
    · exact hc.st.same (SameF.settle hg)
  · exact hc.st
theorem Keep.set (h : Keep d f sl v) (hg : c.file ≠ f) (ks : List Int) (s : ByteArray) : Keep (setF d ks c s).2.1 f sl v := by
  have go : ∀ (d : DS) (c0 : CS), Keep d f sl v → c0.file = c.file → Keep (set1F d ks c0 s).2.1 f sl v := by
    intro d c0 h hc
    have hg0 : c0.file ≠ f := by rw [hc]; exact hg
    unfold set1F
    split
    · unfold set2F
      split
      · unfold set3F
        split
        · unfold set4F
          exact (((h.write hg0 ks _ _).sync hg0 ks).write hg0 ks _ _).sync hg0 ks
        · exact ((h.write hg0 ks _ _).sync hg0 ks).write hg0 ks _ _
      · exact (h.write hg0 ks _ _).sync hg0 ks
    · exact h.write hg0 ks _ _
  unfold setF
  split
  · exact h
  · split
    · split
      · exact go _ _ (h.sync hg ks) rfl
      · exact h.sync hg ks
    · exact go _ _ h rfl
end
/-- A cell of a new file. -/
def newC (f : Int) : CS := ⟨f, 0, ⟨#[]⟩, false⟩
theorem stab_new (f : Int) : Stab ds0 f 0 ⟨#[]⟩ := ⟨.inl ⟨rfl, rfl, rfl⟩, .inl ⟨rfl, rfl, rfl⟩, fun n hn => by simp [ds0] at hn⟩
theorem CI.new {f : Int} (hr : 0 ≤ f ∧ f ≤ 15) {P : Int → ByteArray → Prop} (hP : P 0 ⟨#[]⟩) : CI ds0 f (newC f) P := ⟨inv0, J0, hr, rfl, .inl ⟨rfl, stab_new f, hP⟩⟩
structure ApartP (s t : ByteArray) (f g n : Int) (keep : List Int) (d1 d3 : DS) (x : Int) (b1 : CS) (sl : Int) (v : ByteArray) : Prop where
  s1 : setF ds0 [] (newC f) s = (0, d1, ⟨f, 1, s, true⟩)
  s2 : setF (armD d1 n) keep (newC g) t = (x, d3, b1)
  oa : openF (startD (crashD d3 keep)) f = (0, ⟨f, 1, s, false⟩)
  ob : openF (startD (crashD d3 keep)) g = (0, ⟨g, sl, v, false⟩)
  res : (0 < sl ∧ v = t) ∨ (sl = 0 ∧ x ≠ 0)
theorem apart_plain {s t : ByteArray} {f g n : Int} (keep : List Int) (hs : s.size ≤ 65536) (hf : 0 ≤ f ∧ f ≤ 15) (hg : 0 ≤ g ∧ g ≤ 15) (hfg : f ≠ g) (hn : n ≤ 9223372036854775807) : ∃ d1 d3 x b1 sl v, ApartP s t f g n keep d1 d3 x b1 sl v := by
  obtain ⟨d1, e1, k1, -⟩ := set_ok (f := f) (c := newC f) (s := s) calm0 hf rfl hs []
  have x1 : nxt (newC f) = 1 := rfl
  rw [x1] at e1
  -- file f
  have l1 := set_law (CI.new hf (P := fun _ _ => True) trivial) [] s
  rw [e1] at l1
  have st1 := (l1.1 rfl).stab
  have ki1 := l1.2.inv
  have kj1 := l1.2.j
  have K1 : Keep d1 f 1 s := ⟨ki1, kj1, st1⟩
  have K2 : Keep (armD d1 n) f 1 s := ⟨ki1.arm n hn, ⟨kj1.size, kj1.tail, kj1.same⟩, ⟨st1.now, st1.last, st1.q⟩⟩
  -- file g
  have G0 : Keep ds0 g 0 ⟨#[]⟩ := ⟨inv0, J0, stab_new g⟩
  have G1 := G0.set (c := newC f) hfg [] s
  rw [e1] at G1
  have G2 : CI (armD d1 n) g (newC g) (fun sl _ => sl = 0) := ⟨ki1.arm n hn, ⟨kj1.size, kj1.tail, kj1.same⟩, hg, rfl, .inl ⟨k1.up, ⟨G1.st.now, G1.st.last, G1.st.q⟩, rfl⟩⟩
  obtain ⟨⟨x, d3, b1⟩, e2⟩ : ∃ r, r = setF (armD d1 n) keep (newC g) t := ⟨_, rfl⟩
  have l2 := set_law G2 keep t
  have K3 := K2.set (c := newC g) (Ne.symm hfg) keep t
  rw [← e2] at l2 K3
  have K4 := K3.crash keep
  have oa : openF (startD (crashD d3 keep)) f = (0, ⟨f, 1, s, false⟩) := open_has rfl hf K4.st.now
  by_cases hx : x = 0
  · have hok := l2.1 hx
    have C3 : CI d3 g b1 (fun sl v => 0 < sl ∧ v = t) := ⟨l2.2.inv, l2.2.j, hg, l2.2.file, .inl ⟨hok.up, by rw [hok.value]; exact hok.stab, hok.pos, hok.value⟩⟩
    obtain ⟨sl, v, ob, -, hP, -⟩ := C3.again keep
    exact ⟨d1, d3, x, b1, sl, v, e1, e2.symm, oa, ob, .inl hP⟩
  · obtain ⟨sl, v, ob, -, hP, -⟩ := l2.2.again keep
    refine ⟨d1, d3, x, b1, sl, v, e1, e2.symm, oa, ob, ?_⟩
    rcases hP with hP | hP
    · exact .inr ⟨hP, hx⟩
    · exact .inl hP
end Go.Proofs.YtjgmbildgcighaaDoor
