import Derived.Test.YtjgmbildgcighaaP1
namespace Go.Proofs.Ytjgmbildgcighaa
open Go.RowKit

/-! DiskSynced, in plain terms. -/
/-- File f is s, and durably so. -/
structure Du (d : DS) (f : Int) (s : ByteArray) : Prop where
  now : (d.fs f).now = s
  last : (d.fs f).last = s
  q : ∀ p ∈ d.q, p.1 ≠ f
section
variable {d : DS} {f : Int} {s : ByteArray} (h : Du d f s)
include h
theorem Du.ends : Du (endsD d) f s := by
  unfold endsD
  split
  · exact h
  · split
    · exact h
    · exact ⟨h.now, h.last, h.q⟩
omit h in
theorem Du.surv (ks : List Int) : ∀ (q : List (Int × Int)) (fs : Int → FileC) (i : Nat), (∀ p ∈ q, p.1 ≠ f) → fs f = d.fs f → survFs fs ks i q f = d.fs f := by
  intro q
  induction q with
  | nil => intro fs i _ h2; exact h2
  | cons p r ih =>
    intro fs i h1 h2
    unfold survFs
    refine ih _ _ (fun p hp => h1 p (by simp [hp])) ?_
    have hp : p.1 ≠ f := h1 p (by simp)
    split
    · unfold surv1
      split
      · exact h2
      · unfold upd
        rw [if_neg (fun e => hp e.symm)]
        exact h2
    · exact h2
theorem Du.crash (ks : List Int) : Du (crashD d ks) f s := by
  unfold crashD
  split
  · exact h
  · have := Du.surv (d := d) (f := f) ks d.q d.fs 0 h.q rfl
    refine ⟨?_, ?_, by simp⟩
    · show (survFs d.fs ks 0 d.q f).last = s
      rw [this]; exact h.last
    · show (survFs d.fs ks 0 d.q f).last = s
      rw [this]; exact h.last
theorem Du.wr {f' a : Int} {t : ByteArray} (hf : f' ≠ f) : Du (wrD d f' a t) f s := by
  unfold wrD
  split
  · have e : upd d.fs f' ⟨putB (d.fs f').now a.toNat t, (d.fs f').last⟩ f = d.fs f := by
      unfold upd; rw [if_neg (fun e => hf e.symm)]
    refine ⟨by show (upd _ _ _ f).now = s; rw [e]; exact h.now, by show (upd _ _ _ f).last = s; rw [e]; exact h.last, fun p hp => ?_⟩
    rcases addQ_mem.1 hp with hp | ⟨e1, -, -⟩
    · exact h.q p hp
    · rw [e1]; exact hf
  · exact h
theorem Du.settle {f' : Int} {t : ByteArray} (hf : f' ≠ f) : Du (settleD d f' t) f s := by
  have e : upd d.fs f' ⟨t, t⟩ f = d.fs f := by unfold upd; rw [if_neg (fun e => hf e.symm)]
  exact ⟨by show (upd _ _ _ f).now = s; rw [e]; exact h.now, by show (upd _ _ _ f).last = s; rw [e]; exact h.last, fun p hp => h.q p (List.mem_filter.1 hp).1⟩
theorem Du.comes (ks : List Int) : Du (comesD d ks) f s := by
  unfold comesD
  split
  · exact h.ends.crash ks
  · exact h.ends
theorem Du.act (ks : List Int) (a : ActV) (ha : (kindA a < 4 ∧ a.f ≠ f) ∨ kindA a = 4) : Du (actD d ks a) f s := by
  unfold actD
  split
  · have hf : a.f ≠ f := by omega
    unfold syncD syncD1
    split
    · split
      · have := h.comes ks; exact ⟨this.now, this.last, this.q⟩
      · exact (h.comes ks).settle hf
    · exact h.comes ks
  · split
    · have hf : a.f ≠ f := by omega
      unfold truncD truncD1
      split
      · exact (h.comes ks).settle hf
      · exact h.comes ks
    · split
      · exact ⟨h.now, h.last, h.q⟩
      · rw [if_neg (by omega), if_neg (by omega), if_neg (by omega)]
        have hf : a.f ≠ f := by omega
        unfold writeD
        split
        · exact (h.ends.wr hf).crash ks
        · exact h.ends.wr hf
theorem Du.read (hf : 0 ≤ f ∧ f < 16) (hs : s.size ≤ 16777216) (ks : List Int) : readE (startD (crashD d ks)) f 0 16777216 = 0 ∧ readS (startD (crashD d ks)) f 0 16777216 = s := by
  have hm : mayE (startD (crashD d ks)) f = 0 := may_up rfl hf.1 (by omega)
  refine ⟨readE_up hm (by omega) (by omega), toL_inj ?_⟩
  rw [readL hm (by omega) (by omega)]
  have : ((startD (crashD d ks)).fs f).now = s := (h.crash ks).now
  rw [this, Int.toNat_zero, List.drop_zero, List.take_of_length_le]
  rw [toL_len]; exact hs
end
/-- A file read whole. -/
theorem read_whole {d : DS} (hI : DInv d) {f : Int} (hm : mayE d f = 0) : readE d f 0 16777216 = 0 ∧ readS d f 0 16777216 = (d.fs f).now := by
  refine ⟨readE_up hm (by omega) (by omega), toL_inj ?_⟩
  rw [readL hm (by omega) (by omega), Int.toNat_zero, List.drop_zero, List.take_of_length_le]
  rw [toL_len]; exact hI.now f
/-- A Sync that succeeds. -/
theorem sync_law {d : DS} (hI : DInv d) {ks : List Int} {f : Int} (h : syncE d ks f = 0) :
    (0 ≤ f ∧ f < 16) ∧ readS d f 0 16777216 = (d.fs f).now ∧ readE (syncD d ks f) f 0 16777216 = 0 ∧ readS (syncD d ks f) f 0 16777216 = (d.fs f).now ∧ Du (syncD d ks f) f (d.fs f).now := by
  have hI2 : DInv (syncD d ks f) := (hI.comes ks).sync1 f
  have h' := h
  unfold syncE syncE1 at h
  split at h
  · rename_i hm
    obtain ⟨hdn, hf0, hf1⟩ := mayE_zero hm
    split at h
    · omega
    · rename_i hl
      have hb : endsB d = false := by
        cases hb : endsB d
        · rfl
        · have hd0 : d.down = false := by
            cases hd : d.down
            · rfl
            · simp [endsB, hd] at hb
          unfold comesD at hdn
          rw [hb, if_pos rfl] at hdn
          have h0 : (endsD d).down = false := by
            unfold endsD; split
            · exact hd0
            · split <;> exact hd0
          unfold crashD at hdn
          rw [h0] at hdn
          simp at hdn
      have hc : comesD d ks = endsD d := by unfold comesD; rw [hb]; rfl
      have hd0 : d.down = false := by
        rw [hc] at hdn
        unfold endsD at hdn
        split at hdn
        · exact hdn
        · split at hdn <;> exact hdn
      have hfs : (endsD d).fs = d.fs := by
        unfold endsD; split
        · rfl
        · split <;> rfl
      have hm0 : mayE d f = 0 := may_up hd0 hf0 (by omega)
      have hD : syncD d ks f = settleD (endsD d) f ((endsD d).fs f).now := by
        unfold syncD syncD1
        rw [if_pos hm, if_neg hl, hc]
      have hdu : Du (syncD d ks f) f (d.fs f).now := by
        rw [hD, hfs]
        refine ⟨by simp [settleD, upd], by simp [settleD, upd], fun p hp => ?_⟩
        have := (List.mem_filter.1 hp).2
        simpa using this
      have hm2 : mayE (syncD d ks f) f = 0 := by
        refine may_up ?_ hf0 (by omega)
        rw [hD]
        show (endsD d).down = false
        rw [← hc]; exact hdn
      have r1 := read_whole hI hm0
      have r2 := read_whole hI2 hm2
      rw [hdu.now] at r2
      exact ⟨⟨hf0, hf1⟩, r1.2, r2.1, r2.2, hdu⟩
  · rename_i hm
    exact absurd h hm
end Go.Proofs.Ytjgmbildgcighaa
