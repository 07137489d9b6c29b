import Derived.Test.YtjgmbildgcighaaDoorCP0
namespace Go.Proofs.YtjgmbildgcighaaDoor
open Go.RowKit

/-! What a file's content opens as. -/
/-- Value v lies in slot sl of the content B. -/
structure Dat (B : ByteArray) (sl : Int) (v : ByteArray) : Prop where
  fit : v.size = 0 ∨ (offs sl).toNat + v.size ≤ B.size
  bytes : ∀ i, i < v.size → byt B ((offs sl).toNat + i) = byt v i
structure Hdr (B : ByteArray) (sl : Int) (n : Nat) : Prop where
  len : 5 ≤ B.size
  bytes : ∀ i, i < 5 → byt B i = byt (hdrB sl n) i
/-- Content B opens as (sl, v); 0: no value. -/
def Has (B : ByteArray) (sl : Int) (v : ByteArray) : Prop :=
  (sl = 0 ∧ v = ⟨#[]⟩ ∧ byt B 0 = 0) ∨ ((sl = 1 ∨ sl = 2) ∧ v.size ≤ 65536 ∧ Hdr B sl v.size ∧ Dat B sl v)
theorem Has.slot {B : ByteArray} {sl : Int} {v : ByteArray} (h : Has B sl v) : sl = 0 ∨ sl = 1 ∨ sl = 2 := by
  rcases h with h | h
  · exact .inl h.1
  · exact .inr h.1
theorem offs_1 : (offs 1).toNat = 64 := rfl
theorem offs_2 : (offs 2).toNat = 131072 := rfl
theorem byB_byt (s : ByteArray) (i : Nat) : byB s i = (byt s i).toNat := rfl
theorem byt_take {s t : ByteArray} {n i : Nat} (h : toL t = (toL s).take n) (hi : i < n) : byt t i = byt s i := by
  unfold byt
  rw [h, List.getElem?_take_of_lt hi]
theorem byt_hdr (sl : Int) (n : Nat) : byt (hdrB sl n) 0 = UInt8.ofNat sl.toNat ∧ byt (hdrB sl n) 1 = UInt8.ofNat n ∧ byt (hdrB sl n) 2 = UInt8.ofNat (n / 256) ∧ byt (hdrB sl n) 3 = UInt8.ofNat (n / 65536) ∧ byt (hdrB sl n) 4 = UInt8.ofNat (n / 16777216) :=
  ⟨rfl, rfl, rfl, rfl, rfl⟩
theorem open_has {d : DS} {f sl : Int} {v : ByteArray} (hd : d.down = false) (hf : 0 ≤ f ∧ f ≤ 15) (h : Has (d.fs f).now sl v) : openF d f = (0, ⟨f, sl, v, false⟩) := by
  have hm := may_up hd hf.1 hf.2
  have hE : readE d f 0 5 = 0 := readE_up hm (by omega) (by omega)
  have hh : toL (readS d f 0 5) = (toL (d.fs f).now).take 5 := by
    rw [readL hm (by omega) (by omega)]
    rfl
  have hb : ∀ i, i < 5 → byt (readS d f 0 5) i = byt (d.fs f).now i := fun i hi => byt_take hh hi
  unfold openF
  dsimp only
  rw [if_pos hE]
  rcases h with ⟨rfl, rfl, h0⟩ | ⟨hsl, hv, hH, hD⟩
  · rw [if_pos (by rw [byB_byt, hb 0 (by decide), h0]; rfl)]
  · have hsz : (readS d f 0 5).size = 5 := by
      rw [← toL_len, hh, List.length_take, toL_len]
      have := hH.len
      omega
    obtain ⟨e0, e1, e2, e3, e4⟩ := byt_hdr sl v.size
    have b0 : byB (readS d f 0 5) 0 = sl.toNat := by
      rw [byB_byt, hb 0 (by decide), hH.bytes 0 (by decide), e0]
      rcases hsl with rfl | rfl <;> rfl
    have hlen : lenB (readS d f 0 5) = v.size := by
      unfold lenB
      rw [byB_byt, byB_byt, byB_byt, byB_byt, hb 1 (by decide), hb 2 (by decide), hb 3 (by decide), hb 4 (by decide), hH.bytes 1 (by decide), hH.bytes 2 (by decide), hH.bytes 3 (by decide), hH.bytes 4 (by decide), e1, e2, e3, e4]
      simp only [UInt8.toNat_ofNat']
      omega
    rw [b0, hlen, if_neg (by omega), if_neg (by omega), if_neg (by omega)]
    have hn : ((sl.toNat : Nat) : Int) = sl := by omega
    rw [hn]
    have hval : readS d f (offs sl) v.size = v := by
      have ho : 0 ≤ offs sl := by rcases hsl with rfl | rfl <;> decide
      apply toL_inj
      rw [readL hm ho (by omega)]
      rw [show ((v.size : Int)).toNat = v.size by omega]
      have hl : ((toL (d.fs f).now).drop (offs sl).toNat).length = (d.fs f).now.size - (offs sl).toNat := by rw [List.length_drop, toL_len]
      apply List.ext_getElem?
      intro i
      rcases Nat.lt_or_ge i v.size with hi | hi
      · rw [List.getElem?_take_of_lt hi, List.getElem?_drop]
        have hfit : (offs sl).toNat + v.size ≤ (d.fs f).now.size := by
          rcases hD.fit with h | h
          · omega
          · exact h
        have := hD.bytes i hi
        unfold byt at this
        rw [List.getElem?_eq_getElem (by rw [toL_len]; omega), List.getElem?_eq_getElem (by rw [toL_len]; omega)] at this ⊢
        simpa using this
      · rw [List.getElem?_eq_none (by rw [List.length_take]; omega), List.getElem?_eq_none (by rw [toL_len]; exact hi)]
    rw [hval, if_pos rfl]

/-! The states of a file. -/
/-- The sectors that the value in slot sl, and the header, lie in. -/
def Area (sl n : Int) : Prop := n = 0 ∨ (sl = 1 ∧ 1 ≤ n ∧ n < 2048) ∨ (sl = 2 ∧ 2048 ≤ n)
/-- The file opens as (sl, v), whatever survives. -/
structure Stab (d : DS) (f sl : Int) (v : ByteArray) : Prop where
  now : Has (d.fs f).now sl v
  last : Has (d.fs f).last sl v
  q : ∀ n : Int, (f, n) ∈ d.q → ¬ Area sl n
/-- The header alone is pending. -/
structure Pend (d : DS) (f sl : Int) (v : ByteArray) (sl0 : Int) (v0 : ByteArray) : Prop where
  now : Has (d.fs f).now sl v
  last : Has (d.fs f).last sl0 v0
  q : ∀ n : Int, (f, n) ∈ d.q → n = 0
/-- The file as it is in both disks. -/
structure SameF (d d' : DS) (f : Int) : Prop where
  fs : d'.fs f = d.fs f
  q : ∀ n : Int, (f, n) ∈ d'.q → (f, n) ∈ d.q
section
variable {d d' : DS} {f sl sl0 : Int} {v v0 : ByteArray}
theorem Stab.same (h : Stab d f sl v) (hs : SameF d d' f) : Stab d' f sl v := ⟨by rw [hs.fs]; exact h.now, by rw [hs.fs]; exact h.last, fun n hn => h.q n (hs.q n hn)⟩
theorem Pend.same (h : Pend d f sl v sl0 v0) (hs : SameF d d' f) : Pend d' f sl v sl0 v0 := ⟨by rw [hs.fs]; exact h.now, by rw [hs.fs]; exact h.last, fun n hn => h.q n (hs.q n hn)⟩
theorem SameF.ends (d : DS) (f : Int) : SameF d (endsD d) f := by
  unfold endsD
  split
  · exact ⟨rfl, fun _ h => h⟩
  · split <;> exact ⟨rfl, fun _ h => h⟩
theorem SameF.wr {g a : Int} {s : ByteArray} (h : g ≠ f) : SameF d (wrD d g a s) f := by
  unfold wrD
  split
  · refine ⟨by show upd _ _ _ _ = _; unfold upd; rw [if_neg (Ne.symm h)], fun n hn => ?_⟩
    rcases addQ_mem.1 hn with hn | ⟨e, -, -⟩
    · exact hn
    · exact absurd e.symm h
  · exact ⟨rfl, fun _ h => h⟩
theorem SameF.settle {g : Int} {s : ByteArray} (h : g ≠ f) : SameF d (settleD d g s) f :=
  ⟨by show upd _ _ _ _ = _; unfold upd; rw [if_neg (Ne.symm h)], fun n hn => (List.mem_filter.1 hn).1⟩
/-- Sectors that are not pending stay as they are durable. -/
theorem surv_keep (ks : List Int) (f : Int) (N : ByteArray) (n : Int) : ∀ (q : List (Int × Int)) (fs : Int → FileC) (k : Nat), (∀ p ∈ q, 0 ≤ p.2) → (fs f).now = N → (fs f).last.size ≤ N.size → (f, n) ∉ q →
    ∀ i : Nat, ((i / 64 : Nat) : Int) = n → byt (survFs fs ks k q f).last i = byt (fs f).last i
  | [], _, _, _, _, _, _, _, _ => rfl
  | p :: r, fs, k, hq, hN, hl, hnq, i, hi => by
    unfold survFs
    cases hb : survB ks k
    · exact surv_keep ks f N n r fs (k + 1) (fun p hp => hq p (by simp [hp])) hN hl (fun h => hnq (by simp [h])) i hi
    · obtain ⟨a1, a2, a3, -⟩ := surv1_f (fs := fs) (f := f) (p := p) (hq p (by simp)) (by rw [hN]; exact hl)
      rw [hN] at a2
      rw [if_pos rfl, surv_keep ks f N n r (surv1 fs p) (k + 1) (fun p hp => hq p (by simp [hp])) ((surv1_now fs p f).trans hN) a2 (fun h => hnq (by simp [h])) i hi, a3, if_neg]
      intro e
      exact hnq (by rw [e, hi]; simp)
theorem crash_fs {ks : List Int} (hd : d.down = false) : ((crashD d ks).fs f).now = (survFs d.fs ks 0 d.q f).last ∧ ((crashD d ks).fs f).last = (survFs d.fs ks 0 d.q f).last ∧ (crashD d ks).q = [] ∧ (crashD d ks).down = true := by
  unfold crashD
  rw [hd]
  exact ⟨rfl, rfl, rfl, rfl⟩
theorem Has.area {B C : ByteArray} (h : Has B sl v) (hs : B.size ≤ C.size) (hb : ∀ i : Nat, Area sl ((i / 64 : Nat) : Int) → byt C i = byt B i) : Has C sl v := by
  rcases h with ⟨rfl, rfl, h0⟩ | ⟨hsl, hv, hH, hD⟩
  · exact .inl ⟨rfl, rfl, by rw [hb 0 (.inl rfl)]; exact h0⟩
  · refine .inr ⟨hsl, hv, ⟨Nat.le_trans hH.len hs, fun i hi => ?_⟩, ⟨?_, fun i hi => ?_⟩⟩
    · rw [hb i (.inl (by omega))]; exact hH.bytes i hi
    · rcases hD.fit with h | h
      · exact .inl h
      · exact .inr (Nat.le_trans h hs)
    · rw [hb]
      · exact hD.bytes i hi
      · rcases hsl with rfl | rfl
        · right; left
          rw [offs_1]
          refine ⟨rfl, ?_, ?_⟩ <;> omega
        · right; right
          rw [offs_2]
          refine ⟨rfl, ?_⟩
          omega
theorem Stab.crash (h : Stab d f sl v) (hI : DInv d) (hJ : J d) (ks : List Int) : Stab (crashD d ks) f sl v := by
  cases hd : d.down
  · obtain ⟨e1, e2, e3, -⟩ := crash_fs (f := f) (ks := ks) hd
    have hq : ∀ p ∈ d.q, 0 ≤ p.2 := fun p hp => (hI.sect p hp).2.2.1
    have hs := surv_some ks f (d.fs f).now (d.fs f).last d.q d.fs 0 hq rfl (Nat.le_refl _) (hJ.size f) (fun n => .inr fun _ _ => rfl)
    have hL : Has (survFs d.fs ks 0 d.q f).last sl v := h.last.area hs.1 fun i hi => surv_keep ks f (d.fs f).now _ d.q d.fs 0 hq rfl (hJ.size f) (fun hm => h.q _ hm hi) i rfl
    exact ⟨by rw [e1]; exact hL, by rw [e2]; exact hL, by rw [e3]; simp⟩
  · have : crashD d ks = d := by unfold crashD; rw [hd]; rfl
    rw [this]; exact h
theorem nxt_area {c : Int} {s : ByteArray} (hs : s.size ≤ 65536) (hc : c = 0 ∨ c = 1 ∨ c = 2) (n : Int) (h1 : offs (if c = 1 then 2 else 1) / 64 ≤ n) (h2 : n ≤ (offs (if c = 1 then 2 else 1) + s.size - 1) / 64) : ¬ Area c n := by
  unfold Area
  rcases hc with rfl | rfl | rfl
  · rw [if_neg (by decide)] at h1 h2
    have : offs 1 = 64 := rfl
    rw [this] at h1 h2
    omega
  · rw [if_pos rfl] at h1 h2
    have : offs 2 = 131072 := rfl
    rw [this] at h1 h2
    omega
  · rw [if_neg (by decide)] at h1 h2
    have : offs 1 = 64 := rfl
    rw [this] at h1 h2
    omega
/-- The value goes into the other slot. -/
theorem Stab.wrv (h : Stab d f sl v) {s : ByteArray} (hs : s.size ≤ 65536) (hd : d.down = false) (hf : 0 ≤ f ∧ f ≤ 15) :
    wrE d f (offs (if sl = 1 then 2 else 1)) s = 0 ∧ Stab (wrD d f (offs (if sl = 1 then 2 else 1)) s) f sl v ∧ Dat ((wrD d f (offs (if sl = 1 then 2 else 1)) s).fs f).now (if sl = 1 then 2 else 1) s := by
  have hsl := h.now.slot
  have hm := may_up hd hf.1 hf.2
  have hoc : offs (if sl = 1 then 2 else 1) = 64 ∨ offs (if sl = 1 then 2 else 1) = 131072 := by split <;> simp [offs]
  have hE := wrE_ok (s := s) (a := offs (if sl = 1 then 2 else 1)) hm (by omega) (by omega) (by omega)
  refine ⟨hE, ?_⟩
  by_cases h0 : s.size = 0
  · rw [wrD_none h0]
    exact ⟨h, .inl h0, fun i hi => by omega⟩
  · obtain ⟨a, ha⟩ : ∃ a : Nat, offs (if sl = 1 then 2 else 1) = a := ⟨(offs (if sl = 1 then 2 else 1)).toNat, by omega⟩
    have hD : wrD d f (offs (if sl = 1 then 2 else 1)) s = { d with fs := upd d.fs f ⟨putB (d.fs f).now a s, (d.fs f).last⟩, q := addQ d.q f (offs (if sl = 1 then 2 else 1) / 64) (((offs (if sl = 1 then 2 else 1) + s.size - 1) / 64 - offs (if sl = 1 then 2 else 1) / 64).toNat + 1) } := by
      unfold wrD
      rw [if_pos ⟨hE, h0⟩, ha]
      rfl
    have hnow : ((wrD d f (offs (if sl = 1 then 2 else 1)) s).fs f).now = putB (d.fs f).now a s := by rw [hD]; show (upd _ _ _ f).now = _; unfold upd; rw [if_pos rfl]
    have hlast : ((wrD d f (offs (if sl = 1 then 2 else 1)) s).fs f).last = (d.fs f).last := by rw [hD]; show (upd _ _ _ f).last = _; unfold upd; rw [if_pos rfl]
    have hsz := size_putB (d.fs f).now a s
    rw [if_neg h0] at hsz
    refine ⟨⟨?_, by rw [hlast]; exact h.last, fun n hn => ?_⟩, ⟨.inr ?_, fun i hi => ?_⟩⟩
    · rw [hnow]
      refine h.now.area (by rw [hsz]; omega) fun i hi => ?_
      rw [byt_putB, if_neg]
      intro hr
      have h1 : offs (if sl = 1 then 2 else 1) / 64 ≤ ((i / 64 : Nat) : Int) := by omega
      have h2 : ((i / 64 : Nat) : Int) ≤ (offs (if sl = 1 then 2 else 1) + s.size - 1) / 64 := by omega
      exact nxt_area hs hsl _ h1 h2 hi
    · rw [hD] at hn
      rcases addQ_mem.1 hn with hn | ⟨-, h1, h2⟩
      · exact h.q n hn
      · exact nxt_area hs hsl n h1 (by dsimp only at h2; omega)
    · rw [hnow, hsz, ha]
      omega
    · rw [hnow, ha, show ((a : Int)).toNat = a by omega, byt_putB, if_pos (by omega)]
      congr 1
      omega
theorem Has.settle {B : ByteArray} (h : Has B sl v) (d : DS) (f : Int) : Stab (settleD d f B) f sl v ∧ ∀ n : Int, (f, n) ∉ (settleD d f B).q := by
  have hfs : (settleD d f B).fs f = ⟨B, B⟩ := by show upd _ _ _ f = _; unfold upd; rw [if_pos rfl]
  have hq : ∀ n : Int, (f, n) ∉ (settleD d f B).q := fun n hn => by
    have := (List.mem_filter.1 hn).2
    simp at this
  exact ⟨⟨by rw [hfs]; exact h, by rw [hfs]; exact h, fun n hn => absurd hn (hq n)⟩, hq⟩
/-- The header is written. -/
theorem Stab.wrh (h : Stab d f sl v) {s : ByteArray} {sl' : Int} (hs : s.size ≤ 65536) (hsl : sl' = 1 ∨ sl' = 2) (hd : d.down = false) (hf : 0 ≤ f ∧ f ≤ 15) (hD : Dat (d.fs f).now sl' s) (hq : ∀ n : Int, (f, n) ∉ d.q) :
    wrE d f 0 (hdrB sl' s.size) = 0 ∧ Pend (wrD d f 0 (hdrB sl' s.size)) f sl' s sl v := by
  have hm := may_up hd hf.1 hf.2
  have h5 := size_hdrB sl' s.size
  have hE := wrE_ok (s := hdrB sl' s.size) (a := 0) hm (by omega) (by omega) (by rw [h5]; omega)
  refine ⟨hE, ?_⟩
  have hDD : wrD d f 0 (hdrB sl' s.size) = { d with fs := upd d.fs f ⟨putB (d.fs f).now 0 (hdrB sl' s.size), (d.fs f).last⟩, q := addQ d.q f 0 1 } := by
    have e : (((0 : Int) + ((hdrB sl' s.size).size : Int) - 1) / 64 - 0 / 64).toNat + 1 = 1 := by rw [h5]; rfl
    unfold wrD
    rw [if_pos ⟨hE, by rw [h5]; decide⟩, e]
    rfl
  have hnow : ((wrD d f 0 (hdrB sl' s.size)).fs f).now = putB (d.fs f).now 0 (hdrB sl' s.size) := by rw [hDD]; show (upd _ _ _ f).now = _; unfold upd; rw [if_pos rfl]
  have hlast : ((wrD d f 0 (hdrB sl' s.size)).fs f).last = (d.fs f).last := by rw [hDD]; show (upd _ _ _ f).last = _; unfold upd; rw [if_pos rfl]
  have hsz := size_putB (d.fs f).now 0 (hdrB sl' s.size)
  rw [h5, if_neg (by decide)] at hsz
  refine ⟨?_, by rw [hlast]; exact h.last, fun n hn => ?_⟩
  · rw [hnow]
    refine .inr ⟨hsl, hs, ⟨by rw [hsz]; omega, fun i hi => ?_⟩, ⟨?_, fun i hi => ?_⟩⟩
    · rw [byt_putB, h5, if_pos (by omega)]
      rfl
    · rcases hD.fit with h | h
      · exact .inl h
      · exact .inr (by rw [hsz]; omega)
    · have ho : 64 ≤ (offs sl').toNat := by rcases hsl with rfl | rfl <;> decide
      rw [byt_putB, h5, if_neg (by omega)]
      exact hD.bytes i hi
  · rw [hDD] at hn
    rcases addQ_mem.1 hn with hn | ⟨-, h1, h2⟩
    · exact absurd hn (hq n)
    · dsimp only at h1 h2; omega
/-- Of a pending header all survives, or nothing. -/
theorem surv_head (ks : List Int) (f : Int) (N O : ByteArray) (hput : 0 < N.size → ∀ X, X = N ∨ X = O → putB X 0 (N.extract 0 (min 64 N.size)) = N) : ∀ (q : List (Int × Int)) (fs : Int → FileC) (k : Nat), (∀ p ∈ q, p.1 = f → p.2 = 0) → (fs f).now = N → ((fs f).last = N ∨ (fs f).last = O) →
    (survFs fs ks k q f).last = N ∨ (survFs fs ks k q f).last = O
  | [], _, _, _, _, h => h
  | p :: r, fs, k, hq, hN, h => by
    unfold survFs
    cases hb : survB ks k
    · exact surv_head ks f N O hput r fs (k + 1) (fun p hp => hq p (by simp [hp])) hN h
    · rw [if_pos rfl]
      refine surv_head ks f N O hput r (surv1 fs p) (k + 1) (fun p hp => hq p (by simp [hp])) ((surv1_now fs p f).trans hN) ?_
      unfold surv1
      split
      · exact h
      · rename_i hc
        unfold upd
        by_cases hf : f = p.1
        · have h0 := hq p (by simp) hf.symm
          rw [if_pos hf]
          left
          subst hf
          rw [hN, h0] at hc ⊢
          have := hput (by omega) _ h
          simpa using this
        · rw [if_neg hf]; exact h
theorem Pend.crash (h : Pend d f sl v sl0 v0) (hJ : J d) (hd : d.down = false) (ks : List Int) : Stab (crashD d ks) f sl v ∨ Stab (crashD d ks) f sl0 v0 := by
  obtain ⟨e1, e2, e3, -⟩ := crash_fs (f := f) (ks := ks) hd
  have hput : 0 < (d.fs f).now.size → ∀ X, X = (d.fs f).now ∨ X = (d.fs f).last → putB X 0 ((d.fs f).now.extract 0 (min 64 (d.fs f).now.size)) = (d.fs f).now := by
    intro h0 X hX
    have hx := size_extract (d.fs f).now 0 (min 64 (d.fs f).now.size)
    have hsz := size_putB X 0 ((d.fs f).now.extract 0 (min 64 (d.fs f).now.size))
    rw [if_neg (by omega)] at hsz
    have hle := hJ.size f
    have htl : (d.fs f).last.size < (d.fs f).now.size → (d.fs f).now.size ≤ 64 := fun hl => by
      have := h.q _ (hJ.tail f hl)
      omega
    have hsame : ∀ i : Nat, 64 ≤ i → byt (d.fs f).now i = byt (d.fs f).last i := fun i hi => hJ.same f i fun hm => by
      have := h.q _ hm
      omega
    refine byt_ext ?_ fun i => ?_
    · rcases hX with rfl | rfl <;> omega
    · rw [byt_putB]
      split
      · rename_i hr
        have e : 0 + (i - 0) = i := by omega
        rw [byt_extract _ _ _ _ (by omega), e]
      · rename_i hr
        rcases hX with rfl | rfl
        · rfl
        · rcases Nat.lt_or_ge i 64 with hi | hi
          · rw [byt_end (s := (d.fs f).now) (by omega), byt_end (by omega)]
          · exact (hsame i hi).symm
  rcases surv_head ks f (d.fs f).now (d.fs f).last hput d.q d.fs 0 (fun p hp e => h.q p.2 (by rw [← e]; exact hp)) rfl (.inr rfl) with hL | hL
  · left
    exact ⟨by rw [e1, hL]; exact h.now, by rw [e2, hL]; exact h.now, by rw [e3]; simp⟩
  · right
    exact ⟨by rw [e1, hL]; exact h.last, by rw [e2, hL]; exact h.last, by rw [e3]; simp⟩
end
end Go.Proofs.YtjgmbildgcighaaDoor
