import Derived.Test.YtjgmbildgcighaaDoorD4
namespace Go.Proofs.YtjgmbildgcighaaDoor
open Go.RowKit
/-- Sector p stands at place k. -/
def PairAt (cs : Array Value) (k : Nat) (p : Int × Int) : Prop := cs[k * 2]? = some (.int .i64 p.1) ∧ cs[k * 2 + 1]? = some (.int .i64 p.2)
theorem take_pairs_list : ∀ (q : List (Int × Int)) (l : List Value), (∀ k p, q[k]? = some p → l[k * 2]? = some (.int .i64 p.1) ∧ l[k * 2 + 1]? = some (.int .i64 p.2)) → l.take (q.length * 2) = qcells q
  | [], l, _ => by simp [qcells]
  | p :: r, l, h => by
    obtain ⟨h1, h2⟩ := h 0 p rfl
    cases l with
    | nil => simp at h1
    | cons a l =>
      cases l with
      | nil => simp at h2
      | cons b l =>
        simp at h1 h2
        subst h1 h2
        have := take_pairs_list r l fun k p hk => by
          have := h (k + 1) p (by simpa using hk)
          rw [show (k + 1) * 2 = k * 2 + 1 + 1 by omega] at this
          simpa using this
        rw [qcells_cons, ← this, show (p :: r).length * 2 = r.length * 2 + 1 + 1 by simp; omega]
        rfl
theorem take_pairs {q : List (Int × Int)} {cs : Array Value} (h : ∀ k p, q[k]? = some p → PairAt cs k p) : cs.toList.take (q.length * 2) = qcells q :=
  take_pairs_list q cs.toList fun k p hk => by simpa [PairAt] using h k p hk
theorem PairAt.set_ne {cs : Array Value} {k i : Nat} {p : Int × Int} (h : PairAt cs k p) (hne : k ≠ i) (u v : Value) : PairAt ((cs.setIfInBounds (i * 2) u).setIfInBounds (i * 2 + 1) v) k p := by
  obtain ⟨h1, h2⟩ := h
  refine ⟨?_, ?_⟩
  · rw [Array.getElem?_setIfInBounds_ne (by omega), Array.getElem?_setIfInBounds_ne (by omega)]; exact h1
  · rw [Array.getElem?_setIfInBounds_ne (by omega), Array.getElem?_setIfInBounds_ne (by omega)]; exact h2
theorem PairAt.set_eq {cs : Array Value} {i : Nat} (hi : i * 2 + 1 < cs.size) (p : Int × Int) : PairAt ((cs.setIfInBounds (i * 2) (.int .i64 p.1)).setIfInBounds (i * 2 + 1) (.int .i64 p.2)) i p := by
  refine ⟨?_, ?_⟩
  · rw [Array.getElem?_setIfInBounds_ne (by omega), Array.getElem?_setIfInBounds_self_of_lt (by omega)]
  · rw [Array.getElem?_setIfInBounds_self_of_lt (by simp; omega)]
def notF (f : Int) (p : Int × Int) : Bool := decide (p.1 ≠ f)
/-- The relation of the loop in slices.DeleteFunc. -/
def SdRel (w : World) (g cap : Nat) (f : Int) (q : List (Int × Int)) (j i : Nat) (wr : World) : Prop :=
  ∃ cs, Blk wr g 78 cs ∧ cs.size = cap * 2 ∧ (∀ k p, ((q.take j).filter (notF f))[k]? = some p → PairAt cs k p) ∧ (∀ k p, j ≤ k → q[k]? = some p → PairAt cs k p) ∧ Fr (fun k => k = g) w wr ∧ i = ((q.take j).filter (notF f)).length ∧ i < j
theorem sd_skip {w wr w1 : World} {g cap j i : Nat} {f : Int} {q : List (Int × Int)} {p : Int × Int} (h : SdRel w g cap f q j i wr) (hp : q[j]? = some p) (hm : (p.1 == f) = true) (hf : Fr (fun _ => False) wr w1) : SdRel w g cap f q (j + 1) i w1 := by
  obtain ⟨cs, hb, hs, h1, h2, h3, h4, h5⟩ := h
  obtain ⟨hjl, hjp⟩ := List.getElem?_eq_some_iff.1 hp
  have e : (q.take (j + 1)).filter (notF f) = (q.take j).filter (notF f) := by
    rw [List.take_succ_eq_append_getElem hjl, List.filter_append, hjp]
    have : notF f p = false := by simpa [notF] using hm
    simp [this]
  exact ⟨cs, hb.keep hf fun h => h, hs, by rw [e]; exact h1, fun k p hk => h2 k p (by omega), h3.trans' hf fun _ _ h => h.elim, by rw [e]; exact h4, by omega⟩
theorem sd_move {w wr w1 : World} {g cap j i : Nat} {f : Int} {q : List (Int × Int)} {p : Int × Int} (h : SdRel w g cap f q j i wr) (hcap : q.length ≤ cap) (hp : q[j]? = some p) (hm : (p.1 == f) = false) (hf : Fr (fun _ => False) wr w1) :
    SdRel w g cap f q (j + 1) (i + 1) ((w1.setCell ⟨g, i * 2, none⟩ (.int .i64 p.1)).setCell ⟨g, i * 2 + 1, none⟩ (.int .i64 p.2)) := by
  obtain ⟨cs, hb, hs, h1, h2, h3, h4, h5⟩ := h
  obtain ⟨hjl, hjp⟩ := List.getElem?_eq_some_iff.1 hp
  have e : (q.take (j + 1)).filter (notF f) = (q.take j).filter (notF f) ++ [p] := by
    rw [List.take_succ_eq_append_getElem hjl, List.filter_append, hjp]
    have : notF f p = true := by simpa [notF] using hm
    simp [this]
  refine ⟨_, ((hb.keep hf fun h => h).set_ (i * 2) (.int .i64 p.1)).set_ (i * 2 + 1) (.int .i64 p.2), by simpa using hs, ?_, ?_, ?_, by rw [e, h4]; simp, by omega⟩
  · intro k r hk
    rw [e] at hk
    rcases Nat.lt_or_ge k i with hki | hki
    · rw [List.getElem?_append_left (by omega)] at hk
      exact (h1 k r hk).set_ne (by omega) _ _
    · rw [List.getElem?_append_right (by omega)] at hk
      have hk0 : k - ((q.take j).filter (notF f)).length = 0 := by
        rcases Nat.eq_zero_or_pos (k - ((q.take j).filter (notF f)).length) with h0 | h0
        · exact h0
        · rw [List.getElem?_eq_none (by simp; omega)] at hk; cases hk
      rw [hk0] at hk
      simp at hk
      subst hk
      have : k = i := by omega
      subst this
      exact PairAt.set_eq (by omega) p
  · intro k r hk hr
    exact (h2 k r (by omega) hr).set_ne (by omega) _ _
  · exact ((h3.trans' hf fun _ _ h => h.elim).setCell (fun _ => rfl) _).setCell (fun _ => rfl) _
theorem SdRel.fr {w wr w1 : World} {g cap j i : Nat} {f : Int} {q : List (Int × Int)} (h : SdRel w g cap f q j i wr) (hf : Fr (fun _ => False) wr w1) : SdRel w g cap f q j i w1 := by
  obtain ⟨cs, hb, hs, h1, h2, h3, h4, h5⟩ := h
  exact ⟨cs, hb.keep hf fun h => h, hs, h1, h2, h3.trans' hf fun _ _ h => h.elim, h4, h5⟩
theorem sdel_end {w wr w2 : World} {F : Nat → Prop} {g c i j : Nat} {f : Int} {q : List (Int × Int)} {cs : Array Value} {z : Value} (hr : Row w F 78 2 (.slice (some ⟨g, 0, none⟩) q.length c) q.length (qcells q)) (hcm : c ≤ maxLen) (hqc : q.length ≤ c)
    (hs : cs.size = c * 2) (h1 : ∀ k p, ((q.take j).filter (notF f))[k]? = some p → PairAt cs k p) (h3 : Fr (fun k => k = g) w wr) (h4 : i = ((q.take j).filter (notF f)).length) (hij : i < j) (hj : j ≤ q.length) (hjq : ¬ j < q.length)
    (hz : z.cells.size = 2) (hb2 : Blk w2 g 78 (splice cs (i * 2) (zeros z (q.length - i)))) (hf2 : Fr (fun k => k = g) wr w2) :
    ∃ A c', Ending.returned (.slice (some ⟨g, 0, none⟩) i c) = .returned (.slice A (q.filter (notF f)).length c') ∧ Row w2 F 78 2 (.slice A (q.filter (notF f)).length c') (q.filter (notF f)).length (qcells (q.filter (notF f))) ∧ Fr (Own (.slice (some ⟨g, 0, none⟩) q.length c)) w w2 := by
  have htk : q.take j = q := List.take_of_length_le (by omega)
  rw [htk] at h1 h4
  have hl : (splice cs (i * 2) (zeros z (q.length - i))).size = cs.size := size_splice (by rw [length_zeros, hz]; omega)
  refine ⟨some ⟨g, 0, none⟩, c, by rw [h4], ⟨⟨length_qcells _, .inr ⟨g, c, _, rfl, Nat.zero_le _, hb2, by omega, hcm, by rw [hl, hs], ?_⟩⟩, fun k hk => hr.2 k (by simpa [Value.ownBlock] using hk)⟩, ?_⟩
  · rw [← h4, take_splice_lo (Nat.le_refl _) (by omega), h4]
    exact take_pairs h1
  · exact (h3.trans hf2).mono fun k _ h => by simp [Own, Value.ownBlock, h]
def SdelPost (w : World) (F : Nat → Prop) (v : Value) (q' : List (Int × Int)) (e : Ending) (w' : World) : Prop :=
  ∃ A c, e = .returned (.slice A q'.length c) ∧ Row w' F 78 2 (.slice A q'.length c) q'.length (qcells q') ∧ Fr (Own v) w w'
theorem idxF_cases (q : List (Int × Int)) (f : Int) : (idxF q f = -1 ∧ q.filter (notF f) = q) ∨ ∃ k : Nat, idxF q f = k ∧ k < q.length ∧ (q.take (k + 1)).filter (notF f) = q.take k := by
  unfold idxF
  cases h : q.findIdx? (fun p => p.1 == f) with
  | none =>
    rw [List.findIdx?_eq_none_iff] at h
    refine .inl ⟨rfl, List.filter_eq_self.2 fun p hp => ?_⟩
    have := h p hp
    simpa [notF] using this
  | some k =>
    rw [List.findIdx?_eq_some_iff_getElem] at h
    obtain ⟨hk, h1, h2⟩ := h
    refine .inr ⟨k, rfl, hk, ?_⟩
    rw [List.take_succ_eq_append_getElem hk, List.filter_append]
    have e1 : notF f q[k] = false := by simpa [notF] using h1
    have e2 : (q.take k).filter (notF f) = q.take k := List.filter_eq_self.2 fun p hp => by
      rw [List.mem_take_iff_getElem] at hp
      obtain ⟨j, hj, rfl⟩ := hp
      have := h2 j (by omega)
      simpa [notF] using this
    simp [e1, e2]
set_option maxRecDepth 100000 in
set_option maxHeartbeats 1600000 in
theorem sdel_any (v : Value) (q : List (Int × Int)) (f : Int) (x : Nat) (w : World) (F : Nat → Prop) (hr : Row w F 78 2 v q.length (qcells q)) (hx : w.cell? ⟨x, 0, none⟩ = some (.int .i64 f)) (hxv : v.ownBlock ≠ some x) (hn : q.length ≤ 4194304) :
    Calls Tryd.prog 54 #[v, .func (Fn.func 55) #[] #[.pointer (some ⟨x, 0, none⟩)]] w (SdelPost w F v (q.filter (notF f))) := by
  obtain ⟨A, c, rfl, hc, hcm⟩ := hr.form
  have HQ := Lib.hid hr.qat
  have HX := Lib.hid hx
  have hlx := block_lt_of_cell hx
  have HR := Lib.hid hr
  unfold maxLen at hcm
  rcases idxF_cases q f with ⟨hi, hfil⟩ | ⟨k0, hi, hk0, htk⟩
  · have hend : Hid (∀ w', Fr (fun _ => False) w w' → SdelPost w F (.slice A q.length c) (q.filter (notF f)) (.returned (.slice A q.length c)) w') := by
      intro w' hf
      rw [hfil]
      exact ⟨A, c, rfl, HR.out.keep hf fun _ _ _ h => h, hf.mono fun _ _ h => h.elim⟩
    have HI := Lib.hid hi
    clear hr hx hi hfil
    go_enter Tryd.func54, Tryd.ntmps54
    go_wp2_with fail
    refine (sidx_any A c q f x _ HQ.out HX.out hn).mono ?_
    rintro e w1 ⟨rfl, hf⟩
    rw [HI.out]
    have HF := Lib.hid hf
    clear hf
    go_wp2_with fail
    go_ret
    exact hend.out _ HF.out
  · rcases hr.1.2 with ⟨_, h0⟩ | ⟨g, cap, cur, hv, -, hb, hcap, hm, hsz, hcur⟩
    · omega
    · simp only [Value.slice.injEq] at hv
      obtain ⟨rfl, -, rfl⟩ := hv
      have hgx : x ≠ g := fun e => hxv (by simp [Value.ownBlock, e])
      have hFg : F g := hr.2 g (by simp [Value.ownBlock])
      have hstart : Hid (∀ w', Fr (fun _ => False) w w' → SdRel w g c f q (k0 + 1) k0 w') := by
        intro w' hf
        have hb' : Blk w g 78 cur := hb
        refine ⟨cur, hb'.keep hf fun h => h, hsz, ?_, ?_, hf.mono fun _ _ h => h.elim, by rw [htk]; simp; omega, by omega⟩
        · intro k p hk
          rw [htk] at hk
          have hk2 : q[k]? = some p := by
            rw [List.getElem?_take] at hk
            split at hk
            · exact hk
            · cases hk
          obtain ⟨b, e, -, y1, y2⟩ := HQ.out k p hk2
          simp only [Option.some.injEq, Addr.mk.injEq] at e
          obtain ⟨rfl, -, -⟩ := e
          exact ⟨by rw [← hb'.cell]; exact y1, by rw [← hb'.cell]; exact y2⟩
        · intro k p _ hk2
          obtain ⟨b, e, -, y1, y2⟩ := HQ.out k p hk2
          simp only [Option.some.injEq, Addr.mk.injEq] at e
          obtain ⟨rfl, -, -⟩ := e
          exact ⟨by rw [← hb'.cell]; exact y1, by rw [← hb'.cell]; exact y2⟩
      have HI := Lib.hid hi
      have hk0' : ((k0 : Int) == -1) = false := by simp
      clear hr hx hi htk hb hcur hsz
      go_enter Tryd.func54, Tryd.ntmps54
      go_wp2_with fail
      refine (sidx_any (some ⟨g, 0, none⟩) c q f x _ HQ.out HX.out hn).mono ?_
      rintro e w1 ⟨rfl, hf⟩
      rw [HI.out]
      have hst := Lib.hid (hstart.out w1 hf)
      clear hf hstart
      go_wp2_with fail
      go_loopw [5, 6] (fun i j wr => ∃ jn ii : Nat, jn ≤ q.length ∧ j = .int .i64 jn ∧ i = .int .i64 ii ∧ SdRel w g c f q jn ii wr) (fun _ j _ => q.length - (intOf j).toNat)
      case atStart => exact ⟨k0 + 1, k0, by omega, by go_num, rfl, hst.out⟩
      case round =>
        obtain ⟨j, i, hj, rfl, rfl, hrel⟩ := hrel
        have HR2 := Lib.hid hrel
        obtain ⟨cs, hbs, hss, -, hpr, hfr, -, hij⟩ := hrel
        have hlg := hbs.lt
        by_cases hlt : j < q.length
        · obtain ⟨p, hp⟩ : ∃ p, q[j]? = some p := ⟨_, List.getElem?_eq_getElem hlt⟩
          obtain ⟨z1, z2⟩ := hpr j p (Nat.le_refl _) hp
          have y1 : wr.cell? ⟨g, j * 2, none⟩ = some (.int .i64 p.1) := by rw [hbs.cell]; exact z1
          have y2 : wr.cell? ⟨g, j * 2 + 1, none⟩ = some (.int .i64 p.2) := by rw [hbs.cell]; exact z2
          have hxr : wr.cell? ⟨x, 0, none⟩ = some (.int .i64 f) := (hfr.cell (p := ⟨x, 0, none⟩) hlx hgx).trans HX.out
          have hlxr : x < wr.heap.size := Nat.lt_of_lt_of_le hlx hfr.size
          have HP := Lib.hid hp
          have hz : (j : Int) < (q.length : Int) := by omega
          clear hp z1 z2 hpr hfr hst
          cases hm : (p.1 == f)
          · have HM := Lib.hid hm
            have hil : i * 2 + 1 < cs.size := by omega
            have v1 : ∃ u1, wr.cell? ⟨g, i * 2, none⟩ = some u1 := ⟨_, (hbs.cell _).trans (Array.getElem?_eq_getElem (by omega))⟩
            have v2 : ∃ u1, wr.cell? ⟨g, i * 2 + 1, none⟩ = some u1 := ⟨_, (hbs.cell _).trans (Array.getElem?_eq_getElem (by omega))⟩
            obtain ⟨u1, v1⟩ := v1
            obtain ⟨u2, v2⟩ := v2
            have hnext := Lib.hid (sd_move HR2.out hc HP.out HM.out (Fr.refl _ _))
            have v3 : wr.frozen? ⟨g, i * 2, none⟩ = false := hbs.frozen _
            have v4 : wr.frozen? ⟨g, i * 2 + 1, none⟩ = false := hbs.frozen _
            have hiq : (i : Int) < (q.length : Int) := by omega
            clear hm hbs hss
            go_wp2_with fail
            refine (set1_is p f false x _ (by first | exact hxr | (rw [World.cell?_alloc_lt _ _ _ hlxr]; exact hxr)) HM.out).mono ?_
            rintro e w2 ⟨rfl, rfl⟩
            go_wp2_with fail
            go_roundw
            case rel => exact ⟨j + 1, i + 1, by omega, by go_num, by go_num, hnext.out.fr (((Fr.refl _ _).alloc _).alloc _)⟩
            case measure => simp [intOf]; omega
          · have HM := Lib.hid hm
            have hnext := Lib.hid (fun w1 hf => sd_skip (w1 := w1) HR2.out HP.out HM.out hf)
            clear hm hbs hss
            go_wp2_with fail
            refine (set1_is p f true x _ (by first | exact hxr | (rw [World.cell?_alloc_lt _ _ _ hlxr]; exact hxr)) HM.out).mono ?_
            rintro e w2 ⟨rfl, rfl⟩
            go_wp2_with fail
            go_roundw
            case rel => exact ⟨j + 1, i, by omega, by go_num, rfl, hnext.out _ (((Fr.refl _ _).alloc _).alloc _)⟩
            case measure => simp [intOf]; omega
        · have hz : ¬ (j : Int) < (q.length : Int) := by omega
          obtain ⟨cs', hb', hs', q1, -, q3, q4, -⟩ := HR2.out
          have hfin := Lib.hid (fun w2 hb2 hf2 => sdel_end (w2 := w2) (z := .agg #[.int .i64 0, .int .i64 0]) HR.out hm hc hs' q1 q3 q4 hij hj hlt rfl hb2 hf2)
          have HB := Lib.hid hb'
          have HS := Lib.hid hs'
          have hic : ¬ c = i := by omega
          have hiq : (i : Int) ≤ (q.length : Int) := by omega
          have hiq2 : i ≤ c := by omega
          clear hb' hs' q1 q3 q4 hbs hss hpr hfr
          go_wp2_with (refine wpList_clear_row _ rfl (.tmp 38) 59 rfl 78 _ 2 16 sec_elem (by decide) g (i * 2) (q.length - i) (c - i) _ rfl HB.out ?c2 ?_)
          case c2 => rw [HS.out]; omega
          intro w2 hb2 hf2
          have hend := Lib.hid (hfin.out w2 hb2 hf2)
          clear hb2 hf2 hfin
          go_wp2_with fail
          go_ret
          exact hend.out
end Go.Proofs.YtjgmbildgcighaaDoor
