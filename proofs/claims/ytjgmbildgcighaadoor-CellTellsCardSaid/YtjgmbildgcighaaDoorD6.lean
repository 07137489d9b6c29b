import Derived.Test.YtjgmbildgcighaaDoorD5
namespace Go.Proofs.YtjgmbildgcighaaDoor
open Go.RowKit
def unseen {α β : Type} (L : List (α × β × Nat)) (seen : Array Nat) : Nat := (L.filter (fun t => !seen.contains t.2.2)).length
theorem nodup_inj {α β : Type} {g : α → β} {L : List α} (h : (L.map g).Nodup) {u t : α} (hu : u ∈ L) (ht : t ∈ L) (e : g u = g t) : u = t := by
  obtain ⟨i, hi, rfl⟩ := List.getElem_of_mem hu
  obtain ⟨j, hj, rfl⟩ := List.getElem_of_mem ht
  have : i = j := (List.getElem_inj (xs := L.map g) (i := i) (j := j) (h₀ := by simpa using hi) (h₁ := by simpa using hj) h).1 (by simpa using e)
  subst this; rfl
theorem unseen_push {α β : Type} {L : List (α × β × Nat)} {seen : Array Nat} {t : α × β × Nat} (ht : t ∈ L) (hs : seen.contains t.2.2 = false) : unseen L (seen.push t.2.2) < unseen L seen := by
  unfold unseen
  have h1 : L.filter (fun u => !(seen.push t.2.2).contains u.2.2) = (L.filter (fun u => !seen.contains u.2.2)).filter (fun u => !(u.2.2 == t.2.2)) := by
    rw [List.filter_filter]
    apply List.filter_congr
    intro u _
    rw [Array.contains_push]
    cases seen.contains u.2.2 <;> cases h : (u.2.2 == t.2.2) <;> simp_all
  rw [h1]
  refine List.length_filter_lt_length_iff_exists.2 ⟨t, List.mem_filter.2 ⟨ht, ?_⟩, ?_⟩
  · rw [hs]; rfl
  · simp
theorem unseen_filter {α β : Type} (L : List (α × β × Nat)) (seen : Array Nat) (p : α × β × Nat → Bool) : unseen (L.filter p) seen ≤ unseen L seen := by
  unfold unseen
  exact (List.filter_sublist.filter _).length_le
/-- What is left of the set in the midst of maps.DeleteFunc. -/
def keptX (f : Int) (seen : Array Nat) (t : (Int × Int) × Bool × Nat) : Bool := !(seen.contains t.2.2 && (t.1.1 == f))
def MdRel (w : World) (bs r : Nat) (f : Int) (L0 : List ((Int × Int) × Bool × Nat)) (c n : Nat) (wr : World) : Prop :=
  ∃ seen, MapX secV Value.bool wr bs (L0.filter (keptX f seen)) c ∧ wr.heap[r]? = some (.mapIter (some bs) c seen c) ∧ Fr (fun k => k = bs) w wr ∧ n = unseen L0 seen
theorem md_step {w wr w1 w2 : World} {bs r c : Nat} {f : Int} {L0 : List ((Int × Int) × Bool × Nat)} {seen : Array Nat} {t : (Int × Int) × Bool × Nat} (hr : w.heap.size ≤ r) (hf0 : Fr (fun k => k = bs) w wr)
    (hm : MapX secV Value.bool w1 bs (L0.filter (keptX f seen)) c) (hk : (L0.map (·.1)).Nodup) (hb : (L0.map (·.2.2)).Nodup) (ht : t ∈ L0.filter (keptX f seen)) (hf1 : Fr (fun k => k = r) wr w1) (hi : w1.heap[r]? = some (.mapIter (some bs) c (seen.push t.2.2) c))
    (h2 : ((t.1.1 == f) = false ∧ Fr (fun _ => False) w1 w2) ∨ ((t.1.1 == f) = true ∧ MapX secV Value.bool w2 bs ((L0.filter (keptX f seen)).filter (fun u => decide (u.1 ≠ t.1))) c ∧ Fr (fun k => k = bs) w1 w2)) (hs : seen.contains t.2.2 = false) (hsz : r < w1.heap.size) (hrb : r ≠ bs) :
    ∃ n', n' < unseen L0 seen ∧ MdRel w bs r f L0 c n' w2 := by
  have htL := (List.mem_filter.1 ht).1
  refine ⟨unseen L0 (seen.push t.2.2), unseen_push htL hs, seen.push t.2.2, ?_, ?_, ?_, rfl⟩
  · rcases h2 with ⟨hq, hf2⟩ | ⟨hq, hm2, hf2⟩
    · have e : L0.filter (keptX f (seen.push t.2.2)) = L0.filter (keptX f seen) := by
        apply List.filter_congr
        intro u hu
        unfold keptX
        rw [Array.contains_push]
        by_cases hut : u.2.2 = t.2.2
        · have : u = t := nodup_inj hb hu htL hut
          subst this
          simp [hq]
        · have : (u.2.2 == t.2.2) = false := by simpa using hut
          simp [this]
      rw [e]
      exact hm.keep hf2 fun h => h
    · have e : L0.filter (keptX f (seen.push t.2.2)) = (L0.filter (keptX f seen)).filter (fun u => decide (u.1 ≠ t.1)) := by
        rw [List.filter_filter]
        apply List.filter_congr
        intro u hu
        unfold keptX
        rw [Array.contains_push]
        by_cases hut : u = t
        · subst hut; simp [hq]
        · have h1 : u.2.2 ≠ t.2.2 := fun e => hut (nodup_inj hb hu htL e)
          have h2 : u.1 ≠ t.1 := fun e => hut (nodup_inj hk hu htL e)
          have h3 : (u.2.2 == t.2.2) = false := by simpa using h1
          simp [h2, h3]
      rw [e]
      exact hm2
  · rcases h2 with ⟨_, hf2⟩ | ⟨_, _, hf2⟩
    · rw [hf2.block r hsz (fun h => h)]; exact hi
    · rw [hf2.block r hsz hrb]; exact hi
  · have hw1 : Fr (fun k => k = bs) w w1 := hf0.trans' hf1 fun k hk h => by omega
    rcases h2 with ⟨_, hf2⟩ | ⟨_, _, hf2⟩
    · exact hw1.trans' hf2 fun _ _ h => h.elim
    · exact hw1.trans hf2
theorem md_done {wr : World} {bs c : Nat} {f : Int} {L0 : List ((Int × Int) × Bool × Nat)} {q : List (Int × Int)} {seen : Array Nat} (hm : MapX secV Value.bool wr bs (L0.filter (keptX f seen)) c) (hall : ∀ t ∈ L0.filter (keptX f seen), seen.contains t.2.2 = true)
    (hv : ∀ t ∈ L0, t.2.1 = true) (hq : ∀ x, hasX L0 x = decide (x ∈ q)) : SetAt wr bs (q.filter (notF f)) := by
  refine ⟨_, _, hm, fun t ht => hv t (List.mem_filter.1 ht).1, fun x => ?_⟩
  have h1 := hq x
  rw [Bool.eq_iff_iff, hasX_mem]
  rw [Bool.eq_iff_iff, hasX_mem] at h1
  simp only [decide_eq_true_eq, List.mem_filter] at h1 ⊢
  constructor
  · rintro ⟨t, ⟨ht, hk⟩, rfl⟩
    refine ⟨h1.1 ⟨t, ht, rfl⟩, ?_⟩
    have := hall t (List.mem_filter.2 ⟨ht, hk⟩)
    unfold keptX at hk
    rw [this] at hk
    simpa [notF] using hk
  · rintro ⟨hx, hn⟩
    obtain ⟨t, ht, rfl⟩ := h1.2 hx
    refine ⟨t, ⟨ht, ?_⟩, rfl⟩
    unfold keptX
    have : (t.1.1 == f) = false := by simpa [notF] using hn
    simp [this]
set_option maxRecDepth 100000 in
set_option maxHeartbeats 1600000 in
theorem mdel_any (bs : Nat) (q : List (Int × Int)) (f : Int) (x : Nat) (w : World) (hs : SetAt w bs q) (hx : w.cell? ⟨x, 0, none⟩ = some (.int .i64 f)) (hxb : x ≠ bs) :
    Calls Tryd.prog 56 #[.map (some bs), .func (Fn.func 57) #[] #[.pointer (some ⟨x, 0, none⟩)]] w fun e w' => e = .returned (.tuple #[]) ∧ SetAt w' bs (q.filter (notF f)) ∧ Fr (fun k => k = bs) w w' := by
  obtain ⟨L0, c, hm0, hv, hq⟩ := hs
  have hlb := hm0.lt
  have hlx := block_lt_of_cell hx
  have hrg := fun W (h : W.heap[bs]? = some (.map (L0.map (ent secV Value.bool)).toArray c)) => run_range_map (P := Tryd.prog) W 58 78 4 bs _ c Tryd.underlying58 h
  have hrg1 := hrg w hm0.heap
  have hst : Hid (MdRel w bs w.heap.size f L0 c (unseen L0 #[]) (w.alloc (.mapIter (some bs) c #[] c))) := by
    refine ⟨#[], ?_, heap_alloc_new w _, (Fr.refl _ w).alloc _, rfl⟩
    have e : L0.filter (keptX f #[]) = L0 := List.filter_eq_self.2 fun t _ => by simp [keptX]
    rw [e]
    exact hm0.alloc _
  have HM0 := Lib.hid hm0
  have HV := Lib.hid hv
  have HQ := Lib.hid hq
  have HX := Lib.hid hx
  clear hm0 hv hq hx hrg
  go_enter Tryd.func56, Tryd.ntmps56
  go_wp2_with fail
  clear hrg1
  go_loopg [] (unseen L0 #[]) (fun k wr => MdRel w bs w.heap.size f L0 c k wr)
  case atStart => exact hst.out
  case round =>
    obtain ⟨seen, hm, hi, hfr, hk⟩ := hrel
    have hrb : w.heap.size ≠ bs := by omega
    have hxr : wr.cell? ⟨x, 0, none⟩ = some (.int .i64 f) := (hfr.cell (p := ⟨x, 0, none⟩) hlx hxb).trans HX.out
    have hlr : w.heap.size < wr.heap.size := by
      rcases Nat.lt_or_ge w.heap.size wr.heap.size with h | h
      · exact h
      · rw [Array.getElem?_eq_none h] at hi; cases hi
    rcases hm.next (P := Tryd.prog) hi (fun t ht => hm.old t ht) (Nat.le_refl _) 0 with ⟨hall, hrun⟩ | ⟨t, ht, hseen, w1, hrun, hi1, hf1, hsz1, hent⟩
    · have hfin : Hid (SetAt wr bs (q.filter (notF f)) ∧ Fr (fun k => k = bs) w wr) := ⟨md_done hm hall HV.out HQ.out, hfr⟩
      clear hm hi hfr hk hxr hst hall
      go_wp2_with fail
      go_end0
      exact ⟨rfl, hfin.out⟩
    · have hm1 := hm.keep hf1 (Ne.symm hrb)
      have hx1 : w1.cell? ⟨x, 0, none⟩ = some (.int .i64 f) := (hf1.cell (p := ⟨x, 0, none⟩) (Nat.lt_of_lt_of_le hlx hfr.size) (show ¬ x = w.heap.size by omega)).trans hxr
      have hlx1 : x < w1.heap.size := by have := hfr.size; omega
      unfold secV at hrun hent
      have hlr1 : w.heap.size < w1.heap.size := by omega
      subst hk
      have hstep := Lib.hid (fun w2 h2 => md_step (w2 := w2) (Nat.le_refl _) hfr hm1 HM0.out.keys HM0.out.born ht hf1 hi1 h2 hseen hlr1 hrb)
      have HM1 := Lib.hid hm1
      clear hm hi hfr hxr hst hi1 hf1 hm1 ht hseen hsz1
      cases hq : (t.1.1 == f)
      · have HQ1 := Lib.hid hq
        clear hq
        go_wp2_with fail
        refine (set2_is t.1 t.2.1 f false x _ (by first | exact hx1 | (rw [World.cell?_alloc_lt _ _ _ hlx1]; exact hx1)) HQ1.out).mono ?_
        rintro e w2 ⟨rfl, rfl⟩
        obtain ⟨n', hn', hrel'⟩ := hstep.out _ (.inl ⟨HQ1.out, ((Fr.refl _ w1).alloc (.cells #[.int .i64 t.1.1, .int .i64 t.1.2] 78)).alloc (.cells #[.int .i64 t.1.1, .int .i64 t.1.2] 78)⟩)
        have HREL := Lib.hid hrel'
        clear hrel' hrun hent
        go_wp2_with fail
        go_roundg n'
        case rel => exact HREL.out
        case measure => exact hn'
      · have HQ1 := Lib.hid hq
        clear hq
        go_wp2_with fail
        refine (set2_is t.1 t.2.1 f true x _ (by first | exact hx1 | (rw [World.cell?_alloc_lt _ _ _ hlx1]; exact hx1)) HQ1.out).mono ?_
        rintro e w2 ⟨rfl, rfl⟩
        obtain ⟨w3, hrun3, hm3, hf3, hsz3⟩ := ((HM1.out.alloc (.cells #[.int .i64 t.1.1, .int .i64 t.1.2] 78)).alloc (.cells #[.int .i64 t.1.1, .int .i64 t.1.2] 78)).delete key_sec Tryd.underlying58 t.1 0
        unfold secV at hrun3
        obtain ⟨n', hn', hrel'⟩ := hstep.out w3 (.inr ⟨HQ1.out, hm3, (((Fr.refl _ w1).alloc _).alloc _).trans hf3⟩)
        have HREL := Lib.hid hrel'
        clear hrel' hrun hent hm3 hf3 hsz3
        go_wp2_with fail
        go_roundg n'
        case rel => exact HREL.out
        case measure => exact hn'
end Go.Proofs.YtjgmbildgcighaaDoor
