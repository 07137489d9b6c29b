import Derived.Test.YtjgmbildgcighaaDoorD8
namespace Go.Proofs.YtjgmbildgcighaaDoor
open Go.RowKit
theorem survFs_snoc (ks : List Int) (p : Int × Int) : ∀ (l : List (Int × Int)) (fs : Int → FileC) (i : Nat), survFs fs ks i (l ++ [p]) = if survB ks (i + l.length) then surv1 (survFs fs ks i l) p else survFs fs ks i l
  | [], fs, i => by simp [survFs]
  | r :: l, fs, i => by
    simp only [List.cons_append, survFs, List.length_cons]
    rw [survFs_snoc ks p l _ (i + 1), show i + 1 + l.length = i + (l.length + 1) by omega]
def survK (fs : Int → FileC) (ks : List Int) (q : List (Int × Int)) (k : Nat) : Int → FileC := survFs fs ks 0 (q.take k)
theorem survK_succ {fs : Int → FileC} {ks : List Int} {q : List (Int × Int)} {k : Nat} {p : Int × Int} (hp : q[k]? = some p) : survK fs ks q (k + 1) = if survB ks k then surv1 (survK fs ks q k) p else survK fs ks q k := by
  obtain ⟨hk, rfl⟩ := List.getElem?_eq_some_iff.1 hp
  unfold survK
  rw [List.take_succ_eq_append_getElem hk, survFs_snoc]
  simp [Nat.min_eq_left (Nat.le_of_lt hk)]
/-- The disk in the midst of Crash. -/
def midD (d : DS) (fs : Int → FileC) : DS := { d with fs := fs, down := true, armed := 0 }
theorem DInv.mid {d : DS} (h : DInv d) (ks : List Int) (k : Nat) : DInv (midD d (survK d.fs ks d.q k)) := by
  have hq : ∀ p ∈ d.q.take k, 0 ≤ p.2 ∧ p.2 < 262144 := fun p hp => ⟨(h.sect p (List.mem_of_mem_take hp)).2.2.1, (h.sect p (List.mem_of_mem_take hp)).2.2.2⟩
  exact ⟨h.nodup, h.sect, fun n => by show (survFs d.fs ks 0 (d.q.take k) n).now.size ≤ _; rw [survFs_now]; exact h.now n, fun n => survFs_last ks _ _ 0 hq h.now h.last n, h.lost, by show (0 : Int) ≤ 0 ∧ (0 : Int) ≤ _; decide⟩
def CrRel (w : World) (F : Nat → Prop) (g : Nat) (kv : Value) (d : DS) (ks : List Int) (bf bs : Nat) (qv : Value) (k : Nat) (wr : World) : Prop :=
  DiskX wr F g kv (midD d (survK d.fs ks d.q k)) bf bs qv ∧ Fr F w wr
theorem survB_off {ks : List Int} {k : Nat} (h : survB ks k = false) : ks.length = 0 ∨ ∃ x, ks[k % ks.length]? = some x ∧ (bits .and .i64 x 1 == 0) = true := by
  unfold survB at h
  cases hk : ks[k % ks.length]? with
  | none =>
    left
    rcases Nat.eq_zero_or_pos ks.length with h0 | h0
    · exact h0
    · have := Nat.mod_lt k h0
      rw [List.getElem?_eq_getElem this] at hk; cases hk
  | some x =>
    right
    rw [hk] at h
    refine ⟨x, rfl, ?_⟩
    rw [and1]
    simp only [beq_eq_false_iff_ne, ne_eq] at h
    simp only [beq_iff_eq]
    omega
theorem survB_on {ks : List Int} {k : Nat} (h : survB ks k = true) : ks.length ≠ 0 ∧ ∃ x, ks[k % ks.length]? = some x ∧ (bits .and .i64 x 1 == 0) = false := by
  unfold survB at h
  cases hk : ks[k % ks.length]? with
  | none => rw [hk] at h; simp at h
  | some x =>
    rw [hk] at h
    refine ⟨fun h0 => by have := (List.getElem?_eq_some_iff.1 hk).1; omega, x, rfl, ?_⟩
    rw [and1]
    simp only [beq_iff_eq] at h
    simp only [beq_eq_false_iff_ne, ne_eq]
    omega
theorem surv1_no {fs : Int → FileC} {p : Int × Int} (h : ((fs p.1).now.size : Int) ≤ p.2 * 64) : surv1 fs p = fs := by unfold surv1; rw [if_pos h]
theorem surv1_yes {fs : Int → FileC} {p : Int × Int} {a e : Nat} (h : ¬ ((fs p.1).now.size : Int) ≤ p.2 * 64) (ha : p.2 * 64 = a) (he : e = min (a + 64) (fs p.1).now.size) :
    surv1 fs p = upd fs p.1 ⟨(fs p.1).now, putB (fs p.1).last a ((fs p.1).now.extract a e)⟩ := by
  unfold surv1
  rw [if_neg h, ha, show ((a : Int)).toNat = a by omega, show ((a : Int) + 64).toNat = a + 64 by omega, he]
theorem holdC {w w' : World} {g x bf : Nat} {u v : Int} {v1 v2 v3 v4 v5 v6 r : Value} (hb : Blk w g 61 #[.map (some bf), v1, v2, v3, v4, v5, v6]) (hx : Blk w x 78 #[.int .i64 u, .int .i64 v])
    (hl : ∀ W : World, W.heap[bf]? = w.heap[bf]? → (Instr.lookup 57 (.map (some bf)) (.int .i64 u) false).run Tryd.prog W = .ok r W) (hbf : bf < x) (hxw : x < w.heap.size) (hf : Fr (fun _ => False) w w') :
    w'.cell? ⟨g, 0, none⟩ = some (.map (some bf)) ∧ w'.cell? ⟨x, 0, none⟩ = some (.int .i64 u) ∧ w'.cell? ⟨x, 1, none⟩ = some (.int .i64 v) ∧ (Instr.lookup 57 (.map (some bf)) (.int .i64 u) false).run Tryd.prog w' = .ok r w' :=
  ⟨(hb.keep hf fun h => h).cell 0, (hx.keep hf fun h => h).cell 0, (hx.keep hf fun h => h).cell 1, hl w' (hf.block bf (by omega) fun h => h)⟩
/-- The world in the midst of a round of the first loop of Crash. -/
structure CrMid (w : World) (F : Nat → Prop) (g : Nat) (kv : Value) (d : DS) (ks : List Int) (fs : Int → FileC) (p : Int × Int) (bf bs : Nat) (qv : Value) (x1 x2 : Nat) (A : Option Addr) (wq : World) : Prop where
  dx : DiskX wq F g kv (midD d fs) bf bs qv
  fr : Fr F w wq
  b1 : Blk wq x1 78 #[.int .i64 p.1, .int .i64 p.2]
  b2 : Blk wq x2 80 #[.string (fs p.1).now, .string (fs p.1).last]
  n1 : ¬ F x1
  n2 : ¬ F x2
  n3 : x1 ≠ x2
  o2 : w.heap.size ≤ x2
  kp : KeepAt wq F A ks
theorem crmid_start {w wr wp : World} {F : Nat → Prop} {g : Nat} {kv : Value} {d : DS} {ks : List Int} {fs : Int → FileC} {p : Int × Int} {bf bs : Nat} {qv : Value} {A : Option Addr} (hd : DiskX wr F g kv (midD d fs) bf bs qv) (hfr : Fr F w wr) (hk : KeepAt w F A ks)
    (hwp : wr.alloc (.cells #[.int .i64 p.1, .int .i64 p.2] 78) = wp) : CrMid w F g kv d ks fs p bf bs qv wr.heap.size wp.heap.size A (wp.alloc (.cells #[.string (fs p.1).now, .string (fs p.1).last] 80)).drew := by
  subst hwp
  have hf : Fr F w ((wr.alloc (.cells #[.int .i64 p.1, .int .i64 p.2] 78)).alloc (.cells #[.string (fs p.1).now, .string (fs p.1).last] 80)).drew := ((hfr.alloc _).alloc _).drew
  refine ⟨((hd.alloc _).alloc _).drew, hf, (Blk.new wr 78 _).alloc _, Blk.new _ 80 _, fun h => by have := hd.lt _ h; omega, fun h => by have := hd.lt _ h; simp at this; omega, by simp, by have := hfr.size; simp; omega, hk.fr hf (fun _ _ h => h) (fun _ _ h => h)⟩
/-- The end of a round of the first loop of Crash in which a sector survives. -/
theorem cr_next {w wq wv : World} {F : Nat → Prop} {g : Nat} {kv : Value} {d : DS} {ks : List Int} {fs : Int → FileC} {p1 : Int} {m : Int} {bf bs : Nat} {qv : Value} {x1 x2 k : Nat} {A : Option Addr} {l' : ByteArray} (hq : CrMid w F g kv d ks fs (p1, m) bf bs qv x1 x2 A wq) (hfv : Fr (fun _ => False) wq.drew wv)
    (he : survK d.fs ks d.q (k + 1) = upd fs p1 ⟨(fs p1).now, l'⟩) (hinv : DInv (midD d (upd fs p1 ⟨(fs p1).now, l'⟩))) :
    ∃ w3, (Instr.mapUpdate 57 (.map (some bf)) (.int .i64 p1) (.agg #[.string (fs p1).now, .string l'])).run Tryd.prog (wv.setCell ⟨x2, 1, none⟩ (.string l')).drew = .ok () w3 ∧ CrRel w F g kv d ks bf bs qv (k + 1) w3 ∧
      (wv.setCell ⟨x2, 1, none⟩ (.string l')).cell? ⟨g, 0, none⟩ = some (.map (some bf)) ∧ (wv.setCell ⟨x2, 1, none⟩ (.string l')).cell? ⟨x1, 0, none⟩ = some (.int .i64 p1) ∧
      (wv.setCell ⟨x2, 1, none⟩ (.string l')).cell? ⟨x2, 0, none⟩ = some (.string (fs p1).now) ∧ (wv.setCell ⟨x2, 1, none⟩ (.string l')).cell? ⟨x2, 1, none⟩ = some (.string l') := by
  have hset : Fr (fun j => j = x2) wv (wv.setCell ⟨x2, 1, none⟩ (.string l')) := (Fr.refl (fun j => j = x2) wv).setCell (p := ⟨x2, 1, none⟩) (fun _ => rfl) _
  have dv := (hq.dx.drew.keep hfv fun _ _ h => h).keep hset fun k hk e => hq.n2 (by rw [← e]; exact hk)
  have b1 := ((Blk.drew hq.b1).keep hfv fun h => h).keep hset hq.n3
  have b2 : Blk (wv.setCell ⟨x2, 1, none⟩ (.string l')) x2 80 #[.string (fs p1).now, .string l'] := by simpa using ((Blk.drew hq.b2).keep hfv fun h => h).set_ 1 (.string l')
  obtain ⟨w3, r3, hfa, hf3, -⟩ := dv.drew.files.update p1 ⟨(fs p1).now, l'⟩
  refine ⟨w3, r3, ⟨?_, ?_⟩, dv.blk.cell 0, b1.cell 0, b2.cell 0, b2.cell 1⟩
  · rw [he]
    exact dv.drew.files_ hfa hf3 hinv
  · refine Fr.trans' ((((hq.fr.drew).trans' hfv fun _ _ h => h.elim).trans' hset fun k hk e => by have := hq.o2; omega).drew) hf3 fun k _ e => ?_
    subst e; exact hq.dx.ownf
/-! The second loop of Crash. -/
def setl (seen : Array Nat) (t : Int × FileC × Nat) : Int × FileC × Nat := if seen.contains t.2.2 then (t.1, ⟨t.2.1.last, t.2.1.last⟩, t.2.2) else t
theorem setl_1 (seen : Array Nat) (t : Int × FileC × Nat) : (setl seen t).1 = t.1 := by unfold setl; split <;> rfl
theorem setl_2 (seen : Array Nat) (t : Int × FileC × Nat) : (setl seen t).2.2 = t.2.2 := by unfold setl; split <;> rfl
theorem putX_setl {L0 : List (Int × FileC × Nat)} {seen : Array Nat} {t : Int × FileC × Nat} {c : Nat} (hk : (L0.map (·.1)).Nodup) (hb : (L0.map (·.2.2)).Nodup) (ht : t ∈ L0) (hs : seen.contains t.2.2 = false) :
    hasX (L0.map (setl seen)) t.1 = true ∧ putX (L0.map (setl seen)) t.1 ⟨t.2.1.last, t.2.1.last⟩ c = L0.map (setl (seen.push t.2.2)) := by
  have hh : hasX (L0.map (setl seen)) t.1 = true := hasX_mem.2 ⟨setl seen t, List.mem_map_of_mem ht, setl_1 seen t⟩
  refine ⟨hh, ?_⟩
  rw [putX, if_pos hh, List.map_map]
  apply List.map_congr_left
  intro u hu
  simp only [Function.comp, setl_1, setl_2]
  by_cases hut : u = t
  · subst hut
    simp [setl]
  · have h1 : u.2.2 ≠ t.2.2 := fun e => hut (nodup_inj hb hu ht e)
    have h2 : u.1 ≠ t.1 := fun e => hut (nodup_inj hk hu ht e)
    have h3 : (u.2.2 == t.2.2) = false := by simpa using h1
    rw [if_neg h2]
    unfold setl
    rw [Array.contains_push, h3]
    simp
def RgRel (w : World) (bf r : Nat) (L0 : List (Int × FileC × Nat)) (c n : Nat) (wr : World) : Prop :=
  ∃ seen, MapX (Value.int .i64) fileV wr bf (L0.map (setl seen)) c ∧ wr.heap[r]? = some (.mapIter (some bf) c seen c) ∧ Fr (fun k => k = bf) w wr ∧ n = unseen L0 seen
theorem lookX_map (L : List (Int × FileC × Nat)) (n : Int) : lookX (L.map (fun t => (t.1, (⟨t.2.1.last, t.2.1.last⟩ : FileC), t.2.2))) n file0 = ⟨(lookX L n file0).last, (lookX L n file0).last⟩ := by
  induction L with
  | nil => rfl
  | cons t r ih =>
    by_cases h : t.1 = n
    · simp [lookX, h]
    · simp only [lookX, List.map_cons] at ih ⊢
      rw [List.find?_cons_of_neg (by simpa using h), List.find?_cons_of_neg (by simpa using h)]
      exact ih
theorem rg_done {wr : World} {bf c : Nat} {L0 : List (Int × FileC × Nat)} {seen : Array Nat} {fs : Int → FileC} (hm : MapX (Value.int .i64) fileV wr bf (L0.map (setl seen)) c) (hall : ∀ t ∈ L0.map (setl seen), seen.contains t.2.2 = true) (hl : ∀ n, lookX L0 n file0 = fs n) :
    FilesAt wr bf (fun n => ⟨(fs n).last, (fs n).last⟩) := by
  refine ⟨_, _, hm, fun n => ?_⟩
  have e : L0.map (setl seen) = L0.map (fun t => (t.1, (⟨t.2.1.last, t.2.1.last⟩ : FileC), t.2.2)) := by
    apply List.map_congr_left
    intro t ht
    have := hall (setl seen t) (List.mem_map_of_mem ht)
    rw [setl_2] at this
    unfold setl
    rw [if_pos this]
  rw [e, lookX_map, hl]
theorem crash_end {w wz w' : World} {F : Nat → Prop} {g : Nat} {kv : Value} {d : DS} {ks : List Int} {bf bs : Nat} {qv : Value} (hl : ∀ k, F k → k < w.heap.size) (hfr : Fr F w wz) (hd : DiskX wz F g kv (midD d (fun n => ⟨(survFs d.fs ks 0 d.q n).last, (survFs d.fs ks 0 d.q n).last⟩)) bf bs qv) (hinv : DInv d) (hdn : d.down = false)
    (hw' : w' = ((wz.setCell ⟨g, 1, none⟩ (.slice none 0 0)).setCell ⟨g, 2, none⟩ (.map (some wz.heap.size))).alloc (.map #[] 0)) : DPost w F g (.tuple #[]) kv (crashD d ks) (.returned (.tuple #[])) w' := by
  have hs1 := hfr.size
  obtain ⟨w1, hw1⟩ : ∃ w1, w1 = (wz.setCell ⟨g, 1, none⟩ (.slice none 0 0)).setCell ⟨g, 2, none⟩ (.map (some wz.heap.size)) := ⟨_, rfl⟩
  rw [← hw1] at hw'
  have hset : Fr (fun j => j = g) wz w1 := by
    rw [hw1]
    exact ((Fr.refl (fun j => j = g) wz).setCell (p := ⟨g, 1, none⟩) (fun _ => rfl) _).setCell (p := ⟨g, 2, none⟩) (fun _ => rfl) _
  have hsz1 : w1.heap.size = wz.heap.size := by rw [hw1]; simp [World.setCell]
  have hsz : w'.heap.size = wz.heap.size + 1 := by rw [hw']; simp [hsz1]
  have hf : Fr F w w' := by
    rw [hw']
    exact (hfr.trans' hset fun k _ e => by subst e; exact hd.own).alloc _
  have hG : ∀ j, F j → Grow F w w' j := fun j h => .inl h
  have hE : crashD d ks = { fs := fun n => ⟨(survFs d.fs ks 0 d.q n).last, (survFs d.fs ks 0 d.q n).last⟩, q := [], lost := d.lost, down := true, armed := 0 } := by
    unfold crashD; rw [hdn]; rfl
  have hlg : g < wz.heap.size := hd.blk.lt
  refine ⟨rfl, ⟨bf, wz.heap.size, .slice none 0 0, grow_lt hl hf.size, hG g hd.own, hinv.crash ks, ?_, hG bf hd.ownf, .inr ⟨hs1, by omega⟩, by have := hd.files.lt; omega, ?_, ?_, ?_⟩, hf⟩
  · rw [hE, hw', hw1]
    have := ((hd.blk.set_ 1 (.slice none 0 0)).set_ 2 (.map (some wz.heap.size))).alloc (.map #[] 0)
    simpa [midD] using this
  · rw [hE, hw']
    exact (hd.files.keep hset (Ne.symm hd.gf)).alloc _
  · rw [hE, hw', ← hsz1]
    exact ⟨[], 0, MapX.made w1 secV Value.bool, by simp, fun x => by simp [hasX]⟩
  · rw [hE]; exact Row.nil _ _ _ _
/-- A round of the second loop. -/
theorem rg_step {w9 wr w1 : World} {bf g cc : Nat} {L0 : List (Int × FileC × Nat)} {seen : Array Nat} {t : Int × FileC × Nat} (hlbf : bf < w9.heap.size) (hm : MapX (Value.int .i64) fileV wr bf (L0.map (setl seen)) cc) (hfr : Fr (fun k => k = bf) w9 wr) (hm0 : MapX (Value.int .i64) fileV w9 bf L0 cc)
    (ht : t ∈ L0.map (setl seen)) (hs : seen.contains t.2.2 = false) (hi1 : w1.heap[w9.heap.size]? = some (.mapIter (some bf) cc (seen.push t.2.2) cc)) (hf1 : Fr (fun k => k = w9.heap.size) wr w1) (hlr1 : w9.heap.size < w1.heap.size) {cs : Array Value} {gt : TypeId} (hb : Blk w9 g gt cs) (hg : g ≠ bf) :
    ∃ w3, (Instr.mapUpdate 57 (.map (some bf)) (.int .i64 t.1) (.agg #[.string t.2.1.last, .string t.2.1.last])).run Tryd.prog (w1.alloc (.cells #[.string t.2.1.now, .string t.2.1.last] 80)).drew = .ok () w3 ∧ (∃ n', n' < unseen L0 seen ∧ RgRel w9 bf w9.heap.size L0 cc n' w3) ∧ Blk w1 g gt cs := by
  have hrb : bf ≠ w9.heap.size := by omega
  have hm1 := ((hm.keep hf1 hrb).alloc (.cells #[.string t.2.1.now, .string t.2.1.last] 80)).drew
  obtain ⟨t0, ht0, rfl⟩ := List.mem_map.1 ht
  rw [setl_2] at hs
  have e0 : setl seen t0 = t0 := by unfold setl; rw [hs]; simp
  rw [e0] at hi1 hm1 ⊢
  obtain ⟨hh, hp⟩ := putX_setl (c := cc) hm0.keys hm0.born ht0 hs
  obtain ⟨w3, r3, hm3, hf3, hsz3⟩ := hm1.update (key_int Tryd.underlying3) Tryd.underlying57 t0.1 ⟨t0.2.1.last, t0.2.1.last⟩
  rw [hp, hh] at hm3
  refine ⟨w3, r3, ⟨_, unseen_push ht0 hs, seen.push t0.2.2, hm3, ?_, ?_, rfl⟩, ?_⟩
  · rw [hf3.block _ (by simp; omega) (Ne.symm hrb)]
    exact (Below.heap_alloc w1 _ _ hlr1).trans hi1
  · have h1 : Fr (fun k => k = bf) w9 w1 := hfr.trans' hf1 fun k hk e => by omega
    exact ((h1.alloc _).drew).trans hf3
  · exact (hb.keep hfr hg).keep hf1 (by have := hb.lt; omega)
end Go.Proofs.YtjgmbildgcighaaDoor
