import Derived.Test.YtjgmbildgcighaaDoorD7
namespace Go.Proofs.YtjgmbildgcighaaDoor
open Go.RowKit
theorem wrE_may {d : DS} {f a : Int} {s : ByteArray} (h : ¬ mayE d f = 0) : wrE d f a s = mayE d f ∧ wrD d f a s = d := by
  have : wrE d f a s = mayE d f := by unfold wrE; rw [if_neg h]
  exact ⟨this, by unfold wrD; rw [if_neg (fun hc => h (this ▸ hc.1))]⟩
theorem wrE_neg {d : DS} {f a : Int} {s : ByteArray} (h : mayE d f = 0) (ha : a < 0) : wrE d f a s = 1 ∧ wrD d f a s = d := by
  have : wrE d f a s = 1 := by unfold wrE; rw [if_pos h, if_pos ha]
  exact ⟨this, by unfold wrD; rw [if_neg (fun hc => by rw [this] at hc; exact absurd hc.1 (by decide))]⟩
theorem wrE_full {d : DS} {f a : Int} {s : ByteArray} (h : mayE d f = 0) (ha : 0 ≤ a) (hf : 16777216 < a ∨ 16777216 - a < s.size) : wrE d f a s = 6 ∧ wrD d f a s = d := by
  have : wrE d f a s = 6 := by
    unfold wrE
    rw [if_pos h, if_neg (by omega)]
    by_cases h1 : 16777216 < a
    · rw [if_pos h1]
    · rw [if_neg h1, if_pos (by omega)]
  exact ⟨this, by unfold wrD; rw [if_neg (fun hc => by rw [this] at hc; exact absurd hc.1 (by decide))]⟩
theorem wrE_ok {d : DS} {f a : Int} {s : ByteArray} (h : mayE d f = 0) (ha : 0 ≤ a) (h1 : a ≤ 16777216) (h2 : (s.size : Int) ≤ 16777216 - a) : wrE d f a s = 0 := by
  unfold wrE
  rw [if_pos h, if_neg (by omega), if_neg (by omega), if_neg (by omega)]
/-- Some sectors have been added. -/
def addD (d : DS) (f n : Int) (k : Nat) : DS := { d with q := addQ d.q f n k }
theorem DInv.add {d : DS} (h : DInv d) {f n : Int} {k : Nat} (hf : 0 ≤ f ∧ f < 16) (hn : 0 ≤ n) (hk : n + k ≤ 262144) : DInv (addD d f n k) := by
  refine ⟨addQ_nodup h.nodup _, fun p hp => ?_, h.now, h.last, h.lost, h.armed⟩
  rcases addQ_mem.1 hp with hp | ⟨e1, e2, e3⟩
  · exact h.sect p hp
  · rw [e1]
    exact ⟨hf.1, hf.2, by omega, by omega⟩
def WrRel (w : World) (F : Nat → Prop) (g : Nat) (kv : Value) (d : DS) (f n : Int) (k : Nat) (wr : World) : Prop := DiskAt wr (Grow F w wr) g kv (addD d f n k) ∧ Fr F w wr
theorem addQ_in {q : List (Int × Int)} {f n : Int} {k : Nat} (h : (f, n + k) ∈ addQ q f n k) : addQ q f n (k + 1) = addQ q f n k := by
  show (if (f, n + (k : Int)) ∈ addQ q f n k then addQ q f n k else _) = _
  rw [if_pos h]
theorem addQ_out {q : List (Int × Int)} {f n : Int} {k : Nat} (h : (f, n + k) ∉ addQ q f n k) : addQ q f n (k + 1) = addQ q f n k ++ [(f, n + k)] := by
  show (if (f, n + (k : Int)) ∈ addQ q f n k then _ else addQ q f n k ++ [(f, n + (k : Int))]) = _
  rw [if_neg h]
theorem rd_new2 (w : World) (x y : Value) (t : TypeId) (b : Nat) (hb : b = w.heap.size) : Rd (w.alloc (.cells #[x, y] t)) 2 (some ⟨b, 0, none⟩) 1 [x, y] := by
  subst hb
  refine ⟨rfl, fun _ => ⟨_, rfl, fun j u hu => ?_⟩⟩
  rw [Addr.add_lit, Nat.zero_add, (Blk.new w t #[x, y]).cell j]
  simpa using hu
/-- A sector that was not pending is pending now: the set's two steps. -/
theorem SetAt.add {w : World} {b : Nat} {q : List (Int × Int)} (h : SetAt w b q) (p : Int × Int) (hp : p ∉ q) :
    ∃ (c : Nat) (w1 w2 : World), (Instr.mapEntry 58 (.map (some b)) (.agg #[.int .i64 p.1, .int .i64 p.2])).run Tryd.prog w = .ok (.tuple #[.bool false, .int .i64 c]) w1 ∧ (Instr.entryStore 58 (.map (some b)) (.int .i64 c) (.bool true)).run Tryd.prog w1 = .ok () w2 ∧
      Fr (fun k => k = b) w w1 ∧ Fr (fun k => k = b) w w2 ∧ SetAt w2 b (q ++ [p]) := by
  obtain ⟨L, c, hm, hv, hq⟩ := h
  have hh : hasX L p = false := by rw [hq p]; simpa using hp
  obtain ⟨w1, r1, m1, f1, -⟩ := hm.entryNew key_sec Tryd.underlying58 false zero_bool p hh
  obtain ⟨w2, r2, m2, f2, -⟩ := m1.entryStore (P := Tryd.prog) (T := 58) true
  refine ⟨c, w1, w2, r1, r2, f1, f1.trans f2, _, _, m2, fun t ht => ?_, fun x => ?_⟩
  · rcases List.mem_append.1 ht with ht | ht
    · exact hv t ht
    · simp at ht; subst ht; rfl
  · have := hq x
    rw [Bool.eq_iff_iff, hasX_mem] at this ⊢
    simp only [decide_eq_true_eq, List.mem_append, List.mem_singleton] at this ⊢
    rw [← this]
    constructor
    · rintro ⟨t, ht | ht, hx⟩
      · exact .inl ⟨t, ht, hx⟩
      · subst ht; exact .inr hx.symm
    · rintro (⟨t, ht, hx⟩ | rfl)
      · exact ⟨t, .inl ht, hx⟩
      · exact ⟨_, .inr rfl, rfl⟩
/-- One sector more. -/
theorem wr_next {w wr w0 w4 w6 : World} {F : Nat → Prop} {g bf bs : Nat} {kv qv v' : Value} {d : DS} {f n : Int} {k : Nat} (hd : DiskX wr (Grow F w wr) g kv (addD d f n k) bf bs qv) (hfr : Fr F w wr) (hl : ∀ k, F k → k < w.heap.size) (hinv : DInv (addD d f n (k + 1))) (hout : (f, n + k) ∉ addQ d.q f n k)
    (hw0 : Fr (fun _ => False) wr w0) (r4 : Row w4 (Grow (Grow F w wr) w0 w4) 78 2 v' ((addQ d.q f n k).length + 1) (qcells (addQ d.q f n k) ++ qcells [(f, n + (k : Int))])) (f4 : Fr (Own qv) w0 w4)
    (hs : SetAt w6 bs (addQ d.q f n k ++ [(f, n + (k : Int))])) (f6 : Fr (fun j => j = bs) (w4.setCell ⟨g, 1, none⟩ v') w6) : WrRel w F g kv d f n (k + 1) w6 := by
  have s1 := hfr.size
  have s2 := hw0.size
  have s3 := f4.size
  have s4 : w4.heap.size ≤ w6.heap.size := by simpa [World.setCell] using f6.size
  have h0 := hd.keep hw0 fun _ _ h => h
  have hG : ∀ j, Grow (Grow F w wr) w0 w4 j → Grow F w w4 j := by
    rintro j ((h | h) | h)
    · exact .inl h
    · exact .inr (by omega)
    · exact .inr (by omega)
  have hrow : Row w4 (Grow F w w4) 78 2 v' (addQ d.q f n (k + 1)).length (qcells (addQ d.q f n (k + 1))) := by
    rw [addQ_out hout, qcells_append]
    simpa using r4.more fun j _ hj => hG j hj
  have hb4 := h0.blk.keep f4 h0.qg
  obtain ⟨_, _, hms, _⟩ := h0.set.keep f4 h0.qs
  have hne : ∀ j, v'.ownBlock = some j → j ≠ g ∧ j ≠ bs := fun j hj => ⟨fun e => own_blk_ne hrow.1 hb4 (by decide) (by rw [hj, e]), fun e => hms.ne_own hrow.1 hj e⟩
  have hf6 : Fr F w w6 := by
    refine Fr.trans' (Fr.setCell ((hfr.trans' hw0 fun _ _ h => h.elim).trans' f4 fun j hj h => ?_) (fun hg => ?_) v') f6 fun j hj e => ?_
    · rcases hd.row.2 j h with h | h
      · exact h
      · omega
    · have hg' : g < w.heap.size := hg
      rcases hd.own with h | h
      · exact h
      · omega
    · subst e
      rcases hd.owns with h | h
      · exact h
      · omega
  have hset1 : Fr (fun j => j = g) w4 (w4.setCell ⟨g, 1, none⟩ v') := (Fr.refl (fun j => j = g) w4).setCell (fun _ => rfl) v'
  have hF : ∀ j, Grow F w wr j → Grow F w w6 j := fun j h => h.imp id fun h => by omega
  refine ⟨⟨bf, bs, v', grow_lt hl hf6.size, hF g hd.own, hinv, ?_, hF bf hd.ownf, hF bs hd.owns, hd.ne, ?_, ?_, ?_⟩, hf6⟩
  · exact Blk.keep (by simpa [addD] using hb4.set_ 1 v') f6 h0.gs
  · exact ((h0.files.keep f4 h0.qf).keep hset1 (Ne.symm h0.gf)).keep f6 h0.ne
  · show SetAt w6 bs (addQ d.q f n (k + 1))
    rw [addQ_out hout]; exact hs
  · exact ((hrow.far (p := ⟨g, 1, none⟩) (fun e => (hne g e).1 rfl) v').keep' f6 fun j hj e => (hne j hj).2 e).more fun j _ h => h.imp id fun h => by omega
theorem wrD_add {d : DS} {f : Int} {a : Nat} {s : ByteArray} (h : wrE d f a s = 0) (h0 : ¬ s.size = 0) : wrD d f a s = addD { d with fs := upd d.fs f ⟨putB (d.fs f).now a s, (d.fs f).last⟩ } f (((a / 64 : Nat)) : Int) ((a + s.size - 1) / 64 - a / 64 + 1) := by
  unfold wrD
  rw [if_pos ⟨h, h0⟩]
  unfold addD
  have e1 : (((a : Int) + s.size - 1) / 64 - (a : Int) / 64).toNat + 1 = (a + s.size - 1) / 64 - a / 64 + 1 := by omega
  rw [e1]
  rfl
theorem wpAnyH_takeD {P : Program} {ops : Array Oper} {Q : Exit → Act → World → Prop} {md : Region.Mode} {S : World → Prop} {i t : Nat} {oi : Oper} {v : Value} {fuel : Nat} {listed : Array Bool} {a : Act} {w : World} (hi : ops[i]? = some oi) (hd : oi.dst = some t)
    (hs : Region.noSelect ops = true) (hf : Region.free md ops listed i = true) (hr : (Region.ready md ops listed).contains i = true)
    (hQ : ∀ c a w, Q (.panic c) (a.put (some t) v) w → Q (.panic c) a w) (hy : YieldsIf P ops S oi v a) (hS : S w)
    (h : wpAnyH P md ops Q S fuel (listed.setIfInBounds i true) (a.put (some t) v) w) : wpAnyH P md ops Q S (fuel + 1) listed a w :=
  wpAnyH_take hi hs hf hr (hd ▸ hQ) hy hS (hd ▸ h)
theorem step_append_rowD {P : Program} (w : World) {ops : Array Oper} {o : Oper} {a : Act} {K : Act → World → Prop} {Q : Exit → Act → World → Prop} {E : Prop} {dt : Nat} (hgd : o.guard = none) (hd : o.dst = some dt) (s x : Operand) (t : TypeId)
    (ho : o.op = .call { callee := .builtin .append, args := #[s, x], argTypes := #[t, t] })
    (e : TypeId) (z : Value) (size bytes : Nat) (hE : Elem P t e z size bytes) (F : Nat → Prop)
    (v : Value) (n : Nat) (xs : List Value) (hs : a.eval s = v) (hown : Row w F e size v n xs)
    (A : Option Addr) (m c : Nat) (news : List Value) (hx : a.eval x = .slice A m c) (hr : Rd w size A m news) (h1 : ∀ u ∈ news, u.oneCell' = true)
    (hbound : (n + m) * (bytes + 1) ≤ 140737488355328)
    (h : ∀ v' w', Row w' (Grow F w w') e size v' (n + m) (xs ++ news) → Fr (Own v) w w' → K (a.put (some dt) v') w') :
    if Region.wanted o (yielded ops a.tmps) = true then Oper.wp P o a w K Q else E :=
  step_append_row w hgd s x t ho e z size bytes hE F v n xs hs hown A m c news hx hr h1 hbound (fun v' w' h1 h2 => by rw [hd]; exact h v' w' h1 h2)
theorem keepA {w : World} {g x bs : Nat} {f n : Int} {v1 v2 v3 v4 v5 v6 : Value} (hx : Blk w x 78 #[.int .i64 f, .int .i64 n]) (hb : Blk w g 61 #[v1, v2, .map (some bs), v3, v4, v5, v6]) (o : Obj) :
    (w.alloc o).drew.cell? ⟨g, 2, none⟩ = some (.map (some bs)) ∧ (w.alloc o).drew.cell? ⟨x, 0, none⟩ = some (.int .i64 f) ∧ (w.alloc o).drew.cell? ⟨x, 1, none⟩ = some (.int .i64 n) :=
  ⟨(Blk.drew (hb.alloc o)).cell 2, (Blk.drew (hx.alloc o)).cell 0, (Blk.drew (hx.alloc o)).cell 1⟩
/-- The round of the loop in write: a sector is added, if it is not pending. -/
theorem wr_facts {w wr : World} {F : Nat → Prop} {g bf bs : Nat} {kv qv : Value} {d : DS} {f n : Int} {k : Nat} (hd : DiskX wr (Grow F w wr) g kv (addD d f n k) bf bs qv) :
    g < wr.heap.size ∧ wr.cell? ⟨g, 1, none⟩ = some qv ∧ wr.cell? ⟨g, 2, none⟩ = some (.map (some bs)) ∧ wr.frozen? ⟨g, 1, none⟩ = false := ⟨hd.blk.lt, hd.blk.cell 1, hd.blk.cell 2, hd.blk.frozen 1⟩
set_option maxRecDepth 100000 in
set_option maxHeartbeats 3200000 in
theorem wr_ok (g : Nat) (d : DS) (kv : Value) (f : Int) (a : Nat) (s : ByteArray) (w : World) (F : Nat → Prop) (h : DiskAt w F g kv d) (hm : mayE d f = 0) (ha : a ≤ 16777216) (hs : a + s.size ≤ 16777216) (hs0 : ¬ s.size = 0) :
    Calls Tryd.prog 35 #[.pointer (some ⟨g, 0, none⟩), .int .i64 f, .int .i64 a, .string s] w (DPost w F g (.int .i64 0) kv (wrD d f a s)) := by
  have HAt := Lib.hid h
  have HM := Lib.hid hm
  obtain ⟨hdn, hf0, hf1⟩ := mayE_zero hm
  have hwE := wrE_ok (d := d) (f := f) (a := a) (s := s) hm (by omega) (by omega) (by omega)
  obtain ⟨bf, bs, qv, h⟩ := h
  have hinv := h.inv
  have c0 : w.cell? ⟨g, 0, none⟩ = some (.map (some bf)) := h.blk.cell 0
  have hl := h.files.look f
  unfold fileV at hl
  have hlt := h.blk.lt
  have hnow := hinv.now f
  have hse := toList_empty hs0
  have hse2 := ne_empty hs0
  have t1 : ¬ ((a : Int) < 0) := by omega
  have t2 : ¬ (16777216 < (a : Int)) := by omega
  have t3 : ¬ ((16777216 : Int) - (a : Int) < (s.size : Int)) := by omega
  have H := Lib.hid h
  clear hm hdn h
  go_enter Tryd.func35, Tryd.ntmps35
  go_wp2_with fail
  refine (may_is g d kv f 0 _ F HAt.out HM.out).mono ?_
  rintro e w' ⟨rfl, rfl⟩
  go_wp2_with fail
  refine (put_any (d.fs f).now s a _ hnow hs).mono ?_
  rintro e w1 ⟨rfl, hfp⟩
  have hd1 := (H.out.alloc (.cells #[.string (d.fs f).now, .string (d.fs f).last] 80)).keep hfp fun _ _ h => h
  have hx1 := (Blk.new w 80 #[.string (d.fs f).now, .string (d.fs f).last]).keep hfp fun h => h
  have x1 : w1.cell? ⟨w.heap.size, 0, none⟩ = some (.string (d.fs f).now) := hx1.cell 0
  have x2 : w1.cell? ⟨w.heap.size, 1, none⟩ = some (.string (d.fs f).last) := hx1.cell 1
  have x3 : w1.frozen? ⟨w.heap.size, 0, none⟩ = false := hx1.frozen 0
  have hlx := hx1.lt
  have y0 : w1.cell? ⟨g, 0, none⟩ = some (.map (some bf)) := hd1.blk.cell 0
  have hgx : ¬ g = w.heap.size := by omega
  have hfx : Fr (fun k => k = w.heap.size) w1 (w1.setCell ⟨w.heap.size, 0, none⟩ (.string (putB (d.fs f).now a s))).drew := ((Fr.refl (fun k => k = w.heap.size) w1).setCell (p := ⟨w.heap.size, 0, none⟩) (fun _ => rfl) _).drew
  have hd2 := hd1.keep hfx fun k hk e => by have := H.out.lt k hk; omega
  obtain ⟨w2, r2, hfa, hf2, -⟩ := hd2.files.update f ⟨putB (d.fs f).now a s, (d.fs f).last⟩
  unfold fileV at r2
  dsimp only at r2
  have hI := hinv.wr f a s
  rw [wrD_add hwE hs0] at hI
  have hI1 : DInv { d with fs := upd d.fs f ⟨putB (d.fs f).now a s, (d.fs f).last⟩ } := ⟨hinv.nodup, hinv.sect, hI.now, hI.last, hinv.lost, hinv.armed⟩
  have hd3 := hd2.files_ hfa hf2 hI1
  have hF3 : Fr F w w2 := by
    refine Fr.trans' (Fr.trans' (((Fr.refl F w).alloc _).trans' hfp fun _ _ h => h.elim) hfx fun k hk e => by omega) hf2 fun k _ e => ?_
    subst e; exact H.out.ownf
  have hst : Hid (WrRel w F g kv { d with fs := upd d.fs f ⟨putB (d.fs f).now a s, (d.fs f).last⟩ } f (((a / 64 : Nat)) : Int) 0 w2) :=
    ⟨DiskAt.more ⟨bf, bs, qv, hd3⟩ (fun _ h => .inl h) (grow_lt HAt.out.lt hF3.size), hF3⟩
  have HW := Lib.hid (wrD_add hwE hs0)
  have HI1 := Lib.hid hI1
  go_wp2_with fail
  go_region
  clear hI hI1 hd3 hF3 hd2 hfa hf2 hfx hd1 hx1 hfp x1 x2 x3 y0 r2 hl c0 hwE
  generalize hd' : { d with fs := upd d.fs f ⟨putB (d.fs f).now a s, (d.fs f).last⟩ } = d1 at *
  clear hd'
  obtain ⟨wo, rfl⟩ : ∃ w', w' = w2 := ⟨_, rfl⟩
  go_wp2_with fail
  have hdiv : ((a : Int) + (s.size : Int) - 1) / 64 = (((a + s.size - 1) / 64 : Nat) : Int) := by omega
  have hb1 : a / 64 ≤ (a + s.size - 1) / 64 := by omega
  have hb2 : (a + s.size - 1) / 64 < 262144 := by omega
  obtain ⟨n0, hn0⟩ : ∃ n0, a / 64 = n0 := ⟨_, rfl⟩
  obtain ⟨nb, hnb⟩ : ∃ nb, (a + s.size - 1) / 64 = nb := ⟨_, rfl⟩
  rw [hn0] at hst HW hb1
  rw [hnb] at HW hb1 hb2 hdiv
  have HN0 := Lib.hid hn0
  clear hn0 hnb
  go_loopw [11] (fun i wr => ∃ k : Nat, n0 + k ≤ nb + 1 ∧ i = .int .i64 ((n0 + k : Nat) : Int) ∧ WrRel w F g kv d1 f (n0 : Int) k wr) (fun i _ => nb + 1 - (intOf i).toNat)
  case atStart => exact ⟨0, by omega, by rw [← HN0.out]; go_num, hst.out⟩
  case round =>
    obtain ⟨k, hk, rfl, hrel⟩ := hrel
    obtain ⟨⟨bf', bs', qv', hd⟩, hfr⟩ := hrel
    obtain ⟨hlg, c1, c2, f1⟩ := wr_facts hd
    have HD := Lib.hid hd
    have HFR := Lib.hid hfr
    clear hst
    by_cases hlt2 : n0 + k ≤ nb
    · have hz : ((n0 + k : Nat) : Int) ≤ (nb : Int) := by omega
      have hbx := Blk.new wr 78 #[.int .i64 f, .int .i64 ((n0 + k : Nat) : Int)]
      have hlk := fun n => ((hd.set.alloc (.cells #[.int .i64 f, .int .i64 ((n0 + k : Nat) : Int)] 78)).of_block (w' := (wr.alloc (.cells #[.int .i64 f, .int .i64 ((n0 + k : Nat) : Int)] 78)).drewN n) rfl).look (f, ((n0 + k : Nat) : Int))
      dsimp only at hlk
      have hnk : ((n0 + k : Nat) : Int) = (n0 : Int) + (k : Int) := by omega
      have HNK := Lib.hid hnk
      clear hnk
      generalize hm : ((n0 + k : Nat) : Int) = m at *
      cases hin : decide ((f, m) ∈ (addD d1 f n0 k).q)
      · rw [hin] at hlk
        have hout : (f, (n0 : Int) + (k : Int)) ∉ addQ d1.q f n0 k := by rw [← HNK.out]; exact of_decide_eq_false hin
        have hlen : (addD d1 f n0 k).q.length ≤ 4194304 := hd.inv.len
        clear hd hfr
        go_wp2_with fail
        go_quiet (fail)
        go_wp2_with fail
        have hdz : DiskX ((wr.alloc (.cells #[.int .i64 f, .int .i64 m] 78)).drewN nq) (Grow F w wr) g kv (addD d1 f n0 k) bf' bs' qv' := (HD.out.alloc _).drewN nq
        have hbz : Blk ((wr.alloc (.cells #[.int .i64 f, .int .i64 m] 78)).drewN nq) wr.heap.size 78 #[.int .i64 f, .int .i64 m] := hbx
        have hfz : Fr (fun _ => False) wr ((wr.alloc (.cells #[.int .i64 f, .int .i64 m] 78)).drewN nq) := ((Fr.refl _ wr).alloc _).drewN nq
        have hxg : ¬ wr.heap.size = g := by omega
        have hxs : ¬ wr.heap.size = bs' := by have := HD.out.lt bs' HD.out.owns; omega
        have hxq : ∀ e, qv'.ownBlock = some e → ¬ wr.heap.size = e := fun e he => by have := HD.out.lt e (HD.out.row.2 e he); omega
        clear hlk hin hbx c1 c2 f1
        generalize (wr.alloc (.cells #[.int .i64 f, .int .i64 m] 78)).drewN nq = wz at *
        generalize wr.heap.size = x at *
        have lz := hdz.blk.lt
        have lx := hbz.lt
        have c1 : wz.cell? ⟨g, 1, none⟩ = some qv' := hdz.blk.cell 1
        have c2 : wz.cell? ⟨g, 2, none⟩ = some (.map (some bs')) := hdz.blk.cell 2
        have d1' : wz.cell? ⟨x, 0, none⟩ = some (.int .i64 f) := hbz.cell 0
        have d2' : wz.cell? ⟨x, 1, none⟩ = some (.int .i64 m) := hbz.cell 1
        have HDZ := Lib.hid hdz
        have HBZ := Lib.hid hbz
        have HFZ := Lib.hid hfz
        have HXQ := Lib.hid hxq
        obtain ⟨A0, c0, rfl, -, -⟩ := hdz.row.form
        have hstep : Hid (∀ w0 w4 v', Fr (fun _ => False) wz w0 → Row w4 (Grow (Grow F w wr) w0 w4) 78 2 v' ((addQ d1.q f n0 k).length + 1) (qcells (addQ d1.q f n0 k) ++ qcells [(f, m)]) → Fr (Own (.slice A0 (addD d1 f n0 k).q.length c0)) w0 w4 →
            ∃ (cc : Nat) (w5 w6 : World), w4.cell? ⟨g, 1, none⟩ = some (.slice A0 (addD d1 f n0 k).q.length c0) ∧ w4.frozen? ⟨g, 1, none⟩ = false ∧ g < w4.heap.size ∧
              (Instr.mapEntry 58 (.map (some bs')) (.agg #[.int .i64 f, .int .i64 m])).run Tryd.prog (w4.setCell ⟨g, 1, none⟩ v') = .ok (.tuple #[.bool false, .int .i64 cc]) w5 ∧
              (Instr.entryStore 58 (.map (some bs')) (.int .i64 cc) (.bool true)).run Tryd.prog w5 = .ok () w6 ∧
              (∀ W, W = w4 ∨ W = w4.setCell ⟨g, 1, none⟩ v' ∨ W = w5 ∨ W = w6 → W.cell? ⟨g, 2, none⟩ = some (.map (some bs')) ∧ W.cell? ⟨x, 0, none⟩ = some (.int .i64 f) ∧ W.cell? ⟨x, 1, none⟩ = some (.int .i64 m)) ∧
              WrRel w F g kv d1 f n0 (k + 1) w6) := by
          intro w0 w4 v' hw0 r4 f4
          have h0 := HDZ.out.keep hw0 fun _ _ h => h
          have hb4 := h0.blk.keep f4 h0.qg
          have hx4 := (HBZ.out.keep hw0 fun h => h).keep f4 (fun h => HXQ.out _ h rfl)
          have hs4 := (h0.set.keep f4 h0.qs).keep ((Fr.refl (fun j => j = g) w4).setCell (p := ⟨g, 1, none⟩) (fun _ => rfl) v') (Ne.symm h0.gs)
          obtain ⟨cc, w5, w6, r5, r6, f5, f6, hs6⟩ := hs4.add (f, m) (by rw [HNK.out]; exact hout)
          have hset : Fr (fun j => j = g) w4 (w4.setCell ⟨g, 1, none⟩ v') := (Fr.refl (fun j => j = g) w4).setCell (p := ⟨g, 1, none⟩) (fun _ => rfl) v'
          refine ⟨cc, w5, w6, hb4.cell 1, hb4.frozen 1, hb4.lt, r5, r6, ?_, ?_⟩
          · have b1 : Blk (w4.setCell ⟨g, 1, none⟩ v') g 61 #[.map (some bf'), v', .map (some bs'), .int .i64 (addD d1 f n0 k).lost, .bool (addD d1 f n0 k).down, .int .i64 (addD d1 f n0 k).armed, kv] := by simpa using hb4.set_ 1 v'
            have b2 := hx4.keep hset hxg
            rintro W (rfl | rfl | rfl | rfl)
            · exact ⟨hb4.cell 2, hx4.cell 0, hx4.cell 1⟩
            · exact ⟨b1.cell 2, b2.cell 0, b2.cell 1⟩
            · exact ⟨(b1.keep f5 h0.gs).cell 2, (b2.keep f5 hxs).cell 0, (b2.keep f5 hxs).cell 1⟩
            · exact ⟨(b1.keep f6 h0.gs).cell 2, (b2.keep f6 hxs).cell 0, (b2.keep f6 hxs).cell 1⟩
          · have hinv2 : DInv (addD d1 f n0 (k + 1)) := HI1.out.add ⟨hf0, hf1⟩ (by omega) (by omega)
            rw [HNK.out] at r4 hs6
            exact wr_next HD.out HFR.out HAt.out.lt hinv2 hout (HFZ.out.trans' hw0 fun _ _ h => h) r4 f4 hs6 f6
        clear hdz hbz hfz hxq
        refine wp_region_held_drew (S := (fun w' => w'.cell? ⟨g, 2, none⟩ = some (.map (some bs')) ∧ w'.cell? ⟨x, 0, none⟩ = some (.int .i64 f) ∧ w'.cell? ⟨x, 1, none⟩ = some (.int .i64 m))) (by kernel_rfl) ⟨c2, d1', d2'⟩ (fun hHeld => ?_)
        refine wpAnyH_takeD (i := 0) (t := 75) (v := .pointer (some ⟨g, 0, none⟩)) rfl rfl (by kernel_rfl) (by kernel_rfl) (by kernel_rfl) (fun _ _ _ h => h) (Or.inl ⟨by rfl, fun w' hSw => by obtain ⟨s1, s2, s3⟩ := hSw; go_simp⟩) (by assumption) ?_
        simp only [Act.put, List.setIfInBounds_toArray, List.set_cons_zero, List.set_cons_succ]
        refine wpAnyH_takeD (i := 1) (t := 76) (v := .pointer (some ⟨g, 0, none⟩)) rfl rfl (by kernel_rfl) (by kernel_rfl) (by kernel_rfl) (fun _ _ _ h => h) (Or.inl ⟨by rfl, fun w' hSw => by obtain ⟨s1, s2, s3⟩ := hSw; go_simp⟩) (by assumption) ?_
        simp only [Act.put, List.setIfInBounds_toArray, List.set_cons_zero, List.set_cons_succ]
        refine wpAnyH_takeD (i := 2) (t := 77) (v := .pointer (some ⟨g, 0, none⟩)) rfl rfl (by kernel_rfl) (by kernel_rfl) (by kernel_rfl) (fun _ _ _ h => h) (Or.inl ⟨by rfl, fun w' hSw => by obtain ⟨s1, s2, s3⟩ := hSw; go_simp⟩) (by assumption) ?_
        simp only [Act.put, List.setIfInBounds_toArray, List.set_cons_zero, List.set_cons_succ]
        refine wpAnyH_takeD (i := 3) (t := 78) (v := .pointer (some ⟨g, 2, none⟩)) rfl rfl (by kernel_rfl) (by kernel_rfl) (by kernel_rfl) (fun _ _ _ h => h) (Or.inl ⟨by rfl, fun w' hSw => by obtain ⟨s1, s2, s3⟩ := hSw; go_simp⟩) (by assumption) ?_
        simp only [Act.put, List.setIfInBounds_toArray, List.set_cons_zero, List.set_cons_succ]
        refine wpAnyH_takeD (i := 4) (t := 79) (v := .map (some bs')) rfl rfl (by kernel_rfl) (by kernel_rfl) (by kernel_rfl) (fun _ _ _ h => h) (Or.inl ⟨by rfl, fun w' hSw => by obtain ⟨s1, s2, s3⟩ := hSw; go_simp⟩) (by assumption) ?_
        simp only [Act.put, List.setIfInBounds_toArray, List.set_cons_zero, List.set_cons_succ]
        refine wpAnyH_takeD (i := 5) (t := 80) (v := .agg #[.int .i64 f, .int .i64 m]) rfl rfl (by kernel_rfl) (by kernel_rfl) (by kernel_rfl) (fun _ _ _ h => h) (Or.inl ⟨by rfl, fun w' hSw => by obtain ⟨s1, s2, s3⟩ := hSw; go_simp⟩) (by assumption) ?_
        simp only [Act.put, List.setIfInBounds_toArray, List.set_cons_zero, List.set_cons_succ]
        refine wpAnyH_takeD (i := 6) (t := 81) (v := .pointer (some ⟨g, 0, none⟩)) rfl rfl (by kernel_rfl) (by kernel_rfl) (by kernel_rfl) (fun _ _ _ h => h) (Or.inl ⟨by rfl, fun w' hSw => by obtain ⟨s1, s2, s3⟩ := hSw; go_simp⟩) (by assumption) ?_
        simp only [Act.put, List.setIfInBounds_toArray, List.set_cons_zero, List.set_cons_succ]
        refine wpAnyH_takeD (i := 7) (t := 82) (v := .pointer (some ⟨g, 0, none⟩)) rfl rfl (by kernel_rfl) (by kernel_rfl) (by kernel_rfl) (fun _ _ _ h => h) (Or.inl ⟨by rfl, fun w' hSw => by obtain ⟨s1, s2, s3⟩ := hSw; go_simp⟩) (by assumption) ?_
        simp only [Act.put, List.setIfInBounds_toArray, List.set_cons_zero, List.set_cons_succ]
        refine wpAnyH_takeD (i := 8) (t := 83) (v := .pointer (some ⟨g, 1, none⟩)) rfl rfl (by kernel_rfl) (by kernel_rfl) (by kernel_rfl) (fun _ _ _ h => h) (Or.inl ⟨by rfl, fun w' hSw => by obtain ⟨s1, s2, s3⟩ := hSw; go_simp⟩) (by assumption) ?_
        simp only [Act.put, List.setIfInBounds_toArray, List.set_cons_zero, List.set_cons_succ]
        refine wpAnyH_takeD (i := 10) (t := 85) (v := .agg #[.int .i64 f, .int .i64 m]) rfl rfl (by kernel_rfl) (by kernel_rfl) (by kernel_rfl) (fun _ _ _ h => h) (Or.inl ⟨by rfl, fun w' hSw => by obtain ⟨s1, s2, s3⟩ := hSw; go_simp⟩) (by assumption) ?_
        simp only [Act.put, List.setIfInBounds_toArray, List.set_cons_zero, List.set_cons_succ]
        refine wpAnyH_ready (rs := [9, 11]) (by kernel_rfl) (by simp) ?_
        refine AllReadyH.cons rfl (fun K hK => ?_) (AllReadyH.cons rfl (fun K hK => ?_) AllReadyH.nil)
        · go_simp
          refine hK.out _ _ hHeld (fun hHeld => ?_)
          clear hK K
          refine wpAnyH_ready (rs := [11]) (by kernel_rfl) (by simp) ?_
          refine AllReadyH.cons rfl (fun K hK => ?_) AllReadyH.nil
          go_simp
          refine hK.out _ _ (keepA HBZ.out HDZ.out.blk _) (fun hHeld2 => ?_)
          clear hK K
          refine wpAnyH_ready (rs := [12]) (by kernel_rfl) (by simp) ?_
          refine AllReadyH.cons rfl (fun K hK => ?_) AllReadyH.nil
          refine step_append_rowD _ rfl rfl (.tmp 84) (.tmp 86) 59 rfl 78 _ 2 16 sec_elem (Grow F w wr) (.slice A0 (addD d1 f n0 k).q.length c0) (addD d1 f n0 k).q.length (qcells (addD d1 f n0 k).q) rfl (Row.drew (HDZ.out.row.alloc _)) _ 1 1 (qcells [(f, m)]) rfl (rd_new2 _ _ _ _ _ rfl) (qcells_ok _) (by omega) ?_
          intro v' w4 r4 f4
          obtain ⟨cc, w5, w6, e1, e2, e3, e4, e5, hKK, hR⟩ := hstep.out _ w4 v' (((Fr.refl _ wz).alloc _).drew) r4 f4
          have HR := Lib.hid hR
          have HKK := Lib.hid hKK
          obtain ⟨A4, c4, rfl, -, -⟩ := r4.form
          refine hK.out _ _ (HKK.out _ (.inl rfl)) (fun hHeld3 => ?_)
          clear hK K r4 f4 hR hKK hHeld hHeld2
          simp only [Act.put, List.setIfInBounds_toArray, List.set_cons_zero, List.set_cons_succ]
          refine wpAnyH_takeD (i := 13) (t := 88) (v := .pointer (some ⟨g, 0, none⟩)) rfl rfl (by kernel_rfl) (by kernel_rfl) (by kernel_rfl) (fun _ _ _ h => h) (Or.inl ⟨by rfl, fun w' hSw => by obtain ⟨s1, s2, s3⟩ := hSw; go_simp⟩) (by assumption) ?_
          simp only [Act.put, List.setIfInBounds_toArray, List.set_cons_zero, List.set_cons_succ]
          refine wpAnyH_takeD (i := 14) (t := 89) (v := .pointer (some ⟨g, 1, none⟩)) rfl rfl (by kernel_rfl) (by kernel_rfl) (by kernel_rfl) (fun _ _ _ h => h) (Or.inl ⟨by rfl, fun w' hSw => by obtain ⟨s1, s2, s3⟩ := hSw; go_simp⟩) (by assumption) ?_
          simp only [Act.put, List.setIfInBounds_toArray, List.set_cons_zero, List.set_cons_succ]
          refine wpAnyH_ready (rs := [15]) (by kernel_rfl) (by simp) ?_
          refine AllReadyH.cons rfl (fun K hK => ?_) AllReadyH.nil
          go_simp
          refine hK.out _ _ (HKK.out _ (.inr (.inl rfl))) (fun hHeld4 => ?_)
          clear hK K
          refine wpAnyH_ready (rs := [16]) (by kernel_rfl) (by simp) ?_
          refine AllReadyH.cons rfl (fun K hK => ?_) AllReadyH.nil
          go_simp
          refine hK.out _ _ (HKK.out _ (.inr (.inr (.inl rfl)))) (fun hHeld5 => ?_)
          clear hK K
          refine wpAnyH_takeD (i := 17) (t := 91) (v := .int .i64 cc) rfl rfl (by kernel_rfl) (by kernel_rfl) (by kernel_rfl) (fun _ _ _ h => h) (Or.inl ⟨by rfl, fun w' hSw => by obtain ⟨s1, s2, s3⟩ := hSw; go_simp⟩) (by assumption) ?_
          simp only [Act.put, List.setIfInBounds_toArray, List.set_cons_zero, List.set_cons_succ]
          refine wpAnyH_ready (rs := [18]) (by kernel_rfl) (by simp) ?_
          refine AllReadyH.cons rfl (fun K hK => ?_) AllReadyH.nil
          go_simp
          refine hK.out _ _ (HKK.out _ (.inr (.inr (.inr rfl)))) (fun hHeld6 => ?_)
          clear hK K
          refine wpAnyH_done (by kernel_rfl) ?_ _
          clear e1 e2 e3 e4 e5 c1 c2 d1' d2' hstep hHeld3 hHeld4 hHeld5 hHeld6
          go_wp2_with fail
          go_roundw
          case rel => exact ⟨k + 1, by omega, by rw [← hm]; go_num, HR.out⟩
          case measure => simp [intOf]; omega
        · go_simp
          refine hK.out _ _ (keepA HBZ.out HDZ.out.blk _) (fun hHeld2 => ?_)
          clear hK K
          refine wpAnyH_ready (rs := [9]) (by kernel_rfl) (by simp) ?_
          refine AllReadyH.cons rfl (fun K hK => ?_) AllReadyH.nil
          go_simp
          refine hK.out _ _ (hHeld2) (fun hHeld2 => ?_)
          clear hK K
          refine wpAnyH_ready (rs := [12]) (by kernel_rfl) (by simp) ?_
          refine AllReadyH.cons rfl (fun K hK => ?_) AllReadyH.nil
          refine step_append_rowD _ rfl rfl (.tmp 84) (.tmp 86) 59 rfl 78 _ 2 16 sec_elem (Grow F w wr) (.slice A0 (addD d1 f n0 k).q.length c0) (addD d1 f n0 k).q.length (qcells (addD d1 f n0 k).q) rfl (Row.drew (HDZ.out.row.alloc _)) _ 1 1 (qcells [(f, m)]) rfl (rd_new2 _ _ _ _ _ rfl) (qcells_ok _) (by omega) ?_
          intro v' w4 r4 f4
          obtain ⟨cc, w5, w6, e1, e2, e3, e4, e5, hKK, hR⟩ := hstep.out _ w4 v' (((Fr.refl _ wz).alloc _).drew) r4 f4
          have HR := Lib.hid hR
          have HKK := Lib.hid hKK
          obtain ⟨A4, c4, rfl, -, -⟩ := r4.form
          refine hK.out _ _ (HKK.out _ (.inl rfl)) (fun hHeld3 => ?_)
          clear hK K r4 f4 hR hKK hHeld hHeld2
          simp only [Act.put, List.setIfInBounds_toArray, List.set_cons_zero, List.set_cons_succ]
          refine wpAnyH_takeD (i := 13) (t := 88) (v := .pointer (some ⟨g, 0, none⟩)) rfl rfl (by kernel_rfl) (by kernel_rfl) (by kernel_rfl) (fun _ _ _ h => h) (Or.inl ⟨by rfl, fun w' hSw => by obtain ⟨s1, s2, s3⟩ := hSw; go_simp⟩) (by assumption) ?_
          simp only [Act.put, List.setIfInBounds_toArray, List.set_cons_zero, List.set_cons_succ]
          refine wpAnyH_takeD (i := 14) (t := 89) (v := .pointer (some ⟨g, 1, none⟩)) rfl rfl (by kernel_rfl) (by kernel_rfl) (by kernel_rfl) (fun _ _ _ h => h) (Or.inl ⟨by rfl, fun w' hSw => by obtain ⟨s1, s2, s3⟩ := hSw; go_simp⟩) (by assumption) ?_
          simp only [Act.put, List.setIfInBounds_toArray, List.set_cons_zero, List.set_cons_succ]
          refine wpAnyH_ready (rs := [15]) (by kernel_rfl) (by simp) ?_
          refine AllReadyH.cons rfl (fun K hK => ?_) AllReadyH.nil
          go_simp
          refine hK.out _ _ (HKK.out _ (.inr (.inl rfl))) (fun hHeld4 => ?_)
          clear hK K
          refine wpAnyH_ready (rs := [16]) (by kernel_rfl) (by simp) ?_
          refine AllReadyH.cons rfl (fun K hK => ?_) AllReadyH.nil
          go_simp
          refine hK.out _ _ (HKK.out _ (.inr (.inr (.inl rfl)))) (fun hHeld5 => ?_)
          clear hK K
          refine wpAnyH_takeD (i := 17) (t := 91) (v := .int .i64 cc) rfl rfl (by kernel_rfl) (by kernel_rfl) (by kernel_rfl) (fun _ _ _ h => h) (Or.inl ⟨by rfl, fun w' hSw => by obtain ⟨s1, s2, s3⟩ := hSw; go_simp⟩) (by assumption) ?_
          simp only [Act.put, List.setIfInBounds_toArray, List.set_cons_zero, List.set_cons_succ]
          refine wpAnyH_ready (rs := [18]) (by kernel_rfl) (by simp) ?_
          refine AllReadyH.cons rfl (fun K hK => ?_) AllReadyH.nil
          go_simp
          refine hK.out _ _ (HKK.out _ (.inr (.inr (.inr rfl)))) (fun hHeld6 => ?_)
          clear hK K
          refine wpAnyH_done (by kernel_rfl) ?_ _
          clear e1 e2 e3 e4 e5 c1 c2 d1' d2' hstep hHeld3 hHeld4 hHeld5 hHeld6
          go_wp2_with fail
          go_roundw
          case rel => exact ⟨k + 1, by omega, by rw [← hm]; go_num, HR.out⟩
          case measure => simp [intOf]; omega
      · rw [hin] at hlk
        have hend : Hid (∀ n, WrRel w F g kv d1 f n0 (k + 1) ((wr.alloc (.cells #[.int .i64 f, .int .i64 m] 78)).drewN n)) := by
          intro n
          have hin2 : (f, (n0 : Int) + (k : Int)) ∈ addQ d1.q f n0 k := by rw [← HNK.out]; exact of_decide_eq_true hin
          have hs := HFR.out.size
          refine ⟨?_, (HFR.out.alloc _).drewN n⟩
          have e : addD d1 f n0 (k + 1) = addD d1 f n0 k := by unfold addD; rw [addQ_in hin2]
          rw [e]
          refine DiskAt.more (DiskAt.drewN (DiskAt.alloc ⟨bf', bs', qv', HD.out⟩ _) n) (fun j h => h.imp id fun h => ⟨h.1, by simp; omega⟩) (grow_lt HAt.out.lt ((HFR.out.alloc _).drewN n).size)
        clear hd hfr hin hbx c1 f1
        go_wp2_with fail
        go_quiet (fail)
        go_wp2_with fail
        go_roundw
        case rel => exact ⟨k + 1, by omega, by rw [← hm]; go_num, hend.out _⟩
        case measure => simp [intOf]; omega
    · have hz : ¬ ((n0 + k : Nat) : Int) ≤ (nb : Int) := by omega
      have hend : Hid (DPost w F g (.int .i64 0) kv (wrD d f a s) (.returned (.int .i64 0)) wr) := by
        refine ⟨rfl, ?_, HFR.out⟩
        rw [HW.out, show nb - n0 + 1 = k by omega]
        exact ⟨bf', bs', qv', HD.out⟩
      clear hd hfr c1 c2 f1
      go_wp2_with fail
      go_ret
      exact hend.out
set_option maxRecDepth 100000 in
set_option maxHeartbeats 1600000 in
theorem wr_any (g : Nat) (d : DS) (kv : Value) (f a : Int) (s : ByteArray) (w : World) (F : Nat → Prop) (h : DiskAt w F g kv d) :
    Calls Tryd.prog 35 #[.pointer (some ⟨g, 0, none⟩), .int .i64 f, .int .i64 a, .string s] w (DPost w F g (.int .i64 (wrE d f a s)) kv (wrD d f a s)) := by
  have HAt := Lib.hid h
  have hsame := Lib.hid (fun r => h.same (r := r) 0)
  by_cases hm : mayE d f = 0
  · have HM := Lib.hid hm
    by_cases h0 : a < 0
    · have HE := Lib.hid (wrE_neg (s := s) hm h0)
      clear h hm
      go_enter Tryd.func35, Tryd.ntmps35
      go_wp2_with fail
      refine (may_is g d kv f 0 _ F HAt.out HM.out).mono ?_
      rintro e w' ⟨rfl, rfl⟩
      go_wp2_with fail
      go_ret
      rw [HE.out.1, HE.out.2]
      exact hsame.out _
    · by_cases h1 : 16777216 < a ∨ 16777216 - a < s.size
      · have h00 : 0 ≤ a := by omega
        have HE := Lib.hid (wrE_full (s := s) hm h00 h1)
        clear h hm
        by_cases h2 : 16777216 < a
        · clear h1
          go_enter Tryd.func35, Tryd.ntmps35
          go_wp2_with fail
          refine (may_is g d kv f 0 _ F HAt.out HM.out).mono ?_
          rintro e w' ⟨rfl, rfl⟩
          go_wp2_with fail
          go_ret
          rw [HE.out.1, HE.out.2]
          exact hsame.out _
        · have h3 : 16777216 - a < (s.size : Int) := by omega
          clear h1
          go_enter Tryd.func35, Tryd.ntmps35
          go_wp2_with fail
          refine (may_is g d kv f 0 _ F HAt.out HM.out).mono ?_
          rintro e w' ⟨rfl, rfl⟩
          go_wp2_with fail
          go_ret
          rw [HE.out.1, HE.out.2]
          exact hsame.out _
      · have hE := wrE_ok (a := a) (s := s) hm (by omega) (by omega) (by omega)
        by_cases hs0 : s.size = 0
        · have HE : Hid (wrE d f a s = 0 ∧ wrD d f a s = d) := ⟨hE, by unfold wrD; rw [if_neg (fun hc => hc.2 hs0)]⟩
          obtain rfl := eq_empty hs0
          have h2 : ¬ 16777216 < a := by omega
          have h3 : ¬ 16777216 - a < 0 := by omega
          clear h hm h1 hE hs0
          go_enter Tryd.func35, Tryd.ntmps35
          go_wp2_with fail
          refine (may_is g d kv f 0 _ F HAt.out HM.out).mono ?_
          rintro e w' ⟨rfl, rfl⟩
          go_wp2_with fail
          go_ret
          rw [HE.out.1, HE.out.2]
          exact hsame.out _
        · obtain ⟨k, rfl⟩ : ∃ k : Nat, a = k := ⟨a.toNat, by omega⟩
          rw [hE]
          exact wr_ok g d kv f k s w F h hm (by omega) (by omega) hs0
  · have HM := Lib.hid hm
    have HE := Lib.hid (wrE_may (a := a) (s := s) hm)
    have hm' : (mayE d f != 0) = true := by simpa using hm
    clear h hm
    go_enter Tryd.func35, Tryd.ntmps35
    go_wp2_with fail
    refine (may_any g d kv f _ F HAt.out).mono ?_
    rintro e w' ⟨rfl, rfl⟩
    go_wp2_with fail
    go_ret
    rw [HE.out.1, HE.out.2]
    exact hsame.out _
theorem wr_is (g : Nat) (d : DS) (kv : Value) (f a : Int) (s : ByteArray) (w : World) (F : Nat → Prop) (h : DiskAt w F g kv d) {r : Int} (hr : wrE d f a s = r) :
    Calls Tryd.prog 35 #[.pointer (some ⟨g, 0, none⟩), .int .i64 f, .int .i64 a, .string s] w (DPost w F g (.int .i64 r) kv (wrD d f a s)) := hr ▸ wr_any g d kv f a s w F h
end Go.Proofs.YtjgmbildgcighaaDoor
