import Derived.Test.YtjgmbildgcighaaDoorD6
namespace Go.Proofs.YtjgmbildgcighaaDoor
open Go.RowKit
theorem Row.keep' {w w' : World} {F S : Nat → Prop} {e : TypeId} {size n : Nat} {v : Value} {xs : List Value} (h : Row w F e size v n xs) (hb : Fr S w w') (hn : ∀ k, v.ownBlock = some k → ¬ S k) : Row w' F e size v n xs :=
  ⟨own_keep h.1 hb hn, h.2⟩
section
variable {w w1 w2 w3 w4 : World} {F : Nat → Prop} {g bf bs : Nat} {kv qv qv' : Value} {d : DS} {q' : List (Int × Int)} {fs' : Int → FileC}
theorem DiskX.files_ (h : DiskX w F g kv d bf bs qv) (hfa : FilesAt w1 bf fs') (hf : Fr (fun k => k = bf) w w1) (hinv : DInv { d with fs := fs' }) : DiskX w1 F g kv { d with fs := fs' } bf bs qv :=
  ⟨fun k hk => Nat.lt_of_lt_of_le (h.lt k hk) hf.size, h.own, hinv, h.blk.keep hf h.gf, h.ownf, h.owns, h.ne, hfa, h.set.keep hf (Ne.symm h.ne), h.row.keep' hf fun k hk e => h.qf (by rw [hk, e])⟩
/-- A new queue, and a new set of what is pending. -/
theorem DiskX.queue_ (h : DiskX w1 F g kv d bf bs qv) (hr : Row w2 F 78 2 qv' q'.length (qcells q')) (f2 : Fr (Own qv) w1 w2) (hq' : ∀ k, qv'.ownBlock = some k → k ≠ g ∧ k ≠ bs) (hw3 : w3 = w2.setCell ⟨g, 1, none⟩ qv') (hs : SetAt w4 bs q') (f4 : Fr (fun k => k = bs) w3 w4) (hinv : DInv { d with q := q' }) :
    DiskX w4 F g kv { d with q := q' } bf bs qv' ∧ Fr F w1 w4 := by
  subst hw3
  have hf : Fr F w1 (w2.setCell ⟨g, 1, none⟩ qv') := Fr.setCell (f2.mono fun k _ hk => h.row.2 k hk) (fun _ => h.own) qv'
  have hf4 : Fr F w1 w4 := hf.trans' f4 fun k _ e => by subst e; exact h.owns
  refine ⟨⟨fun k hk => Nat.lt_of_lt_of_le (h.lt k hk) hf4.size, h.own, hinv, ?_, h.ownf, h.owns, h.ne, ?_, hs, ?_⟩, hf4⟩
  · have hb := (h.blk.keep f2 h.qg).set_ 1 qv'
    exact Blk.keep (by simpa using hb) f4 h.gs
  · have h1 := h.files.keep f2 h.qf
    have h2 := h1.keep (w' := w2.setCell ⟨g, 1, none⟩ qv') ((Fr.refl (fun k => k = g) w2).setCell (fun _ => rfl) qv') (Ne.symm h.gf)
    exact h2.keep f4 h.ne
  · exact (hr.far (p := ⟨g, 1, none⟩) (fun e => (hq' g e).1 rfl) qv').keep' f4 fun k hk e => (hq' k hk).2 e
end
set_option maxRecDepth 100000 in
set_option maxHeartbeats 1600000 in
theorem settle_any (g : Nat) (d : DS) (kv : Value) (f : Int) (s : ByteArray) (hs : s.size ≤ 16777216) (w : World) (F : Nat → Prop) (h : DiskAt w F g kv d) :
    Calls Tryd.prog 52 #[.pointer (some ⟨g, 0, none⟩), .int .i64 f, .string s] w (DPost w F g (.tuple #[]) kv (settleD d f s)) := by
  have HAt := Lib.hid h
  obtain ⟨bf, bs, qv, h⟩ := h
  have c0 : w.cell? ⟨g, 0, none⟩ = some (.map (some bf)) := h.blk.cell 0
  have hlt := h.blk.lt
  have hb := (h.alloc (.cells #[.int .i64 f] 3)).drew
  have hxb : Blk (w.alloc (.cells #[.int .i64 f] 3)).drew w.heap.size 3 #[.int .i64 f] := Blk.new w 3 _
  obtain ⟨w1, r1, hfa, hf1, -⟩ := hb.files.update f ⟨s, s⟩
  unfold fileV at r1
  dsimp only at r1
  have h1 := hb.files_ hfa hf1 (by
    have := (h.inv.settle f s hs)
    exact ⟨h.inv.nodup, h.inv.sect, this.now, this.last, h.inv.lost, h.inv.armed⟩)
  have hx1 := hxb.keep hf1 (fun e => by have := h.lt bf h.ownf; omega)
  have hxv : qv.ownBlock ≠ some w.heap.size := fun e => by have := h.lt _ (h.row.2 _ e); omega
  have c1 : w1.cell? ⟨g, 1, none⟩ = some qv := h1.blk.cell 1
  have hrow1 := h1.row
  have hlen := h.inv.len
  have hF1 : Fr F w w1 := (((Fr.refl F w).alloc _).drew).trans' hf1 fun k _ e => by subst e; exact h.ownf
  have hend : Hid (∀ w2 A c w4, Row w2 F 78 2 (.slice A (d.q.filter (notF f)).length c) (d.q.filter (notF f)).length (qcells (d.q.filter (notF f))) → Fr (Own qv) w1 w2 → SetAt w4 bs (d.q.filter (notF f)) → Fr (fun k => k = bs) (w2.setCell ⟨g, 1, none⟩ (.slice A (d.q.filter (notF f)).length c)) w4 →
      DPost w F g (.tuple #[]) kv (settleD d f s) (.returned (.tuple #[])) w4) := by
    intro w2 A c w4 hr2 f2 hs4 f4
    have hb2 := h1.blk.keep f2 h1.qg
    obtain ⟨_, _, hms, _⟩ := h1.set.keep f2 h1.qs
    obtain ⟨h4, hf4⟩ := h1.queue_ hr2 f2 (fun k hk => ⟨fun e => own_blk_ne hr2.1 hb2 (by decide) (by rw [hk, e]), fun e => hms.ne_own hr2.1 hk e⟩) rfl hs4 f4 (h.inv.settle f s hs)
    exact HAt.out.post0 ⟨bf, bs, _, h4⟩ (hF1.trans hf4)
  have hmid : Hid (∀ w2 A c, Row w2 F 78 2 (.slice A (d.q.filter (notF f)).length c) (d.q.filter (notF f)).length (qcells (d.q.filter (notF f))) → Fr (Own qv) w1 w2 →
      w2.cell? ⟨g, 1, none⟩ = some qv ∧ w2.frozen? ⟨g, 1, none⟩ = false ∧ w2.cell? ⟨g, 2, none⟩ = some (.map (some bs)) ∧ g < w2.heap.size ∧ SetAt (w2.setCell ⟨g, 1, none⟩ (.slice A (d.q.filter (notF f)).length c)) bs d.q ∧ (w2.setCell ⟨g, 1, none⟩ (.slice A (d.q.filter (notF f)).length c)).cell? ⟨w.heap.size, 0, none⟩ = some (.int .i64 f)) := by
    intro w2 A c hr2 f2
    have hb2 := h1.blk.keep f2 h1.qg
    refine ⟨hb2.cell 1, hb2.frozen 1, hb2.cell 2, hb2.lt, ?_, ?_⟩
    · exact (h1.set.keep f2 h1.qs).keep ((Fr.refl (fun k => k = g) w2).setCell (fun _ => rfl) _) (Ne.symm h1.gs)
    · exact ((hx1.keep f2 hxv).far (p := ⟨g, 1, none⟩) (show w.heap.size ≠ g by omega) _).cell 0
  have hx1c : w1.cell? ⟨w.heap.size, 0, none⟩ = some (.int .i64 f) := hx1.cell 0
  have hbs : w.heap.size ≠ bs := fun e => by have := h.lt bs h.owns; omega
  have HR := Lib.hid hrow1
  obtain ⟨A0, c0', rfl, -, -⟩ := hrow1.form
  clear h hb hxb hfa hf1 h1 hx1 hrow1 hF1
  go_enter Tryd.func52, Tryd.ntmps52
  go_wp2_with fail
  go_region
  go_wp2_with fail
  refine (sdel_any _ d.q f w.heap.size _ F HR.out hx1c hxv hlen).mono ?_
  rintro e w2 ⟨A, c, rfl, hr2, f2⟩
  obtain ⟨m1, m2, m3, m4, m5, m6⟩ := hmid.out w2 A c hr2 f2
  have hend2 := Lib.hid (fun w4 => hend.out w2 A c w4 hr2 f2)
  have M5 := Lib.hid m5
  have M6 := Lib.hid m6
  clear hr2 f2 hmid hend r1 c0 c1 hx1c m5 m6
  go_wp2_with fail
  refine (mdel_any bs d.q f w.heap.size _ M5.out M6.out hbs).mono ?_
  rintro e w4 ⟨rfl, hs4, f4⟩
  have hfin := Lib.hid (hend2.out w4 hs4 f4)
  clear hs4 f4 hend2
  go_wp2_with fail
  go_end0
  exact hfin.out
end Go.Proofs.YtjgmbildgcighaaDoor
