/-
  The reference's disk in memory.
-/
import Derived.Test.YtjgmbildgcighaaDoorD10
namespace Go.Proofs.YtjgmbildgcighaaDoor
open Go.RowKit

def rfileV (n : Int) (x : FileC) : Value := .agg #[.int .i64 n, .string x.now, .string x.last]
def fcells (L : List (Int × FileC)) : List Value := L.flatMap (fun p => [.int .i64 p.1, .string p.2.now, .string p.2.last])
theorem length_fcells (L : List (Int × FileC)) : (fcells L).length = L.length * 3 := by
  induction L with
  | nil => rfl
  | cons p ps ih => simp only [fcells, List.flatMap_cons, List.length_append, List.length_cons] at ih ⊢; rw [ih]; simp; omega
theorem fcells_append (a b : List (Int × FileC)) : fcells (a ++ b) = fcells a ++ fcells b := by simp [fcells]
theorem fcells_one (p : Int × FileC) : fcells [p] = [.int .i64 p.1, .string p.2.now, .string p.2.last] := by simp [fcells]
theorem fcells_ok (q : List (Int × FileC)) : ∀ u ∈ fcells q, u.oneCell' = true := by
  intro u hu
  simp only [fcells, List.mem_flatMap, List.mem_cons, List.not_mem_nil, or_false] at hu
  obtain ⟨p, _, hu⟩ := hu
  rcases hu with rfl | rfl | rfl <;> rfl
theorem fcells_at (q : List (Int × FileC)) (i : Nat) (p : Int × FileC) (h : q[i]? = some p) : (fcells q)[i * 3]? = some (.int .i64 p.1) ∧ (fcells q)[i * 3 + 1]? = some (.string p.2.now) ∧ (fcells q)[i * 3 + 2]? = some (.string p.2.last) := by
  induction q generalizing i with
  | nil => simp at h
  | cons r rs ih =>
    rw [show fcells (r :: rs) = [.int .i64 r.1, .string r.2.now, .string r.2.last] ++ fcells rs from rfl]
    cases i with
    | zero => simp at h; subst h; exact ⟨rfl, rfl, rfl⟩
    | succ i =>
      have := ih i (by simpa using h)
      rw [show (i + 1) * 3 = i * 3 + 3 by omega]
      refine ⟨?_, ?_, ?_⟩
      · rw [List.getElem?_append_right (by simp)]; simpa using this.1
      · rw [List.getElem?_append_right (by simp)]; simpa using this.2.1
      · rw [List.getElem?_append_right (by simp)]; simpa using this.2.2
theorem rfile_elem : Elem Tryd.prog 62 86 (.agg #[.int .i64 0, .string ⟨#[]⟩, .string ⟨#[]⟩]) 3 40 := ⟨Tryd.underlying62, by kernel_rfl, rfl, by omega⟩
theorem rsec_elem : Elem Tryd.prog 63 84 (.agg #[.int .i64 0, .int .i64 0]) 2 16 := ⟨Tryd.underlying63, by kernel_rfl, rfl, by omega⟩
theorem Row.rqat {w : World} {F : Nat → Prop} {e : TypeId} {A : Option Addr} {n c : Nat} {q : List (Int × Int)} (h : Row w F e 2 (.slice A n c) q.length (qcells q)) : QAt w A q := by
  intro k p hk
  have hlt := (List.getElem?_eq_some_iff.1 hk).1
  rcases h.1.2 with ⟨_, h0⟩ | ⟨g, cap, cur, hv, _⟩
  · omega
  · have hB : A = some ⟨g, 0, none⟩ := by injection hv
    subst hB
    obtain ⟨a1, a2⟩ := qcells_at q k p hk
    have h1 := h.1.cells (g := g) rfl _ _ a1
    have h2 := h.1.cells (g := g) rfl _ _ a2
    rw [Addr.add_lit, Nat.zero_add] at h1 h2
    exact ⟨g, rfl, h.lt (by simp [Value.ownBlock]), h1, h2⟩
/-- The files of a slice, one by one. -/
def FAt (w : World) (A : Option Addr) (L : List (Int × FileC)) : Prop :=
  ∀ k p, L[k]? = some p → ∃ b, A = some ⟨b, 0, none⟩ ∧ b < w.heap.size ∧ w.cell? ⟨b, k * 3, none⟩ = some (.int .i64 p.1) ∧ w.cell? ⟨b, k * 3 + 1, none⟩ = some (.string p.2.now) ∧ w.cell? ⟨b, k * 3 + 2, none⟩ = some (.string p.2.last)
theorem FAt.fr {w w' : World} {A : Option Addr} {L : List (Int × FileC)} (h : FAt w A L) (hf : Fr (fun _ => False) w w') : FAt w' A L := by
  intro k p hk
  obtain ⟨b, hA, hlt, h1, h2, h3⟩ := h k p hk
  exact ⟨b, hA, Nat.lt_of_lt_of_le hlt hf.size, (hf.cell (p := ⟨b, k * 3, none⟩) hlt fun h => h).trans h1, (hf.cell (p := ⟨b, k * 3 + 1, none⟩) hlt fun h => h).trans h2, (hf.cell (p := ⟨b, k * 3 + 2, none⟩) hlt fun h => h).trans h3⟩
theorem Row.fat {w : World} {F : Nat → Prop} {e : TypeId} {A : Option Addr} {n c : Nat} {L : List (Int × FileC)} (h : Row w F e 3 (.slice A n c) L.length (fcells L)) : FAt w A L := by
  intro k p hk
  have hlt := (List.getElem?_eq_some_iff.1 hk).1
  rcases h.1.2 with ⟨_, h0⟩ | ⟨g, cap, cur, hv, _⟩
  · omega
  · have hB : A = some ⟨g, 0, none⟩ := by injection hv
    subst hB
    obtain ⟨a1, a2, a3⟩ := fcells_at L k p hk
    have h1 := h.1.cells (g := g) rfl _ _ a1
    have h2 := h.1.cells (g := g) rfl _ _ a2
    have h3 := h.1.cells (g := g) rfl _ _ a3
    rw [Addr.add_lit, Nat.zero_add] at h1 h2 h3
    exact ⟨g, rfl, h.lt (by simp [Value.ownBlock]), h1, h2, h3⟩

/-- The file f of a list. -/
def lookF (L : List (Int × FileC)) (f : Int) : FileC := match L.find? (fun p => decide (p.1 = f)) with | some p => p.2 | none => file0
def putF (L : List (Int × FileC)) (n : Int) (x : FileC) : List (Int × FileC) := L.filter (fun p => decide (p.1 ≠ n)) ++ [(n, x)]
theorem lookF_none {L : List (Int × FileC)} {f : Int} (h : ∀ p ∈ L, p.1 ≠ f) : lookF L f = file0 := by
  unfold lookF
  rw [List.find?_eq_none.2 (fun p hp => by simpa using h p hp)]
theorem lookF_cons (p : Int × FileC) (L : List (Int × FileC)) (f : Int) : lookF (p :: L) f = if p.1 = f then p.2 else lookF L f := by
  unfold lookF
  by_cases h : p.1 = f
  · rw [List.find?_cons_of_pos (by simpa using h), if_pos h]
  · rw [List.find?_cons_of_neg (by simpa using h), if_neg h]
theorem lookF_at : ∀ {L : List (Int × FileC)} {f : Int} {k : Nat} {p : Int × FileC}, L[k]? = some p → p.1 = f → (∀ q ∈ L.take k, q.1 ≠ f) → lookF L f = p.2
  | [], f, k, p, hk, _, _ => by simp at hk
  | r :: L, f, 0, p, hk, hp, _ => by
    simp at hk
    subst hk
    rw [lookF_cons, if_pos hp]
  | r :: L, f, k + 1, p, hk, hp, h => by
    rw [lookF_cons, if_neg (h r (by simp))]
    exact lookF_at (by simpa using hk) hp fun q hq => h q (by simp [hq])
theorem lookF_put : ∀ (L : List (Int × FileC)) (n : Int) (x : FileC) (m : Int), lookF (putF L n x) m = if m = n then x else lookF L m
  | [], n, x, m => by
    show lookF [(n, x)] m = _
    rw [lookF_cons]
    by_cases h : m = n
    · rw [if_pos h.symm, if_pos h]
    · rw [if_neg (Ne.symm h), if_neg h]
  | p :: L, n, x, m => by
    have ih := lookF_put L n x m
    by_cases hp : p.1 = n
    · have e : putF (p :: L) n x = putF L n x := by
        unfold putF
        rw [List.filter_cons_of_neg (by simpa using hp)]
      rw [e, ih, lookF_cons]
      by_cases h : m = n
      · rw [if_pos h, if_pos h]
      · rw [if_neg h, if_neg h, if_neg (by omega)]
    · have e : putF (p :: L) n x = p :: putF L n x := by
        unfold putF
        rw [List.filter_cons_of_pos (by simpa using hp)]
        rfl
      rw [e, lookF_cons, ih, lookF_cons]
      by_cases h : m = n
      · rw [if_pos h, if_pos h, if_neg (by omega)]
      · rw [if_neg h, if_neg h]
theorem putF_keys {L : List (Int × FileC)} {n : Int} {x : FileC} (h : (L.map (·.1)).Nodup) : ((putF L n x).map (·.1)).Nodup := by
  unfold putF
  rw [List.map_append]
  refine List.nodup_append.2 ⟨((List.filter_sublist (l := L)).map _).nodup h, by simp, ?_⟩
  intro a ha b hb e
  simp at hb
  subst hb; subst e
  obtain ⟨p, hp, hpe⟩ := List.mem_map.1 ha
  have := (List.mem_filter.1 hp).2
  simp [hpe] at this
theorem putF_range {L : List (Int × FileC)} {n : Int} {x : FileC} (h : ∀ p ∈ L, 0 ≤ p.1 ∧ p.1 < 16) (hn : 0 ≤ n ∧ n < 16) : ∀ p ∈ putF L n x, 0 ≤ p.1 ∧ p.1 < 16 := by
  intro p hp
  rcases List.mem_append.1 hp with hp | hp
  · exact h p (List.mem_filter.1 hp).1
  · simp at hp; subst hp; exact hn
theorem keys_len {L : List (Int × FileC)} (hn : (L.map (·.1)).Nodup) (h : ∀ p ∈ L, 0 ≤ p.1 ∧ p.1 < 16) : L.length ≤ 16 := by
  have := nodup_bound 16 (L.map (fun p => p.1.toNat)) (by
    rw [List.Nodup, List.pairwise_map] at hn ⊢
    refine List.Pairwise.imp_of_mem ?_ hn
    intro a b ha hb hne e
    have h1 := h a ha
    have h2 := h b hb
    exact hne (by omega)) (by
    intro x hx
    obtain ⟨p, hp, rfl⟩ := List.mem_map.1 hx
    have := h p hp
    omega)
  simpa using this
/-- The list after Crash. -/
def lastF (L : List (Int × FileC)) : List (Int × FileC) := L.map fun p => (p.1, ⟨p.2.last, p.2.last⟩)
theorem lookF_last (L : List (Int × FileC)) (f : Int) : lookF (lastF L) f = ⟨(lookF L f).last, (lookF L f).last⟩ := by
  unfold lookF lastF
  rw [List.find?_map]
  have : ((fun p : Int × FileC => decide (p.1 = f)) ∘ fun p : Int × FileC => (p.1, (⟨p.2.last, p.2.last⟩ : FileC))) = fun p => decide (p.1 = f) := rfl
  rw [this]
  cases L.find? (fun p => decide (p.1 = f)) <;> rfl
theorem lastF_keys (L : List (Int × FileC)) : (lastF L).map (·.1) = L.map (·.1) := by simp [lastF, Function.comp_def]
theorem lastF_range {L : List (Int × FileC)} (h : ∀ p ∈ L, 0 ≤ p.1 ∧ p.1 < 16) : ∀ p ∈ lastF L, 0 ≤ p.1 ∧ p.1 < 16 := by
  intro p hp
  obtain ⟨q, hq, rfl⟩ := List.mem_map.1 hp
  exact h q hq

/-- A disk of the reference in block g, whose blocks lie in F; kv: the slice value in its field 'Keep'. -/
structure RefX (w : World) (F : Nat → Prop) (g : Nat) (kv : Value) (d : DS) (fv qv : Value) (L : List (Int × FileC)) : Prop where
  lt : ∀ k, F k → k < w.heap.size
  own : F g
  inv : DInv d
  blk : Blk w g 65 #[fv, qv, .int .i64 d.lost, .bool d.down, .int .i64 d.armed, kv]
  files : Row w F 86 3 fv L.length (fcells L)
  queue : Row w F 84 2 qv d.q.length (qcells d.q)
  look : ∀ n, lookF L n = d.fs n
  keys : (L.map (·.1)).Nodup
  range : ∀ p ∈ L, 0 ≤ p.1 ∧ p.1 < 16
def RefAt (w : World) (F : Nat → Prop) (g : Nat) (kv : Value) (d : DS) : Prop := ∃ fv qv L, RefX w F g kv d fv qv L
section
variable {w w0 w1 w2 w' : World} {F F' S : Nat → Prop} {g : Nat} {kv fv qv fv' qv' : Value} {d d' : DS} {L L' : List (Int × FileC)}
theorem RefX.len (h : RefX w F g kv d fv qv L) : L.length ≤ 16 := keys_len h.keys h.range
theorem RefX.fg (h : RefX w F g kv d fv qv L) : fv.ownBlock ≠ some g := own_blk_ne h.files.1 h.blk (by decide)
theorem RefX.qg (h : RefX w F g kv d fv qv L) : qv.ownBlock ≠ some g := own_blk_ne h.queue.1 h.blk (by decide)
/-- A row of another element type lies elsewhere. -/
theorem row_ne {e e' : TypeId} {size size' n n' : Nat} {v v' : Value} {xs xs' : List Value} {F F' : Nat → Prop} (h : Row w F e size v n xs) (h' : Row w F' e' size' v' n' xs') (hne : e ≠ e') (k : Nat) (hk : v.ownBlock = some k) : v'.ownBlock ≠ some k := by
  intro hk'
  rcases h.1.2 with ⟨rfl, _⟩ | ⟨g1, cap, cur, rfl, _, hh, _⟩
  · simp [Value.ownBlock] at hk
  · simp [Value.ownBlock] at hk
    subst hk
    exact own_blk_ne h'.1 (t := e) hh (Ne.symm hne) hk'
theorem RefX.keep (h : RefX w F g kv d fv qv L) (hf : Fr S w w') (hn : ∀ k, F k → ¬ S k) : RefX w' F g kv d fv qv L :=
  ⟨fun k hk => Nat.lt_of_lt_of_le (h.lt k hk) hf.size, h.own, h.inv, h.blk.keep hf (hn g h.own), h.files.keep hf fun k hk _ => hn k hk, h.queue.keep hf fun k hk _ => hn k hk, h.look, h.keys, h.range⟩
theorem RefX.more (h : RefX w F g kv d fv qv L) (h1 : ∀ k, F k → F' k) (h2 : ∀ k, F' k → k < w.heap.size) : RefX w F' g kv d fv qv L :=
  ⟨h2, h1 g h.own, h.inv, h.blk, h.files.more fun k _ => h1 k, h.queue.more fun k _ => h1 k, h.look, h.keys, h.range⟩
theorem RefX.alloc (h : RefX w F g kv d fv qv L) (o : Obj) : RefX (w.alloc o) F g kv d fv qv L := h.keep ((Fr.refl (fun _ => False) w).alloc o) fun _ _ h => h
theorem RefX.drewN (h : RefX w F g kv d fv qv L) (n : Nat) : RefX (w.drewN n) F g kv d fv qv L := h.keep ((Fr.refl (fun _ => False) w).drewN n) fun _ _ h => h
theorem RefAt.keep (h : RefAt w F g kv d) (hf : Fr S w w') (hn : ∀ k, F k → ¬ S k) : RefAt w' F g kv d := by obtain ⟨a, b, c, h⟩ := h; exact ⟨a, b, c, h.keep hf hn⟩
theorem RefAt.more (h : RefAt w F g kv d) (h1 : ∀ k, F k → F' k) (h2 : ∀ k, F' k → k < w.heap.size) : RefAt w F' g kv d := by obtain ⟨a, b, c, h⟩ := h; exact ⟨a, b, c, h.more h1 h2⟩
theorem RefAt.alloc (h : RefAt w F g kv d) (o : Obj) : RefAt (w.alloc o) F g kv d := h.keep ((Fr.refl (fun _ => False) w).alloc o) fun _ _ h => h
theorem RefAt.drewN (h : RefAt w F g kv d) (n : Nat) : RefAt (w.drewN n) F g kv d := h.keep ((Fr.refl (fun _ => False) w).drewN n) fun _ _ h => h
theorem RefAt.lt (h : RefAt w F g kv d) : ∀ k, F k → k < w.heap.size := by obtain ⟨a, b, c, h⟩ := h; exact h.lt
theorem RefAt.own (h : RefAt w F g kv d) : F g := by obtain ⟨a, b, c, h⟩ := h; exact h.own
theorem RefAt.inv (h : RefAt w F g kv d) : DInv d := by obtain ⟨a, b, c, h⟩ := h; exact h.inv
theorem RefAt.c5 (h : RefAt w F g kv d) : w.cell? ⟨g, 5, none⟩ = some kv := by obtain ⟨a, b, c, h⟩ := h; exact h.blk.cell 5
/-- A store into one of the plain fields. -/
theorem RefX.set_ (h : RefX w F g kv d fv qv L) {i : Nat} {u kv' : Value} (hinv : DInv d') (hfs : d'.fs = d.fs) (hq : d'.q = d.q)
    (hb : (#[fv, qv, .int .i64 d.lost, .bool d.down, .int .i64 d.armed, kv] : Array Value).setIfInBounds i u = #[fv, qv, .int .i64 d'.lost, .bool d'.down, .int .i64 d'.armed, kv']) :
    RefX (w.setCell ⟨g, i, none⟩ u) F g kv' d' fv qv L := by
  have hf : Fr (fun k => k = g) w (w.setCell ⟨g, i, none⟩ u) := (Fr.refl (fun k => k = g) w).setCell (fun _ => rfl) u
  refine ⟨fun k hk => Nat.lt_of_lt_of_le (h.lt k hk) hf.size, h.own, hinv, hb ▸ h.blk.set_ i u, h.files.far h.fg u, ?_, fun n => by rw [hfs]; exact h.look n, h.keys, h.range⟩
  rw [hq]
  exact h.queue.far h.qg u
/-- A new slice of files: it lies in what is new, or in the old one's block. -/
theorem RefX.files_ (h : RefX w F g kv d fv qv L) (hr : Row w1 (Grow (fun _ => False) w w1) 86 3 fv' L'.length (fcells L')) (hf : Fr (fun _ => False) w w1)
    (hinv : DInv d') (hq : d'.q = d.q) (hl : d'.lost = d.lost) (hd : d'.down = d.down) (ha : d'.armed = d.armed) (hlook : ∀ n, lookF L' n = d'.fs n) (hk : (L'.map (·.1)).Nodup) (hrg : ∀ p ∈ L', 0 ≤ p.1 ∧ p.1 < 16) :
    RefX (w1.setCell ⟨g, 0, none⟩ fv') (Grow F w w1) g kv d' fv' qv L' ∧ Fr F w (w1.setCell ⟨g, 0, none⟩ fv') := by
  have h1 := h.keep hf fun _ _ h => h
  have hne : fv'.ownBlock ≠ some g := own_blk_ne hr.1 h1.blk (by decide)
  have hs : (w1.setCell ⟨g, 0, none⟩ fv').heap.size = w1.heap.size := by simp [World.setCell]
  have hF : Fr F w (w1.setCell ⟨g, 0, none⟩ fv') := Fr.setCell (hf.mono fun _ _ h => h.elim) (fun _ => h.own) fv'
  refine ⟨⟨fun k hk => ?_, .inl h.own, hinv, ?_, ?_, ?_, hlook, hk, hrg⟩, hF⟩
  · rw [hs]
    exact grow_lt h.lt hf.size k hk
  · have hb := h1.blk.set_ 0 fv'
    rw [hl, hd, ha]
    simpa using hb
  · exact (hr.far (p := ⟨g, 0, none⟩) hne fv').more fun k _ hk => hk.elim (fun h => h.elim) .inr
  · rw [hq]
    exact (h1.queue.far (p := ⟨g, 0, none⟩) h.qg fv').more fun k _ hk => .inl hk
/-- A new queue. -/
theorem RefX.queue_ (h : RefX w F g kv d fv qv L) (hr : Row w1 (Grow F w w1) 84 2 qv' d'.q.length (qcells d'.q)) (hf : Fr (Own qv) w w1)
    (hinv : DInv d') (hfs : d'.fs = d.fs) (hl : d'.lost = d.lost) (hd : d'.down = d.down) (ha : d'.armed = d.armed) :
    RefX (w1.setCell ⟨g, 1, none⟩ qv') (Grow F w w1) g kv d' fv qv' L ∧ Fr F w (w1.setCell ⟨g, 1, none⟩ qv') := by
  have hb1 := h.blk.keep hf h.qg
  have hne : qv'.ownBlock ≠ some g := own_blk_ne hr.1 hb1 (by decide)
  have hs : (w1.setCell ⟨g, 1, none⟩ qv').heap.size = w1.heap.size := by simp [World.setCell]
  have hF : Fr F w (w1.setCell ⟨g, 1, none⟩ qv') := Fr.setCell (hf.mono fun k _ hk => h.queue.2 k hk) (fun _ => h.own) qv'
  refine ⟨⟨fun k hk => ?_, .inl h.own, hinv, ?_, ?_, ?_, fun n => by rw [hfs]; exact h.look n, h.keys, h.range⟩, hF⟩
  · rw [hs]
    exact grow_lt h.lt hf.size k hk
  · have hb := hb1.set_ 1 qv'
    rw [hl, hd, ha]
    simpa using hb
  · have h2 : Row w1 F 86 3 fv L.length (fcells L) := h.files.keep' hf fun k hk e => row_ne h.files h.queue (by decide) k hk e
    exact (h2.far (p := ⟨g, 1, none⟩) h.fg qv').more fun k _ hk => .inl hk
  · exact hr.far (p := ⟨g, 1, none⟩) hne qv'

def RPost (w : World) (F : Nat → Prop) (g : Nat) (r kv : Value) (d : DS) (e : Ending) (w' : World) : Prop :=
  e = .returned r ∧ RefAt w' (Grow F w w') g kv d ∧ Fr F w w'
theorem RefAt.post0 {r : Value} (h : RefAt w F g kv d) (h1 : RefAt w1 F g kv d') (hf : Fr F w w1) : RPost w F g r kv d' (.returned r) w1 :=
  ⟨rfl, h1.more (fun _ hk => .inl hk) (grow_lt h.lt hf.size), hf⟩
theorem RefAt.same {r : Value} (h : RefAt w F g kv d) (n : Nat) : RPost w F g r kv d (.returned r) (w.drewN n) := h.post0 (h.drewN n) ((Fr.refl _ _).drewN n)
theorem RPost.is {r r' : Value} {e : Ending} (h : RPost w F g r kv d e w') (hr : r = r') (hd : d = d') : RPost w F g r' kv d' e w' := by subst hr hd; exact h
/-- Two calls after each other. -/
theorem RPost.then_ {r r' : Value} {e e' : Ending} {d1 d2 : DS} (h : RPost w F g r kv d1 e w1) (h2 : RPost w1 (Grow F w w1) g r' kv d2 e' w') (hl : ∀ k, F k → k < w.heap.size) : RPost w F g r' kv d2 e' w' := by
  obtain ⟨rfl, hd, hf⟩ := h
  obtain ⟨rfl, hd2, hf2⟩ := h2
  have s1 := hf.size
  have s2 := hf2.size
  refine ⟨rfl, hd2.more (fun k hk => ?_) (grow_lt hl (by omega)), hf.trans' hf2 fun i hi h => ?_⟩
  · rcases hk with (hk | hk) | hk
    · exact .inl hk
    · exact .inr (by omega)
    · exact .inr (by omega)
  · rcases h with h | h
    · exact h
    · omega
theorem RPost.at {r r' : Value} {d2 : DS} {e : Ending} (h : RPost w F g r kv d e w1) (hl : ∀ k, F k → k < w.heap.size) (h2 : RefAt w2 (Grow F w w1) g kv d2) (hf : Fr (Grow F w w1) w1 w2) : RPost w F g r' kv d2 (.returned r') w2 :=
  h.then_ (h.2.1.post0 (r := r') h2 hf) hl
/-- The same, with a world between that only grew. -/
theorem KeepAt.rpost {r : Value} {e : Ending} {A : Option Addr} {ks : List Int} (h : KeepAt w F A ks) (hp : RPost w F g r kv d e w') : KeepAt w' (Grow F w w') A ks :=
  h.fr hp.2.2 (fun _ _ h => h) (fun k hk h => h.elim id fun h => by omega)
end
end Go.Proofs.YtjgmbildgcighaaDoor
