/-
  Own words for maps: a block that holds a map, entry by entry ('MapX'), and the runs of the map operations on it.
-/
import Derived.Test.YtjgmbildgcighaaDoorKit
namespace Go.Proofs.YtjgmbildgcighaaDoor
open Go.RowKit
open Go.ChangeMaps (setBlock)

section
variable {α β : Type}
def ent (mkK : α → Value) (mkV : β → Value) (t : α × β × Nat) : MapEntry := ⟨mkK t.1, mkV t.2.1, t.2.2⟩
/-- Block b is a map with the entries L (key, value, stamp) and the clock c. -/
structure MapX (mkK : α → Value) (mkV : β → Value) (w : World) (b : Nat) (L : List (α × β × Nat)) (c : Nat) : Prop where
  heap : w.heap[b]? = some (.map (L.map (ent mkK mkV)).toArray c)
  keys : (L.map (·.1)).Nodup
  born : (L.map (·.2.2)).Nodup
  old : ∀ t ∈ L, t.2.2 < c

section
variable [DecidableEq α]
def findX (mkV : β → Value) (a : α) : List (α × β × Nat) → Nat → Option (Nat × Value)
  | [], _ => none
  | t :: r, i => if t.1 = a then some (i, mkV t.2.1) else findX mkV a r (i + 1)
def lookX (L : List (α × β × Nat)) (a : α) (z : β) : β := match L.find? (fun t => decide (t.1 = a)) with | some t => t.2.1 | none => z
def hasX (L : List (α × β × Nat)) (a : α) : Bool := L.any (fun t => decide (t.1 = a))
def putX (L : List (α × β × Nat)) (a : α) (v : β) (c : Nat) : List (α × β × Nat) :=
  if hasX L a then L.map (fun t => if t.1 = a then (t.1, v, t.2.2) else t) else L ++ [(a, v, c)]

/-- What the runs of map operations need of a key's type. -/
structure KeyL (P : Program) (K : TypeId) (mkK : α → Value) : Prop where
  check : ∀ (w : World) (em : Bool) (a : α), (Instr.checkKey em 10000 K (mkK a)).run P w = .ok () w
  find : ∀ {γ : Type} (mkV : γ → Value) (w : World) (a : α) (L : List (α × γ × Nat)), (Instr.findKey K (mkK a) (L.map (ent mkK mkV))).run P w = .ok (findX mkV a L 0) w
  stays : ∀ (w : World) (a : α), (Instr.keyThatStays (mkK a) (mkK a)).run P w = .ok (mkK a) w

theorem findX_none {mkV : β → Value} {a : α} : ∀ {L : List (α × β × Nat)} {i : Nat}, findX mkV a L i = none → hasX L a = false
  | [], _, _ => rfl
  | t :: r, i, h => by
    unfold findX at h
    split at h
    · simp at h
    · rename_i hne
      have := findX_none h
      unfold hasX at this ⊢
      simp only [List.any_cons, this, Bool.or_false]
      simpa using hne
theorem findX_some {mkV : β → Value} {a : α} : ∀ {L : List (α × β × Nat)} {i j : Nat} {v : Value}, findX mkV a L i = some (j, v) → ∃ k t, j = i + k ∧ L[k]? = some t ∧ t.1 = a ∧ v = mkV t.2.1 ∧ ∀ m u, m < k → L[m]? = some u → u.1 ≠ a
  | [], _, _, _, h => by simp [findX] at h
  | t :: r, i, j, v, h => by
    unfold findX at h
    split at h
    · rename_i he
      simp only [Option.some.injEq, Prod.mk.injEq] at h
      exact ⟨0, t, h.1.symm, rfl, he, h.2.symm, fun m _ hm => absurd hm (by omega)⟩
    · rename_i hne
      obtain ⟨k, u, hj, hk, hu, hv, hb⟩ := findX_some h
      refine ⟨k + 1, u, by omega, by simpa using hk, hu, hv, fun m x hm hx => ?_⟩
      cases m with
      | zero => simp at hx; subst hx; exact hne
      | succ m => exact hb m x (by omega) (by simpa using hx)
theorem lookX_has {L : List (α × β × Nat)} {a : α} (z : β) (h : hasX L a = false) : lookX L a z = z := by
  unfold lookX
  rw [List.find?_eq_none.2 (fun t ht => by
    have := List.any_eq_false.1 h t ht
    simpa using this)]
theorem lookX_at {L : List (α × β × Nat)} {a : α} {k : Nat} {t : α × β × Nat} (z : β) (h : L[k]? = some t) (ht : t.1 = a) (hb : ∀ m u, m < k → L[m]? = some u → u.1 ≠ a) : lookX L a z = t.2.1 := by
  unfold lookX
  have : L.find? (fun t => decide (t.1 = a)) = some t := by
    rw [List.find?_eq_some_iff_getElem]
    obtain ⟨hk, hkt⟩ := List.getElem?_eq_some_iff.1 h
    refine ⟨by simpa using ht, k, hk, hkt, fun j hj => ?_⟩
    have := hb j _ hj (List.getElem?_eq_getElem (by omega))
    simpa using this
  rw [this]
theorem lookX_mem {L : List (α × β × Nat)} {t : α × β × Nat} (z : β) (hn : (L.map (·.1)).Nodup) (h : t ∈ L) : lookX L t.1 z = t.2.1 := by
  induction L with
  | nil => simp at h
  | cons u r ih =>
    simp only [List.map_cons, List.nodup_cons] at hn
    rcases List.mem_cons.1 h with rfl | h
    · simp [lookX]
    · have hne : u.1 ≠ t.1 := fun e => hn.1 (by rw [e]; exact List.mem_map_of_mem h)
      have := ih hn.2 h
      unfold lookX at this ⊢
      rw [List.find?_cons_of_neg (by simpa using hne)]
      exact this
theorem hasX_mem {L : List (α × β × Nat)} {a : α} : hasX L a = true ↔ ∃ t ∈ L, t.1 = a := by simp [hasX, -Prod.exists]

end
variable {mkK : α → Value} {mkV : β → Value} {w w' : World} {b c : Nat} {L : List (α × β × Nat)} {S : Nat → Prop}
theorem MapX.lt (h : MapX mkK mkV w b L c) : b < w.heap.size := by
  rcases Nat.lt_or_ge b w.heap.size with hlt | hge
  · exact hlt
  · have := h.heap; rw [Array.getElem?_eq_none hge] at this; cases this
theorem MapX.of_block (h : MapX mkK mkV w b L c) (hb : w'.heap[b]? = w.heap[b]?) : MapX mkK mkV w' b L c := ⟨hb.trans h.heap, h.keys, h.born, h.old⟩
theorem MapX.keep (h : MapX mkK mkV w b L c) (hf : Fr S w w') (hn : ¬ S b) : MapX mkK mkV w' b L c := h.of_block (hf.block b h.lt hn)
theorem MapX.alloc (h : MapX mkK mkV w b L c) (o : Obj) : MapX mkK mkV (w.alloc o) b L c := h.of_block (Below.heap_alloc w o b h.lt)
theorem MapX.drewN (h : MapX mkK mkV w b L c) (n : Nat) : MapX mkK mkV (w.drewN n) b L c := h.of_block rfl
theorem MapX.drew (h : MapX mkK mkV w b L c) : MapX mkK mkV w.drew b L c := h.of_block rfl
theorem MapX.far (h : MapX mkK mkV w b L c) {p : Addr} (hp : b ≠ p.block) (u : Value) : MapX mkK mkV (w.setCell p u) b L c := h.of_block (Below.heap_setCell w p u b hp)
theorem MapX.ne_blk {g : Nat} {t : TypeId} {cs : Array Value} (h : MapX mkK mkV w b L c) (hb : Blk w g t cs) : g ≠ b := by
  rintro rfl
  unfold Blk at hb
  have := h.heap
  rw [hb] at this
  cases this
theorem MapX.ne_own {g : Nat} {e : TypeId} {size n base : Nat} {v : Value} {xs : List Value} (h : MapX mkK mkV w b L c) (hr : w.ownsRow base e size v n xs) (hg : v.ownBlock = some g) : g ≠ b := by
  rcases hr.2 with ⟨rfl, _⟩ | ⟨g', cap, cur, rfl, _, hh, _⟩
  · simp [Value.ownBlock] at hg
  · have : g' = g := by simpa [Value.ownBlock] using hg
    subst this
    exact h.ne_blk (t := e) hh
theorem fr_setBlock (w : World) (b : Nat) (o : Obj) : Fr (fun k => k = b) w (setBlock w b o) :=
  ⟨rfl, rfl, rfl, by simp [setBlock], fun k _ hk => by
    show (w.heap.setIfInBounds b o)[k]? = _
    rw [Array.getElem?_setIfInBounds_ne (by omega)]⟩
theorem setBlock_at (w : World) (b : Nat) (o : Obj) (hb : b < w.heap.size) : (setBlock w b o).heap[b]? = some o := by
  show (w.heap.setIfInBounds b o)[b]? = _
  rw [Array.getElem?_setIfInBounds_self_of_lt hb]
theorem size_setBlock (w : World) (b : Nat) (o : Obj) : (setBlock w b o).heap.size = w.heap.size := by simp [setBlock]
theorem run_setObj_map {P : Program} {w : World} {r : Nat} {es : Array MapEntry} {c : Nat} (hr : w.heap[r]? = some (.map es c)) (o' : Obj) : (setObj r o').run P w = .ok () (setBlock w r o') := by
  simp [setObj, Sem.run, setBlock, hr]
theorem MapX.made (w : World) (mkK : α → Value) (mkV : β → Value) : MapX mkK mkV (w.alloc (.map #[] 0)) w.heap.size [] 0 := ⟨heap_alloc_new w _, by simp, by simp, by simp⟩

section
variable [DecidableEq α]
theorem modify_put {k : Nat} {t : α × β × Nat} {a : α} (v : β) (hn : (L.map (·.1)).Nodup) (hk : L[k]? = some t) (hta : t.1 = a) :
    (L.map (ent mkK mkV)).toArray.modify k (fun e => { e with key := mkK a, val := mkV v }) = ((putX L a v c).map (ent mkK mkV)).toArray := by
  have hh : hasX L a = true := hasX_mem.2 ⟨t, List.mem_of_getElem? hk, hta⟩
  rw [putX, if_pos hh]
  apply Array.toList_inj.1
  apply List.ext_getElem?
  intro i
  simp only [Array.toList_modify, List.getElem?_modify, List.getElem?_map]
  cases hi : L[i]? with
  | none => simp
  | some u =>
    by_cases hik : k = i
    · subst hik
      rw [hk] at hi
      simp only [Option.some.injEq] at hi
      subst hi
      simp [hta, ent]
    · have hne : u.1 ≠ a := by
        intro e
        have h1 : (L.map (·.1))[k]? = some a := by simp [hk, hta]
        have h2 : (L.map (·.1))[i]? = some a := by simp [hi, e]
        obtain ⟨l1, e1⟩ := List.getElem?_eq_some_iff.1 h1
        obtain ⟨l2, e2⟩ := List.getElem?_eq_some_iff.1 h2
        exact hik ((List.getElem_inj hn).1 (e1.trans e2.symm))
      simp [hik, hne]
theorem MapX.put_wf (h : MapX mkK mkV w b L c) (a : α) (v : β) : ((putX L a v c).map (·.1)).Nodup ∧ ((putX L a v c).map (·.2.2)).Nodup ∧ ∀ t ∈ putX L a v c, t.2.2 < (if hasX L a then c else c + 1) := by
  unfold putX
  cases hh : hasX L a
  · simp only [Bool.false_eq_true, if_false, List.map_append, List.map_cons, List.map_nil]
    refine ⟨List.nodup_append.2 ⟨h.keys, by simp, ?_⟩, List.nodup_append.2 ⟨h.born, by simp, ?_⟩, ?_⟩
    · intro x hx y hy e
      simp only [List.mem_singleton] at hy
      subst hy; subst e
      obtain ⟨t, ht, hta⟩ := List.mem_map.1 hx
      have := hasX_mem.2 ⟨t, ht, hta⟩
      rw [hh] at this; cases this
    · intro x hx y hy e
      simp only [List.mem_singleton] at hy
      subst hy; subst e
      obtain ⟨t, ht, hta⟩ := List.mem_map.1 hx
      have := h.old t ht
      omega
    · intro t ht
      rcases List.mem_append.1 ht with ht | ht
      · have := h.old t ht; omega
      · simp at ht; subst ht; simp
  · simp only [if_true]
    have e1 : (L.map (fun t => if t.1 = a then (t.1, v, t.2.2) else t)).map (·.1) = L.map (·.1) := by
      rw [List.map_map]; apply List.map_congr_left; intro t _; simp only [Function.comp]; split <;> rfl
    have e2 : (L.map (fun t => if t.1 = a then (t.1, v, t.2.2) else t)).map (·.2.2) = L.map (·.2.2) := by
      rw [List.map_map]; apply List.map_congr_left; intro t _; simp only [Function.comp]; split <;> rfl
    refine ⟨by rw [e1]; exact h.keys, by rw [e2]; exact h.born, fun t ht => ?_⟩
    obtain ⟨u, hu, rfl⟩ := List.mem_map.1 ht
    have := h.old u hu
    split <;> simpa using this
theorem lookX_put (L : List (α × β × Nat)) (a x : α) (v z : β) (c : Nat) : lookX (putX L a v c) x z = if x = a then v else lookX L x z := by
  unfold putX
  cases hh : hasX L a
  · simp only [Bool.false_eq_true, if_false, lookX, List.find?_append]
    by_cases hx : x = a
    · subst hx
      have : L.find? (fun t => decide (t.1 = x)) = none := List.find?_eq_none.2 (fun t ht => by
        have := List.any_eq_false.1 hh t ht
        simpa using this)
      simp [this]
    · have h2 : ([(a, v, c)] : List (α × β × Nat)).find? (fun t => decide (t.1 = x)) = none := by simp; exact fun h => hx h.symm
      simp [h2, hx]
  · simp only [if_true]
    by_cases hx : x = a
    · subst hx
      rw [if_pos rfl]
      induction L with
      | nil => simp [hasX] at hh
      | cons t r ih =>
        by_cases e : t.1 = x
        · simp [lookX, e]
        · have h2 : hasX r x = true := by simpa [hasX, e] using hh
          have := ih h2
          simp only [lookX, List.map_cons, e, if_false] at this ⊢
          rw [List.find?_cons_of_neg (by simpa using e)]
          exact this
    · rw [if_neg hx]
      clear hh
      induction L with
      | nil => rfl
      | cons t r ih =>
        by_cases e : t.1 = x
        · have e2 : ¬ t.1 = a := fun h => hx (e.symm.trans h)
          simp [lookX, e, hx]
        · have h1 : ¬ (if t.1 = a then (t.1, v, t.2.2) else t).1 = x := by split <;> exact e
          simp only [lookX, List.map_cons] at ih ⊢
          rw [List.find?_cons_of_neg (by simpa using h1), List.find?_cons_of_neg (by simpa using e)]
          exact ih
end
section
variable [DecidableEq α] {P : Program} {T K E : TypeId} (hK : KeyL P K mkK) (ht : P.underlying T = some (.map K E))
include hK ht
theorem MapX.lookup (h : MapX mkK mkV w b L c) (z : β) (hz : ∀ w, (zeroValue E).run P w = .ok (mkV z) w) (a : α) : (Instr.lookup T (.map (some b)) (mkK a) false).run P w = .ok (mkV (lookX L a z)) w := by
  have hf := hK.find mkV w a L
  cases he : findX mkV a L 0 with
  | none =>
    rw [he] at hf
    rw [lookX_has z (findX_none he)]
    simp [Instr.lookup, run_underlying ht, getObj, Sem.run_bind, Sem.run, h.heap, hK.check, hf, hz]
  | some p =>
    obtain ⟨j, v⟩ := p
    rw [he] at hf
    obtain ⟨k, t, -, hk, hta, rfl, hb⟩ := findX_some he
    rw [lookX_at z hk hta hb]
    simp [Instr.lookup, run_underlying ht, getObj, Sem.run_bind, Sem.run, h.heap, hK.check, hf]

theorem MapX.update (h : MapX mkK mkV w b L c) (a : α) (v : β) :
    ∃ w', (Instr.mapUpdate T (.map (some b)) (mkK a) (mkV v)).run P w = .ok () w' ∧ MapX mkK mkV w' b (putX L a v c) (if hasX L a then c else c + 1) ∧ Fr (fun k => k = b) w w' ∧ w'.heap.size = w.heap.size := by
  have hf := hK.find mkV w a L
  obtain ⟨p1, p2, p3⟩ := h.put_wf a v
  cases he : findX mkV a L 0 with
  | none =>
    rw [he] at hf
    have hh := findX_none he
    refine ⟨setBlock w b (.map ((putX L a v c).map (ent mkK mkV)).toArray (if hasX L a then c else c + 1)), ?_, ⟨setBlock_at w b _ h.lt, p1, p2, p3⟩, fr_setBlock _ _ _, size_setBlock _ _ _⟩
    simp [Instr.mapUpdate, run_underlying ht, getObj, Sem.run_bind, Sem.run, h.heap, hK.check, hf, run_setObj_map h.heap, putX, hh, ent]
  | some p =>
    obtain ⟨j, v'⟩ := p
    rw [he] at hf
    obtain ⟨k, t, hj, hk, hta, rfl, hb⟩ := findX_some he
    simp only [Nat.zero_add] at hj
    subst hj
    have hh : hasX L a = true := hasX_mem.2 ⟨t, List.mem_of_getElem? hk, hta⟩
    have hkey : ((((L.map (ent mkK mkV)).toArray[j]?).map (·.key)).getD (mkK a)) = mkK a := by simp [hk, ent, hta]
    refine ⟨setBlock w b (.map ((putX L a v c).map (ent mkK mkV)).toArray (if hasX L a then c else c + 1)), ?_, ⟨setBlock_at w b _ h.lt, p1, p2, p3⟩, fr_setBlock _ _ _, size_setBlock _ _ _⟩
    rw [← modify_put (c := c) v h.keys hk hta, hh]
    simp only [Instr.mapUpdate, run_underlying ht, getObj, Sem.run_bind, Sem.run, h.heap, hK.check, hf, Result.andThen, hkey, hK.stays, run_setObj_map h.heap, if_true]
theorem MapX.entryNew (h : MapX mkK mkV w b L c) (z : β) (hz : ∀ w, (zeroValue E).run P w = .ok (mkV z) w) (a : α) (hh : hasX L a = false) :
    ∃ w', (Instr.mapEntry T (.map (some b)) (mkK a)).run P w = .ok (.tuple #[mkV z, goInt c]) w' ∧ MapX mkK mkV w' b (L ++ [(a, z, c)]) (c + 1) ∧ Fr (fun k => k = b) w w' ∧ w'.heap.size = w.heap.size := by
  have hf := hK.find mkV w a L
  obtain ⟨p1, p2, p3⟩ := h.put_wf a z
  simp only [putX, hh, Bool.false_eq_true, if_false] at p1 p2 p3
  cases he : findX mkV a L 0 with
  | none =>
    rw [he] at hf
    refine ⟨setBlock w b (.map ((L ++ [(a, z, c)]).map (ent mkK mkV)).toArray (c + 1)), ?_, ⟨setBlock_at w b _ h.lt, p1, p2, p3⟩, fr_setBlock _ _ _, size_setBlock _ _ _⟩
    simp [Instr.mapEntry, run_underlying ht, getObj, Sem.run_bind, Sem.run, h.heap, hK.check, hf, hz, run_setObj_map h.heap, ent]
  | some p =>
    obtain ⟨j, v'⟩ := p
    obtain ⟨k, t, hj, hk, hta, rfl, hb⟩ := findX_some he
    have : hasX L a = true := hasX_mem.2 ⟨t, List.mem_of_getElem? hk, hta⟩
    rw [hh] at this; cases this
theorem MapX.delete (h : MapX mkK mkV w b L c) (a : α) (ty : TypeId) :
    ∃ w', (Builtin.delete_ #[T, K] ty #[.map (some b), mkK a]).run P w = .ok (.tuple #[]) w' ∧ MapX mkK mkV w' b (L.filter (fun t => decide (t.1 ≠ a))) c ∧ Fr (fun k => k = b) w w' ∧ w'.heap.size = w.heap.size := by
  have hf := hK.find mkV w a L
  have wf : ((L.filter (fun t => decide (t.1 ≠ a))).map (·.1)).Nodup ∧ ((L.filter (fun t => decide (t.1 ≠ a))).map (·.2.2)).Nodup ∧ ∀ t ∈ L.filter (fun t => decide (t.1 ≠ a)), t.2.2 < c :=
    ⟨((List.filter_sublist (l := L)).map _).nodup h.keys, ((List.filter_sublist (l := L)).map _).nodup h.born, fun t ht => h.old t (List.mem_filter.1 ht).1⟩
  cases he : findX mkV a L 0 with
  | none =>
    rw [he] at hf
    have hh := findX_none he
    have hfil : L.filter (fun t => decide (t.1 ≠ a)) = L := List.filter_eq_self.2 fun t ht => by
      have := List.any_eq_false.1 hh t ht
      simpa using this
    refine ⟨setBlock w b (.map ((L.filter (fun t => decide (t.1 ≠ a))).map (ent mkK mkV)).toArray c), ?_, ⟨setBlock_at w b _ h.lt, wf.1, wf.2.1, wf.2.2⟩, fr_setBlock _ _ _, size_setBlock _ _ _⟩
    rw [hfil]
    simp [Builtin.delete_, run_underlying ht, getObj, Sem.run_bind, Sem.run, h.heap, hK.check, hf, run_setObj_map h.heap]
  | some p =>
    obtain ⟨j, v'⟩ := p
    rw [he] at hf
    obtain ⟨k, t, hj, hk, hta, rfl, hb⟩ := findX_some he
    simp only [Nat.zero_add] at hj
    subst hj
    have hfil : (L.map (ent mkK mkV)).toArray.eraseIdxIfInBounds j = ((L.filter (fun t => decide (t.1 ≠ a))).map (ent mkK mkV)).toArray := by
      have hjl := (List.getElem?_eq_some_iff.1 hk).1
      have h1 : L.filter (fun t => decide (t.1 ≠ a)) = L.eraseIdx j := by
        obtain ⟨_, hjt⟩ := List.getElem?_eq_some_iff.1 hk
        have hL : L = L.take j ++ (t :: L.drop (j + 1)) := by
          rw [← hjt, List.getElem_cons_drop, List.take_append_drop]
        have hnd := h.keys
        rw [hL, List.map_append, List.map_cons] at hnd
        obtain ⟨-, n2, n3⟩ := List.nodup_append.1 hnd
        obtain ⟨n4, -⟩ := List.nodup_cons.1 n2
        rw [List.eraseIdx_eq_take_drop_succ]
        conv => lhs; rw [hL]
        rw [List.filter_append, List.filter_cons_of_neg (by simp [hta])]
        congr 1
        · refine List.filter_eq_self.2 fun u hu => ?_
          have := n3 u.1 (List.mem_map_of_mem hu) t.1 (by simp)
          rw [hta] at this
          simpa using this
        · refine List.filter_eq_self.2 fun u hu => ?_
          have : u.1 ≠ a := fun e => n4 (by rw [hta, ← e]; exact List.mem_map_of_mem hu)
          simpa using this
      rw [h1]
      apply Array.toList_inj.1
      rw [Array.toList_eraseIdxIfInBounds]
      rw [List.eraseIdx_eq_take_drop_succ, List.eraseIdx_eq_take_drop_succ]
      simp
    refine ⟨setBlock w b (.map ((L.filter (fun t => decide (t.1 ≠ a))).map (ent mkK mkV)).toArray c), ?_, ⟨setBlock_at w b _ h.lt, wf.1, wf.2.1, wf.2.2⟩, fr_setBlock _ _ _, size_setBlock _ _ _⟩
    rw [← hfil]
    simp [Builtin.delete_, run_underlying ht, getObj, Sem.run_bind, Sem.run, h.heap, hK.check, hf, run_setObj_map h.heap]
end
section
variable {P : Program} {T : TypeId}
/-- The entry that 'mapEntry' has made takes its value. -/
theorem MapX.entryStore {a : α} {z : β} (h : MapX mkK mkV w b (L ++ [(a, z, c)]) (c + 1)) (v : β) :
    ∃ w', (Instr.entryStore T (.map (some b)) (goInt c) (mkV v)).run P w = .ok () w' ∧ MapX mkK mkV w' b (L ++ [(a, v, c)]) (c + 1) ∧ Fr (fun k => k = b) w w' ∧ w'.heap.size = w.heap.size := by
  have hb0 : ∀ t ∈ L, t.2.2 ≠ c := by
    have := h.born
    rw [List.map_append, List.nodup_append] at this
    intro t ht e
    exact this.2.2 t.2.2 (List.mem_map_of_mem ht) c (by simp) e
  have hidx : ((L ++ [(a, z, c)]).map (ent mkK mkV)).toArray.findIdx? (fun e => (e.born : Int) == (c : Int)) = some L.length := by
    rw [List.findIdx?_toArray, List.findIdx?_eq_some_iff_getElem]
    refine ⟨by simp, by simp [ent], fun j hj => ?_⟩
    have hne := hb0 (L[j]) (by simp)
    simp only [List.getElem_map, ent, List.getElem_append_left hj]
    simp only [beq_iff_eq, Int.natCast_inj]
    exact hne
  refine ⟨setBlock w b (.map ((L ++ [(a, v, c)]).map (ent mkK mkV)).toArray (c + 1)), ?_, ⟨setBlock_at w b _ h.lt, ?_, ?_, ?_⟩, fr_setBlock _ _ _, size_setBlock _ _ _⟩
  · have hm : ((L ++ [(a, z, c)]).map (ent mkK mkV)).toArray.modify L.length (fun e => { e with val := mkV v }) = ((L ++ [(a, v, c)]).map (ent mkK mkV)).toArray := by
      apply Array.toList_inj.1
      apply List.ext_getElem?
      intro i
      simp only [Array.toList_modify, List.getElem?_modify, List.getElem?_map]
      rcases Nat.lt_trichotomy i L.length with hi | hi | hi
      · rw [List.getElem?_append_left hi, List.getElem?_append_left hi]
        have : ¬ L.length = i := by omega
        simp [this]
      · subst hi
        simp [ent]
      · rw [List.getElem?_eq_none (by simp; omega), List.getElem?_eq_none (by simp; omega)]
        simp
    rw [← hm]
    simp only [Instr.entryStore, getObj, Sem.run_bind, Sem.run, h.heap, Result.andThen, goInt, asInt, asIntOf, Sem.run_pure, hidx, run_setObj_map h.heap]
  · simpa using h.keys
  · simpa using h.born
  · intro t ht
    rcases List.mem_append.1 ht with ht | ht
    · exact h.old t (by simp [ht])
    · simp at ht; subst ht; simp
/-- A step of a range over the map. -/
theorem MapX.next (h : MapX mkK mkV w b L c) {r since c0 : Nat} {seen : Array Nat} (hr : w.heap[r]? = some (.mapIter (some b) since seen c0)) (hold : ∀ t ∈ L, t.2.2 < since) (hsc : since ≤ c0) (ty : TypeId) :
    ((∀ t ∈ L, seen.contains t.2.2 = true) ∧ (Instr.next (.pointer (some ⟨r, 0, none⟩)) false ty).run P w = .ok (.tuple #[.bool false]) w) ∨
    ∃ t ∈ L, seen.contains t.2.2 = false ∧ ∃ w', (Instr.next (.pointer (some ⟨r, 0, none⟩)) false ty).run P w = .ok (.tuple #[.bool true, mkK t.1, mkV t.2.1]) w' ∧
      w'.heap[r]? = some (.mapIter (some b) since (seen.push t.2.2) c) ∧ Fr (fun k => k = r) w w' ∧ w'.heap.size = w.heap.size ∧ (Instr.entry (.pointer (some ⟨r, 0, none⟩))).run P w' = .ok (.tuple #[mkK t.1, mkV t.2.1]) w' := by
  have hlt : r < w.heap.size := by
    rcases Nat.lt_or_ge r w.heap.size with h | h
    · exact h
    · rw [Array.getElem?_eq_none h] at hr; cases hr
  have hne : b ≠ r := by
    rintro rfl
    have := h.heap
    rw [hr] at this; cases this
  rcases run_next_at (P := P) w ty r b since c0 seen _ c hr h.heap (by
      intro x hx
      simp only [List.mem_map] at hx
      obtain ⟨t, ht, rfl⟩ := hx
      exact hold t ht) hsc with ⟨h0, hrun⟩ | ⟨e, he, w1, hw1, hrun⟩
  · refine .inl ⟨fun t ht => ?_, hrun⟩
    have : leftOf (L.map (ent mkK mkV)).toArray seen = #[] := Array.eq_empty_of_size_eq_zero h0
    unfold leftOf at this
    rw [Array.filter_eq_empty_iff] at this
    have := this (ent mkK mkV t) (by simp; exact ⟨_, _, _, ht, rfl⟩)
    simpa [ent] using this
  · obtain ⟨he1, he2⟩ := mem_left he
    simp only [List.mem_map] at he1
    obtain ⟨t, ht, rfl⟩ := he1
    refine .inr ⟨t, ht, he2, _, hrun, ?_, ?_, ?_, ?_⟩
    · refine setBlock_at w1 r _ ?_
      rcases hw1 with rfl | rfl <;> exact hlt
    · rcases hw1 with rfl | rfl
      · exact fr_setBlock _ _ _
      · exact ((Fr.refl _ w).drew).trans (fr_setBlock _ _ _)
    · rw [size_setBlock]; rcases hw1 with rfl | rfl <;> rfl
    · refine run_entry_at _ r b since seen _ c (ent mkK mkV t) (setBlock_at w1 r _ (by rcases hw1 with rfl | rfl <;> exact hlt)) ?_ (List.mem_map_of_mem ht) ?_
      · have : (setBlock w1 r (.mapIter (some b) since (seen.push (ent mkK mkV t).born) c)).heap[b]? = w1.heap[b]? := by
          show (w1.heap.setIfInBounds r _)[b]? = _
          rw [Array.getElem?_setIfInBounds_ne (Ne.symm hne)]
        rw [this]
        rcases hw1 with rfl | rfl <;> exact h.heap
      · simpa [ent, List.map_map, Function.comp_def] using h.born
end
end
end Go.Proofs.YtjgmbildgcighaaDoor
