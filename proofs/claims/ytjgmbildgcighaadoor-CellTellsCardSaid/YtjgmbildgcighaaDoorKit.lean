/-
  Own words for memory, used by the walks of this seat: a frame with a set of blocks that may turn ('Fr'), a block that is known whole ('Blk'), a row of the call's own with a footprint ('Row').
-/
import Derived.KernelRfl
import Derived.WalkKit
import Derived.WalkSpells
import Derived.WalkLawsBesides
import Derived.Deep.QuietTactic
import Derived.BigQuiet
import Derived.Deep.Draws
import Derived.Lib.Hide
import Derived.Deep.RegionWith
import Derived.Deep.RegionHeld3
import Derived.Deep.RegionLaw
import Derived.Deep.DeepCutAuto
import Derived.Deep.DeepFit
import Derived.Deep.LoopGhost
import Derived.Maps.AppendAt
import Derived.RegionTactic
import Derived.OwnWalk
import Derived.Maps.RangeRun
import Derived.Lib.BufferWrite
import Derived.Laws.BytesString
import Derived.Laws.IdiomStrings
import Derived.Laws.MakeOwn
namespace Go.Proofs.YtjgmbildgcighaaDoor
open Go.RowKit

/-- From w to w' only blocks of the set S, and new ones, have turned. -/
structure Fr (S : Nat → Prop) (w w' : World) : Prop where
  os : w'.os = w.os
  tape : w'.tape = w.tape
  output : w'.output = w.output
  size : w.heap.size ≤ w'.heap.size
  block : ∀ k, k < w.heap.size → ¬ S k → w'.heap[k]? = w.heap[k]?

section
variable {S T : Nat → Prop} {a b c w w' : World}
theorem Fr.refl (S : Nat → Prop) (w : World) : Fr S w w := ⟨rfl, rfl, rfl, Nat.le_refl _, fun _ _ _ => rfl⟩
/-- Two steps; what the second may turn, and was there at the beginning, the whole may turn. -/
theorem Fr.trans' (h : Fr S a b) (k : Fr T b c) (hT : ∀ i, i < a.heap.size → T i → S i) : Fr S a c :=
  ⟨k.os.trans h.os, k.tape.trans h.tape, k.output.trans h.output, Nat.le_trans h.size k.size,
    fun i hi hn => (k.block i (Nat.lt_of_lt_of_le hi h.size) (fun ht => hn (hT i hi ht))).trans (h.block i hi hn)⟩
theorem Fr.trans (h : Fr S a b) (k : Fr S b c) : Fr S a c := h.trans' k fun _ _ h => h
theorem Fr.mono (h : Fr S w w') (hs : ∀ i, i < w.heap.size → S i → T i) : Fr T w w' :=
  ⟨h.os, h.tape, h.output, h.size, fun i hi hn => h.block i hi (fun hs' => hn (hs i hi hs'))⟩
theorem Fr.drewN (h : Fr S a w) (n : Nat) : Fr S a (w.drewN n) := ⟨h.os, h.tape, h.output, h.size, h.block⟩
theorem Fr.drew (h : Fr S a w) : Fr S a w.drew := ⟨h.os, h.tape, h.output, h.size, h.block⟩
theorem Fr.alloc (h : Fr S a w) (o : Obj) : Fr S a (w.alloc o) :=
  ⟨h.os, h.tape, h.output, Nat.le_trans h.size (by simp), fun i hi hn => (Below.heap_alloc w o i (Nat.lt_of_lt_of_le hi h.size)).trans (h.block i hi hn)⟩
theorem Fr.setCell (h : Fr S a w) {p : Addr} (hp : p.block < a.heap.size → S p.block) (u : Value) : Fr S a (w.setCell p u) :=
  ⟨h.os, h.tape, h.output, Nat.le_trans h.size (by simp [World.setCell]), fun i hi hn => (Below.heap_setCell w p u i (by rintro rfl; exact hn (hp hi))).trans (h.block i hi hn)⟩
theorem Fr.grown (h : Fr S a w) {row : Option Nat} (hg : w.grownBy w' row) (hr : ∀ k, row = some k → k < a.heap.size → S k) : Fr S a w' :=
  ⟨hg.os.trans h.os, hg.tape.trans h.tape, hg.output.trans h.output, Nat.le_trans h.size hg.size,
    fun i hi hn => (hg.block i (Nat.lt_of_lt_of_le hi h.size) (fun e => hn (hr i e.symm hi))).trans (h.block i hi hn)⟩
theorem Fr.cell (h : Fr S w w') {p : Addr} (hp : p.block < w.heap.size) (hn : ¬ S p.block) : w'.cell? p = w.cell? p := World.cell?_of_block (h.block p.block hp hn)
theorem Fr.frozen (h : Fr S w w') {p : Addr} (hp : p.block < w.heap.size) (hn : ¬ S p.block) : w'.frozen? p = w.frozen? p := World.frozen?_of_block (h.block p.block hp hn)
theorem Fr.below {B : Nat} (h : Fr S w w') (hB : B ≤ w.heap.size) (hS : ∀ i, S i → B ≤ i) : Below B w w' :=
  ⟨h.os, h.tape, h.output, h.size, fun k hk => h.block k (by omega) (fun hs => by have := hS k hs; omega)⟩
theorem Fr.of_below {B : Nat} (h : Below B w w') : Fr (fun k => B ≤ k) w w' := ⟨h.os, h.tape, h.output, h.size, fun k _ hn => h.block k (by omega)⟩
end

/-- Block g is just the cells cs of element type t, none frozen. -/
def Blk (w : World) (g : Nat) (t : TypeId) (cs : Array Value) : Prop := w.heap[g]? = some (.cells cs t (0, 0))

section
variable {S : Nat → Prop} {w w' : World} {g : Nat} {t : TypeId} {cs : Array Value}
theorem Blk.lt (h : Blk w g t cs) : g < w.heap.size := by
  rcases Nat.lt_or_ge g w.heap.size with hlt | hge
  · exact hlt
  · unfold Blk at h; rw [Array.getElem?_eq_none hge] at h; cases h
theorem Blk.cell (h : Blk w g t cs) (i : Nat) : w.cell? ⟨g, i, none⟩ = cs[i]? := cell_of_row w g i cs t (0, 0) h
theorem Blk.frozen (h : Blk w g t cs) (i : Nat) : w.frozen? ⟨g, i, none⟩ = false := by
  unfold Blk at h
  simp [World.frozen?, h]
theorem Blk.new (w : World) (t : TypeId) (cs : Array Value) : Blk (w.alloc (.cells cs t)) w.heap.size t cs := heap_alloc_new w _
theorem Blk.drewN (h : Blk w g t cs) (n : Nat) : Blk (w.drewN n) g t cs := h
theorem Blk.drew (h : Blk w g t cs) : Blk w.drew g t cs := h
theorem Blk.alloc (h : Blk w g t cs) (o : Obj) : Blk (w.alloc o) g t cs := (Below.heap_alloc w o g h.lt).trans h
theorem Blk.set_ (h : Blk w g t cs) (i : Nat) (u : Value) : Blk (w.setCell ⟨g, i, none⟩ u) g t (cs.setIfInBounds i u) := by
  unfold Blk at h ⊢
  simp [World.setCell, Array.getElem?_modify, h]
theorem Blk.far (h : Blk w g t cs) {p : Addr} (hp : g ≠ p.block) (u : Value) : Blk (w.setCell p u) g t cs := (Below.heap_setCell w p u g hp).trans h
theorem Blk.keep (h : Blk w g t cs) (hb : Fr S w w') (hg : ¬ S g) : Blk w' g t cs := (hb.block g h.lt hg).trans h
theorem Blk.grown {row : Option Nat} (h : Blk w g t cs) (hb : w.grownBy w' row) (hg : some g ≠ row) : Blk w' g t cs := (hb.block g h.lt hg).trans h
theorem Blk.ne_ {g' : Nat} {t' : TypeId} {cs' : Array Value} (h : Blk w g t cs) (h' : Blk w g' t' cs') (hne : t ≠ t') : g ≠ g' := by
  rintro rfl
  unfold Blk at h h'
  rw [h] at h'
  injection h' with h'
  injection h' with _ ht
  exact hne ht
theorem own_blk_ne {base : Nat} {e : TypeId} {size n : Nat} {v : Value} {xs : List Value} (h : w.ownsRow base e size v n xs) (hg : Blk w g t cs) (hne : e ≠ t) : v.ownBlock ≠ some g := by
  rcases h.2 with ⟨rfl, _⟩ | ⟨g', cap, cur, rfl, _, hh, _⟩
  · simp [Value.ownBlock]
  · intro he
    have : g' = g := by simpa [Value.ownBlock] using he
    subst this
    exact Blk.ne_ (t := e) hh hg hne rfl
end

/-- The slice value v holds the cells xs (size cells an element, n elements of type e) at the head of a block of its own, which lies in the set F. -/
def Row (w : World) (F : Nat → Prop) (e : TypeId) (size : Nat) (v : Value) (n : Nat) (xs : List Value) : Prop :=
  w.ownsRow 0 e size v n xs ∧ ∀ k, v.ownBlock = some k → F k

section
variable {S F F' : Nat → Prop} {w w' : World} {e : TypeId} {size n : Nat} {v : Value} {xs : List Value}
theorem Row.lt (h : Row w F e size v n xs) {k : Nat} (hk : v.ownBlock = some k) : k < w.heap.size := (h.1.lt k hk).2
theorem Row.nil (w : World) (F : Nat → Prop) (e : TypeId) (size : Nat) : Row w F e size (.slice none 0 0) 0 [] := ⟨World.ownsRow_nil w 0 e size, by simp [Value.ownBlock]⟩
theorem Row.more (h : Row w F e size v n xs) (hF : ∀ k, k < w.heap.size → F k → F' k) : Row w F' e size v n xs := ⟨h.1, fun k hk => hF k (h.lt hk) (h.2 k hk)⟩
theorem own_keep {base : Nat} (h : w.ownsRow base e size v n xs) (hb : Fr S w w') (hn : ∀ k, v.ownBlock = some k → ¬ S k) : w'.ownsRow base e size v n xs := by
  obtain ⟨h1, h2⟩ := h
  refine ⟨h1, ?_⟩
  rcases h2 with h2 | ⟨g, cap, cur, rfl, hg, hh, r⟩
  · exact .inl h2
  · refine .inr ⟨g, cap, cur, rfl, hg, ?_, r⟩
    have hlt : g < w.heap.size := Blk.lt (t := e) hh
    exact (hb.block g hlt (hn g (by simp [Value.ownBlock]))).trans hh
theorem Row.keep (h : Row w F e size v n xs) (hb : Fr S w w') (hn : ∀ k, F k → k < w.heap.size → ¬ S k) : Row w' F e size v n xs :=
  ⟨own_keep h.1 hb fun k hk => hn k (h.2 k hk) (h.lt hk), h.2⟩
theorem Row.drewN (h : Row w F e size v n xs) (q : Nat) : Row (w.drewN q) F e size v n xs := h
theorem Row.drew (h : Row w F e size v n xs) : Row w.drew F e size v n xs := h
theorem Row.alloc (h : Row w F e size v n xs) (o : Obj) : Row (w.alloc o) F e size v n xs := ⟨h.1.alloc o, h.2⟩
end
/-- A set of blocks, and all that are new from the world w to the world w'. -/
def Grow (F : Nat → Prop) (w w' : World) : Nat → Prop := fun k => F k ∨ (w.heap.size ≤ k ∧ k < w'.heap.size)
/-- The block that a slice value of the call's own lies in. -/
def Own (v : Value) : Nat → Prop := fun k => v.ownBlock = some k

/-- The slice value '.slice A n c' reads as the cells xs, size cells an element. -/
def Rd (w : World) (size : Nat) (A : Option Addr) (n : Nat) (xs : List Value) : Prop :=
  xs.length = n * size ∧ (0 < n → ∃ ad, A = some ad ∧ ∀ j u, xs[j]? = some u → w.cell? (ad.add j) = some u)

theorem Rd.zero (w : World) (size : Nat) (A : Option Addr) : Rd w size A 0 [] := ⟨by simp, fun h => absurd h (by omega)⟩
theorem Rd.of_row {w : World} {F : Nat → Prop} {e : TypeId} {size n c : Nat} {A : Option Addr} {xs : List Value} (h : Row w F e size (.slice A n c) n xs) : Rd w size A n xs := by
  refine ⟨h.1.1, fun hn => ?_⟩
  rcases h.1.2 with ⟨hv, h0⟩ | ⟨g, cap, cur, hv, _⟩
  · omega
  · have hA : A = some ⟨g, 0, none⟩ := by injection hv
    subst hA
    exact ⟨_, rfl, h.1.cells (g := g) rfl⟩

/-- What the laws on append ask of the element type: the slice type t has elements of type e, whose zero value is z, of 'size' cells and 'bytes' bytes. -/
structure Elem (P : Program) (t e : TypeId) (z : Value) (size bytes : Nat) : Prop where
  ht : P.underlying t = some (.slice e)
  hi : (P.info? e).map (fun i => (i.zero, i.size, i.bytes)) = some (some z, size, bytes)
  hzs : z.cells.size = size
  hsz : 0 < size

section
variable {P : Program} (w : World)
theorem run_append_of_nil (base : Nat) (t ty e : TypeId) (i : TypeInfo) (size : Nat) (ht : P.underlying t = some (.slice e)) (hi : P.info? e = some i)
    (v : Value) (n : Nat) (xs : List Value) (hown : w.ownsRow base e size v n xs) (c : Nat) : (Builtin.append_ #[t, t] ty #[v, .slice none 0 c]).run P w = .ok v w := by
  rcases hown.2 with ⟨rfl, rfl⟩ | ⟨g, cap, cur, rfl, _, _, hnc, _⟩
  · simp [Builtin.append_, run_underlying ht, sizeOf, typeInfo, hi, Builtin.lenOf, Builtin.firstCells]
  · simp [Builtin.append_, run_underlying ht, sizeOf, typeInfo, hi, Builtin.lenOf, Builtin.firstCells, hnc, storeCells]

theorem run_append_row (t ty e : TypeId) (z : Value) (size bytes : Nat) (hE : Elem P t e z size bytes) (F : Nat → Prop)
    (v : Value) (n : Nat) (xs : List Value) (hown : Row w F e size v n xs)
    (A : Option Addr) (m c : Nat) (news : List Value) (hr : Rd w size A m news) (h1 : ∀ u ∈ news, u.oneCell' = true)
    (hbound : (n + m) * (bytes + 1) ≤ 140737488355328) :
    ∃ v' w', (Builtin.append_ #[t, t] ty #[v, .slice A m c]).run P w = .ok v' w' ∧ Row w' (Grow F w w') e size v' (n + m) (xs ++ news) ∧ Fr (Own v) w w' := by
  obtain ⟨ht, hi0, hzs, hsz⟩ := hE
  obtain ⟨i, hi, hz, hsize, hby⟩ := info_parts hi0
  have hbytes : (n + m) * bytes ≤ 140737488355328 := Nat.le_trans (Nat.mul_le_mul_left _ (Nat.le_succ _)) hbound
  have h63 : n + m ≤ maxLen := by
    have : (n + m) * 1 ≤ (n + m) * (bytes + 1) := Nat.mul_le_mul_left _ (by omega)
    simp only [maxLen]; omega
  have key : ∀ ad, (∀ j u, news[j]? = some u → w.cell? (ad.add j) = some u) → ∃ v' w', (Builtin.append_ #[t, t] ty #[v, .slice (some ad) m c]).run P w = .ok v' w' ∧ Row w' (Grow F w w') e size v' (n + m) (xs ++ news) ∧ Fr (Own v) w w' := by
    intro ad hcells
    obtain ⟨v', w', hrun, h2, h3, _, h5⟩ := run_append_own_at (P := P) w 0 t ty e i z size bytes ht hi hz hsize hby hzs hsz v n xs hown.1 ad m c news hr.1 hcells h1 h63 hbytes (Nat.zero_le _)
    refine ⟨v', w', hrun, ⟨h2, fun k hk => ?_⟩, (Fr.refl _ w).grown h3 fun k hk _ => hk⟩
    rcases h5 with h5 | h5
    · exact .inl (hown.2 k (h5 ▸ hk))
    · have := (h2.lt k hk).2
      rw [h5] at hk; injection hk with hk; exact .inr ⟨by omega, this⟩
  rcases A with _ | ad
  · have hm : m = 0 := by
      rcases Nat.eq_zero_or_pos m with h0 | h0
      · exact h0
      · obtain ⟨ad, h, _⟩ := hr.2 h0
        cases h
    subst hm
    have hn : news = [] := List.eq_nil_of_length_eq_zero (by simpa using hr.1)
    subst hn
    exact ⟨v, w, run_append_of_nil w 0 t ty e i size ht hi v n xs hown.1 c, by simpa using hown.more (fun _ _ h => .inl h), Fr.refl _ w⟩
  · refine key ad fun j u hu => ?_
    rcases Nat.eq_zero_or_pos m with h0 | h0
    · subst h0
      have hn : news = [] := List.eq_nil_of_length_eq_zero (by simpa using hr.1)
      subst hn
      simp at hu
    · obtain ⟨ad', h, hc⟩ := hr.2 h0
      injection h with h
      subst h
      exact hc j u hu

theorem wp_append_row {o : Oper} {a : Act} {K : Act → World → Prop} {Q : Exit → Act → World → Prop} (s x : Operand) (t : TypeId)
    (ho : o.op = .call { callee := .builtin .append, args := #[s, x], argTypes := #[t, t] })
    (e : TypeId) (z : Value) (size bytes : Nat) (hE : Elem P t e z size bytes) (F : Nat → Prop)
    (v : Value) (n : Nat) (xs : List Value) (hs : a.eval s = v) (hown : Row w F e size v n xs)
    (A : Option Addr) (m c : Nat) (news : List Value) (hx : a.eval x = .slice A m c) (hr : Rd w size A m news) (h1 : ∀ u ∈ news, u.oneCell' = true)
    (hbound : (n + m) * (bytes + 1) ≤ 140737488355328)
    (h : ∀ v' w', Row w' (Grow F w w') e size v' (n + m) (xs ++ news) → Fr (Own v) w w' → K (a.put o.dst v') w') : o.wp P a w K Q := by
  obtain ⟨v', w', hrun, h2, h3⟩ := run_append_row (P := P) w t o.type e z size bytes hE F v n xs hown A m c news hr h1 hbound
  unfold Oper.wp execOp
  simp only [ho, resolve, invoke, builtin, Sem.run_bind, Sem.run_pure, Result.andThen_ok, List.map_toArray, List.map_cons, List.map_nil, hs, hx, hrun]
  exact h v' w' h2 h3

theorem wpList_append_row {ops : Array Oper} {rest : List Oper} {o : Oper} {a : Act} {Q : Exit → Act → World → Prop} (hgd : o.guard = none) (s x : Operand) (t : TypeId)
    (ho : o.op = .call { callee := .builtin .append, args := #[s, x], argTypes := #[t, t] })
    (e : TypeId) (z : Value) (size bytes : Nat) (hE : Elem P t e z size bytes) (F : Nat → Prop)
    (v : Value) (n : Nat) (xs : List Value) (hs : a.eval s = v) (hown : Row w F e size v n xs)
    (A : Option Addr) (m c : Nat) (news : List Value) (hx : a.eval x = .slice A m c) (hr : Rd w size A m news) (h1 : ∀ u ∈ news, u.oneCell' = true)
    (hbound : (n + m) * (bytes + 1) ≤ 140737488355328)
    (h : ∀ v' w', Row w' (Grow F w w') e size v' (n + m) (xs ++ news) → Fr (Own v) w w' → wpList P ops Q rest (a.put o.dst v') w') : wpList P ops Q (o :: rest) a w :=
  wpList_plain hgd fun _ hK => wp_append_row w s x t ho e z size bytes hE F v n xs hs hown A m c news hx hr h1 hbound fun v' w' h2 h3 => hK _ _ (h v' w' h2 h3)

theorem step_append_row {ops : Array Oper} {o : Oper} {a : Act} {K : Act → World → Prop} {Q : Exit → Act → World → Prop} {E : Prop} (hgd : o.guard = none) (s x : Operand) (t : TypeId)
    (ho : o.op = .call { callee := .builtin .append, args := #[s, x], argTypes := #[t, t] })
    (e : TypeId) (z : Value) (size bytes : Nat) (hE : Elem P t e z size bytes) (F : Nat → Prop)
    (v : Value) (n : Nat) (xs : List Value) (hs : a.eval s = v) (hown : Row w F e size v n xs)
    (A : Option Addr) (m c : Nat) (news : List Value) (hx : a.eval x = .slice A m c) (hr : Rd w size A m news) (h1 : ∀ u ∈ news, u.oneCell' = true)
    (hbound : (n + m) * (bytes + 1) ≤ 140737488355328)
    (h : ∀ v' w', Row w' (Grow F w w') e size v' (n + m) (xs ++ news) → Fr (Own v) w w' → K (a.put o.dst v') w') :
    if Region.wanted o (yielded ops a.tmps) = true then Oper.wp P o a w K Q else E := by
  have hw : Region.wanted o (yielded ops a.tmps) = true := by simp [Region.wanted, hgd]
  rw [if_pos hw]
  exact wp_append_row w s x t ho e z size bytes hE F v n xs hs hown A m c news hx hr h1 hbound h
end
theorem Row.form {w : World} {F : Nat → Prop} {e : TypeId} {size n : Nat} {v : Value} {xs : List Value} (h : Row w F e size v n xs) : ∃ A c, v = .slice A n c ∧ n ≤ c ∧ c ≤ maxLen := by
  rcases h.1.2 with ⟨rfl, rfl⟩ | ⟨g, cap, cur, rfl, _, _, h1, h2, _⟩
  · exact ⟨none, 0, rfl, Nat.le_refl _, Nat.zero_le _⟩
  · exact ⟨_, cap, rfl, h1, h2⟩

theorem Row.far {w : World} {F : Nat → Prop} {e : TypeId} {size n : Nat} {v : Value} {xs : List Value} (h : Row w F e size v n xs) {p : Addr} (hp : v.ownBlock ≠ some p.block) (u : Value) : Row (w.setCell p u) F e size v n xs :=
  ⟨own_keep h.1 ((Fr.refl (fun k => k = p.block) w).setCell (fun _ => rfl) u) (fun k hk e => hp (by rw [hk, e])), h.2⟩

/-- The cells of a new block of three. -/
theorem rd_new3 (w : World) (x y z : Value) (t : TypeId) : Rd (w.alloc (.cells #[x, y, z] t)) 3 (some ⟨w.heap.size, 0, none⟩) 1 [x, y, z] := by
  refine ⟨rfl, fun _ => ⟨_, rfl, fun j u hu => ?_⟩⟩
  have hb := Blk.new w t #[x, y, z]
  have : (⟨w.heap.size, 0, none⟩ : Addr).add j = ⟨w.heap.size, j, none⟩ := by unfold Addr.add; split <;> simp_all
  rw [this, hb.cell j]
  simpa using hu

theorem fr_set3 (w : World) (b : Nat) (x y z : Value) : Fr (fun k => k = b) w (((w.setCell ⟨b, 0, none⟩ x).setCell ⟨b, 1, none⟩ y).setCell ⟨b, 2, none⟩ z) :=
  Fr.setCell (Fr.setCell (Fr.setCell (Fr.refl (fun k => k = b) w) (p := ⟨b, 0, none⟩) (fun _ => rfl) x) (p := ⟨b, 1, none⟩) (fun _ => rfl) y) (p := ⟨b, 2, none⟩) (fun _ => rfl) z

/-- The cells vs laid over those of cur from the place off on. -/
def splice (cur : Array Value) (off : Nat) (vs : List Value) : Array Value := (cur.toList.take off ++ vs ++ cur.toList.drop (off + vs.length)).toArray
/-- n zero values, cell by cell. -/
def zeros (z : Value) (n : Nat) : List Value := (Builtin.zeroCells z.cells n).toList
theorem length_zeros (z : Value) (n : Nat) : (zeros z n).length = n * z.cells.size := by simp [zeros, size_zeroCells]
theorem size_splice {cur : Array Value} {off : Nat} {vs : List Value} (h : off + vs.length ≤ cur.size) : (splice cur off vs).size = cur.size := by
  simp [splice]; omega
theorem splice_nil (cur : Array Value) (off : Nat) : splice cur off [] = cur := by simp [splice]
theorem take_splice_lo {cur : Array Value} {off m : Nat} {vs : List Value} (h : m ≤ off) (ho : off ≤ cur.size) : (splice cur off vs).toList.take m = cur.toList.take m := by
  simp only [splice, List.append_assoc]
  rw [List.take_append_of_le_length (by simp; omega), List.take_take, Nat.min_eq_left h]
theorem take_splice_hi {cur : Array Value} {off : Nat} {vs : List Value} (ho : off ≤ cur.size) : (splice cur off vs).toList.take (off + vs.length) = cur.toList.take off ++ vs := by
  simp only [splice]
  have : (cur.toList.take off ++ vs).length = off + vs.length := by simp; omega
  rw [← this]
  exact List.take_left

section
variable {P : Program} (w : World)
theorem fr_setRow (w : World) (g : Nat) (cs : Array Value) : Fr (fun k => k = g) w (w.setRow g cs) :=
  ⟨rfl, rfl, rfl, by simp, fun k _ hk => setRow_other w g k _ hk⟩
/-- clear of a piece of a block. -/
theorem wpList_clear_row {ops : Array Oper} {rest : List Oper} {o : Oper} {a : Act} {Q : Exit → Act → World → Prop} (hgd : o.guard = none) (x : Operand) (t : TypeId)
    (ho : o.op = .call { callee := .builtin .clear, args := #[x], argTypes := #[t] })
    (e : TypeId) (z : Value) (size bytes : Nat) (hE : Elem P t e z size bytes) (hz1 : ∀ u ∈ z.cells.toList, u.oneCell' = true)
    (g off n c : Nat) (cur : Array Value) (hx : a.eval x = .slice (some ⟨g, off, none⟩) n c) (hb : Blk w g e cur) (hfit : off + n * size ≤ cur.size)
    (h : ∀ w', Blk w' g e (splice cur off (zeros z n)) → Fr (fun k => k = g) w w' → wpList P ops Q rest (a.put o.dst (.tuple #[])) w') :
    wpList P ops Q (o :: rest) a w := by
  refine wpList_plain hgd fun K hK => ?_
  obtain ⟨ht, hi0, hzs, hsz⟩ := hE
  obtain ⟨i, hi, hz, hsize, hby⟩ := info_parts hi0
  have hlen : (Builtin.zeroCells z.cells n).toList.length = n * size := by simp [size_zeroCells, hzs]
  rcases Nat.eq_zero_or_pos n with h0 | h0
  · subst h0
    have hr : (Builtin.clear_ #[t] o.type #[.slice (some ⟨g, off, none⟩) 0 c]).run P w = .ok (.tuple #[]) w := by
      simp [Builtin.clear_, run_underlying ht]
    unfold Oper.wp execOp
    simp only [ho, resolve, invoke, builtin, Sem.run_bind, Sem.run_pure, Result.andThen_ok, List.map_toArray, List.map_cons, List.map_nil, hx, hr]
    refine hK _ _ (h w ?_ (Fr.refl _ _))
    rw [show zeros z 0 = [] by simp [zeros, Builtin.zeroCells], splice_nil]
    exact hb
  · have hone : ∀ u ∈ (Builtin.zeroCells z.cells n).toList, u.oneCell' = true := by
      intro u hu
      simp only [Builtin.zeroCells, Array.toList_map, List.mem_map] at hu
      obtain ⟨k, _, rfl⟩ := hu
      have hk : k % z.cells.size < z.cells.size := Nat.mod_lt _ (by omega)
      rw [getElem!_pos z.cells _ hk]
      exact hz1 _ (by simp)
    have hst := run_storeCells_at P g off e (Builtin.zeroCells z.cells n).toList 0 cur w hb (by rw [hlen]; simpa using hfit) hone
    simp only [Nat.add_zero] at hst
    have hr : (Builtin.clear_ #[t] o.type #[.slice (some ⟨g, off, none⟩) n c]).run P w = .ok (.tuple #[]) (w.setRow g (cur.toList.take off ++ (Builtin.zeroCells z.cells n).toList ++ cur.toList.drop (off + (Builtin.zeroCells z.cells n).toList.length)).toArray) := by
      obtain ⟨m, rfl⟩ : ∃ m, n = m + 1 := ⟨n - 1, by omega⟩
      simp [Builtin.clear_, run_underlying ht, zeroValue, typeInfo, hi, hz, hst]
    unfold Oper.wp execOp
    simp only [ho, resolve, invoke, builtin, Sem.run_bind, Sem.run_pure, Result.andThen_ok, List.map_toArray, List.map_cons, List.map_nil, hx, hr]
    refine hK _ _ (h _ ?_ (fr_setRow w g _))
    exact setRow_heap w g cur _ e _ hb

/-- append in place, onto the head of a block that has room. -/
theorem step_append_blk {ops : Array Oper} {o : Oper} {a : Act} {K : Act → World → Prop} {Q : Exit → Act → World → Prop} {E : Prop} (hgd : o.guard = none) (s x : Operand) (t : TypeId)
    (ho : o.op = .call { callee := .builtin .append, args := #[s, x], argTypes := #[t, t] })
    (e : TypeId) (z : Value) (size bytes : Nat) (hE : Elem P t e z size bytes)
    (g n cap : Nat) (cur : Array Value) (hb : Blk w g e cur) (hs : a.eval s = .slice (some ⟨g, 0, none⟩) n cap)
    (ad : Addr) (m c : Nat) (news : List Value) (hx : a.eval x = .slice (some ad) m c) (hl : news.length = m * size) (hnews : ∀ j u, news[j]? = some u → w.cell? (ad.add j) = some u) (h1 : ∀ u ∈ news, u.oneCell' = true)
    (hroom : n + m ≤ cap) (hfit : n * size + m * size ≤ cur.size)
    (h : ∀ w', Blk w' g e (splice cur (n * size) news) → Fr (fun k => k = g) w w' → K (a.put o.dst (.slice (some ⟨g, 0, none⟩) (n + m) cap)) w') :
    if Region.wanted o (yielded ops a.tmps) = true then Oper.wp P o a w K Q else E := by
  have hw : Region.wanted o (yielded ops a.tmps) = true := by simp [Region.wanted, hgd]
  rw [if_pos hw]
  obtain ⟨ht, hi0, hzs, hsz⟩ := hE
  obtain ⟨i, hi, hz, hsize, hby⟩ := info_parts hi0
  subst hsize
  have hr := run_append_room (P := P) w t o.type e i ht hi g n cap cur hb ad m c news hl hnews h1 hroom (by rw [hl]; exact hfit)
  unfold Oper.wp execOp
  simp only [ho, resolve, invoke, builtin, Sem.run_bind, Sem.run_pure, Result.andThen_ok, List.map_toArray, List.map_cons, List.map_nil, hs, hx, hr]
  exact h _ (setRow_heap w g cur _ e _ hb) (fr_setRow w g _)
end
theorem Rd.lt_ {w : World} {size n : Nat} {A : Option Addr} {xs : List Value} (h : Rd w size A n xs) (hn : 0 < n) (hs : 0 < size) : ∃ ad, A = some ad ∧ ad.block < w.heap.size := by
  obtain ⟨ad, hA, hc⟩ := h.2 hn
  have hl : 0 < xs.length := by rw [h.1]; exact Nat.mul_pos hn hs
  refine ⟨ad, hA, ?_⟩
  have := block_lt_of_cell (hc 0 _ (List.getElem?_eq_getElem hl))
  simpa [Addr.add] using this
theorem block_add (a : Addr) (n : Nat) : (a.add n).block = a.block := by unfold Addr.add; split <;> rfl
theorem Rd.keep {w w' : World} {size n : Nat} {A : Option Addr} {xs : List Value} (h : Rd w size A n xs) (hk : ∀ p : Addr, p.block < w.heap.size → (∃ ad, A = some ad ∧ p.block = ad.block) → w'.cell? p = w.cell? p) : Rd w' size A n xs := by
  refine ⟨h.1, fun hn => ?_⟩
  obtain ⟨ad, hA, hc⟩ := h.2 hn
  refine ⟨ad, hA, fun j u hu => ?_⟩
  have h1 := hc j u hu
  rw [← h1]
  exact hk _ (block_lt_of_cell h1) ⟨ad, hA, block_add ad j⟩
theorem Rd.alloc {w : World} {size n : Nat} {A : Option Addr} {xs : List Value} (h : Rd w size A n xs) (o : Obj) : Rd (w.alloc o) size A n xs := h.keep fun p hp _ => World.cell?_alloc_lt w o p hp
theorem Rd.drewN {w : World} {size n : Nat} {A : Option Addr} {xs : List Value} (h : Rd w size A n xs) (q : Nat) : Rd (w.drewN q) size A n xs := h
theorem Rd.fr {w w' : World} {S : Nat → Prop} {size n : Nat} {A : Option Addr} {xs : List Value} (h : Rd w size A n xs) (hf : Fr S w w') (hn : ∀ ad, A = some ad → ad.block < w.heap.size → ¬ S ad.block) : Rd w' size A n xs :=
  h.keep fun p hp ⟨ad, hA, e⟩ => hf.cell hp (by rw [e]; exact hn ad hA (e ▸ hp))

/-- The state of a law on its way: W is the world of its beginning; 'own k' numbers the object that block k belongs to (0: none: an argument's, or a variable of the law's own). -/
structure St (W w : World) (own : Nat → Nat) : Prop where
  low : ∀ k, k < W.heap.size → own k = 0
  hi : ∀ k, w.heap.size ≤ k → own k = 0
  fr : Below W.heap.size W w

/-- From w to w' only object i, and what is new, has turned; new blocks belong to it, or to none. -/
structure Step (W w w' : World) (own own' : Nat → Nat) (i : Nat) : Prop where
  st0 : St W w own
  st : St W w' own'
  same : ∀ k, k < w.heap.size → own' k = own k
  new : ∀ k, w.heap.size ≤ k → own' k = i ∨ own' k = 0
  fr : Fr (fun k => own k = i) w w'

section
variable {W w w' : World} {own own' : Nat → Nat} {i j : Nat} {F : Nat → Prop}
theorem St.start (W : World) : St W W (fun _ => 0) := ⟨fun _ _ => rfl, fun _ _ => rfl, Below.refl _ _⟩
theorem St.lt (h : St W w own) (hi : i ≠ 0) : ∀ k, own k = i → k < w.heap.size := fun k hk => by
  rcases Nat.lt_or_ge k w.heap.size with h' | h'
  · exact h'
  · have := h.hi k h'; omega
theorem St.le (h : St W w own) : W.heap.size ≤ w.heap.size := h.fr.size
theorem St.alloc (h : St W w own) (o : Obj) : St W (w.alloc o) own := ⟨h.low, fun k hk => h.hi k (by simp at hk; omega), h.fr.alloc h.le o⟩
theorem St.drewN (h : St W w own) (n : Nat) : St W (w.drewN n) own := ⟨h.low, h.hi, (Below.trans h.fr ⟨rfl, rfl, rfl, Nat.le_refl _, fun _ _ => rfl⟩)⟩
theorem St.fr0 (h : St W w own) (hf : Fr F w w') (hF : ∀ k, F k → W.heap.size ≤ k) (hsz : w'.heap.size = w.heap.size) : St W w' own :=
  ⟨h.low, fun k hk => h.hi k (by omega), h.fr.trans (hf.below h.le hF)⟩
theorem St.step (h : St W w own) (hi : i ≠ 0) (hf : Fr (fun k => own k = i) w w') : ∃ own', Step W w w' own own' i ∧ ∀ k, own' k = i ↔ (own k = i ∨ (w.heap.size ≤ k ∧ k < w'.heap.size)) := by
  refine ⟨fun k => if w.heap.size ≤ k ∧ k < w'.heap.size then i else own k, ⟨h, ⟨fun k hk => ?_, fun k hk => ?_, h.fr.trans (hf.below h.le fun k hk => ?_)⟩, fun k hk => ?_, fun k hk => ?_, hf⟩, fun k => ?_⟩
  · have := h.le
    rw [if_neg (by omega)]; exact h.low k hk
  · have := hf.size
    rw [if_neg (by omega)]; exact h.hi k (by omega)
  · rcases Nat.lt_or_ge k W.heap.size with h' | h'
    · have := h.low k h'
      omega
    · exact h'
  · rw [if_neg (by omega)]
  · split
    · exact .inl rfl
    · exact .inr (h.hi k hk)
  · show (if w.heap.size ≤ k ∧ k < w'.heap.size then i else own k) = i ↔ _
    split
    · simp_all
    · rename_i hk
      exact ⟨.inl, fun h => h.elim id fun h => absurd h hk⟩
theorem Step.lt (h : Step W w w' own own' i) (hj : j ≠ 0) {k : Nat} (hk : own k = j) : own' k = j := by rw [h.same k (h.st0.lt hj k hk)]; exact hk
theorem Step.size (h : Step W w w' own own' i) : w.heap.size ≤ w'.heap.size := h.fr.size
variable {g : Nat}
theorem Blk.other {t : TypeId} {cs : Array Value} (hb : Blk w g t cs) (h : Step W w w' own own' i) (hij : own g ≠ i) : Blk w' g t cs ∧ own' g = own g := ⟨hb.keep h.fr hij, h.same g hb.lt⟩
theorem St.new (h : St W w own) (o : Obj) (hi : i ≠ 0) : ∃ own', Step W w (w.alloc o) own own' i ∧ own' w.heap.size = i := by
  obtain ⟨own', h1, h2⟩ := h.step hi (w' := w.alloc o) ((Fr.refl _ _).alloc o)
  exact ⟨own', h1, (h2 _).2 (.inr ⟨Nat.le_refl _, by simp⟩)⟩
/-- A new block of the law's own. -/
theorem St.box (h : St W w own) (cs : Array Value) (t : TypeId) : Blk (w.alloc (.cells cs t)) w.heap.size t cs ∧ own w.heap.size = 0 ∧ St W (w.alloc (.cells cs t)) own := ⟨Blk.new w t cs, h.hi _ (Nat.le_refl _), h.alloc _⟩
end
/-- The lowest bits of an int. -/
theorem and_low (x : Int) (k : Nat) (hk : k ≤ 32) : bits .and .i64 x ((2 ^ k - 1 : Nat) : Int) = x % ((2 ^ k : Nat) : Int) := by
  have h2 : (2 : Nat) ^ k ≤ 2 ^ 32 := Nat.pow_le_pow_right (by decide) hk
  have h1 : (1 : Nat) ≤ 2 ^ k := Nat.one_le_two_pow
  have hb : (BitVec.ofInt 64 ((2 ^ k - 1 : Nat) : Int)).toNat = 2 ^ k - 1 := by
    rw [BitVec.ofInt_natCast, BitVec.toNat_ofNat]; exact Nat.mod_eq_of_lt (by omega)
  show IntKind.i64.wrap ((BitVec.ofInt 64 x &&& BitVec.ofInt 64 ((2 ^ k - 1 : Nat) : Int)).toNat : Int) = _
  rw [BitVec.toNat_and, hb, Nat.and_two_pow_sub_one_eq_mod, BitVec.toNat_ofInt]
  have hp : (0 : Int) < ((2 ^ k : Nat) : Int) := by omega
  have e : ((((x % ((2 ^ 64 : Nat) : Int)).toNat % 2 ^ k : Nat)) : Int) = x % ((2 ^ k : Nat) : Int) := by
    rw [Int.natCast_emod, Int.toNat_of_nonneg (Int.emod_nonneg _ (by decide))]
    exact Int.emod_emod_of_dvd x (Int.natCast_dvd_natCast.2 (Nat.pow_dvd_pow 2 (by omega)))
  rw [e, IntKind.wrap_i64]
  have l1 := Int.emod_nonneg x (Int.ne_of_gt hp)
  have l2 := Int.emod_lt_of_pos x hp
  omega
theorem and15 (x : Int) : bits .and .i64 x 15 = x % 16 := and_low x 4 (by decide)
theorem and7 (x : Int) : bits .and .i64 x 7 = x % 8 := and_low x 3 (by decide)
theorem and1 (x : Int) : bits .and .i64 x 1 = x % 2 := and_low x 1 (by decide)
theorem and65535 (x : Int) : bits .and .i64 x 65535 = x % 65536 := and_low x 16 (by decide)
section
variable {W w w' : World} {own own' : Nat → Nat} {i j : Nat} {e : TypeId} {size n m : Nat} {v v' : Value} {xs ys : List Value}
theorem Row.mine (h : Row w (fun k => own k = i) e size v n xs) (hs : St W w own) (hi : i ≠ 0) (h' : Row w' (Grow (fun k => own k = i) w w') e size v' m ys) (hf : Fr (Own v) w w') :
    ∃ own', Row w' (fun k => own' k = i) e size v' m ys ∧ Step W w w' own own' i := by
  obtain ⟨own', h1, h2⟩ := hs.step hi (hf.mono (fun k _ hk => h.2 k hk))
  exact ⟨own', h'.more fun k _ hk => (h2 k).2 hk, h1⟩
theorem Row.other (h : Row w (fun k => own k = j) e size v n xs) (hs : Step W w w' own own' i) (hj : j ≠ 0) (hij : j ≠ i) : Row w' (fun k => own' k = j) e size v n xs :=
  (h.keep hs.fr fun k hk _ hk' => by omega).more fun _ _ hk => hs.lt hj hk
end
theorem str_inj {s t : ByteArray} (h : s.toList = t.toList) : s = t := Go.WideShapes.bytes_inj (by rw [← ByteArray.toList_eq, ← ByteArray.toList_eq]; exact h)
end Go.Proofs.YtjgmbildgcighaaDoor
