/-
  A disk in memory.
-/
import Derived.Test.YtjgmbildgcighaaDoorPlain
namespace Go.Proofs.YtjgmbildgcighaaDoor
open Go.RowKit

def fileV (f : FileC) : Value := .agg #[.string f.now, .string f.last]
def qcells (q : List (Int × Int)) : List Value := q.flatMap (fun p => [.int .i64 p.1, .int .i64 p.2])
theorem length_qcells (q : List (Int × Int)) : (qcells q).length = q.length * 2 := by
  induction q with
  | nil => rfl
  | cons p ps ih => simp only [qcells, List.flatMap_cons, List.length_append, List.length_cons] at ih ⊢; rw [ih]; simp; omega
theorem qcells_append (a b : List (Int × Int)) : qcells (a ++ b) = qcells a ++ qcells b := by simp [qcells]
theorem qcells_one (p : Int × Int) : qcells [p] = [.int .i64 p.1, .int .i64 p.2] := by simp [qcells]
theorem qcells_cons (p : Int × Int) (ps : List (Int × Int)) : qcells (p :: ps) = [.int .i64 p.1, .int .i64 p.2] ++ qcells ps := rfl
theorem qcells_ok (q : List (Int × Int)) : ∀ u ∈ qcells q, u.oneCell' = true := by
  intro u hu
  simp only [qcells, List.mem_flatMap, List.mem_cons, List.not_mem_nil, or_false] at hu
  obtain ⟨p, _, hu⟩ := hu
  rcases hu with rfl | rfl <;> rfl
theorem qcells_at (q : List (Int × Int)) (i : Nat) (p : Int × Int) (h : q[i]? = some p) : (qcells q)[i * 2]? = some (.int .i64 p.1) ∧ (qcells q)[i * 2 + 1]? = some (.int .i64 p.2) := by
  induction q generalizing i with
  | nil => simp at h
  | cons r rs ih =>
    rw [qcells_cons]
    cases i with
    | zero => simp at h; subst h; exact ⟨rfl, rfl⟩
    | succ i =>
      have := ih i (by simpa using h)
      rw [show (i + 1) * 2 = i * 2 + 2 by omega]
      refine ⟨?_, ?_⟩
      · rw [List.getElem?_append_right (by simp)]; simpa using this.1
      · rw [List.getElem?_append_right (by simp)]; simpa using this.2
theorem sec_elem : Elem Tryd.prog 59 78 (.agg #[.int .i64 0, .int .i64 0]) 2 16 := ⟨Tryd.underlying59, by kernel_rfl, rfl, by omega⟩
theorem int_elem : Elem Tryd.prog 39 3 (.int .i64 0) 1 8 := ⟨Tryd.underlying39, by kernel_rfl, rfl, by omega⟩

/-- Block b is the map of the files. -/
def FilesAt (w : World) (b : Nat) (fs : Int → FileC) : Prop := ∃ L c, MapX (Value.int .i64) fileV w b L c ∧ ∀ n, lookX L n file0 = fs n
/-- Block b is the set of the pending sectors. -/
def SetAt (w : World) (b : Nat) (q : List (Int × Int)) : Prop := ∃ L c, MapX secV Value.bool w b L c ∧ (∀ t ∈ L, t.2.1 = true) ∧ ∀ x, hasX L x = decide (x ∈ q)

section
variable {w w' : World} {b : Nat} {fs : Int → FileC} {q : List (Int × Int)} {S : Nat → Prop}
theorem FilesAt.lt (h : FilesAt w b fs) : b < w.heap.size := by obtain ⟨_, _, h, _⟩ := h; exact h.lt
theorem FilesAt.of_block (h : FilesAt w b fs) (hb : w'.heap[b]? = w.heap[b]?) : FilesAt w' b fs := by obtain ⟨L, c, h, h2⟩ := h; exact ⟨L, c, h.of_block hb, h2⟩
theorem FilesAt.keep (h : FilesAt w b fs) (hf : Fr S w w') (hn : ¬ S b) : FilesAt w' b fs := h.of_block (hf.block b h.lt hn)
theorem FilesAt.alloc (h : FilesAt w b fs) (o : Obj) : FilesAt (w.alloc o) b fs := h.of_block (Below.heap_alloc w o b h.lt)
theorem FilesAt.ne_blk {g : Nat} {t : TypeId} {cs : Array Value} (h : FilesAt w b fs) (hb : Blk w g t cs) : g ≠ b := by obtain ⟨_, _, h, _⟩ := h; exact h.ne_blk hb
theorem SetAt.lt (h : SetAt w b q) : b < w.heap.size := by obtain ⟨_, _, h, _⟩ := h; exact h.lt
theorem SetAt.of_block (h : SetAt w b q) (hb : w'.heap[b]? = w.heap[b]?) : SetAt w' b q := by obtain ⟨L, c, h, h2⟩ := h; exact ⟨L, c, h.of_block hb, h2⟩
theorem SetAt.keep (h : SetAt w b q) (hf : Fr S w w') (hn : ¬ S b) : SetAt w' b q := h.of_block (hf.block b h.lt hn)
theorem SetAt.alloc (h : SetAt w b q) (o : Obj) : SetAt (w.alloc o) b q := h.of_block (Below.heap_alloc w o b h.lt)
theorem SetAt.ne_blk {g : Nat} {t : TypeId} {cs : Array Value} (h : SetAt w b q) (hb : Blk w g t cs) : g ≠ b := by obtain ⟨_, _, h, _⟩ := h; exact h.ne_blk hb
theorem zero_file (w : World) : (zeroValue 80).run Tryd.prog w = .ok (fileV file0) w := by kernel_rfl
theorem zero_bool (w : World) : (zeroValue 4).run Tryd.prog w = .ok (.bool false) w := by kernel_rfl
theorem FilesAt.look (h : FilesAt w b fs) (n : Int) : (Instr.lookup 57 (.map (some b)) (.int .i64 n) false).run Tryd.prog w = .ok (fileV (fs n)) w := by
  obtain ⟨L, c, h, h2⟩ := h
  rw [← h2 n]
  exact h.lookup (key_int Tryd.underlying3) Tryd.underlying57 file0 zero_file n
theorem FilesAt.update (h : FilesAt w b fs) (n : Int) (x : FileC) :
    ∃ w', (Instr.mapUpdate 57 (.map (some b)) (.int .i64 n) (fileV x)).run Tryd.prog w = .ok () w' ∧ FilesAt w' b (upd fs n x) ∧ Fr (fun k => k = b) w w' ∧ w'.heap.size = w.heap.size := by
  obtain ⟨L, c, h, h2⟩ := h
  obtain ⟨w', hr, hm, hf, hs⟩ := h.update (key_int Tryd.underlying3) Tryd.underlying57 n x
  refine ⟨w', hr, ⟨_, _, hm, fun m => ?_⟩, hf, hs⟩
  rw [lookX_put]
  unfold upd
  split
  · rfl
  · exact h2 m
theorem SetAt.look (h : SetAt w b q) (p : Int × Int) : (Instr.lookup 58 (.map (some b)) (.agg #[.int .i64 p.1, .int .i64 p.2]) false).run Tryd.prog w = .ok (.bool (decide (p ∈ q))) w := by
  obtain ⟨L, c, h, h2, h3⟩ := h
  have hl : lookX L p false = decide (p ∈ q) := by
    rw [← h3 p]
    cases hh : hasX L p
    · exact lookX_has false hh
    · obtain ⟨t, ht, rfl⟩ := hasX_mem.1 hh
      rw [lookX_mem false h.keys ht, h2 t ht]
  rw [← hl]
  exact h.lookup key_sec Tryd.underlying58 false zero_bool p
end

/-- A disk in block g, whose blocks lie in F; kv: the slice value in its field 'keep'. -/
structure DiskX (w : World) (F : Nat → Prop) (g : Nat) (kv : Value) (d : DS) (bf bs : Nat) (qv : Value) : Prop where
  lt : ∀ k, F k → k < w.heap.size
  own : F g
  inv : DInv d
  blk : Blk w g 61 #[.map (some bf), qv, .map (some bs), .int .i64 d.lost, .bool d.down, .int .i64 d.armed, kv]
  ownf : F bf
  owns : F bs
  ne : bf ≠ bs
  files : FilesAt w bf d.fs
  set : SetAt w bs d.q
  row : Row w F 78 2 qv d.q.length (qcells d.q)
def DiskAt (w : World) (F : Nat → Prop) (g : Nat) (kv : Value) (d : DS) : Prop := ∃ bf bs qv, DiskX w F g kv d bf bs qv

section
variable {w w0 w1 w' : World} {F F' S : Nat → Prop} {g bf bs : Nat} {kv qv : Value} {d d' : DS}
theorem DiskX.gf (h : DiskX w F g kv d bf bs qv) : g ≠ bf := h.files.ne_blk h.blk
theorem DiskX.gs (h : DiskX w F g kv d bf bs qv) : g ≠ bs := h.set.ne_blk h.blk
theorem DiskX.qg (h : DiskX w F g kv d bf bs qv) : qv.ownBlock ≠ some g := own_blk_ne h.row.1 h.blk (by decide)
theorem DiskX.qf (h : DiskX w F g kv d bf bs qv) : qv.ownBlock ≠ some bf := fun e => by
  obtain ⟨_, _, hm, _⟩ := h.files
  exact hm.ne_own h.row.1 e rfl
theorem DiskX.qs (h : DiskX w F g kv d bf bs qv) : qv.ownBlock ≠ some bs := fun e => by
  obtain ⟨_, _, hm, _⟩ := h.set
  exact hm.ne_own h.row.1 e rfl
theorem DiskX.keep (h : DiskX w F g kv d bf bs qv) (hf : Fr S w w') (hn : ∀ k, F k → ¬ S k) : DiskX w' F g kv d bf bs qv :=
  ⟨fun k hk => Nat.lt_of_lt_of_le (h.lt k hk) hf.size, h.own, h.inv, h.blk.keep hf (hn g h.own), h.ownf, h.owns, h.ne, h.files.keep hf (hn bf h.ownf), h.set.keep hf (hn bs h.owns), h.row.keep hf fun k hk _ => hn k hk⟩
theorem DiskX.more (h : DiskX w F g kv d bf bs qv) (h1 : ∀ k, F k → F' k) (h2 : ∀ k, F' k → k < w.heap.size) : DiskX w F' g kv d bf bs qv :=
  ⟨h2, h1 g h.own, h.inv, h.blk, h1 bf h.ownf, h1 bs h.owns, h.ne, h.files, h.set, h.row.more fun k _ => h1 k⟩
theorem DiskX.alloc (h : DiskX w F g kv d bf bs qv) (o : Obj) : DiskX (w.alloc o) F g kv d bf bs qv := h.keep ((Fr.refl (fun _ => False) w).alloc o) fun _ _ h => h
theorem DiskX.drewN (h : DiskX w F g kv d bf bs qv) (n : Nat) : DiskX (w.drewN n) F g kv d bf bs qv := h.keep ((Fr.refl (fun _ => False) w).drewN n) fun _ _ h => h
theorem DiskX.drew (h : DiskX w F g kv d bf bs qv) : DiskX w.drew F g kv d bf bs qv := h.keep (Fr.refl (fun _ => False) w).drew fun _ _ h => h
theorem DiskAt.keep (h : DiskAt w F g kv d) (hf : Fr S w w') (hn : ∀ k, F k → ¬ S k) : DiskAt w' F g kv d := by obtain ⟨a, b, c, h⟩ := h; exact ⟨a, b, c, h.keep hf hn⟩
theorem DiskAt.more (h : DiskAt w F g kv d) (h1 : ∀ k, F k → F' k) (h2 : ∀ k, F' k → k < w.heap.size) : DiskAt w F' g kv d := by obtain ⟨a, b, c, h⟩ := h; exact ⟨a, b, c, h.more h1 h2⟩
theorem DiskAt.alloc (h : DiskAt w F g kv d) (o : Obj) : DiskAt (w.alloc o) F g kv d := h.keep ((Fr.refl (fun _ => False) w).alloc o) fun _ _ h => h
theorem DiskAt.drewN (h : DiskAt w F g kv d) (n : Nat) : DiskAt (w.drewN n) F g kv d := h.keep ((Fr.refl (fun _ => False) w).drewN n) fun _ _ h => h
theorem DiskAt.lt (h : DiskAt w F g kv d) : ∀ k, F k → k < w.heap.size := by obtain ⟨a, b, c, h⟩ := h; exact h.lt
theorem DiskAt.own (h : DiskAt w F g kv d) : F g := by obtain ⟨a, b, c, h⟩ := h; exact h.own
theorem DiskAt.inv (h : DiskAt w F g kv d) : DInv d := by obtain ⟨a, b, c, h⟩ := h; exact h.inv
/-- A store into one of the plain fields. -/
theorem DiskX.set_ (h : DiskX w F g kv d bf bs qv) {i : Nat} {u kv' : Value} (hinv : DInv d') (hfs : d'.fs = d.fs) (hq : d'.q = d.q)
    (hb : (#[.map (some bf), qv, .map (some bs), .int .i64 d.lost, .bool d.down, .int .i64 d.armed, kv] : Array Value).setIfInBounds i u = #[.map (some bf), qv, .map (some bs), .int .i64 d'.lost, .bool d'.down, .int .i64 d'.armed, kv']) :
    DiskX (w.setCell ⟨g, i, none⟩ u) F g kv' d' bf bs qv := by
  have hf : Fr (fun k => k = g) w (w.setCell ⟨g, i, none⟩ u) := (Fr.refl (fun k => k = g) w).setCell (fun _ => rfl) u
  refine ⟨fun k hk => Nat.lt_of_lt_of_le (h.lt k hk) hf.size, h.own, hinv, hb ▸ h.blk.set_ i u, h.ownf, h.owns, h.ne, hfs ▸ h.files.keep hf (Ne.symm h.gf), hq ▸ h.set.keep hf (Ne.symm h.gs), ?_⟩
  rw [hq]
  exact h.row.far h.qg u

def DPost (w : World) (F : Nat → Prop) (g : Nat) (r kv : Value) (d : DS) (e : Ending) (w' : World) : Prop :=
  e = .returned r ∧ DiskAt w' (Grow F w w') g kv d ∧ Fr F w w'
theorem grow_lt {F : Nat → Prop} (hF : ∀ k, F k → k < w.heap.size) (hs : w.heap.size ≤ w'.heap.size) : ∀ k, Grow F w w' k → k < w'.heap.size := by
  rintro k (h | h)
  · exact Nat.lt_of_lt_of_le (hF k h) hs
  · exact h.2
theorem DiskAt.post0 {r : Value} (h : DiskAt w F g kv d) (h1 : DiskAt w1 F g kv d') (hf : Fr F w w1) : DPost w F g r kv d' (.returned r) w1 :=
  ⟨rfl, h1.more (fun _ hk => .inl hk) (grow_lt h.lt hf.size), hf⟩
/-- The call changes nothing but counts of the world. -/
theorem DiskAt.same {r : Value} (h : DiskAt w F g kv d) (n : Nat) : DPost w F g r kv d (.returned r) (w.drewN n) := h.post0 (h.drewN n) ((Fr.refl _ _).drewN n)
theorem DPost.is {r r' : Value} {e : Ending} (h : DPost w F g r kv d e w') (hr : r = r') (hd : d = d') : DPost w F g r' kv d' e w' := by subst hr hd; exact h
/-- Two calls after each other. -/
theorem DPost.then_ {r r' : Value} {e e' : Ending} {d1 d2 : DS} (h : DPost w F g r kv d1 e w1) (h2 : DPost w1 (Grow F w w1) g r' kv d2 e' w') (hl : ∀ k, F k → k < w.heap.size) : DPost w F g r' kv d2 e' w' := by
  obtain ⟨rfl, hd, hf⟩ := h
  obtain ⟨rfl, hd2, hf2⟩ := h2
  have s1 := hf.size
  have s2 := hf2.size
  refine ⟨rfl, hd2.more (fun k hk => ?_) (grow_lt hl (by omega)), hf.trans' hf2 fun i hi h => ?_⟩
  · rcases hk with (hk | hk) | hk
    · exact .inl hk
    · exact .inr (by omega)
    · exact .inr (by omega)
  · rcases h with h | h
    · exact h
    · omega
end
/-- The slice value '.slice B ks.length c' reads as the numbers ks, and lies outside of F. -/
def KeepAt (w : World) (F : Nat → Prop) (B : Option Addr) (ks : List Int) : Prop :=
  ∀ k p, ks[k]? = some p → ∃ b o, B = some ⟨b, o, none⟩ ∧ b < w.heap.size ∧ ¬ F b ∧ w.cell? ⟨b, o + k, none⟩ = some (.int .i64 p)
theorem KeepAt.fr {w w' : World} {F F' S : Nat → Prop} {B : Option Addr} {ks : List Int} (h : KeepAt w F B ks) (hf : Fr S w w') (hS : ∀ k, k < w.heap.size → S k → F k) (hF : ∀ k, k < w.heap.size → F' k → F k) : KeepAt w' F' B ks := by
  intro k p hk
  obtain ⟨b, o, hB, hlt, hn, hc⟩ := h k p hk
  exact ⟨b, o, hB, Nat.lt_of_lt_of_le hlt hf.size, fun hb => hn (hF b hlt hb), by rw [hf.cell hlt fun hs => hn (hS b hlt hs)]; exact hc⟩
theorem KeepAt.nil (w : World) (F : Nat → Prop) (B : Option Addr) : KeepAt w F B [] := fun k p h => by simp at h
end Go.Proofs.YtjgmbildgcighaaDoor
