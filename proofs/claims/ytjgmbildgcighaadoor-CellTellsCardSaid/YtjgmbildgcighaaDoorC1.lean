/-
  The cell as plain data, and in memory.
-/
import Derived.Test.YtjgmbildgcighaaDoorR10
namespace Go.Proofs.YtjgmbildgcighaaDoor
open Go.RowKit

structure CS where
  file : Int
  slot : Int
  value : ByteArray
  sure : Bool
def offs (slot : Int) : Int := if slot = 2 then 131072 else 64
def hdrB (slot : Int) (n : Nat) : ByteArray := ⟨#[UInt8.ofNat slot.toNat, UInt8.ofNat n, UInt8.ofNat (n / 256), UInt8.ofNat (n / 65536), UInt8.ofNat (n / 16777216)]⟩
theorem size_hdrB (slot : Int) (n : Nat) : (hdrB slot n).size = 5 := rfl
/-- The other slot. -/
def nxt (c : CS) : Int := if c.slot = 1 then 2 else 1
def need (c : CS) : Bool := !c.sure && decide (0 < c.slot)
def set4F (d : DS) (ks : List Int) (c : CS) (s : ByteArray) : Int × DS × CS := (syncE d ks c.file, syncD d ks c.file, { c with slot := nxt c, value := s, sure := syncE d ks c.file == 0 })
def set3F (d : DS) (ks : List Int) (c : CS) (s : ByteArray) : Int × DS × CS :=
  if writeE d c.file 0 (hdrB (nxt c) s.size) = 0 then set4F (writeD d ks c.file 0 (hdrB (nxt c) s.size)) ks c s else (writeE d c.file 0 (hdrB (nxt c) s.size), writeD d ks c.file 0 (hdrB (nxt c) s.size), c)
def set2F (d : DS) (ks : List Int) (c : CS) (s : ByteArray) : Int × DS × CS :=
  if syncE d ks c.file = 0 then set3F (syncD d ks c.file) ks c s else (syncE d ks c.file, syncD d ks c.file, c)
def set1F (d : DS) (ks : List Int) (c : CS) (s : ByteArray) : Int × DS × CS :=
  if writeE d c.file (offs (nxt c)) s = 0 then set2F (writeD d ks c.file (offs (nxt c)) s) ks c s else (writeE d c.file (offs (nxt c)) s, writeD d ks c.file (offs (nxt c)) s, c)
def setF (d : DS) (ks : List Int) (c : CS) (s : ByteArray) : Int × DS × CS :=
  if 65536 < s.size then (6, d, c)
  else if need c = true then (if syncE d ks c.file = 0 then set1F (syncD d ks c.file) ks { c with sure := true } s else (syncE d ks c.file, syncD d ks c.file, c))
  else set1F d ks c s

/-- A byte of a string, 0 behind its end. -/
def byB (s : ByteArray) (i : Nat) : Nat := (s.data.toList[i]?.getD 0).toNat
def lenB (h : ByteArray) : Nat := byB h 1 + 256 * byB h 2 + 65536 * byB h 3 + 16777216 * byB h 4
/-- Open: the error, and the cell. -/
def openF (d : DS) (f : Int) : Int × CS :=
  let c0 : CS := ⟨f, 0, ⟨#[]⟩, false⟩
  let h := readS d f 0 5
  if readE d f 0 5 = 0 then
    if byB h 0 = 0 then (0, c0)
    else if h.size < 5 ∨ (byB h 0 ≠ 1 ∧ byB h 0 ≠ 2) then (2, c0)
    else if 65536 < lenB h then (2, c0)
    else
      let v := readS d f (offs (byB h 0)) (lenB h)
      if v.size = lenB h then (0, ⟨f, byB h 0, v, false⟩) else (2, c0)
  else (readE d f 0 5, c0)

/-! In memory. -/
/-- From w to w' only objects in P, and what is new, have turned. -/
structure Steps (W w w' : World) (own own' : Nat → Nat) (P : Nat → Prop) : Prop where
  st0 : St W w own
  st : St W w' own'
  same : ∀ k, k < w.heap.size → own' k = own k
  fr : Fr (fun k => P (own k)) w w'
section
variable {W w w1 w2 w' : World} {own own1 own2 own' : Nat → Nat} {P Q : Nat → Prop} {i j g gd : Nat} {d : DS} {ks : List Int}
theorem Steps.of (h : Step W w w' own own' i) (hP : P i) : Steps W w w' own own' P :=
  ⟨h.st0, h.st, h.same, h.fr.mono fun _ _ hk => Eq.subst (motive := P) (Eq.symm hk) hP⟩
theorem Steps.refl (h : St W w own) (P : Nat → Prop) : Steps W w w own own P := ⟨h, h, fun _ _ => rfl, Fr.refl _ _⟩
theorem Steps.trans (h : Steps W w w1 own own1 P) (h2 : Steps W w1 w2 own1 own2 P) : Steps W w w2 own own2 P := by
  have s1 := h.fr.size
  refine ⟨h.st0, h2.st, fun k hk => (h2.same k (by omega)).trans (h.same k hk), h.fr.trans' h2.fr fun k hk e => ?_⟩
  rw [h.same k hk] at e; exact e
theorem Steps.mono (h : Steps W w w' own own' P) (hPQ : ∀ i, P i → Q i) : Steps W w w' own own' Q := ⟨h.st0, h.st, h.same, h.fr.mono fun _ _ hk => hPQ _ hk⟩
theorem Steps.frF (h : St W w own) (hf : Fr (fun _ => False) w w') (P : Nat → Prop) : Steps W w w' own own P := ⟨h, h.frF hf, fun _ _ => rfl, hf.mono fun _ _ h => h.elim⟩
theorem KeepAt.steps {A : Option Addr} (h : KeepAt w (fun k => own k ≠ 0) A ks) (hs : Steps W w w' own own' P) (hP : ¬ P 0) : KeepAt w' (fun k => own' k ≠ 0) A ks :=
  h.fr hs.fr (fun k _ hk => by show own k ≠ 0; intro e; have hk' : P (own k) := hk; rw [e] at hk'; exact hP hk') (fun k hk hn => by show own k ≠ 0; have : own' k ≠ 0 := hn; rw [hs.same k hk] at this; exact this)
theorem DO.steps (h : DO w own j g d ks) (hs : Steps W w w' own own' P) (hj0 : j ≠ 0) (hj : ¬ P j) (hP : ¬ P 0) : DO w' own' j g d ks := by
  obtain ⟨B, c, h1, h2, h3⟩ := h
  refine ⟨B, c, ?_, h2.steps hs hP, h3⟩
  have hlt := hs.st0.lt hj0
  exact (h1.keep hs.fr fun _ hk hk' => hj (Eq.subst (motive := P) hk hk')).more (fun k (hk : own k = j) => by show own' k = j; rw [hs.same k (hlt k hk)]; exact hk) (hs.st.lt hj0)
theorem RO.steps (h : RO w own j g d ks) (hs : Steps W w w' own own' P) (hj0 : j ≠ 0) (hj : ¬ P j) (hP : ¬ P 0) : RO w' own' j g d ks := by
  obtain ⟨B, c, h1, h2, h3⟩ := h
  refine ⟨B, c, ?_, h2.steps hs hP, h3⟩
  have hlt := hs.st0.lt hj0
  exact (h1.keep hs.fr fun _ hk hk' => hj (Eq.subst (motive := P) hk hk')).more (fun k (hk : own k = j) => by show own' k = j; rw [hs.same k (hlt k hk)]; exact hk) (hs.st.lt hj0)
/-- A cell in block g (of struct type t), number j of a law; its disk in block gd. -/
structure CO (t : TypeId) (w : World) (own : Nat → Nat) (j g gd : Nat) (c : CS) : Prop where
  blk : Blk w g t #[.pointer (some ⟨gd, 0, none⟩), .int .i64 c.file, .int .i64 c.slot, .string c.value, .bool c.sure]
  own : own g = j
variable {t : TypeId} {c c' : CS}
theorem CO.steps (h : CO t w own j g gd c) (hs : Steps W w w' own own' P) (hj : ¬ P j) : CO t w' own' j g gd c :=
  ⟨h.blk.keep hs.fr (by show ¬ P (own g); rw [h.own]; exact hj), (hs.same g h.blk.lt).trans h.own⟩
theorem CO.step (h : CO t w own j g gd c) (hs : Step W w w' own own' i) (hij : j ≠ i) : CO t w' own' j g gd c :=
  ⟨h.blk.keep hs.fr (by show ¬ own g = i; rw [h.own]; exact hij), (hs.same g h.blk.lt).trans h.own⟩
theorem CO.fr0 (h : CO t w own j g gd c) (hf : Fr (fun _ => False) w w') : CO t w' own j g gd c := ⟨h.blk.keep hf fun h => h, h.own⟩
theorem CO.drewN (h : CO t w own j g gd c) (n : Nat) : CO t (w.drewN n) own j g gd c := ⟨h.blk, h.own⟩
theorem CO.lt (h : CO t w own j g gd c) : g < w.heap.size := h.blk.lt
/-- A store into the cell. -/
theorem CO.set_ (h : CO t w own j g gd c) (hs : St W w own) (hj : j ≠ 0) (n : Nat) (u : Value)
    (hb : (#[.pointer (some ⟨gd, 0, none⟩), .int .i64 c.file, .int .i64 c.slot, .string c.value, .bool c.sure] : Array Value).setIfInBounds n u = #[.pointer (some ⟨gd, 0, none⟩), .int .i64 c'.file, .int .i64 c'.slot, .string c'.value, .bool c'.sure]) :
    CO t (w.setCell ⟨g, n, none⟩ u) own j g gd c' ∧ Step W w (w.setCell ⟨g, n, none⟩ u) own own j := by
  have hf : Fr (fun k => own k = j) w (w.setCell ⟨g, n, none⟩ u) := (Fr.refl (fun k => own k = j) w).setCell (fun _ => h.own) u
  have hsz : (w.setCell ⟨g, n, none⟩ u).heap.size = w.heap.size := by simp [World.setCell]
  refine ⟨⟨hb ▸ h.blk.set_ n u, h.own⟩, hs, ⟨hs.low, fun k hk => hs.hi k (by omega), hs.fr.trans (hf.below hs.le fun k hk => ?_)⟩, fun _ _ => rfl, fun k hk => .inr (hs.hi k hk), hf⟩
  rcases Nat.lt_or_ge k W.heap.size with h1 | h1
  · have := hs.low k h1
    have h2 : own k = j := hk
    omega
  · exact h1
theorem CO.cells (h : CO t w own j g gd c) : w.cell? ⟨g, 0, none⟩ = some (.pointer (some ⟨gd, 0, none⟩)) ∧ w.cell? ⟨g, 1, none⟩ = some (.int .i64 c.file) ∧ w.cell? ⟨g, 2, none⟩ = some (.int .i64 c.slot) ∧ w.cell? ⟨g, 3, none⟩ = some (.string c.value) ∧ w.cell? ⟨g, 4, none⟩ = some (.bool c.sure) :=
  ⟨h.blk.cell 0, h.blk.cell 1, h.blk.cell 2, h.blk.cell 3, h.blk.cell 4⟩
theorem CO.held (h : CO t w own j g gd c) : w.cell? ⟨g, 0, none⟩ = some (.pointer (some ⟨gd, 0, none⟩)) ∧ w.cell? ⟨g, 1, none⟩ = some (.int .i64 c.file) := ⟨h.blk.cell 0, h.blk.cell 1⟩
/-- The package's table of offsets. -/
def GAt (w : World) : Prop := w.cell? ⟨0, 1, none⟩ = some (.int .i64 64) ∧ w.cell? ⟨0, 2, none⟩ = some (.int .i64 131072)
theorem GAt.at (h : GAt W) (hs : St W w own) : GAt w := by
  have hlt := block_lt_of_cell h.1
  exact ⟨(hs.fr.cell (p := ⟨0, 1, none⟩) hlt).trans h.1, (hs.fr.cell (p := ⟨0, 2, none⟩) hlt).trans h.2⟩
end
end Go.Proofs.YtjgmbildgcighaaDoor
