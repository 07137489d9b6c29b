import Derived.Test.YtjgmbildgcighaaDoorC6
import Derived.LaidMore
import Derived.Stop.Joined
import Derived.ProofKit
import Derived.OpenShut
import Derived.ShutString
import Derived.ChangeOld
import Derived.Deep.Slices
import Derived.Deep.Fields
import Derived.ChangeSame
namespace Go.Proofs.YtjgmbildgcighaaDoor
open Go.ChangeShapes Go.WideShapes Go.ChangeAt Go.RowKit Go.Deep

theorem own : ownKnob Tryd.prog.godebug = none := by kernel_rfl
theorem laidOut : laidOutB Tryd.prog = true := by kernel_rfl

section
variable {H : Type} {enc : TypeId × Value → H} {P : Program} {w : World} {base : Nat} {spare : Nat → Bool} {held : Bool}
/-- An argument that is a slice of structs of one-cell fields: the cell of each field, and its reading. -/
theorem open_rows {t e : TypeId} {fs : Array Field} {fuel : Nat} {cs : List Value} {x : DataW H × List MemPlace} (ht : P.underlying t = some (.slice e)) (he : P.underlying e = some (.struct fs))
    (hone : oneCellFields P fs = true) (hC : P.cellsOf e = fs.size) (h : DataW.trod enc P w base spare held fuel t cs = some x) :
    cs = [.slice none 0 0] ∨
    ∃ (a : Addr) (len cap : Nat), cs = [.slice (some a) len cap] ∧ len ≤ cap ∧ cap ≤ maxLen ∧
      ∀ i, i < len → ∃ n, ∀ (j : Nat) (f : Field), fs[j]? = some f → ∃ (v : Value) (y : DataW H × List MemPlace), w.cell? (a.add (i * fs.size + j)) = some v ∧ DataW.trod enc P w base spare held n f.type [v] = some y := by
  rcases open_slice ht h with ⟨h0, _⟩ | ⟨a, len, cap, m, n, D, Pl, hcs, hb, hl, hm, hmm, hx, hi⟩
  · exact .inl h0
  · refine .inr ⟨a, len, cap, hcs, hl, hm, fun i hil => ?_⟩
    have him : i < m := by rw [hmm]; split <;> omega
    obtain ⟨cs', hc, ht'⟩ := hi i him
    rw [hC] at hc
    obtain ⟨ys, n', hn', hy, hlen, hyl, hf⟩ := DataW.trod_struct he ht'
    obtain ⟨_, hcl, hat⟩ := World.cells?_some hc
    refine ⟨n', fun j f hj => ?_⟩
    obtain ⟨ho, hk⟩ := hone_of hone j f hj
    have hjl : j < fs.size := (Array.getElem?_eq_some_iff.1 hj).1
    have hcell := hat j hjl
    have hv : cs'[j]? = some (cs'[j]'(by omega)) := List.getElem?_eq_getElem (by omega)
    have h1 := hf j f hj
    rw [ho, hk] at h1
    have hone' : (cs'.drop j).take 1 = [cs'[j]'(by omega)] := by
      rw [List.drop_eq_getElem_cons (by omega)]
      rfl
    rw [hone'] at h1
    have hys : ys[j]? = some (ys[j]'(by omega)) := List.getElem?_eq_getElem (by omega)
    refine ⟨_, _, ?_, h1.trans hys⟩
    rw [← Go.Deep.add_add, hcell, hv]
end

theorem list_of {α : Type} {p : Nat → α → Prop} (n : Nat) (h : ∀ i, i < n → ∃ x, p i x) : ∃ l : List α, l.length = n ∧ ∀ i x, l[i]? = some x → p i x := by
  induction n with
  | zero => exact ⟨[], rfl, by simp⟩
  | succ n ih =>
    obtain ⟨l, hl, hp⟩ := ih fun i hi => h i (by omega)
    obtain ⟨x, hx⟩ := h n (by omega)
    refine ⟨l ++ [x], by simp [hl], fun i y hy => ?_⟩
    rcases Nat.lt_or_ge i n with hi | hi
    · rw [List.getElem?_append_left (by omega)] at hy
      exact hp i y hy
    · rw [List.getElem?_append_right (by omega)] at hy
      have hi2 : i - l.length = 0 := by
        rcases Nat.eq_zero_or_pos (i - l.length) with h0 | h0
        · exact h0
        · rw [List.getElem?_eq_none (by simp; omega)] at hy; cases hy
      rw [hi2] at hy
      simp at hy
      subst hy
      have : i = n := by omega
      subst this
      exact hx

theorem ints_open {H : Type} {enc : TypeId × Value → H} {w : World} {base fuel : Nat} {spare : Nat → Bool} {held : Bool} {cs : List Value} {x : DataW H × List MemPlace} (hf : DataW.trod enc Tryd.prog w base spare held fuel 39 cs = some x) :
    ∃ (a : Option Addr) (ks : List Int) (cap : Nat), cs = [.slice a ks.length cap] ∧ KeepB w a ks ∧ ks.length ≤ 9223372036854775807 := by
  rcases open_ints Tryd.underlying39 Tryd.underlying3 (by kernel_rfl) hf with ⟨hcs, _⟩ | ⟨x, l, c, zs, hcs, _, hl, hm, hz, _, hcell, hwz⟩
  · exact ⟨none, [], 0, hcs, KeepB.nil _ _, by simp⟩
  · have hll : l ≤ zs.length := by rw [hz]; split <;> omega
    have hlen : (zs.take l).length = l := by simp; omega
    refine ⟨some x, zs.take l, c, by rw [hlen]; exact hcs, fun k z hk => ?_, by rw [hlen]; exact Nat.le_trans (Nat.le_trans hl hm) (by decide)⟩
    obtain ⟨hk1, hk2⟩ := List.getElem?_eq_some_iff.1 hk
    have c0 := hcell 0 (by simp at hk1; omega)
    have hs : x.spot = none := by simpa [Addr.add] using World.cell?_spot c0
    have hb : x.block < w.heap.size := by simpa [Addr.add] using block_lt_of_cell c0
    have ea : x = ⟨x.block, x.off, none⟩ := by cases x; simp_all
    have ck := hcell k (by simp at hk1; omega)
    rw [ea, Addr.add_lit] at ck
    refine ⟨x.block, x.off, by rw [← ea], hb, ?_⟩
    rw [ck]
    simp at hk1 hk2
    rw [List.getD_eq_getElem?_getD, List.getElem?_eq_getElem (by omega)]
    simp [hk2]
theorem ints_arg {H : Type} {enc : TypeId × Value → H} {w : World} {base : Nat} {spare : Nat → Bool} {held : Bool} {a : Option Addr} {len cap : Nat} {d : DataW H} {p : List MemPlace} (h : DataW.Trod enc Tryd.prog w base spare held 39 (.slice a len cap) d p) :
    ∃ ks : List Int, ks.length = len ∧ KeepB w a ks ∧ ks.length ≤ 9223372036854775807 := by
  obtain ⟨fuel, hf⟩ := h
  obtain ⟨a', ks, cap', hcs, h1, h2⟩ := ints_open hf
  simp [Value.cells] at hcs
  obtain ⟨rfl, rfl, rfl⟩ := hcs
  exact ⟨ks, rfl, h1, h2⟩
theorem int_arg {H : Type} {enc : TypeId × Value → H} {w : World} {base : Nat} {spare : Nat → Bool} {held : Bool} {n : Int} {d : DataW H} {p : List MemPlace} (h : DataW.Trod enc Tryd.prog w base spare held 3 (.int .i64 n) d p) :
    n ≤ 9223372036854775807 := by
  obtain ⟨fuel, hf⟩ := h
  obtain ⟨a, e, -, hw⟩ := DataW.trod_int Tryd.underlying3 hf
  simp [Value.cells] at e
  subst e
  simp only [Lit.wf, Bool.and_eq_true, decide_eq_true_eq] at hw
  exact hw.2
theorem ops_open {H : Type} {enc : TypeId × Value → H} {w : World} {base : Nat} {spare : Nat → Bool} {held : Bool} {a : Option Addr} {len cap : Nat} {d : DataW H} {p : List MemPlace} (h : DataW.Trod enc Tryd.prog w base spare held 38 (.slice a len cap) d p) :
    ∃ ops : List OpV, ops.length = len ∧ OpsAt w a ops ∧ ops.length ≤ 9223372036854775807 := by
  obtain ⟨fuel, hf⟩ := h
  rcases open_rows Tryd.underlying38 Tryd.underlying42 (by kernel_rfl) (by kernel_rfl) hf with hcs | ⟨ad, l, c, hcs, hl, hm, hi⟩
  · simp [Value.cells] at hcs
    obtain ⟨rfl, rfl, rfl⟩ := hcs
    exact ⟨[], rfl, fun k op hk => by simp at hk, by simp⟩
  · simp [Value.cells] at hcs
    obtain ⟨rfl, rfl, rfl⟩ := hcs
    obtain ⟨ops, h1, h2⟩ := list_of (p := fun i (x : OpV) => ad.spot = none ∧ ad.block < w.heap.size ∧ w.cell? ⟨ad.block, ad.off + i * 4, none⟩ = some (.int .i64 x.kind) ∧ w.cell? ⟨ad.block, ad.off + i * 4 + 1, none⟩ = some (.string x.s) ∧
        w.cell? ⟨ad.block, ad.off + i * 4 + 2, none⟩ = some (.int .i64 x.n) ∧ w.cell? ⟨ad.block, ad.off + i * 4 + 3, none⟩ = some (.slice x.kA x.k.length x.kc) ∧ KeepB w x.kA x.k ∧ x.n ≤ 9223372036854775807) len (fun i him => by
      obtain ⟨n, hf⟩ := hi i him
      obtain ⟨v0, y0, c0, t0⟩ := hf 0 _ rfl
      obtain ⟨v1, y1, c1, t1⟩ := hf 1 _ rfl
      obtain ⟨v2, y2, c2, t2⟩ := hf 2 _ rfl
      obtain ⟨v3, y3, c3, t3⟩ := hf 3 _ rfl
      obtain ⟨a0, e0, -, -⟩ := DataW.trod_int Tryd.underlying3 t0
      obtain ⟨a1, e1, -, -⟩ := DataW.trod_string Tryd.underlying9 t1
      obtain ⟨a2, e2, -, hw⟩ := DataW.trod_int Tryd.underlying3 t2
      obtain ⟨kA, k, kc, e3, hk1, hk2⟩ := ints_open t3
      simp at e0 e1 e2 e3
      subst e0 e1 e2 e3
      obtain ⟨n0, hf0⟩ := hi 0 (by omega)
      obtain ⟨z0, -, cz, -⟩ := hf0 0 _ rfl
      have hs : ad.spot = none := by simpa [Addr.add] using World.cell?_spot cz
      have hb : ad.block < w.heap.size := by simpa [Addr.add] using block_lt_of_cell cz
      have ea : ad = ⟨ad.block, ad.off, none⟩ := by cases ad; simp_all
      rw [ea, Addr.add_lit] at c0 c1 c2 c3
      refine ⟨⟨a0, a1, a2, k, kA, kc⟩, hs, hb, ?_, ?_, ?_, ?_, hk1, ?_⟩
      · exact c0
      · exact c1
      · exact c2
      · exact c3
      · simp only [Lit.wf, Bool.and_eq_true, decide_eq_true_eq] at hw
        have := hw.2
        exact this)
    refine ⟨ops, h1, fun k op hk => ?_, by rw [h1]; exact Nat.le_trans (Nat.le_trans hl hm) (by decide)⟩
    obtain ⟨hs, hb, c0, c1, c2, c3, c4, c5⟩ := h2 k op hk
    exact ⟨⟨ad.block, ad.off, by cases ad; simp_all, hb, c0, c1, c2, c3⟩, c4, c5⟩
/-! The package's table. -/
def laidL : List (String × DataW Unit) := [("taquin/cell.offsets", Rows.laid_taquin_cell_offsets)]
theorem gOffs : Tryd.prog.globalNamed "taquin/cell.offsets" = some 0 := by kernel_rfl
theorem tOffs : (Tryd.prog.globals[0]?).map (·.type) = some 72 := by kernel_rfl
theorem door_met (os : Os) (args : Array Value) : laidMetH Tryd.prog laidL ((World.doorLaid Tryd.prog 400 os).forCall (fun _ _ => 0) ⟨#[], args, []⟩).memory :=
  laidMetH_of_parts3 (fuel := 8) (laidMet_of_run' 8 (by kernel_rfl) (by kernel_rfl)) (by kernel_rfl) (by kernel_rfl)
theorem of_laid {W : World} (h : laidMetH Tryd.prog laidL W) : GAt W := by
  rw [MakeChecks.laidMetH_plain _ _ _ (by kernel_rfl)] at h
  obtain ⟨ps, ⟨g0, t0, cs0, f0, p0, q0, hg0, ht0, hv0, hd0, _, _⟩, _⟩ := h
  obtain rfl := Option.some.inj (gOffs.symm.trans hg0)
  obtain rfl := Option.some.inj (tOffs.symm.trans ht0)
  obtain ⟨xs, m1, rfl, hx1, hlen, hn3, hel⟩ := DataW.trod_array Tryd.underlying72 hd0
  have c3 : Tryd.prog.cellsOf 3 = 1 := by kernel_rfl
  have c72 : Tryd.prog.cellsOf 72 = 3 := by kernel_rfl
  rw [c72] at hlen
  have h1 := hel 1 (by decide)
  have h2 := hel 2 (by decide)
  obtain ⟨l0⟩ := cs0
  match l0, hlen, xs, hn3 with
  | [v0, v1, v2], _, [x0, x1, x2], _ =>
    simp only [Rows.laid_taquin_cell_offsets, List.map_cons, List.map_nil, Prod.mk.injEq, DataW.agg.injEq, List.cons.injEq] at hx1
    rw [c3] at h1 h2
    obtain ⟨k1, e1, e2, _⟩ := DataW.trod_int Tryd.underlying3 (show DataW.trod _ Tryd.prog W 0 _ false m1 3 [v1] = some x1 from h1)
    obtain ⟨k2, e3, e4, _⟩ := DataW.trod_int Tryd.underlying3 (show DataW.trod _ Tryd.prog W 0 _ false m1 3 [v2] = some x2 from h2)
    have hk1 : k1 = 64 := by have := hx1.1.2.1; rw [e2] at this; simpa using this.symm
    have hk2 : k2 = 131072 := by have := hx1.1.2.2.1; rw [e4] at this; simpa using this.symm
    simp at e1 e3
    subst e1 e3 hk1 hk2
    exact ⟨World.var?_cell hg0 hv0 1, World.var?_cell hg0 hv0 2⟩
end Go.Proofs.YtjgmbildgcighaaDoor
