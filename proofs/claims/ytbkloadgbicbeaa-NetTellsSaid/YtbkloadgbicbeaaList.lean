import Derived.Test.YtbkloadgbicbeaaSmalls
namespace Go.Proofs.Ytbkloadgbicbeaa
open Go.RowKit

theorem Rd.lt_ {w : World} {size n : Nat} {A : Option Addr} {xs : List Value} (h : Rd w size A n xs) (hn : 0 < n) (hs : 0 < size) : ∃ ad, A = some ad ∧ ad.block < w.heap.size := by
  obtain ⟨ad, hA, hc⟩ := h.2 hn
  have hl : 0 < xs.length := by rw [h.1]; exact Nat.mul_pos hn hs
  refine ⟨ad, hA, ?_⟩
  have := block_lt_of_cell (hc 0 _ (List.getElem?_eq_getElem hl))
  simpa [Addr.add] using this
theorem block_add (a : Addr) (n : Nat) : (a.add n).block = a.block := by unfold Addr.add; split <;> rfl
theorem Rd.keep {w w' : World} {size n : Nat} {A : Option Addr} {xs : List Value} (h : Rd w size A n xs) (hk : ∀ p : Addr, p.block < w.heap.size → (∃ ad, A = some ad ∧ p.block = ad.block) → w'.cell? p = w.cell? p) : Rd w' size A n xs := by
  refine ⟨h.1, fun hn => ?_⟩
  obtain ⟨ad, hA, hc⟩ := h.2 hn
  refine ⟨ad, hA, fun j u hu => ?_⟩
  have h1 := hc j u hu
  rw [← h1]
  exact hk _ (block_lt_of_cell h1) ⟨ad, hA, block_add ad j⟩
theorem Rd.alloc {w : World} {size n : Nat} {A : Option Addr} {xs : List Value} (h : Rd w size A n xs) (o : Obj) : Rd (w.alloc o) size A n xs := h.keep fun p hp _ => World.cell?_alloc_lt w o p hp
theorem Rd.drewN {w : World} {size n : Nat} {A : Option Addr} {xs : List Value} (h : Rd w size A n xs) (q : Nat) : Rd (w.drewN q) size A n xs := h
theorem Rd.fr {w w' : World} {S : Nat → Prop} {size n : Nat} {A : Option Addr} {xs : List Value} (h : Rd w size A n xs) (hf : Fr S w w') (hn : ∀ ad, A = some ad → ad.block < w.heap.size → ¬ S ad.block) : Rd w' size A n xs :=
  h.keep fun p hp ⟨ad, hA, e⟩ => hf.cell hp (by rw [e]; exact hn ad hA (e ▸ hp))

/-- A new slice that holds ps; nothing that was there has turned. -/
def NewRow (w : World) (ps : List Pkt) (e : Ending) (w' : World) : Prop :=
  ∃ v, e = .returned v ∧ Row w' (fun k => w.heap.size ≤ k ∧ k < w'.heap.size) 34 3 v ps.length (pcells ps) ∧ Fr (fun _ => False) w w'

theorem clone_end {w w1 : World} {ps : List Pkt} {v' : Value} {o : Obj} (hr : Row w1 (Grow (fun k => k = w.heap.size) (w.alloc o) w1) 34 3 v' ps.length (pcells ps))
    (hf : Fr (Own (.slice (some ⟨w.heap.size, 0, none⟩) 0 0)) (w.alloc o) w1) : NewRow w ps (.returned v') w1 := by
  refine ⟨v', rfl, ?_, ?_⟩
  · have := hf.size
    simp only [World.size_alloc] at this
    exact hr.more fun k _ h => by
      rcases h with h | h
      · omega
      · simp at h; omega
  · refine ((Fr.refl _ w).alloc o).trans' hf fun k hk h => ?_
    have : w.heap.size = k := by simpa [Own, Value.ownBlock] using h
    omega

set_option maxRecDepth 100000 in
set_option maxHeartbeats 800000 in
theorem clone_any (A : Option Addr) (c : Nat) (ps : List Pkt) (w : World) (h : Rd w 3 A ps.length (pcells ps)) (hb : ps.length ≤ 1000000) :
    Calls Try.prog 27 #[.slice A ps.length c] w (NewRow w ps) := by
  cases A with
  | none =>
    have h0 : ps = [] := by
      rcases Nat.eq_zero_or_pos ps.length with h0 | h0
      · exact List.eq_nil_of_length_eq_zero h0
      · obtain ⟨ad, h1, _⟩ := h.2 h0; cases h1
    subst h0
    have hend : Hid (NewRow w [] (.returned (.slice none 0 0)) w) := ⟨_, rfl, Row.nil _ _ _ _, Fr.refl _ _⟩
    clear h hb
    have hq := fun W => Lib.run_eql_slice_nil (P := Try.prog) W 28 34 none 0 c 0 0 Try.underlying28
    go_enter Try.func27, Try.ntmps27
    go_wp2_with fail
    go_ret
    exact hend.out
  | some ad =>
    have HR := Lib.hid h
    clear h
    have hq := fun W => Lib.run_eql_slice_nil (P := Try.prog) W 28 34 (some ad) ps.length c 0 0 Try.underlying28
    go_enter Try.func27, Try.ntmps27
    go_wp2_with (at_builtin; refine wpList_append_row _ rfl (.tmp 5) (.tmp 6) 28 rfl 34 _ 3 32 pkt_elem (fun k => k = w.heap.size) (.slice (some ⟨w.heap.size, 0, none⟩) 0 0) 0 [] rfl ?c0 _ ps.length c (pcells ps) rfl ?c1 (pcells_ok _) ?c2 ?_)
    case c0 => exact ⟨⟨rfl, .inr ⟨w.heap.size, 0, #[], rfl, Nat.zero_le _, Blk.new w 34 #[], Nat.le_refl _, Nat.zero_le _, rfl, rfl⟩⟩, by simp [Value.ownBlock, eq_comm]⟩
    case c1 => exact HR.out.alloc _
    case c2 => omega
    intro v' w1 hrow1 hfr1
    have hend := Lib.hid (clone_end hrow1 hfr1)
    obtain ⟨A', c', rfl, -, -⟩ := hrow1.form
    clear hrow1 hfr1
    go_wp2_with fail
    go_ret
    exact hend.out
set_option maxRecDepth 100000 in
set_option maxHeartbeats 800000 in
theorem list_any (g : Nat) (ps : List Pkt) (s : Int) (w : World) (F : Nat → Prop) (h : NetAt w F 56 g ps s) (hb : ps.length ≤ 1000000) :
    Calls Try.prog 13 #[.pointer (some ⟨g, 0, none⟩)] w (NewRow w ps) := by
  obtain ⟨-, -, v, hbk, hr⟩ := h
  obtain ⟨A, c, rfl, hc, hcm⟩ := hr.form
  have c1 : w.cell? ⟨g, 0, none⟩ = some (.slice A ps.length c) := hbk.cell 0
  have HR := Lib.hid (Rd.of_row hr)
  clear hbk hr hc hcm
  go_enter Try.func13, Try.ntmps13
  go_wp2_with fail
  refine (clone_any A c ps _ HR.out hb).mono ?_
  rintro e w1 ⟨v', rfl, hr1, hf1⟩
  have hend : Hid (NewRow w ps (.returned v') w1) := ⟨v', rfl, hr1, hf1⟩
  obtain ⟨A', c', rfl, -, -⟩ := hr1.form
  clear hr1 hf1
  go_wp2_with fail
  go_ret
  exact hend.out
end Go.Proofs.Ytbkloadgbicbeaa
