import Derived.Test.YtbkloadgbicbeaaRefE
import Derived.Test.YtbkloadgbicbeaaHonA
namespace Go.Proofs.Ytbkloadgbicbeaa
open Go.RowKit

theorem CopyPost.mine {W w w' : World} {own : Nat → Nat} {ty : TypeId} {ps : List Pkt} {s : Int} {e : Ending} {i : Nat} (h : CopyPost w ty ps s e w') (hs : St W w own) (hi : i ≠ 0) :
    ∃ g' own', e = .returned (.pointer (some ⟨g', 0, none⟩)) ∧ NetAt w' (fun k => own' k = i) ty g' ps s ∧ Step W w w' own own' i := by
  obtain ⟨g', rfl, hn, hf⟩ := h
  obtain ⟨own', h1, h2⟩ := hs.step hi (hf.mono (fun _ _ h => h.elim))
  exact ⟨g', own', rfl, hn.more (fun k hk => (h2 k).2 (.inr hk)) (h1.st.lt hi), h1⟩
theorem NetAt.c0 {w : World} {F : Nat → Prop} {ty : TypeId} {g : Nat} {ps : List Pkt} {s : Int} (h : NetAt w F ty g ps s) : ∃ A c, w.cell? ⟨g, 0, none⟩ = some (.slice A ps.length c) ∧ Row w F 34 3 (.slice A ps.length c) ps.length (pcells ps) := by
  obtain ⟨_, _, v, hb, hr⟩ := h
  obtain ⟨A, c, rfl, -, -⟩ := hr.form
  exact ⟨A, c, hb.cell 0, hr⟩
theorem NetAt.lt {w : World} {F : Nat → Prop} {ty : TypeId} {g : Nat} {ps : List Pkt} {s : Int} (h : NetAt w F ty g ps s) : g < w.heap.size := h.1 g h.2.1
theorem NetAt.stay {w w' : World} {F : Nat → Prop} {ty : TypeId} {g : Nat} {ps : List Pkt} {s : Int} (h : NetAt w F ty g ps s) (hf : Fr (fun _ => False) w w') : NetAt w' F ty g ps s := h.keep hf fun _ _ h => h

/-- The relation of the loop: the network, the reference, a copy of each. -/
def RelT (W : World) (gn gm k : Nat) (c d : Value) (wr : World) : Prop :=
  ∃ own ps s qs t gc gd, St W wr own ∧ NetAt wr (fun b => own b = 1) 56 gn ps s ∧ NetAt wr (fun b => own b = 2) 51 gm ps s ∧ NetAt wr (fun b => own b = 3) 56 gc qs t ∧ NetAt wr (fun b => own b = 4) 51 gd qs t ∧
    c = .pointer (some ⟨gc, 0, none⟩) ∧ d = .pointer (some ⟨gd, 0, none⟩) ∧ ps.length ≤ k ∧ qs.length ≤ k

theorem list_held {w0 w : World} {g : Nat} {ps : List Pkt} {s : Int} {F : Nat → Prop} (h : NetAt w0 F 56 g ps s) (hb : ps.length ≤ 1000000) (hf : Fr (fun _ => False) w0 w) :
    Calls Try.prog 13 #[.pointer (some ⟨g, 0, none⟩)] w fun e w' => ∃ A' c', e = .returned (.slice A' ps.length c') ∧ Fr (fun _ => False) w0 w' ∧ Row w' (fun _ => True) 34 3 (.slice A' ps.length c') ps.length (pcells ps) :=
  (list_any g ps s w F (h.stay hf) hb).mono fun e w' ⟨v, he, hr, hf'⟩ => by
    obtain ⟨A', c', rfl, -, -⟩ := hr.form
    exact ⟨A', c', he, hf.trans' hf' (fun _ _ h => h), hr.more fun _ _ _ => trivial⟩
theorem same_held {w0 w : World} {F G : Nat → Prop} {u v : Value} {ps : List Pkt} (h1 : Row w F 34 3 u ps.length (pcells ps)) (h2 : Row w0 G 34 3 v ps.length (pcells ps)) (hm : ps.length ≤ 1000000) (hf : Fr (fun _ => False) w0 w) :
    Calls Try.prog 12 #[u, v] w fun e w' => e = .returned (.bool true) ∧ Fr (fun _ => False) w0 w' :=
  (same_row h1 (h2.keep hf fun _ _ _ h => h) hm).mono fun _ _ ⟨he, n, hw⟩ => ⟨he, by rw [hw]; exact hf.drewN n⟩
theorem hear_held {w0 w : World} {g : Nat} {ps : List Pkt} {s : Int} {F : Nat → Prop} (a b : Int) (h : NetAt w0 F 56 g ps s) (hf : Fr (fun _ => False) w0 w) :
    Calls Try.prog 15 #[.pointer (some ⟨g, 0, none⟩), .int .i64 a, .int .i64 b] w fun e w' => e = .returned (.bool (hearB s a b)) ∧ Fr (fun _ => False) w0 w' :=
  (hear_any g s a b w (h.stay hf).c1).mono fun _ _ ⟨he, n, hw⟩ => ⟨he, by rw [hw]; exact hf.drewN n⟩
theorem rhear_held {w0 w : World} {g : Nat} {ps : List Pkt} {s : Int} {F : Nat → Prop} (a b : Int) (h : NetAt w0 F 51 g ps s) (hf : Fr (fun _ => False) w0 w) :
    Calls Try.prog 24 #[.pointer (some ⟨g, 0, none⟩), .int .i64 a, .int .i64 b] w fun e w' => e = .returned (.bool (hearB s a b)) ∧ Fr (fun _ => False) w0 w' :=
  (rhear_any g s a b w (h.stay hf).c1).mono fun _ _ ⟨he, hw⟩ => ⟨he, hw ▸ hf⟩
theorem new_ref {W w : World} {own : Nat → Nat} (h : St W w own) : ∃ own', NetAt (w.alloc (.cells #[.slice none 0 0, .int .i64 0] 51)) (fun k => own' k = 2) 51 w.heap.size [] 0 ∧ Step W w (w.alloc (.cells #[.slice none 0 0, .int .i64 0] 51)) own own' 2 := by
  obtain ⟨own', h1, h2⟩ := h.new (.cells #[.slice none 0 0, .int .i64 0] 51) (i := 2) (by decide)
  exact ⟨own', ⟨h1.st.lt (by decide), h2, _, Blk.new w 51 _, Row.nil _ _ _ _⟩, h1⟩
end Go.Proofs.Ytbkloadgbicbeaa
