import Derived.Test.YtjgmbildgcighaaDoorC3
namespace Go.Proofs.YtjgmbildgcighaaDoor
open Go.RowKit
/-- What Set leaves. -/
def SetPost (t : TypeId) (W w : World) (own : Nat → Nat) (i j gc gd : Nat) (ks : List Int) (r : Int × DS × CS) (e : Ending) (w' : World) : Prop :=
  e = .returned (.int .i64 r.1) ∧ ∃ own', CO t w' own' j gc gd r.2.2 ∧ DO w' own' i gd r.2.1 ks ∧ Steps W w w' own own' (fun n => n = i ∨ n = j)
theorem SetPost.mk' {t : TypeId} {W w w' : World} {own own' : Nat → Nat} {i j gc gd : Nat} {ks : List Int} {r : Int × DS × CS} {x : Int} {d : DS} {c : CS} (hr : r = (x, d, c)) (hc : CO t w' own' j gc gd c) (hd : DO w' own' i gd d ks) (hs : Steps W w w' own own' (fun n => n = i ∨ n = j)) :
    SetPost t W w own i j gc gd ks r (.returned (.int .i64 x)) w' := by subst hr; exact ⟨rfl, own', hc, hd, hs⟩
theorem Steps.of' {W w w' : World} {own own' : Nat → Nat} {i n : Nat} {P : Nat → Prop} (hs : St W w own) (h : Step W (w.drewN n) w' own own' i) (hP : P i) : Steps W w w' own own' P :=
  (Steps.frF hs ((Fr.refl (fun _ => False) w).drewN n) P).trans (Steps.of h hP)
theorem held3 {A B C : Prop} (h : A ∧ B) (c : C) : A ∧ B ∧ C := ⟨h.1, h.2, c⟩
end Go.Proofs.YtjgmbildgcighaaDoor
