import Derived.Test.YtjgmbildgcighaaArgs
namespace Go.Proofs.Ytjgmbildgcighaa
open Go.ChangeShapes Go.WideShapes Go.ChangeAt Go.RowKit Go.Deep
theorem int_arg {H : Type} {enc : TypeId × Value → H} {w : World} {base : Nat} {spare : Nat → Bool} {held : Bool} {n : Int} {d : DataW H} {p : List MemPlace} (h : DataW.Trod enc Try.prog w base spare held 3 (.int .i64 n) d p) :
    n ≤ 9223372036854775807 := by
  obtain ⟨fuel, hf⟩ := h
  obtain ⟨a, e, -, hw⟩ := DataW.trod_int Try.underlying3 hf
  simp [Value.cells] at e
  subst e
  simp only [Lit.wf, Bool.and_eq_true, decide_eq_true_eq] at hw
  exact hw.2
end Go.Proofs.Ytjgmbildgcighaa
