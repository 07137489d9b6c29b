import Derived.Test.YtjgmbildgcighaaDoorCR1
import Derived.Test.YtjgmbildgcighaaDoorC4
namespace Go.Proofs.YtjgmbildgcighaaDoor
open Go.RowKit
/-- What the reference's Set leaves. -/
def SetPostR (t : TypeId) (W w : World) (own : Nat → Nat) (i j gc gd : Nat) (ks : List Int) (r : Int × DS × CS) (e : Ending) (w' : World) : Prop :=
  e = .returned (.int .i64 r.1) ∧ ∃ own', CO t w' own' j gc gd r.2.2 ∧ RO w' own' i gd r.2.1 ks ∧ Steps W w w' own own' (fun n => n = i ∨ n = j)
theorem SetPostR.mk' {t : TypeId} {W w w' : World} {own own' : Nat → Nat} {i j gc gd : Nat} {ks : List Int} {r : Int × DS × CS} {x : Int} {d : DS} {c : CS} (hr : r = (x, d, c)) (hc : CO t w' own' j gc gd c) (hd : RO w' own' i gd d ks) (hs : Steps W w w' own own' (fun n => n = i ∨ n = j)) :
    SetPostR t W w own i j gc gd ks r (.returned (.int .i64 x)) w' := by subst hr; exact ⟨rfl, own', hc, hd, hs⟩
theorem wrap_u8 (q : Nat) (h : q < 256) : IntKind.u8.wrap (q : Int) = q := by
  unfold IntKind.wrap IntKind.signed IntKind.bits
  simp
  omega
theorem ofNat_mod (n m : Nat) (h : m % 256 = n % 256) : UInt8.ofNat m = UInt8.ofNat n := by
  apply UInt8.toNat_inj.1
  rw [UInt8.toNat_ofNat', UInt8.toNat_ofNat']
  omega
theorem hdr_conv {w : World} {g : Nat} {x : Int} {q1 q3 q4 n : Nat} (hx : x = 1 ∨ x = 2) (h1 : q1 = n % 256) (h3 : q3 = n / 256 % 256) (h4 : q4 = n / 65536) (hn : n ≤ 65536) (hb : Blk w g 5 #[.int .u8 x, .int .u8 q1, .int .u8 q3, .int .u8 q4, .int .u8 0]) :
    (convert 46 9 (.slice (some ⟨g, 0, none⟩) 5 5)).run Tryd.prog w = .ok (.string (hdrB x n)) w := by
  have e1 : (q1 : Int) = ((UInt8.ofNat q1).toNat : Int) := by rw [UInt8.toNat_ofNat']; omega
  have e3 : (q3 : Int) = ((UInt8.ofNat q3).toNat : Int) := by rw [UInt8.toNat_ofNat']; omega
  have e4 : (q4 : Int) = ((UInt8.ofNat q4).toNat : Int) := by rw [UInt8.toNat_ofNat']; omega
  have e0 : x = ((UInt8.ofNat x.toNat).toNat : Int) := by rw [UInt8.toNat_ofNat']; omega
  have hc : (#[.int .u8 x, .int .u8 q1, .int .u8 q3, .int .u8 q4, .int .u8 0] : Array Value) = (bc [UInt8.ofNat x.toNat, UInt8.ofNat q1, UInt8.ofNat q3, UInt8.ofNat q4, 0]).toArray := by
    unfold bc
    simp only [List.map_cons, List.map_nil]
    rw [← e0, ← e1, ← e3, ← e4]
    rfl
  rw [hc] at hb
  have := bytes_back w g 5 [UInt8.ofNat x.toNat, UInt8.ofNat q1, UInt8.ofNat q3, UInt8.ofNat q4, 0] hb
  rw [show ([UInt8.ofNat x.toNat, UInt8.ofNat q1, UInt8.ofNat q3, UInt8.ofNat q4, 0] : List UInt8).length = 5 from rfl] at this
  rw [this]
  unfold hdrB
  rw [ofNat_mod n q1 (by omega), ofNat_mod (n / 256) q3 (by omega), h4, ← ofNat_mod (n / 16777216) 0 (by omega)]
  rfl
end Go.Proofs.YtjgmbildgcighaaDoor
