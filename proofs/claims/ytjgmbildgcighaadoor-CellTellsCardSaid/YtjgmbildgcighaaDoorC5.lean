import Derived.Test.YtjgmbildgcighaaDoorC4a
import Derived.Test.YtjgmbildgcighaaDoorC4b
import Derived.Test.YtjgmbildgcighaaDoorC4c
import Derived.Test.YtjgmbildgcighaaDoorC4d
import Derived.Test.YtjgmbildgcighaaDoorC4e
namespace Go.Proofs.YtjgmbildgcighaaDoor
open Go.RowKit
set_option maxRecDepth 100000 in
set_option maxHeartbeats 800000 in
theorem cset_long (W w : World) (own : Nat → Nat) (i j gc gd : Nat) (d : DS) (ks : List Int) (c : CS) (s : ByteArray) (hc : CO 70 w own j gc gd c) (hd : DO w own i gd d ks) (hs : St W w own) (hlong : 65536 < s.size) :
    Calls Tryd.prog 18 #[.pointer (some ⟨gc, 0, none⟩), .string s] w (SetPost 70 W w own i j gc gd ks (setF d ks c s)) := by
  have e0 : setF d ks c s = (6, d, c) := by unfold setF; rw [if_pos hlong]
  have hend := Lib.hid (SetPost.mk' e0 hc hd (Steps.refl hs _))
  have hlong' : (65536 : Int) < (s.size : Int) := by omega
  clear hc hd hs e0 hlong
  go_enter Tryd.func18, Tryd.ntmps18
  go_wp2_with fail
  go_ret
  exact hend.out
theorem cset_any (W w : World) (own : Nat → Nat) (i j gc gd : Nat) (d : DS) (ks : List Int) (c : CS) (s : ByteArray) (hc : CO 70 w own j gc gd c) (hd : DO w own i gd d ks) (hs : St W w own) (hi : i ≠ 0) (hj : j ≠ 0) (hji : j ≠ i) (hG : GAt W) :
    Calls Tryd.prog 18 #[.pointer (some ⟨gc, 0, none⟩), .string s] w (SetPost 70 W w own i j gc gd ks (setF d ks c s)) := by
  by_cases hl : 65536 < s.size
  · exact cset_long W w own i j gc gd d ks c s hc hd hs hl
  cases hsu : c.sure
  · by_cases h1 : c.slot = 1
    · exact cset_a W w own i j gc gd d ks c s hc hd hs hi hj hji hG hl hsu h1
    · by_cases h0 : 0 < c.slot
      · exact cset_b W w own i j gc gd d ks c s hc hd hs hi hj hji hG hl hsu h0 h1
      · exact cset_e W w own i j gc gd d ks c s hc hd hs hi hj hji hG hl hsu h0 h1
  · by_cases h1 : c.slot = 1
    · exact cset_c W w own i j gc gd d ks c s hc hd hs hi hj hji hG hl hsu h1
    · exact cset_d W w own i j gc gd d ks c s hc hd hs hi hj hji hG hl hsu h1
end Go.Proofs.YtjgmbildgcighaaDoor
