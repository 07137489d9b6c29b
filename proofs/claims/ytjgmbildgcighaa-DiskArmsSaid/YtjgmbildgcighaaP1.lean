import Derived.Test.YtjgmbildgcighaaL2
namespace Go.Proofs.Ytjgmbildgcighaa
open Go.RowKit

/-! Plain laws. -/
def toL (s : ByteArray) : List UInt8 := s.data.toList
theorem toL_inj {s t : ByteArray} (h : toL s = toL t) : s = t := ByteArray.ext (Array.toList_inj.1 h)
theorem toL_len (s : ByteArray) : (toL s).length = s.size := (size_eq_length s).symm
theorem toL_extract (s : ByteArray) (a b : Nat) : toL (s.extract a b) = ((toL s).drop a).take (b - a) := by
  unfold toL
  rw [ByteArray.data_extract, Array.toList_extract, List.extract_eq_take_drop]
theorem toL_putB (s : ByteArray) (a : Nat) (t : ByteArray) : toL (putB s a t) = putL (toL s) a (toL t) := by
  unfold putB
  split
  · rename_i h
    unfold putL
    rw [if_pos (by rw [toL_len]; exact h)]
  · simp [toL]
theorem may_up {d : DS} {f : Int} (hd : d.down = false) (h0 : 0 ≤ f) (h1 : f ≤ 15) : mayE d f = 0 := by
  unfold mayE
  rw [hd, if_neg (by simp), if_neg (by omega), if_neg (by omega)]
theorem may_not {d : DS} {f : Int} (h : d.down = true ∨ f < 0 ∨ 15 < f) : mayE d f ≠ 0 := by
  intro hm
  obtain ⟨h1, h2, h3⟩ := mayE_zero hm
  rw [h1] at h
  rcases h with h | h | h
  · cases h
  · omega
  · omega
theorem readE_up {d : DS} {f a n : Int} (hm : mayE d f = 0) (ha : 0 ≤ a) (hn : 0 ≤ n) : readE d f a n = 0 := by
  unfold readE
  rw [if_pos hm, if_neg (by omega), if_neg (by omega)]
theorem take_min (l : List UInt8) (n m : Nat) (h : l.length ≤ m) : l.take (min n m) = l.take n := by
  rcases Nat.lt_or_ge n m with h' | h'
  · rw [Nat.min_eq_left (by omega)]
  · rw [Nat.min_eq_right h', List.take_of_length_le h, List.take_of_length_le (by omega)]
theorem drop_min (l : List UInt8) (a m : Nat) (h : m = l.length) : l.drop (min a m) = l.drop a := by
  rcases Nat.lt_or_ge a m with h' | h'
  · rw [Nat.min_eq_left (by omega)]
  · rw [Nat.min_eq_right h', List.drop_of_length_le (by omega), List.drop_of_length_le (by omega)]
theorem readL {d : DS} {f a n : Int} (hm : mayE d f = 0) (ha : 0 ≤ a) (hn : 0 ≤ n) : toL (readS d f a n) = ((toL (d.fs f).now).drop a.toNat).take n.toNat := by
  unfold readS
  rw [if_pos (readE_up hm ha hn)]
  dsimp only
  rw [toL_extract, toL_extract, List.drop_zero]
  have h1 : (min a ((d.fs f).now.size : Int)).toNat = min a.toNat (d.fs f).now.size := by omega
  have h2 : ∀ k : Nat, (min n (k : Int)).toNat = min n.toNat k := by omega
  rw [h1, h2, Nat.sub_zero, drop_min _ _ _ (toL_len _).symm, List.take_of_length_le (i := (d.fs f).now.size - _) (by rw [List.length_drop, toL_len]; omega), take_min]
  rw [size_extract, List.length_drop, toL_len]
  omega
theorem ends_0 {d : DS} (h : d.armed = 0) : endsB d = false ∧ endsD d = d := by
  unfold endsB endsD
  cases hd : d.down
  · simp [h]
  · simp
/-- Write on a disk that is up and not armed. -/
theorem write_up {d : DS} {f a : Int} {s : ByteArray} (ha : d.armed = 0) (hm : mayE d f = 0) (h0 : 0 ≤ a) (h1 : a + s.size ≤ 16777216) (ks : List Int) :
    writeE d f a s = 0 ∧ (writeD d ks f a s).armed = 0 ∧ (writeD d ks f a s).down = d.down ∧ ((writeD d ks f a s).fs f).now = putB (d.fs f).now a.toNat s := by
  obtain ⟨e1, e2⟩ := ends_0 ha
  unfold writeE writeD
  rw [e1, e2]
  simp only [Bool.false_eq_true, if_false]
  have hw : wrE d f a s = 0 := by
    unfold wrE
    rw [if_pos hm, if_neg (by omega), if_neg (by omega), if_neg (by omega)]
  refine ⟨hw, ?_⟩
  unfold wrD
  by_cases hz : s.size = 0
  · rw [if_neg (fun h => h.2 hz)]
    refine ⟨ha, rfl, ?_⟩
    unfold putB
    rw [if_pos hz]
  · rw [if_pos ⟨hw, hz⟩]
    exact ⟨ha, rfl, by simp [upd]⟩
theorem write_not {d : DS} {f a : Int} {s : ByteArray} (ha : d.armed = 0) (hm : mayE d f ≠ 0) : writeE d f a s ≠ 0 := by
  obtain ⟨e1, e2⟩ := ends_0 ha
  unfold writeE
  rw [e1, e2]
  simp only [Bool.false_eq_true, if_false]
  unfold wrE
  rw [if_neg hm]
  exact hm
theorem putL_read (s : List UInt8) (a : Nat) (t : List UInt8) : ((putL s a t).drop a).take t.length = t := by
  unfold putL
  split
  · rename_i h
    rw [h, List.take_zero]
    exact (List.eq_nil_of_length_eq_zero h).symm
  · have h1 : (List.take a (s ++ List.replicate (max s.length (a + t.length) - s.length) 0)).length = a := by
      rw [List.length_take, List.length_append, List.length_replicate]; omega
    dsimp only
    rw [List.append_assoc, List.drop_append_of_le_length (by omega), List.drop_of_length_le (by omega), List.nil_append, List.take_left]
theorem surv_none (q : List (Int × Int)) : ∀ (fs : Int → FileC) (i : Nat), survFs fs [] i q = fs := by
  induction q with
  | nil => intro fs i; rfl
  | cons p r ih =>
    intro fs i
    unfold survFs
    rw [ih]
    simp [survB]
end Go.Proofs.Ytjgmbildgcighaa
