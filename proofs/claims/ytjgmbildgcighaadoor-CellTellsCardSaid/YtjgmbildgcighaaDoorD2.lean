import Derived.Test.YtjgmbildgcighaaDoorD1
namespace Go.Proofs.YtjgmbildgcighaaDoor
open Go.RowKit
/-- Bytes as cells. -/
def bc (l : List UInt8) : List Value := l.map (fun b => Value.int .u8 b.toNat)
theorem bc_append (a b : List UInt8) : bc (a ++ b) = bc a ++ bc b := by simp [bc]
theorem length_bc (l : List UInt8) : (bc l).length = l.length := by simp [bc]
theorem take_bc (l : List UInt8) (n : Nat) : (bc l).take n = bc (l.take n) := by simp [bc]
theorem drop_bc (l : List UInt8) (n : Nat) : (bc l).drop n = bc (l.drop n) := by simp [bc]
theorem info5 : (Tryd.prog.info? 5).map (fun i => (i.zero, i.size, i.bytes)) = some (some (.int .u8 0), 1, 1) := by kernel_rfl
theorem info5s : (Tryd.prog.info? 5).map (·.size) = some 1 := by kernel_rfl
theorem made_zero (n : Nat) : madeCells (Value.int .u8 0).cells n = (bc (List.replicate n 0)).toArray := by
  apply Array.toList_inj.1
  apply List.ext_getElem
  · simp [madeCells, bc]
  · intro i h1 h2
    simp [madeCells, bc, Value.cells, Nat.mod_one]
theorem make_bytes (w : World) (n : Nat) (hn : n ≤ 16777216) : (Instr.makeSlice 46 (.int .i64 n) (.int .i64 n)).run Tryd.prog w = .ok (.slice (some ⟨w.heap.size, 0, none⟩) n n) (w.alloc (.cells (bc (List.replicate n 0)).toArray 5)) := by
  obtain ⟨i, hi, hz, hs, hb⟩ := info_parts info5
  have := run_makeSlice (P := Tryd.prog) w 46 5 i (.int .u8 0) Tryd.underlying46 hi hz .i64 .i64 n n (by omega) (by omega) (by rw [hs]; omega) (by rw [hb]; omega) (by omega)
  rw [this, hs, made_zero]
  simp
/-- copy of a string into a block of bytes. -/
theorem copy_bytes (w : World) (g o n c : Nat) (l : List UInt8) (s : ByteArray) (hb : Blk w g 5 (bc l).toArray) (hle : s.size ≤ n) (hfit : o + s.size ≤ l.length) :
    ∃ w', (Builtin.copy_ #[46, 9] 3 #[.slice (some ⟨g, o, none⟩) n c, .string s]).run Tryd.prog w = .ok (.int .i64 s.size) w' ∧ Blk w' g 5 (bc (l.take o ++ s.data.toList ++ l.drop (o + s.size))).toArray ∧ Fr (fun k => k = g) w w' := by
  refine ⟨_, Lib.run_copy_row_string w 46 9 3 5 g o n c s _ 5 Tryd.underlying46 info5s hb hle (by simpa [length_bc] using hfit), ?_, fr_setRow w g _⟩
  have := setRow_heap w g _ ((bc l).toArray.toList.take o ++ Lib.byteCells s.data.toList ++ (bc l).toArray.toList.drop (o + s.size)).toArray 5 _ hb
  have e : ((bc l).toArray.toList.take o ++ Lib.byteCells s.data.toList ++ (bc l).toArray.toList.drop (o + s.size)).toArray = (bc (l.take o ++ s.data.toList ++ l.drop (o + s.size))).toArray := by
    simp [bc, Lib.byteCells]
  rw [e]
  rw [e] at this
  exact this
theorem bytes_back (w : World) (g c : Nat) (l : List UInt8) (hb : Blk w g 5 (bc l).toArray) : (convert 46 9 (.slice (some ⟨g, 0, none⟩) l.length c)).run Tryd.prog w = .ok (.string ⟨l.toArray⟩) w := by
  refine run_convert_bytes_back w 46 9 5 ⟨g, 0, none⟩ c l Tryd.underlying46 Tryd.underlying5 Tryd.underlying9 fun j hj => ?_
  rw [Addr.add_lit, hb.cell]
  simp [bc, hj]
theorem toList_empty {t : ByteArray} (h : ¬ t.size = 0) : t.toList.isEmpty = false := by
  rw [ByteArray.toList_eq]
  rw [size_eq_length] at h
  cases hd : t.data.toList with
  | nil => rw [hd] at h; simp at h
  | cons x r => rfl
theorem ne_empty {t : ByteArray} (h : ¬ t.size = 0) : ¬ t = ByteArray.empty := fun e => h (by rw [e]; rfl)
theorem eq_empty {t : ByteArray} (h : t.size = 0) : t = ⟨#[]⟩ := by
  obtain ⟨d⟩ := t
  have : d = #[] := Array.eq_empty_of_size_eq_zero h
  rw [this]
/-- The list that the three steps of put make. -/
theorem put_list (s t : List UInt8) (a n : Nat) (h0 : t.length ≠ 0) (hn : n = max s.length (a + t.length)) :
    ((List.replicate n 0).take 0 ++ s ++ (List.replicate n 0).drop (0 + s.length)).take a ++ t ++ ((List.replicate n 0).take 0 ++ s ++ (List.replicate n 0).drop (0 + s.length)).drop (a + t.length) = putL s a t := by
  unfold putL
  rw [if_neg h0]
  subst hn
  simp
set_option maxRecDepth 100000 in
set_option maxHeartbeats 1600000 in
theorem put_any (s t : ByteArray) (a : Nat) (w : World) (hs : s.size ≤ 16777216) (ha : a + t.size ≤ 16777216) :
    Calls Tryd.prog 44 #[.string s, .int .i64 a, .string t] w fun e w' => e = .returned (.string (putB s a t)) ∧ Fr (fun _ => False) w w' := by
  by_cases h0 : t.size = 0
  · have HP : Hid (putB s a t = s) := by simp [Hid, putB, h0]
    obtain rfl := eq_empty h0
    clear h0
    go_enter Tryd.func44, Tryd.ntmps44
    go_wp2_with fail
    go_ret
    exact ⟨by rw [HP.out]; rfl, Fr.refl _ _⟩
  · have hte := toList_empty h0
    have hn : ∀ n : Nat, n = max s.size (a + t.size) → Hid (∃ w2 w3, (Builtin.copy_ #[46, 9] 3 #[.slice (some ⟨w.heap.size, 0, none⟩) n n, .string s]).run Tryd.prog (w.alloc (.cells (bc (List.replicate n 0)).toArray 5)) = .ok (.int .i64 s.size) w2 ∧
        (Builtin.copy_ #[46, 9] 3 #[.slice (some ⟨w.heap.size, a, none⟩) (n - a) (n - a), .string t]).run Tryd.prog w2 = .ok (.int .i64 t.size) w3 ∧
        (convert 46 9 (.slice (some ⟨w.heap.size, 0, none⟩) n n)).run Tryd.prog w3 = .ok (.string (putB s a t)) w3 ∧ Fr (fun _ => False) w w3) := by
      intro n hn
      obtain ⟨w2, r2, b2, f2⟩ := copy_bytes (w.alloc (.cells (bc (List.replicate n 0)).toArray 5)) w.heap.size 0 n n (List.replicate n 0) s (Blk.new w 5 _) (by omega) (by simp; omega)
      have hl2 : ((List.replicate n (0 : UInt8)).take 0 ++ s.data.toList ++ (List.replicate n 0).drop (0 + s.size)).length = n := by
        simp; omega
      obtain ⟨w3, r3, b3, f3⟩ := copy_bytes w2 w.heap.size a (n - a) (n - a) _ t b2 (by omega) (by rw [hl2]; omega)
      refine ⟨w2, w3, r2, r3, ?_, ?_⟩
      · have hp := put_list s.data.toList t.data.toList a n (by rw [← size_eq_length]; exact h0) (by rw [← size_eq_length, ← size_eq_length]; exact hn)
        rw [← size_eq_length, ← size_eq_length] at hp
        rw [hp] at b3
        have hlen : (putL s.data.toList a t.data.toList).length = n := by
          rw [length_putL, ← size_eq_length, ← size_eq_length, if_neg h0]; omega
        have := bytes_back w3 w.heap.size n _ b3
        rw [hlen] at this
        rw [this, putB, if_neg h0]
      · refine (((Fr.refl _ w).alloc _).trans' f2 fun k hk h => by omega).trans' f3 fun k hk h => by omega
    have hte2 := ne_empty h0
    by_cases hm : s.size < a + t.size
    · have hmk := make_bytes w (a + t.size) (by omega)
      simp only [Int.natCast_add] at hmk
      have hm' : (s.size : Int) < (a : Int) + (t.size : Int) := by omega
      obtain ⟨w2, w3, r2, r3, r4, hfr⟩ := (hn (a + t.size) (by omega)).out
      simp only [Nat.add_sub_cancel_left] at r3
      have hne : ¬ a + t.size = a := by omega
      have HF := Lib.hid hfr
      clear hn hfr h0
      go_enter Tryd.func44, Tryd.ntmps44
      go_wp2_with fail
      go_ret
      exact ⟨rfl, HF.out⟩
    · have hmk := make_bytes w s.size (by omega)
      have hm' : ¬ (s.size : Int) < (a : Int) + (t.size : Int) := by omega
      obtain ⟨w2, w3, r2, r3, r4, hfr⟩ := (hn s.size (by omega)).out
      have hne : ¬ s.size = a := by omega
      have hle : (a : Int) ≤ (s.size : Int) := by omega
      have HF := Lib.hid hfr
      clear hn hfr h0
      go_enter Tryd.func44, Tryd.ntmps44
      go_wp2_with fail
      go_ret
      exact ⟨rfl, HF.out⟩
end Go.Proofs.YtjgmbildgcighaaDoor
