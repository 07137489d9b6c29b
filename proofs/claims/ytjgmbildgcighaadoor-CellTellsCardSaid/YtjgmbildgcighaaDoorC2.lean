import Derived.Test.YtjgmbildgcighaaDoorC1
namespace Go.Proofs.YtjgmbildgcighaaDoor
open Go.RowKit

/-! header. -/
theorem u8_wrap (m : Nat) : ((UInt8.ofNat m).toNat : Int) = (m : Int) % 256 := by
  rw [UInt8.toNat_ofNat']
  omega
def hdrL (slot : Int) (n : Nat) : List UInt8 := [UInt8.ofNat slot.toNat, UInt8.ofNat n, UInt8.ofNat (n / 256), UInt8.ofNat (n / 65536), UInt8.ofNat (n / 16777216)]
theorem hdr_take (slot : Int) (n k : Nat) (hk : k < 4) : (hdrL slot n).take (k + 1 + 1) = (hdrL slot n).take (k + 1) ++ [UInt8.ofNat (n / 256 ^ k)] := by
  have : k = 0 ∨ k = 1 ∨ k = 2 ∨ k = 3 := by omega
  rcases this with rfl | rfl | rfl | rfl
  · simp [hdrL]
  · rfl
  · rfl
  · rfl
theorem hdr_len (slot : Int) (n k : Nat) (hk : k ≤ 4) : ((hdrL slot n).take (k + 1)).length = k + 1 := by
  rw [List.length_take]
  show min (k + 1) 5 = k + 1
  omega
set_option maxRecDepth 100000 in
set_option maxHeartbeats 1600000 in
theorem header_any (slot : Nat) (s : ByteArray) (hsl : slot ≤ 2) (hs : s.size ≤ 65536) (w : World) :
    Calls Tryd.prog 42 #[.int .i64 slot, .string s] w fun e w' => e = .returned (.string (hdrB slot s.size)) ∧ Fr (fun _ => False) w w' := by
  have hst : Hid (BRow (w.alloc (.cells #[.int .u8 (slot : Int)] 5)) w.heap.size (.slice (some ⟨w.heap.size, 0, none⟩) 1 1) ((hdrL slot s.size).take 1)) := by
    have e : (slot : Int) = ((UInt8.ofNat slot).toNat : Int) := by rw [UInt8.toNat_ofNat']; omega
    refine ⟨1, #[.int .u8 (slot : Int)], (0, 0), rfl, heap_alloc_new w _, Nat.le_refl _, by unfold maxLen; omega, rfl, .inl rfl, ?_⟩
    show [Value.int .u8 (slot : Int)] = [Value.int .u8 ((UInt8.ofNat ((slot : Int)).toNat).toNat : Int)]
    rw [show ((slot : Int)).toNat = slot by omega, ← e]
  have hf0 := Lib.hid ((Fr.refl (fun _ => False) w).alloc (.cells #[.int .u8 (slot : Int)] 5))
  go_enter Tryd.func42, Tryd.ntmps42
  go_wp2_with fail
  generalize w.alloc (.cells #[.int .u8 (slot : Int)] 5) = w1 at *
  go_loopw [5, 6] (fun v n wr => ∃ (k g : Nat), k ≤ 4 ∧ w.heap.size ≤ g ∧ n = .int .i64 ((s.size / 256 ^ k : Nat) : Int) ∧ BRow wr g v ((hdrL slot s.size).take (k + 1)) ∧ Fr (fun _ => False) w wr) (fun v _ _ => 5 - (match v with | .slice _ n _ => n | _ => 0))
  case atStart => exact ⟨0, w.heap.size, by decide, Nat.le_refl _, by simp, hst.out, hf0.out⟩
  case round =>
    obtain ⟨k, g, hk, hg, rfl, hb, hf⟩ := hrel
    have hlen := hdr_len slot s.size k hk
    have HF := Lib.hid hf
    obtain ⟨cp, cur, fz, rfl, -, hcp, hcm, -⟩ := hb.is
    have HB : Hid (BRow wr g (.slice (some ⟨g, 0, none⟩) (k + 1) cp) ((hdrL slot s.size).take (k + 1))) := by
      show BRow _ _ _ _
      rw [← hlen]; rw [hlen]; rw [hlen] at hb; exact hb
    rw [hlen] at hcp ⊢
    have HL := Lib.hid hlen
    unfold maxLen at hcm
    clear hb hf hst hf0 hlen
    by_cases hlt : k < 4
    · have hz : ((k + 1 : Nat) : Int) < 5 := by omega
      obtain ⟨m, hm⟩ : ∃ m, m = s.size / 256 ^ k := ⟨_, rfl⟩
      have hm2 : s.size / 256 ^ (k + 1) = m / 256 := by rw [hm, Nat.div_div_eq_div_mul, Nat.pow_succ]
      have hm3 : m ≤ 65536 := by rw [hm]; exact Nat.le_trans (Nat.div_le_self _ _) hs
      rw [← hm]
      have HM := Lib.hid hm
      have HM2 := Lib.hid hm2
      clear hm hm2
      go_wp2_with (at_builtin; refine wpList_append_byte rfl (.tmp 17) (.tmp 20) rfl rfl g _ ((hdrL slot s.size).take (k + 1)) rfl ?c0 (UInt8.ofNat m) ⟨wr.heap.size, 0, none⟩ 1 rfl ?c1 ?c2 ?_)
      case c0 => exact HB.out.keep ((Fr.refl (fun _ => False) wr).alloc _) fun h => h
      case c1 => rw [u8_wrap]; simp
      case c2 => rw [HL.out]; omega
      intro g' v' w2 hb2 hf2 hg2
      have htk := hdr_take slot s.size k hlt
      rw [← HM.out] at htk
      rw [← htk] at hb2
      have hl2 := hdr_len slot s.size (k + 1) (by omega)
      obtain ⟨c2, cur2, fz2, hv2, -⟩ := hb2.is
      rw [hl2] at hv2
      have hend : Hid (∃ (k' g'' : Nat), k' ≤ 4 ∧ w.heap.size ≤ g'' ∧ (Value.int .i64 ((m / 256 : Nat) : Int)) = .int .i64 ((s.size / 256 ^ k' : Nat) : Int) ∧ BRow w2 g'' v' ((hdrL slot s.size).take (k' + 1)) ∧ Fr (fun _ => False) w w2) := by
        refine ⟨k + 1, g', by omega, ?_, by rw [HM2.out], hb2, (HF.out.alloc _).trans' hf2 fun j hj e => by omega⟩
        have := HF.out.size
        rcases hg2 with rfl | h
        · exact hg
        · omega
      subst hv2
      clear hb2 hf2 hg2 HL htk hl2
      go_wp2_with fail
      go_roundw
      case rel => exact hend.out
      case measure => dsimp only; omega
    · have hz : ¬ ((k + 1 : Nat) : Int) < 5 := by omega
      obtain rfl : k = 4 := by omega
      have hbk := HB.out.back
      have hpe : Hid ((⟨((hdrL slot s.size).take (4 + 1)).toArray⟩ : ByteArray) = hdrB slot s.size) := rfl
      rw [hpe.out] at hbk
      go_wp2_with fail
      go_ret
      exact ⟨rfl, HF.out⟩

/-! Get. -/
set_option maxHeartbeats 800000 in
theorem get_any (t : TypeId) (ht : t = 70) (w : World) (own : Nat → Nat) (j g gd : Nat) (c : CS) (h : CO t w own j g gd c) :
    Calls Tryd.prog 15 #[.pointer (some ⟨g, 0, none⟩)] w fun e w' => e = .returned (.tuple #[.string c.value, .bool (decide (0 < c.slot))]) ∧ ∃ n, w' = w.drewN n := by
  subst ht
  obtain ⟨-, -, c2, c3, -⟩ := h.cells
  clear h
  go_enter Tryd.func15, Tryd.ntmps15
  go_wp2_with fail
  go_quiet (fail)
  go_wp2_with fail
  go_ret2
  exact ⟨rfl, _, rfl⟩

end Go.Proofs.YtjgmbildgcighaaDoor
