import Derived.Test.YtbkloadgbicbeaaSmall
namespace Go.Proofs.Ytbkloadgbicbeaa
open Go.RowKit

/-- The lowest bits of an int. -/
theorem and_low (x : Int) (k : Nat) (hk : k ≤ 32) : bits .and .i64 x ((2 ^ k - 1 : Nat) : Int) = x % ((2 ^ k : Nat) : Int) := by
  have h2 : (2 : Nat) ^ k ≤ 2 ^ 32 := Nat.pow_le_pow_right (by decide) hk
  have h1 : (1 : Nat) ≤ 2 ^ k := Nat.one_le_two_pow
  have hb : (BitVec.ofInt 64 ((2 ^ k - 1 : Nat) : Int)).toNat = 2 ^ k - 1 := by
    rw [BitVec.ofInt_natCast, BitVec.toNat_ofNat]; exact Nat.mod_eq_of_lt (by omega)
  show IntKind.i64.wrap ((BitVec.ofInt 64 x &&& BitVec.ofInt 64 ((2 ^ k - 1 : Nat) : Int)).toNat : Int) = _
  rw [BitVec.toNat_and, hb, Nat.and_two_pow_sub_one_eq_mod, BitVec.toNat_ofInt]
  have hp : (0 : Int) < ((2 ^ k : Nat) : Int) := by omega
  have e : ((((x % ((2 ^ 64 : Nat) : Int)).toNat % 2 ^ k : Nat)) : Int) = x % ((2 ^ k : Nat) : Int) := by
    rw [Int.natCast_emod, Int.toNat_of_nonneg (Int.emod_nonneg _ (by decide))]
    exact Int.emod_emod_of_dvd x (Int.natCast_dvd_natCast.2 (Nat.pow_dvd_pow 2 (by omega)))
  rw [e, IntKind.wrap_i64]
  have l1 := Int.emod_nonneg x (Int.ne_of_gt hp)
  have l2 := Int.emod_lt_of_pos x hp
  omega
theorem and15 (x : Int) : bits .and .i64 x 15 = x % 16 := and_low x 4 (by decide)
theorem and7 (x : Int) : bits .and .i64 x 7 = x % 8 := and_low x 3 (by decide)
theorem and1 (x : Int) : bits .and .i64 x 1 = x % 2 := and_low x 1 (by decide)
theorem and65535 (x : Int) : bits .and .i64 x 65535 = x % 65536 := and_low x 16 (by decide)
theorem hear0 {a b : Int} (ha : endB a = true) (hb : endB b = true) : hearB 0 a b = true := by
  simp [hearB, ha, hb, bitOf]
def fromOf (op : OpV) : Int := bits .and .i64 op.n 15
def toOf (op : OpV) : Int := bits .and .i64 (bits .and .i64 op.n 15 + 1 + bits .and .i64 op.t 7) 15
def pktOf (op : OpV) : Pkt := ⟨fromOf op, toOf op, op.s⟩
theorem pkt_ok (op : OpV) : endB (fromOf op) = true ∧ endB (toOf op) = true ∧ (fromOf op == toOf op) = false := by
  simp only [fromOf, toOf, endB, and15, and7]
  simp only [Bool.and_eq_true, decide_eq_true_eq, beq_eq_false_iff_ne, ne_eq]
  omega
theorem send_ok (ps : List Pkt) (op : OpV) (h : ps.length < 500) : sendE ps 0 (fromOf op) (toOf op) = 0 := by
  obtain ⟨h1, h2, h3⟩ := pkt_ok op
  simp only [sendE, h1, h2, h3, hear0 h1 h2]
  simp; omega

section
variable {W w w' : World} {own own' : Nat → Nat} {i j : Nat} {e : TypeId} {size n m : Nat} {v v' : Value} {xs ys : List Value}
theorem Row.mine (h : Row w (fun k => own k = i) e size v n xs) (hs : St W w own) (hi : i ≠ 0) (h' : Row w' (Grow (fun k => own k = i) w w') e size v' m ys) (hf : Fr (Own v) w w') :
    ∃ own', Row w' (fun k => own' k = i) e size v' m ys ∧ Step W w w' own own' i := by
  obtain ⟨own', h1, h2⟩ := hs.step hi (hf.mono (fun k _ hk => h.2 k hk))
  exact ⟨own', h'.more fun k _ hk => (h2 k).2 hk, h1⟩
theorem Row.other (h : Row w (fun k => own k = j) e size v n xs) (hs : Step W w w' own own' i) (hj : j ≠ 0) (hij : j ≠ i) : Row w' (fun k => own' k = j) e size v n xs :=
  (h.keep hs.fr fun k hk _ hk' => by omega).more fun _ _ hk => hs.lt hj hk
end
def PicksAt (w : World) (B : Option Addr) (picks : List Int) : Prop :=
  ∀ k p, picks[k]? = some p → ∃ b o, B = some ⟨b, o, none⟩ ∧ b < w.heap.size ∧ w.cell? ⟨b, o + k, none⟩ = some (.int .i64 p)
theorem OpsAt.below {w w' : World} {A : Option Addr} {ops : List OpV} (h : OpsAt w A ops) (hb : Below w.heap.size w w') : OpsAt w' A ops := by
  intro k op hk
  obtain ⟨b, o, hA, hlt, h1, h2, h3, h4⟩ := h k op hk
  exact ⟨b, o, hA, Nat.lt_of_lt_of_le hlt hb.size, by rw [hb.cell hlt]; exact h1, by rw [hb.cell hlt]; exact h2, by rw [hb.cell hlt]; exact h3, by rw [hb.cell hlt]; exact h4⟩
theorem PicksAt.below {w w' : World} {B : Option Addr} {picks : List Int} (h : PicksAt w B picks) (hb : Below w.heap.size w w') : PicksAt w' B picks := by
  intro k p hk
  obtain ⟨b, o, hA, hlt, h1⟩ := h k p hk
  exact ⟨b, o, hA, Nat.lt_of_lt_of_le hlt hb.size, by rw [hb.cell hlt]; exact h1⟩
end Go.Proofs.Ytbkloadgbicbeaa
