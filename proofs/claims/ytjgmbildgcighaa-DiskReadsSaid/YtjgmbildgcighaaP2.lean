import Derived.Test.YtjgmbildgcighaaP1
namespace Go.Proofs.Ytjgmbildgcighaa
open Go.RowKit

/-! DiskReads, in plain terms. -/
def rdD (d : DS) (f a : Int) : DS := startD (crashD (truncD d [] f (min a ((d.fs f).now.size : Int))) [])
structure ReadsP (d : DS) (f a n : Int) (s : ByteArray) : Prop where
  x : readS d f a (s.size : Int) = s
  g : readE d f a (s.size : Int) = 0
  all : readS d f 0 ((d.fs f).now.size : Int) = (d.fs f).now
  h : readE d f 0 ((d.fs f).now.size : Int) = 0
  part : readS d f a n = (d.fs f).now.extract (min a ((d.fs f).now.size : Int)).toNat (min a ((d.fs f).now.size : Int) + min n (((d.fs f).now.size : Int) - min a ((d.fs f).now.size : Int))).toNat
  i : readE d f a n = 0
  cut : truncE d [] f (min a ((d.fs f).now.size : Int)) = 0
  j : readE (rdD d f a) f 0 16777216 = 0
  rest : readS (rdD d f a) f 0 16777216 = (d.fs f).now.extract 0 (min a ((d.fs f).now.size : Int)).toNat
theorem reads_law {d : DS} {f a n : Int} {s : ByteArray} (hI : DInv d) (ha : d.armed = 0) (hm : mayE d f = 0) (h0 : 0 ≤ a) (hn : 0 ≤ n) (hp : ∃ n0, (d.fs f).now = putB n0 a.toNat s) : ReadsP d f a n s := by
  have hsz := hI.now f
  have hc : comesD d [] = d := by
    obtain ⟨e1, e2⟩ := ends_0 ha
    unfold comesD
    rw [e1, e2]; rfl
  have hcut : truncE d [] f (min a ((d.fs f).now.size : Int)) = 0 := by
    unfold truncE truncE1
    rw [hc, if_pos hm, if_neg (by omega), if_neg (by omega)]
  have hcut1 : truncE1 d f (min a ((d.fs f).now.size : Int)) = 0 := by
    have := hcut; unfold truncE at this; rw [hc] at this; exact this
  have hD : ((rdD d f a).fs f).now = (d.fs f).now.extract 0 (min a ((d.fs f).now.size : Int)).toNat ∧ (rdD d f a).down = false := by
    unfold rdD truncD truncD1
    rw [hc, if_pos hcut1]
    unfold crashD startD
    have hdn := (mayE_zero hm).1
    have : (settleD d f ((d.fs f).now.extract 0 (min a ((d.fs f).now.size : Int)).toNat)).down = false := hdn
    rw [this]
    simp only [Bool.false_eq_true, if_false, surv_none]
    simp [settleD, upd]
  have hm2 : mayE (rdD d f a) f = 0 := by
    have := mayE_zero hm
    exact may_up hD.2 this.2.1 (by omega)
  refine ⟨?_, readE_up hm h0 (by omega), ?_, readE_up hm (by omega) (by omega), ?_, readE_up hm h0 hn, hcut, readE_up hm2 (by omega) (by omega), ?_⟩
  · obtain ⟨n0, hp⟩ := hp
    apply toL_inj
    rw [readL hm h0 (by omega), hp, toL_putB]
    have := putL_read (toL n0) a.toNat (toL s)
    rw [toL_len] at this
    exact this
  · apply toL_inj
    rw [readL hm (by omega) (by omega)]
    rw [Int.toNat_zero, List.drop_zero, List.take_of_length_le (by rw [toL_len]; omega)]
  · apply toL_inj
    rw [readL hm h0 hn, toL_extract]
    have h1 : (min a ((d.fs f).now.size : Int)).toNat = min a.toNat (d.fs f).now.size := by omega
    rw [h1, drop_min _ _ _ (toL_len _).symm]
    have h2 : (min a ((d.fs f).now.size : Int) + min n (((d.fs f).now.size : Int) - min a ((d.fs f).now.size : Int))).toNat - min a.toNat (d.fs f).now.size = min n.toNat ((d.fs f).now.size - min a.toNat (d.fs f).now.size) := by omega
    rw [h2, take_min]
    rw [List.length_drop, toL_len]; omega
  · apply toL_inj
    rw [readL hm2 (by omega) (by omega), hD.1]
    rw [Int.toNat_zero, List.drop_zero, List.take_of_length_le]
    rw [toL_len, size_extract]; omega
end Go.Proofs.Ytjgmbildgcighaa
