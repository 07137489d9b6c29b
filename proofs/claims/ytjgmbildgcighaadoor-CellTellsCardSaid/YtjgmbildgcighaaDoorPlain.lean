/-
  The disk as plain data: its states and what each call makes of them. No program in sight.
-/
import Derived.Test.YtjgmbildgcighaaDoorKeys
namespace Go.Proofs.YtjgmbildgcighaaDoor
open Go.RowKit

structure FileC where
  now : ByteArray
  last : ByteArray
def file0 : FileC := ⟨⟨#[]⟩, ⟨#[]⟩⟩
structure DS where
  fs : Int → FileC
  q : List (Int × Int)
  lost : Int
  down : Bool
  armed : Int
def upd (fs : Int → FileC) (f : Int) (x : FileC) : Int → FileC := fun n => if n = f then x else fs n

/-- t over s from the place a on; zeros between. -/
def putL (s : List UInt8) (a : Nat) (t : List UInt8) : List UInt8 :=
  if t.length = 0 then s else
    let b := s ++ List.replicate (max s.length (a + t.length) - s.length) 0
    b.take a ++ t ++ b.drop (a + t.length)
def putB (s : ByteArray) (a : Nat) (t : ByteArray) : ByteArray := if t.size = 0 then s else ⟨(putL s.data.toList a t.data.toList).toArray⟩
theorem length_putL (s : List UInt8) (a : Nat) (t : List UInt8) : (putL s a t).length = if t.length = 0 then s.length else max s.length (a + t.length) := by
  unfold putL
  split
  · rfl
  · simp; omega
theorem size_eq_length (s : ByteArray) : s.size = s.data.toList.length := (Array.length_toList (xs := s.data)).symm
theorem size_putB (s : ByteArray) (a : Nat) (t : ByteArray) : (putB s a t).size = if t.size = 0 then s.size else max s.size (a + t.size) := by
  unfold putB
  split
  · rfl
  · rename_i h
    have := length_putL s.data.toList a t.data.toList
    rw [← size_eq_length, ← size_eq_length] at this
    rw [if_neg h] at this
    rw [size_eq_length]
    simpa using this

def mayE (d : DS) (f : Int) : Int := if d.down then 9 else if f < 0 then 1 else if 16 ≤ f then 1 else 0
def endsB (d : DS) : Bool := if d.down then false else d.armed == 1
def endsD (d : DS) : DS := if d.down then d else if d.armed = 0 then d else { d with armed := d.armed - 1 }
def settleD (d : DS) (f : Int) (s : ByteArray) : DS := { d with fs := upd d.fs f ⟨s, s⟩, q := d.q.filter (fun p => decide (p.1 ≠ f)) }
/-- The sectors n, n + 1, .. (k of them) of file f that are not yet pending. -/
def addQ (q : List (Int × Int)) (f : Int) (n : Int) : Nat → List (Int × Int)
  | 0 => q
  | k + 1 => let r := addQ q f n k; if (f, n + k) ∈ r then r else r ++ [(f, n + k)]
def wrE (d : DS) (f a : Int) (s : ByteArray) : Int := if mayE d f = 0 then (if a < 0 then 1 else if 16777216 < a then 6 else if 16777216 - a < s.size then 6 else 0) else mayE d f
def wrD (d : DS) (f a : Int) (s : ByteArray) : DS :=
  if wrE d f a s = 0 ∧ s.size ≠ 0 then { d with fs := upd d.fs f ⟨putB (d.fs f).now a.toNat s, (d.fs f).last⟩, q := addQ d.q f (a / 64) (((a + s.size - 1) / 64 - a / 64).toNat + 1) } else d
/-- Does the i-th pending sector survive? -/
def survB (ks : List Int) (i : Nat) : Bool := match ks[i % ks.length]? with | none => false | some k => k % 2 == 1
def surv1 (fs : Int → FileC) (p : Int × Int) : Int → FileC :=
  if (((fs p.1).now.size : Nat) : Int) ≤ p.2 * 64 then fs else upd fs p.1 ⟨(fs p.1).now, putB (fs p.1).last (p.2 * 64).toNat ((fs p.1).now.extract (p.2 * 64).toNat (min (p.2 * 64 + 64).toNat (fs p.1).now.size))⟩
def survFs (fs : Int → FileC) (ks : List Int) (i : Nat) : List (Int × Int) → Int → FileC
  | [] => fs
  | p :: r => survFs (if survB ks i then surv1 fs p else fs) ks (i + 1) r
def crashD (d : DS) (ks : List Int) : DS :=
  if d.down then d else { fs := fun n => ⟨(survFs d.fs ks 0 d.q n).last, (survFs d.fs ks 0 d.q n).last⟩, q := [], lost := d.lost, down := true, armed := 0 }
def startD (d : DS) : DS := { d with down := false }
def loseD (d : DS) (n : Int) : DS := { d with lost := max n 0 }
def armD (d : DS) (n : Int) : DS := { d with armed := max n 0 }
def writeE (d : DS) (f a : Int) (s : ByteArray) : Int := if endsB d then 9 else wrE (endsD d) f a s
def writeD (d : DS) (ks : List Int) (f a : Int) (s : ByteArray) : DS := if endsB d then crashD (wrD (endsD d) f a s) ks else wrD (endsD d) f a s
/-- The beginning of Sync and of Truncate. -/
def comesD (d : DS) (ks : List Int) : DS := if endsB d then crashD (endsD d) ks else endsD d
def syncE1 (d : DS) (f : Int) : Int := if mayE d f = 0 then (if 0 < d.lost then 10 else 0) else mayE d f
def syncD1 (d : DS) (f : Int) : DS := if mayE d f = 0 then (if 0 < d.lost then { d with lost := d.lost - 1 } else settleD d f (d.fs f).now) else d
def syncE (d : DS) (ks : List Int) (f : Int) : Int := syncE1 (comesD d ks) f
def syncD (d : DS) (ks : List Int) (f : Int) : DS := syncD1 (comesD d ks) f
def truncE1 (d : DS) (f n : Int) : Int := if mayE d f = 0 then (if n < 0 then 1 else if (d.fs f).now.size < n then 1 else 0) else mayE d f
def truncD1 (d : DS) (f n : Int) : DS := if truncE1 d f n = 0 then settleD d f ((d.fs f).now.extract 0 n.toNat) else d
def truncE (d : DS) (ks : List Int) (f n : Int) : Int := truncE1 (comesD d ks) f n
def truncD (d : DS) (ks : List Int) (f n : Int) : DS := truncD1 (comesD d ks) f n
def readE (d : DS) (f a n : Int) : Int := if mayE d f = 0 then (if a < 0 then 1 else if n < 0 then 1 else 0) else mayE d f
def readS (d : DS) (f a n : Int) : ByteArray :=
  if readE d f a n = 0 then
    let s := (d.fs f).now.extract (min a (d.fs f).now.size).toNat (d.fs f).now.size
    s.extract 0 (min n s.size).toNat
  else ⟨#[]⟩

/-- What holds of every disk. -/
structure DInv (d : DS) : Prop where
  nodup : d.q.Nodup
  sect : ∀ p ∈ d.q, 0 ≤ p.1 ∧ p.1 < 16 ∧ 0 ≤ p.2 ∧ p.2 < 262144
  now : ∀ n, (d.fs n).now.size ≤ 16777216
  last : ∀ n, (d.fs n).last.size ≤ 16777216
  lost : 0 ≤ d.lost ∧ d.lost ≤ 9223372036854775807
  armed : 0 ≤ d.armed ∧ d.armed ≤ 9223372036854775807

theorem nodup_bound : ∀ (N : Nat) (l : List Nat), l.Nodup → (∀ x ∈ l, x < N) → l.length ≤ N
  | 0, l, _, h => by
    cases l with
    | nil => simp
    | cons x r => exact absurd (h x (by simp)) (by omega)
  | N + 1, l, hn, h => by
    have h1 : (l.erase N).length ≤ N := nodup_bound N (l.erase N) (hn.erase N) fun x hx => by
      have h2 := h x (List.mem_of_mem_erase hx)
      have h3 : x ≠ N := fun e => by subst e; exact (List.Nodup.not_mem_erase hn) hx
      omega
    have := List.length_erase (a := N) (l := l)
    split at this <;> omega
theorem DInv.len {d : DS} (h : DInv d) : d.q.length ≤ 4194304 := by
  have := nodup_bound 4194304 (d.q.map (fun p => (p.1 * 262144 + p.2).toNat)) (by
    rw [List.Nodup, List.pairwise_map]
    refine List.Pairwise.imp_of_mem ?_ h.nodup
    intro p r hp hr hne e
    have h1 := h.sect p hp
    have h2 := h.sect r hr
    exact hne (Prod.ext (by omega) (by omega))) (by
    intro x hx
    obtain ⟨p, hp, rfl⟩ := List.mem_map.1 hx
    have h1 := h.sect p hp
    omega)
  simpa using this
theorem size_extract (s : ByteArray) (a b : Nat) : (s.extract a b).size = min b s.size - a := ByteArray.size_extract
theorem DInv.ends {d : DS} (h : DInv d) : DInv (endsD d) := by
  unfold endsD
  split
  · exact h
  · split
    · exact h
    · rename_i h0
      exact ⟨h.nodup, h.sect, h.now, h.last, h.lost, by have := h.armed; show 0 ≤ d.armed - 1 ∧ d.armed - 1 ≤ _; omega⟩
theorem DInv.settle {d : DS} (h : DInv d) (f : Int) (s : ByteArray) (hs : s.size ≤ 16777216) : DInv (settleD d f s) := by
  refine ⟨h.nodup.sublist (List.filter_sublist), fun p hp => h.sect p (List.mem_filter.1 hp).1, fun n => ?_, fun n => ?_, h.lost, h.armed⟩
  · show (upd d.fs f ⟨s, s⟩ n).now.size ≤ _
    unfold upd; split
    · exact hs
    · exact h.now n
  · show (upd d.fs f ⟨s, s⟩ n).last.size ≤ _
    unfold upd; split
    · exact hs
    · exact h.last n
theorem addQ_mem {q : List (Int × Int)} {f n : Int} : ∀ {k : Nat} {p : Int × Int}, p ∈ addQ q f n k ↔ p ∈ q ∨ (p.1 = f ∧ n ≤ p.2 ∧ p.2 < n + k)
  | 0, p => by simp [addQ]; omega
  | k + 1, p => by
    have ih := addQ_mem (q := q) (f := f) (n := n) (k := k) (p := p)
    have ih2 := addQ_mem (q := q) (f := f) (n := n) (k := k) (p := (f, n + k))
    unfold addQ
    dsimp only
    split
    · rename_i hm
      rw [ih]
      refine ⟨fun h => h.imp id fun h => ⟨h.1, h.2.1, by have := h.2.2; omega⟩, fun h => ?_⟩
      rcases h with h | ⟨h1, h2, h3⟩
      · exact .inl h
      · by_cases he : p.2 = n + k
        · have : p = (f, n + k) := Prod.ext h1 he
          rw [this]
          exact ih2.1 hm
        · exact .inr ⟨h1, h2, by omega⟩
    · rw [List.mem_append, ih, List.mem_singleton]
      constructor
      · rintro ((h | h) | h)
        · exact .inl h
        · exact .inr ⟨h.1, h.2.1, by have := h.2.2; omega⟩
        · subst h; exact .inr ⟨rfl, by dsimp only; omega, by dsimp only; omega⟩
      · rintro (h | ⟨h1, h2, h3⟩)
        · exact .inl (.inl h)
        · by_cases he : p.2 = n + k
          · exact .inr (Prod.ext h1 he)
          · exact .inl (.inr ⟨h1, h2, by omega⟩)
theorem addQ_nodup {q : List (Int × Int)} {f n : Int} (h : q.Nodup) : ∀ k : Nat, (addQ q f n k).Nodup
  | 0 => h
  | k + 1 => by
    unfold addQ
    dsimp only
    split
    · exact addQ_nodup h k
    · rename_i hm
      refine List.nodup_append.2 ⟨addQ_nodup h k, by simp, ?_⟩
      intro x hx y hy e
      simp only [List.mem_singleton] at hy
      subst hy; subst e
      exact hm hx
theorem mayE_zero {d : DS} {f : Int} (h : mayE d f = 0) : d.down = false ∧ 0 ≤ f ∧ f < 16 := by
  unfold mayE at h
  cases hd : d.down
  · simp only [hd, Bool.false_eq_true, if_false] at h
    refine ⟨rfl, ?_⟩
    split at h
    · omega
    · split at h
      · omega
      · omega
  · simp [hd] at h
theorem wrE_zero {d : DS} {f a : Int} {s : ByteArray} (h : wrE d f a s = 0) : d.down = false ∧ 0 ≤ f ∧ f < 16 ∧ 0 ≤ a ∧ a ≤ 16777216 ∧ a + s.size ≤ 16777216 := by
  unfold wrE at h
  split at h
  · rename_i hm
    obtain ⟨h1, h2, h3⟩ := mayE_zero hm
    split at h
    · omega
    · split at h
      · omega
      · split at h
        · omega
        · exact ⟨h1, h2, h3, by omega, by omega, by omega⟩
  · contradiction
theorem DInv.wr {d : DS} (h : DInv d) (f a : Int) (s : ByteArray) : DInv (wrD d f a s) := by
  unfold wrD
  split
  · rename_i hc
    obtain ⟨h1, h2, h3, h4, h5, h6⟩ := wrE_zero hc.1
    refine ⟨addQ_nodup h.nodup _, fun p hp => ?_, fun n => ?_, fun n => ?_, h.lost, h.armed⟩
    · rcases addQ_mem.1 hp with hp | ⟨e1, e2, e3⟩
      · exact h.sect p hp
      · rw [e1]
        have h7 := hc.2
        refine ⟨h2, h3, ?_, ?_⟩ <;> omega
    · show (upd d.fs f _ n).now.size ≤ _
      unfold upd; split
      · have := h.now f
        have h8 := size_putB (d.fs f).now a.toNat s
        rw [if_neg hc.2] at h8
        show (putB (d.fs f).now a.toNat s).size ≤ _
        omega
      · exact h.now n
    · show (upd d.fs f _ n).last.size ≤ _
      unfold upd; split
      · exact h.last f
      · exact h.last n
  · exact h
theorem surv1_now (fs : Int → FileC) (p : Int × Int) (n : Int) : (surv1 fs p n).now = (fs n).now := by
  unfold surv1
  split
  · rfl
  · unfold upd; split
    · rename_i h; rw [h]
    · rfl
theorem surv1_last {fs : Int → FileC} {p : Int × Int} (hp : 0 ≤ p.2 ∧ p.2 < 262144) (h : ∀ n, (fs n).now.size ≤ 16777216) (hl : ∀ n, (fs n).last.size ≤ 16777216) (n : Int) : (surv1 fs p n).last.size ≤ 16777216 := by
  unfold surv1
  split
  · exact hl n
  · rename_i hc
    unfold upd; split
    · have h1 := h p.1
      have h2 := hl p.1
      show (putB _ _ _).size ≤ _
      rw [size_putB, size_extract]
      split <;> omega
    · exact hl n
theorem survFs_now (ks : List Int) : ∀ (q : List (Int × Int)) (fs : Int → FileC) (i : Nat) (n : Int), (survFs fs ks i q n).now = (fs n).now
  | [], _, _, _ => rfl
  | p :: r, fs, i, n => by
    unfold survFs
    rw [survFs_now ks r]
    split
    · exact surv1_now fs p n
    · rfl
theorem survFs_last (ks : List Int) : ∀ (q : List (Int × Int)) (fs : Int → FileC) (i : Nat), (∀ p ∈ q, 0 ≤ p.2 ∧ p.2 < 262144) → (∀ n, (fs n).now.size ≤ 16777216) → (∀ n, (fs n).last.size ≤ 16777216) → ∀ n, (survFs fs ks i q n).last.size ≤ 16777216
  | [], _, _, _, _, hl, n => hl n
  | p :: r, fs, i, hq, h, hl, n => by
    unfold survFs
    refine survFs_last ks r _ _ (fun p hp => hq p (by simp [hp])) (fun m => ?_) (fun m => ?_) n
    · split
      · rw [surv1_now]; exact h m
      · exact h m
    · split
      · exact surv1_last (hq p (by simp)) h hl m
      · exact hl m
theorem DInv.crash {d : DS} (h : DInv d) (ks : List Int) : DInv (crashD d ks) := by
  unfold crashD
  split
  · exact h
  · have hl := survFs_last ks d.q d.fs 0 (fun p hp => ⟨(h.sect p hp).2.2.1, (h.sect p hp).2.2.2⟩) h.now h.last
    exact ⟨by simp, by simp, fun n => hl n, fun n => hl n, h.lost, by show (0 : Int) ≤ 0 ∧ (0 : Int) ≤ _; decide⟩
theorem DInv.start {d : DS} (h : DInv d) : DInv (startD d) := ⟨h.nodup, h.sect, h.now, h.last, h.lost, h.armed⟩
theorem DInv.lose {d : DS} (h : DInv d) (n : Int) (hn : n ≤ 9223372036854775807) : DInv (loseD d n) := ⟨h.nodup, h.sect, h.now, h.last, by show 0 ≤ max n 0 ∧ max n 0 ≤ _; omega, h.armed⟩
theorem DInv.arm {d : DS} (h : DInv d) (n : Int) (hn : n ≤ 9223372036854775807) : DInv (armD d n) := ⟨h.nodup, h.sect, h.now, h.last, h.lost, by show 0 ≤ max n 0 ∧ max n 0 ≤ _; omega⟩
theorem DInv.write {d : DS} (h : DInv d) (ks : List Int) (f a : Int) (s : ByteArray) : DInv (writeD d ks f a s) := by
  unfold writeD
  split
  · exact (h.ends.wr f a s).crash ks
  · exact h.ends.wr f a s
theorem DInv.comes {d : DS} (h : DInv d) (ks : List Int) : DInv (comesD d ks) := by
  unfold comesD
  split
  · exact h.ends.crash ks
  · exact h.ends
theorem DInv.sync1 {d : DS} (h : DInv d) (f : Int) : DInv (syncD1 d f) := by
  unfold syncD1
  split
  · split
    · exact ⟨h.nodup, h.sect, h.now, h.last, by have := h.lost; show 0 ≤ d.lost - 1 ∧ d.lost - 1 ≤ _; omega, h.armed⟩
    · exact h.settle f _ (h.now f)
  · exact h
theorem DInv.trunc1 {d : DS} (h : DInv d) (f n : Int) : DInv (truncD1 d f n) := by
  unfold truncD1
  split
  · refine h.settle f _ ?_
    rw [size_extract]
    have := h.now f
    omega
  · exact h
def ds0 : DS := ⟨fun _ => file0, [], 0, false, 0⟩
theorem inv0 : DInv ds0 := ⟨by simp [ds0], by simp [ds0], fun _ => Nat.zero_le _, fun _ => Nat.zero_le _, by decide, by decide⟩
end Go.Proofs.YtjgmbildgcighaaDoor
