import Derived.Test.YtjgmbildgcighaaDoorC1
namespace Go.Proofs.YtjgmbildgcighaaDoor
open Go.RowKit
/-! Plain laws. -/
def toL (s : ByteArray) : List UInt8 := s.data.toList
theorem toL_inj {s t : ByteArray} (h : toL s = toL t) : s = t := ByteArray.ext (Array.toList_inj.1 h)
theorem toL_len (s : ByteArray) : (toL s).length = s.size := (size_eq_length s).symm
theorem toL_extract (s : ByteArray) (a b : Nat) : toL (s.extract a b) = ((toL s).drop a).take (b - a) := by
  unfold toL
  rw [ByteArray.data_extract, Array.toList_extract, List.extract_eq_take_drop]
theorem toL_putB (s : ByteArray) (a : Nat) (t : ByteArray) : toL (putB s a t) = putL (toL s) a (toL t) := by
  unfold putB
  split
  · rename_i h
    unfold putL
    rw [if_pos (by rw [toL_len]; exact h)]
  · simp [toL]
theorem may_up {d : DS} {f : Int} (hd : d.down = false) (h0 : 0 ≤ f) (h1 : f ≤ 15) : mayE d f = 0 := by
  unfold mayE
  rw [hd, if_neg (by simp), if_neg (by omega), if_neg (by omega)]
theorem may_not {d : DS} {f : Int} (h : d.down = true ∨ f < 0 ∨ 15 < f) : mayE d f ≠ 0 := by
  intro hm
  obtain ⟨h1, h2, h3⟩ := mayE_zero hm
  rw [h1] at h
  rcases h with h | h | h
  · cases h
  · omega
  · omega
theorem readE_up {d : DS} {f a n : Int} (hm : mayE d f = 0) (ha : 0 ≤ a) (hn : 0 ≤ n) : readE d f a n = 0 := by
  unfold readE
  rw [if_pos hm, if_neg (by omega), if_neg (by omega)]
theorem take_min (l : List UInt8) (n m : Nat) (h : l.length ≤ m) : l.take (min n m) = l.take n := by
  rcases Nat.lt_or_ge n m with h' | h'
  · rw [Nat.min_eq_left (by omega)]
  · rw [Nat.min_eq_right h', List.take_of_length_le h, List.take_of_length_le (by omega)]
theorem drop_min (l : List UInt8) (a m : Nat) (h : m = l.length) : l.drop (min a m) = l.drop a := by
  rcases Nat.lt_or_ge a m with h' | h'
  · rw [Nat.min_eq_left (by omega)]
  · rw [Nat.min_eq_right h', List.drop_of_length_le (by omega), List.drop_of_length_le (by omega)]
theorem readL {d : DS} {f a n : Int} (hm : mayE d f = 0) (ha : 0 ≤ a) (hn : 0 ≤ n) : toL (readS d f a n) = ((toL (d.fs f).now).drop a.toNat).take n.toNat := by
  unfold readS
  rw [if_pos (readE_up hm ha hn)]
  dsimp only
  rw [toL_extract, toL_extract, List.drop_zero]
  have h1 : (min a ((d.fs f).now.size : Int)).toNat = min a.toNat (d.fs f).now.size := by omega
  have h2 : ∀ k : Nat, (min n (k : Int)).toNat = min n.toNat k := by omega
  rw [h1, h2, Nat.sub_zero, drop_min _ _ _ (toL_len _).symm, List.take_of_length_le (i := (d.fs f).now.size - _) (by rw [List.length_drop, toL_len]; omega), take_min]
  rw [size_extract, List.length_drop, toL_len]
  omega
theorem ends_0 {d : DS} (h : d.armed = 0) : endsB d = false ∧ endsD d = d := by
  unfold endsB endsD
  cases hd : d.down
  · simp [h]
  · simp
/-- Write on a disk that is up and not armed. -/
theorem write_up {d : DS} {f a : Int} {s : ByteArray} (ha : d.armed = 0) (hm : mayE d f = 0) (h0 : 0 ≤ a) (h1 : a + s.size ≤ 16777216) (ks : List Int) :
    writeE d f a s = 0 ∧ (writeD d ks f a s).armed = 0 ∧ (writeD d ks f a s).down = d.down ∧ ((writeD d ks f a s).fs f).now = putB (d.fs f).now a.toNat s := by
  obtain ⟨e1, e2⟩ := ends_0 ha
  unfold writeE writeD
  rw [e1, e2]
  simp only [Bool.false_eq_true, if_false]
  have hw : wrE d f a s = 0 := by
    unfold wrE
    rw [if_pos hm, if_neg (by omega), if_neg (by omega), if_neg (by omega)]
  refine ⟨hw, ?_⟩
  unfold wrD
  by_cases hz : s.size = 0
  · rw [if_neg (fun h => h.2 hz)]
    refine ⟨ha, rfl, ?_⟩
    unfold putB
    rw [if_pos hz]
  · rw [if_pos ⟨hw, hz⟩]
    exact ⟨ha, rfl, by simp [upd]⟩
theorem write_not {d : DS} {f a : Int} {s : ByteArray} (ha : d.armed = 0) (hm : mayE d f ≠ 0) : writeE d f a s ≠ 0 := by
  obtain ⟨e1, e2⟩ := ends_0 ha
  unfold writeE
  rw [e1, e2]
  simp only [Bool.false_eq_true, if_false]
  unfold wrE
  rw [if_neg hm]
  exact hm
theorem putL_read (s : List UInt8) (a : Nat) (t : List UInt8) : ((putL s a t).drop a).take t.length = t := by
  unfold putL
  split
  · rename_i h
    rw [h, List.take_zero]
    exact (List.eq_nil_of_length_eq_zero h).symm
  · have h1 : (List.take a (s ++ List.replicate (max s.length (a + t.length) - s.length) 0)).length = a := by
      rw [List.length_take, List.length_append, List.length_replicate]; omega
    dsimp only
    rw [List.append_assoc, List.drop_append_of_le_length (by omega), List.drop_of_length_le (by omega), List.nil_append, List.take_left]
theorem surv_none (q : List (Int × Int)) : ∀ (fs : Int → FileC) (i : Nat), survFs fs [] i q = fs := by
  induction q with
  | nil => intro fs i; rfl
  | cons p r ih =>
    intro fs i
    unfold survFs
    rw [ih]
    simp [survB]
/-- A file read whole. -/
theorem read_whole {d : DS} (hI : DInv d) {f : Int} (hm : mayE d f = 0) : readE d f 0 16777216 = 0 ∧ readS d f 0 16777216 = (d.fs f).now := by
  refine ⟨readE_up hm (by omega) (by omega), toL_inj ?_⟩
  rw [readL hm (by omega) (by omega), Int.toNat_zero, List.drop_zero, List.take_of_length_le]
  rw [toL_len]; exact hI.now f
def byt (s : ByteArray) (i : Nat) : UInt8 := (toL s)[i]?.getD 0
theorem byt_end {s : ByteArray} {i : Nat} (h : s.size ≤ i) : byt s i = 0 := by
  unfold byt
  rw [List.getElem?_eq_none (by rw [toL_len]; exact h)]
  rfl
theorem byt_extract (s : ByteArray) (a b i : Nat) (h : i < b - a) : byt (s.extract a b) i = byt s (a + i) := by
  unfold byt
  rw [toL_extract, List.getElem?_take_of_lt h, List.getElem?_drop]
theorem byt_putB (s : ByteArray) (a : Nat) (t : ByteArray) (i : Nat) : byt (putB s a t) i = if a ≤ i ∧ i < a + t.size then byt t (i - a) else byt s i := by
  unfold byt
  rw [toL_putB]
  rw [← toL_len t]
  generalize toL s = s
  generalize toL t = t
  unfold putL
  split
  · rw [if_neg (by omega)]
  · have hb : ∀ (j n : Nat), (s ++ List.replicate n (0 : UInt8))[j]?.getD 0 = s[j]?.getD 0 := by
      intro j n
      rw [List.getElem?_append]
      split
      · rfl
      · rw [List.getElem?_eq_none (l := s) (by omega), List.getElem?_replicate]
        split <;> rfl
    dsimp only
    have hl : (List.take a (s ++ List.replicate (max s.length (a + t.length) - s.length) 0)).length = a := by
      rw [List.length_take, List.length_append, List.length_replicate]; omega
    rw [List.append_assoc, List.getElem?_append, hl]
    split
    · rw [List.getElem?_take_of_lt (by omega), hb, if_neg (by omega)]
    · rw [List.getElem?_append]
      split
      · rw [if_pos (by omega)]
      · rw [List.getElem?_drop, hb, if_neg (by omega)]
        congr 2
        omega
theorem byt_ext {s t : ByteArray} (hs : s.size = t.size) (h : ∀ i, byt s i = byt t i) : s = t := by
  apply toL_inj
  apply List.ext_getElem (by rw [toL_len, toL_len, hs])
  intro i h1 h2
  have := h i
  unfold byt at this
  rw [List.getElem?_eq_getElem h1, List.getElem?_eq_getElem h2] at this
  exact this

/-- What holds of every disk: what is not pending is durable. -/
structure J (d : DS) : Prop where
  size : ∀ f, (d.fs f).last.size ≤ (d.fs f).now.size
  tail : ∀ f, (d.fs f).last.size < (d.fs f).now.size → (f, ((((d.fs f).now.size - 1) / 64 : Nat) : Int)) ∈ d.q
  same : ∀ f (i : Nat), (f, ((i / 64 : Nat) : Int)) ∉ d.q → byt (d.fs f).now i = byt (d.fs f).last i
theorem J.zero : J ds0 := ⟨fun _ => Nat.le_refl _, fun _ h => absurd h (Nat.lt_irrefl _), fun _ _ _ => rfl⟩
section
variable {d : DS} (h : J d)
include h
theorem J.ends : J (endsD d) := by
  unfold endsD
  split
  · exact h
  · split
    · exact h
    · exact ⟨h.size, h.tail, h.same⟩
theorem J.crash (ks : List Int) : J (crashD d ks) := by
  unfold crashD
  split
  · exact h
  · exact ⟨fun _ => Nat.le_refl _, fun _ h => absurd h (Nat.lt_irrefl _), fun _ _ _ => rfl⟩
theorem J.settle (f : Int) (s : ByteArray) : J (settleD d f s) := by
  have hq : ∀ p : Int × Int, p ∈ (settleD d f s).q ↔ p ∈ d.q ∧ p.1 ≠ f := by intro p; simp [settleD]
  have hfs : ∀ n, (settleD d f s).fs n = if n = f then ⟨s, s⟩ else d.fs n := fun n => rfl
  refine ⟨fun n => ?_, fun n hn => ?_, fun n i hi => ?_⟩
  · rw [hfs]; split
    · exact Nat.le_refl _
    · exact h.size n
  · rw [hfs] at hn ⊢
    split at hn
    · exact absurd hn (Nat.lt_irrefl _)
    · rename_i hne
      rw [if_neg hne, hq]
      exact ⟨h.tail n hn, hne⟩
  · rw [hfs]; split
    · rfl
    · rename_i hne
      rw [hq] at hi
      exact h.same n i fun hm => hi ⟨hm, hne⟩
theorem J.wr (f a : Int) (s : ByteArray) : J (wrD d f a s) := by
  unfold wrD
  split
  · rename_i hc
    obtain ⟨-, -, -, h4, -, -⟩ := wrE_zero hc.1
    have hz := hc.2
    have hfs : ∀ n, upd d.fs f ⟨putB (d.fs f).now a.toNat s, (d.fs f).last⟩ n = if n = f then ⟨putB (d.fs f).now a.toNat s, (d.fs f).last⟩ else d.fs n := fun n => rfl
    have hsz := size_putB (d.fs f).now a.toNat s
    rw [if_neg hz] at hsz
    refine ⟨fun n => ?_, fun n hn => ?_, fun n i hi => ?_⟩
    · show (upd _ _ _ n).last.size ≤ (upd _ _ _ n).now.size
      rw [hfs]; split
      · have := h.size f
        show (d.fs f).last.size ≤ (putB _ _ _).size
        omega
      · exact h.size n
    · change (upd _ _ _ n).last.size < (upd _ _ _ n).now.size at hn
      show (n, ((((upd _ _ _ n).now.size - 1) / 64 : Nat) : Int)) ∈ addQ _ _ _ _
      rw [hfs] at hn ⊢
      rw [addQ_mem]
      split at hn
      · rename_i he
        subst he
        rw [if_pos rfl]
        change (d.fs n).last.size < (putB _ _ _).size at hn
        dsimp only
        rw [hsz] at hn ⊢
        rcases Nat.lt_or_ge (d.fs n).now.size (a.toNat + s.size) with hl | hl
        · right
          rw [Nat.max_eq_right (by omega)]
          refine ⟨rfl, ?_, ?_⟩ <;> omega
        · left
          rw [Nat.max_eq_left hl] at hn ⊢
          exact h.tail n hn
      · rename_i he
        rw [if_neg he]
        exact .inl (h.tail n hn)
    · change (n, ((i / 64 : Nat) : Int)) ∉ addQ _ _ _ _ at hi
      show byt (upd _ _ _ n).now i = byt (upd _ _ _ n).last i
      rw [addQ_mem, not_or] at hi
      rw [hfs]; split
      · rename_i he
        subst he
        show byt (putB _ _ _) i = byt (d.fs n).last i
        rw [byt_putB, if_neg, h.same n i hi.1]
        intro hr
        apply hi.2
        refine ⟨rfl, ?_, ?_⟩ <;> dsimp only <;> omega
      · exact h.same n i hi.1
  · exact h
theorem J.comes (ks : List Int) : J (comesD d ks) := by
  unfold comesD
  split
  · exact h.ends.crash ks
  · exact h.ends
end
/-- One sector that survives. -/
theorem surv1_f {fs : Int → FileC} {f : Int} {p : Int × Int} (hp : 0 ≤ p.2) (hs : (fs f).last.size ≤ (fs f).now.size) :
    (fs f).last.size ≤ (surv1 fs p f).last.size ∧ (surv1 fs p f).last.size ≤ (fs f).now.size ∧ (∀ i : Nat, byt (surv1 fs p f).last i = if p = (f, ((i / 64 : Nat) : Int)) then byt (fs f).now i else byt (fs f).last i) ∧
    (0 < (fs f).now.size → p = (f, ((((fs f).now.size - 1) / 64 : Nat) : Int)) → (surv1 fs p f).last.size = (fs f).now.size) := by
  obtain ⟨g, n⟩ := p
  dsimp only at hp
  unfold surv1
  dsimp only
  split
  · rename_i hc
    refine ⟨Nat.le_refl _, hs, fun i => ?_, fun h0 he => ?_⟩
    · split
      · rename_i he
        have e1 : g = f := congrArg Prod.fst he
        have e2 : n = ((i / 64 : Nat) : Int) := congrArg Prod.snd he
        subst e1
        rw [byt_end (s := (fs g).now) (by omega), byt_end (by omega)]
      · rfl
    · have e1 : g = f := congrArg Prod.fst he
      have e2 : n = ((((fs f).now.size - 1) / 64 : Nat) : Int) := congrArg Prod.snd he
      subst e1
      omega
  · rename_i hc
    unfold upd
    by_cases hf : f = g
    · subst hf
      rw [if_pos rfl]
      dsimp only
      have hx := size_extract (fs f).now (n * 64).toNat (min (n * 64 + 64).toNat (fs f).now.size)
      have hsz := size_putB (fs f).last (n * 64).toNat ((fs f).now.extract (n * 64).toNat (min (n * 64 + 64).toNat (fs f).now.size))
      rw [hx, if_neg (by omega)] at hsz
      refine ⟨by rw [hsz]; omega, by rw [hsz]; omega, fun i => ?_, fun h0 he => ?_⟩
      · rw [byt_putB, hx]
        split
        · rename_i hr
          have hi : n = ((i / 64 : Nat) : Int) := by omega
          have hi2 : (n * 64).toNat + (i - (n * 64).toNat) = i := by omega
          have hpr : (f, n) = (f, ((i / 64 : Nat) : Int)) := Prod.ext rfl hi
          rw [if_pos hpr, byt_extract _ _ _ _ (by omega), hi2]
        · rename_i hr
          split
          · rename_i he
            have e2 : n = ((i / 64 : Nat) : Int) := congrArg Prod.snd he
            rw [byt_end (s := (fs f).now) (by omega), byt_end (by omega)]
          · rfl
      · have e2 : n = ((((fs f).now.size - 1) / 64 : Nat) : Int) := congrArg Prod.snd he
        rw [hsz]
        omega
    · rw [if_neg hf]
      refine ⟨Nat.le_refl _, hs, fun i => ?_, fun h0 he => ?_⟩
      · rw [if_neg (fun he => hf (congrArg Prod.fst he).symm)]
      · exact absurd (congrArg Prod.fst he).symm hf
/-- Each sector is wholly new or wholly old. -/
def Sect (L N O : ByteArray) (n : Nat) : Prop := (∀ i, i / 64 = n → byt L i = byt N i) ∨ (∀ i, i / 64 = n → byt L i = byt O i)
theorem surv_some (ks : List Int) (f : Int) (N O : ByteArray) : ∀ (q : List (Int × Int)) (fs : Int → FileC) (k : Nat), (∀ p ∈ q, 0 ≤ p.2) → (fs f).now = N → O.size ≤ (fs f).last.size → (fs f).last.size ≤ N.size → (∀ n, Sect (fs f).last N O n) →
    O.size ≤ (survFs fs ks k q f).last.size ∧ (survFs fs ks k q f).last.size ≤ N.size ∧ ∀ n, Sect (survFs fs ks k q f).last N O n
  | [], _, _, _, _, h1, h2, h3 => ⟨h1, h2, h3⟩
  | p :: r, fs, k, hq, hN, h1, h2, h3 => by
    unfold survFs
    cases hb : survB ks k
    · exact surv_some ks f N O r fs (k + 1) (fun p hp => hq p (by simp [hp])) hN h1 h2 h3
    · obtain ⟨a1, a2, a3, -⟩ := surv1_f (fs := fs) (f := f) (p := p) (hq p (by simp)) (by rw [hN]; exact h2)
      rw [hN] at a2 a3
      refine surv_some ks f N O r (surv1 fs p) (k + 1) (fun p hp => hq p (by simp [hp])) ((surv1_now fs p f).trans hN) (by omega) a2 fun n => ?_
      by_cases he : p = (f, (n : Int))
      · left
        intro i hi
        rw [a3, if_pos (by rw [he, hi])]
      · rcases h3 n with hn | hn
        · left
          intro i hi
          rw [a3, if_neg (by rw [hi]; exact he), hn i hi]
        · right
          intro i hi
          rw [a3, if_neg (by rw [hi]; exact he), hn i hi]
end Go.Proofs.YtjgmbildgcighaaDoor
