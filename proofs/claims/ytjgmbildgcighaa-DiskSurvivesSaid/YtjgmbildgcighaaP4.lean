import Derived.Test.YtjgmbildgcighaaP5
namespace Go.Proofs.Ytjgmbildgcighaa
open Go.RowKit

/-! DiskSurvives, in plain terms. -/
def byt (s : ByteArray) (i : Nat) : UInt8 := (toL s)[i]?.getD 0
theorem byt_end {s : ByteArray} {i : Nat} (h : s.size ≤ i) : byt s i = 0 := by
  unfold byt
  rw [List.getElem?_eq_none (by rw [toL_len]; exact h)]
  rfl
theorem byt_extract (s : ByteArray) (a b i : Nat) (h : i < b - a) : byt (s.extract a b) i = byt s (a + i) := by
  unfold byt
  rw [toL_extract, List.getElem?_take_of_lt h, List.getElem?_drop]
theorem byt_putB (s : ByteArray) (a : Nat) (t : ByteArray) (i : Nat) : byt (putB s a t) i = if a ≤ i ∧ i < a + t.size then byt t (i - a) else byt s i := by
  unfold byt
  rw [toL_putB]
  rw [← toL_len t]
  generalize toL s = s
  generalize toL t = t
  unfold putL
  split
  · rw [if_neg (by omega)]
  · have hb : ∀ (j n : Nat), (s ++ List.replicate n (0 : UInt8))[j]?.getD 0 = s[j]?.getD 0 := by
      intro j n
      rw [List.getElem?_append]
      split
      · rfl
      · rw [List.getElem?_eq_none (l := s) (by omega), List.getElem?_replicate]
        split <;> rfl
    dsimp only
    have hl : (List.take a (s ++ List.replicate (max s.length (a + t.length) - s.length) 0)).length = a := by
      rw [List.length_take, List.length_append, List.length_replicate]; omega
    rw [List.append_assoc, List.getElem?_append, hl]
    split
    · rw [List.getElem?_take_of_lt (by omega), hb, if_neg (by omega)]
    · rw [List.getElem?_append]
      split
      · rw [if_pos (by omega)]
      · rw [List.getElem?_drop, hb, if_neg (by omega)]
        congr 2
        omega
theorem byt_ext {s t : ByteArray} (hs : s.size = t.size) (h : ∀ i, byt s i = byt t i) : s = t := by
  apply toL_inj
  apply List.ext_getElem (by rw [toL_len, toL_len, hs])
  intro i h1 h2
  have := h i
  unfold byt at this
  rw [List.getElem?_eq_getElem h1, List.getElem?_eq_getElem h2] at this
  exact this

/-- What holds of every disk: what is not pending is durable. -/
structure J (d : DS) : Prop where
  size : ∀ f, (d.fs f).last.size ≤ (d.fs f).now.size
  tail : ∀ f, (d.fs f).last.size < (d.fs f).now.size → (f, ((((d.fs f).now.size - 1) / 64 : Nat) : Int)) ∈ d.q
  same : ∀ f (i : Nat), (f, ((i / 64 : Nat) : Int)) ∉ d.q → byt (d.fs f).now i = byt (d.fs f).last i
theorem J.zero : J ds0 := ⟨fun _ => Nat.le_refl _, fun _ h => absurd h (Nat.lt_irrefl _), fun _ _ _ => rfl⟩
section
variable {d : DS} (h : J d)
include h
theorem J.ends : J (endsD d) := by
  unfold endsD
  split
  · exact h
  · split
    · exact h
    · exact ⟨h.size, h.tail, h.same⟩
theorem J.crash (ks : List Int) : J (crashD d ks) := by
  unfold crashD
  split
  · exact h
  · exact ⟨fun _ => Nat.le_refl _, fun _ h => absurd h (Nat.lt_irrefl _), fun _ _ _ => rfl⟩
theorem J.settle (f : Int) (s : ByteArray) : J (settleD d f s) := by
  have hq : ∀ p : Int × Int, p ∈ (settleD d f s).q ↔ p ∈ d.q ∧ p.1 ≠ f := by intro p; simp [settleD]
  have hfs : ∀ n, (settleD d f s).fs n = if n = f then ⟨s, s⟩ else d.fs n := fun n => rfl
  refine ⟨fun n => ?_, fun n hn => ?_, fun n i hi => ?_⟩
  · rw [hfs]; split
    · exact Nat.le_refl _
    · exact h.size n
  · rw [hfs] at hn ⊢
    split at hn
    · exact absurd hn (Nat.lt_irrefl _)
    · rename_i hne
      rw [if_neg hne, hq]
      exact ⟨h.tail n hn, hne⟩
  · rw [hfs]; split
    · rfl
    · rename_i hne
      rw [hq] at hi
      exact h.same n i fun hm => hi ⟨hm, hne⟩
theorem J.wr (f a : Int) (s : ByteArray) : J (wrD d f a s) := by
  unfold wrD
  split
  · rename_i hc
    obtain ⟨-, -, -, h4, -, -⟩ := wrE_zero hc.1
    have hz := hc.2
    have hfs : ∀ n, upd d.fs f ⟨putB (d.fs f).now a.toNat s, (d.fs f).last⟩ n = if n = f then ⟨putB (d.fs f).now a.toNat s, (d.fs f).last⟩ else d.fs n := fun n => rfl
    have hsz := size_putB (d.fs f).now a.toNat s
    rw [if_neg hz] at hsz
    refine ⟨fun n => ?_, fun n hn => ?_, fun n i hi => ?_⟩
    · show (upd _ _ _ n).last.size ≤ (upd _ _ _ n).now.size
      rw [hfs]; split
      · have := h.size f
        show (d.fs f).last.size ≤ (putB _ _ _).size
        omega
      · exact h.size n
    · change (upd _ _ _ n).last.size < (upd _ _ _ n).now.size at hn
      show (n, ((((upd _ _ _ n).now.size - 1) / 64 : Nat) : Int)) ∈ addQ _ _ _ _
      rw [hfs] at hn ⊢
      rw [addQ_mem]
      split at hn
      · rename_i he
        subst he
        rw [if_pos rfl]
        change (d.fs n).last.size < (putB _ _ _).size at hn
        dsimp only
        rw [hsz] at hn ⊢
        rcases Nat.lt_or_ge (d.fs n).now.size (a.toNat + s.size) with hl | hl
        · right
          rw [Nat.max_eq_right (by omega)]
          refine ⟨rfl, ?_, ?_⟩ <;> omega
        · left
          rw [Nat.max_eq_left hl] at hn ⊢
          exact h.tail n hn
      · rename_i he
        rw [if_neg he]
        exact .inl (h.tail n hn)
    · change (n, ((i / 64 : Nat) : Int)) ∉ addQ _ _ _ _ at hi
      show byt (upd _ _ _ n).now i = byt (upd _ _ _ n).last i
      rw [addQ_mem, not_or] at hi
      rw [hfs]; split
      · rename_i he
        subst he
        show byt (putB _ _ _) i = byt (d.fs n).last i
        rw [byt_putB, if_neg, h.same n i hi.1]
        intro hr
        apply hi.2
        refine ⟨rfl, ?_, ?_⟩ <;> dsimp only <;> omega
      · exact h.same n i hi.1
  · exact h
theorem J.comes (ks : List Int) : J (comesD d ks) := by
  unfold comesD
  split
  · exact h.ends.crash ks
  · exact h.ends
theorem J.act (ks : List Int) (a : ActV) : J (actD d ks a) := by
  unfold actD
  split
  · unfold syncD syncD1
    split
    · split
      · have := h.comes ks; exact ⟨this.size, this.tail, this.same⟩
      · exact (h.comes ks).settle _ _
    · exact h.comes ks
  · split
    · unfold truncD truncD1
      split
      · exact (h.comes ks).settle _ _
      · exact h.comes ks
    · split
      · exact ⟨h.size, h.tail, h.same⟩
      · split
        · exact ⟨h.size, h.tail, h.same⟩
        · split
          · exact h.crash _
          · split
            · exact ⟨h.size, h.tail, h.same⟩
            · unfold writeD
              split
              · exact (h.ends.wr _ _ _).crash ks
              · exact h.ends.wr _ _ _
end
theorem playJ : ∀ (l : List ActV) (x : DS × List Int), J x.1 → J (playD l x).1
  | [], _, h => h
  | a :: r, x, h => playJ r _ (h.act x.2 a)

/-- One sector that survives. -/
theorem surv1_f {fs : Int → FileC} {f : Int} {p : Int × Int} (hp : 0 ≤ p.2) (hs : (fs f).last.size ≤ (fs f).now.size) :
    (fs f).last.size ≤ (surv1 fs p f).last.size ∧ (surv1 fs p f).last.size ≤ (fs f).now.size ∧ (∀ i : Nat, byt (surv1 fs p f).last i = if p = (f, ((i / 64 : Nat) : Int)) then byt (fs f).now i else byt (fs f).last i) ∧
    (0 < (fs f).now.size → p = (f, ((((fs f).now.size - 1) / 64 : Nat) : Int)) → (surv1 fs p f).last.size = (fs f).now.size) := by
  obtain ⟨g, n⟩ := p
  dsimp only at hp
  unfold surv1
  dsimp only
  split
  · rename_i hc
    refine ⟨Nat.le_refl _, hs, fun i => ?_, fun h0 he => ?_⟩
    · split
      · rename_i he
        have e1 : g = f := congrArg Prod.fst he
        have e2 : n = ((i / 64 : Nat) : Int) := congrArg Prod.snd he
        subst e1
        rw [byt_end (s := (fs g).now) (by omega), byt_end (by omega)]
      · rfl
    · have e1 : g = f := congrArg Prod.fst he
      have e2 : n = ((((fs f).now.size - 1) / 64 : Nat) : Int) := congrArg Prod.snd he
      subst e1
      omega
  · rename_i hc
    unfold upd
    by_cases hf : f = g
    · subst hf
      rw [if_pos rfl]
      dsimp only
      have hx := size_extract (fs f).now (n * 64).toNat (min (n * 64 + 64).toNat (fs f).now.size)
      have hsz := size_putB (fs f).last (n * 64).toNat ((fs f).now.extract (n * 64).toNat (min (n * 64 + 64).toNat (fs f).now.size))
      rw [hx, if_neg (by omega)] at hsz
      refine ⟨by rw [hsz]; omega, by rw [hsz]; omega, fun i => ?_, fun h0 he => ?_⟩
      · rw [byt_putB, hx]
        split
        · rename_i hr
          have hi : n = ((i / 64 : Nat) : Int) := by omega
          have hi2 : (n * 64).toNat + (i - (n * 64).toNat) = i := by omega
          have hpr : (f, n) = (f, ((i / 64 : Nat) : Int)) := Prod.ext rfl hi
          rw [if_pos hpr, byt_extract _ _ _ _ (by omega), hi2]
        · rename_i hr
          split
          · rename_i he
            have e2 : n = ((i / 64 : Nat) : Int) := congrArg Prod.snd he
            rw [byt_end (s := (fs f).now) (by omega), byt_end (by omega)]
          · rfl
      · have e2 : n = ((((fs f).now.size - 1) / 64 : Nat) : Int) := congrArg Prod.snd he
        rw [hsz]
        omega
    · rw [if_neg hf]
      refine ⟨Nat.le_refl _, hs, fun i => ?_, fun h0 he => ?_⟩
      · rw [if_neg (fun he => hf (congrArg Prod.fst he).symm)]
      · exact absurd (congrArg Prod.fst he).symm hf
/-- Each sector is wholly new or wholly old. -/
def Sect (L N O : ByteArray) (n : Nat) : Prop := (∀ i, i / 64 = n → byt L i = byt N i) ∨ (∀ i, i / 64 = n → byt L i = byt O i)
theorem surv_some (ks : List Int) (f : Int) (N O : ByteArray) : ∀ (q : List (Int × Int)) (fs : Int → FileC) (k : Nat), (∀ p ∈ q, 0 ≤ p.2) → (fs f).now = N → O.size ≤ (fs f).last.size → (fs f).last.size ≤ N.size → (∀ n, Sect (fs f).last N O n) →
    O.size ≤ (survFs fs ks k q f).last.size ∧ (survFs fs ks k q f).last.size ≤ N.size ∧ ∀ n, Sect (survFs fs ks k q f).last N O n
  | [], _, _, _, _, h1, h2, h3 => ⟨h1, h2, h3⟩
  | p :: r, fs, k, hq, hN, h1, h2, h3 => by
    unfold survFs
    cases hb : survB ks k
    · exact surv_some ks f N O r fs (k + 1) (fun p hp => hq p (by simp [hp])) hN h1 h2 h3
    · obtain ⟨a1, a2, a3, -⟩ := surv1_f (fs := fs) (f := f) (p := p) (hq p (by simp)) (by rw [hN]; exact h2)
      rw [hN] at a2 a3
      refine surv_some ks f N O r (surv1 fs p) (k + 1) (fun p hp => hq p (by simp [hp])) ((surv1_now fs p f).trans hN) (by omega) a2 fun n => ?_
      by_cases he : p = (f, (n : Int))
      · left
        intro i hi
        rw [a3, if_pos (by rw [he, hi])]
      · rcases h3 n with hn | hn
        · left
          intro i hi
          rw [a3, if_neg (by rw [hi]; exact he), hn i hi]
        · right
          intro i hi
          rw [a3, if_neg (by rw [hi]; exact he), hn i hi]
theorem surv_one (k : Nat) : survB [1] k = true := by
  unfold survB
  have : k % ([1] : List Int).length = 0 := Nat.mod_one k
  rw [this]
  rfl
theorem surv_all (f : Int) (N : ByteArray) : ∀ (q : List (Int × Int)) (fs : Int → FileC) (k : Nat), (∀ p ∈ q, 0 ≤ p.2) → (fs f).now = N → (fs f).last.size ≤ N.size →
    ((fs f).last.size < N.size → (f, (((N.size - 1) / 64 : Nat) : Int)) ∈ q) → (∀ i : Nat, (f, ((i / 64 : Nat) : Int)) ∉ q → byt N i = byt (fs f).last i) → (survFs fs [1] k q f).last = N
  | [], fs, _, _, _, h1, h2, h3 => by
    refine byt_ext ?_ fun i => (h3 i (by simp)).symm
    show (fs f).last.size = N.size
    rcases Nat.lt_or_ge (fs f).last.size N.size with h | h
    · have := h2 h; simp at this
    · omega
  | p :: r, fs, k, hq, hN, h1, h2, h3 => by
    unfold survFs
    rw [surv_one, if_pos rfl]
    obtain ⟨a1, a2, a3, a4⟩ := surv1_f (fs := fs) (f := f) (p := p) (hq p (by simp)) (by rw [hN]; exact h1)
    rw [hN] at a2 a3 a4
    refine surv_all f N r (surv1 fs p) (k + 1) (fun p hp => hq p (by simp [hp])) ((surv1_now fs p f).trans hN) a2 (fun hl => ?_) (fun i hi => ?_)
    · rcases List.mem_cons.1 (h2 (by omega)) with he | he
      · have := a4 (by omega) he.symm
        omega
      · exact he
    · rw [a3]
      split
      · rfl
      · rename_i hne
        exact h3 i fun hm => by
          rcases List.mem_cons.1 hm with he | he
          · exact hne he.symm
          · exact hi he

structure SurvP (d : DS) (f : Int) (ks : List Int) (N O L : ByteArray) : Prop where
  now : readS d f 0 16777216 = N ∧ readE d f 0 16777216 = 0
  last : readS (startD (crashD d [])) f 0 16777216 = O ∧ readE (startD (crashD d [])) f 0 16777216 = 0
  all : readS (startD (crashD d [1])) f 0 16777216 = N ∧ readE (startD (crashD d [1])) f 0 16777216 = 0
  some : readS (startD (crashD d ks)) f 0 16777216 = L ∧ readE (startD (crashD d ks)) f 0 16777216 = 0
  lo : O.size ≤ L.size
  hi : L.size ≤ N.size
  sect : ∀ n, Sect L N O n
theorem surv_law {d : DS} (hI : DInv d) (hJ : J d) {f : Int} (hd : d.down = false) (hf0 : 0 ≤ f) (hf1 : f ≤ 15) (ks : List Int) : ∃ N O L, SurvP d f ks N O L ∧ N = (d.fs f).now := by
  have hq : ∀ p ∈ d.q, 0 ≤ p.2 := fun p hp => (hI.sect p hp).2.2.1
  have crash : ∀ ks', readS (startD (crashD d ks')) f 0 16777216 = (survFs d.fs ks' 0 d.q f).last ∧ readE (startD (crashD d ks')) f 0 16777216 = 0 := by
    intro ks'
    have := read_whole (hI.crash ks').start (f := f) (may_up rfl hf0 hf1)
    refine ⟨this.2.trans ?_, this.1⟩
    unfold crashD startD
    rw [hd]; rfl
  have h0 := read_whole hI (f := f) (may_up hd hf0 hf1)
  have hs := surv_some ks f (d.fs f).now (d.fs f).last d.q d.fs 0 hq rfl (Nat.le_refl _) (hJ.size f) (fun n => .inr fun _ _ => rfl)
  refine ⟨_, _, _, ⟨⟨h0.2, h0.1⟩, ?_, ?_, crash ks, hs.1, hs.2.1, hs.2.2⟩, rfl⟩
  · have := crash []
    rw [surv_none] at this
    exact this
  · have := crash [1]
    rw [surv_all f (d.fs f).now d.q d.fs 0 hq rfl (hJ.size f) (hJ.tail f) (hJ.same f)] at this
    exact this
end Go.Proofs.Ytjgmbildgcighaa
