import Derived.Test.YtjgmbildgcighaaDoorD10
namespace Go.Proofs.YtjgmbildgcighaaDoor
open Go.RowKit

/-- Disk number i of a law, in block g: its state d, and the numbers in its field 'keep'. -/
def DO (w : World) (own : Nat → Nat) (i g : Nat) (d : DS) (ks : List Int) : Prop :=
  ∃ B c, DiskAt w (fun k => own k = i) g (.slice B ks.length c) d ∧ KeepAt w (fun k => own k ≠ 0) B ks ∧ ks.length ≤ 1000000
/-- An argument that is a slice of ints. -/
def KeepB (W : World) (A : Option Addr) (ks : List Int) : Prop :=
  ∀ k p, ks[k]? = some p → ∃ b o, A = some ⟨b, o, none⟩ ∧ b < W.heap.size ∧ W.cell? ⟨b, o + k, none⟩ = some (.int .i64 p)
theorem KeepB.nil (W : World) (A : Option Addr) : KeepB W A [] := fun k p h => by simp at h
section
variable {W w w' : World} {own own' : Nat → Nat} {i j g : Nat} {d d' : DS} {ks ks' : List Int} {A B : Option Addr} {r : Value} {e : Ending}
theorem KeepB.at (h : KeepB W A ks) (hs : St W w own) : KeepAt w (fun k => own k ≠ 0) A ks := by
  intro k p hk
  obtain ⟨b, o, hA, hlt, hc⟩ := h k p hk
  exact ⟨b, o, hA, Nat.lt_of_lt_of_le hlt hs.le, fun hn => hn (hs.low b hlt), by rw [hs.fr.cell hlt]; exact hc⟩
theorem KeepAt.for_ (h : KeepAt w (fun k => own k ≠ 0) A ks) (hi : i ≠ 0) : KeepAt w (fun k => own k = i) A ks :=
  h.fr (Fr.refl (fun _ => False) w) (fun _ _ h => h.elim) (fun k _ hk => by show own k ≠ 0; have : own k = i := hk; omega)
theorem KeepAt.step (h : KeepAt w (fun k => own k ≠ 0) A ks) (hs : Step W w w' own own' i) (hi : i ≠ 0) : KeepAt w' (fun k => own' k ≠ 0) A ks :=
  h.fr hs.fr (fun k _ hk => by show own k ≠ 0; have : own k = i := hk; omega) (fun k hk hn => by show own k ≠ 0; have : own' k ≠ 0 := hn; rw [hs.same k hk] at this; exact this)
theorem DO.other (h : DO w own j g d ks) (hs : Step W w w' own own' i) (hj : j ≠ 0) (hi : i ≠ 0) (hij : j ≠ i) : DO w' own' j g d ks := by
  obtain ⟨B, c, h1, h2, h3⟩ := h
  refine ⟨B, c, ?_, h2.step hs hi, h3⟩
  exact (h1.keep hs.fr fun k hk hk' => by have e1 : own k = j := hk; have e2 : own k = i := hk'; omega).more (fun k hk => hs.lt hj hk) (hs.st.lt hj)
theorem DO.mine {B : Option Addr} {c : Nat} (hp : DPost w (fun k => own k = i) g r (.slice B ks.length c) d' e w') (hk : KeepAt w (fun k => own k ≠ 0) B ks) (hb : ks.length ≤ 1000000) (hs : St W w own) (hi : i ≠ 0) :
    e = .returned r ∧ ∃ own', DO w' own' i g d' ks ∧ Step W w w' own own' i := by
  obtain ⟨rfl, hn, hf⟩ := hp
  obtain ⟨own', h1, h2⟩ := hs.step hi hf
  exact ⟨rfl, own', ⟨B, c, hn.more (fun k hk => (h2 k).2 hk) (h1.st.lt hi), hk.step h1 hi, hb⟩, h1⟩
theorem DO.alloc (h : DO w own i g d ks) (o : Obj) : DO (w.alloc o) own i g d ks := by
  obtain ⟨B, c, h1, h2, h3⟩ := h
  exact ⟨B, c, h1.alloc o, h2.fr ((Fr.refl (fun _ => False) w).alloc o) (fun _ _ h => h.elim) (fun _ _ h => h), h3⟩
theorem DO.drewN (h : DO w own i g d ks) (n : Nat) : DO (w.drewN n) own i g d ks := by
  obtain ⟨B, c, h1, h2, h3⟩ := h
  exact ⟨B, c, h1.drewN n, h2, h3⟩
theorem DO.lt (h : DO w own i g d ks) : g < w.heap.size := by obtain ⟨B, c, h1, h2, h3⟩ := h; exact h1.lt g h1.own
theorem DO.inv (h : DO w own i g d ks) : DInv d := by obtain ⟨B, c, h1, h2, h3⟩ := h; exact h1.inv
theorem Step.alloc_left {o : Obj} (h : Step W (w.alloc o) w' own own' i) (hs : St W w own) : Step W w w' own own' i :=
  ⟨hs, h.st, fun k hk => h.same k (by simp; omega), fun k hk => by
    by_cases he : k = w.heap.size
    · right; subst he; rw [h.same _ (by simp)]; exact hs.hi _ (Nat.le_refl _)
    · exact h.new k (by simp; omega), ((Fr.refl (fun k => own k = i) w).alloc o).trans h.fr⟩
theorem Step.alloc (h : Step W w w' own own' i) (o : Obj) : Step W w (w'.alloc o) own own' i :=
  ⟨h.st0, h.st.alloc o, h.same, h.new, h.fr.alloc o⟩
theorem Step.drewN (h : Step W w w' own own' i) (n : Nat) : Step W w (w'.drewN n) own own' i := ⟨h.st0, h.st.drewN n, h.same, h.new, h.fr.drewN n⟩
theorem Step.of_fr (h : St W w own) (hf : Fr (fun _ => False) w w') (hi : ∀ k, w'.heap.size ≤ k → own k = 0 := by intro k hk; exact h.hi k (Nat.le_trans hf.size hk)) : Step W w w' own own i :=
  ⟨h, ⟨h.low, hi, h.fr.trans (hf.below h.le fun _ h => h.elim)⟩, fun _ _ => rfl, fun k hk => .inr (h.hi k hk), hf.mono fun _ _ h => h.elim⟩

/-! The calls, at the level of a law. -/
def Res (W w : World) (own : Nat → Nat) (i g : Nat) (r : Value) (d : DS) (ks : List Int) (e : Ending) (w' : World) : Prop :=
  e = .returned r ∧ ∃ own', DO w' own' i g d ks ∧ Step W w w' own own' i
variable (hd : DO w own i g d ks) (hs : St W w own) (hi : i ≠ 0)
include hd hs hi
theorem o_write (f a : Int) (s : ByteArray) : Calls Tryd.prog 11 #[.pointer (some ⟨g, 0, none⟩), .int .i64 f, .int .i64 a, .string s] w (Res W w own i g (.int .i64 (writeE d f a s)) (writeD d ks f a s) ks) := by
  obtain ⟨B, c, h1, h2, h3⟩ := hd
  exact (write_any g d B c ks f a s w _ h1 (h2.for_ hi) h3).mono fun e w' hp => DO.mine hp h2 h3 hs hi
theorem o_sync (f : Int) : Calls Tryd.prog 41 #[.pointer (some ⟨g, 0, none⟩), .int .i64 f] w (Res W w own i g (.int .i64 (syncE d ks f)) (syncD d ks f) ks) := by
  obtain ⟨B, c, h1, h2, h3⟩ := hd
  exact (sync_any g d B c ks f w _ h1 (h2.for_ hi) h3).mono fun e w' hp => DO.mine hp h2 h3 hs hi
theorem o_lose (n : Int) (hn : n ≤ 9223372036854775807) : Calls Tryd.prog 19 #[.pointer (some ⟨g, 0, none⟩), .int .i64 n] w (Res W w own i g (.tuple #[]) (loseD d n) ks) := by
  obtain ⟨B, c, h1, h2, h3⟩ := hd
  exact (lose_any g d _ n hn w _ h1).mono fun e w' hp => DO.mine hp h2 h3 hs hi
theorem o_start : Calls Tryd.prog 23 #[.pointer (some ⟨g, 0, none⟩)] w (Res W w own i g (.tuple #[]) (startD d) ks) := by
  obtain ⟨B, c, h1, h2, h3⟩ := hd
  exact (start_any g d _ w _ h1).mono fun e w' hp => DO.mine hp h2 h3 hs hi
theorem o_crash (A : Option Addr) (c : Nat) (hk : KeepAt w (fun k => own k ≠ 0) A ks') (hb : ks'.length ≤ 1000000) : Calls Tryd.prog 22 #[.pointer (some ⟨g, 0, none⟩), .slice A ks'.length c] w (Res W w own i g (.tuple #[]) (crashD d ks') ks) := by
  obtain ⟨B, c', h1, h2, h3⟩ := hd
  exact (crash_any g d _ A c ks' w _ h1 (hk.for_ hi) hb).mono fun e w' hp => DO.mine hp h2 h3 hs hi
theorem o_arm (n : Int) (hn : n ≤ 9223372036854775807) (A : Option Addr) (c : Nat) (hk : KeepAt w (fun k => own k ≠ 0) A ks') (hb : ks'.length ≤ 1000000) : Calls Tryd.prog 21 #[.pointer (some ⟨g, 0, none⟩), .int .i64 n, .slice A ks'.length c] w (Res W w own i g (.tuple #[]) (armD d n) ks') := by
  obtain ⟨B, c', h1, h2, h3⟩ := hd
  refine (arm_any g d _ n hn A c ks' w _ h1 (hk.for_ hi) hb).mono ?_
  rintro e w' ⟨rfl, B', c'', hD, hK, hf, hnew⟩
  have hst : St W w' own := ⟨hs.low, fun k hk => hs.hi k (by have := hf.size; omega), hs.fr.trans (hf.below hs.le fun k hk => by
    rcases Nat.lt_or_ge k W.heap.size with h | h
    · have h0 := hs.low k h
      have h4 : own k = i := hk
      omega
    · exact h)⟩
  refine ⟨rfl, own, ⟨B', c'', hD, ?_, hb⟩, ⟨hs, hst, fun _ _ => rfl, fun k hk => .inr (hs.hi k hk), hf⟩⟩
  intro k p hk
  obtain ⟨b, o, hB, hlt, -, hc⟩ := hK k p hk
  refine ⟨b, o, hB, hlt, fun hn => hn ?_, hc⟩
  exact hs.hi b (hnew _ hB)
omit hs hi
theorem o_size (f : Int) : Calls Tryd.prog 30 #[.pointer (some ⟨g, 0, none⟩), .int .i64 f] w fun e w' => e = .returned (.int .i64 (d.fs f).now.size) ∧ w = w' := by
  obtain ⟨B, c, h1, h2, h3⟩ := hd
  exact size_any g d _ f w _ h1
theorem o_read (f a n : Int) : Calls Tryd.prog 31 #[.pointer (some ⟨g, 0, none⟩), .int .i64 f, .int .i64 a, .int .i64 n] w fun e w' => e = .returned (.tuple #[.string (readS d f a n), .int .i64 (readE d f a n)]) ∧ w = w' := by
  obtain ⟨B, c, h1, h2, h3⟩ := hd
  exact read_any g d _ f a n w _ h1
end
theorem o_new {W w : World} {own : Nat → Nat} {i : Nat} (hs : St W w own) (hi : i ≠ 0) : Calls Tryd.prog 9 #[] w fun e w' => ∃ g, e = .returned (.pointer (some ⟨g, 0, none⟩)) ∧ ∃ own', DO w' own' i g ds0 [] ∧ Step W w w' own own' i := by
  refine (dnew_any w).mono ?_
  rintro e w' ⟨rfl, rfl⟩
  have hf : Fr (fun k => own k = i) w (((w.alloc (.map #[] 0)).alloc (.map #[] 0)).alloc (.cells #[.map (some w.heap.size), .slice none 0 0, .map (some (w.heap.size + 1)), .int .i64 0, .bool false, .int .i64 0, .slice none 0 0] 61)) := (((Fr.refl _ w).alloc _).alloc _).alloc _
  obtain ⟨own', h1, h2⟩ := hs.step hi hf
  refine ⟨_, rfl, own', ⟨none, 0, (dnew_at w).more (fun k hk => (h2 k).2 (.inr ⟨hk.1, by simp; omega⟩)) (h1.st.lt hi), KeepAt.nil _ _ _, by simp⟩, h1⟩
end Go.Proofs.YtjgmbildgcighaaDoor
