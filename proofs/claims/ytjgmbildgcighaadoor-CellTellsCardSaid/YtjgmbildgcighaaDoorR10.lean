import Derived.Test.YtjgmbildgcighaaDoorR9
import Derived.Test.YtjgmbildgcighaaDoorL0
namespace Go.Proofs.YtjgmbildgcighaaDoor
open Go.RowKit

/-- The reference's disk number i of a law, in block g. -/
def RO (w : World) (own : Nat → Nat) (i g : Nat) (d : DS) (ks : List Int) : Prop :=
  ∃ B c, RefAt w (fun k => own k = i) g (.slice B ks.length c) d ∧ KeepAt w (fun k => own k ≠ 0) B ks ∧ ks.length ≤ 1000000
section
variable {W w w' : World} {own own' : Nat → Nat} {i j g : Nat} {d d' : DS} {ks ks' : List Int} {A B : Option Addr} {r : Value} {e : Ending}
theorem DO.fr0 (h : DO w own i g d ks) (hf : Fr (fun _ => False) w w') : DO w' own i g d ks := by
  obtain ⟨B, c, h1, h2, h3⟩ := h
  exact ⟨B, c, h1.keep hf fun _ _ h => h, h2.fr hf (fun _ _ h => h.elim) (fun _ _ h => h), h3⟩
theorem RO.fr0 (h : RO w own i g d ks) (hf : Fr (fun _ => False) w w') : RO w' own i g d ks := by
  obtain ⟨B, c, h1, h2, h3⟩ := h
  exact ⟨B, c, h1.keep hf fun _ _ h => h, h2.fr hf (fun _ _ h => h.elim) (fun _ _ h => h), h3⟩
theorem St.frF (h : St W w own) (hf : Fr (fun _ => False) w w') : St W w' own :=
  ⟨h.low, fun k hk => h.hi k (Nat.le_trans hf.size hk), h.fr.trans (hf.below h.le fun _ h => h.elim)⟩
theorem RO.other (h : RO w own j g d ks) (hs : Step W w w' own own' i) (hj : j ≠ 0) (hi : i ≠ 0) (hij : j ≠ i) : RO w' own' j g d ks := by
  obtain ⟨B, c, h1, h2, h3⟩ := h
  refine ⟨B, c, ?_, h2.step hs hi, h3⟩
  exact (h1.keep hs.fr fun k hk hk' => by have e1 : own k = j := hk; have e2 : own k = i := hk'; omega).more (fun k hk => hs.lt hj hk) (hs.st.lt hj)
theorem RO.mine {B : Option Addr} {c : Nat} (hp : RPost w (fun k => own k = i) g r (.slice B ks.length c) d' e w') (hk : KeepAt w (fun k => own k ≠ 0) B ks) (hb : ks.length ≤ 1000000) (hs : St W w own) (hi : i ≠ 0) :
    e = .returned r ∧ ∃ own', RO w' own' i g d' ks ∧ Step W w w' own own' i := by
  obtain ⟨rfl, hn, hf⟩ := hp
  obtain ⟨own', h1, h2⟩ := hs.step hi hf
  exact ⟨rfl, own', ⟨B, c, hn.more (fun k hk => (h2 k).2 hk) (h1.st.lt hi), hk.step h1 hi, hb⟩, h1⟩
theorem RO.alloc (h : RO w own i g d ks) (o : Obj) : RO (w.alloc o) own i g d ks := h.fr0 ((Fr.refl (fun _ => False) w).alloc o)
theorem RO.drewN (h : RO w own i g d ks) (n : Nat) : RO (w.drewN n) own i g d ks := h.fr0 ((Fr.refl (fun _ => False) w).drewN n)
theorem RO.lt (h : RO w own i g d ks) : g < w.heap.size := by obtain ⟨B, c, h1, h2, h3⟩ := h; exact h1.lt g h1.own
theorem RO.inv (h : RO w own i g d ks) : DInv d := by obtain ⟨B, c, h1, h2, h3⟩ := h; exact h1.inv
def RRes (W w : World) (own : Nat → Nat) (i g : Nat) (r : Value) (d : DS) (ks : List Int) (e : Ending) (w' : World) : Prop :=
  e = .returned r ∧ ∃ own', RO w' own' i g d ks ∧ Step W w w' own own' i
variable (hd : RO w own i g d ks) (hs : St W w own) (hi : i ≠ 0)
include hd hs hi
theorem r_write (f a : Int) (s : ByteArray) (hz : s.size ≤ 1000000000) : Calls Tryd.prog 12 #[.pointer (some ⟨g, 0, none⟩), .int .i64 f, .int .i64 a, .string s] w (RRes W w own i g (.int .i64 (writeE d f a s)) (writeD d ks f a s) ks) := by
  obtain ⟨B, c, h1, h2, h3⟩ := hd
  exact (rwrite_any g d B c ks f a s hz w _ h1 (h2.for_ hi) h3).mono fun e w' hp => RO.mine hp h2 h3 hs hi
theorem r_sync (f : Int) : Calls Tryd.prog 45 #[.pointer (some ⟨g, 0, none⟩), .int .i64 f] w (RRes W w own i g (.int .i64 (syncE d ks f)) (syncD d ks f) ks) := by
  obtain ⟨B, c, h1, h2, h3⟩ := hd
  exact (rsync_any g d B c ks f w _ h1 (h2.for_ hi) h3).mono fun e w' hp => RO.mine hp h2 h3 hs hi
theorem r_lose (n : Int) (hn : n ≤ 9223372036854775807) : Calls Tryd.prog 26 #[.pointer (some ⟨g, 0, none⟩), .int .i64 n] w (RRes W w own i g (.tuple #[]) (loseD d n) ks) := by
  obtain ⟨B, c, h1, h2, h3⟩ := hd
  exact (rlose_any g d _ n hn w _ h1).mono fun e w' hp => RO.mine hp h2 h3 hs hi
theorem r_start : Calls Tryd.prog 29 #[.pointer (some ⟨g, 0, none⟩)] w (RRes W w own i g (.tuple #[]) (startD d) ks) := by
  obtain ⟨B, c, h1, h2, h3⟩ := hd
  exact (rstart_any g d _ w _ h1).mono fun e w' hp => RO.mine hp h2 h3 hs hi
theorem r_crash (A : Option Addr) (c : Nat) (hk : KeepAt w (fun k => own k ≠ 0) A ks') (hb : ks'.length ≤ 1000000) : Calls Tryd.prog 28 #[.pointer (some ⟨g, 0, none⟩), .slice A ks'.length c] w (RRes W w own i g (.tuple #[]) (crashD d ks') ks) := by
  obtain ⟨B, c', h1, h2, h3⟩ := hd
  exact (rcrash_any g d _ A c ks' w _ h1 (hk.for_ hi) hb).mono fun e w' hp => RO.mine hp h2 h3 hs hi
theorem r_arm (n : Int) (hn : n ≤ 9223372036854775807) (A : Option Addr) (c : Nat) (hk : KeepAt w (fun k => own k ≠ 0) A ks') (hb : ks'.length ≤ 1000000) : Calls Tryd.prog 27 #[.pointer (some ⟨g, 0, none⟩), .int .i64 n, .slice A ks'.length c] w (RRes W w own i g (.tuple #[]) (armD d n) ks') := by
  obtain ⟨B, c', h1, h2, h3⟩ := hd
  refine (rarm_any g d _ n hn A c ks' w _ h1 (hk.for_ hi) hb).mono ?_
  rintro e w' ⟨rfl, B', c'', hD, hK, hf, hnew⟩
  have hst : St W w' own := ⟨hs.low, fun k hk => hs.hi k (by have := hf.size; omega), hs.fr.trans (hf.below hs.le fun k hk => by
    rcases Nat.lt_or_ge k W.heap.size with h | h
    · have h0 := hs.low k h
      have h4 : own k = i := hk
      omega
    · exact h)⟩
  refine ⟨rfl, own, ⟨B', c'', hD, ?_, hb⟩, ⟨hs, hst, fun _ _ => rfl, fun k hk => .inr (hs.hi k hk), hf⟩⟩
  intro k p hk
  obtain ⟨b, o, hB, hlt, -, hc⟩ := hK k p hk
  refine ⟨b, o, hB, hlt, fun hn => hn ?_, hc⟩
  exact hs.hi b (hnew _ hB)
omit hs hi
theorem r_size (f : Int) : Calls Tryd.prog 33 #[.pointer (some ⟨g, 0, none⟩), .int .i64 f] w fun e w' => e = .returned (.int .i64 (d.fs f).now.size) ∧ Fr (fun _ => False) w w' := by
  obtain ⟨B, c, h1, h2, h3⟩ := hd
  exact rsize_any g d _ f w _ h1
theorem r_read (f a n : Int) (hn : n ≤ 9223372036854775807) : Calls Tryd.prog 32 #[.pointer (some ⟨g, 0, none⟩), .int .i64 f, .int .i64 a, .int .i64 n] w fun e w' => e = .returned (.tuple #[.string (readS d f a n), .int .i64 (readE d f a n)]) ∧ Fr (fun _ => False) w w' := by
  obtain ⟨B, c, h1, h2, h3⟩ := hd
  exact rread_any g d _ f a n hn w _ h1
end
theorem r_new {W w : World} {own : Nat → Nat} {i : Nat} (hs : St W w own) (hi : i ≠ 0) : Calls Tryd.prog 10 #[] w fun e w' => ∃ g, e = .returned (.pointer (some ⟨g, 0, none⟩)) ∧ ∃ own', RO w' own' i g ds0 [] ∧ Step W w w' own own' i := by
  refine (rnew_any w).mono ?_
  rintro e w' ⟨rfl, rfl⟩
  obtain ⟨own', h1, h2⟩ := hs.step hi ((Fr.refl (fun k => own k = i) w).alloc (.cells #[.slice none 0 0, .slice none 0 0, .int .i64 0, .bool false, .int .i64 0, .slice none 0 0] 65))
  refine ⟨_, rfl, own', ⟨none, 0, (rnew_at w).more (fun k hk => (h2 k).2 (.inr (by subst hk; exact ⟨Nat.le_refl _, by simp⟩))) (h1.st.lt hi), KeepAt.nil _ _ _, by simp⟩, h1⟩
end Go.Proofs.YtjgmbildgcighaaDoor
