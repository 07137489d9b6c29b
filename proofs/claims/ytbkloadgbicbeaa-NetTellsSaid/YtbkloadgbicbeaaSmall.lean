import Derived.Test.YtbkloadgbicbeaaFew
namespace Go.Proofs.Ytbkloadgbicbeaa
open Go.RowKit

/-- The state of a law on its way: W is the world of its beginning; 'own k' numbers the object that block k belongs to (0: none: an argument's, or a variable of the law's own). -/
structure St (W w : World) (own : Nat → Nat) : Prop where
  low : ∀ k, k < W.heap.size → own k = 0
  hi : ∀ k, w.heap.size ≤ k → own k = 0
  fr : Below W.heap.size W w

/-- From w to w' only object i, and what is new, has turned; new blocks belong to it, or to none. -/
structure Step (W w w' : World) (own own' : Nat → Nat) (i : Nat) : Prop where
  st0 : St W w own
  st : St W w' own'
  same : ∀ k, k < w.heap.size → own' k = own k
  new : ∀ k, w.heap.size ≤ k → own' k = i ∨ own' k = 0
  fr : Fr (fun k => own k = i) w w'

section
variable {W w w' : World} {own own' : Nat → Nat} {i j : Nat} {F : Nat → Prop}
theorem St.start (W : World) : St W W (fun _ => 0) := ⟨fun _ _ => rfl, fun _ _ => rfl, Below.refl _ _⟩
theorem St.lt (h : St W w own) (hi : i ≠ 0) : ∀ k, own k = i → k < w.heap.size := fun k hk => by
  rcases Nat.lt_or_ge k w.heap.size with h' | h'
  · exact h'
  · have := h.hi k h'; omega
theorem St.le (h : St W w own) : W.heap.size ≤ w.heap.size := h.fr.size
theorem St.alloc (h : St W w own) (o : Obj) : St W (w.alloc o) own := ⟨h.low, fun k hk => h.hi k (by simp at hk; omega), h.fr.alloc h.le o⟩
theorem St.drewN (h : St W w own) (n : Nat) : St W (w.drewN n) own := ⟨h.low, h.hi, (Below.trans h.fr ⟨rfl, rfl, rfl, Nat.le_refl _, fun _ _ => rfl⟩)⟩
theorem St.fr0 (h : St W w own) (hf : Fr F w w') (hF : ∀ k, F k → W.heap.size ≤ k) (hsz : w'.heap.size = w.heap.size) : St W w' own :=
  ⟨h.low, fun k hk => h.hi k (by omega), h.fr.trans (hf.below h.le hF)⟩
theorem St.step (h : St W w own) (hi : i ≠ 0) (hf : Fr (fun k => own k = i) w w') : ∃ own', Step W w w' own own' i ∧ ∀ k, own' k = i ↔ (own k = i ∨ (w.heap.size ≤ k ∧ k < w'.heap.size)) := by
  refine ⟨fun k => if w.heap.size ≤ k ∧ k < w'.heap.size then i else own k, ⟨h, ⟨fun k hk => ?_, fun k hk => ?_, h.fr.trans (hf.below h.le fun k hk => ?_)⟩, fun k hk => ?_, fun k hk => ?_, hf⟩, fun k => ?_⟩
  · have := h.le
    rw [if_neg (by omega)]; exact h.low k hk
  · have := hf.size
    rw [if_neg (by omega)]; exact h.hi k (by omega)
  · rcases Nat.lt_or_ge k W.heap.size with h' | h'
    · have := h.low k h'
      omega
    · exact h'
  · rw [if_neg (by omega)]
  · split
    · exact .inl rfl
    · exact .inr (h.hi k hk)
  · show (if w.heap.size ≤ k ∧ k < w'.heap.size then i else own k) = i ↔ _
    split
    · simp_all
    · rename_i hk
      exact ⟨.inl, fun h => h.elim id fun h => absurd h hk⟩
theorem Step.lt (h : Step W w w' own own' i) (hj : j ≠ 0) {k : Nat} (hk : own k = j) : own' k = j := by rw [h.same k (h.st0.lt hj k hk)]; exact hk
theorem Step.size (h : Step W w w' own own' i) : w.heap.size ≤ w'.heap.size := h.fr.size
variable {ty : TypeId} {g : Nat} {ps : List Pkt} {s : Int} {r : Value} {e : Ending}
/-- A method of object i, on that object. -/
theorem NetPost.mine (hp : NetPost w (fun k => own k = i) ty g r ps s e w') (h : St W w own) (hi : i ≠ 0) : e = .returned r ∧ ∃ own', NetAt w' (fun k => own' k = i) ty g ps s ∧ Step W w w' own own' i := by
  obtain ⟨rfl, hn, hf⟩ := hp
  obtain ⟨own', hs, hi'⟩ := h.step hi hf
  exact ⟨rfl, own', hn.more (fun k hk => (hi' k).2 hk) (hs.st.lt hi), hs⟩
/-- Another object stays. -/
theorem NetAt.other (hn : NetAt w (fun k => own k = j) ty g ps s) (h : Step W w w' own own' i) (hj : j ≠ 0) (hij : j ≠ i) : NetAt w' (fun k => own' k = j) ty g ps s :=
  (hn.keep h.fr fun k hk hk' => by omega).more (fun k hk => h.lt hj hk) (h.st.lt hj)
theorem Blk.other {t : TypeId} {cs : Array Value} (hb : Blk w g t cs) (h : Step W w w' own own' i) (hij : own g ≠ i) : Blk w' g t cs ∧ own' g = own g := ⟨hb.keep h.fr hij, h.same g hb.lt⟩
theorem NetPost.is {r' : Value} {ps' : List Pkt} {s' : Int} (h : NetPost w F ty g r ps s e w') (hr : r = r') (hp : ps = ps') (hs : s = s') : NetPost w F ty g r' ps' s' e w' := by subst hr hp hs; exact h
theorem St.new (h : St W w own) (o : Obj) (hi : i ≠ 0) : ∃ own', Step W w (w.alloc o) own own' i ∧ own' w.heap.size = i := by
  obtain ⟨own', h1, h2⟩ := h.step hi (w' := w.alloc o) ((Fr.refl _ _).alloc o)
  exact ⟨own', h1, (h2 _).2 (.inr ⟨Nat.le_refl _, by simp⟩)⟩
theorem new_own (h : St W w own) (hi : i ≠ 0) : ∃ own', NetAt (w.alloc (.cells #[.slice none 0 0, .int .i64 0] 56)) (fun k => own' k = i) 56 w.heap.size [] 0 ∧ Step W w (w.alloc (.cells #[.slice none 0 0, .int .i64 0] 56)) own own' i := by
  obtain ⟨own', h1, h2⟩ := h.new (.cells #[.slice none 0 0, .int .i64 0] 56) hi
  exact ⟨own', (new_net w).more (fun k hk => by rw [hk]; exact h2) (h1.st.lt hi), h1⟩
/-- A new block of the law's own. -/
theorem St.box (h : St W w own) (cs : Array Value) (t : TypeId) : Blk (w.alloc (.cells cs t)) w.heap.size t cs ∧ own w.heap.size = 0 ∧ St W (w.alloc (.cells cs t)) own := ⟨Blk.new w t cs, h.hi _ (Nat.le_refl _), h.alloc _⟩
end

theorem ev1 : sendE [] 0 0 1 = 0 := by decide
theorem ev2 : sendE [⟨0, 1, ⟨#[97]⟩⟩] 0 0 2 = 0 := by decide
theorem ev3 : maskOf 1 = 1 := by decide
theorem ev4 : maskOf 3 = 3 := by decide
theorem ev5 : hearB 0 0 2 = true := by decide
theorem ev6 : hearB 0 0 1 = true := by decide
theorem ev7 : hearB 1 0 1 = false := by decide
theorem ev8 : hearB 3 0 1 = true := by decide
theorem ev9 : hearB 3 1 2 = false := by decide
theorem ev10 : sendE [] 3 0 1 = 0 := by decide
theorem ev11 : sendE [⟨0, 1, ⟨#[97]⟩⟩] 3 1 2 = 10 := by decide

set_option maxRecDepth 100000 in
set_option maxHeartbeats 1600000 in
theorem small_any (w : World) : Calls Try.prog 7 #[] w fun e w' => e = .returned (.bool true) ∧ Below w.heap.size w w' := by
  go_enter Try.func7, Try.ntmps7
  go_wp2_with fail
  refine (new_any _).mono ?_
  rintro e w1 ⟨rfl, hw1⟩
  obtain ⟨o1, n1, p1⟩ := new_own (St.start w) (i := 1) (by decide)
  rw [← hw1] at n1 p1
  clear hw1
  generalize w.heap.size = gn at n1
  go_wp2_with fail
  refine (new_any _).mono ?_
  rintro e w2 ⟨rfl, hw2⟩
  obtain ⟨o2, m2, p2⟩ := new_own p1.st (i := 2) (by decide)
  rw [← hw2] at m2 p2
  have n2 := n1.other p2 (by decide) (by decide)
  clear hw2 n1 p1
  generalize w1.heap.size = gm at m2
  go_wp2_with fail
  refine (send_any gn [] 0 0 1 ⟨#[97]⟩ _ _ n2).mono ?_
  intro e w3 hp
  obtain ⟨rfl, o3, n3, p3⟩ := (hp.is (r' := .int .i64 0) (ps' := [⟨0, 1, ⟨#[97]⟩⟩]) (by rw [ev1]) (by simp [sendL, ev1]) rfl).mine p2.st (by decide)
  have m3 := m2.other p3 (by decide) (by decide)
  clear hp n2 m2 p2
  go_wp2_with fail
  refine (send_any gn _ 0 0 2 ⟨#[98]⟩ _ _ n3).mono ?_
  intro e w4 hp
  obtain ⟨rfl, o4, n4, p4⟩ := (hp.is (r' := .int .i64 0) (ps' := [⟨0, 1, ⟨#[97]⟩⟩, ⟨0, 2, ⟨#[98]⟩⟩]) (by rw [ev2]) (by simp [sendL, ev2]) rfl).mine p3.st (by decide)
  have m4 := m3.other p4 (by decide) (by decide)
  clear hp n3 m3 p3
  go_wp2_with fail
  refine (deliver_any gn _ 0 1 _ _ n4).mono ?_
  intro e w5 hp
  obtain ⟨rfl, o5, n5, p5⟩ := (hp.is (r' := .tuple #[.agg #[.int .i64 0, .int .i64 2, .string ⟨#[98]⟩], .int .i64 0]) (ps' := [⟨0, 1, ⟨#[97]⟩⟩]) (by simp [delP, delE, at?, ev5, Pkt.agg]) rfl rfl).mine p4.st (by decide)
  have m5 := m4.other p5 (by decide) (by decide)
  clear hp n4 m4 p4
  go_wp2_with fail
  obtain ⟨bx, ox, s5⟩ := p5.st.box #[.int .i64 0, .int .i64 2, .string ⟨#[98]⟩] 34
  replace n5 := n5.alloc (.cells #[.int .i64 0, .int .i64 2, .string ⟨#[98]⟩] 34)
  replace m5 := m5.alloc (.cells #[.int .i64 0, .int .i64 2, .string ⟨#[98]⟩] 34)
  clear p5
  generalize w5.alloc (.cells #[.int .i64 0, .int .i64 2, .string ⟨#[98]⟩] 34) = w5b at *
  generalize w5.heap.size = x at *
  refine (deliver_any gn _ 0 0 _ _ n5).mono ?_
  intro e w6 hp
  obtain ⟨rfl, o6, n6, p6⟩ := (hp.is (r' := .tuple #[.agg #[.int .i64 0, .int .i64 1, .string ⟨#[97]⟩], .int .i64 0]) (ps' := []) (by simp [delP, delE, at?, ev6, Pkt.agg]) rfl rfl).mine s5 (by decide)
  have m6 := m5.other p6 (by decide) (by decide)
  obtain ⟨bx6, ox6⟩ := bx.other p6 (by omega)
  rw [ox] at ox6
  clear hp n5 m5 s5 bx ox
  go_wp2_with fail
  obtain ⟨by6, oy6, s6⟩ := p6.st.box #[.int .i64 0, .int .i64 1, .string ⟨#[97]⟩] 34
  replace n6 := n6.alloc (.cells #[.int .i64 0, .int .i64 1, .string ⟨#[97]⟩] 34)
  replace m6 := m6.alloc (.cells #[.int .i64 0, .int .i64 1, .string ⟨#[97]⟩] 34)
  replace bx6 := bx6.alloc (.cells #[.int .i64 0, .int .i64 1, .string ⟨#[97]⟩] 34)
  clear p6
  generalize w6.alloc (.cells #[.int .i64 0, .int .i64 1, .string ⟨#[97]⟩] 34) = w6b at *
  generalize w6.heap.size = y at *
  refine (send_any gm [] 0 0 1 ⟨#[97]⟩ _ _ m6).mono ?_
  intro e w7 hp
  obtain ⟨rfl, o7, m7, p7⟩ := (hp.is (r' := .int .i64 0) (ps' := [⟨0, 1, ⟨#[97]⟩⟩]) (by rw [ev1]) (by simp [sendL, ev1]) rfl).mine s6 (by decide)
  obtain ⟨bx7, ox7⟩ := bx6.other p7 (by omega)
  obtain ⟨by7, oy7⟩ := by6.other p7 (by omega)
  rw [ox6] at ox7
  rw [oy6] at oy7
  clear hp n6 m6 s6 bx6 by6 ox6 oy6
  go_wp2_with fail
  refine (split_any gm _ _ 1 _ _ m7).mono ?_
  intro e w8 hp
  obtain ⟨rfl, o8, m8, p8⟩ := (hp.is rfl rfl ev3).mine p7.st (by decide)
  obtain ⟨bx8, ox8⟩ := bx7.other p8 (by omega)
  obtain ⟨by8, oy8⟩ := by7.other p8 (by omega)
  rw [ox7] at ox8
  rw [oy7] at oy8
  clear hp m7 p7 bx7 by7 ox7 oy7
  go_wp2_with fail
  refine (deliver_any gm _ _ 0 _ _ m8).mono ?_
  intro e w9 hp
  obtain ⟨rfl, o9, m9, p9⟩ := (hp.is (r' := .tuple #[.agg #[.int .i64 0, .int .i64 0, .string ⟨#[]⟩], .int .i64 10]) (ps' := []) (by simp [delP, delE, at?, ev7, Pkt.agg, pkt0]) rfl rfl).mine p8.st (by decide)
  obtain ⟨bx9, ox9⟩ := bx8.other p9 (by omega)
  obtain ⟨by9, oy9⟩ := by8.other p9 (by omega)
  rw [ox8] at ox9
  rw [oy8] at oy9
  clear hp m8 p8 bx8 by8 ox8 oy8
  go_wp2_with fail
  have s9 := p9.st.alloc (.cells #[.int .i64 0, .int .i64 0, .string ⟨#[]⟩] 34)
  replace m9 := m9.alloc (.cells #[.int .i64 0, .int .i64 0, .string ⟨#[]⟩] 34)
  replace bx9 := bx9.alloc (.cells #[.int .i64 0, .int .i64 0, .string ⟨#[]⟩] 34)
  replace by9 := by9.alloc (.cells #[.int .i64 0, .int .i64 0, .string ⟨#[]⟩] 34)
  clear p9
  generalize w9.alloc (.cells #[.int .i64 0, .int .i64 0, .string ⟨#[]⟩] 34) = w9b at *
  generalize w9.heap.size = z at *
  refine (count_any gm _ _ _ _ m9).mono ?_
  rintro e wx ⟨rfl, rfl⟩
  go_wp2_with fail
  refine (split_any gm _ _ 3 _ _ m9).mono ?_
  intro e w10 hp
  obtain ⟨rfl, o10, m10, p10⟩ := (hp.is rfl rfl ev4).mine s9 (by decide)
  obtain ⟨bx10, ox10⟩ := bx9.other p10 (by omega)
  obtain ⟨by10, oy10⟩ := by9.other p10 (by omega)
  rw [ox9] at ox10
  rw [oy9] at oy10
  clear hp m9 s9 bx9 by9 ox9 oy9
  go_wp2_with fail
  refine (send_any gm [] _ 0 1 ⟨#[97]⟩ _ _ m10).mono ?_
  intro e w11 hp
  obtain ⟨rfl, o11, m11, p11⟩ := (hp.is (r' := .int .i64 0) (ps' := [⟨0, 1, ⟨#[97]⟩⟩]) (by rw [ev10]) (by simp [sendL, ev10]) rfl).mine p10.st (by decide)
  obtain ⟨bx11, ox11⟩ := bx10.other p11 (by omega)
  obtain ⟨by11, oy11⟩ := by10.other p11 (by omega)
  rw [ox10] at ox11
  rw [oy10] at oy11
  clear hp m10 p10 bx10 by10 ox10 oy10
  go_wp2_with fail
  refine (send_any gm _ _ 1 2 ⟨#[98]⟩ _ _ m11).mono ?_
  intro e w12 hp
  obtain ⟨rfl, o12, m12, p12⟩ := (hp.is (r' := .int .i64 10) (ps' := [⟨0, 1, ⟨#[97]⟩⟩]) (by rw [ev11]) (by simp [sendL, ev11]) rfl).mine p11.st (by decide)
  obtain ⟨bx12, ox12⟩ := bx11.other p12 (by omega)
  obtain ⟨by12, oy12⟩ := by11.other p12 (by omega)
  clear hp m11 p11 bx11 by11 ox11 oy11 ox12 oy12
  have x0 : w12.cell? ⟨x, 0, none⟩ = some (.int .i64 0) := bx12.cell 0
  have x1 : w12.cell? ⟨x, 1, none⟩ = some (.int .i64 2) := bx12.cell 1
  have x2 : w12.cell? ⟨x, 2, none⟩ = some (.string ⟨#[98]⟩) := bx12.cell 2
  have y1 : w12.cell? ⟨y, 1, none⟩ = some (.int .i64 1) := by12.cell 1
  have y2 : w12.cell? ⟨y, 2, none⟩ = some (.string ⟨#[97]⟩) := by12.cell 2
  have hm1 := m12.c1
  have HB := Lib.hid p12.st.fr
  clear bx12 by12 p12 m12
  go_wp2_with fail
  refine (hear_is gm 3 0 1 true _ hm1 ev8).mono ?_
  rintro e w13 ⟨rfl, n, rfl⟩
  go_wp2_with fail
  refine (hear_is gm 3 1 2 false (w12.drewN n) hm1 ev9).mono ?_
  rintro e w14 ⟨rfl, n', rfl⟩
  go_wp2_with fail
  go_ret
  exact ⟨rfl, Below.trans (Below.trans HB.out ⟨rfl, rfl, rfl, Nat.le_refl _, fun _ _ => rfl⟩) ⟨rfl, rfl, rfl, Nat.le_refl _, fun _ _ => rfl⟩⟩
end Go.Proofs.Ytbkloadgbicbeaa
