import Derived.Test.YtbkloadgbicbeaaCount
namespace Go.Proofs.Ytbkloadgbicbeaa
open Go.RowKit

/-! The plain law of NetHonest. -/
def HonInv (ps gs ms : List Pkt) : Prop := ∀ q, cnt gs q + cnt ps q ≤ cnt ms q
theorem cnt_cut (ps : List Pkt) (i : Int) (q : Pkt) : cnt (cut ps i) q ≤ cnt ps q := by
  unfold cut
  split
  · exact Nat.le_refl _
  · exact (List.eraseIdx_sublist ps i.toNat).countP_le
theorem cnt_cut_some {ps : List Pkt} {i : Int} {p : Pkt} (h : at? ps i = some p) (q : Pkt) : cnt (cut ps i) q + cnt [p] q = cnt ps q := by
  obtain ⟨k, rfl, hk, hc⟩ := at?_some h
  obtain ⟨hlt, rfl⟩ := List.getElem?_eq_some_iff.1 hk
  rw [hc, List.eraseIdx_eq_take_drop_succ, cnt_append]
  have h1 : ps = ps.take k ++ ([ps[k]] ++ ps.drop (k + 1)) := by
    rw [List.singleton_append, List.getElem_cons_drop, List.take_append_drop]
  have h2 : cnt ps q = cnt (ps.take k) q + (cnt [ps[k]] q + cnt (ps.drop (k + 1)) q) := by
    conv => lhs; rw [h1]
    rw [cnt_append, cnt_append]
  omega
theorem len_cut (ps : List Pkt) (i : Int) : (cut ps i).length ≤ ps.length := by
  unfold cut
  split
  · exact Nat.le_refl _
  · exact (List.eraseIdx_sublist ps i.toNat).length_le
theorem len_doL (ps : List Pkt) (s : Int) (op : OpV) : (doL ps s op).length ≤ ps.length + 1 := by
  have h1 := len_cut ps op.n
  have h2 : (dblL ps op.n).length ≤ ps.length + 1 := by
    unfold dblL; split
    · omega
    · split
      · omega
      · simp
  have h3 : (sendL ps s op.n op.t op.s).length ≤ ps.length + 1 := by
    unfold sendL; split
    · simp
    · omega
  unfold doL
  repeat' split
  all_goals omega
/-- An answer that is not OK comes without a packet, and makes nothing. -/
theorem do_bad {ps gs ms : List Pkt} {s : Int} {op : OpV} (hi : HonInv ps gs ms) (h : doE ps s op ≠ 0) : doP ps s op = pkt0 ∧ HonInv (doL ps s op) gs ms := by
  have hsub : ∀ qs : List Pkt, (∀ q, cnt qs q ≤ cnt ps q) → HonInv qs gs ms := fun qs hq q => by have := hi q; have := hq q; omega
  unfold doE at h
  unfold doP doL
  by_cases h3 : kindOf op = 3
  · rw [if_pos h3] at h
    rw [if_pos h3, if_pos h3]
    refine ⟨?_, hsub _ (cnt_cut ps op.n)⟩
    unfold delE at h
    unfold delP
    split
    · rfl
    · rename_i p hp
      rw [hp] at h
      dsimp only at h
      split
      · rename_i hh; simp [hh] at h
      · rfl
  rw [if_neg h3] at h
  rw [if_neg h3, if_neg h3]
  refine ⟨rfl, hsub _ fun q => ?_⟩
  by_cases h4 : kindOf op = 4
  · rw [if_pos h4]; exact cnt_cut ps op.n q
  rw [if_neg h4] at h ⊢
  by_cases h5 : kindOf op = 5
  · rw [if_pos h5] at h ⊢
    unfold dblE at h
    unfold dblL
    split
    · exact Nat.le_refl _
    · rename_i p hp
      rw [hp] at h
      dsimp only at h
      split
      · exact Nat.le_refl _
      · rename_i hh; simp [hh] at h
  rw [if_neg h5] at h ⊢
  by_cases h6 : kindOf op = 6
  · rw [if_pos h6]; exact Nat.le_refl _
  rw [if_neg h6] at h ⊢
  by_cases h7 : kindOf op = 7
  · rw [if_pos h7]; exact Nat.le_refl _
  rw [if_neg h7] at h ⊢
  unfold sendL
  rw [if_neg h]
  exact Nat.le_refl _
theorem do_good3 {ps gs ms : List Pkt} {s : Int} {op : OpV} (hi : HonInv ps gs ms) (h : doE ps s op = 0) (hk : kindOf op = 3) :
    hearB s (doP ps s op).f (doP ps s op).t = true ∧ doS s op = s ∧ HonInv (doL ps s op) (gs ++ [doP ps s op]) ms := by
  unfold doE at h
  unfold doP doL doS
  rw [if_pos hk] at h
  rw [if_pos hk, if_pos hk, if_neg (by omega), if_neg (by omega)]
  unfold delE at h
  cases hp : at? ps op.n with
  | none => simp [hp] at h
  | some p =>
    simp only [hp] at h
    have hh : hearB s p.f p.t = true := by
      cases hh : hearB s p.f p.t
      · simp [hh] at h
      · rfl
    have hP : delP ps s op.n = p := by simp [delP, hp, hh]
    rw [hP]
    refine ⟨hh, rfl, fun q => ?_⟩
    have := cnt_cut_some hp q
    have := hi q
    rw [cnt_append]; omega
theorem do_good5 {ps gs ms : List Pkt} {s : Int} {op : OpV} (hi : HonInv ps gs ms) (h : doE ps s op = 0) (hk : kindOf op = 5) :
    ∃ (k : Nat) (p : Pkt), op.n = k ∧ ps[k]? = some p ∧ HonInv (doL ps s op) gs (ms ++ [p]) := by
  unfold doE at h
  unfold doL
  rw [if_neg (by omega), if_neg (by omega), if_pos hk] at h
  rw [if_neg (by omega), if_neg (by omega), if_pos hk]
  unfold dblE at h
  cases hp : at? ps op.n with
  | none => simp [hp] at h
  | some p =>
    obtain ⟨k, hk1, hk2, -⟩ := at?_some hp
    refine ⟨k, p, hk1, hk2, fun q => ?_⟩
    have h1 : dblL ps op.n = ps ∨ dblL ps op.n = ps ++ [p] := by
      simp only [dblL, hp]
      split
      · exact .inl rfl
      · exact .inr rfl
    have := hi q
    rw [cnt_append]
    rcases h1 with h1 | h1 <;> rw [h1]
    · omega
    · rw [cnt_append]; omega
theorem do_goodS {ps gs ms : List Pkt} {s : Int} {op : OpV} (hi : HonInv ps gs ms) (h : doE ps s op = 0) (hk : kindOf op = 0 ∨ kindOf op = 1 ∨ kindOf op = 2) :
    hearB s op.n op.t = true ∧ (op.n == op.t) = false ∧ doS s op = s ∧ HonInv (doL ps s op) gs (ms ++ [⟨op.n, op.t, op.s⟩]) := by
  unfold doE at h
  unfold doL doS
  rw [if_neg (by omega), if_neg (by omega), if_neg (by omega), if_neg (by omega), if_neg (by omega)] at h
  rw [if_neg (by omega), if_neg (by omega), if_neg (by omega), if_neg (by omega), if_neg (by omega), if_neg (by omega), if_neg (by omega)]
  have hs : sendL ps s op.n op.t op.s = ps ++ [⟨op.n, op.t, op.s⟩] := by rw [sendL, if_pos h]
  unfold sendE at h
  cases h1 : (!endB op.n || !endB op.t || op.n == op.t)
  · rw [h1] at h
    simp only [Bool.false_eq_true, if_false] at h
    cases h2 : hearB s op.n op.t
    · rw [h2] at h; simp at h
    · refine ⟨rfl, ?_, rfl, fun q => ?_⟩
      · cases h3 : (op.n == op.t)
        · rfl
        · simp [h3] at h1
      · rw [hs, cnt_append, cnt_append]; have := hi q; omega
  · rw [h1] at h; simp at h
theorem do_good46 {ps gs ms : List Pkt} {s : Int} {op : OpV} (hi : HonInv ps gs ms) (hk : kindOf op = 4 ∨ kindOf op = 6 ∨ kindOf op = 7) : HonInv (doL ps s op) gs ms := by
  intro q
  have := hi q
  have := cnt_cut ps op.n q
  unfold doL
  repeat' split
  all_goals omega
theorem kind_cases (op : OpV) : kindOf op = 0 ∨ kindOf op = 1 ∨ kindOf op = 2 ∨ kindOf op = 3 ∨ kindOf op = 4 ∨ kindOf op = 5 ∨ kindOf op = 6 ∨ kindOf op = 7 := by
  unfold kindOf; rw [and7]; omega

/-! Memory. -/
theorem NewRow.mine {W w w' : World} {own : Nat → Nat} {ps : List Pkt} {e : Ending} {i : Nat} (h : NewRow w ps e w') (hs : St W w own) (hi : i ≠ 0) :
    ∃ v own', e = .returned v ∧ Row w' (fun k => own' k = i) 34 3 v ps.length (pcells ps) ∧ Step W w w' own own' i := by
  obtain ⟨v, rfl, hr, hf⟩ := h
  obtain ⟨own', h1, h2⟩ := hs.step hi (hf.mono (fun _ _ h => h.elim))
  exact ⟨v, own', rfl, hr.more fun k _ hk => (h2 k).2 (.inr hk), h1⟩

/-- The relation of the first loop. -/
def RelH (W : World) (gn k : Nat) (u v : Value) (wr : World) : Prop :=
  ∃ own ps ms gs s, St W wr own ∧ NetAt wr (fun b => own b = 1) 56 gn ps s ∧ Row wr (fun b => own b = 2) 34 3 u ms.length (pcells ms) ∧ Row wr (fun b => own b = 3) 34 3 v gs.length (pcells gs) ∧
    ms.length ≤ k ∧ gs.length ≤ k ∧ ps.length ≤ k ∧ HonInv ps gs ms

theorem count_held {w0 w : World} {F : Nat → Prop} {v : Value} {ps : List Pkt} {p : Pkt} (h : Row w0 F 34 3 v ps.length (pcells ps)) (hm : ps.length ≤ 1000000) (hf : Fr (fun _ => False) w0 w) :
    Calls Try.prog 20 #[v, .agg #[.int .i64 p.f, .int .i64 p.t, .string p.b]] w fun e w' => e = .returned (.int .i64 (cnt ps p)) ∧ Fr (fun _ => False) w0 w' :=
  (count_row (h.keep hf fun _ _ _ h => h) hm p).mono fun _ _ ⟨he, n, hw⟩ => ⟨he, by rw [hw]; exact (hf.alloc _).drewN n⟩
theorem rd_new3_at (w : World) (x y z : Value) (t : TypeId) (b : Nat) (hb : b = w.heap.size) : Rd (w.alloc (.cells #[x, y, z] t)) 3 (some ⟨b, 0, none⟩) 1 [x, y, z] := by
  subst hb; exact rd_new3 w x y z t
theorem honM {W w4 w6 w7 : World} {gn k : Nat} {own : Nat → Nat} {ps ms gs : List Pkt} {s : Int} {p : Pkt} {u v v' : Value} {o : Obj} (st : St W w4 own) (nt : NetAt w4 (fun b => own b = 1) 56 gn ps s)
    (rm : Row w4 (fun b => own b = 2) 34 3 u ms.length (pcells ms)) (rg : Row w4 (fun b => own b = 3) 34 3 v gs.length (pcells gs))
    (h6 : Row w6 (Grow (fun b => own b = 2) (w4.alloc o) w6) 34 3 v' (ms.length + 1) (pcells ms ++ pcells [p])) (hf : Fr (Own u) (w4.alloc o) w6)
    (lm : ms.length ≤ k) (lg : gs.length ≤ k) (lp : ps.length ≤ k + 1) (hi : HonInv ps gs (ms ++ [p])) (hw : w7 = w6) : RelH W gn (k + 1) v' v w7 := by
  subst hw
  obtain ⟨own', r, p'⟩ := (rm.alloc o).mine (st.alloc o) (by decide) h6 hf
  refine ⟨own', ps, ms ++ [p], gs, s, p'.st, (nt.alloc o).other p' (by decide) (by decide), ?_, (rg.alloc o).other p' (by decide) (by decide), by simp; omega, by omega, lp, hi⟩
  simpa [pcells_append] using r
theorem honG {W w4 w6 w7 : World} {gn k : Nat} {own : Nat → Nat} {ps ms gs : List Pkt} {s : Int} {p : Pkt} {u v v' : Value} {o : Obj} (st : St W w4 own) (nt : NetAt w4 (fun b => own b = 1) 56 gn ps s)
    (rm : Row w4 (fun b => own b = 2) 34 3 u ms.length (pcells ms)) (rg : Row w4 (fun b => own b = 3) 34 3 v gs.length (pcells gs))
    (h6 : Row w6 (Grow (fun b => own b = 3) (w4.alloc o) w6) 34 3 v' (gs.length + 1) (pcells gs ++ pcells [p])) (hf : Fr (Own v) (w4.alloc o) w6)
    (lm : ms.length ≤ k) (lg : gs.length ≤ k) (lp : ps.length ≤ k + 1) (hi : HonInv ps (gs ++ [p]) ms) (hw : w7 = w6) : RelH W gn (k + 1) u v' w7 := by
  subst hw
  obtain ⟨own', r, p'⟩ := (rg.alloc o).mine (st.alloc o) (by decide) h6 hf
  refine ⟨own', ps, ms, gs ++ [p], s, p'.st, (nt.alloc o).other p' (by decide) (by decide), (rm.alloc o).other p' (by decide) (by decide), ?_, by omega, by simp; omega, lp, hi⟩
  simpa [pcells_append] using r
/-- The list 'all' of the law's end. -/
theorem hon_all {W w1 w2 w3 w4 : World} {own : Nat → Nat} {gs ps ms : List Pkt} {u v1 v3 : Value} {n1 : Nat} {xs1 : List Value} (st : St W w1 own)
    (rm : Row w1 (fun b => own b = 2) 34 3 u ms.length (pcells ms))
    (r1 : Row w2 (Grow (fun b => b = w1.heap.size) (w1.alloc (.cells #[] 34)) w2) 34 3 v1 n1 xs1) (f1 : Fr (Own (.slice (some ⟨w1.heap.size, 0, none⟩) 0 0)) (w1.alloc (.cells #[] 34)) w2)
    (f2 : Fr (fun _ => False) w2 w3)
    (r3 : Row w4 (Grow (Grow (fun b => b = w1.heap.size) (w1.alloc (.cells #[] 34)) w2) w3 w4) 34 3 v3 (gs.length + ps.length) (pcells gs ++ pcells ps)) (f3 : Fr (Own v1) w3 w4) :
    Below W.heap.size W w4 ∧ Row w4 (fun b => own b = 2) 34 3 u ms.length (pcells ms) ∧ Row w4 (fun _ => True) 34 3 v3 (gs ++ ps).length (pcells (gs ++ ps)) := by
  have hs1 : w1.heap.size + 1 ≤ w2.heap.size := by simpa using f1.size
  have hf : Fr (fun _ => False) w1 w4 := by
    refine (((Fr.refl _ w1).alloc (.cells #[] 34)).trans' f1 fun i hi h => ?_).trans' ((f2.mono (T := fun k => w1.heap.size ≤ k) fun _ _ h => h.elim).trans' f3 fun i hi h => ?_) fun i hi h => ?_
    · have : w1.heap.size = i := by simpa [Own, Value.ownBlock] using h
      omega
    · rcases r1.2 i h with h | h
      · omega
      · simp at h; omega
    · omega
  refine ⟨st.fr.trans (hf.below st.le fun _ h => h.elim), rm.keep hf fun _ _ _ h => h, ?_⟩
  simp only [List.length_append, pcells_append]
  exact r3.more fun _ _ _ => trivial
end Go.Proofs.Ytbkloadgbicbeaa
