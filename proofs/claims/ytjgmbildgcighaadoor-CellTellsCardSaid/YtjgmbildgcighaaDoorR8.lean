import Derived.Test.YtjgmbildgcighaaDoorR7
namespace Go.Proofs.YtjgmbildgcighaaDoor
open Go.RowKit
theorem rcrash_any (g : Nat) (d : DS) (kv : Value) (A : Option Addr) (c : Nat) (ks : List Int) (w : World) (F : Nat → Prop) (h : RefAt w F g kv d) (hk : KeepAt w F A ks) (hb : ks.length ≤ 1000000) :
    Calls Tryd.prog 28 #[.pointer (some ⟨g, 0, none⟩), .slice A ks.length c] w (RPost w F g (.tuple #[]) kv (crashD d ks)) := by
  cases hdn : d.down
  · exact rcrash_up g d kv A c ks w F h hk hb hdn
  · have hend : Hid (RPost w F g (.tuple #[]) kv (crashD d ks) (.returned (.tuple #[])) w) := by
      have e : crashD d ks = d := by unfold crashD; rw [hdn]; rfl
      show RPost _ _ _ _ _ _ _ _
      rw [e]; exact h.same 0
    obtain ⟨fv, qv, L, h⟩ := h
    have c3 : w.cell? ⟨g, 3, none⟩ = some (.bool true) := by rw [← hdn]; exact h.blk.cell 3
    clear h hk hdn
    go_enter Tryd.func28, Tryd.ntmps28
    go_wp2_with fail
    go_end0
    exact hend.out

/-! Arm. -/
def RArmPost (w : World) (F : Nat → Prop) (g : Nat) (d : DS) (ks : List Int) (e : Ending) (w' : World) : Prop :=
  e = .returned (.tuple #[]) ∧ ∃ B c, RefAt w' F g (.slice B ks.length c) d ∧ KeepAt w' F B ks ∧ Fr F w w' ∧ ∀ ad, B = some ad → w.heap.size ≤ ad.block
theorem rarm_end {w w1 w2 : World} {F : Nat → Prop} {g : Nat} {kv : Value} {d : DS} {ks : List Int} {B : Option Addr} {c : Nat} {n : Int} {o : Obj} (h : RefAt w F g kv d) (hn : n ≤ 9223372036854775807) (hw1 : w1 = (w.setCell ⟨g, 4, none⟩ (.int .i64 (max n 0))).alloc o)
    (hr : Row w2 (Grow (fun k => k = w.heap.size) w1 w2) 3 1 (.slice B ks.length c) ks.length (intsV ks)) (hf : Fr (fun k => k = w.heap.size) w1 w2) :
    w2.cell? ⟨g, 5, none⟩ = some kv ∧ w2.frozen? ⟨g, 5, none⟩ = false ∧ g < w2.heap.size ∧ RArmPost w F g (armD d n) ks (.returned (.tuple #[])) (w2.setCell ⟨g, 5, none⟩ (.slice B ks.length c)) := by
  obtain ⟨fv, qv, L, h⟩ := h
  have hlg := h.lt g h.own
  have h1 := h.set_ (i := 4) (u := .int .i64 (max n 0)) (kv' := kv) (d' := armD d n) (h.inv.arm n hn) rfl rfl rfl
  have hs1 : w1.heap.size = w.heap.size + 1 := by rw [hw1]; simp [World.setCell]
  have h2 : RefX w1 F g kv (armD d n) fv qv L := by rw [hw1]; exact h1.alloc o
  have h3 := h2.keep hf fun k hk e => by have := h.lt k hk; omega
  have f1 : Fr F w w1 := by rw [hw1]; exact ((Fr.refl F w).setCell (fun _ => h.own) _).alloc o
  have s2 := hf.size
  have hnew : ∀ k, Grow (fun k => k = w.heap.size) w1 w2 k → w.heap.size ≤ k := fun k hk => by
    rcases hk with h | h
    · omega
    · omega
  refine ⟨h3.blk.cell 5, h3.blk.frozen 5, by omega, rfl, B, c, ⟨fv, qv, L, h3.set_ (h.inv.arm n hn) rfl rfl rfl⟩, ?_, ?_, ?_⟩
  · have hg : ∀ e, (Value.slice B ks.length c).ownBlock = some e → e ≠ g := fun e he heq => by
      have := hnew e (hr.2 e he)
      omega
    have hr2 : Row (w2.setCell ⟨g, 5, none⟩ (.slice B ks.length c)) (fun k => w.heap.size ≤ k) 3 1 (.slice B ks.length c) ks.length (intsV ks) := (hr.far (p := ⟨g, 5, none⟩) (fun e => hg _ e rfl) _).more fun k _ hk => hnew k hk
    exact row_keep hr2 fun k hk h4 hF => by have := h.lt k hF; omega
  · exact Fr.setCell (f1.trans' hf fun k hk e => by omega) (fun _ => h.own) _
  · intro ad had
    subst had
    exact hnew _ (hr.2 ad.block (by simp [Value.ownBlock]))
theorem rd_out {w : World} {F : Nat → Prop} {B : Option Addr} {ks : List Int} {g : Nat} (h : KeepAt w F B ks) (hg : F g) (i : Nat) (v : Value) (o : Obj) : Rd ((w.setCell ⟨g, i, none⟩ v).alloc o) 1 B ks.length (intsV ks) :=
  (h.fr (F' := F) (((Fr.refl (fun k => k = g) w).setCell (p := ⟨g, i, none⟩) (fun _ => rfl) v).alloc o) (fun k _ e => by subst e; exact hg) (fun _ _ h => h)).rd
set_option maxRecDepth 100000 in
set_option maxHeartbeats 800000 in
theorem rarm_any (g : Nat) (d : DS) (kv : Value) (n : Int) (hn : n ≤ 9223372036854775807) (A : Option Addr) (c : Nat) (ks : List Int) (w : World) (F : Nat → Prop) (h : RefAt w F g kv d) (hk : KeepAt w F A ks) (hb : ks.length ≤ 1000000) :
    Calls Tryd.prog 27 #[.pointer (some ⟨g, 0, none⟩), .int .i64 n, .slice A ks.length c] w (RArmPost w F g (armD d n) ks) := by
  have H := Lib.hid h
  have HK := Lib.hid hk
  obtain ⟨fv, qv, L, h⟩ := h
  have c4 : w.cell? ⟨g, 4, none⟩ = some (.int .i64 d.armed) := h.blk.cell 4
  have f4 : w.frozen? ⟨g, 4, none⟩ = false := h.blk.frozen 4
  have HO := Lib.hid h.own
  clear h hk
  by_cases hn0 : n < 0
  · have hmx : max n 0 = 0 := by omega
    have HEND : Hid (∀ B c' w2, Row w2 (Grow (fun k => k = w.heap.size) ((w.setCell ⟨g, 4, none⟩ (.int .i64 0)).alloc (.cells #[] 3)) w2) 3 1 (.slice B ks.length c') ks.length (intsV ks) → Fr (fun k => k = w.heap.size) ((w.setCell ⟨g, 4, none⟩ (.int .i64 0)).alloc (.cells #[] 3)) w2 →
        w2.cell? ⟨g, 5, none⟩ = some kv ∧ w2.frozen? ⟨g, 5, none⟩ = false ∧ g < w2.heap.size ∧ RArmPost w F g (armD d n) ks (.returned (.tuple #[])) (w2.setCell ⟨g, 5, none⟩ (.slice B ks.length c'))) :=
      fun B c' w2 h1 h2 => rarm_end H.out hn (by rw [hmx]) h1 h2
    clear hmx
    go_enter Tryd.func27, Tryd.ntmps27
    go_wp2_with (at_builtin; refine wpList_append_row _ rfl (.tmp 12) (.tmp 13) 39 rfl 3 _ 1 8 int_elem (fun k => k = w.heap.size) (.slice (some ⟨w.heap.size, 0, none⟩) 0 0) 0 [] rfl ?c0 _ ks.length c (intsV ks) rfl ?c1 (intsV_ok _) ?c2 ?_)
    case c0 =>
      refine ⟨⟨rfl, .inr ⟨w.heap.size, 0, #[], rfl, Nat.zero_le _, ?_, Nat.le_refl _, Nat.zero_le _, rfl, rfl⟩⟩, by simp [Value.ownBlock, eq_comm]⟩
      have hs : (w.setCell ⟨g, 4, none⟩ (.int .i64 0)).heap.size = w.heap.size := by simp [World.setCell]
      have := Blk.new (w.setCell ⟨g, 4, none⟩ (.int .i64 0)) 3 #[]
      rw [hs] at this
      exact this
    case c1 => exact rd_out HK.out HO.out _ _ _
    case c2 => omega
    intro v' w2 hrow2 hfr2
    obtain ⟨A2, cc2, hv2, -, -⟩ := hrow2.form
    subst hv2
    obtain ⟨e0, e1, e2, hend⟩ := HEND.out A2 cc2 w2 (by simpa using hrow2) (hfr2.mono fun k _ hk => by simpa [Own, Value.ownBlock, eq_comm] using hk)
    have HE := Lib.hid hend
    clear hrow2 hfr2 hend HEND
    go_wp2_with fail
    go_end0
    exact HE.out
  · have hmx : max n 0 = n := by omega
    have HEND : Hid (∀ B c' w2, Row w2 (Grow (fun k => k = w.heap.size) ((w.setCell ⟨g, 4, none⟩ (.int .i64 n)).alloc (.cells #[] 3)) w2) 3 1 (.slice B ks.length c') ks.length (intsV ks) → Fr (fun k => k = w.heap.size) ((w.setCell ⟨g, 4, none⟩ (.int .i64 n)).alloc (.cells #[] 3)) w2 →
        w2.cell? ⟨g, 5, none⟩ = some kv ∧ w2.frozen? ⟨g, 5, none⟩ = false ∧ g < w2.heap.size ∧ RArmPost w F g (armD d n) ks (.returned (.tuple #[])) (w2.setCell ⟨g, 5, none⟩ (.slice B ks.length c'))) :=
      fun B c' w2 h1 h2 => rarm_end H.out hn (by rw [hmx]) h1 h2
    clear hmx
    go_enter Tryd.func27, Tryd.ntmps27
    go_wp2_with (at_builtin; refine wpList_append_row _ rfl (.tmp 12) (.tmp 13) 39 rfl 3 _ 1 8 int_elem (fun k => k = w.heap.size) (.slice (some ⟨w.heap.size, 0, none⟩) 0 0) 0 [] rfl ?c0 _ ks.length c (intsV ks) rfl ?c1 (intsV_ok _) ?c2 ?_)
    case c0 =>
      refine ⟨⟨rfl, .inr ⟨w.heap.size, 0, #[], rfl, Nat.zero_le _, ?_, Nat.le_refl _, Nat.zero_le _, rfl, rfl⟩⟩, by simp [Value.ownBlock, eq_comm]⟩
      have hs : (w.setCell ⟨g, 4, none⟩ (.int .i64 n)).heap.size = w.heap.size := by simp [World.setCell]
      have := Blk.new (w.setCell ⟨g, 4, none⟩ (.int .i64 n)) 3 #[]
      rw [hs] at this
      exact this
    case c1 => exact rd_out HK.out HO.out _ _ _
    case c2 => omega
    intro v' w2 hrow2 hfr2
    obtain ⟨A2, cc2, hv2, -, -⟩ := hrow2.form
    subst hv2
    obtain ⟨e0, e1, e2, hend⟩ := HEND.out A2 cc2 w2 (by simpa using hrow2) (hfr2.mono fun k _ hk => by simpa [Own, Value.ownBlock, eq_comm] using hk)
    have HE := Lib.hid hend
    clear hrow2 hfr2 hend HEND
    go_wp2_with fail
    go_end0
    exact HE.out

/-! The calls. -/
theorem ends_up {d : DS} (h : endsB d = true) : d.down = false ∧ d.armed = 1 := by
  unfold endsB at h
  cases hd : d.down
  · rw [hd] at h
    exact ⟨rfl, by simpa using h⟩
  · rw [hd] at h; simp at h
/-- What 'comes' leaves. -/
def comesR (d : DS) (ks : List Int) (f a : Int) (s : ByteArray) : DS := if endsB d then crashD (wrD (endsD d) f a s) ks else endsD d
theorem fits_not {d : DS} {f a : Int} {s : ByteArray} (h : fitsB a s = false) : wrD d f a s = d := by
  unfold wrD
  rw [if_neg]
  rintro ⟨h0, -⟩
  obtain ⟨-, -, -, h3, h4, h5⟩ := wrE_zero h0
  simp [fitsB] at h
  omega
theorem out_not {d : DS} {f a : Int} {s : ByteArray} (h : f < 0 ∨ 15 < f) : wrD d f a s = d := by
  unfold wrD
  rw [if_neg]
  rintro ⟨h0, -⟩
  obtain ⟨-, h1, h2, -⟩ := wrE_zero h0
  omega
set_option maxRecDepth 100000 in
set_option maxHeartbeats 1600000 in
theorem rcomes_any (g : Nat) (d : DS) (A : Option Addr) (c : Nat) (ks : List Int) (f a : Int) (s : ByteArray) (hs : s.size ≤ 1000000000) (w : World) (F : Nat → Prop) (h : RefAt w F g (.slice A ks.length c) d) (hk : KeepAt w F A ks) (hb : ks.length ≤ 1000000) :
    Calls Tryd.prog 36 #[.pointer (some ⟨g, 0, none⟩), .int .i64 f, .int .i64 a, .string s] w (RPost w F g (.tuple #[]) (.slice A ks.length c) (comesR d ks f a s)) := by
  have H := Lib.hid h
  have HK := Lib.hid hk
  have hsame := Lib.hid (h.same (r := .tuple #[]) 0)
  obtain ⟨fv, qv, L, h⟩ := h
  have c3 : w.cell? ⟨g, 3, none⟩ = some (.bool d.down) := h.blk.cell 3
  have c4 : w.cell? ⟨g, 4, none⟩ = some (.int .i64 d.armed) := h.blk.cell 4
  have f4 : w.frozen? ⟨g, 4, none⟩ = false := h.blk.frozen 4
  have hlg := h.blk.lt
  obtain ⟨ha0, ha1⟩ := h.inv.armed
  cases hd : d.down
  · rw [hd] at c3
    by_cases h0 : d.armed = 0
    · have h0' : (d.armed == 0) = true := by simpa using h0
      have hend : Hid (RPost w F g (.tuple #[]) (.slice A ks.length c) (comesR d ks f a s) (.returned (.tuple #[])) w) := by
        have e : comesR d ks f a s = d := by simp [comesR, endsB, endsD, hd, h0]
        show RPost _ _ _ _ _ _ _ _
        rw [e]; exact hsame.out
      clear hd h h0 hk
      go_enter Tryd.func36, Tryd.ntmps36
      go_wp2_with fail
      go_end0
      exact hend.out
    · have h0' : (d.armed == 0) = false := by simpa using h0
      have hend0 : RPost w F g (.tuple #[]) (.slice A ks.length c) (endsD d) (.returned (.tuple #[])) (w.setCell ⟨g, 4, none⟩ (.int .i64 (d.armed - 1))) := by
        have e : endsD d = { d with armed := d.armed - 1 } := by simp [endsD, hd, h0]
        have hi := h.inv.ends
        rw [e] at hi ⊢
        exact H.out.post0 ⟨fv, qv, L, h.set_ hi rfl rfl rfl⟩ ((Fr.refl _ _).setCell (fun _ => h.own) _)
      have hb1 := (h.blk.set_ 4 (.int .i64 (d.armed - 1))).cell 4
      simp only [List.setIfInBounds_toArray, List.getElem?_toArray, List.set_cons_zero, List.set_cons_succ, List.getElem?_cons_succ, List.getElem?_cons_zero] at hb1
      by_cases h1 : d.armed = 1
      · have hlt : ¬ 0 < d.armed - 1 := by omega
        have hB : endsB d = true := by simp [endsB, hd, h1]
        have HD1 : (endsD d).down = false := by simp [endsD, hd, h0]
        have hcR : comesR d ks f a s = crashD (wrD (endsD d) f a s) ks := by unfold comesR; rw [hB]; rfl
        have P1 := Lib.hid hend0
        have K1 := Lib.hid (hk.rpost hend0)
        have hcr : ∀ (d2 : DS) (w2 : World) (e2 : Ending), RPost w F g (.tuple #[]) (.slice A ks.length c) d2 e2 w2 → KeepAt w2 (Grow F w w2) A ks → Calls Tryd.prog 28 #[.pointer (some ⟨g, 0, none⟩), .slice A ks.length c] w2 fun e w' => e = .returned (.tuple #[]) ∧ RPost w F g (.tuple #[]) (.slice A ks.length c) (crashD d2 ks) (.returned (.tuple #[])) w' := by
          intro d2 w2 e2 hp hkk
          refine (rcrash_any g d2 _ A c ks w2 _ hp.2.1 hkk hb).mono ?_
          intro e w' hp2
          exact ⟨hp2.1, hp2.1 ▸ hp.then_ hp2 H.out.lt⟩
        have HCR := Lib.hid hcr
        have HCE := Lib.hid hcR
        by_cases hfr : f < 0 ∨ 15 < f
        · have hw := out_not (d := endsD d) (a := a) (s := s) hfr
          rw [hw] at hcR
          have HCE2 := Lib.hid hcR
          have c5 : (w.setCell ⟨g, 4, none⟩ (.int .i64 (d.armed - 1))).cell? ⟨g, 5, none⟩ = some (.slice A ks.length c) := P1.out.2.1.c5
          clear h hk hd h0 h1 hB HD1 hcR hcr hw hend0 HCE
          rcases hfr with hfr | hfr
          · have hfr' : ¬ 0 ≤ f := by omega
            go_enter Tryd.func36, Tryd.ntmps36
            go_wp2_with fail
            refine (HCR.out _ _ _ P1.out K1.out).mono ?_
            rintro e w3 ⟨rfl, hp3⟩
            go_wp2_with fail
            go_end0
            rw [HCE2.out]; exact hp3
          · have hfr' : ¬ f ≤ 15 := by omega
            have hf0 : 0 ≤ f := by omega
            go_enter Tryd.func36, Tryd.ntmps36
            go_wp2_with fail
            refine (HCR.out _ _ _ P1.out K1.out).mono ?_
            rintro e w3 ⟨rfl, hp3⟩
            go_wp2_with fail
            go_end0
            rw [HCE2.out]; exact hp3
        · have hf0 : 0 ≤ f := by omega
          have hf1 : f ≤ 15 := by omega
          cases hfit : fitsB a s
          · have hw := fits_not (d := endsD d) (f := f) hfit
            rw [hw] at hcR
            have HCE2 := Lib.hid hcR
            have c5 : (w.setCell ⟨g, 4, none⟩ (.int .i64 (d.armed - 1))).cell? ⟨g, 5, none⟩ = some (.slice A ks.length c) := P1.out.2.1.c5
            have HFT := Lib.hid hfit
            clear h hk hd h0 h1 hB HD1 hcR hcr hw hend0 HCE hfr hfit
            go_enter Tryd.func36, Tryd.ntmps36
            go_wp2_with fail
            refine (fits_is a s false (by omega) _ HFT.out).mono ?_
            rintro e _ ⟨rfl, rfl⟩
            go_wp2_with fail
            refine (HCR.out _ _ _ P1.out K1.out).mono ?_
            rintro e w3 ⟨rfl, hp3⟩
            go_wp2_with fail
            go_end0
            rw [HCE2.out]; exact hp3
          · have HFT := Lib.hid hfit
            have hft := hfit
            simp only [fitsB, Bool.and_eq_true, decide_eq_true_eq] at hft
            obtain ⟨k, rfl⟩ : ∃ k : Nat, a = k := ⟨a.toNat, by omega⟩
            have hadd : Hid (Calls Tryd.prog 39 #[.pointer (some ⟨g, 0, none⟩), .int .i64 f, .int .i64 k, .string s] (w.setCell ⟨g, 4, none⟩ (.int .i64 (d.armed - 1))) fun e w' => e = .returned (.tuple #[]) ∧ RPost w F g (.tuple #[]) (.slice A ks.length c) (wrD (endsD d) f k s) (.returned (.tuple #[])) w' ∧ KeepAt w' (Grow F w w') A ks) := by
              refine (radd_any g (endsD d) _ f k s _ _ P1.out.2.1 hf0 (by omega) (by omega) (by omega) HD1).mono ?_
              intro e w' hp2
              have hp3 := P1.out.then_ hp2 H.out.lt
              exact ⟨hp2.1, hp2.1 ▸ hp3, HK.out.rpost hp3⟩
            clear h hk hd h0 h1 hB HD1 hcR hcr hend0 hfr hfit hft
            go_enter Tryd.func36, Tryd.ntmps36
            go_wp2_with fail
            refine (fits_is k s true (by omega) _ HFT.out).mono ?_
            rintro e _ ⟨rfl, rfl⟩
            go_wp2_with fail
            refine hadd.out.mono ?_
            rintro e w2 ⟨rfl, hp2, hk2⟩
            have P2 := Lib.hid hp2
            have K2 := Lib.hid hk2
            have c5 : w2.cell? ⟨g, 5, none⟩ = some (.slice A ks.length c) := hp2.2.1.c5
            clear hp2 hk2 hadd
            go_wp2_with fail
            refine (HCR.out _ _ _ P2.out K2.out).mono ?_
            rintro e w3 ⟨rfl, hp3⟩
            go_wp2_with fail
            go_end0
            rw [HCE.out]; exact hp3
      · have hlt : 0 < d.armed - 1 := by omega
        have hend : Hid (RPost w F g (.tuple #[]) (.slice A ks.length c) (comesR d ks f a s) (.returned (.tuple #[])) (w.setCell ⟨g, 4, none⟩ (.int .i64 (d.armed - 1)))) := by
          have e : comesR d ks f a s = endsD d := by
            have : endsB d = false := by simp [endsB, hd, h1]
            unfold comesR; rw [this]; rfl
          show RPost _ _ _ _ _ _ _ _
          rw [e]; exact hend0
        clear hd h h0 h1 hk hend0
        go_enter Tryd.func36, Tryd.ntmps36
        go_wp2_with fail
        go_end0
        exact hend.out
  · rw [hd] at c3
    have hend : Hid (RPost w F g (.tuple #[]) (.slice A ks.length c) (comesR d ks f a s) (.returned (.tuple #[])) w) := by
      have e : comesR d ks f a s = d := by simp [comesR, endsB, endsD, hd]
      show RPost _ _ _ _ _ _ _ _
      rw [e]; exact hsame.out
    clear hd h hk
    go_enter Tryd.func36, Tryd.ntmps36
    go_wp2_with fail
    go_end0
    exact hend.out
end Go.Proofs.YtjgmbildgcighaaDoor
