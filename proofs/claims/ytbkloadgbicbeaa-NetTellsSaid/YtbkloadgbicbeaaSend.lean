import Derived.Test.YtbkloadgbicbeaaNet
namespace Go.Proofs.Ytbkloadgbicbeaa
open Go.RowKit

/-- What Send answers. -/
def sendE (ps : List Pkt) (s f t : Int) : Int :=
  if !endB f || !endB t || f == t then 1 else if !hearB s f t then 10 else if 500 ≤ ps.length then 6 else 0
def sendL (ps : List Pkt) (s f t : Int) (b : ByteArray) : List Pkt := if sendE ps s f t = 0 then ps ++ [⟨f, t, b⟩] else ps

theorem send_end {w w1 : World} {F : Nat → Prop} {g : Nat} {A : Option Addr} {c : Nat} {ps : List Pkt} {s f t : Int} {b : ByteArray} {v' : Value} {o : Obj}
    (hN : NetAt w F 56 g ps s) (HR : Row w F 34 3 (.slice A ps.length c) ps.length (pcells ps)) (hg : F g) (hfin : sendE ps s f t = 0) (n : Nat)
    (hrow1 : Row w1 (Grow F ((w.drewN n).alloc o) w1) 34 3 v' (ps.length + 1) (pcells ps ++ pcells [⟨f, t, b⟩])) (hfr1 : Fr (Own (.slice A ps.length c)) ((w.drewN n).alloc o) w1)
    (hb1 : Blk w1 g 56 #[.slice A ps.length c, .int .i64 s]) :
    NetPost w F 56 g (.int .i64 (sendE ps s f t)) (sendL ps s f t b) s (.returned (.int .i64 0)) (w1.setCell ⟨g, 0, none⟩ v') := by
  have hne := own_blk_ne hrow1.1 hb1 (by decide)
  have hf1 : Fr F w w1 := (((Fr.refl F w).drewN n).alloc o).trans' hfr1 fun i _ h => HR.2 i h
  have hf2 : Fr F w (w1.setCell ⟨g, 0, none⟩ v') := Fr.setCell hf1 (fun _ => hg) v'
  rw [hfin]
  refine hN.post (w0 := (w.drewN n).alloc o) ⟨grow_lt (fun k hk => by have := hN.1 k hk; simp; omega) (by simpa [World.setCell] using hfr1.size), .inl hg, v', by simpa using hb1.set_ 0 v', ?_⟩ (by simp) hf2
  simp only [sendL, hfin, if_true, List.length_append, List.length_cons, List.length_nil, pcells_append]
  exact (hrow1.far (p := ⟨g, 0, none⟩) hne v').more fun k _ h => h.imp id (fun h => ⟨h.1, by simpa [World.setCell] using h.2⟩)

set_option maxRecDepth 100000 in
set_option maxHeartbeats 800000 in
theorem send_any (g : Nat) (ps : List Pkt) (s f t : Int) (b : ByteArray) (w : World) (F : Nat → Prop) (h : NetAt w F 56 g ps s) :
    Calls Try.prog 10 #[.pointer (some ⟨g, 0, none⟩), .int .i64 f, .int .i64 t, .string b] w (NetPost w F 56 g (.int .i64 (sendE ps s f t)) (sendL ps s f t b) s) := by
  have HN := Lib.hid h
  have hsame : ∀ n r, NetPost w F 56 g r ps s (.returned r) (w.drewN n) := fun n r => h.post0 (h.drewN n) ((Fr.refl _ _).drewN n)
  obtain ⟨-, hg, v, hb, hrow⟩ := h
  obtain ⟨A, c, rfl, hc, hcm⟩ := hrow.form
  have hc0 : w.cell? ⟨g, 0, none⟩ = some (.slice A ps.length c) := hb.cell 0
  have hc1 : w.cell? ⟨g, 1, none⟩ = some (.int .i64 s) := hb.cell 1
  have hf0 : w.frozen? ⟨g, 0, none⟩ = false := hb.frozen 0
  have HS := Lib.hid hsame
  have HB := Lib.hid hb
  have HR := Lib.hid hrow
  clear hsame hb hrow
  unfold maxLen at hcm
  by_cases hbad : (!endB f || !endB t || f == t) = true
  · have hfin : Hid (sendE ps s f t = 1) := by simp only [Hid, sendE, hbad, if_true]
    have hend : Hid (∀ w' n, w' = w.drewN n → NetPost w F 56 g (.int .i64 (sendE ps s f t)) (sendL ps s f t b) s (.returned (.int .i64 1)) w') := by
      rintro w' n rfl
      simp only [sendL, hfin.out]; exact HS.out n _
    cases ha : endB f
    · have HA := Lib.hid ha
      clear ha hbad
      go_enter Try.func10, Try.ntmps10
      go_wp2_with fail
      refine (end_is _ false _ HA.out).mono ?_
      rintro e w' ⟨rfl, rfl⟩
      go_wp2_with fail
      go_ret
      exact hend.out _ 0 rfl
    · have HA := Lib.hid ha
      cases ht : endB t
      · have HT := Lib.hid ht
        clear ha hbad ht
        go_enter Try.func10, Try.ntmps10
        go_wp2_with fail
        refine (end_is _ true _ HA.out).mono ?_
        rintro e w' ⟨rfl, rfl⟩
        go_wp2_with fail
        refine (end_is _ false _ HT.out).mono ?_
        rintro e w' ⟨rfl, rfl⟩
        go_wp2_with fail
        go_ret
        exact hend.out _ 0 rfl
      · have HT := Lib.hid ht
        have hft : (f == t) = true := by simpa [ha, ht] using hbad
        clear ha hbad ht
        go_enter Try.func10, Try.ntmps10
        go_wp2_with fail
        refine (end_is _ true _ HA.out).mono ?_
        rintro e w' ⟨rfl, rfl⟩
        go_wp2_with fail
        refine (end_is _ true _ HT.out).mono ?_
        rintro e w' ⟨rfl, rfl⟩
        go_wp2_with fail
        go_ret
        exact hend.out _ 0 rfl
  · have hbad' : (!endB f || !endB t || f == t) = false := by simpa using hbad
    have HA : Hid (endB f = true) := by simp [Hid] at hbad ⊢; exact hbad.1.1
    have HT : Hid (endB t = true) := by simp [Hid] at hbad ⊢; exact hbad.1.2
    have hft : (f == t) = false := by simp at hbad ⊢; exact hbad.2
    clear hbad
    cases hh : hearB s f t
    · have HH := Lib.hid hh
      have hfin : Hid (sendE ps s f t = 10) := by simp [Hid, sendE, hbad', hh]
      have hend : Hid (∀ w' n, w' = w.drewN n → NetPost w F 56 g (.int .i64 (sendE ps s f t)) (sendL ps s f t b) s (.returned (.int .i64 10)) w') := by
        rintro w' n rfl
        simp only [sendL, hfin.out]; exact HS.out n _
      clear hh hbad'
      go_enter Try.func10, Try.ntmps10
      go_wp2_with fail
      refine (end_is _ true _ HA.out).mono ?_
      rintro e w' ⟨rfl, rfl⟩
      go_wp2_with fail
      refine (end_is _ true _ HT.out).mono ?_
      rintro e w' ⟨rfl, rfl⟩
      go_wp2_with fail
      refine (hear_is _ _ _ _ false _ hc1 HH.out).mono ?_
      rintro e w' ⟨rfl, n, rfl⟩
      go_wp2_with fail
      go_ret
      exact hend.out _ n rfl
    · have HH := Lib.hid hh
      by_cases hl : 500 ≤ ps.length
      · have hfin : Hid (sendE ps s f t = 6) := by simp [Hid, sendE, hbad', hh, hl]
        have hend : Hid (∀ w' n, w' = w.drewN n → NetPost w F 56 g (.int .i64 (sendE ps s f t)) (sendL ps s f t b) s (.returned (.int .i64 6)) w') := by
          rintro w' n rfl
          simp only [sendL, hfin.out]; exact HS.out n _
        clear hh hbad'
        go_enter Try.func10, Try.ntmps10
        go_wp2_with fail
        refine (end_is _ true _ HA.out).mono ?_
        rintro e w' ⟨rfl, rfl⟩
        go_wp2_with fail
        refine (end_is _ true _ HT.out).mono ?_
        rintro e w' ⟨rfl, rfl⟩
        go_wp2_with fail
        refine (hear_is _ _ _ _ true _ hc1 HH.out).mono ?_
        rintro e w' ⟨rfl, n, rfl⟩
        go_wp2_with fail
        go_ret
        exact hend.out _ n rfl
      · have hfin : Hid (sendE ps s f t = 0) := by simp [Hid, sendE, hbad', hh, hl]
        clear hh hbad'
        go_enter Try.func10, Try.ntmps10
        go_wp2_with fail
        refine (end_is _ true _ HA.out).mono ?_
        rintro e w' ⟨rfl, rfl⟩
        go_wp2_with fail
        refine (end_is _ true _ HT.out).mono ?_
        rintro e w' ⟨rfl, rfl⟩
        go_wp2_with fail
        refine (hear_is _ _ _ _ true _ hc1 HH.out).mono ?_
        rintro e w' ⟨rfl, n, rfl⟩
        go_wp2_with (at_builtin; refine wpList_append_row _ rfl (.tmp 40) (.tmp 45) 28 rfl 34 _ 3 32 pkt_elem F _ ps.length (pcells ps) rfl (Row.alloc (Row.drewN HR.out n) _) _ 1 1 (pcells [⟨f, t, b⟩]) rfl ?c1 (pcells_ok _) ?c2 ?_)
        case c1 => exact rd_new3 _ _ _ _ _
        case c2 => omega
        intro v' w1 hrow1 hfr1
        obtain ⟨A', c', rfl, -, -⟩ := hrow1.form
        have hb1 : Blk w1 g 56 #[.slice A ps.length c, .int .i64 s] := ((Blk.drewN HB.out n).alloc _).keep hfr1 (own_blk_ne HR.out.1 HB.out (by decide))
        have hd0 : w1.cell? ⟨g, 0, none⟩ = some (.slice A ps.length c) := hb1.cell 0
        have hd1 : w1.frozen? ⟨g, 0, none⟩ = false := hb1.frozen 0
        have hend : Hid (NetPost w' F 56 g (.int .i64 (sendE ps s f t)) (sendL ps s f t b) s (.returned (.int .i64 0)) (w1.setCell ⟨g, 0, none⟩ (.slice A' (ps.length + 1) c'))) := by
          refine send_end HN.out HR.out hg hfin.out n hrow1 hfr1 hb1
        clear hrow1 hfr1 hb1 hc0 hc1 hf0
        go_wp2_with fail
        go_ret
        exact hend.out
end Go.Proofs.Ytbkloadgbicbeaa
