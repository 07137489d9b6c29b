import Derived.Test.YtbkloadgbicbeaaHonA

namespace Go.Proofs.Ytbkloadgbicbeaa
open Go.RowKit

def Good (w : World) (e : Ending) (w' : World) : Prop := e = .returned (.bool true) ∧ Below w.heap.size w w'
set_option maxRecDepth 100000 in
set_option maxHeartbeats 3200000 in
theorem honest_walk (A : Option Addr) (c : Nat) (ops : List OpV) (w : World) (hA : OpsAt w A ops) :
    Calls Try.prog 5 #[.slice A ops.length c] w (Good w) := by
  have HA := Lib.hid hA
  clear hA
  go_enter Try.func5, Try.ntmps5
  go_wp2_with fail
  refine (small_any _).mono ?_
  rintro e w0 ⟨rfl, hb0⟩
  have s0 : St w w0 (fun _ => 0) := ⟨fun _ _ => rfl, fun _ _ => rfl, hb0⟩
  clear hb0
  go_wp2_with fail
  refine (new_any _).mono ?_
  rintro e w1 ⟨rfl, hw1⟩
  obtain ⟨o1, n1, p1⟩ := new_own s0 (i := 1) (by decide)
  rw [← hw1] at n1 p1
  clear hw1 s0
  generalize w0.heap.size = gn at n1
  go_wp2_with fail
  cases hfew : fewB ops 200 with
  | false =>
    have HF := Lib.hid hfew
    clear hfew
    refine (few_is 200 200 false A c ops _ (OpsAt.below HA.out p1.st.fr) rfl HF.out).mono ?_
    rintro e w2 ⟨rfl, rfl⟩
    have hfin := Lib.hid p1.st.fr
    clear p1 n1
    go_wp2_with fail
    go_ret
    exact ⟨rfl, hfin.out⟩
  | true =>
    have HF := Lib.hid hfew
    have hlen : ops.length ≤ 200 := by simp [fewB] at hfew; exact hfew.2
    clear hfew
    refine (few_is 200 200 true A c ops _ (OpsAt.below HA.out p1.st.fr) rfl HF.out).mono ?_
    rintro e w2 ⟨rfl, rfl⟩
    have hst : Hid (RelH w gn 0 (.slice none 0 0) (.slice none 0 0) w1) := ⟨o1, [], [], [], 0, p1.st, n1, Row.nil _ _ _ _, Row.nil _ _ _ _, Nat.le_refl _, Nat.le_refl _, Nat.le_refl _, fun q => by simp [cnt]⟩
    clear n1 p1
    go_wp2_with fail
    go_loopw [5, 6, 7] (fun u v i wr => ∃ k : Nat, k ≤ ops.length ∧ i = .int .i64 k ∧ RelH w gn k u v wr) (fun _ _ i _ => ops.length - (intOf i).toNat)
    case atStart => exact ⟨0, Nat.zero_le _, rfl, hst.out⟩
    case round =>
      obtain ⟨k, hk, rfl, own, ps, ms, gs, s, st, nt, rm, rg, lm, lg, lp, hinv⟩ := hrel
      by_cases hlt : k < ops.length
      · obtain ⟨op, hop⟩ : ∃ op, ops[k]? = some op := ⟨_, List.getElem?_eq_getElem hlt⟩
        obtain ⟨b, o, rfl, hb, a1, a2, a3, a4⟩ := (OpsAt.below HA.out st.fr) k _ hop
        have hz : (k : Int) < (ops.length : Int) := by omega
        have HI := Lib.hid hinv
        clear hop hlt hinv hst
        obtain ⟨A2, c2, rfl, -, -⟩ := rm.form
        obtain ⟨A3, c3, rfl, -, -⟩ := rg.form
        go_wp2_with fail
        obtain ⟨bx, ox, st1⟩ := st.box #[.int .i64 op.d, .int .i64 op.n, .int .i64 op.t, .string op.s] 30
        replace nt := nt.alloc (.cells #[.int .i64 op.d, .int .i64 op.n, .int .i64 op.t, .string op.s] 30)
        replace rm := rm.alloc (.cells #[.int .i64 op.d, .int .i64 op.n, .int .i64 op.t, .string op.s] 30)
        replace rg := rg.alloc (.cells #[.int .i64 op.d, .int .i64 op.n, .int .i64 op.t, .string op.s] 30)
        clear st a1 a2 a3 a4 hb
        generalize wr.alloc (.cells #[.int .i64 op.d, .int .i64 op.n, .int .i64 op.t, .string op.s] 30) = wx at *
        generalize wr.heap.size = gx at *
        refine (list_any gn ps s _ _ nt (by omega)).mono ?_
        intro e w2 hp
        obtain ⟨vb, own2, rfl, rb2, p2⟩ := hp.mine (i := 4) st1 (by decide)
        have nt2 := nt.other p2 (by decide) (by decide)
        have rm2 := rm.other p2 (by decide) (by decide)
        have rg2 := rg.other p2 (by decide) (by decide)
        obtain ⟨bx2, ox2⟩ := bx.other p2 (by omega)
        rw [ox] at ox2
        have x0 : w2.cell? ⟨gx, 0, none⟩ = some (.int .i64 op.d) := bx2.cell 0
        have x1 : w2.cell? ⟨gx, 1, none⟩ = some (.int .i64 op.n) := bx2.cell 1
        have x2 : w2.cell? ⟨gx, 2, none⟩ = some (.int .i64 op.t) := bx2.cell 2
        have x3 : w2.cell? ⟨gx, 3, none⟩ = some (.string op.s) := bx2.cell 3
        clear hp nt rm rg st1 bx ox
        obtain ⟨A4, c4, rfl, -, -⟩ := rb2.form
        go_wp2_with fail
        refine (do_any gn ps s op _ _ nt2).mono ?_
        intro e w3 hp
        obtain ⟨rfl, own3, nt3, p3⟩ := hp.mine p2.st (by decide)
        have rm3 := rm2.other p3 (by decide) (by decide)
        have rg3 := rg2.other p3 (by decide) (by decide)
        have rb3 := rb2.other p3 (by decide) (by decide)
        obtain ⟨bx3, ox3⟩ := bx2.other p3 (by omega)
        have st3 := p3.st
        have lx := bx3.lt
        replace x0 : w3.cell? ⟨gx, 0, none⟩ = some (.int .i64 op.d) := bx3.cell 0
        replace x1 : w3.cell? ⟨gx, 1, none⟩ = some (.int .i64 op.n) := bx3.cell 1
        replace x2 : w3.cell? ⟨gx, 2, none⟩ = some (.int .i64 op.t) := bx3.cell 2
        replace x3 : w3.cell? ⟨gx, 3, none⟩ = some (.string op.s) := bx3.cell 3
        clear hp nt2 rm2 rg2 rb2 p2 p3 bx2 bx3 ox2 ox3
        have hL := len_doL ps s op
        by_cases he : doE ps s op = 0
        · have HE := Lib.hid he
          rw [he]
          clear he
          have hkc := kind_cases op
          have hw4 : Hid (∀ o, NetAt (w3.alloc o) (fun k => own3 k = 1) 56 gn (doL ps s op) (doS s op) ∧ Row (w3.alloc o) (fun k => own3 k = 2) 34 3 (.slice A2 ms.length c2) ms.length (pcells ms) ∧ Row (w3.alloc o) (fun k => own3 k = 3) 34 3 (.slice A3 gs.length c3) gs.length (pcells gs) ∧ St w (w3.alloc o) own3) := fun o => ⟨nt3.alloc o, rm3.alloc o, rg3.alloc o, st3.alloc o⟩
          rcases (show (kindOf op = 0 ∨ kindOf op = 1 ∨ kindOf op = 2) ∨ kindOf op = 3 ∨ (kindOf op = 4 ∨ kindOf op = 6 ∨ kindOf op = 7) ∨ kindOf op = 5 by omega) with hk0 | hk3 | hk4 | hk5
          · obtain ⟨g1, g2, g3, g4⟩ := do_goodS HI.out HE.out hk0
            have HH := Lib.hid g1
            have HS := Lib.hid g3
            have HG := Lib.hid g4
            clear hkc g1 g3 g4 nt3 rm3 rg3 rb3 st3
            rcases hk0 with hq | hq | hq
            all_goals
              unfold kindOf at hq
              unfold Pkt.agg
              go_wp2_with fail
              obtain ⟨nt4, rm4, rg4, st4⟩ := hw4.out (.cells #[.int .i64 (doP ps s op).f, .int .i64 (doP ps s op).t, .string (doP ps s op).b] 34)
              replace x1 := (World.cell?_alloc_lt w3 (.cells #[.int .i64 (doP ps s op).f, .int .i64 (doP ps s op).t, .string (doP ps s op).b] 34) ⟨gx, 1, none⟩ lx).trans x1
              replace x2 := (World.cell?_alloc_lt w3 (.cells #[.int .i64 (doP ps s op).f, .int .i64 (doP ps s op).t, .string (doP ps s op).b] 34) ⟨gx, 2, none⟩ lx).trans x2
              replace x3 := (World.cell?_alloc_lt w3 (.cells #[.int .i64 (doP ps s op).f, .int .i64 (doP ps s op).t, .string (doP ps s op).b] 34) ⟨gx, 3, none⟩ lx).trans x3
              replace lx : gx < (w3.alloc (.cells #[.int .i64 (doP ps s op).f, .int .i64 (doP ps s op).t, .string (doP ps s op).b] 34)).heap.size := by simp; omega
              clear hw4 x0
              generalize w3.alloc (.cells #[.int .i64 (doP ps s op).f, .int .i64 (doP ps s op).t, .string (doP ps s op).b] 34) = w4 at *
              generalize w3.heap.size = gp at *
              rw [HS.out] at nt4
              refine (hear_is gn s _ _ true _ nt4.c1 HH.out).mono ?_
              rintro e w5 ⟨rfl, n, rfl⟩
              have NT := Lib.hid nt4
              have RM := Lib.hid rm4
              have RG := Lib.hid rg4
              clear nt4 rm4 rg4
              go_wp2_with (at_builtin; refine wpList_append_row _ rfl (.tmp 72) (.tmp 80) 28 rfl 34 _ 3 32 pkt_elem _ _ _ _ rfl (Row.alloc (Row.drewN RM.out n) _) _ 1 1 (pcells [⟨op.n, op.t, op.s⟩]) rfl (rd_new3 _ _ _ _ _) (pcells_ok _) (by omega) ?_)
              intro v' w6 hrow6 hfr6
              have hend := Lib.hid (fun w7 hw => honM (w7 := w7) (st4.drewN n) (NT.out.drewN n) (RM.out.drewN n) (RG.out.drewN n) hrow6 hfr6 lm lg (by omega) HG.out hw)
              obtain ⟨A6, c6, rfl, -, -⟩ := hrow6.form
              clear hrow6 hfr6 st4 x1 x2 x3
              go_wp2_with fail
              go_roundw
              case rel => exact ⟨k + 1, by omega, by go_num, hend.out _ rfl⟩
              case measure => simp [intOf]; omega
          · obtain ⟨g1, g3, g4⟩ := do_good3 HI.out HE.out hk3
            have HH := Lib.hid g1
            have HS := Lib.hid g3
            have HG := Lib.hid g4
            clear hkc g1 g3 g4 nt3 rm3 rg3 rb3 st3
            have hq := hk3
            unfold kindOf at hq
            unfold Pkt.agg
            go_wp2_with fail
            obtain ⟨nt4, rm4, rg4, st4⟩ := hw4.out (.cells #[.int .i64 (doP ps s op).f, .int .i64 (doP ps s op).t, .string (doP ps s op).b] 34)
            have bp4 := Blk.new w3 34 #[.int .i64 (doP ps s op).f, .int .i64 (doP ps s op).t, .string (doP ps s op).b]
            clear hw4 x0 x1 x2 x3
            have lx4 : w3.heap.size < (w3.alloc (.cells #[.int .i64 (doP ps s op).f, .int .i64 (doP ps s op).t, .string (doP ps s op).b] 34)).heap.size := by simp
            generalize w3.alloc (.cells #[.int .i64 (doP ps s op).f, .int .i64 (doP ps s op).t, .string (doP ps s op).b] 34) = w4 at *
            generalize w3.heap.size = gp at *
            rw [HS.out] at nt4
            refine (hear_is gn s _ _ true _ nt4.c1 HH.out).mono ?_
            rintro e w5 ⟨rfl, n, rfl⟩
            have y0 : w4.cell? ⟨gp, 0, none⟩ = some (.int .i64 (doP ps s op).f) := bp4.cell 0
            have y1 : w4.cell? ⟨gp, 1, none⟩ = some (.int .i64 (doP ps s op).t) := bp4.cell 1
            have y2 : w4.cell? ⟨gp, 2, none⟩ = some (.string (doP ps s op).b) := bp4.cell 2
            have NT := Lib.hid nt4
            have RM := Lib.hid rm4
            have RG := Lib.hid rg4
            clear nt4 rm4 rg4 bp4
            go_wp2_with (at_builtin; refine wpList_append_row _ rfl (.tmp 91) (.tmp 93) 28 rfl 34 _ 3 32 pkt_elem _ _ _ _ rfl (Row.alloc (Row.drewN RG.out n) _) _ 1 1 (pcells [doP ps s op]) rfl (rd_new3 _ _ _ _ _) (pcells_ok _) (by omega) ?_)
            intro v' w6 hrow6 hfr6
            have hend := Lib.hid (fun w7 hw => honG (w7 := w7) (st4.drewN n) (NT.out.drewN n) (RM.out.drewN n) (RG.out.drewN n) hrow6 hfr6 lm lg (by omega) HG.out hw)
            obtain ⟨A6, c6, rfl, -, -⟩ := hrow6.form
            clear hrow6 hfr6 st4 y0 y1 y2
            go_wp2_with fail
            go_roundw
            case rel => exact ⟨k + 1, by omega, by go_num, hend.out _ rfl⟩
            case measure => simp [intOf]; omega
          · have hG := do_good46 (s := s) HI.out hk4
            have hend : Hid (∀ o, RelH w gn (k + 1) (.slice A2 ms.length c2) (.slice A3 gs.length c3) (w3.alloc o)) := fun o => by
              obtain ⟨nt4, rm4, rg4, st4⟩ := hw4.out o
              exact ⟨own3, doL ps s op, ms, gs, doS s op, st4, nt4, rm4, rg4, by omega, by omega, by omega, hG⟩
            clear hkc hG nt3 rm3 rg3 rb3 st3
            rcases hk4 with hq | hq | hq
            all_goals
              unfold kindOf at hq
              unfold Pkt.agg
              go_wp2_with fail
              go_roundw
              case rel => exact ⟨k + 1, by omega, by go_num, hend.out _⟩
              case measure => simp [intOf]; omega
          · obtain ⟨m, q, g1, g2, g4⟩ := do_good5 HI.out HE.out hk5
            have hml : m < ps.length := (List.getElem?_eq_some_iff.1 g2).1
            obtain ⟨g5, c5, e5, -, lt5, hc5, hm5, hcells⟩ := rb3.at (by omega)
            simp only [Value.slice.injEq, true_and] at e5
            obtain ⟨rfl, rfl⟩ := e5
            obtain ⟨z1, z2, z3⟩ := pcells_at ps m q g2
            have y1 := hcells _ _ z1
            have y2 := hcells _ _ z2
            have y3 := hcells _ _ z3
            have HG := Lib.hid g4
            rw [g1] at x1
            have zz1 : ¬ ((m : Int) < 0) := by omega
            have zz2 : (m : Int) < (ps.length : Int) := by omega
            unfold maxLen at hm5
            clear hkc g1 g2 g4 nt3 rm3 rg3 rb3 st3 z1 z2 z3 hcells
            have hq := hk5
            unfold kindOf at hq
            obtain ⟨nt4, rm4, rg4, st4⟩ := hw4.out (.cells #[.int .i64 (doP ps s op).f, .int .i64 (doP ps s op).t, .string (doP ps s op).b] 34)
            have NT := Lib.hid nt4
            have RM := Lib.hid rm4
            have RG := Lib.hid rg4
            clear nt4 rm4 rg4 hw4
            unfold Pkt.agg
            go_wp2_with (at_builtin; refine wpList_append_row _ rfl (.tmp 107) (.tmp 113) 28 rfl 34 _ 3 32 pkt_elem _ _ _ _ rfl (Row.alloc RM.out _) _ 1 1 (pcells [q]) rfl ?c1 (pcells_ok _) ?c2 ?_)
            case c1 => exact rd_new3_at _ _ _ _ _ _ (by simp)
            case c2 => omega
            intro v' w6 hrow6 hfr6
            have hend := Lib.hid (fun w7 hw => honM (w7 := w7) st4 NT.out RM.out RG.out hrow6 hfr6 lm lg (by omega) HG.out hw)
            obtain ⟨A6, c6, rfl, -, -⟩ := hrow6.form
            clear hrow6 hfr6 st4 y1 y2 y3
            go_wp2_with fail
            go_roundw
            case rel => exact ⟨k + 1, by omega, by go_num, hend.out _ rfl⟩
            case measure => simp [intOf]; omega
        · obtain ⟨hP, hI⟩ := do_bad HI.out he
          rw [hP]
          have hz2 : (doE ps s op != 0) = true := by simpa using he
          have hend : Hid (∀ o, RelH w gn (k + 1) (.slice A2 ms.length c2) (.slice A3 gs.length c3) (w3.alloc o)) := fun o => ⟨own3, doL ps s op, ms, gs, doS s op, st3.alloc o, nt3.alloc o, rm3.alloc o, rg3.alloc o, by omega, by omega, by omega, hI⟩
          clear st3 nt3 rm3 rg3 rb3 hP hI he hL
          unfold Pkt.agg pkt0
          go_wp2_with fail
          go_roundw
          case rel => exact ⟨k + 1, by omega, by go_num, hend.out _⟩
          case measure => simp [intOf]; omega
      · have hz : ¬ (k : Int) < (ops.length : Int) := by omega
        have HI := Lib.hid hinv
        obtain ⟨A2, c2, rfl, -, -⟩ := rm.form
        obtain ⟨A3, c3, rfl, -, -⟩ := rg.form
        have RM := Lib.hid rm
        have RG := Lib.hid (Rd.of_row rg)
        clear hinv hst rm rg
        go_wp2_with (at_builtin; refine wpList_append_row _ rfl (.tmp 115) (.tmp 116) 28 rfl 34 _ 3 32 pkt_elem (fun b => b = wr.heap.size) (.slice (some ⟨wr.heap.size, 0, none⟩) 0 0) 0 [] rfl ?d0 _ gs.length c3 (pcells gs) rfl ?d1 (pcells_ok _) ?d2 ?_)
        case d0 => exact ⟨⟨rfl, .inr ⟨wr.heap.size, 0, #[], rfl, Nat.zero_le _, Blk.new wr 34 #[], Nat.le_refl _, Nat.zero_le _, rfl, rfl⟩⟩, by simp [Value.ownBlock, eq_comm]⟩
        case d1 => exact RG.out.alloc _
        case d2 => omega
        intro v1 w5 r1 f1
        have nt5 := (nt.alloc _).keep f1 (fun b hb h => by
          have h1 := nt.1 b hb
          have h2 : wr.heap.size = b := by simpa [Own, Value.ownBlock] using h
          omega)
        have R1 := Lib.hid r1
        have F1 := Lib.hid f1
        obtain ⟨A5, c5, rfl, -, -⟩ := r1.form
        clear r1 f1 nt
        go_wp2_with fail
        refine (list_any gn ps s _ _ nt5 (by omega)).mono ?_
        rintro e w6 ⟨v2, rfl, r2, f2⟩
        have R2 := Lib.hid r2
        have F2 := Lib.hid f2
        have R1' := Lib.hid (R1.out.keep f2 (fun _ _ _ h => h))
        obtain ⟨A6, c6, rfl, -, -⟩ := r2.form
        clear r2 f2 nt5
        go_wp2_with (at_builtin; refine wpList_append_row _ rfl (.tmp 117) (.tmp 119) 28 rfl 34 _ 3 32 pkt_elem _ _ _ _ rfl R1'.out _ ps.length c6 (pcells ps) rfl ?d3 (pcells_ok _) ?d4 ?_)
        case d3 => exact Rd.of_row R2.out
        case d4 => omega
        intro v3 w7 r3 f3
        obtain ⟨hB, hM, hAll⟩ := hon_all st RM.out R1.out F1.out F2.out r3 f3
        have hlA : (gs ++ ps).length ≤ 400 := by simp; omega
        have hcnt : Hid (∀ q, cnt (gs ++ ps) q ≤ cnt ms q) := fun q => by rw [cnt_append]; exact HI.out q
        generalize gs ++ ps = al at *
        obtain ⟨A7, c7, rfl, -, -⟩ := hAll.form
        have HB := Lib.hid hB
        have HM := Lib.hid hM
        have HAll := Lib.hid hAll
        clear r3 f3 hB hM hAll R1 F1 R2 F2 R1' RM RG st HI
        go_wp2_with fail
        go_loopw [13] (fun i wz => ∃ j : Nat, j ≤ al.length ∧ i = .int .i64 j ∧ Fr (fun _ => False) w7 wz) (fun i _ => al.length - (intOf i).toNat)
        case atStart => exact ⟨0, Nat.zero_le _, rfl, Fr.refl _ _⟩
        case round =>
          obtain ⟨j, hj, rfl, hfr⟩ := hrel
          by_cases hlt2 : j < al.length
          · obtain ⟨g7, c7', e7, -, lt7, -, hm7, hcells⟩ := HAll.out.at (by omega)
            simp only [Value.slice.injEq, true_and] at e7
            obtain ⟨rfl, rfl⟩ := e7
            obtain ⟨z1, z2, z3⟩ := pcells_at al j _ (List.getElem?_eq_getElem hlt2)
            have hcq := hcnt.out al[j]
            generalize al[j] = q at *
            have HY1 := Lib.hid (hcells _ _ z1)
            have HY2 := Lib.hid (hcells _ _ z2)
            have HY3 := Lib.hid (hcells _ _ z3)
            have y1 : wr.cell? ⟨g7, j * 3, none⟩ = some (.int .i64 q.f) := (hfr.cell (p := ⟨g7, j * 3, none⟩) lt7 (fun h => h)).trans HY1.out
            have y2 : wr.cell? ⟨g7, j * 3 + 1, none⟩ = some (.int .i64 q.t) := (hfr.cell (p := ⟨g7, j * 3 + 1, none⟩) lt7 (fun h => h)).trans HY2.out
            have y3 : wr.cell? ⟨g7, j * 3 + 2, none⟩ = some (.string q.b) := (hfr.cell (p := ⟨g7, j * 3 + 2, none⟩) lt7 (fun h => h)).trans HY3.out
            have hz3 : (j : Int) < (al.length : Int) := by omega
            have hz4 : ¬ (cnt ms q : Int) < (cnt al q : Int) := by omega
            have hz5 : decide ((cnt ms q : Int) < (cnt al q : Int)) = false := by simp; omega
            clear z1 z2 z3 hcells
            go_wp2_with fail
            go_region_held3 (fun w' => w'.cell? ⟨g7, j * 3, none⟩ = some (.int .i64 q.f) ∧ w'.cell? ⟨g7, j * 3 + 1, none⟩ = some (.int .i64 q.t) ∧ w'.cell? ⟨g7, j * 3 + 2, none⟩ = some (.string q.b) ∧ Fr (fun _ => False) w7 w') (first | exact ⟨y1, y2, y3, hfr⟩ | exact ⟨(Fr.cell (by assumption) (p := ⟨g7, j * 3, none⟩) lt7 (fun h => h)).trans HY1.out, (Fr.cell (by assumption) (p := ⟨g7, j * 3 + 1, none⟩) lt7 (fun h => h)).trans HY2.out, (Fr.cell (by assumption) (p := ⟨g7, j * 3 + 2, none⟩) lt7 (fun h => h)).trans HY3.out, by assumption⟩ | exact ⟨(Fr.cell (hfr.drew) (p := ⟨g7, j * 3, none⟩) lt7 (fun h => h)).trans HY1.out, (Fr.cell (hfr.drew) (p := ⟨g7, j * 3 + 1, none⟩) lt7 (fun h => h)).trans HY2.out, (Fr.cell (hfr.drew) (p := ⟨g7, j * 3 + 2, none⟩) lt7 (fun h => h)).trans HY3.out, hfr.drew⟩)
              (first
                | (go_at_call_of 20 (Value.slice (some ⟨g7, 0, none⟩) al.length c7); refine (count_held (p := q) HAll.out (by omega) ?_).mono ?_; (first | exact hfr.drew | assumption | (rename_i h; exact h.2.2.2)); rintro e w8 ⟨rfl, hf8⟩)
                | (go_at_call_of 20 (Value.slice A2 ms.length c2); refine (count_held (p := q) HM.out (by omega) ?_).mono ?_; (first | exact hfr.drew | assumption | (rename_i h; exact h.2.2.2)); rintro e w8 ⟨rfl, hf8⟩))
            all_goals
              have HF8 := Lib.hid hf8
              clear hf8 y1 y2 y3
              go_wp2_with fail
              go_roundw
              case rel => exact ⟨j + 1, by omega, by go_num, HF8.out⟩
              case measure => simp [intOf]; omega
          · have hz3 : ¬ (j : Int) < (al.length : Int) := by omega
            have hfin := Lib.hid (HB.out.trans (hfr.below HB.out.size (fun _ h => h.elim)))
            clear hfr
            go_wp2_with fail
            go_ret
            exact ⟨rfl, hfin.out⟩
end Go.Proofs.Ytbkloadgbicbeaa
