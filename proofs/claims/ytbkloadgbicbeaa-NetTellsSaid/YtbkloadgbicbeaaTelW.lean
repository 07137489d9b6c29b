import Derived.Test.YtbkloadgbicbeaaTelA
import Derived.Test.YtbkloadgbicbeaaModel
namespace Go.Proofs.Ytbkloadgbicbeaa
open Go.RowKit
theorem hold3 {w w' : World} {g g' : Nat} {u v : Value} (h1 : g < w.heap.size) (h2 : g' < w.heap.size) (c1 : w.cell? ⟨g, 0, none⟩ = some u) (c2 : w.cell? ⟨g', 0, none⟩ = some v) (hf : Fr (fun _ => False) w w') :
    w'.cell? ⟨g, 0, none⟩ = some u ∧ w'.cell? ⟨g', 0, none⟩ = some v ∧ Fr (fun _ => False) w w' :=
  ⟨(hf.cell (p := ⟨g, 0, none⟩) h1 fun h => h).trans c1, (hf.cell (p := ⟨g', 0, none⟩) h2 fun h => h).trans c2, hf⟩
def Good (w : World) (e : Ending) (w' : World) : Prop := e = .returned (.bool true) ∧ Below w.heap.size w w'
set_option maxRecDepth 100000 in
set_option maxHeartbeats 3200000 in
theorem tells_walk (A : Option Addr) (c : Nat) (ops : List OpV) (at' a b : Int) (w : World) (hA : OpsAt w A ops) :
    Calls Try.prog 6 #[.slice A ops.length c, .int .i64 at', .int .i64 a, .int .i64 b] w (Good w) := by
  have HA := Lib.hid hA
  clear hA
  go_enter Try.func6, Try.ntmps6
  go_wp2_with fail
  refine (small_any _).mono ?_
  rintro e w0 ⟨rfl, hb0⟩
  have s0 : St w w0 (fun _ => 0) := ⟨fun _ _ => rfl, fun _ _ => rfl, hb0⟩
  clear hb0
  go_wp2_with fail
  refine (new_any _).mono ?_
  rintro e w1 ⟨rfl, hw1⟩
  obtain ⟨o1, n1, p1⟩ := new_own s0 (i := 1) (by decide)
  rw [← hw1] at n1 p1
  clear hw1 s0
  generalize w0.heap.size = gn at n1
  go_wp2_with fail
  obtain ⟨o2, m2, p2⟩ := new_ref p1.st
  have n2 := n1.other p2 (by decide) (by decide)
  clear n1 p1
  generalize w1.alloc (.cells #[.slice none 0 0, .int .i64 0] 51) = w2 at *
  generalize w1.heap.size = gm at *
  cases hfew : fewB ops 600 with
  | false =>
    have HF := Lib.hid hfew
    clear hfew
    refine (few_is 600 600 false A c ops _ (OpsAt.below HA.out p2.st.fr) rfl HF.out).mono ?_
    rintro e w3 ⟨rfl, rfl⟩
    have hfin := Lib.hid p2.st.fr
    clear p2 n2 m2
    go_wp2_with fail
    go_ret
    exact ⟨rfl, hfin.out⟩
  | true =>
    have HF := Lib.hid hfew
    have hlen : ops.length ≤ 600 := by simp [fewB] at hfew; exact hfew.2
    clear hfew
    refine (few_is 600 600 true A c ops _ (OpsAt.below HA.out p2.st.fr) rfl HF.out).mono ?_
    rintro e w3 ⟨rfl, rfl⟩
    go_wp2_with fail
    refine (copy_any gn [] 0 _ _ n2 (by simp)).mono ?_
    intro e w3 hp
    obtain ⟨gc, o3, rfl, c3, p3⟩ := hp.mine (i := 3) p2.st (by decide)
    have n3 := n2.other p3 (by decide) (by decide)
    have m3 := m2.other p3 (by decide) (by decide)
    clear hp n2 m2 p2
    go_wp2_with fail
    refine (rcopy_any gm [] 0 _ _ m3 (by simp)).mono ?_
    intro e w4 hp
    obtain ⟨gd, o4, rfl, d4, p4⟩ := hp.mine (i := 4) p3.st (by decide)
    have n4 := n3.other p4 (by decide) (by decide)
    have m4 := m3.other p4 (by decide) (by decide)
    have c4 := c3.other p4 (by decide) (by decide)
    have hst : Hid (RelT w gn gm 0 (.pointer (some ⟨gc, 0, none⟩)) (.pointer (some ⟨gd, 0, none⟩)) w4) := ⟨o4, [], 0, [], 0, gc, gd, p4.st, n4, m4, c4, d4, rfl, rfl, Nat.le_refl _, Nat.le_refl _⟩
    clear hp n3 m3 p3 c3 n4 m4 c4 d4 p4
    go_wp2_with fail
    go_loopw [12, 13, 14] (fun u v i wr => ∃ k : Nat, k ≤ ops.length ∧ i = .int .i64 k ∧ RelT w gn gm k u v wr) (fun _ _ i _ => ops.length - (intOf i).toNat)
    case atStart => exact ⟨0, Nat.zero_le _, rfl, hst.out⟩
    case round =>
      obtain ⟨k, hk, rfl, own, ps, s, qs, t, gc, gd, st, nt, mt, ct, dt, rfl, rfl, lp, lq⟩ := hrel
      by_cases hlt : k < ops.length
      · obtain ⟨op, hop⟩ : ∃ op, ops[k]? = some op := ⟨_, List.getElem?_eq_getElem hlt⟩
        have hz : (k : Int) < (ops.length : Int) := by omega
        have HO := Lib.hid hop
        clear hop hlt hst
        cases hat : ((k : Int) == at') with
        | true =>
          go_wp2_with fail
          refine (copy_any gn ps s _ _ nt (by omega)).mono ?_
          intro e w3 hp
          obtain ⟨gc2, own3, rfl, ct3, p3⟩ := hp.mine (i := 3) st (by decide)
          have nt3 := nt.other p3 (by decide) (by decide)
          have mt3 := mt.other p3 (by decide) (by decide)
          clear hp nt mt ct dt st
          go_wp2_with fail
          refine (rcopy_any gm ps s _ _ mt3 (by omega)).mono ?_
          intro e w4 hp
          obtain ⟨gd2, own4, rfl, dt4, p4⟩ := hp.mine (i := 4) p3.st (by decide)
          have nt4 := nt3.other p4 (by decide) (by decide)
          have mt4 := mt3.other p4 (by decide) (by decide)
          have ct4 := ct3.other p4 (by decide) (by decide)
          have st4 := p4.st
          clear hp nt3 mt3 ct3 p3 p4
          obtain ⟨bb, oo, rfl, hb, a1, a2, a3, a4⟩ := (OpsAt.below HA.out st4.fr) k _ HO.out
          go_wp2_with fail
          refine (do_any gn ps s op _ _ nt4).mono ?_
          intro e w5 hp
          obtain ⟨rfl, own5, nt5, p5⟩ := hp.mine st4 (by decide)
          have mt5 := mt4.other p5 (by decide) (by decide)
          have ct5 := ct4.other p5 (by decide) (by decide)
          have dt5 := dt4.other p5 (by decide) (by decide)
          have st5 := p5.st
          have hb5 : bb < w5.heap.size := Nat.lt_of_lt_of_le hb p5.size
          obtain ⟨bb', oo', e1, -, x1, x2, x3, x4⟩ := (OpsAt.below HA.out st5.fr) k _ HO.out
          simp only [Option.some.injEq, Addr.mk.injEq] at e1
          obtain ⟨rfl, rfl, -⟩ := e1
          clear hp nt4 mt4 ct4 dt4 st4 p5 a1 a2 a3 a4 hb
          unfold Pkt.agg
          go_wp2_with fail
          refine (model_any gm ps s op _ _ (mt5.alloc _) (by omega)).mono ?_
          intro e w6 hp
          obtain ⟨rfl, own6, mt6, p6⟩ := hp.mine (st5.alloc _) (by decide)
          have nt6 := (nt5.alloc _).other p6 (by decide) (by decide)
          have ct6 := (ct5.alloc _).other p6 (by decide) (by decide)
          have dt6 := (dt5.alloc _).other p6 (by decide) (by decide)
          have st6 := p6.st
          have ox := st5.hi _ (Nat.le_refl _)
          obtain ⟨bx, -⟩ := (Blk.new w5 34 #[.int .i64 (doP ps s op).f, .int .i64 (doP ps s op).t, .string (doP ps s op).b]).other p6 (by omega)
          generalize w5.heap.size = gx at *
          clear hp nt5 mt5 ct5 dt5 st5 p6 x1 x2 x3 x4 hb5 ox
          have lx := bx.lt
          have y1 : w6.cell? ⟨gx, 0, none⟩ = some (.int .i64 (doP ps s op).f) := bx.cell 0
          have y2 : w6.cell? ⟨gx, 1, none⟩ = some (.int .i64 (doP ps s op).t) := bx.cell 1
          have y3 : w6.cell? ⟨gx, 2, none⟩ = some (.string (doP ps s op).b) := bx.cell 2
          obtain ⟨A7, c7, hm0, -⟩ := mt6.c0
          have lm := mt6.lt
          have NT := Lib.hid (nt6.alloc (.cells #[.int .i64 (doP ps s op).f, .int .i64 (doP ps s op).t, .string (doP ps s op).b] 34))
          have MT := Lib.hid (mt6.alloc (.cells #[.int .i64 (doP ps s op).f, .int .i64 (doP ps s op).t, .string (doP ps s op).b] 34))
          have hL := len_doL ps s op
          have hend : Hid (∀ n, RelT w gn gm (k + 1) (.pointer (some ⟨gc2, 0, none⟩)) (.pointer (some ⟨gd2, 0, none⟩)) ((w6.alloc (.cells #[.int .i64 (doP ps s op).f, .int .i64 (doP ps s op).t, .string (doP ps s op).b] 34)).drewN n)) := fun n =>
            ⟨own6, doL ps s op, doS s op, ps, s, gc2, gd2, (st6.alloc _).drewN n, NT.out.drewN n, MT.out.drewN n, (ct6.alloc _).drewN n, (dt6.alloc _).drewN n, rfl, rfl, by omega, by omega⟩
          have hq := fun W => run_neq_pkt W (doP ps s op) (doP ps s op) false (by simp)
          clear nt6 mt6 ct6 dt6 st6 bx
          cases hh : hearB (doS s op) a b
          all_goals
            have HH := Lib.hid hh
            clear hh
            unfold Pkt.agg
            go_wp2_with fail
            go_quiet (first
              | (go_at_call 17; exact Calls.quiet_of_same (count_any _ _ _ _ _ (NT.out.drewN _)))
              | (go_at_call 15; exact Calls.quiet_of (hear_is _ _ _ _ _ _ (NetAt.c1 (NT.out.drewN _)) HH.out))
              | (go_at_call 24; exact Calls.quiet_of_same ((rhear_is _ _ _ _ _ _ (NetAt.c1 (MT.out.drewN _)) HH.out).mono (fun _ _ ⟨h1, h2⟩ => ⟨h1, h2.symm⟩))))
            clear hq y1 y2 y3 hm0
            go_wp2_with fail
            go_roundw
            case rel => exact ⟨k + 1, by omega, by go_num, hend.out _⟩
            case measure => simp [intOf]; omega
        | false =>
          obtain ⟨w4, rfl⟩ : ∃ w', w' = wr := ⟨_, rfl⟩
          obtain ⟨own4, rfl⟩ : ∃ w', w' = own := ⟨_, rfl⟩
          have nt4 := nt
          have mt4 := mt
          have ct4 := ct
          have dt4 := dt
          have st4 := st
          clear nt mt ct dt st
          obtain ⟨bb, oo, rfl, hb, a1, a2, a3, a4⟩ := (OpsAt.below HA.out st4.fr) k _ HO.out
          go_wp2_with fail
          refine (do_any gn ps s op _ _ nt4).mono ?_
          intro e w5 hp
          obtain ⟨rfl, own5, nt5, p5⟩ := hp.mine st4 (by decide)
          have mt5 := mt4.other p5 (by decide) (by decide)
          have ct5 := ct4.other p5 (by decide) (by decide)
          have dt5 := dt4.other p5 (by decide) (by decide)
          have st5 := p5.st
          have hb5 : bb < w5.heap.size := Nat.lt_of_lt_of_le hb p5.size
          obtain ⟨bb', oo', e1, -, x1, x2, x3, x4⟩ := (OpsAt.below HA.out st5.fr) k _ HO.out
          simp only [Option.some.injEq, Addr.mk.injEq] at e1
          obtain ⟨rfl, rfl, -⟩ := e1
          clear hp nt4 mt4 ct4 dt4 st4 p5 a1 a2 a3 a4 hb
          unfold Pkt.agg
          go_wp2_with fail
          refine (model_any gm ps s op _ _ (mt5.alloc _) (by omega)).mono ?_
          intro e w6 hp
          obtain ⟨rfl, own6, mt6, p6⟩ := hp.mine (st5.alloc _) (by decide)
          have nt6 := (nt5.alloc _).other p6 (by decide) (by decide)
          have ct6 := (ct5.alloc _).other p6 (by decide) (by decide)
          have dt6 := (dt5.alloc _).other p6 (by decide) (by decide)
          have st6 := p6.st
          have ox := st5.hi _ (Nat.le_refl _)
          obtain ⟨bx, -⟩ := (Blk.new w5 34 #[.int .i64 (doP ps s op).f, .int .i64 (doP ps s op).t, .string (doP ps s op).b]).other p6 (by omega)
          generalize w5.heap.size = gx at *
          clear hp nt5 mt5 ct5 dt5 st5 p6 x1 x2 x3 x4 hb5 ox
          have lx := bx.lt
          have y1 : w6.cell? ⟨gx, 0, none⟩ = some (.int .i64 (doP ps s op).f) := bx.cell 0
          have y2 : w6.cell? ⟨gx, 1, none⟩ = some (.int .i64 (doP ps s op).t) := bx.cell 1
          have y3 : w6.cell? ⟨gx, 2, none⟩ = some (.string (doP ps s op).b) := bx.cell 2
          obtain ⟨A7, c7, hm0, -⟩ := mt6.c0
          have lm := mt6.lt
          have NT := Lib.hid (nt6.alloc (.cells #[.int .i64 (doP ps s op).f, .int .i64 (doP ps s op).t, .string (doP ps s op).b] 34))
          have MT := Lib.hid (mt6.alloc (.cells #[.int .i64 (doP ps s op).f, .int .i64 (doP ps s op).t, .string (doP ps s op).b] 34))
          have hL := len_doL ps s op
          have hend : Hid (∀ n, RelT w gn gm (k + 1) (.pointer (some ⟨gc, 0, none⟩)) (.pointer (some ⟨gd, 0, none⟩)) ((w6.alloc (.cells #[.int .i64 (doP ps s op).f, .int .i64 (doP ps s op).t, .string (doP ps s op).b] 34)).drewN n)) := fun n =>
            ⟨own6, doL ps s op, doS s op, qs, t, gc, gd, (st6.alloc _).drewN n, NT.out.drewN n, MT.out.drewN n, (ct6.alloc _).drewN n, (dt6.alloc _).drewN n, rfl, rfl, by omega, by omega⟩
          have hq := fun W => run_neq_pkt W (doP ps s op) (doP ps s op) false (by simp)
          clear nt6 mt6 ct6 dt6 st6 bx
          cases hh : hearB (doS s op) a b
          all_goals
            have HH := Lib.hid hh
            clear hh
            unfold Pkt.agg
            go_wp2_with fail
            go_quiet (first
              | (go_at_call 17; exact Calls.quiet_of_same (count_any _ _ _ _ _ (NT.out.drewN _)))
              | (go_at_call 15; exact Calls.quiet_of (hear_is _ _ _ _ _ _ (NetAt.c1 (NT.out.drewN _)) HH.out))
              | (go_at_call 24; exact Calls.quiet_of_same ((rhear_is _ _ _ _ _ _ (NetAt.c1 (MT.out.drewN _)) HH.out).mono (fun _ _ ⟨h1, h2⟩ => ⟨h1, h2.symm⟩))))
            clear hq y1 y2 y3 hm0
            go_wp2_with fail
            go_roundw
            case rel => exact ⟨k + 1, by omega, by go_num, hend.out _⟩
            case measure => simp [intOf]; omega
      · have hz : ¬ (k : Int) < (ops.length : Int) := by omega
        obtain ⟨A1, c1, hm0, rm⟩ := mt.c0
        obtain ⟨A2, c2, hd0, rd⟩ := dt.c0
        have NT := Lib.hid nt
        have MT := Lib.hid mt
        have CT := Lib.hid ct
        have DT := Lib.hid dt
        have RM := Lib.hid rm
        have RD := Lib.hid rd
        have hs0 := Lib.hid st.fr
        clear nt mt ct dt rm rd st hst
        have lm := MT.out.lt
        have ld := DT.out.lt
        go_wp2_with fail
        go_region_held3 (fun w' => w'.cell? ⟨gm, 0, none⟩ = some (.slice A1 ps.length c1) ∧ w'.cell? ⟨gd, 0, none⟩ = some (.slice A2 qs.length c2) ∧ Fr (fun _ => False) wr w') (first | exact hold3 lm ld hm0 hd0 (by assumption) | exact hold3 lm ld hm0 hd0 (Fr.drew (Fr.refl _ _)) | exact hold3 lm ld hm0 hd0 (Fr.refl _ _))
          (first
            | (go_at_call_of 13 (Value.pointer (some ⟨gn, 0, none⟩)); refine (list_held NT.out (by omega) ?_).mono ?_; (first | exact Fr.drew (Fr.refl _ _) | assumption); rintro e w8 ⟨A8, c8, rfl, hf8, r8⟩; have R8 := Lib.hid r8; clear r8)
            | (go_at_call_of 13 (Value.pointer (some ⟨gc, 0, none⟩)); refine (list_held CT.out (by omega) ?_).mono ?_; (first | exact Fr.drew (Fr.refl _ _) | assumption); rintro e w9 ⟨A9, c9, rfl, hf9, r9⟩; have R9 := Lib.hid r9; clear r9)
            | (go_at_call_of 12 (Value.slice A8 ps.length c8); refine (same_held R8.out RM.out (by omega) (by assumption)).mono ?_; rintro e w10 ⟨rfl, hf10⟩)
            | (go_at_call_of 12 (Value.slice A9 qs.length c9); refine (same_held R9.out RD.out (by omega) (by assumption)).mono ?_; rintro e w11 ⟨rfl, hf11⟩)
            | (go_at_call 15; refine (hear_held a b CT.out (by assumption)).mono ?_; rintro e w12 ⟨rfl, hf12⟩)
            | (go_at_call 24; refine (rhear_held a b DT.out (by assumption)).mono ?_; rintro e w13 ⟨rfl, hf13⟩))
        all_goals
          have hfin := Lib.hid (hs0.out.trans (hf13.below hs0.out.size (fun _ h => h.elim)))
          clear hf8 hf9 hf10 hf11 hf12 hf13
          go_wp2_with fail
          go_ret
          exact ⟨rfl, hfin.out⟩
end Go.Proofs.Ytbkloadgbicbeaa
