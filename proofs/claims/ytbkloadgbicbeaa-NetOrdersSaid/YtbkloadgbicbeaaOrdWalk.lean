import Derived.Test.YtbkloadgbicbeaaOrd0
namespace Go.Proofs.Ytbkloadgbicbeaa
open Go.RowKit

def Good (w : World) (e : Ending) (w' : World) : Prop := e = .returned (.bool true) ∧ Below w.heap.size w w'

/-- The relation of the first loop. -/
def Rel1 (W : World) (gn : Nat) (ops : List OpV) (k : Nat) (v : Value) (wr : World) : Prop :=
  ∃ own ps, ps = (ops.take k).map pktOf ∧ St W wr own ∧ NetAt wr (fun b => own b = 1) 56 gn ps 0 ∧ Row wr (fun b => own b = 2) 34 3 v ps.length (pcells ps)
theorem row_fresh (w : World) : Row (w.alloc (.cells #[] 34)).drew (fun b => b = w.heap.size) 34 3 (.slice (some ⟨w.heap.size, 0, none⟩) 0 0) 0 [] :=
  ⟨⟨rfl, .inr ⟨w.heap.size, 0, #[], rfl, Nat.zero_le _, Blk.new w 34 #[], Nat.le_refl _, Nat.zero_le _, rfl, rfl⟩⟩, by simp [Value.ownBlock, eq_comm]⟩
theorem pcells_take (ps : List Pkt) (k : Nat) : pcells (ps.take k) = (pcells ps).take (k * 3) := by
  induction ps generalizing k with
  | nil => simp [pcells]
  | cons p ps ih =>
    cases k with
    | zero => simp [pcells]
    | succ k => rw [List.take_succ_cons, pcells_cons, pcells_cons, ih k, show (k + 1) * 3 = k * 3 + 3 by omega]; simp
theorem pcells_drop (ps : List Pkt) (k : Nat) : pcells (ps.drop k) = (pcells ps).drop (k * 3) := by
  induction ps generalizing k with
  | nil => simp [pcells]
  | cons p ps ih =>
    cases k with
    | zero => simp
    | succ k => rw [List.drop_succ_cons, pcells_cons, ih k, show (k + 1) * 3 = k * 3 + 3 by omega]; simp
theorem rd_head {w : World} {F : Nat → Prop} {g n c k : Nat} {ws : List Pkt} (h : Row w F 34 3 (.slice (some ⟨g, 0, none⟩) n c) n (pcells ws)) (hk : k ≤ n) : Rd w 3 (some ⟨g, 0, none⟩) k (pcells (ws.take k)) := by
  have hl := h.1.1
  rw [length_pcells] at hl
  refine ⟨by rw [length_pcells]; simp; omega, fun _ => ⟨_, rfl, fun j u hu => ?_⟩⟩
  rw [pcells_take, List.getElem?_take] at hu
  split at hu
  · exact h.1.cells rfl j u hu
  · simp at hu
theorem rd_rest {w : World} {F : Nat → Prop} {g n c k : Nat} {ws : List Pkt} (h : Row w F 34 3 (.slice (some ⟨g, 0, none⟩) n c) n (pcells ws)) (hk : k < n) :
    ∃ A2, (if c = k + 1 then some (⟨g, 0, none⟩ : Addr) else some ⟨g, (k + 1) * 3, none⟩) = A2 ∧ ∀ w', Fr (Own (.slice (some ⟨w.heap.size, 0, none⟩) 0 0)) (w.alloc (.cells #[] 34)).drew w' → Rd w' 3 A2 (n - (k + 1)) (pcells (ws.drop (k + 1))) := by
  have hl := h.1.1
  rw [length_pcells] at hl
  have hlt : g < w.heap.size := h.lt (by simp [Value.ownBlock])
  obtain ⟨A', c', e, h1, h2⟩ := h.form
  simp only [Value.slice.injEq, true_and] at e
  obtain ⟨-, rfl⟩ := e
  refine ⟨_, rfl, fun w' hf => ⟨by rw [length_pcells]; simp; omega, fun hn => ?_⟩⟩
  rw [if_neg (by omega)]
  refine ⟨_, rfl, fun j u hu => ?_⟩
  rw [pcells_drop, List.getElem?_drop] at hu
  have := h.1.cells (g := g) rfl _ u hu
  rw [Addr.add_lit] at this ⊢
  simp only [Nat.zero_add] at this
  rw [hf.cell (p := ⟨g, (k + 1) * 3 + j, none⟩) (by simp; omega) (by simp [Own, Value.ownBlock]; omega)]
  rw [← this]
  exact World.cell?_alloc_lt w _ _ hlt
/-- The relation of the second loop. -/
def Rel2 (W : World) (gn : Nat) (v : Value) (wr : World) : Prop :=
  ∃ own ws, St W wr own ∧ NetAt wr (fun b => own b = 1) 56 gn ws 0 ∧ Row wr (fun b => own b = 2) 34 3 v ws.length (pcells ws) ∧ ws.length ≤ 30 ∧ ∀ p ∈ ws, hearB 0 p.f p.t = true
theorem rel2_next {W wq w4 w5 w6 : World} {gn k : Nat} {own : Nat → Nat} {ws : List Pkt} {v1 v2 : Value} (st : St W wq own) (nt : NetAt wq (fun b => own b = 1) 56 gn (ws.eraseIdx k) 0) (hk : k < ws.length) (hw30 : ws.length ≤ 30) (hear : ∀ p ∈ ws, hearB 0 p.f p.t = true)
    (r1 : Row w4 (Grow (fun b => b = wq.heap.size) (wq.alloc (.cells #[] 34)).drew w4) 34 3 v1 (0 + k) ([] ++ pcells (ws.take k))) (f1 : Fr (Own (.slice (some ⟨wq.heap.size, 0, none⟩) 0 0)) (wq.alloc (.cells #[] 34)).drew w4)
    (r2 : Row w5 (Grow (Grow (fun b => b = wq.heap.size) (wq.alloc (.cells #[] 34)).drew w4) w4 w5) 34 3 v2 (0 + k + (ws.length - (k + 1))) ([] ++ pcells (ws.take k) ++ pcells (ws.drop (k + 1)))) (f2 : Fr (Own v1) w4 w5) (hw : w6 = w5) : Rel2 W gn v2 w6 := by
  subst hw
  have hs1 : wq.heap.size + 1 ≤ w4.heap.size := by simpa using f1.size
  have hs2 := f2.size
  have hf : Fr (fun b => own b = 2) wq w6 := by
    refine (((Fr.refl _ wq).alloc (.cells #[] 34)).drew.trans' f1 fun i hi h => ?_).trans' f2 fun i hi h => ?_
    · have : wq.heap.size = i := by simpa [Own, Value.ownBlock] using h
      omega
    · rcases r1.2 i h with h | h
      · omega
      · simp at h; omega
  obtain ⟨own', p, hown⟩ := st.step (i := 2) (by decide) hf
  have he : ws.eraseIdx k = ws.take k ++ ws.drop (k + 1) := List.eraseIdx_eq_take_drop_succ ws k
  have hl : (ws.eraseIdx k).length = 0 + k + (ws.length - (k + 1)) := by rw [he]; simp; omega
  refine ⟨own', ws.eraseIdx k, p.st, nt.other p (by decide) (by decide), ?_, by omega, fun q hq => hear q (List.mem_of_mem_eraseIdx hq)⟩
  rw [hl, he, pcells_append]
  refine r2.more fun b _ h => (hown b).2 ?_
  rcases h with (h | h) | h
  · exact .inr (by omega)
  · simp at h; exact .inr (by omega)
  · exact .inr (by omega)
theorem rel2_start {W wr : World} {gn : Nat} {own : Nat → Nat} {ops : List OpV} {k : Nat} {ps : List Pkt} {v : Value} (hps : ps = (ops.take k).map pktOf) (hl : ps.length ≤ 30) (st : St W wr own) (nt : NetAt wr (fun b => own b = 1) 56 gn ps 0) (rw : Row wr (fun b => own b = 2) 34 3 v ps.length (pcells ps)) : Rel2 W gn v wr := by
  refine ⟨own, ps, st, nt, rw, hl, fun p hp => ?_⟩
  rw [hps] at hp
  obtain ⟨op, -, rfl⟩ := List.mem_map.1 hp
  obtain ⟨h1, h2, -⟩ := pkt_ok op
  exact hear0 h1 h2
theorem take_one {ops : List OpV} {k : Nat} {op : OpV} (h : ops[k]? = some op) : (ops.take (k + 1)).map pktOf = (ops.take k).map pktOf ++ [pktOf op] := by
  obtain ⟨hlt, rfl⟩ := List.getElem?_eq_some_iff.1 h
  rw [List.take_succ_eq_append_getElem hlt, List.map_append]; rfl
theorem len_take {ops : List OpV} {ps : List Pkt} {k : Nat} (h : ps = (ops.take k).map pktOf) (hk : k ≤ ops.length) : ps.length = k := by subst h; simp; omega
theorem OpsAt.s_ {w w' : World} {b o k : Nat} {ops : List OpV} {op : OpV} (h : OpsAt w (some ⟨b, o, none⟩) ops) (hb : Below w.heap.size w w') (hk : ops[k]? = some op) : w'.cell? ⟨b, o + k * 4 + 3, none⟩ = some (.string op.s) := by
  obtain ⟨b', o', e1, -, -, -, -, h4⟩ := (h.below hb) k _ hk
  simp only [Option.some.injEq, Addr.mk.injEq] at e1
  obtain ⟨rfl, rfl, -⟩ := e1
  exact h4
theorem rel1_next {W w2 w3 w4 : World} {gn k : Nat} {ops : List OpV} {op : OpV} {own2 : Nat → Nat} {ps : List Pkt} {v v' : Value} {o : Obj} (hps : ps = (ops.take k).map pktOf) (hop : ops[k]? = some op) (st : St W w2 own2) (nt : NetAt w2 (fun b => own2 b = 1) 56 gn (ps ++ [pktOf op]) 0)
    (rw2 : Row w2 (fun b => own2 b = 2) 34 3 v ps.length (pcells ps)) (h3 : Row w3 (Grow (fun b => own2 b = 2) (w2.alloc o) w3) 34 3 v' (ps.length + 1) (pcells ps ++ pcells [pktOf op])) (hf : Fr (Own v) (w2.alloc o) w3) (hw : w4 = w3) : Rel1 W gn ops (k + 1) v' w4 := by
  subst hw
  obtain ⟨own3, r3, p3⟩ := (rw2.alloc o).mine (st.alloc o) (by decide) h3 hf
  refine ⟨own3, ps ++ [pktOf op], by rw [take_one hop, hps], p3.st, (nt.alloc o).other p3 (by decide) (by decide), ?_⟩
  simpa [pcells_append] using r3

set_option maxRecDepth 100000 in
set_option maxHeartbeats 3200000 in
theorem orders_walk (A B : Option Addr) (c d : Nat) (ops : List OpV) (picks : List Int) (w : World) (hA : OpsAt w A ops) (hB : PicksAt w B picks) :
    Calls Try.prog 3 #[.slice A ops.length c, .slice B picks.length d] w (Good w) := by
  have HA := Lib.hid hA
  have HB := Lib.hid hB
  clear hA hB
  go_enter Try.func3, Try.ntmps3
  go_wp2_with fail
  refine (small_any _).mono ?_
  rintro e w0 ⟨rfl, hb0⟩
  have s0 : St w w0 (fun _ => 0) := ⟨fun _ _ => rfl, fun _ _ => rfl, hb0⟩
  clear hb0
  go_wp2_with fail
  refine (new_any _).mono ?_
  rintro e w1 ⟨rfl, hw1⟩
  obtain ⟨o1, n1, p1⟩ := new_own s0 (i := 1) (by decide)
  rw [← hw1] at n1 p1
  clear hw1 s0
  generalize w0.heap.size = gn at n1
  go_wp2_with fail
  cases hfew : fewB ops 30 with
  | false =>
    have HF := Lib.hid hfew
    clear hfew
    refine (few_is 30 30 false A c ops _ (OpsAt.below HA.out p1.st.fr) rfl HF.out).mono ?_
    rintro e w2 ⟨rfl, rfl⟩
    have hfin := Lib.hid p1.st.fr
    clear p1 n1
    go_wp2_with fail
    go_ret
    exact ⟨rfl, hfin.out⟩
  | true =>
    have HF := Lib.hid hfew
    have hlen : ops.length ≤ 30 := by simp [fewB] at hfew; exact hfew.2
    clear hfew
    refine (few_is 30 30 true A c ops _ (OpsAt.below HA.out p1.st.fr) rfl HF.out).mono ?_
    rintro e w2 ⟨rfl, rfl⟩
    by_cases hpk : picks.length ≤ 30
    · have hpk' : decide ((30 : Int) < (picks.length : Int)) = false := by simp; omega
      go_wp2_with fail
      have hst : Hid (Rel1 w gn ops 0 (.slice none 0 0) w1) := ⟨o1, [], rfl, p1.st, n1, Row.nil _ _ _ _⟩
      clear n1 p1 hpk'
      go_loopw [7, 8] (fun v i wr => ∃ k : Nat, k ≤ ops.length ∧ i = .int .i64 k ∧ Rel1 w gn ops k v wr) (fun _ i _ => ops.length - (intOf i).toNat)
      case atStart => exact ⟨0, Nat.zero_le _, rfl, hst.out⟩
      case round =>
        obtain ⟨k, hk, rfl, own, ps, hps, st, nt, rw⟩ := hrel
        have hpl := len_take hps hk
        have HPS := Lib.hid hps
        have HPL := Lib.hid hpl
        by_cases hlt : k < ops.length
        · obtain ⟨op, hop⟩ : ∃ op, ops[k]? = some op := ⟨_, List.getElem?_eq_getElem hlt⟩
          obtain ⟨b, o, rfl, hb, -, a2, a3, a4⟩ := (OpsAt.below HA.out st.fr) k _ hop
          have hsend := Lib.hid (send_ok ps op (by omega))
          have hL : Hid (sendL ps 0 (fromOf op) (toOf op) op.s = ps ++ [pktOf op]) := by
            show _ = _
            rw [sendL, hsend.out, if_pos rfl]; rfl
          have hbd : 0 ≤ bits .and .i64 op.n 15 ∧ bits .and .i64 op.n 15 ≤ 15 := by rw [and15]; omega
          have hbd2 : 0 ≤ bits .and .i64 op.t 7 ∧ bits .and .i64 op.t 7 ≤ 7 := by rw [and7]; omega
          obtain ⟨q1, q2⟩ := hbd
          obtain ⟨q3, q4⟩ := hbd2
          have hz : (k : Int) < (ops.length : Int) := by omega
          have HO := Lib.hid hop
          have hp30 : ps.length ≤ 30 := by omega
          obtain ⟨A', c', rfl, -, -⟩ := rw.form
          clear hps hpl hop hlt
          go_wp2_with fail
          refine (send_any gn _ 0 _ _ _ _ _ nt).mono ?_
          intro e w2 hp
          obtain ⟨rfl, own2, nt2, p2⟩ := (hp.is (r' := .int .i64 0) (ps' := ps ++ [pktOf op]) (congrArg (Value.int .i64) hsend.out) hL.out rfl).mine st (by decide)
          have rw2 := rw.other p2 (by decide) (by decide)
          have f4 := OpsAt.s_ HA.out p2.st.fr HO.out
          have hb2 : b < w2.heap.size := Nat.lt_of_lt_of_le hb p2.size
          have NT := Lib.hid nt2
          have RW := Lib.hid rw2
          clear hp nt nt2 rw rw2 a2 a3 a4 st hb
          go_wp2_with (at_builtin; refine wpList_append_row _ rfl (.tmp 66) (.tmp 75) 28 rfl 34 _ 3 32 pkt_elem _ _ _ _ rfl (Row.alloc RW.out _) _ 1 1 (pcells [pktOf op]) rfl ?c1 (pcells_ok _) ?c2 ?_)
          case c1 => exact rd_new3 _ _ _ _ _
          case c2 => omega
          intro v' w3 hrow3 hfr3
          have hend := Lib.hid (fun w4 hw => rel1_next (w4 := w4) HPS.out HO.out p2.st NT.out RW.out hrow3 hfr3 hw)
          obtain ⟨A3, c3, rfl, -, -⟩ := hrow3.form
          clear hrow3 hfr3 p2
          go_wp2_with fail
          go_roundw
          case rel => exact ⟨k + 1, by omega, by go_num, hend.out _ rfl⟩
          case measure => simp [intOf]; omega
        · have hz : ¬ (k : Int) < (ops.length : Int) := by omega
          have hr2 := Lib.hid (rel2_start hps (by omega) st nt rw)
          clear hps hpl HPS HPL st nt rw hst
          obtain ⟨wr1, rfl⟩ : ∃ w', w' = wr := ⟨_, rfl⟩
          go_wp2_with fail
          go_loopw [7, 11] (fun v i wr => ∃ m : Nat, m ≤ picks.length ∧ i = .int .i64 m ∧ Rel2 w gn v wr) (fun _ i _ => picks.length - (intOf i).toNat)
          case atStart => exact ⟨0, Nat.zero_le _, rfl, hr2.out⟩
          case round =>
            obtain ⟨m, hm, rfl, own, ws, st, nt, rw, hw30, hear⟩ := hrel
            have HH := Lib.hid hear
            clear hear
            by_cases hlt : m < picks.length
            · obtain ⟨p0, hp0⟩ : ∃ p0, picks[m]? = some p0 := ⟨_, List.getElem?_eq_getElem hlt⟩
              obtain ⟨b, o, rfl, hb, a1⟩ := (PicksAt.below HB.out st.fr) m _ hp0
              have hz : (m : Int) < (picks.length : Int) := by omega
              obtain ⟨A', c', rfl, hc1, hc2⟩ := rw.form
              unfold maxLen at hc2
              clear hp0 hlt
              go_wp2_with fail
              refine (deliver_any gn ws 0 p0 _ _ nt).mono ?_
              intro e w2 hp
              cases hat : at? ws p0 with
              | none =>
                obtain ⟨hout, hcut⟩ := at?_none hat
                obtain ⟨rfl, own2, nt2, p2⟩ := (hp.is (r' := .tuple #[.agg #[.int .i64 0, .int .i64 0, .string ⟨#[]⟩], .int .i64 4]) (ps' := ws) (by simp [delP, delE, hat, Pkt.agg, pkt0]) hcut rfl).mine st (by decide)
                have rw2 := rw.other p2 (by decide) (by decide)
                have hend : Hid (∀ o, Rel2 w gn (.slice A' ws.length c') (w2.alloc o)) := fun o => ⟨own2, ws, p2.st.alloc o, nt2.alloc o, rw2.alloc o, hw30, HH.out⟩
                clear hp nt nt2 rw rw2 p2 st hat hcut
                rcases hout with hout | hout
                · go_wp2_with fail
                  go_roundw
                  case rel => exact ⟨m + 1, by omega, by go_num, hend.out _⟩
                  case measure => simp [intOf]; omega
                · have hout2 : ¬ p0 < 0 := by omega
                  go_wp2_with fail
                  go_roundw
                  case rel => exact ⟨m + 1, by omega, by go_num, hend.out _⟩
                  case measure => simp [intOf]; omega
              | some q =>
                obtain ⟨k, rfl, hk, hcut⟩ := at?_some hat
                have hkl : k < ws.length := (List.getElem?_eq_some_iff.1 hk).1
                have hqh := HH.out q (List.mem_of_getElem? hk)
                obtain ⟨rfl, own2, nt2, p2⟩ := (hp.is (r' := .tuple #[.agg #[.int .i64 q.f, .int .i64 q.t, .string q.b], .int .i64 0]) (ps' := ws.eraseIdx k) (by simp [delP, delE, hat, Pkt.agg, hqh]) hcut rfl).mine st (by decide)
                have rw2 := rw.other p2 (by decide) (by decide)
                obtain ⟨g2, c2, e2, og2, lg2, hcap, hcapm, hcells⟩ := rw2.at (by omega)
                simp only [Value.slice.injEq, true_and] at e2
                obtain ⟨rfl, rfl⟩ := e2
                obtain ⟨x1, x2, x3⟩ := pcells_at ws k q hk
                have y1 := hcells _ _ x1
                have y2 := hcells _ _ x2
                have y3 := hcells _ _ x3
                have RW := Lib.hid rw2
                have NT := Lib.hid nt2
                have ST := Lib.hid p2.st
                have HK := Lib.hid hk
                have z1 : (k : Int) < (ws.length : Int) := by omega
                have z2 : ¬ ((k : Int) < 0) := by omega
                clear hp nt nt2 rw rw2 p2 st hat hcut x1 x2 x3 hcells hk hqh
                go_wp2_with fail
                go_quiet (fail)
                go_wp2_with fail
                replace RW : Hid (Row ((w2.alloc (.cells #[.int .i64 q.f, .int .i64 q.t, .string q.b] 34)).drewN nq) (fun k => own2 k = 2) 34 3 (.slice (some ⟨g2, 0, none⟩) ws.length c') ws.length (pcells ws)) := (RW.out.alloc _).drewN nq
                replace NT : Hid (NetAt ((w2.alloc (.cells #[.int .i64 q.f, .int .i64 q.t, .string q.b] 34)).drewN nq) (fun k => own2 k = 1) 56 gn (ws.eraseIdx k) 0) := (NT.out.alloc _).drewN nq
                replace ST : Hid (St w ((w2.alloc (.cells #[.int .i64 q.f, .int .i64 q.t, .string q.b] 34)).drewN nq) own2) := (ST.out.alloc _).drewN nq
                clear y1 y2 y3 lg2 a1 hb
                generalize hwq : (w2.alloc (.cells #[.int .i64 q.f, .int .i64 q.t, .string q.b] 34)).drewN nq = wq at *
                clear hwq
                obtain ⟨A2, hA2, rd2⟩ := rd_rest (k := k) RW.out hkl
                have rd1 := Lib.hid (rd_head (k := k) RW.out (by omega))
                have RD2 := Lib.hid rd2
                have hz1 : (0 : Int) ≤ (k : Int) + 1 := by omega
                have hz2 : (k : Int) + 1 ≤ (ws.length : Int) := by omega
                have hz3 : k ≤ c' := by omega
                have hz4 : k + 1 ≤ c' := by omega
                clear rd2
                have htn : ((k : Int) + 1).toNat = k + 1 := by omega
                have hwr : IntKind.i64.wrap ((k : Int) + 1) = (k : Int) + 1 := IntWalk.i64_in _ (by omega)
                go_region_law (first
                  | (refine step_append_row _ rfl (.tmp 113) (.tmp 116) 28 rfl 34 _ 3 32 pkt_elem (fun b => b = wq.heap.size) (.slice (some ⟨wq.heap.size, 0, none⟩) 0 0) 0 [] (by simp [Act.eval]) (row_fresh wq) (some ⟨g2, 0, none⟩) k c' (pcells (ws.take k)) (by simp [Act.eval]) (rd1.out.alloc _) (pcells_ok _) (by omega) ?_; intro v1 w4 r1 f1; have R1 := Lib.hid r1; have F1 := Lib.hid f1; obtain ⟨A1, c1, rfl, -, -⟩ := r1.form; clear r1 f1)
                  | (refine step_append_row _ rfl (.tmp 117) (.tmp 121) 28 rfl 34 _ 3 32 pkt_elem _ _ _ _ (by simp [Act.eval]) R1.out A2 (ws.length - (k + 1)) (c' - (k + 1)) (pcells (ws.drop (k + 1))) (by simp [Act.eval]) (RD2.out _ (F1.out)) (pcells_ok _) (by omega) ?_; intro v2 w5 r2 f2))
                have hend := Lib.hid (fun w6 hw => rel2_next (w6 := w6) ST.out NT.out hkl hw30 HH.out R1.out F1.out r2 f2 hw)
                obtain ⟨A5, c5, rfl, -, -⟩ := r2.form
                clear r2 f2 hwr htn R1 F1 rd1 RD2 hA2 RW NT ST
                go_wp2_with fail
                go_roundw
                case rel => exact ⟨m + 1, by omega, by go_num, by have h := hend.out _ rfl; rw [Nat.zero_add] at h; exact h⟩
                case measure => simp [intOf]; omega
            · have hz : ¬ (m : Int) < (picks.length : Int) := by omega
              obtain ⟨A', c', rfl, -, -⟩ := rw.form
              go_wp2_with fail
              refine (list_any gn ws 0 _ _ nt (by omega)).mono ?_
              rintro e w2 ⟨v2, rfl, r2, f2⟩
              have rw2 := rw.keep f2 (fun _ _ _ h => h)
              have hfin := Lib.hid (st.fr.trans (f2.below st.le (fun _ h => h.elim)))
              obtain ⟨A2, c2, rfl, -, -⟩ := r2.form
              go_wp2_with fail
              refine (same_row r2 rw2 (by omega)).mono ?_
              rintro e w3 ⟨rfl, n, rfl⟩
              clear rw rw2 r2 f2 nt st
              go_wp2_with fail
              go_ret
              exact ⟨rfl, hfin.out.trans ⟨rfl, rfl, rfl, Nat.le_refl _, fun _ _ => rfl⟩⟩
    · have hpk' : (30 : Int) < (picks.length : Int) := by omega
      have hfin := Lib.hid p1.st.fr
      clear p1 n1
      go_wp2_with fail
      go_ret
      exact ⟨rfl, hfin.out⟩
end Go.Proofs.Ytbkloadgbicbeaa
