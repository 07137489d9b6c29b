import Derived.Test.YtjgmbildgcighaaDoorR3
namespace Go.Proofs.YtjgmbildgcighaaDoor
open Go.RowKit

/-! Put. -/
/-- The bytes of Put, in the midst of its loops. -/
def putK (s : List UInt8) (a : Nat) (t : List UInt8) (k : Nat) : List UInt8 :=
  let b := s ++ List.replicate (max s.length (a + t.length) - s.length) 0
  b.take a ++ t.take k ++ b.drop (a + k)
theorem length_putK {s : List UInt8} {a : Nat} {t : List UInt8} {k : Nat} (hk : k ≤ t.length) : (putK s a t k).length = max s.length (a + t.length) := by
  unfold putK
  dsimp only
  simp
  omega
theorem putK_set {s : List UInt8} {a : Nat} {t : List UInt8} {k : Nat} (hk : k < t.length) : (putK s a t k).set (a + k) t[k] = putK s a t (k + 1) := by
  unfold putK
  dsimp only
  generalize hb : s ++ List.replicate (max s.length (a + t.length) - s.length) 0 = b
  have hbl : b.length = max s.length (a + t.length) := by rw [← hb]; simp; omega
  have h1 : (b.take a ++ t.take k).length = a + k := by simp; omega
  rw [List.set_append_right _ _ (by omega), h1, Nat.sub_self, List.drop_eq_getElem_cons (by omega : a + k < b.length), List.set_cons_zero, List.take_succ_eq_append_getElem hk]
  simp only [List.append_assoc, List.cons_append, List.nil_append, Nat.add_assoc]
theorem putK_end {s : List UInt8} {a : Nat} {t : List UInt8} (h : t.length ≠ 0) : putK s a t t.length = putL s a t := by
  unfold putK putL
  rw [if_neg h]
  simp
theorem putK_start (s : List UInt8) (a : Nat) (t : List UInt8) : putK s a t 0 = s ++ List.replicate (max s.length (a + t.length) - s.length) 0 := by
  unfold putK
  dsimp only
  simp
theorem byte_elem : Elem Tryd.prog 46 5 (.int .u8 0) 1 1 := ⟨Tryd.underlying46, info5, rfl, by omega⟩
theorem bc_ok (l : List UInt8) : ∀ u ∈ bc l, u.oneCell' = true := by
  intro u hu
  obtain ⟨k, _, rfl⟩ := List.mem_map.1 hu
  rfl
/-- The slice value v holds the bytes l in block g, of which no cell is frozen. -/
structure BRow (w : World) (g : Nat) (v : Value) (l : List UInt8) : Prop where
  is : ∃ cap cur fz, v = .slice (some ⟨g, 0, none⟩) l.length cap ∧ w.heap[g]? = some (.cells cur 5 fz) ∧ l.length ≤ cap ∧ cap ≤ maxLen ∧ cur.size = cap ∧ (fz = (0, 0) ∨ cap ≤ fz.1) ∧ cur.toList.take l.length = bc l
theorem BRow.lt {w : World} {g : Nat} {v : Value} {l : List UInt8} (h : BRow w g v l) : g < w.heap.size := by
  obtain ⟨cap, cur, fz, -, hg, -⟩ := h.is
  rcases Nat.lt_or_ge g w.heap.size with h' | h'
  · exact h'
  · rw [Array.getElem?_eq_none h'] at hg; cases hg
theorem BRow.keep {w w' : World} {S : Nat → Prop} {g : Nat} {v : Value} {l : List UInt8} (h : BRow w g v l) (hf : Fr S w w') (hn : ¬ S g) : BRow w' g v l := by
  have hlt := h.lt
  obtain ⟨cap, cur, fz, hv, hg, r⟩ := h.is
  exact ⟨cap, cur, fz, hv, (hf.block g hlt hn).trans hg, r⟩
theorem BRow.cell {w : World} {g : Nat} {v : Value} {l : List UInt8} (h : BRow w g v l) (j : Nat) (hj : j < l.length) : w.cell? ⟨g, j, none⟩ = some (.int .u8 l[j].toNat) := by
  obtain ⟨cap, cur, fz, -, hg, h1, h2, h3, h4, h5⟩ := h.is
  rw [cell_of_row w g j cur 5 fz hg]
  have : (cur.toList.take l.length)[j]? = (bc l)[j]? := by rw [h5]
  rw [List.getElem?_take_of_lt hj] at this
  rw [← Array.getElem?_toList, this]
  simp [bc, hj]
theorem BRow.frozen {w : World} {g : Nat} {v : Value} {l : List UInt8} (h : BRow w g v l) (j : Nat) (hj : j < l.length) : w.frozen? ⟨g, j, none⟩ = false := by
  obtain ⟨cap, cur, fz, -, hg, h1, h2, h3, h4, h5⟩ := h.is
  simp only [World.frozen?, hg, Bool.and_eq_false_iff, decide_eq_false_iff_not]
  rcases h4 with rfl | h4
  · right; dsimp only; omega
  · left; omega
theorem BRow.set_ {w : World} {g : Nat} {v : Value} {l : List UInt8} (h : BRow w g v l) (j : Nat) (_ : j < l.length) (b : UInt8) : BRow (w.setCell ⟨g, j, none⟩ (.int .u8 b.toNat)) g v (l.set j b) := by
  obtain ⟨cap, cur, fz, hv, hg, h1, h2, h3, h4, h5⟩ := h.is
  refine ⟨cap, cur.setIfInBounds j (.int .u8 b.toNat), fz, by simpa using hv, ?_, by simpa using h1, h2, by simpa using h3, h4, ?_⟩
  · simp [World.setCell, Array.getElem?_modify, hg]
  · rw [List.length_set, Array.toList_setIfInBounds, List.take_set, h5]
    simp [bc, List.map_set]
theorem BRow.made (w : World) (s : ByteArray) : (convert 9 46 (.string s)).run Tryd.prog w = .ok (.slice (some ⟨w.heap.size, 0, none⟩) s.size (grownCap w s.size 0 5))
      (w.drew.alloc (.cells (bytesRow s (grownCap w s.size 0 5)) 5 ((bytesRow s (grownCap w s.size 0 5)).size, (bytesRow s (grownCap w s.size 0 5)).size + 1))) ∧
    (s.size ≤ maxLen → BRow (w.drew.alloc (.cells (bytesRow s (grownCap w s.size 0 5)) 5 ((bytesRow s (grownCap w s.size 0 5)).size, (bytesRow s (grownCap w s.size 0 5)).size + 1))) w.heap.size (.slice (some ⟨w.heap.size, 0, none⟩) s.size (grownCap w s.size 0 5)) s.data.toList) := by
  refine ⟨run_bytes_of_string w 9 46 5 s Tryd.underlying9 Tryd.underlying46 Tryd.underlying5, fun hs => ?_⟩
  have hge := grownCap_ge w s.size 0 5
  have hl : s.data.toList.length = s.size := (size_eq_length s).symm
  have hsz : (bytesRow s (grownCap w s.size 0 5)).size = grownCap w s.size 0 5 := by
    unfold bytesRow
    have : s.data.size = s.size := rfl
    simp [this]; omega
  refine ⟨⟨_, _, _, by rw [hl], heap_alloc_new w.drew _, by rw [hl]; exact hge, grownCap_le_maxLen w s.size 0 5 hs, hsz, .inr ?_, ?_⟩⟩
  · rw [hsz]; exact Nat.le_refl _
  · unfold bytesRow
    rw [Array.toList_append, hl, List.take_append_of_le_length (by simp), List.take_of_length_le (by simp)]
    simp [bc]
theorem run_append_byte (w : World) (g : Nat) (v : Value) (l : List UInt8) (h : BRow w g v l) (b : UInt8) (A : Addr) (c : Nat) (hA : w.cell? A = some (.int .u8 b.toNat)) (hl : l.length ≤ 1000000000) :
    ∃ g' v' w', (Builtin.append_ #[46, 46] 46 #[v, .slice (some A) 1 c]).run Tryd.prog w = .ok v' w' ∧ BRow w' g' v' (l ++ [b]) ∧ Fr (fun k => k = g) w w' ∧ (g' = g ∨ w.heap.size ≤ g') := by
  obtain ⟨i, hi, hz, hsize, hby⟩ := info_parts info5
  have hnews : ∀ j u, [Value.int .u8 b.toNat][j]? = some u → w.cell? (A.add j) = some u := by
    intro j u hj
    match j, hj with
    | 0, hj =>
      simp at hj
      subst hj
      have : A.add 0 = A := by unfold Addr.add; split <;> simp_all
      rw [this]; exact hA
  obtain ⟨cap, cur, fz, rfl, hg, h1, h2, h3, h4, h5⟩ := h.is
  have hglt := h.lt
  by_cases hroom : l.length + 1 ≤ cap
  · have hcell : w.cell? ⟨g, l.length, none⟩ = some cur[l.length] := by
      rw [cell_of_row w g _ cur 5 fz hg]
      exact Array.getElem?_eq_getElem (by omega)
    have hfro : w.frozen? ⟨g, l.length, none⟩ = false := by
      simp only [World.frozen?, hg, Bool.and_eq_false_iff, decide_eq_false_iff_not]
      rcases h4 with rfl | h4
      · right; dsimp only; omega
      · left; omega
    have hst : (store ⟨g, l.length, none⟩ (.int .u8 b.toNat)).run Tryd.prog w = .ok () (w.setCell ⟨g, l.length, none⟩ (.int .u8 b.toNat)) := by
      rw [run_store Tryd.prog w _ _ _ rfl, hcell]
      simp [hfro]
    have hf := run_firstCells_some (P := Tryd.prog) w i.size 1 A 1 c [Value.int .u8 b.toNat] (by simp [hsize]) hnews
    refine ⟨g, .slice (some ⟨g, 0, none⟩) (l.length + 1) cap, w.setCell ⟨g, l.length, none⟩ (.int .u8 b.toNat), ?_, ⟨cap, cur.setIfInBounds l.length (.int .u8 b.toNat), fz, by simp, ?_, by simpa using hroom, h2, by simpa using h3, h4, ?_⟩, (Fr.refl (fun k => k = g) w).setCell (p := ⟨g, l.length, none⟩) (fun _ => rfl) _, .inl rfl⟩
    · rw [hsize] at hf
      simp [Builtin.append_, run_underlying Tryd.underlying46, sizeOf, typeInfo, hi, hsize, Builtin.lenOf, hroom, hf, Addr.add_lit, storeCells, hst]
    · simp [World.setCell, Array.getElem?_modify, hg]
    · rw [List.length_append, Array.toList_setIfInBounds]
      have hlc : l.length < cur.toList.length := by simp; omega
      rw [List.length_singleton, List.take_set, List.take_succ_eq_append_getElem hlc, h5, List.set_append_right _ _ (by simp [bc])]
      simp [bc]
  · have holds : ∀ j u, (bc l)[j]? = some u → w.cell? ((⟨g, 0, none⟩ : Addr).add j) = some u := by
      intro j u hj
      rw [Addr.add_lit, Nat.zero_add]
      have hjl : j < l.length := by have := (List.getElem?_eq_some_iff.1 hj).1; simpa [bc] using this
      rw [h.cell j hjl]
      simp [bc, hjl] at hj
      rw [hj]
    have hr := run_append_grow (P := Tryd.prog) w 46 46 5 i _ Tryd.underlying46 hi hz ⟨g, 0, none⟩ l.length cap (bc l) (by simp [bc, hsize]) holds A 1 c [Value.int .u8 b.toNat] (by simp [hsize]) hnews (by omega) (by omega) (by rw [hby]; exact growslice_fits (by omega) (by omega))
    have hge := grownCap_ge w (l.length + 1) cap 5
    have hcm := grownCap_le_maxLen w (l.length + 1) cap 5 (by unfold maxLen; omega)
    refine ⟨w.heap.size, _, _, hr, ⟨_, _, (0, 0), by simp, heap_alloc_new w.drew _, by simpa using hge, hcm, ?_, .inl rfl, ?_⟩, ((Fr.refl _ w).drew).alloc _, .inr (Nat.le_refl _)⟩
    · simp only [Array.size_append, List.size_toArray, size_zeroCells, length_bc, List.length_singleton]
      have : (Value.int IntKind.u8 0).cells.size = 1 := rfl
      rw [this]; omega
    · simp only [Array.toList_append, List.append_assoc]
      rw [← List.append_assoc, bc_append]
      have : (bc l ++ bc [b]).length = (l ++ [b]).length := by simp [bc]
      rw [← this]
      exact List.take_left
theorem wpList_append_byte {ops : Array Oper} {rest : List Oper} {o : Oper} {a : Act} {w : World} {Q : Exit → Act → World → Prop} (hgd : o.guard = none) (s x : Operand)
    (ho : o.op = .call { callee := .builtin .append, args := #[s, x], argTypes := #[46, 46] }) (hty : o.type = 46)
    (g : Nat) (v : Value) (l : List UInt8) (hs : a.eval s = v) (h : BRow w g v l) (b : UInt8) (A : Addr) (c : Nat) (hx : a.eval x = .slice (some A) 1 c) (hA : w.cell? A = some (.int .u8 b.toNat)) (hl : l.length ≤ 1000000000)
    (hk : ∀ g' v' w', BRow w' g' v' (l ++ [b]) → Fr (fun k => k = g) w w' → (g' = g ∨ w.heap.size ≤ g') → wpList Tryd.prog ops Q rest (a.put o.dst v') w') : wpList Tryd.prog ops Q (o :: rest) a w := by
  refine wpList_plain hgd fun K hK => ?_
  obtain ⟨g', v', w', hr, h2, h3, h4⟩ := run_append_byte w g v l h b A c hA hl
  unfold Oper.wp execOp
  simp only [ho, hty, resolve, invoke, builtin, Sem.run_bind, Sem.run_pure, Result.andThen_ok, List.map_toArray, List.map_cons, List.map_nil, hs, hx, hr]
  exact hK _ _ (hk g' v' w' h2 h3 h4)
theorem BRow.back {w : World} {g : Nat} {v : Value} {l : List UInt8} (h : BRow w g v l) : (convert 46 9 v).run Tryd.prog w = .ok (.string ⟨l.toArray⟩) w := by
  obtain ⟨cap, cur, fz, rfl, -⟩ := h.is
  refine run_convert_bytes_back w 46 9 5 ⟨g, 0, none⟩ cap l Tryd.underlying46 Tryd.underlying5 Tryd.underlying9 fun j hj => ?_
  rw [Addr.add_lit, Nat.zero_add]
  exact h.cell j hj
set_option maxRecDepth 100000 in
set_option maxHeartbeats 1600000 in
theorem rput_any (s t : ByteArray) (a : Nat) (w : World) (hs : s.size ≤ 16777216) (ha : a + t.size ≤ 16777216) :
    Calls Tryd.prog 49 #[.string s, .int .i64 a, .string t] w fun e w' => e = .returned (.string (putB s a t)) ∧ Fr (fun _ => False) w w' := by
  by_cases h0 : t.size = 0
  · have HP : Hid (putB s a t = s) := by simp [Hid, putB, h0]
    obtain rfl := eq_empty h0
    clear h0
    go_enter Tryd.func49, Tryd.ntmps49
    go_wp2_with fail
    go_ret
    exact ⟨by rw [HP.out]; rfl, Fr.refl _ _⟩
  · have hte := toList_empty h0
    have hte2 := ne_empty h0
    obtain ⟨hmk, hbr0⟩ := BRow.made w s
    have hbr : Hid (BRow (w.alloc (.cells (bytesRow s (grownCap w s.size 0 5)) 5 ((bytesRow s (grownCap w s.size 0 5)).size, (bytesRow s (grownCap w s.size 0 5)).size + 1))).drew w.heap.size (.slice (some ⟨w.heap.size, 0, none⟩) s.size (grownCap w s.size 0 5)) s.data.toList) := hbr0 (by unfold maxLen; omega)
    have hfr : Hid (Fr (fun _ => False) w (w.alloc (.cells (bytesRow s (grownCap w s.size 0 5)) 5 ((bytesRow s (grownCap w s.size 0 5)).size, (bytesRow s (grownCap w s.size 0 5)).size + 1))).drew) := ((Fr.refl (fun _ => False) w).alloc _).drew
    have HT := Lib.hid h0
    have hsl := Lib.hid (size_eq_length s)
    have htl := Lib.hid (size_eq_length t)
    clear hbr0 h0
    go_enter Tryd.func49, Tryd.ntmps49
    go_wp2_with fail
    clear hmk
    generalize grownCap w s.size 0 5 = cap at *
    generalize (w.alloc (.cells (bytesRow s cap) 5 ((bytesRow s cap).size, (bytesRow s cap).size + 1))).drew = w1 at *
    go_loopw [7] (fun v wr => ∃ (k g : Nat), v.ownBlock = some g ∧ w.heap.size ≤ g ∧ s.size + k ≤ max s.size (a + t.size) ∧ BRow wr g v (s.data.toList ++ List.replicate k 0) ∧ Fr (fun _ => False) w wr) (fun v _ => 16777217 + s.size - (match v with | .slice _ n _ => n | _ => 0))
    case atStart => exact ⟨0, w.heap.size, rfl, Nat.le_refl _, by omega, by simpa using hbr.out, hfr.out⟩
    case round =>
      obtain ⟨k, g, -, hg, hk, hb, hf⟩ := hrel
      have HF := Lib.hid hf
      obtain ⟨cp, cur, fz, rfl, -, hcp, hcm, -⟩ := hb.is
      have hlen : (s.data.toList ++ List.replicate k (0 : UInt8)).length = s.size + k := by rw [List.length_append, List.length_replicate, ← size_eq_length]
      have HB : Hid (BRow wr g (.slice (some ⟨g, 0, none⟩) (s.size + k) cp) (s.data.toList ++ List.replicate k 0)) := by
        show BRow _ _ _ _
        rw [← hlen]; exact hb
      rw [hlen]
      rw [hlen] at hcp
      unfold maxLen at hcm
      have HL := Lib.hid hlen
      clear hb hf hlen hbr hfr
      by_cases hlt : s.size + k < a + t.size
      · have hz : ((s.size + k : Nat) : Int) < (a : Int) + (t.size : Int) := by omega
        generalize hm : s.size + k = m at *
        go_wp2_with (at_builtin; refine wpList_append_byte rfl (.tmp 21) (.tmp 22) rfl rfl g _ (s.data.toList ++ List.replicate k 0) rfl ?c0 0 ⟨wr.heap.size, 0, none⟩ 1 rfl ?c1 ?c2 ?_)
        case c0 => exact HB.out.keep ((Fr.refl (fun _ => False) wr).alloc _) fun h => h
        case c1 => simp
        case c2 => rw [HL.out]; omega
        intro g' v' w2 hb2 hf2 hg2
        have hend : Hid (∃ (k' g'' : Nat), v'.ownBlock = some g'' ∧ w.heap.size ≤ g'' ∧ s.size + k' ≤ max s.size (a + t.size) ∧ BRow w2 g'' v' (s.data.toList ++ List.replicate k' 0) ∧ Fr (fun _ => False) w w2) := by
          refine ⟨k + 1, g', ?_, ?_, by omega, ?_, (HF.out.alloc _).trans' hf2 fun j hj e => by omega⟩
          · obtain ⟨_, _, _, rfl, -⟩ := hb2.is; rfl
          · have := HF.out.size
            rcases hg2 with rfl | h
            · exact hg
            · omega
          · rw [List.replicate_succ']; exact hb2
        obtain ⟨c2, cur2, fz2, hv2, -⟩ := hb2.is
        have hv3 : (s.data.toList ++ (List.replicate k (0 : UInt8) ++ [0])).length = m + 1 := by
          rw [List.length_append, ← size_eq_length, List.length_append, List.length_replicate, List.length_singleton]; omega
        rw [hv3] at hv2
        subst hv2
        clear hv3
        clear hb2 hf2 hg2 HL
        go_wp2_with fail
        go_roundw
        case rel => exact hend.out
        case measure => dsimp only; omega
      · have hz : ¬ ((s.size + k : Nat) : Int) < (a : Int) + (t.size : Int) := by omega
        have hB2 : Hid (BRow wr g (.slice (some ⟨g, 0, none⟩) (s.size + k) cp) (putK s.data.toList a t.data.toList 0)) := by
          show BRow _ _ _ _
          rw [putK_start, ← size_eq_length, ← size_eq_length, show max s.size (a + t.size) - s.size = k by omega]
          exact HB.out
        have hge : a + t.size ≤ s.size + k := by omega
        clear HB HL
        generalize hm : s.size + k = m at *
        go_wp2_with fail
        go_loopw [8] (fun i wr => ∃ k : Nat, k ≤ t.size ∧ i = .int .i64 k ∧ BRow wr g (.slice (some ⟨g, 0, none⟩) m cp) (putK s.data.toList a t.data.toList k) ∧ Fr (fun _ => False) w wr) (fun i _ => t.size - (intOf i).toNat)
        case atStart => exact ⟨0, Nat.zero_le _, rfl, hB2.out, HF.out⟩
        case round =>
          obtain ⟨j, hj, rfl, hb, hf⟩ := hrel
          have HB := Lib.hid hb
          have HF2 := Lib.hid hf
          have hpl := Lib.hid (length_putK (s := s.data.toList) (a := a) (t := t.data.toList) (k := j) (by rw [← size_eq_length]; exact hj))
          have hlg := hb.lt
          clear hb hf hB2 HF
          by_cases hlt2 : j < t.size
          · have hz2 : (j : Int) < (t.size : Int) := by omega
            have hjp : a + j < (putK s.data.toList a t.data.toList j).length := by rw [hpl.out, ← size_eq_length, ← size_eq_length]; omega
            have e0 := HB.out.cell (a + j) hjp
            have e1 := HB.out.frozen (a + j) hjp
            have hse := Lib.hid (putK_set (s := s.data.toList) (a := a) (t := t.data.toList) (k := j) (by rw [← size_eq_length]; exact hlt2))
            have HJP := Lib.hid hjp
            have htj : t.data.toList[j]'(by rw [← size_eq_length]; exact hlt2) = t[j] := rfl
            have hend : Hid (BRow (wr.setCell ⟨g, a + j, none⟩ (.int .u8 (t[j]).toNat)) g (.slice (some ⟨g, 0, none⟩) m cp) (putK s.data.toList a t.data.toList (j + 1)) ∧ Fr (fun _ => False) w (wr.setCell ⟨g, a + j, none⟩ (.int .u8 (t[j]).toNat))) := by
              refine ⟨?_, Fr.setCell (HF2.out.trans' (Fr.refl (fun k => k = g) wr) fun i hi e => by omega) (fun hh => by dsimp only at hh; omega) _⟩
              rw [← hse.out, htj]
              exact HB.out.set_ (a + j) HJP.out _
            clear htj
            go_wp2_with fail
            go_roundw
            case rel => exact ⟨j + 1, by omega, by go_num, hend.out.1, hend.out.2⟩
            case measure => simp [intOf]; omega
          · have hz2 : ¬ (j : Int) < (t.size : Int) := by omega
            obtain rfl : j = t.size := by omega
            have hbk := HB.out.back
            have hpe : Hid ((⟨(putK s.data.toList a t.data.toList t.size).toArray⟩ : ByteArray) = putB s a t) := by
              show _ = _
              unfold putB
              rw [if_neg HT.out, htl.out, putK_end (by rw [← htl.out]; exact HT.out)]
            rw [hpe.out] at hbk
            go_wp2_with fail
            go_ret
            exact ⟨rfl, HF2.out⟩
end Go.Proofs.YtjgmbildgcighaaDoor
