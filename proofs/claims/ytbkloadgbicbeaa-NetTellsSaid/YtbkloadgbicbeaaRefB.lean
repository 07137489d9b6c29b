import Derived.Test.YtbkloadgbicbeaaRefA
namespace Go.Proofs.Ytbkloadgbicbeaa
open Go.RowKit

theorem row_fresh (w : World) : Row (w.alloc (.cells #[] 34)).drew (fun b => b = w.heap.size) 34 3 (.slice (some ⟨w.heap.size, 0, none⟩) 0 0) 0 [] :=
  ⟨⟨rfl, .inr ⟨w.heap.size, 0, #[], rfl, Nat.zero_le _, Blk.new w 34 #[], Nat.le_refl _, Nat.zero_le _, rfl, rfl⟩⟩, by simp [Value.ownBlock, eq_comm]⟩
theorem pcells_take (ps : List Pkt) (k : Nat) : pcells (ps.take k) = (pcells ps).take (k * 3) := by
  induction ps generalizing k with
  | nil => simp [pcells]
  | cons p ps ih =>
    cases k with
    | zero => simp [pcells]
    | succ k => rw [List.take_succ_cons, pcells_cons, pcells_cons, ih k, show (k + 1) * 3 = k * 3 + 3 by omega]; simp
theorem pcells_drop (ps : List Pkt) (k : Nat) : pcells (ps.drop k) = (pcells ps).drop (k * 3) := by
  induction ps generalizing k with
  | nil => simp [pcells]
  | cons p ps ih =>
    cases k with
    | zero => simp
    | succ k => rw [List.drop_succ_cons, pcells_cons, ih k, show (k + 1) * 3 = k * 3 + 3 by omega]; simp
theorem rd_head {w : World} {F : Nat → Prop} {g n c k : Nat} {ws : List Pkt} (h : Row w F 34 3 (.slice (some ⟨g, 0, none⟩) n c) n (pcells ws)) (hk : k ≤ n) : Rd w 3 (some ⟨g, 0, none⟩) k (pcells (ws.take k)) := by
  have hl := h.1.1
  rw [length_pcells] at hl
  refine ⟨by rw [length_pcells]; simp; omega, fun _ => ⟨_, rfl, fun j u hu => ?_⟩⟩
  rw [pcells_take, List.getElem?_take] at hu
  split at hu
  · exact h.1.cells rfl j u hu
  · simp at hu
theorem rd_rest {w : World} {F : Nat → Prop} {g n c k : Nat} {ws : List Pkt} (h : Row w F 34 3 (.slice (some ⟨g, 0, none⟩) n c) n (pcells ws)) (hk : k < n) :
    ∃ A2, (if c = k + 1 then some (⟨g, 0, none⟩ : Addr) else some ⟨g, (k + 1) * 3, none⟩) = A2 ∧ ∀ w', Fr (Own (.slice (some ⟨w.heap.size, 0, none⟩) 0 0)) (w.alloc (.cells #[] 34)).drew w' → Rd w' 3 A2 (n - (k + 1)) (pcells (ws.drop (k + 1))) := by
  have hl := h.1.1
  rw [length_pcells] at hl
  have hlt : g < w.heap.size := h.lt (by simp [Value.ownBlock])
  obtain ⟨A', c', e, h1, h2⟩ := h.form
  simp only [Value.slice.injEq, true_and] at e
  obtain ⟨-, rfl⟩ := e
  refine ⟨_, rfl, fun w' hf => ⟨by rw [length_pcells]; simp; omega, fun hn => ?_⟩⟩
  rw [if_neg (by omega)]
  refine ⟨_, rfl, fun j u hu => ?_⟩
  rw [pcells_drop, List.getElem?_drop] at hu
  have := h.1.cells (g := g) rfl _ u hu
  rw [Addr.add_lit] at this ⊢
  simp only [Nat.zero_add] at this
  rw [hf.cell (p := ⟨g, (k + 1) * 3 + j, none⟩) (by simp; omega) (by simp [Own, Value.ownBlock]; omega)]
  rw [← this]
  exact World.cell?_alloc_lt w _ _ hlt

theorem remove_end {w w1 w2 : World} {F : Nat → Prop} {g : Nat} {u v1 v2 : Value} {ps qs : List Pkt} {s : Int} {n1 n2 : Nat} {xs1 : List Value} {r : Value}
    (hN : NetAt w F 51 g ps s) (hg : F g) (hb : Blk w g 51 #[u, .int .i64 s])
    (r1 : Row w1 (Grow (fun b => b = w.heap.size) (w.alloc (.cells #[] 34)).drew w1) 34 3 v1 n1 xs1) (f1 : Fr (Own (.slice (some ⟨w.heap.size, 0, none⟩) 0 0)) (w.alloc (.cells #[] 34)).drew w1)
    (r2 : Row w2 (Grow (Grow (fun b => b = w.heap.size) (w.alloc (.cells #[] 34)).drew w1) w1 w2) 34 3 v2 n2 (pcells qs)) (f2 : Fr (Own v1) w1 w2) (hn : n2 = qs.length) :
    NetPost w F 51 g r qs s (.returned r) (w2.setCell ⟨g, 0, none⟩ v2) := by
  subst hn
  have hlt := hb.lt
  have hs1 : w.heap.size + 1 ≤ w1.heap.size := by simpa using f1.size
  have hs2 := f2.size
  have hf0 : Fr (fun _ => False) w w2 := by
    refine (((Fr.refl _ w).alloc (.cells #[] 34)).drew.trans' f1 fun i hi h => ?_).trans' f2 fun i hi h => ?_
    · have : w.heap.size = i := by simpa [Own, Value.ownBlock] using h
      omega
    · rcases r1.2 i h with h | h
      · omega
      · simp at h; omega
  have hb2 := hb.keep hf0 (fun h => h)
  have hne := own_blk_ne r2.1 hb2 (by decide)
  have hf2 : Fr F w (w2.setCell ⟨g, 0, none⟩ v2) := Fr.setCell (hf0.mono fun _ _ h => h.elim) (fun _ => hg) v2
  refine ⟨rfl, ⟨grow_lt hN.1 hf2.size, .inl hg, v2, by simpa using hb2.set_ 0 v2, ?_⟩, hf2⟩
  refine (r2.far (p := ⟨g, 0, none⟩) hne v2).more fun k _ h => .inr ?_
  have hsz : (w2.setCell ⟨g, 0, none⟩ v2).heap.size = w2.heap.size := by simp [World.setCell]
  rw [hsz]
  rcases h with (h | h) | h
  · omega
  · simp at h; omega
  · omega

set_option maxRecDepth 100000 in
set_option maxHeartbeats 1600000 in
theorem remove_any (g : Nat) (ps : List Pkt) (s : Int) (k : Nat) (w : World) (F : Nat → Prop) (h : NetAt w F 51 g ps s) (hk : k < ps.length) (hmax : ps.length ≤ 1000000) :
    Calls Try.prog 36 #[.pointer (some ⟨g, 0, none⟩), .int .i64 k] w (NetPost w F 51 g (.tuple #[]) (ps.eraseIdx k) s) := by
  have HN := Lib.hid h
  obtain ⟨-, hg, v, hb, hrow⟩ := h
  obtain ⟨g', c, rfl, hF', hlt', hc, hcm, -⟩ := hrow.at (by omega)
  have hc0 : w.cell? ⟨g, 0, none⟩ = some (.slice (some ⟨g', 0, none⟩) ps.length c) := hb.cell 0
  have hf0 : w.frozen? ⟨g, 0, none⟩ = false := hb.frozen 0
  have hlt := hb.lt
  have HB := Lib.hid hb
  obtain ⟨A2, hA2, rd2⟩ := rd_rest (k := k) hrow hk
  have rd1 := Lib.hid (rd_head (k := k) hrow (by omega))
  have RD2 := Lib.hid rd2
  unfold maxLen at hcm
  have hz1 : (0 : Int) ≤ (k : Int) + 1 := by omega
  have hz2 : (k : Int) + 1 ≤ (ps.length : Int) := by omega
  have hz3 : k ≤ c := by omega
  have hz4 : k + 1 ≤ c := by omega
  have hz5 : (k : Int) ≤ (ps.length : Int) := by omega
  clear rd2 hb hrow
  have htn : ((k : Int) + 1).toNat = k + 1 := by omega
  have hwr : IntKind.i64.wrap ((k : Int) + 1) = (k : Int) + 1 := IntWalk.i64_in _ (by omega)
  go_enter Try.func36, Try.ntmps36
  go_wp2_with fail
  go_region_law (first
    | (refine step_append_row _ rfl (.tmp 5) (.tmp 11) 28 rfl 34 _ 3 32 pkt_elem (fun b => b = w.heap.size) (.slice (some ⟨w.heap.size, 0, none⟩) 0 0) 0 [] (by simp [Act.eval, Act.put]) (row_fresh w) (some ⟨g', 0, none⟩) k c (pcells (ps.take k)) (by simp [Act.eval, Act.put]) (rd1.out.alloc _) (pcells_ok _) (by omega) ?_; intro v1 w4 r1 f1; have R1 := Lib.hid r1; have F1 := Lib.hid f1; have hb4 := (Blk.drew (HB.out.alloc _)).keep f1 (by simp [Own, Value.ownBlock]; omega); have d0 : w4.cell? ⟨g, 0, none⟩ = some (.slice (some ⟨g', 0, none⟩) ps.length c) := hb4.cell 0; obtain ⟨A1, c1, rfl, -, -⟩ := r1.form; have HB4 := Lib.hid hb4; clear r1 f1 hb4)
    | (refine step_append_row _ rfl (.tmp 12) (.tmp 19) 28 rfl 34 _ 3 32 pkt_elem _ _ _ _ (by simp [Act.eval, Act.put]) R1.out A2 (ps.length - (k + 1)) (c - (k + 1)) (pcells (ps.drop (k + 1))) (by simp [Act.eval, Act.put]) (RD2.out _ (F1.out)) (pcells_ok _) (by omega) ?_; intro v2 w5 r2 f2; have R2 := Lib.hid r2; have F2 := Lib.hid f2; have hb5 := HB4.out.keep f2 (own_blk_ne R1.out.1 HB4.out (by decide)); have d2 : w5.cell? ⟨g, 0, none⟩ = some (.slice (some ⟨g', 0, none⟩) ps.length c) := hb5.cell 0; have d3 : w5.frozen? ⟨g, 0, none⟩ = false := hb5.frozen 0; obtain ⟨A5, c5, rfl, -, -⟩ := r2.form; clear r2 f2 hb5))
  all_goals
    go_end0
    have he : ps.eraseIdx k = ps.take k ++ ps.drop (k + 1) := List.eraseIdx_eq_take_drop_succ ps k
    refine remove_end (r := .tuple #[]) (qs := ps.eraseIdx k) HN.out hg HB.out R1.out F1.out ?_ F2.out (n2 := k + (ps.length - (k + 1))) ?_
    · rw [he, pcells_append]; simpa using R2.out
    · rw [he]; simp; omega
end Go.Proofs.Ytbkloadgbicbeaa
