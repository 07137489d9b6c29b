import Derived.Test.YtjgmbildgcighaaDoorD3
namespace Go.Proofs.YtjgmbildgcighaaDoor
open Go.RowKit
set_option maxRecDepth 100000 in
set_option maxHeartbeats 800000 in
theorem set1_any (p : Int × Int) (f : Int) (x : Nat) (w : World) (hx : w.cell? ⟨x, 0, none⟩ = some (.int .i64 f)) :
    Calls Tryd.prog 55 #[.agg #[.int .i64 p.1, .int .i64 p.2], .pointer (some ⟨x, 0, none⟩)] w fun e w' => e = .returned (.bool (p.1 == f)) ∧ w' = w.alloc (.cells #[.int .i64 p.1, .int .i64 p.2] 78) := by
  have hlt := block_lt_of_cell hx
  go_enter Tryd.func55, Tryd.ntmps55
  go_wp2_with fail
  go_ret
  exact ⟨rfl, rfl⟩
theorem set1_is (p : Int × Int) (f : Int) (b : Bool) (x : Nat) (w : World) (hx : w.cell? ⟨x, 0, none⟩ = some (.int .i64 f)) (hb : (p.1 == f) = b) :
    Calls Tryd.prog 55 #[.agg #[.int .i64 p.1, .int .i64 p.2], .pointer (some ⟨x, 0, none⟩)] w fun e w' => e = .returned (.bool b) ∧ w' = w.alloc (.cells #[.int .i64 p.1, .int .i64 p.2] 78) := hb ▸ set1_any p f x w hx
set_option maxRecDepth 100000 in
set_option maxHeartbeats 800000 in
theorem set2_any (p : Int × Int) (v : Bool) (f : Int) (x : Nat) (w : World) (hx : w.cell? ⟨x, 0, none⟩ = some (.int .i64 f)) :
    Calls Tryd.prog 57 #[.agg #[.int .i64 p.1, .int .i64 p.2], .bool v, .pointer (some ⟨x, 0, none⟩)] w fun e w' => e = .returned (.bool (p.1 == f)) ∧ w' = w.alloc (.cells #[.int .i64 p.1, .int .i64 p.2] 78) := by
  have hlt := block_lt_of_cell hx
  go_enter Tryd.func57, Tryd.ntmps57
  go_wp2_with fail
  go_ret
  exact ⟨rfl, rfl⟩
theorem set2_is (p : Int × Int) (v : Bool) (f : Int) (b : Bool) (x : Nat) (w : World) (hx : w.cell? ⟨x, 0, none⟩ = some (.int .i64 f)) (hb : (p.1 == f) = b) :
    Calls Tryd.prog 57 #[.agg #[.int .i64 p.1, .int .i64 p.2], .bool v, .pointer (some ⟨x, 0, none⟩)] w fun e w' => e = .returned (.bool b) ∧ w' = w.alloc (.cells #[.int .i64 p.1, .int .i64 p.2] 78) := hb ▸ set2_any p v f x w hx

/-- The sectors of a slice, one by one. -/
def QAt (w : World) (A : Option Addr) (q : List (Int × Int)) : Prop :=
  ∀ k p, q[k]? = some p → ∃ b, A = some ⟨b, 0, none⟩ ∧ b < w.heap.size ∧ w.cell? ⟨b, k * 2, none⟩ = some (.int .i64 p.1) ∧ w.cell? ⟨b, k * 2 + 1, none⟩ = some (.int .i64 p.2)
theorem QAt.fr {w w' : World} {A : Option Addr} {q : List (Int × Int)} (h : QAt w A q) (hf : Fr (fun _ => False) w w') : QAt w' A q := by
  intro k p hk
  obtain ⟨b, hA, hlt, h1, h2⟩ := h k p hk
  exact ⟨b, hA, Nat.lt_of_lt_of_le hlt hf.size, (hf.cell (p := ⟨b, k * 2, none⟩) hlt fun h => h).trans h1, (hf.cell (p := ⟨b, k * 2 + 1, none⟩) hlt fun h => h).trans h2⟩
theorem Row.qat {w : World} {F : Nat → Prop} {A : Option Addr} {n c : Nat} {q : List (Int × Int)} (h : Row w F 78 2 (.slice A n c) q.length (qcells q)) : QAt w A q := by
  intro k p hk
  have hlt := (List.getElem?_eq_some_iff.1 hk).1
  rcases h.1.2 with ⟨_, h0⟩ | ⟨g, cap, cur, hv, _⟩
  · omega
  · have hB : A = some ⟨g, 0, none⟩ := by injection hv
    subst hB
    obtain ⟨a1, a2⟩ := qcells_at q k p hk
    have h1 := h.1.cells (g := g) rfl _ _ a1
    have h2 := h.1.cells (g := g) rfl _ _ a2
    rw [Addr.add_lit, Nat.zero_add] at h1 h2
    exact ⟨g, rfl, h.lt (by simp [Value.ownBlock]), h1, h2⟩

/-- Where the first sector of file f stands. -/
def idxF (q : List (Int × Int)) (f : Int) : Int := match q.findIdx? (fun p => p.1 == f) with | none => -1 | some i => i
set_option maxRecDepth 100000 in
set_option maxHeartbeats 800000 in
theorem sidx_any (A : Option Addr) (c : Nat) (q : List (Int × Int)) (f : Int) (x : Nat) (w : World) (hq : QAt w A q) (hx : w.cell? ⟨x, 0, none⟩ = some (.int .i64 f)) (hn : q.length ≤ 4194304) :
    Calls Tryd.prog 58 #[.slice A q.length c, .func (Fn.func 55) #[] #[.pointer (some ⟨x, 0, none⟩)]] w fun e w' => e = .returned (.int .i64 (idxF q f)) ∧ Fr (fun _ => False) w w' := by
  have HQ := Lib.hid hq
  have HX := Lib.hid hx
  have hlx := block_lt_of_cell hx
  clear hq hx
  go_enter Tryd.func58, Tryd.ntmps58
  go_wp2_with fail
  go_loopw [8] (fun i wr => ∃ k : Nat, k ≤ q.length ∧ i = .int .i64 k ∧ (∀ p ∈ q.take k, (p.1 == f) = false) ∧ Fr (fun _ => False) w wr) (fun i _ => q.length - (intOf i).toNat)
  case atStart => exact ⟨0, Nat.zero_le _, rfl, by simp, Fr.refl _ _⟩
  case round =>
    obtain ⟨k, hk, rfl, hno, hfr⟩ := hrel
    have HN := Lib.hid hno
    have HF := Lib.hid hfr
    have hxr : wr.cell? ⟨x, 0, none⟩ = some (.int .i64 f) := (hfr.cell (p := ⟨x, 0, none⟩) hlx fun h => h).trans HX.out
    clear hno hfr
    by_cases hlt : k < q.length
    · obtain ⟨p, hp⟩ : ∃ p, q[k]? = some p := ⟨_, List.getElem?_eq_getElem hlt⟩
      obtain ⟨b, rfl, hb, y1, y2⟩ := (HQ.out.fr HF.out) k p hp
      have HP := Lib.hid hp
      have hz : (k : Int) < (q.length : Int) := by omega
      clear hp hlt
      cases hm : (p.1 == f)
      · have HM := Lib.hid hm
        have hnext : Hid (∀ r ∈ q.take (k + 1), (r.1 == f) = false) := by
          intro r hr
          obtain ⟨hkl, hkp⟩ := List.getElem?_eq_some_iff.1 HP.out
          rw [List.take_succ_eq_append_getElem hkl, List.mem_append] at hr
          rcases hr with hr | hr
          · exact HN.out r hr
          · simp at hr; rw [hr, hkp]; exact HM.out
        clear hm
        go_wp2_with fail
        refine (set1_is p f false x _ hxr HM.out).mono ?_
        rintro e w1 ⟨rfl, rfl⟩
        clear y1 y2 hxr
        go_wp2_with fail
        go_roundw
        case rel => exact ⟨k + 1, by omega, by go_num, hnext.out, HF.out.alloc _⟩
        case measure => simp [intOf]; omega
      · have HM := Lib.hid hm
        have HI : Hid (idxF q f = k) := by
          show idxF q f = k
          unfold idxF
          obtain ⟨hkl, hkp⟩ := List.getElem?_eq_some_iff.1 HP.out
          have : q.findIdx? (fun p => p.1 == f) = some k := by
            rw [List.findIdx?_eq_some_iff_getElem]
            refine ⟨hkl, by rw [hkp]; exact HM.out, fun j hj => ?_⟩
            have := HN.out (q[j]) (by rw [List.mem_take_iff_getElem]; exact ⟨j, by omega, rfl⟩)
            simp [this]
          rw [this]
        clear hm
        go_wp2_with fail
        refine (set1_is p f true x _ hxr HM.out).mono ?_
        rintro e w1 ⟨rfl, rfl⟩
        clear y1 y2 hxr
        go_wp2_with fail
        go_ret
        exact ⟨by rw [HI.out]; rfl, HF.out.alloc _⟩
    · have hz : ¬ (k : Int) < (q.length : Int) := by omega
      have HI : Hid (idxF q f = -1) := by
        show idxF q f = -1
        unfold idxF
        have : q.findIdx? (fun p => p.1 == f) = none := by
          rw [List.findIdx?_eq_none_iff]
          intro p hp
          have := HN.out p (by rw [List.take_of_length_le (by omega)]; exact hp)
          simpa using this
        rw [this]
      go_wp2_with fail
      go_ret
      exact ⟨by rw [HI.out]; rfl, HF.out⟩
end Go.Proofs.YtjgmbildgcighaaDoor
