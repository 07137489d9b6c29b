import Derived.Test.YtjgmbildgcighaaDoorCP4
import Derived.Test.YtjgmbildgcighaaDoorC6
namespace Go.Proofs.YtjgmbildgcighaaDoor
open Go.RowKit

/-- A restart: the cell is known again. -/
theorem CI.again_know {d : DS} {f : Int} {c : CS} {P : Int → ByteArray → Prop} (h : CI d f c P) (ks : List Int) : ∃ sl v, openF (startD (crashD d ks)) f = (0, ⟨f, sl, v, false⟩) ∧ P sl v ∧ 0 ≤ sl ∧ ∀ Q : Int → ByteArray → Prop, Q sl v → CI (startD (crashD d ks)) f ⟨f, sl, v, false⟩ Q := by
  have h2 := h.crash ks c h.file
  rcases h2.st with ⟨h1, -⟩ | ⟨h1, -⟩ | ⟨h1, sl, v, hs, hP⟩
  · rw [rcrash_down] at h1; cases h1
  · rw [rcrash_down] at h1; cases h1
  · have hs2 : Stab (startD (crashD d ks)) f sl v := ⟨hs.now, hs.last, hs.q⟩
    refine ⟨sl, v, open_has rfl h.rng hs2.now, hP, ?_, fun Q hQ => ⟨h2.inv.start, ⟨h2.j.size, h2.j.tail, h2.j.same⟩, h.rng, rfl, .inl ⟨rfl, hs2, hQ⟩⟩⟩
    rcases hs2.now with ⟨rfl, -⟩ | h
    · decide
    · rcases h.1 with h | h <;> omega
/-- What CellLasts keeps: the cell reads as one of 'may', or as empty if 'none'. -/
def PL (none : Bool) (may : List ByteArray) : Int → ByteArray → Prop := fun sl v => (sl = 0 → none = true) ∧ (0 < sl → v ∈ may)
theorem PL.ok {d' : DS} {c' : CS} {s : ByteArray} {P : Int → ByteArray → Prop} (h : CI d' 3 c' P) (hok : SetOk d' 3 c' s) : CI d' 3 c' (PL false [s]) :=
  ⟨h.inv, h.j, by decide, h.file, .inl ⟨hok.up, by rw [hok.value]; exact hok.stab, fun e => by have := hok.pos; omega, fun _ => by rw [hok.value]; exact List.mem_singleton.2 rfl⟩⟩
theorem PL.more {d' : DS} {c' : CS} {s : ByteArray} {none : Bool} {may : List ByteArray} (h : CI d' 3 c' (Or_ (PL none may) s)) : CI d' 3 c' (PL none (may ++ [s])) := by
  refine h.mono fun sl v hv => ?_
  rcases hv with ⟨h1, h2⟩ | ⟨h1, rfl⟩
  · exact ⟨h1, fun h => List.mem_append_left _ (h2 h)⟩
  · exact ⟨fun e => by omega, fun _ => by simp⟩
theorem str_elem : Elem Tryd.prog 51 9 (.string ⟨#[]⟩) 1 16 := ⟨Tryd.underlying51, by kernel_rfl, rfl, by omega⟩
/-- The list of strings of the law, object 3. -/
def MR (w : World) (own : Nat → Nat) (v : Value) (l : List ByteArray) : Prop := Row w (fun k => own k = 3) 9 1 v l.length (l.map Value.string)
section
variable {W w w' : World} {own own' : Nat → Nat} {v : Value} {l : List ByteArray} {P : Nat → Prop}
theorem MR.steps (h : MR w own v l) (hs : Steps W w w' own own' P) (hP : ¬ P 3) : MR w' own' v l := by
  have hlt := hs.st0.lt (i := 3) (by decide)
  exact (Row.keep h hs.fr fun _ (hk : own _ = 3) _ hk' => hP (Eq.subst (motive := P) hk hk')).more (fun k _ (hk : own k = 3) => by show own' k = 3; rw [hs.same k (hlt k hk)]; exact hk)
theorem MR.nil (w : World) (own : Nat → Nat) : MR w own (.slice none 0 0) [] := Row.nil _ _ _ _
end
section
variable {W w : World} {own : Nat → Nat} {v : Value} {l : List ByteArray}
theorem MR.drewN (h : MR w own v l) (n : Nat) : MR (w.drewN n) own v l := h
theorem MR.fr0 {w' : World} (h : MR w own v l) (hf : Fr (fun _ => False) w w') : MR w' own v l := Row.keep h hf fun _ _ _ h => h
theorem MR.form (h : MR w own v l) : ∃ A c, v = .slice A l.length c := by
  obtain ⟨A, c, h, -⟩ := Row.form h
  exact ⟨A, c, h⟩
theorem MR.at {A : Option Addr} {c : Nat} (h : MR w own (.slice A l.length c) l) {k : Nat} {x : ByteArray} (hk : l[k]? = some x) : ∃ b, A = some ⟨b, 0, none⟩ ∧ b < w.heap.size ∧ w.cell? ⟨b, k, none⟩ = some (.string x) := by
  have hlt := (List.getElem?_eq_some_iff.1 hk).1
  rcases h.1.2 with ⟨_, h0⟩ | ⟨g, cap, cur, hv, _⟩
  · omega
  · have hB : A = some ⟨g, 0, none⟩ := by injection hv
    subst hB
    have hc : w.cell? ⟨g, k, none⟩ = some (.string x) := by
      have := h.1.cells (g := g) rfl k (.string x) (by rw [List.getElem?_map, hk]; rfl)
      rw [show (⟨g, 0, none⟩ : Addr).add k = ⟨g, k, none⟩ by simp [Addr.add]; omega] at this; exact this
    exact ⟨g, rfl, block_lt_of_cell hc, hc⟩
theorem MR.push {w' : World} {v' : Value} {s : ByteArray} (h : MR w own v l) (hs : St W w own) (hrow : Row w' (Grow (fun k => own k = 3) w w') 9 1 v' (l.length + 1) (l.map Value.string ++ [.string s])) (hf : Fr (Own v) w w') : ∃ own', MR w' own' v' (l ++ [s]) ∧ Step W w w' own own' 3 := by
  have hl : (l ++ [s]).length = l.length + 1 := by simp
  have hm : (l ++ [s]).map Value.string = l.map Value.string ++ [.string s] := by simp
  obtain ⟨own', h1, h2⟩ := Row.mine h hs (by decide) hrow hf
  refine ⟨own', ?_, h2⟩
  unfold MR
  rw [hl, hm]
  exact h1
theorem rd_new1 (w : World) (x : Value) (t : TypeId) : Rd (w.alloc (.cells #[x] t)) 1 (some ⟨w.heap.size, 0, none⟩) 1 [x] := by
  refine ⟨rfl, fun _ => ⟨_, rfl, fun j u hu => ?_⟩⟩
  rw [Addr.add_lit, Nat.zero_add, (Blk.new w t #[x]).cell j]
  simpa using hu
theorem MR.one (hs : St W w own) (s : ByteArray) : ∃ own', MR (w.alloc (.cells #[.string s] 9)) own' (.slice (some ⟨w.heap.size, 0, none⟩) 1 1) [s] ∧ Step W w (w.alloc (.cells #[.string s] 9)) own own' 3 := by
  obtain ⟨own', h1, h2⟩ := hs.new (.cells #[.string s] 9) (i := 3) (by decide)
  refine ⟨own', ⟨⟨rfl, .inr ⟨w.heap.size, 1, #[.string s], rfl, Nat.zero_le _, ?_, Nat.le_refl _, by decide, rfl, rfl⟩⟩, fun k hk => ?_⟩, h1⟩
  · exact Blk.new w 9 #[.string s]
  · injection hk with hk
    rw [← hk]; exact h2
set_option maxRecDepth 100000 in
set_option maxHeartbeats 1600000 in
theorem has_any (A : Option Addr) (c : Nat) (s : ByteArray) (hm : l.length ≤ 1000) (h : MR w own (.slice A l.length c) l) (hs : s ∈ l) :
    Calls Tryd.prog 24 #[.slice A l.length c, .string s] w fun e w' => e = .returned (.bool true) ∧ ∃ n, w' = w.drewN n := by
  have H := Lib.hid h
  have HM := Lib.hid hs
  clear h hs
  go_enter Tryd.func24, Tryd.ntmps24
  go_wp2_with fail
  go_loopw [5] (fun i wr => ∃ k : Nat, k ≤ l.length ∧ i = .int .i64 k ∧ (∀ x ∈ l.take k, x ≠ s) ∧ ∃ n, wr = w.drewN n) (fun i _ => l.length - (intOf i).toNat)
  case atStart => exact ⟨0, Nat.zero_le _, rfl, by simp, 0, by first | rfl | (cases w; rfl)⟩
  case round =>
    obtain ⟨k, hk, rfl, hall, n0, hn0⟩ := hrel
    have HA := Lib.hid hall
    clear hall
    have HR : Hid (MR wr own (.slice A l.length c) l) := by show MR _ _ _ _; rw [hn0]; exact H.out.drewN n0
    have HN := Lib.hid hn0
    clear hn0
    by_cases hlt : k < l.length
    · obtain ⟨x, hx⟩ : ∃ x, l[k]? = some x := ⟨_, List.getElem?_eq_getElem hlt⟩
      obtain ⟨b, rfl, hb, hcell⟩ := HR.out.at hx
      have HX := Lib.hid hx
      have hz : (k : Int) < (l.length : Int) := by omega
      clear hx
      by_cases hxs : x = s
      · subst hxs
        go_wp2_with fail
        go_ret
        exact ⟨rfl, n0, HN.out⟩
      · have hxs' : (x.toList == s.toList) = false := by
          rw [beq_eq_false_iff_ne]
          exact fun h => hxs (str_inj h)
        have hb2 : Hid (∀ y ∈ l.take (k + 1), y ≠ s) := by
          intro y hy
          rw [List.take_succ_eq_append_getElem hlt, List.mem_append] at hy
          rcases hy with h | h
          · exact HA.out y h
          · have hx' := (List.getElem?_eq_some_iff.1 HX.out).2
            rw [hx', List.mem_singleton] at h
            subst h
            exact hxs
        go_wp2_with fail
        go_roundw
        case rel => exact ⟨k + 1, by omega, by go_num, hb2.out, n0, HN.out⟩
        case measure => simp [intOf]; omega
    · have hz : ¬ (k : Int) < (l.length : Int) := by omega
      exfalso
      have := HA.out s (by rw [List.take_of_length_le (by omega)]; exact HM.out)
      exact this rfl
end
end Go.Proofs.YtjgmbildgcighaaDoor
