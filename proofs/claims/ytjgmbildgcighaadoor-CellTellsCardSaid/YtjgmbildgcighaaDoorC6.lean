import Derived.Test.YtjgmbildgcighaaDoorC5
import Derived.Test.YtjgmbildgcighaaDoorCP3
namespace Go.Proofs.YtjgmbildgcighaaDoor
open Go.RowKit

/-- An operation as the law's argument has it. -/
structure OpV where
  kind : Int
  s : ByteArray
  n : Int
  k : List Int
  kA : Option Addr
  kc : Nat
def OpsAt (W : World) (A : Option Addr) (ops : List OpV) : Prop :=
  ∀ k a, ops[k]? = some a → (∃ b o, A = some ⟨b, o, none⟩ ∧ b < W.heap.size ∧ W.cell? ⟨b, o + k * 4, none⟩ = some (.int .i64 a.kind) ∧ W.cell? ⟨b, o + k * 4 + 1, none⟩ = some (.string a.s) ∧
    W.cell? ⟨b, o + k * 4 + 2, none⟩ = some (.int .i64 a.n) ∧ W.cell? ⟨b, o + k * 4 + 3, none⟩ = some (.slice a.kA a.k.length a.kc)) ∧ KeepB W a.kA a.k ∧ a.n ≤ 9223372036854775807
theorem OpsAt.at {W w : World} {own : Nat → Nat} {A : Option Addr} {ops : List OpV} (h : OpsAt W A ops) (hs : St W w own) {k : Nat} {a : OpV} (hk : ops[k]? = some a) :
    ∃ b o, A = some ⟨b, o, none⟩ ∧ b < w.heap.size ∧ w.cell? ⟨b, o + k * 4, none⟩ = some (.int .i64 a.kind) ∧ w.cell? ⟨b, o + k * 4 + 1, none⟩ = some (.string a.s) ∧
    w.cell? ⟨b, o + k * 4 + 2, none⟩ = some (.int .i64 a.n) ∧ w.cell? ⟨b, o + k * 4 + 3, none⟩ = some (.slice a.kA a.k.length a.kc) := by
  obtain ⟨⟨b, o, hA, hlt, c1, c2, c3, c4⟩, -, -⟩ := h k a hk
  exact ⟨b, o, hA, Nat.lt_of_lt_of_le hlt hs.le, by rw [hs.fr.cell hlt]; exact c1, by rw [hs.fr.cell hlt]; exact c2, by rw [hs.fr.cell hlt]; exact c3, by rw [hs.fr.cell hlt]; exact c4⟩
def opOk (a : OpV) : Bool := decide (a.s.size ≤ 400) && decide (a.k.length ≤ 100)
def fewO (ops : List OpV) : Bool := ops.all opOk && decide (ops.length ≤ 30)
theorem all_takeO (ops : List OpV) (k : Nat) (h : k < ops.length) : (ops.take (k + 1)).all opOk = ((ops.take k).all opOk && opOk ops[k]) := by
  rw [List.take_succ_eq_append_getElem h, List.all_append]; simp
theorem fewO_false {ops : List OpV} {k : Nat} (h : k < ops.length) (hb : opOk ops[k] = false) : fewO ops = false := by
  unfold fewO
  rw [Bool.and_eq_false_iff]
  exact .inl (List.all_eq_false.2 ⟨ops[k], List.getElem_mem h, by rw [hb]; simp⟩)
set_option maxRecDepth 100000 in
set_option maxHeartbeats 1600000 in
theorem cfew_any (A : Option Addr) (c : Nat) (ops : List OpV) (W w : World) (own : Nat → Nat) (h : OpsAt W A ops) (hs : St W w own) (hm : ops.length ≤ 9223372036854775807) :
    Calls Tryd.prog 17 #[.slice A ops.length c] w fun e w' => e = .returned (.bool (fewO ops)) ∧ w = w' := by
  have H := Lib.hid h
  have HS := Lib.hid hs
  clear h hs
  go_enter Tryd.func17, Tryd.ntmps17
  go_wp2_with fail
  go_loop [3] (fun i => ∃ k : Nat, k ≤ ops.length ∧ i = .int .i64 k ∧ (ops.take k).all opOk = true) (fun i => ops.length - (intOf i).toNat)
  case atStart => exact ⟨0, Nat.zero_le _, rfl, rfl⟩
  case round =>
    obtain ⟨k, hk, rfl, hall⟩ := hrel
    have HA := Lib.hid hall
    clear hall
    by_cases hlt : k < ops.length
    · obtain ⟨b, o, rfl, -, -, c2, -, c4⟩ := H.out.at HS.out (List.getElem?_eq_getElem hlt)
      have HT := Lib.hid (all_takeO ops k hlt)
      have HF := Lib.hid (fun hb => fewO_false (ops := ops) hlt hb)
      generalize ops[k] = a at *
      have hz : (k : Int) < (ops.length : Int) := by omega
      by_cases h1 : a.s.size ≤ 400
      · have h1' : ¬ (400 : Int) < (a.s.size : Int) := by omega
        by_cases h2 : a.k.length ≤ 100
        · have h2' : ¬ (100 : Int) < (a.k.length : Int) := by omega
          have hb : Hid ((ops.take (k + 1)).all opOk = true) := by
            show _ = true
            rw [HT.out, HA.out]; simp [opOk, h1, h2]
          go_wp2_with fail
          go_round
          case rel => exact ⟨k + 1, by omega, by go_num, hb.out⟩
          case measure => simp [intOf]; omega
        · have hb : Hid (opOk a = false) := by simp [Hid, opOk, h2]
          have h2' : (100 : Int) < (a.k.length : Int) := by omega
          go_wp2_with fail
          go_ret
          exact ⟨by rw [HF.out hb.out]; rfl, rfl⟩
      · have hb : Hid (opOk a = false) := by simp [Hid, opOk, h1]
        have h1' : (400 : Int) < (a.s.size : Int) := by omega
        go_wp2_with fail
        go_ret
        exact ⟨by rw [HF.out hb.out]; rfl, rfl⟩
    · have HF : Hid (fewO ops = decide ((ops.length : Int) ≤ 30)) := by
        show _ = _
        unfold fewO
        have := HA.out
        rw [List.take_of_length_le (by omega)] at this
        rw [this, Bool.true_and]
        exact decide_eq_decide.2 (by omega)
      have hz : ¬ (k : Int) < (ops.length : Int) := by omega
      go_wp2_with fail
      go_ret
      exact ⟨by rw [HF.out]; rfl, rfl⟩
theorem cfew_is (b : Bool) (A : Option Addr) (c : Nat) (ops : List OpV) (W w : World) (own : Nat → Nat) (h : OpsAt W A ops) (hs : St W w own) (hm : ops.length ≤ 9223372036854775807) (hb : fewO ops = b) :
    Calls Tryd.prog 17 #[.slice A ops.length c] w fun e w' => e = .returned (.bool b) ∧ w = w' := hb ▸ cfew_any A c ops W w own h hs hm
theorem fewO_ok {ops : List OpV} (h : fewO ops = true) : (∀ a ∈ ops, a.s.size ≤ 400 ∧ a.k.length ≤ 100) ∧ ops.length ≤ 30 := by
  simp only [fewO, Bool.and_eq_true, List.all_eq_true, decide_eq_true_eq] at h
  refine ⟨fun a ha => ?_, h.2⟩
  have := h.1 a ha
  simp only [opOk, Bool.and_eq_true, decide_eq_true_eq] at this
  exact this
section
variable {W w w' : World} {own own' : Nat → Nat} {i j gc gd : Nat} {d : DS} {ks : List Int} {f : Int} {c2 : CS}
/-- Open, where it succeeds. -/
theorem o_open (hd : DO w own i gd d ks) (hs : St W w own) (hi : i ≠ 0) (hj : j ≠ 0) (hji : j ≠ i) (hG : GAt W) (hO : openF d f = (0, c2)) :
    Calls Tryd.prog 13 #[.pointer (some ⟨gd, 0, none⟩), .int .i64 f] w fun e w' => ∃ gc, e = .returned (.tuple #[.pointer (some ⟨gc, 0, none⟩), .int .i64 0]) ∧ ∃ own', CO 70 w' own' j gc gd c2 ∧ DO w' own' i gd d ks ∧ Step W w w' own own' j := by
  refine (copen_any W w own i j gd d ks f hd hs hj hG).mono ?_
  intro e w' hp
  rw [hO] at hp
  obtain ⟨gc, own', he, hc, hp2⟩ := hp.1 rfl
  exact ⟨gc, he, own', hc, hd.other hp2 hi hj (Ne.symm hji), hp2⟩
theorem o_get {c : CS} (h : CO 70 w own j gc gd c) : Calls Tryd.prog 15 #[.pointer (some ⟨gc, 0, none⟩)] w fun e w' => e = .returned (.tuple #[.string c.value, .bool (decide (0 < c.slot))]) ∧ ∃ n, w' = w.drewN n :=
  get_any _ rfl w own j gc gd c h
/-- Set, with its outcome. -/
theorem o_set {c c' : CS} {d' : DS} {s : ByteArray} {x : Int} (hc : CO 70 w own j gc gd c) (hd : DO w own i gd d ks) (hs : St W w own) (hi : i ≠ 0) (hj : j ≠ 0) (hji : j ≠ i) (hG : GAt W) (hr : setF d ks c s = (x, d', c')) :
    Calls Tryd.prog 18 #[.pointer (some ⟨gc, 0, none⟩), .string s] w fun e w' => e = .returned (.int .i64 x) ∧ ∃ own', CO 70 w' own' j gc gd c' ∧ DO w' own' i gd d' ks ∧ Steps W w w' own own' (fun n => n = i ∨ n = j) := by
  have := cset_any W w own i j gc gd d ks c s hc hd hs hi hj hji hG
  rw [hr] at this
  exact this
set_option maxRecDepth 100000 in
set_option maxHeartbeats 800000 in
theorem again_any {A : Option Addr} {c : Nat} {keep : List Int} (hd : DO w own i gd d ks) (hs : St W w own) (hi : i ≠ 0) (hj : j ≠ 0) (hji : j ≠ i) (hG : GAt W) (hk : KeepAt w (fun k => own k ≠ 0) A keep) (hb : keep.length ≤ 1000000) (hO : openF (startD (crashD d keep)) 3 = (0, c2)) :
    Calls Tryd.prog 20 #[.pointer (some ⟨gd, 0, none⟩), .slice A keep.length c] w fun e w' => ∃ gc, e = .returned (.tuple #[.pointer (some ⟨gc, 0, none⟩), .int .i64 0]) ∧ ∃ own', CO 70 w' own' j gc gd c2 ∧ DO w' own' i gd (startD (crashD d keep)) ks ∧ Steps W w w' own own' (fun n => n = i ∨ n = j) := by
  have HD := Lib.hid hd
  have HS := Lib.hid hs
  have HG := Lib.hid hG
  have HK := Lib.hid hk
  have HO := Lib.hid hO
  clear hd hs hG hk hO
  go_enter Tryd.func20, Tryd.ntmps20
  go_wp2_with fail
  refine (o_crash HD.out HS.out hi A c HK.out hb).mono ?_
  rintro e w1 ⟨rfl, o1, d1, p1⟩
  have D1 := Lib.hid d1
  have P1 := Lib.hid p1
  clear d1 p1
  go_wp2_with fail
  refine (o_start D1.out P1.out.st hi).mono ?_
  rintro e w2 ⟨rfl, o2, d2, p2⟩
  have D2 := Lib.hid d2
  have P2 := Lib.hid p2
  clear d2 p2 D1
  go_wp2_with fail
  refine (o_open D2.out P2.out.st hi hj hji HG.out HO.out).mono ?_
  rintro e w3 ⟨gc, rfl, o3, c3, d3, p3⟩
  have T3 := Lib.hid (((Steps.of P1.out (.inl rfl)).trans (Steps.of P2.out (.inl rfl))).trans (Steps.of p3 (.inr rfl)) : Steps W w w3 own o3 (fun n => n = i ∨ n = j))
  have C3 := Lib.hid c3
  have D3 := Lib.hid d3
  clear c3 d3 p3 P1 P2 D2
  go_wp2_with fail
  go_ret2
  exact ⟨gc, rfl, o3, C3.out, D3.out, T3.out⟩
end
set_option maxRecDepth 100000 in
set_option maxHeartbeats 3200000 in
theorem csmall_any (w : World) (hG : GAt w) : Calls Tryd.prog 8 #[] w fun e w' => e = .returned (.bool true) ∧ Below w.heap.size w w' := by
  obtain ⟨d1, d2, L⟩ := small_plain
  have LAW := Lib.hid L
  have HG := Lib.hid hG
  have HO := Lib.hid (open_new (f := 3) (by decide))
  clear L hG
  go_enter Tryd.func8, Tryd.ntmps8
  go_wp2_with fail
  refine (o_new (i := 1) (St.start w) (by decide)).mono ?_
  rintro e w1 ⟨gd, rfl, o1, dd1, p1⟩
  have D1 := Lib.hid dd1
  have P1 := Lib.hid p1.st
  clear dd1 p1
  go_wp2_with fail
  refine (o_open (j := 2) D1.out P1.out (by decide) (by decide) (by decide) HG.out HO.out).mono ?_
  rintro e w2 ⟨gc, rfl, o2, c2, dd2, p2⟩
  have C2 := Lib.hid c2
  have D2 := Lib.hid dd2
  have P2 := Lib.hid p2.st
  clear c2 dd2 p2 D1 P1
  go_wp2_with fail
  refine (o_get C2.out).mono ?_
  rintro e w3 ⟨rfl, n3, hw3⟩
  have C3 : Hid (CO 70 w3 o2 2 gc gd c00) := by show CO _ _ _ _ _ _ _; rw [hw3]; exact C2.out.drewN n3
  have D3 : Hid (DO w3 o2 1 gd ds0 []) := by show DO _ _ _ _ _ _; rw [hw3]; exact D2.out.drewN n3
  have P3 : Hid (St w w3 o2) := by show St _ _ _; rw [hw3]; exact P2.out.drewN n3
  clear hw3 C2 D2 P2
  go_wp2_with fail
  refine (o_set C3.out D3.out P3.out (by decide) (by decide) (by decide) HG.out LAW.out.s1).mono ?_
  rintro e w4 ⟨rfl, o4, c4, dd4, p4⟩
  have C4 := Lib.hid c4
  have D4 := Lib.hid dd4
  have P4 := Lib.hid p4.st
  clear c4 dd4 p4 C3 D3 P3
  go_wp2_with fail
  refine (o_set C4.out D4.out P4.out (by decide) (by decide) (by decide) HG.out LAW.out.s2).mono ?_
  rintro e w5 ⟨rfl, o5, c5, dd5, p5⟩
  have C5 := Lib.hid c5
  have D5 := Lib.hid dd5
  have P5 := Lib.hid p5.st
  clear c5 dd5 p5 C4 D4 P4
  go_wp2_with fail
  refine (o_get C5.out).mono ?_
  rintro e w6 ⟨rfl, n6, hw6⟩
  have D6 : Hid (DO w6 o5 1 gd d2 []) := by show DO _ _ _ _ _ _; rw [hw6]; exact D5.out.drewN n6
  have P6 : Hid (St w w6 o5) := by show St _ _ _; rw [hw6]; exact P5.out.drewN n6
  clear hw6 C5 D5 P5
  go_wp2_with fail
  refine (o_read D6.out 3 0 6).mono ?_
  rintro e _ ⟨rfl, rfl⟩
  rw [LAW.out.r1]
  go_wp2_with fail
  refine (o_read D6.out 3 64 1).mono ?_
  rintro e _ ⟨rfl, rfl⟩
  rw [LAW.out.r2]
  go_wp2_with fail
  refine (o_read D6.out 3 131072 9).mono ?_
  rintro e _ ⟨rfl, rfl⟩
  rw [LAW.out.r3]
  go_wp2_with fail
  go_ret
  exact ⟨rfl, P6.out.fr⟩
end Go.Proofs.YtjgmbildgcighaaDoor
