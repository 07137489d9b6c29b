import Derived.Test.YtjgmbildgcighaaDoorCP5
namespace Go.Proofs.YtjgmbildgcighaaDoor
open Go.RowKit

/-- The state in the loop of CellLasts: the cell in v, an error in e, the list in m, 'none' in b. -/
def SyL (W : World) (gd n : Nat) (v e m b : Value) (wr : World) : Prop :=
  ∃ own gc D ks C may none x, v = .pointer (some ⟨gc, 0, Option.none⟩) ∧ e = .int .i64 x ∧ b = .bool none ∧ DO wr own 1 gd D ks ∧ CO 70 wr own 2 gc gd C ∧ MR wr own m may ∧ may.length ≤ n ∧ St W wr own ∧ CI D 3 C (PL none may)
set_option maxRecDepth 100000 in
set_option maxHeartbeats 6400000 in
theorem lasts_walk (A : Option Addr) (c : Nat) (ops : List OpV) (A1 : Option Addr) (c1 : Nat) (keep : List Int) (W : World) (hG : GAt W) (h : OpsAt W A ops) (hm : ops.length ≤ 9223372036854775807) (hk1 : KeepB W A1 keep) (hm1 : keep.length ≤ 9223372036854775807) :
    Calls Tryd.prog 6 #[.slice A ops.length c, .slice A1 keep.length c1] W fun e w' => e = .returned (.bool true) ∧ Below W.heap.size W w' := by
  have HG := Lib.hid hG
  have H := Lib.hid h
  have HK1 := Lib.hid hk1
  clear hG h hk1
  go_enter Tryd.func6, Tryd.ntmps6
  go_wp2_with fail
  refine (csmall_any W HG.out).mono ?_
  rintro e w1 ⟨rfl, hb⟩
  have s1 : Hid (St W w1 (fun _ => 0)) := ⟨fun _ _ => rfl, fun _ _ => rfl, hb⟩
  clear hb
  go_wp2_with fail
  cases hfew : fewO ops with
  | false =>
    refine (cfew_is false A c ops W w1 _ H.out s1.out hm hfew).mono ?_
    rintro e _ ⟨rfl, rfl⟩
    go_wp2_with fail
    go_ret
    exact ⟨rfl, s1.out.fr⟩
  | true =>
  refine (cfew_is true A c ops W w1 _ H.out s1.out hm hfew).mono ?_
  rintro e _ ⟨rfl, rfl⟩
  by_cases h2 : (100 : Int) < (keep.length : Int)
  · go_wp2_with fail
    go_ret
    exact ⟨rfl, s1.out.fr⟩
  have HF := Lib.hid (fewO_ok hfew)
  have hl30 := (fewO_ok hfew).2
  have HO := Lib.hid (open_new (f := 3) (by decide))
  clear hfew
  go_wp2_with fail
  refine (o_new (i := 1) s1.out (by decide)).mono ?_
  rintro e w2 ⟨gd, rfl, o2, d2, p2⟩
  have D2 := Lib.hid d2
  have P2 := Lib.hid p2.st
  clear d2 p2 s1
  go_wp2_with fail
  refine (o_open (j := 2) D2.out P2.out (by decide) (by decide) (by decide) HG.out HO.out).mono ?_
  rintro e w3 ⟨gc0, rfl, o3, c3, d3, p3⟩
  have hst : Hid (SyL W gd 0 (.pointer (some ⟨gc0, 0, none⟩)) (.int .i64 0) (.slice none 0 0) (.bool true) w3) := ⟨o3, gc0, _, _, _, [], true, 0, rfl, rfl, rfl, d3, c3, MR.nil _ _, by simp, p3.st, CI.new (f := 3) (by decide) ⟨fun _ => rfl, fun h => by simp at h⟩⟩
  clear c3 d3 p3 D2 P2 HO
  go_wp2_with fail
  go_loopw [8, 9, 10, 11, 12] (fun v y m b i wr => ∃ k : Nat, k ≤ ops.length + 1 ∧ i = .int .i64 k ∧ SyL W gd k v y m b wr) (fun v y m b i _ => ops.length + 1 - (intOf i).toNat)
  case atStart => exact ⟨0, Nat.zero_le _, rfl, hst.out⟩
  case round =>
    obtain ⟨k, hk, rfl, own, gc, D, ks, C, may, none_, x, rfl, rfl, rfl, hd, hc, hmr, hml, hs, hci⟩ := hrel
    have HD := Lib.hid hd
    have HC := Lib.hid hc
    have HS := Lib.hid hs
    have HCI := Lib.hid hci
    have HMR := Lib.hid hmr
    obtain ⟨mA, mc, rfl⟩ := hmr.form
    clear hst hd hc hs hci hmr
    obtain ⟨w0, rfl⟩ : ∃ w', w' = wr := ⟨_, rfl⟩
    by_cases hle : k ≤ ops.length
    · have hz : (k : Int) ≤ (ops.length : Int) := by omega
      by_cases hlt : k < ops.length
      · obtain ⟨a, ha⟩ : ∃ a, ops[k]? = some a := ⟨_, List.getElem?_eq_getElem hlt⟩
        obtain ⟨b, o, rfl, hb, q1, q2, q3, q4⟩ := H.out.at HS.out ha
        obtain ⟨-, hkb, hn⟩ := H.out k a ha
        obtain ⟨hsz, hkl⟩ := HF.out.1 a (List.mem_of_getElem? ha)
        have hz : (k : Int) < (ops.length : Int) := by omega
        have HKB := Lib.hid hkb
        clear ha hkb
        by_cases k0 : a.kind = 0
        · rw [k0] at q1
          obtain ⟨⟨x', D', C'⟩, hr⟩ : ∃ r, r = setF D ks C a.s := ⟨_, rfl⟩
          have hlaw := set_law HCI.out ks a.s
          rw [← hr] at hlaw
          have HR := Lib.hid hr.symm
          have HL := Lib.hid hlaw
          clear hr hlaw k0
          go_wp2_with fail
          have hf := (Fr.refl (fun _ => False) w0).alloc (Obj.cells #[.int .i64 0, .string a.s, .int .i64 a.n, .slice a.kA a.k.length a.kc] 42)
          have BX := Blk.new w0 42 #[.int .i64 0, .string a.s, .int .i64 a.n, .slice a.kA a.k.length a.kc]
          have ow0 : own w0.heap.size = 0 := HS.out.hi _ (Nat.le_refl _)
          have DB := Lib.hid (HD.out.fr0 hf)
          have CB := Lib.hid (HC.out.fr0 hf)
          have SB := Lib.hid (HS.out.frF hf)
          have MB := Lib.hid (HMR.out.fr0 hf)
          clear hf HD HC HS HMR q1 q2 q3 q4
          generalize w0.alloc (Obj.cells #[.int .i64 0, .string a.s, .int .i64 a.n, .slice a.kA a.k.length a.kc] 42) = wb at *
          generalize w0.heap.size = g at *
          refine (o_set CB.out DB.out SB.out (by decide) (by decide) (by decide) HG.out HR.out).mono ?_
          rintro e w5 ⟨rfl, o5, c5, d5, p5⟩
          have BX5 := (BX.keep p5.fr (by show ¬ (own g = 1 ∨ own g = 2); rw [ow0]; decide)).cell 1
          have M5 := Lib.hid (MB.out.steps p5 (by decide))
          have D5 := Lib.hid d5
          have C5 := Lib.hid c5
          have S5 := Lib.hid p5.st
          clear BX c5 d5 p5 DB CB SB MB HCI HR
          by_cases hx : x' = 0
          · subst hx
            have MX := Lib.hid (MR.nil w5 o5)
            go_wp2_with (at_builtin; refine wpList_append_row _ rfl (.tmp 69) (.tmp 72) 51 rfl 9 _ 1 16 str_elem (fun k => o5 k = 3) (.slice none 0 0) ([] : List ByteArray).length (([] : List ByteArray).map Value.string) rfl ?c0 _ 1 1 [.string a.s] rfl ?c1 (by intro u hu; rw [List.mem_singleton.1 hu]; rfl) ?c2 ?_)
            case c0 => exact Row.alloc MX.out _
            case c1 => exact rd_new1 _ _ _
            case c2 => decide
            intro v' w6 hrow hfr
            obtain ⟨o6, m6, p6⟩ := MR.push (s := a.s) (MX.out.fr0 ((Fr.refl _ w5).alloc _)) (S5.out.frF ((Fr.refl _ w5).alloc _)) hrow hfr
            have hfa : Fr (fun _ => False) w5 _ := (Fr.refl _ w5).alloc (Obj.cells #[.string a.s] 9)
            have hend : Hid (SyL W gd (k + 1) (.pointer (some ⟨gc, 0, none⟩)) (.int .i64 0) v' (.bool false) w6) := ⟨o6, gc, D', ks, C', _, _, _, rfl, rfl, rfl, (D5.out.fr0 hfa).other p6 (by decide) (by decide) (by decide), (C5.out.fr0 hfa).step p6 (by decide), m6, by simp, p6.st, PL.ok HL.out.2 (HL.out.1 rfl)⟩
            clear hfa m6 p6 hrow hfr MX D5 C5 S5 BX5 M5 HL
            go_wp2_with fail
            go_roundw
            case rel => exact ⟨k + 1, by omega, by go_num, hend.out⟩
            case measure => simp [intOf]; omega
          · have hx' : (x' == 0) = false := by simpa using hx
            have MX := Lib.hid (M5.out)
            go_wp2_with (at_builtin; refine wpList_append_row _ rfl (.tmp 69) (.tmp 72) 51 rfl 9 _ 1 16 str_elem (fun k => o5 k = 3) (.slice mA may.length mc) may.length (may.map Value.string) rfl ?c0 _ 1 1 [.string a.s] rfl ?c1 (by intro u hu; rw [List.mem_singleton.1 hu]; rfl) ?c2 ?_)
            case c0 => exact Row.alloc MX.out _
            case c1 => exact rd_new1 _ _ _
            case c2 => omega
            intro v' w6 hrow hfr
            obtain ⟨o6, m6, p6⟩ := MR.push (s := a.s) (MX.out.fr0 ((Fr.refl _ w5).alloc _)) (S5.out.frF ((Fr.refl _ w5).alloc _)) hrow hfr
            have hfa : Fr (fun _ => False) w5 _ := (Fr.refl _ w5).alloc (Obj.cells #[.string a.s] 9)
            have hend : Hid (SyL W gd (k + 1) (.pointer (some ⟨gc, 0, none⟩)) (.int .i64 x') v' (.bool none_) w6) := ⟨o6, gc, D', ks, C', _, _, _, rfl, rfl, rfl, (D5.out.fr0 hfa).other p6 (by decide) (by decide) (by decide), (C5.out.fr0 hfa).step p6 (by decide), m6, by simp; omega, p6.st, PL.more HL.out.2⟩
            clear hfa m6 p6 hrow hfr MX D5 C5 S5 BX5 M5 HL
            go_wp2_with fail
            go_roundw
            case rel => exact ⟨k + 1, by omega, by go_num, hend.out⟩
            case measure => simp [intOf]; omega
        · have k0' : (a.kind == 0) = false := by simpa using k0
          by_cases k1 : a.kind = 1
          · have k1' : (a.kind == 1) = true := by simpa using k1
            clear k0 k1
            go_wp2_with fail
            have hf := (Fr.refl (fun _ => False) w0).alloc (Obj.cells #[.int .i64 a.kind, .string a.s, .int .i64 a.n, .slice a.kA a.k.length a.kc] 42)
            have BX := Blk.new w0 42 #[.int .i64 a.kind, .string a.s, .int .i64 a.n, .slice a.kA a.k.length a.kc]
            have ow0 : own w0.heap.size = 0 := HS.out.hi _ (Nat.le_refl _)
            have DB := Lib.hid (HD.out.fr0 hf)
            have CB := Lib.hid (HC.out.fr0 hf)
            have SB := Lib.hid (HS.out.frF hf)
            have MB := Lib.hid (HMR.out.fr0 hf)
            clear hf HD HC HS HMR q1 q2 q3 q4
            generalize w0.alloc (Obj.cells #[.int .i64 a.kind, .string a.s, .int .i64 a.n, .slice a.kA a.k.length a.kc] 42) = wb at *
            generalize w0.heap.size = g at *
            refine (o_lose DB.out SB.out (by decide) a.n hn).mono ?_
            rintro e w5 ⟨rfl, o5, d5, p5⟩
            have hend : Hid (SyL W gd (k + 1) (.pointer (some ⟨gc, 0, none⟩)) (.int .i64 x) (.slice mA may.length mc) (.bool none_) w5) := ⟨o5, gc, _, ks, C, _, _, _, rfl, rfl, rfl, d5, CB.out.step p5 (by decide), MB.out.steps (Steps.of (P := fun n => n = 1) p5 rfl) (by decide), by omega, p5.st, HCI.out.lose a.n hn⟩
            clear d5 p5 DB CB SB MB BX HCI
            go_wp2_with fail
            go_roundw
            case rel => exact ⟨k + 1, by omega, by go_num, hend.out⟩
            case measure => simp [intOf]; omega
          · have k1' : (a.kind == 1) = false := by simpa using k1
            by_cases k2 : a.kind = 2
            · have k2' : (a.kind == 2) = true := by simpa using k2
              clear k0 k1 k2
              go_wp2_with fail
              have hf := (Fr.refl (fun _ => False) w0).alloc (Obj.cells #[.int .i64 a.kind, .string a.s, .int .i64 a.n, .slice a.kA a.k.length a.kc] 42)
              have BX := Blk.new w0 42 #[.int .i64 a.kind, .string a.s, .int .i64 a.n, .slice a.kA a.k.length a.kc]
              have ow0 : own w0.heap.size = 0 := HS.out.hi _ (Nat.le_refl _)
              have DB := Lib.hid (HD.out.fr0 hf)
              have CB := Lib.hid (HC.out.fr0 hf)
              have SB := Lib.hid (HS.out.frF hf)
              have MB := Lib.hid (HMR.out.fr0 hf)
              clear hf HD HC HS HMR q1 q2 q3 q4
              generalize w0.alloc (Obj.cells #[.int .i64 a.kind, .string a.s, .int .i64 a.n, .slice a.kA a.k.length a.kc] 42) = wb at *
              generalize w0.heap.size = g at *
              refine (o_arm DB.out SB.out (by decide) a.n hn _ _ (HKB.out.at SB.out) (by omega)).mono ?_
              rintro e w5 ⟨rfl, o5, d5, p5⟩
              have hend : Hid (SyL W gd (k + 1) (.pointer (some ⟨gc, 0, none⟩)) (.int .i64 x) (.slice mA may.length mc) (.bool none_) w5) := ⟨o5, gc, _, _, C, _, _, _, rfl, rfl, rfl, d5, CB.out.step p5 (by decide), MB.out.steps (Steps.of (P := fun n => n = 1) p5 rfl) (by decide), by omega, p5.st, HCI.out.arm a.n hn⟩
              clear d5 p5 DB CB SB MB BX HCI
              go_wp2_with fail
              go_roundw
              case rel => exact ⟨k + 1, by omega, by go_num, hend.out⟩
              case measure => simp [intOf]; omega
            · have k2' : (a.kind == 2) = false := by simpa using k2
              by_cases k3 : a.kind = 3
              · have k3' : (a.kind == 3) = true := by simpa using k3
                clear k0 k1 k2 k3
                obtain ⟨sl, v, hO, hP, hsl, hQ⟩ := HCI.out.again_know a.k
                have HO := Lib.hid hO
                have HPP := Lib.hid hP
                have HQ := Lib.hid hQ
                clear hO hP hQ HCI
                go_wp2_with fail
                have hf := (Fr.refl (fun _ => False) w0).alloc (Obj.cells #[.int .i64 a.kind, .string a.s, .int .i64 a.n, .slice a.kA a.k.length a.kc] 42)
                have BX := Blk.new w0 42 #[.int .i64 a.kind, .string a.s, .int .i64 a.n, .slice a.kA a.k.length a.kc]
                have ow0 : own w0.heap.size = 0 := HS.out.hi _ (Nat.le_refl _)
                have DB := Lib.hid (HD.out.fr0 hf)
                have CB := Lib.hid (HC.out.fr0 hf)
                have SB := Lib.hid (HS.out.frF hf)
                have MB := Lib.hid (HMR.out.fr0 hf)
                clear hf HD HC HS HMR q1 q2 q3 q4
                generalize w0.alloc (Obj.cells #[.int .i64 a.kind, .string a.s, .int .i64 a.n, .slice a.kA a.k.length a.kc] 42) = wb at *
                generalize w0.heap.size = g at *
                refine (again_any DB.out SB.out (by decide) (by decide) (by decide : (2 : Nat) ≠ 1) HG.out (HKB.out.at SB.out) (by omega) HO.out).mono ?_
                rintro e w5 ⟨gc5, rfl, o5, c5, d5, p5⟩
                have M5 := Lib.hid (MB.out.steps p5 (by decide))
                have D5 := Lib.hid d5
                have C5 := Lib.hid c5
                have S5 := Lib.hid p5.st
                clear c5 d5 p5 DB CB SB MB BX HO
                go_wp2_with fail
                refine (o_get C5.out).mono ?_
                rintro e w6 ⟨rfl, n6, hw6⟩
                have D6 : Hid (DO w6 o5 1 gd (startD (crashD D a.k)) ks) := by show DO _ _ _ _ _ _; rw [hw6]; exact D5.out.drewN n6
                have C6 : Hid (CO 70 w6 o5 2 gc5 gd ⟨3, sl, v, false⟩) := by show CO _ _ _ _ _ _ _; rw [hw6]; exact C5.out.drewN n6
                have M6 : Hid (MR w6 o5 (.slice mA may.length mc) may) := by show MR _ _ _ _; rw [hw6]; exact M5.out.drewN n6
                have S6 : Hid (St W w6 o5) := by show St _ _ _; rw [hw6]; exact S5.out.drewN n6
                clear hw6 D5 C5 M5 S5
                by_cases hpos : 0 < sl
                · have hsd : decide (0 < sl) = true := by simpa using hpos
                  have HMEM := Lib.hid (HPP.out.2 hpos)
                  rw [hsd]
                  clear HPP
                  go_wp2_with fail
                  refine (has_any mA mc v (by omega) M6.out HMEM.out).mono ?_
                  rintro e w7 ⟨rfl, n7, hw7⟩
                  have D7 : Hid (DO w7 o5 1 gd (startD (crashD D a.k)) ks) := by show DO _ _ _ _ _ _; rw [hw7]; exact D6.out.drewN n7
                  have C7 : Hid (CO 70 w7 o5 2 gc5 gd ⟨3, sl, v, false⟩) := by show CO _ _ _ _ _ _ _; rw [hw7]; exact C6.out.drewN n7
                  have S7 : Hid (St W w7 o5) := by show St _ _ _; rw [hw7]; exact S6.out.drewN n7
                  clear hw7 D6 C6 M6 S6
                  obtain ⟨o8, m8, p8⟩ := MR.one S7.out v
                  have hend : Hid (SyL W gd (k + 1) (.pointer (some ⟨gc5, 0, none⟩)) (.int .i64 0) (.slice (some ⟨w7.heap.size, 0, none⟩) 1 1) (.bool false) (w7.alloc (.cells #[.string v] 9))) := ⟨o8, gc5, _, ks, _, [v], false, 0, rfl, rfl, rfl, D7.out.other p8 (by decide) (by decide) (by decide), C7.out.step p8 (by decide), m8, by simp, p8.st, HQ.out _ ⟨fun e => by omega, fun _ => List.mem_singleton.2 rfl⟩⟩
                  clear m8 p8 D7 C7 S7 HQ HMEM
                  go_wp2_with fail
                  go_roundw
                  case rel => exact ⟨k + 1, by omega, by go_num, hend.out⟩
                  case measure => simp [intOf]; omega
                · have hsd : decide (0 < sl) = false := by simpa using hpos
                  have hnone : none_ = true := HPP.out.1 (by omega)
                  subst hnone
                  rw [hsd]
                  have hend : Hid (∀ q, SyL W gd (k + 1) (.pointer (some ⟨gc5, 0, none⟩)) (.int .i64 0) (.slice none 0 0) (.bool true) (w6.drewN q)) := fun q => ⟨o5, gc5, _, ks, _, [], true, 0, rfl, rfl, rfl, D6.out.drewN q, C6.out.drewN q, MR.nil _ _, by simp, S6.out.drewN q, HQ.out _ ⟨fun _ => rfl, fun h => absurd h hpos⟩⟩
                  clear D6 C6 M6 S6 HQ HPP
                  go_wp2_with fail
                  go_roundw
                  case rel => exact ⟨k + 1, by omega, by go_num, hend.out 0⟩
                  case measure => simp [intOf]; omega
              · have k3' : (a.kind == 3) = false := by simpa using k3
                have hend : Hid (SyL W gd (k + 1) (.pointer (some ⟨gc, 0, none⟩)) (.int .i64 x) (.slice mA may.length mc) (.bool none_) (w0.alloc (Obj.cells #[.int .i64 a.kind, .string a.s, .int .i64 a.n, .slice a.kA a.k.length a.kc] 42))) := by
                  have hf := (Fr.refl (fun _ => False) w0).alloc (Obj.cells #[.int .i64 a.kind, .string a.s, .int .i64 a.n, .slice a.kA a.k.length a.kc] 42)
                  exact ⟨own, gc, D, ks, C, may, none_, x, rfl, rfl, rfl, HD.out.fr0 hf, HC.out.fr0 hf, HMR.out.fr0 hf, by omega, HS.out.frF hf, HCI.out⟩
                clear k0 k1 k2 k3 HC HD HS HCI HMR
                go_wp2_with fail
                go_roundw
                case rel => exact ⟨k + 1, by omega, by go_num, hend.out⟩
                case measure => simp [intOf]; omega
      · have hzl : ¬ (k : Int) < (ops.length : Int) := by omega
        obtain ⟨sl, v, hO, hP, hsl, hQ⟩ := HCI.out.again_know keep
        have HO := Lib.hid hO
        have HPP := Lib.hid hP
        have HQ := Lib.hid hQ
        clear hO hP hQ HCI
        go_wp2_with fail
        have hf := (Fr.refl (fun _ => False) w0).alloc (Obj.cells #[.int .i64 3, .string ⟨#[]⟩, .int .i64 0, .slice A1 keep.length c1] 42)
        have BX := Blk.new w0 42 #[.int .i64 3, .string ⟨#[]⟩, .int .i64 0, .slice A1 keep.length c1]
        have ow0 : own w0.heap.size = 0 := HS.out.hi _ (Nat.le_refl _)
        have DB := Lib.hid (HD.out.fr0 hf)
        have CB := Lib.hid (HC.out.fr0 hf)
        have SB := Lib.hid (HS.out.frF hf)
        have MB := Lib.hid (HMR.out.fr0 hf)
        clear hf HD HC HS HMR
        generalize w0.alloc (Obj.cells #[.int .i64 3, .string ⟨#[]⟩, .int .i64 0, .slice A1 keep.length c1] 42) = wb at *
        generalize w0.heap.size = g at *
        refine (again_any DB.out SB.out (by decide) (by decide) (by decide : (2 : Nat) ≠ 1) HG.out (HK1.out.at SB.out) (by omega) HO.out).mono ?_
        rintro e w5 ⟨gc5, rfl, o5, c5, d5, p5⟩
        have M5 := Lib.hid (MB.out.steps p5 (by decide))
        have D5 := Lib.hid d5
        have C5 := Lib.hid c5
        have S5 := Lib.hid p5.st
        clear c5 d5 p5 DB CB SB MB BX HO
        go_wp2_with fail
        refine (o_get C5.out).mono ?_
        rintro e w6 ⟨rfl, n6, hw6⟩
        have D6 : Hid (DO w6 o5 1 gd (startD (crashD D keep)) ks) := by show DO _ _ _ _ _ _; rw [hw6]; exact D5.out.drewN n6
        have C6 : Hid (CO 70 w6 o5 2 gc5 gd ⟨3, sl, v, false⟩) := by show CO _ _ _ _ _ _ _; rw [hw6]; exact C5.out.drewN n6
        have M6 : Hid (MR w6 o5 (.slice mA may.length mc) may) := by show MR _ _ _ _; rw [hw6]; exact M5.out.drewN n6
        have S6 : Hid (St W w6 o5) := by show St _ _ _; rw [hw6]; exact S5.out.drewN n6
        clear hw6 D5 C5 M5 S5
        by_cases hpos : 0 < sl
        · have hsd : decide (0 < sl) = true := by simpa using hpos
          have HMEM := Lib.hid (HPP.out.2 hpos)
          rw [hsd]
          clear HPP
          go_wp2_with fail
          refine (has_any mA mc v (by omega) M6.out HMEM.out).mono ?_
          rintro e w7 ⟨rfl, n7, hw7⟩
          have D7 : Hid (DO w7 o5 1 gd (startD (crashD D keep)) ks) := by show DO _ _ _ _ _ _; rw [hw7]; exact D6.out.drewN n7
          have C7 : Hid (CO 70 w7 o5 2 gc5 gd ⟨3, sl, v, false⟩) := by show CO _ _ _ _ _ _ _; rw [hw7]; exact C6.out.drewN n7
          have S7 : Hid (St W w7 o5) := by show St _ _ _; rw [hw7]; exact S6.out.drewN n7
          clear hw7 D6 C6 M6 S6
          obtain ⟨o8, m8, p8⟩ := MR.one S7.out v
          have hend : Hid (SyL W gd (k + 1) (.pointer (some ⟨gc5, 0, none⟩)) (.int .i64 0) (.slice (some ⟨w7.heap.size, 0, none⟩) 1 1) (.bool false) (w7.alloc (.cells #[.string v] 9))) := ⟨o8, gc5, _, ks, _, [v], false, 0, rfl, rfl, rfl, D7.out.other p8 (by decide) (by decide) (by decide), C7.out.step p8 (by decide), m8, by simp, p8.st, HQ.out _ ⟨fun e => by omega, fun _ => List.mem_singleton.2 rfl⟩⟩
          clear m8 p8 D7 C7 S7 HQ HMEM
          go_wp2_with fail
          go_roundw
          case rel => exact ⟨k + 1, by omega, by go_num, hend.out⟩
          case measure => simp [intOf]; omega
        · have hsd : decide (0 < sl) = false := by simpa using hpos
          have hnone : none_ = true := HPP.out.1 (by omega)
          subst hnone
          rw [hsd]
          have hend : Hid (∀ q, SyL W gd (k + 1) (.pointer (some ⟨gc5, 0, none⟩)) (.int .i64 0) (.slice none 0 0) (.bool true) (w6.drewN q)) := fun q => ⟨o5, gc5, _, ks, _, [], true, 0, rfl, rfl, rfl, D6.out.drewN q, C6.out.drewN q, MR.nil _ _, by simp, S6.out.drewN q, HQ.out _ ⟨fun _ => rfl, fun h => absurd h hpos⟩⟩
          clear D6 C6 M6 S6 HQ HPP
          go_wp2_with fail
          go_roundw
          case rel => exact ⟨k + 1, by omega, by go_num, hend.out 0⟩
          case measure => simp [intOf]; omega
    · have hz : ¬ (k : Int) ≤ (ops.length : Int) := by omega
      go_wp2_with fail
      go_ret
      exact ⟨rfl, HS.out.fr⟩
end Go.Proofs.YtjgmbildgcighaaDoor
