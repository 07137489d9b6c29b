import Derived.Test.YtjgmbildgcighaaDoorCP4
import Derived.Test.YtjgmbildgcighaaDoorC6
namespace Go.Proofs.YtjgmbildgcighaaDoor
open Go.RowKit

/-- The state in the first loop of CellStays. -/
def SyA (W : World) (gd : Nat) (v : Value) (wr : World) : Prop :=
  ∃ own gc D C, v = .pointer (some ⟨gc, 0, none⟩) ∧ DO wr own 1 gd D [] ∧ CO 70 wr own 2 gc gd C ∧ St W wr own ∧ CI D 3 C (fun _ _ => True)
/-- In the second: the cell holds s, and keeps it. -/
def SyB (W : World) (gd : Nat) (s : ByteArray) (v : Value) (wr : World) : Prop :=
  ∃ own gc D C, v = .pointer (some ⟨gc, 0, none⟩) ∧ DO wr own 1 gd D [] ∧ CO 70 wr own 2 gc gd C ∧ St W wr own ∧ CI D 3 C (fun sl v => 0 < sl ∧ v = s) ∧ C.value = s ∧ 0 < C.slot
theorem made_long (w : World) : ∃ l : ByteArray, 65536 < l.size ∧ ∃ w', (Instr.makeSlice 46 (.int .i64 65537) (.int .i64 65537)).run Tryd.prog w = .ok (.slice (some ⟨w.heap.size, 0, none⟩) 65537 65537) w' ∧ (convert 46 9 (.slice (some ⟨w.heap.size, 0, none⟩) 65537 65537)).run Tryd.prog w' = .ok (.string l) w' ∧ Fr (fun _ => False) w w' := by
  obtain ⟨n, hn⟩ : ∃ n, n = 65537 := ⟨_, rfl⟩
  have hmk := make_bytes w n (by omega)
  have hbk := bytes_back (w.alloc (.cells (bc (List.replicate n 0)).toArray 5)) w.heap.size n (List.replicate n 0) (Blk.new w 5 _)
  rw [List.length_replicate] at hbk
  have hsz : (⟨(List.replicate n (0 : UInt8)).toArray⟩ : ByteArray).size = n := by
    rw [size_eq_length]
    simp
  refine ⟨⟨(List.replicate n 0).toArray⟩, by rw [hsz, hn]; decide, w.alloc (.cells (bc (List.replicate n 0)).toArray 5), ?_, ?_, (Fr.refl _ w).alloc _⟩
  · generalize w.alloc (.cells (bc (List.replicate n 0)).toArray 5) = w' at *
    rw [hn] at hmk
    exact hmk
  · generalize (⟨(List.replicate n (0 : UInt8)).toArray⟩ : ByteArray) = l at *
    generalize w.alloc (.cells (bc (List.replicate n 0)).toArray 5) = w' at *
    rw [hn] at hbk
    exact hbk
set_option maxRecDepth 100000 in
set_option maxHeartbeats 6400000 in
theorem stays_walk (A : Option Addr) (c : Nat) (ops : List OpV) (s : ByteArray) (A1 : Option Addr) (c1 : Nat) (one : List Int) (A2 : Option Addr) (c2 : Nat) (two : List Int) (W : World) (hG : GAt W) (h : OpsAt W A ops) (hm : ops.length ≤ 9223372036854775807) (hk1 : KeepB W A1 one) (hm1 : one.length ≤ 9223372036854775807) (hk2 : KeepB W A2 two) (hm2 : two.length ≤ 9223372036854775807) :
    Calls Tryd.prog 4 #[.slice A ops.length c, .string s, .slice A1 one.length c1, .slice A2 two.length c2] W fun e w' => e = .returned (.bool true) ∧ Below W.heap.size W w' := by
  have HG := Lib.hid hG
  have H := Lib.hid h
  have HK1 := Lib.hid hk1
  have HK2 := Lib.hid hk2
  clear hG h hk1 hk2
  go_enter Tryd.func4, Tryd.ntmps4
  go_wp2_with fail
  refine (csmall_any W HG.out).mono ?_
  rintro e w1 ⟨rfl, hb⟩
  have s1 : Hid (St W w1 (fun _ => 0)) := ⟨fun _ _ => rfl, fun _ _ => rfl, hb⟩
  clear hb
  go_wp2_with fail
  cases hfew : fewO ops with
  | false =>
    refine (cfew_is false A c ops W w1 _ H.out s1.out hm hfew).mono ?_
    rintro e _ ⟨rfl, rfl⟩
    go_wp2_with fail
    go_ret
    exact ⟨rfl, s1.out.fr⟩
  | true =>
  refine (cfew_is true A c ops W w1 _ H.out s1.out hm hfew).mono ?_
  rintro e _ ⟨rfl, rfl⟩
  by_cases h1 : (400 : Int) < (s.size : Int)
  · go_wp2_with fail
    go_ret
    exact ⟨rfl, s1.out.fr⟩
  by_cases h2 : (100 : Int) < (one.length : Int)
  · go_wp2_with fail
    go_ret
    exact ⟨rfl, s1.out.fr⟩
  by_cases h3 : (100 : Int) < (two.length : Int)
  · go_wp2_with fail
    go_ret
    exact ⟨rfl, s1.out.fr⟩
  have HF := Lib.hid (fewO_ok hfew)
  have hl30 := (fewO_ok hfew).2
  have HO := Lib.hid (open_new (f := 3) (by decide))
  clear hfew
  go_wp2_with fail
  refine (o_new (i := 1) s1.out (by decide)).mono ?_
  rintro e w2 ⟨gd, rfl, o2, d2, p2⟩
  have D2 := Lib.hid d2
  have P2 := Lib.hid p2.st
  clear d2 p2 s1
  go_wp2_with fail
  refine (o_open (j := 2) D2.out P2.out (by decide) (by decide) (by decide) HG.out HO.out).mono ?_
  rintro e w3 ⟨gc0, rfl, o3, c3, d3, p3⟩
  have hst : Hid (SyA W gd (.pointer (some ⟨gc0, 0, none⟩)) w3) := ⟨o3, gc0, _, _, rfl, d3, c3, p3.st, CI.new (f := 3) (by decide) trivial⟩
  clear c3 d3 p3 D2 P2 HO
  go_wp2_with fail
  go_loopw [12, 13, 14] (fun v y i wr => ∃ k : Nat, k ≤ ops.length ∧ i = .int .i64 k ∧ (∃ z, y = .int .i64 z) ∧ SyA W gd v wr) (fun v y i _ => ops.length - (intOf i).toNat)
  case atStart => exact ⟨0, Nat.zero_le _, rfl, ⟨_, rfl⟩, hst.out⟩
  case round =>
    obtain ⟨k, hk, rfl, ⟨z, rfl⟩, own, gc, D, C, rfl, hd, hc, hs, hci⟩ := hrel
    have HD := Lib.hid hd
    have HC := Lib.hid hc
    have HS := Lib.hid hs
    have HCI := Lib.hid hci
    clear hst hd hc hs hci
    by_cases hlt : k < ops.length
    · obtain ⟨a, ha⟩ : ∃ a, ops[k]? = some a := ⟨_, List.getElem?_eq_getElem hlt⟩
      obtain ⟨b, o, rfl, hb, q1, q2, q3, q4⟩ := H.out.at HS.out ha
      obtain ⟨-, hkb, hn⟩ := H.out k a ha
      obtain ⟨hsz, hkl⟩ := HF.out.1 a (List.mem_of_getElem? ha)
      have hz : (k : Int) < (ops.length : Int) := by omega
      have HKB := Lib.hid hkb
      clear ha hkb hb
      by_cases k0 : a.kind = 0
      · rw [k0] at q1
        obtain ⟨⟨x, D', C'⟩, hr⟩ : ∃ r, r = setF D [] C a.s := ⟨_, rfl⟩
        have hlaw := (set_law HCI.out [] a.s).2
        rw [← hr] at hlaw
        have HR := Lib.hid hr.symm
        have HL := Lib.hid hlaw
        clear hr hlaw k0
        go_wp2_with fail
        refine (o_set HC.out HD.out HS.out (by decide) (by decide) (by decide) HG.out HR.out).mono ?_
        rintro e w5 ⟨rfl, o5, c5, d5, p5⟩
        have hend : Hid (SyA W gd (.pointer (some ⟨gc, 0, none⟩)) w5) := ⟨o5, gc, _, _, rfl, d5, c5, p5.st, HL.out.mono fun _ _ _ => trivial⟩
        clear c5 d5 p5 HC HD HS HCI HL HR q1 q2 q3 q4
        go_wp2_with fail
        go_roundw
        case rel => exact ⟨k + 1, by omega, by go_num, ⟨_, rfl⟩, hend.out⟩
        case measure => simp [intOf]; omega
      · have k0' : (a.kind == 0) = false := by simpa using k0
        by_cases k1 : a.kind = 1
        · have k1' : (a.kind == 1) = true := by simpa using k1
          clear k0 k1
          go_wp2_with fail
          refine (o_lose HD.out HS.out (by decide) a.n hn).mono ?_
          rintro e w5 ⟨rfl, o5, d5, p5⟩
          have hend : Hid (SyA W gd (.pointer (some ⟨gc, 0, none⟩)) w5) := ⟨o5, gc, _, _, rfl, d5, HC.out.step p5 (by decide), p5.st, HCI.out.lose a.n hn⟩
          clear d5 p5 HC HD HS HCI q1 q2 q3 q4
          go_wp2_with fail
          go_roundw
          case rel => exact ⟨k + 1, by omega, by go_num, ⟨_, rfl⟩, hend.out⟩
          case measure => simp [intOf]; omega
        · have k1' : (a.kind == 1) = false := by simpa using k1
          by_cases k3 : a.kind = 3
          · have k3' : (a.kind == 3) = true := by simpa using k3
            obtain ⟨sl, v, hO, hci, -, -⟩ := HCI.out.again a.k
            have HO := Lib.hid hO
            have HCJ := Lib.hid hci
            clear k0 k1 k3 hO hci
            go_wp2_with fail
            refine (again_any HD.out HS.out (by decide) (by decide) (by decide : (2 : Nat) ≠ 1) HG.out (HKB.out.at HS.out) (by omega) HO.out).mono ?_
            rintro e w5 ⟨gc5, rfl, o5, c5, d5, p5⟩
            have hend : Hid (SyA W gd (.pointer (some ⟨gc5, 0, none⟩)) w5) := ⟨o5, gc5, _, _, rfl, d5, c5, p5.st, HCJ.out⟩
            clear c5 d5 p5 HC HD HS HCI HCJ HO q1 q2 q3 q4
            go_wp2_with fail
            go_roundw
            case rel => exact ⟨k + 1, by omega, by go_num, ⟨_, rfl⟩, hend.out⟩
            case measure => simp [intOf]; omega
          · have k3' : (a.kind == 3) = false := by simpa using k3
            have hend : Hid (SyA W gd (.pointer (some ⟨gc, 0, none⟩)) wr) := ⟨own, gc, D, C, rfl, HD.out, HC.out, HS.out, HCI.out⟩
            clear k0 k1 k3 HC HD HS HCI
            go_wp2_with fail
            go_roundw
            case rel => exact ⟨k + 1, by omega, by go_num, ⟨_, rfl⟩, hend.out⟩
            case measure => simp [intOf]; omega
    · have hz : ¬ (k : Int) < (ops.length : Int) := by omega
      obtain ⟨⟨x, D', C'⟩, hr⟩ : ∃ r, r = setF D [] C s := ⟨_, rfl⟩
      have hlaw := set_law HCI.out [] s
      rw [← hr] at hlaw
      have HR := Lib.hid hr.symm
      have HL := Lib.hid hlaw
      clear hr hlaw
      go_wp2_with fail
      refine (o_set HC.out HD.out HS.out (by decide) (by decide) (by decide) HG.out HR.out).mono ?_
      rintro e w5 ⟨rfl, o5, c5, d5, p5⟩
      have C5 := Lib.hid c5
      have D5 := Lib.hid d5
      have S5 := Lib.hid p5.st
      clear c5 d5 p5 HC HD HS HCI HR
      by_cases hx : x = 0
      · have hok := HL.out.1 hx
        have hcb : CI D' 3 C' (fun sl v => 0 < sl ∧ v = s) := ⟨HL.out.2.inv, HL.out.2.j, by decide, HL.out.2.file, .inl ⟨hok.up, by rw [hok.value]; exact hok.stab, hok.pos, hok.value⟩⟩
        have HCB := Lib.hid hcb
        have HV := Lib.hid hok.value
        have HP := Lib.hid hok.pos
        obtain ⟨l, hl, w6, hmk, hbk, hf6⟩ := made_long w5
        have hlong : setF D' [] C' l = (6, D', C') := by unfold setF; rw [if_pos hl]
        have HLG := Lib.hid hlong
        have C6 := Lib.hid (C5.out.fr0 hf6)
        have D6 := Lib.hid (D5.out.fr0 hf6)
        have S6 := Lib.hid (S5.out.frF hf6)
        subst hx
        clear hok hcb hl hlong hf6 C5 D5 S5 HL
        go_wp2_with fail
        clear hmk hbk
        refine (o_set C6.out D6.out S6.out (by decide) (by decide) (by decide) HG.out HLG.out).mono ?_
        rintro e w7 ⟨rfl, o7, c7, d7, p7⟩
        have hst : Hid (SyB W gd s (.pointer (some ⟨gc, 0, none⟩)) w7) := ⟨o7, gc, _, _, rfl, d7, c7, p7.st, HCB.out, HV.out, HP.out⟩
        clear c7 d7 p7 C6 D6 S6 HLG HCB HV HP
        go_wp2_with fail
        go_loopw [12, 13, 16] (fun v y i wr => ∃ k : Nat, k ≤ 2 ∧ i = .int .i64 k ∧ (∃ z, y = .int .i64 z) ∧ SyB W gd s v wr) (fun v y i _ => 2 - (intOf i).toNat)
        case atStart => exact ⟨0, Nat.zero_le _, rfl, ⟨_, rfl⟩, hst.out⟩
        case round =>
          obtain ⟨k2, hk2, rfl, ⟨z2, rfl⟩, own2, gc2, D2, C2, rfl, hd, hc, hs, hci, hv, hp⟩ := hrel
          have HD := Lib.hid hd
          have HC := Lib.hid hc
          have HS := Lib.hid hs
          have HCI := Lib.hid hci
          clear hst hd hc hs hci
          have hsd : decide (0 < C2.slot) = true := by simpa using hp
          by_cases hlt2 : k2 < 2
          · have hz2 : (k2 : Int) < 2 := by omega
            go_wp2_with fail
            refine (o_get HC.out).mono ?_
            rintro e w8 ⟨rfl, n8, hw8⟩
            rw [hv, hsd]
            have D8 : Hid (DO w8 own2 1 gd D2 []) := by show DO _ _ _ _ _ _; rw [hw8]; exact HD.out.drewN n8
            have S8 : Hid (St W w8 own2) := by show St _ _ _; rw [hw8]; exact HS.out.drewN n8
            clear hw8 HC HD HS
            by_cases hi1 : k2 = 1
            · have hi1' : ((k2 : Int) == 1) = true := by simp; omega
              obtain ⟨sl, v, hO, hcj, hP, -⟩ := HCI.out.again two
              have HO := Lib.hid hO
              have HCJ := Lib.hid hcj
              have HPP := Lib.hid hP
              clear hO hcj hP HCI hi1 hsd hv hp
              go_wp2_with fail
              refine (again_any D8.out S8.out (by decide) (by decide) (by decide : (2 : Nat) ≠ 1) HG.out (HK2.out.at S8.out) (by omega) HO.out).mono ?_
              rintro e w9 ⟨gc9, rfl, o9, c9, d9, p9⟩
              have hend : Hid (SyB W gd s (.pointer (some ⟨gc9, 0, none⟩)) w9) := ⟨o9, gc9, _, _, rfl, d9, c9, p9.st, HCJ.out, HPP.out.2, HPP.out.1⟩
              clear c9 d9 p9 D8 S8 HCJ HPP HO
              go_wp2_with fail
              go_roundw
              case rel => exact ⟨k2 + 1, by omega, by go_num, ⟨_, rfl⟩, hend.out⟩
              case measure => simp [intOf]; omega
            · have hi1' : ((k2 : Int) == 1) = false := by simp; omega
              obtain ⟨sl, v, hO, hcj, hP, -⟩ := HCI.out.again one
              have HO := Lib.hid hO
              have HCJ := Lib.hid hcj
              have HPP := Lib.hid hP
              clear hO hcj hP HCI hi1 hsd hv hp
              go_wp2_with fail
              refine (again_any D8.out S8.out (by decide) (by decide) (by decide : (2 : Nat) ≠ 1) HG.out (HK1.out.at S8.out) (by omega) HO.out).mono ?_
              rintro e w9 ⟨gc9, rfl, o9, c9, d9, p9⟩
              have hend : Hid (SyB W gd s (.pointer (some ⟨gc9, 0, none⟩)) w9) := ⟨o9, gc9, _, _, rfl, d9, c9, p9.st, HCJ.out, HPP.out.2, HPP.out.1⟩
              clear c9 d9 p9 D8 S8 HCJ HPP HO
              go_wp2_with fail
              go_roundw
              case rel => exact ⟨k2 + 1, by omega, by go_num, ⟨_, rfl⟩, hend.out⟩
              case measure => simp [intOf]; omega
          · have hz2 : ¬ (k2 : Int) < 2 := by omega
            go_wp2_with fail
            refine (o_get HC.out).mono ?_
            rintro e w8 ⟨rfl, n8, hw8⟩
            rw [hv, hsd]
            have S8 : Hid (St W w8 own2) := by show St _ _ _; rw [hw8]; exact HS.out.drewN n8
            clear hw8 HC HD HS HCI
            go_wp2_with fail
            go_ret
            exact ⟨rfl, S8.out.fr⟩
      · have hxx : (x != 0) = true := by simpa using hx
        clear hx HL
        go_wp2_with fail
        go_ret
        exact ⟨rfl, S5.out.fr⟩
end Go.Proofs.YtjgmbildgcighaaDoor
