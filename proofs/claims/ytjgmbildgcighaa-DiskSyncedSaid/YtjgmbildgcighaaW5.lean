import Derived.Test.YtjgmbildgcighaaP5
namespace Go.Proofs.Ytjgmbildgcighaa
open Go.RowKit

theorem kind_lt (a : ActV) : 0 ≤ kindA a ∧ kindA a < 8 := by
  have : kindA a = a.d % 8 := and_low a.d 3 (by decide)
  omega
/-- The state in the loop of DiskSynced. -/
def SyRel (W w : World) (own : Nat → Nat) (g : Nat) (ks : List Int) (f : Int) (s : ByteArray) (wr : World) : Prop :=
  ∃ own' d', DO wr own' 1 g d' ks ∧ Step W w wr own own' 1 ∧ Du d' f s
set_option maxRecDepth 100000 in
set_option maxHeartbeats 3200000 in
theorem synced_walk (A : Option Addr) (c : Nat) (acts : List ActV) (f : Int) (A2 : Option Addr) (c2 : Nat) (more : List ActV) (K : Option Addr) (kc : Nat) (keep : List Int) (W : World) (h : ActsAt W A acts) (hm : acts.length ≤ 9223372036854775807)
    (h2 : ActsAt W A2 more) (hm2 : more.length ≤ 9223372036854775807) (hk : KeepB W K keep) (hkm : keep.length ≤ 9223372036854775807) :
    Calls Try.prog 5 #[.slice A acts.length c, .int .i64 f, .slice A2 more.length c2, .slice K keep.length kc] W fun e w' => e = .returned (.bool true) ∧ Below W.heap.size W w' := by
  have H := Lib.hid h
  have H2 := Lib.hid h2
  have HK := Lib.hid hk
  clear h h2 hk
  go_enter Try.func5, Try.ntmps5
  go_wp2_with fail
  refine (small_any W).mono ?_
  rintro e w1 ⟨rfl, hb⟩
  have s1 : St W w1 (fun _ => 0) := ⟨fun _ _ => rfl, fun _ _ => rfl, hb⟩
  clear hb
  go_wp2_with fail
  cases hfew : fewB acts with
  | false =>
    refine (few_is false A c acts W w1 _ H.out s1 hm hfew).mono ?_
    rintro e _ ⟨rfl, rfl⟩
    go_wp2_with fail
    go_ret
    exact ⟨rfl, s1.fr⟩
  | true =>
  refine (few_is true A c acts W w1 _ H.out s1 hm hfew).mono ?_
  rintro e _ ⟨rfl, rfl⟩
  go_wp2_with fail
  cases hfew2 : fewB more with
  | false =>
    refine (few_is false A2 c2 more W w1 _ H2.out s1 hm2 hfew2).mono ?_
    rintro e _ ⟨rfl, rfl⟩
    go_wp2_with fail
    go_ret
    exact ⟨rfl, s1.fr⟩
  | true =>
  refine (few_is true A2 c2 more W w1 _ H2.out s1 hm2 hfew2).mono ?_
  rintro e _ ⟨rfl, rfl⟩
  by_cases h3 : (60 : Int) < (keep.length : Int)
  · go_wp2_with fail
    go_ret
    exact ⟨rfl, s1.fr⟩
  go_wp2_with fail
  refine (played_any A c acts W w1 _ H.out s1 hfew).mono ?_
  rintro e w2 ⟨g, rfl, o2, d2, p2⟩
  clear s1
  generalize (playD acts (ds0, [])).1 = d at d2
  generalize (playD acts (ds0, [])).2 = ks at d2
  go_wp2_with fail
  refine (o_read d2 f 0 16777216).mono ?_
  rintro e _ ⟨rfl, rfl⟩
  go_wp2_with fail
  by_cases hsy : syncE d ks f = 0
  · obtain ⟨hf, e1, e2, e3, e4⟩ := sync_law d2.inv hsy
    have hsz := d2.inv.now f
    refine (o_sync d2 p2.st (by decide) f).mono ?_
    intro e w3 hp
    obtain ⟨rfl, o3, d3, p3⟩ := hp.is (r' := .int .i64 0) (by rw [hsy]) rfl
    rw [e1]
    clear hp d2 p2 hsy e1
    generalize syncD d ks f = d' at *
    generalize (d.fs f).now = s at *
    go_wp2_with fail
    refine (o_read d3 f 0 16777216).mono ?_
    rintro e _ ⟨rfl, rfl⟩
    rw [e2, e3]
    have hst : Hid (SyRel W w3 o3 g ks f s w3) := ⟨o3, d', d3, Step.of_fr p3.st (Fr.refl _ _) p3.st.hi, e4⟩
    have HF := Lib.hid (few_ok hfew2)
    have hl40 := (few_ok hfew2).2
    clear d3 p3 e2 e3 e4 hfew hfew2
    go_wp2_with fail
    go_loopw [15] (fun i wr => ∃ k : Nat, k ≤ more.length ∧ i = .int .i64 k ∧ SyRel W w3 o3 g ks f s wr) (fun i _ => more.length - (intOf i).toNat)
    case atStart => exact ⟨0, Nat.zero_le _, rfl, hst.out⟩
    case round =>
      obtain ⟨k, hk, rfl, o4, d4, hd4, hp4, hdu⟩ := hrel
      clear hst
      by_cases hlt : k < more.length
      · obtain ⟨a, ha⟩ : ∃ a, more[k]? = some a := ⟨_, List.getElem?_eq_getElem hlt⟩
        obtain ⟨b, o, rfl, hb, c1, cf, c3, c4, c5⟩ := H2.out.at hp4.st ha
        obtain ⟨-, hkb, hn⟩ := H2.out k a ha
        have hkl := (HF.out.1 a (List.mem_of_getElem? ha)).2.1
        have hz : (k : Int) < (more.length : Int) := by omega
        have hsame : Hid (SyRel W w3 o3 g ks f s wr) := ⟨o4, d4, hd4, hp4, hdu⟩
        have hdo : Hid (((kindA a < 4 ∧ a.f ≠ f) ∨ kindA a = 4) → Calls Try.prog 12 #[.pointer (some ⟨g, 0, none⟩), .agg #[.int .i64 a.d, .int .i64 a.f, .int .i64 a.n, .string a.s, .slice a.kA a.k.length a.kc]] wr fun e w' => (∃ v, e = .returned v) ∧ SyRel W w3 o3 g ks f s w') := by
          intro hka
          refine (do_any g 1 _ _ a W _ o4 hd4 hp4.st (by decide) hkb hkl hn).mono ?_
          rintro e w5 ⟨rfl, o5, d5, p5⟩
          have hks : actK ks a = ks := by unfold actK; rw [if_neg (by omega)]
          rw [hks] at d5
          exact ⟨⟨_, rfl⟩, o5, _, d5, hp4.trans p5, hdu.act ks a hka⟩
        have hkd : bits .and .i64 a.d 7 = kindA a := rfl
        clear hd4 hp4 hdu hkb ha
        by_cases hA : kindA a < 4
        · by_cases hB : a.f = f
          · have hC : (kindA a == 4) = false := by simp; omega
            subst hB
            go_wp2_with fail
            go_roundw
            case rel => exact ⟨k + 1, by omega, by go_num, hsame.out⟩
            case measure => simp [intOf]; omega
          · have hB' : (a.f != f) = true := by simpa using hB
            go_wp2_with fail
            refine (hdo.out (.inl ⟨hA, hB⟩)).mono ?_
            rintro e w5 ⟨⟨v, rfl⟩, hS⟩
            have hend := Lib.hid hS
            clear hS c1 cf c3 c4 c5 hsame hdo
            go_wp2_with fail
            go_roundw
            case rel => exact ⟨k + 1, by omega, by go_num, hend.out⟩
            case measure => simp [intOf]; omega
        · by_cases hC : kindA a = 4
          · go_wp2_with fail
            refine (hdo.out (.inr hC)).mono ?_
            rintro e w5 ⟨⟨v, rfl⟩, hS⟩
            have hend := Lib.hid hS
            clear hS c1 cf c3 c4 c5 hsame hdo
            go_wp2_with fail
            go_roundw
            case rel => exact ⟨k + 1, by omega, by go_num, hend.out⟩
            case measure => simp [intOf]; omega
          · have hC' : (kindA a == 4) = false := by simpa using hC
            go_wp2_with fail
            go_roundw
            case rel => exact ⟨k + 1, by omega, by go_num, hsame.out⟩
            case measure => simp [intOf]; omega
      · have hz : ¬ (k : Int) < (more.length : Int) := by omega
        obtain ⟨r1, r2⟩ := hdu.read hf hsz keep
        have HP := Lib.hid hp4
        have HD := Lib.hid hd4
        clear hp4 hd4 hdu
        go_wp2_with fail
        refine (o_crash HD.out HP.out.st (by decide) _ _ (HK.out.at HP.out.st) (by omega)).mono ?_
        rintro e w6 ⟨rfl, o6, d6, p6⟩
        clear HD HP
        go_wp2_with fail
        refine (o_start d6 p6.st (by decide)).mono ?_
        rintro e w7 ⟨rfl, o7, d7, p7⟩
        clear p6 d6
        go_wp2_with fail
        refine (o_read d7 f 0 16777216).mono ?_
        rintro e _ ⟨rfl, rfl⟩
        rw [r1, r2]
        go_wp2_with fail
        go_ret
        exact ⟨rfl, p7.st.fr⟩
  · refine (o_sync d2 p2.st (by decide) f).mono ?_
    rintro e w3 ⟨rfl, o3, d3, p3⟩
    have hne : (syncE d ks f != 0) = true := by simpa using hsy
    go_wp2_with fail
    go_ret
    exact ⟨rfl, p3.st.fr⟩
end Go.Proofs.Ytjgmbildgcighaa
