import Derived.Test.YtjgmbildgcighaaD11
import Derived.Test.YtjgmbildgcighaaL0
namespace Go.Proofs.Ytjgmbildgcighaa
open Go.RowKit

/-- An act as the law's argument has it. -/
structure ActV where
  d : Int
  f : Int
  n : Int
  s : ByteArray
  k : List Int
  kA : Option Addr
  kc : Nat
/-- The slice value '.slice A acts.length c' reads as the acts. -/
def ActsAt (W : World) (A : Option Addr) (acts : List ActV) : Prop :=
  ∀ k a, acts[k]? = some a → (∃ b o, A = some ⟨b, o, none⟩ ∧ b < W.heap.size ∧ W.cell? ⟨b, o + k * 5, none⟩ = some (.int .i64 a.d) ∧ W.cell? ⟨b, o + k * 5 + 1, none⟩ = some (.int .i64 a.f) ∧
    W.cell? ⟨b, o + k * 5 + 2, none⟩ = some (.int .i64 a.n) ∧ W.cell? ⟨b, o + k * 5 + 3, none⟩ = some (.string a.s) ∧ W.cell? ⟨b, o + k * 5 + 4, none⟩ = some (.slice a.kA a.k.length a.kc)) ∧ KeepB W a.kA a.k ∧ a.n ≤ 9223372036854775807
theorem ActsAt.at {W w : World} {own : Nat → Nat} {A : Option Addr} {acts : List ActV} (h : ActsAt W A acts) (hs : St W w own) {k : Nat} {a : ActV} (hk : acts[k]? = some a) :
    ∃ b o, A = some ⟨b, o, none⟩ ∧ b < w.heap.size ∧ w.cell? ⟨b, o + k * 5, none⟩ = some (.int .i64 a.d) ∧ w.cell? ⟨b, o + k * 5 + 1, none⟩ = some (.int .i64 a.f) ∧
    w.cell? ⟨b, o + k * 5 + 2, none⟩ = some (.int .i64 a.n) ∧ w.cell? ⟨b, o + k * 5 + 3, none⟩ = some (.string a.s) ∧ w.cell? ⟨b, o + k * 5 + 4, none⟩ = some (.slice a.kA a.k.length a.kc) := by
  obtain ⟨⟨b, o, hA, hlt, c1, c2, c3, c4, c5⟩, -, -⟩ := h k a hk
  exact ⟨b, o, hA, Nat.lt_of_lt_of_le hlt hs.le, by rw [hs.fr.cell hlt]; exact c1, by rw [hs.fr.cell hlt]; exact c2, by rw [hs.fr.cell hlt]; exact c3, by rw [hs.fr.cell hlt]; exact c4, by rw [hs.fr.cell hlt]; exact c5⟩
/-- What few asks of an act. -/
def actOk (a : ActV) : Bool := decide (a.s.size ≤ 300) && decide (a.k.length ≤ 60) && !(decide (3000 < a.n) && decide (a.n < 16776916))
def fewB (acts : List ActV) : Bool := acts.all actOk && decide (acts.length ≤ 40)
theorem all_take_succ (acts : List ActV) (k : Nat) (h : k < acts.length) : (acts.take (k + 1)).all actOk = ((acts.take k).all actOk && actOk acts[k]) := by
  rw [List.take_succ_eq_append_getElem h, List.all_append]; simp
theorem few_false {acts : List ActV} {k : Nat} (h : k < acts.length) (hb : actOk acts[k] = false) : fewB acts = false := by
  unfold fewB
  rw [Bool.and_eq_false_iff]
  exact .inl (List.all_eq_false.2 ⟨acts[k], List.getElem_mem h, by rw [hb]; simp⟩)
set_option maxRecDepth 100000 in
set_option maxHeartbeats 1600000 in
theorem few_any (A : Option Addr) (c : Nat) (acts : List ActV) (W w : World) (own : Nat → Nat) (h : ActsAt W A acts) (hs : St W w own) (hm : acts.length ≤ 9223372036854775807) :
    Calls Try.prog 9 #[.slice A acts.length c] w fun e w' => e = .returned (.bool (fewB acts)) ∧ w = w' := by
  have H := Lib.hid h
  have HS := Lib.hid hs
  clear h hs
  go_enter Try.func9, Try.ntmps9
  go_wp2_with fail
  go_loop [3] (fun i => ∃ k : Nat, k ≤ acts.length ∧ i = .int .i64 k ∧ (acts.take k).all actOk = true) (fun i => acts.length - (intOf i).toNat)
  case atStart => exact ⟨0, Nat.zero_le _, rfl, rfl⟩
  case round =>
    obtain ⟨k, hk, rfl, hall⟩ := hrel
    have HA := Lib.hid hall
    clear hall
    by_cases hlt : k < acts.length
    · obtain ⟨b, o, rfl, -, -, -, c3, c4, c5⟩ := H.out.at HS.out (List.getElem?_eq_getElem hlt)
      have HT := Lib.hid (all_take_succ acts k hlt)
      have HF := Lib.hid (fun hb => few_false (acts := acts) hlt hb)
      generalize acts[k] = a at *
      have hz : (k : Int) < (acts.length : Int) := by omega
      by_cases h1 : a.s.size ≤ 300
      · have h1' : ¬ (300 : Int) < (a.s.size : Int) := by omega
        by_cases h2 : a.k.length ≤ 60
        · have h2' : ¬ (60 : Int) < (a.k.length : Int) := by omega
          by_cases h3 : 3000 < a.n
          · by_cases h4 : a.n < 16776916
            · have hb : Hid (actOk a = false) := by simp [Hid, actOk, h3, h4]
              go_wp2_with fail
              go_ret
              exact ⟨by rw [HF.out hb.out]; rfl, rfl⟩
            · have hb : Hid ((acts.take (k + 1)).all actOk = true) := by
                show _ = true
                rw [HT.out, HA.out]; simp [actOk, h1, h2, h4]
              go_wp2_with fail
              go_round
              case rel => exact ⟨k + 1, by omega, by go_num, hb.out⟩
              case measure => simp [intOf]; omega
          · have hb : Hid ((acts.take (k + 1)).all actOk = true) := by
              show _ = true
              rw [HT.out, HA.out]; simp [actOk, h1, h2, h3]
            have h3' : decide (3000 < a.n) = false := by simpa using h3
            go_wp2_with fail
            go_round
            case rel => exact ⟨k + 1, by omega, by go_num, hb.out⟩
            case measure => simp [intOf]; omega
        · have hb : Hid (actOk a = false) := by simp [Hid, actOk, h2]
          have h2' : (60 : Int) < (a.k.length : Int) := by omega
          go_wp2_with fail
          go_ret
          exact ⟨by rw [HF.out hb.out]; rfl, rfl⟩
      · have hb : Hid (actOk a = false) := by simp [Hid, actOk, h1]
        have h1' : (300 : Int) < (a.s.size : Int) := by omega
        go_wp2_with fail
        go_ret
        exact ⟨by rw [HF.out hb.out]; rfl, rfl⟩
    · have HF : Hid (fewB acts = decide ((acts.length : Int) ≤ 40)) := by
        show _ = _
        unfold fewB
        have := HA.out
        rw [List.take_of_length_le (by omega)] at this
        rw [this, Bool.true_and]
        exact decide_eq_decide.2 (by omega)
      have hz : ¬ (k : Int) < (acts.length : Int) := by omega
      go_wp2_with fail
      go_ret
      exact ⟨by rw [HF.out]; rfl, rfl⟩
theorem few_is (b : Bool) (A : Option Addr) (c : Nat) (acts : List ActV) (W w : World) (own : Nat → Nat) (h : ActsAt W A acts) (hs : St W w own) (hm : acts.length ≤ 9223372036854775807) (hb : fewB acts = b) :
    Calls Try.prog 9 #[.slice A acts.length c] w fun e w' => e = .returned (.bool b) ∧ w = w' := hb ▸ few_any A c acts W w own h hs hm
theorem few_ok {acts : List ActV} (h : fewB acts = true) : (∀ a ∈ acts, a.s.size ≤ 300 ∧ a.k.length ≤ 60 ∧ (a.n ≤ 3000 ∨ 16776916 ≤ a.n)) ∧ acts.length ≤ 40 := by
  simp only [fewB, Bool.and_eq_true, List.all_eq_true, decide_eq_true_eq] at h
  refine ⟨fun a ha => ?_, h.2⟩
  have := h.1 a ha
  simp only [actOk, Bool.and_eq_true, decide_eq_true_eq, Bool.not_eq_true', Bool.and_eq_false_iff, decide_eq_false_iff_not] at this
  omega

/-! do. -/
def kindA (a : ActV) : Int := bits .and .i64 a.d 7
def actE (d : DS) (ks : List Int) (a : ActV) : Int :=
  if kindA a = 2 then syncE d ks a.f else if kindA a = 3 then truncE d ks a.f a.n else if kindA a = 4 then 0 else if kindA a = 5 then 0 else if kindA a = 6 then 0 else if kindA a = 7 then 0 else writeE d a.f a.n a.s
def actD (d : DS) (ks : List Int) (a : ActV) : DS :=
  if kindA a = 2 then syncD d ks a.f else if kindA a = 3 then truncD d ks a.f a.n else if kindA a = 4 then loseD d (bits .and .i64 a.n 3) else if kindA a = 5 then armD d a.n else if kindA a = 6 then crashD d a.k else if kindA a = 7 then startD d else writeD d ks a.f a.n a.s
def actK (ks : List Int) (a : ActV) : List Int := if kindA a = 5 then a.k else ks
theorem and3 (x : Int) : bits .and .i64 x 3 = x % 4 := and_low x 2 (by decide)
theorem o_trunc {W w : World} {own : Nat → Nat} {i g : Nat} {d : DS} {ks : List Int} (hd : DO w own i g d ks) (hs : St W w own) (hi : i ≠ 0) (f n : Int) : Calls Try.prog 30 #[.pointer (some ⟨g, 0, none⟩), .int .i64 f, .int .i64 n] w (Res W w own i g (.int .i64 (truncE d ks f n)) (truncD d ks f n) ks) := by
  obtain ⟨B, c, h1, h2, h3⟩ := hd
  exact (trunc_any g d B c ks f n w _ h1 (h2.for_ hi) h3).mono fun e w' hp => DO.mine hp h2 h3 hs hi
theorem o_copy {W w : World} {own : Nat → Nat} {i j g : Nat} {d : DS} {ks : List Int} (hd : DO w own i g d ks) (hs : St W w own) (hj : j ≠ 0) : Calls Try.prog 18 #[.pointer (some ⟨g, 0, none⟩)] w fun e w' => ∃ g', e = .returned (.pointer (some ⟨g', 0, none⟩)) ∧ ∃ own', DO w' own' j g' d ks ∧ Step W w w' own own' j := by
  obtain ⟨B, c, h1, h2, h3⟩ := hd
  refine (dcopy_any g d B ks.length c w _ h1).mono ?_
  rintro e w' ⟨g', rfl, hD, hf⟩
  obtain ⟨own', p1, p2⟩ := hs.step hj (hf.mono (fun _ _ h => h.elim))
  exact ⟨g', rfl, own', ⟨B, c, hD.more (fun k hk => (p2 k).2 (.inr hk)) (p1.st.lt hj), h2.step p1 hj, h3⟩, p1⟩
set_option maxRecDepth 100000 in
set_option maxHeartbeats 1600000 in
theorem do2 (g i : Nat) (d : DS) (ks : List Int) (a : ActV) (W w : World) (own : Nat → Nat) (hd : DO w own i g d ks) (hs : St W w own) (hi : i ≠ 0) (h2 : kindA a = 2) :
    Calls Try.prog 12 #[.pointer (some ⟨g, 0, none⟩), .agg #[.int .i64 a.d, .int .i64 a.f, .int .i64 a.n, .string a.s, .slice a.kA a.k.length a.kc]] w (Res W w own i g (.int .i64 (syncE d ks a.f)) (syncD d ks a.f) ks) := by
  have k2 : (bits .and .i64 a.d 7 == 2) = true := by simpa [kindA] using h2
  have hd1 := Lib.hid (hd.alloc (.cells #[.int .i64 a.d, .int .i64 a.f, .int .i64 a.n, .string a.s, .slice a.kA a.k.length a.kc] 33))
  have hs1 := Lib.hid (hs.alloc (.cells #[.int .i64 a.d, .int .i64 a.f, .int .i64 a.n, .string a.s, .slice a.kA a.k.length a.kc] 33))
  have HS := Lib.hid hs
  clear hd hs h2
  go_enter Try.func12, Try.ntmps12
  go_wp2_with fail
  refine (o_sync hd1.out hs1.out hi a.f).mono ?_
  rintro e w1 ⟨rfl, own', hD, hP⟩
  have hend : Hid (∀ r, Res W w own i g r (syncD d ks a.f) ks (.returned r) w1) := fun r => ⟨rfl, own', hD, hP.alloc_left HS.out⟩
  clear hD hP
  go_wp2_with fail
  go_ret
  exact hend.out _
set_option maxRecDepth 100000 in
set_option maxHeartbeats 1600000 in
theorem do3 (g i : Nat) (d : DS) (ks : List Int) (a : ActV) (W w : World) (own : Nat → Nat) (hd : DO w own i g d ks) (hs : St W w own) (hi : i ≠ 0) (h2 : ¬ kindA a = 2) (h3 : kindA a = 3) :
    Calls Try.prog 12 #[.pointer (some ⟨g, 0, none⟩), .agg #[.int .i64 a.d, .int .i64 a.f, .int .i64 a.n, .string a.s, .slice a.kA a.k.length a.kc]] w (Res W w own i g (.int .i64 (truncE d ks a.f a.n)) (truncD d ks a.f a.n) ks) := by
  have k2 : (bits .and .i64 a.d 7 == 2) = false := by simpa [kindA] using h2
  have k3 : (bits .and .i64 a.d 7 == 3) = true := by simpa [kindA] using h3
  have hd1 := Lib.hid (hd.alloc (.cells #[.int .i64 a.d, .int .i64 a.f, .int .i64 a.n, .string a.s, .slice a.kA a.k.length a.kc] 33))
  have hs1 := Lib.hid (hs.alloc (.cells #[.int .i64 a.d, .int .i64 a.f, .int .i64 a.n, .string a.s, .slice a.kA a.k.length a.kc] 33))
  have HS := Lib.hid hs
  clear hd hs h2 h3
  go_enter Try.func12, Try.ntmps12
  go_wp2_with fail
  refine (o_trunc hd1.out hs1.out hi a.f a.n).mono ?_
  rintro e w1 ⟨rfl, own', hD, hP⟩
  have hend : Hid (∀ r, Res W w own i g r (truncD d ks a.f a.n) ks (.returned r) w1) := fun r => ⟨rfl, own', hD, hP.alloc_left HS.out⟩
  clear hD hP
  go_wp2_with fail
  go_ret
  exact hend.out _
set_option maxRecDepth 100000 in
set_option maxHeartbeats 1600000 in
theorem do4 (g i : Nat) (d : DS) (ks : List Int) (a : ActV) (W w : World) (own : Nat → Nat) (hd : DO w own i g d ks) (hs : St W w own) (hi : i ≠ 0) (h2 : ¬ kindA a = 2) (h3 : ¬ kindA a = 3) (h4 : kindA a = 4) :
    Calls Try.prog 12 #[.pointer (some ⟨g, 0, none⟩), .agg #[.int .i64 a.d, .int .i64 a.f, .int .i64 a.n, .string a.s, .slice a.kA a.k.length a.kc]] w (Res W w own i g (.int .i64 0) (loseD d (bits .and .i64 a.n 3)) ks) := by
  have k2 : (bits .and .i64 a.d 7 == 2) = false := by simpa [kindA] using h2
  have k3 : (bits .and .i64 a.d 7 == 3) = false := by simpa [kindA] using h3
  have k4 : (bits .and .i64 a.d 7 == 4) = true := by simpa [kindA] using h4
  have hd1 := Lib.hid (hd.alloc (.cells #[.int .i64 a.d, .int .i64 a.f, .int .i64 a.n, .string a.s, .slice a.kA a.k.length a.kc] 33))
  have hs1 := Lib.hid (hs.alloc (.cells #[.int .i64 a.d, .int .i64 a.f, .int .i64 a.n, .string a.s, .slice a.kA a.k.length a.kc] 33))
  have HS := Lib.hid hs
  have hb3 : bits .and .i64 a.n 3 ≤ 9223372036854775807 := by rw [and3]; omega
  clear hd hs h2 h3 h4
  go_enter Try.func12, Try.ntmps12
  go_wp2_with fail
  refine (o_lose hd1.out hs1.out hi _ hb3).mono ?_
  rintro e w1 ⟨rfl, own', hD, hP⟩
  have hend : Hid (∀ r, Res W w own i g r (loseD d (bits .and .i64 a.n 3)) ks (.returned r) w1) := fun r => ⟨rfl, own', hD, hP.alloc_left HS.out⟩
  clear hD hP
  go_wp2_with fail
  go_ret
  exact hend.out _
set_option maxRecDepth 100000 in
set_option maxHeartbeats 1600000 in
theorem do5 (g i : Nat) (d : DS) (ks : List Int) (a : ActV) (W w : World) (own : Nat → Nat) (hd : DO w own i g d ks) (hs : St W w own) (hi : i ≠ 0) (hk : KeepB W a.kA a.k) (hkl : a.k.length ≤ 60) (hn : a.n ≤ 9223372036854775807) (h2 : ¬ kindA a = 2) (h3 : ¬ kindA a = 3) (h4 : ¬ kindA a = 4) (h5 : kindA a = 5) :
    Calls Try.prog 12 #[.pointer (some ⟨g, 0, none⟩), .agg #[.int .i64 a.d, .int .i64 a.f, .int .i64 a.n, .string a.s, .slice a.kA a.k.length a.kc]] w (Res W w own i g (.int .i64 0) (armD d a.n) a.k) := by
  have k2 : (bits .and .i64 a.d 7 == 2) = false := by simpa [kindA] using h2
  have k3 : (bits .and .i64 a.d 7 == 3) = false := by simpa [kindA] using h3
  have k4 : (bits .and .i64 a.d 7 == 4) = false := by simpa [kindA] using h4
  have k5 : (bits .and .i64 a.d 7 == 5) = true := by simpa [kindA] using h5
  have hd1 := Lib.hid (hd.alloc (.cells #[.int .i64 a.d, .int .i64 a.f, .int .i64 a.n, .string a.s, .slice a.kA a.k.length a.kc] 33))
  have hs1 := Lib.hid (hs.alloc (.cells #[.int .i64 a.d, .int .i64 a.f, .int .i64 a.n, .string a.s, .slice a.kA a.k.length a.kc] 33))
  have HS := Lib.hid hs
  have HK := Lib.hid (hk.at hs1.out)
  clear hd hs h2 h3 h4 h5
  go_enter Try.func12, Try.ntmps12
  go_wp2_with fail
  refine (o_arm hd1.out hs1.out hi _ hn _ _ HK.out (by omega)).mono ?_
  rintro e w1 ⟨rfl, own', hD, hP⟩
  have hend : Hid (∀ r, Res W w own i g r (armD d a.n) a.k (.returned r) w1) := fun r => ⟨rfl, own', hD, hP.alloc_left HS.out⟩
  clear hD hP
  go_wp2_with fail
  go_ret
  exact hend.out _
set_option maxRecDepth 100000 in
set_option maxHeartbeats 1600000 in
theorem do6 (g i : Nat) (d : DS) (ks : List Int) (a : ActV) (W w : World) (own : Nat → Nat) (hd : DO w own i g d ks) (hs : St W w own) (hi : i ≠ 0) (hk : KeepB W a.kA a.k) (hkl : a.k.length ≤ 60) (h2 : ¬ kindA a = 2) (h3 : ¬ kindA a = 3) (h4 : ¬ kindA a = 4) (h5 : ¬ kindA a = 5) (h6 : kindA a = 6) :
    Calls Try.prog 12 #[.pointer (some ⟨g, 0, none⟩), .agg #[.int .i64 a.d, .int .i64 a.f, .int .i64 a.n, .string a.s, .slice a.kA a.k.length a.kc]] w (Res W w own i g (.int .i64 0) (crashD d a.k) ks) := by
  have k2 : (bits .and .i64 a.d 7 == 2) = false := by simpa [kindA] using h2
  have k3 : (bits .and .i64 a.d 7 == 3) = false := by simpa [kindA] using h3
  have k4 : (bits .and .i64 a.d 7 == 4) = false := by simpa [kindA] using h4
  have k5 : (bits .and .i64 a.d 7 == 5) = false := by simpa [kindA] using h5
  have k6 : (bits .and .i64 a.d 7 == 6) = true := by simpa [kindA] using h6
  have hd1 := Lib.hid (hd.alloc (.cells #[.int .i64 a.d, .int .i64 a.f, .int .i64 a.n, .string a.s, .slice a.kA a.k.length a.kc] 33))
  have hs1 := Lib.hid (hs.alloc (.cells #[.int .i64 a.d, .int .i64 a.f, .int .i64 a.n, .string a.s, .slice a.kA a.k.length a.kc] 33))
  have HS := Lib.hid hs
  have HK := Lib.hid (hk.at hs1.out)
  clear hd hs h2 h3 h4 h5 h6
  go_enter Try.func12, Try.ntmps12
  go_wp2_with fail
  refine (o_crash hd1.out hs1.out hi _ _ HK.out (by omega)).mono ?_
  rintro e w1 ⟨rfl, own', hD, hP⟩
  have hend : Hid (∀ r, Res W w own i g r (crashD d a.k) ks (.returned r) w1) := fun r => ⟨rfl, own', hD, hP.alloc_left HS.out⟩
  clear hD hP
  go_wp2_with fail
  go_ret
  exact hend.out _
set_option maxRecDepth 100000 in
set_option maxHeartbeats 1600000 in
theorem do7 (g i : Nat) (d : DS) (ks : List Int) (a : ActV) (W w : World) (own : Nat → Nat) (hd : DO w own i g d ks) (hs : St W w own) (hi : i ≠ 0) (h2 : ¬ kindA a = 2) (h3 : ¬ kindA a = 3) (h4 : ¬ kindA a = 4) (h5 : ¬ kindA a = 5) (h6 : ¬ kindA a = 6) (h7 : kindA a = 7) :
    Calls Try.prog 12 #[.pointer (some ⟨g, 0, none⟩), .agg #[.int .i64 a.d, .int .i64 a.f, .int .i64 a.n, .string a.s, .slice a.kA a.k.length a.kc]] w (Res W w own i g (.int .i64 0) (startD d) ks) := by
  have k2 : (bits .and .i64 a.d 7 == 2) = false := by simpa [kindA] using h2
  have k3 : (bits .and .i64 a.d 7 == 3) = false := by simpa [kindA] using h3
  have k4 : (bits .and .i64 a.d 7 == 4) = false := by simpa [kindA] using h4
  have k5 : (bits .and .i64 a.d 7 == 5) = false := by simpa [kindA] using h5
  have k6 : (bits .and .i64 a.d 7 == 6) = false := by simpa [kindA] using h6
  have k7 : (bits .and .i64 a.d 7 == 7) = true := by simpa [kindA] using h7
  have hd1 := Lib.hid (hd.alloc (.cells #[.int .i64 a.d, .int .i64 a.f, .int .i64 a.n, .string a.s, .slice a.kA a.k.length a.kc] 33))
  have hs1 := Lib.hid (hs.alloc (.cells #[.int .i64 a.d, .int .i64 a.f, .int .i64 a.n, .string a.s, .slice a.kA a.k.length a.kc] 33))
  have HS := Lib.hid hs
  clear hd hs h2 h3 h4 h5 h6 h7
  go_enter Try.func12, Try.ntmps12
  go_wp2_with fail
  refine (o_start hd1.out hs1.out hi).mono ?_
  rintro e w1 ⟨rfl, own', hD, hP⟩
  have hend : Hid (∀ r, Res W w own i g r (startD d) ks (.returned r) w1) := fun r => ⟨rfl, own', hD, hP.alloc_left HS.out⟩
  clear hD hP
  go_wp2_with fail
  go_ret
  exact hend.out _
set_option maxRecDepth 100000 in
set_option maxHeartbeats 1600000 in
theorem do0 (g i : Nat) (d : DS) (ks : List Int) (a : ActV) (W w : World) (own : Nat → Nat) (hd : DO w own i g d ks) (hs : St W w own) (hi : i ≠ 0) (h2 : ¬ kindA a = 2) (h3 : ¬ kindA a = 3) (h4 : ¬ kindA a = 4) (h5 : ¬ kindA a = 5) (h6 : ¬ kindA a = 6) (h7 : ¬ kindA a = 7) :
    Calls Try.prog 12 #[.pointer (some ⟨g, 0, none⟩), .agg #[.int .i64 a.d, .int .i64 a.f, .int .i64 a.n, .string a.s, .slice a.kA a.k.length a.kc]] w (Res W w own i g (.int .i64 (writeE d a.f a.n a.s)) (writeD d ks a.f a.n a.s) ks) := by
  have k2 : (bits .and .i64 a.d 7 == 2) = false := by simpa [kindA] using h2
  have k3 : (bits .and .i64 a.d 7 == 3) = false := by simpa [kindA] using h3
  have k4 : (bits .and .i64 a.d 7 == 4) = false := by simpa [kindA] using h4
  have k5 : (bits .and .i64 a.d 7 == 5) = false := by simpa [kindA] using h5
  have k6 : (bits .and .i64 a.d 7 == 6) = false := by simpa [kindA] using h6
  have k7 : (bits .and .i64 a.d 7 == 7) = false := by simpa [kindA] using h7
  have hd1 := Lib.hid (hd.alloc (.cells #[.int .i64 a.d, .int .i64 a.f, .int .i64 a.n, .string a.s, .slice a.kA a.k.length a.kc] 33))
  have hs1 := Lib.hid (hs.alloc (.cells #[.int .i64 a.d, .int .i64 a.f, .int .i64 a.n, .string a.s, .slice a.kA a.k.length a.kc] 33))
  have HS := Lib.hid hs
  clear hd hs h2 h3 h4 h5 h6 h7
  go_enter Try.func12, Try.ntmps12
  go_wp2_with fail
  refine (o_write hd1.out hs1.out hi a.f a.n a.s).mono ?_
  rintro e w1 ⟨rfl, own', hD, hP⟩
  have hend : Hid (∀ r, Res W w own i g r (writeD d ks a.f a.n a.s) ks (.returned r) w1) := fun r => ⟨rfl, own', hD, hP.alloc_left HS.out⟩
  clear hD hP
  go_wp2_with fail
  go_ret
  exact hend.out _
theorem do_any (g i : Nat) (d : DS) (ks : List Int) (a : ActV) (W w : World) (own : Nat → Nat) (hd : DO w own i g d ks) (hs : St W w own) (hi : i ≠ 0) (hk : KeepB W a.kA a.k) (hkl : a.k.length ≤ 60) (hn : a.n ≤ 9223372036854775807) :
    Calls Try.prog 12 #[.pointer (some ⟨g, 0, none⟩), .agg #[.int .i64 a.d, .int .i64 a.f, .int .i64 a.n, .string a.s, .slice a.kA a.k.length a.kc]] w (Res W w own i g (.int .i64 (actE d ks a)) (actD d ks a) (actK ks a)) := by
  unfold actE actD actK
  by_cases h2 : kindA a = 2
  · simp only [h2, if_true, Int.reduceEq, if_false]; exact do2 g i d ks a W w own hd hs hi h2
  by_cases h3 : kindA a = 3
  · simp only [h3, if_true, Int.reduceEq, if_false]; exact do3 g i d ks a W w own hd hs hi (by omega) h3
  by_cases h4 : kindA a = 4
  · simp only [h4, if_true, Int.reduceEq, if_false]; exact do4 g i d ks a W w own hd hs hi (by omega) (by omega) h4
  by_cases h5 : kindA a = 5
  · simp only [h5, if_true, Int.reduceEq, if_false]; exact do5 g i d ks a W w own hd hs hi hk hkl hn (by omega) (by omega) (by omega) h5
  by_cases h6 : kindA a = 6
  · simp only [h6, if_true, Int.reduceEq, if_false]; exact do6 g i d ks a W w own hd hs hi hk hkl (by omega) (by omega) (by omega) (by omega) h6
  by_cases h7 : kindA a = 7
  · simp only [h7, if_true, Int.reduceEq, if_false]; exact do7 g i d ks a W w own hd hs hi (by omega) (by omega) (by omega) (by omega) (by omega) h7
  · simp only [h2, h3, h4, h5, h6, h7, if_false]; exact do0 g i d ks a W w own hd hs hi h2 h3 h4 h5 h6 h7
/-- The disk after some acts. -/
def playD : List ActV → DS × List Int → DS × List Int
  | [], x => x
  | a :: r, x => playD r (actD x.1 x.2 a, actK x.2 a)
theorem playD_snoc (a : ActV) : ∀ (l : List ActV) (x : DS × List Int), playD (l ++ [a]) x = (actD (playD l x).1 (playD l x).2 a, actK (playD l x).2 a)
  | [], x => rfl
  | b :: l, x => by simp only [List.cons_append, playD]; exact playD_snoc a l _
def PlRel (W w : World) (own : Nat → Nat) (g : Nat) (acts : List ActV) (k : Nat) (wr : World) : Prop :=
  ∃ own', DO wr own' 1 g (playD (acts.take k) (ds0, [])).1 (playD (acts.take k) (ds0, [])).2 ∧ Step W w wr own own' 1
theorem Step.trans {W w w1 w2 : World} {own own1 own2 : Nat → Nat} {i : Nat} (h : Step W w w1 own own1 i) (h2 : Step W w1 w2 own1 own2 i) : Step W w w2 own own2 i := by
  have s1 := h.size
  refine ⟨h.st0, h2.st, fun k hk => (h2.same k (by omega)).trans (h.same k hk), fun k hk => ?_, h.fr.trans' h2.fr fun k hk e => ?_⟩
  · by_cases hk1 : k < w1.heap.size
    · rw [h2.same k hk1]; exact h.new k hk
    · exact h2.new k (by omega)
  · rw [h.same k hk] at e; exact e
set_option maxRecDepth 100000 in
set_option maxHeartbeats 1600000 in
theorem played_any (A : Option Addr) (c : Nat) (acts : List ActV) (W w : World) (own : Nat → Nat) (h : ActsAt W A acts) (hs : St W w own) (hfew : fewB acts = true) :
    Calls Try.prog 22 #[.slice A acts.length c] w fun e w' => ∃ g, e = .returned (.pointer (some ⟨g, 0, none⟩)) ∧ ∃ own', DO w' own' 1 g (playD acts (ds0, [])).1 (playD acts (ds0, [])).2 ∧ Step W w w' own own' 1 := by
  have H := Lib.hid h
  have HS := Lib.hid hs
  have HF := Lib.hid (few_ok hfew)
  have hl40 := (few_ok hfew).2
  clear h hs hfew
  go_enter Try.func22, Try.ntmps22
  go_wp2_with fail
  refine (o_new (i := 1) HS.out (by decide)).mono ?_
  rintro e w1 ⟨g, rfl, own1, hd1, hp1⟩
  have hst : Hid (PlRel W w own g acts 0 w1) := ⟨own1, hd1, hp1⟩
  clear hd1 hp1
  go_wp2_with fail
  go_loopw [4] (fun i wr => ∃ k : Nat, k ≤ acts.length ∧ i = .int .i64 k ∧ PlRel W w own g acts k wr) (fun i _ => acts.length - (intOf i).toNat)
  case atStart => exact ⟨0, Nat.zero_le _, rfl, hst.out⟩
  case round =>
    obtain ⟨k, hk, rfl, own2, hd2, hp2⟩ := hrel
    clear hst
    by_cases hlt : k < acts.length
    · obtain ⟨a, ha⟩ : ∃ a, acts[k]? = some a := ⟨_, List.getElem?_eq_getElem hlt⟩
      obtain ⟨b, o, rfl, hb, c1, c2, c3, c4, c5⟩ := H.out.at hp2.st ha
      obtain ⟨-, hkb, hn⟩ := H.out k a ha
      have hkl := (HF.out.1 a (List.mem_of_getElem? ha)).2.1
      have hz : (k : Int) < (acts.length : Int) := by omega
      have HP2 := Lib.hid hp2
      have HD2 := Lib.hid hd2
      have HKB := Lib.hid hkb
      have HTK : Hid (playD (acts.take (k + 1)) (ds0, []) = (actD (playD (acts.take k) (ds0, [])).1 (playD (acts.take k) (ds0, [])).2 a, actK (playD (acts.take k) (ds0, [])).2 a)) := by
        show _ = _
        obtain ⟨hl, hla⟩ := List.getElem?_eq_some_iff.1 ha
        rw [List.take_succ_eq_append_getElem hl, hla, playD_snoc]
      clear hd2 hp2 ha hkb
      go_wp2_with fail
      refine (do_any g 1 _ _ a W _ own2 HD2.out HP2.out.st (by decide) HKB.out hkl hn).mono ?_
      rintro e w3 ⟨rfl, own3, hd3, hp3⟩
      have hend : Hid (PlRel W w own g acts (k + 1) w3) := by
        show PlRel _ _ _ _ _ _ _
        unfold PlRel
        rw [HTK.out]
        exact ⟨own3, hd3, HP2.out.trans hp3⟩
      clear hd3 hp3 c1 c2 c3 c4 c5
      go_wp2_with fail
      go_roundw
      case rel => exact ⟨k + 1, by omega, by go_num, hend.out⟩
      case measure => simp [intOf]; omega
    · have hz : ¬ (k : Int) < (acts.length : Int) := by omega
      have htk : acts.take k = acts := List.take_of_length_le (by omega)
      rw [htk] at hd2
      have hend : Hid (∃ own', DO wr own' 1 g (playD acts (ds0, [])).1 (playD acts (ds0, [])).2 ∧ Step W w wr own own' 1) := ⟨own2, hd2, hp2⟩
      clear hd2 hp2 htk
      go_wp2_with fail
      go_ret
      exact ⟨g, rfl, hend.out⟩
end Go.Proofs.Ytjgmbildgcighaa
