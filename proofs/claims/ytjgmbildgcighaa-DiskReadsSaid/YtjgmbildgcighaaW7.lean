import Derived.Test.YtjgmbildgcighaaP2
namespace Go.Proofs.Ytjgmbildgcighaa
open Go.RowKit

theorem min_if (a b : Int) : (if b < a then b else a) = min a b := by omega
set_option maxRecDepth 100000 in
set_option maxHeartbeats 3200000 in
theorem reads_walk (A : Option Addr) (c : Nat) (acts : List ActV) (f a : Int) (s : ByteArray) (n : Int) (W : World) (h : ActsAt W A acts) (hm : acts.length ≤ 9223372036854775807) :
    Calls Try.prog 7 #[.slice A acts.length c, .int .i64 f, .int .i64 a, .string s, .int .i64 n] W fun e w' => e = .returned (.bool true) ∧ Below W.heap.size W w' := by
  have H := Lib.hid h
  clear h
  go_enter Try.func7, Try.ntmps7
  go_wp2_with fail
  refine (small_any W).mono ?_
  rintro e w1 ⟨rfl, hb⟩
  have s1 : St W w1 (fun _ => 0) := ⟨fun _ _ => rfl, fun _ _ => rfl, hb⟩
  clear hb
  go_wp2_with fail
  cases hfew : fewB acts with
  | false =>
    refine (few_is false A c acts W w1 _ H.out s1 hm hfew).mono ?_
    rintro e _ ⟨rfl, rfl⟩
    go_wp2_with fail
    go_ret
    exact ⟨rfl, s1.fr⟩
  | true =>
    refine (few_is true A c acts W w1 _ H.out s1 hm hfew).mono ?_
    rintro e _ ⟨rfl, rfl⟩
    by_cases h1 : (300 : Int) < (s.size : Int)
    · go_wp2_with fail
      go_ret
      exact ⟨rfl, s1.fr⟩
    by_cases h2 : a < 0
    · go_wp2_with fail
      go_ret
      exact ⟨rfl, s1.fr⟩
    by_cases h3 : 3000 < a
    · go_wp2_with fail
      go_ret
      exact ⟨rfl, s1.fr⟩
    by_cases h4 : n < 0
    · go_wp2_with fail
      go_ret
      exact ⟨rfl, s1.fr⟩
    go_wp2_with fail
    refine (played_any A c acts W w1 _ H.out s1 hfew).mono ?_
    rintro e w2 ⟨g, rfl, o2, d2, p2⟩
    clear s1
    generalize (playD acts (ds0, [])).1 = d at d2
    generalize (playD acts (ds0, [])).2 = ks at d2
    go_wp2_with fail
    refine (o_arm (ks' := []) d2 p2.st (by decide) 0 (by decide) none 0 (KeepAt.nil _ _ _) (by decide)).mono ?_
    rintro e w3 ⟨rfl, o3, d3, p3⟩
    clear d2 p2
    have ha : (armD d 0).armed = 0 := rfl
    generalize armD d 0 = d' at *
    go_wp2_with fail
    refine (o_down d3).mono ?_
    rintro e _ ⟨rfl, rfl⟩
    by_cases hup : d'.down = true ∨ f < 0 ∨ 15 < f
    · have hw := Lib.hid (write_not (a := a) (s := s) ha (may_not hup))
      have fin : ∀ e w', Res W w3 o3 1 g (.int .i64 (writeE d' f a s)) (writeD d' [] f a s) [] e w' → e = .returned (.int .i64 (writeE d' f a s)) ∧ Below W.heap.size W w' := fun e w' ⟨he, _, _, hp⟩ => ⟨he, hp.st.fr⟩
      have key := Lib.hid ((o_write d3 p3.st (by decide) f a s).mono fin)
      clear fin d3 p3
      cases hdn : d'.down with
      | true =>
        go_wp2_with fail
        refine key.out.mono ?_
        rintro e w4 ⟨rfl, hbel⟩
        have hne : (writeE d' f a s != 0) = true := by simpa using hw.out
        go_wp2_with fail
        go_ret
        exact ⟨rfl, hbel⟩
      | false =>
        rw [hdn] at hup
        by_cases hf0 : f < 0
        · go_wp2_with fail
          refine key.out.mono ?_
          rintro e w4 ⟨rfl, hbel⟩
          have hne : (writeE d' f a s != 0) = true := by simpa using hw.out
          go_wp2_with fail
          go_ret
          exact ⟨rfl, hbel⟩
        · have hf1 : 15 < f := by rcases hup with h | h | h <;> first | cases h | omega
          go_wp2_with fail
          refine key.out.mono ?_
          rintro e w4 ⟨rfl, hbel⟩
          have hne : (writeE d' f a s != 0) = true := by simpa using hw.out
          go_wp2_with fail
          go_ret
          exact ⟨rfl, hbel⟩
    · have hdn : d'.down = false := by cases hx : d'.down <;> simp_all
      have hf0 : ¬ f < 0 := fun h => hup (.inr (.inl h))
      have hf1 : ¬ 15 < f := fun h => hup (.inr (.inr h))
      have hmay := may_up hdn (by omega) (by omega : f ≤ 15)
      obtain ⟨e1, e2, e3, e4⟩ := write_up (s := s) ha hmay (by omega : 0 ≤ a) (by omega) []
      have HI := d3.inv.write [] f a s
      have hmay2 := may_up (e3.trans hdn) (by omega) (by omega : f ≤ 15)
      have law := Lib.hid (reads_law (n := n) HI e2 hmay2 (by omega) (by omega) ⟨_, e4⟩)
      have hsz := HI.now f
      clear hup hmay hmay2 e2 e3 e4 HI ha
      rw [hdn]
      go_wp2_with fail
      refine (o_write d3 p3.st (by decide) f a s).mono ?_
      intro e w4 hp
      obtain ⟨rfl, o4, d4, p4⟩ := hp.is (r' := .int .i64 0) (by rw [e1]) rfl
      clear hp d3 p3 e1 hdn
      generalize writeD d' [] f a s = d2 at *
      have X : Hid (∀ fr : Int, fr = min a ((d2.fs f).now.size : Int) → truncE d2 [] f fr = 0 ∧ readS (startD (crashD (truncD d2 [] f fr) [])) f 0 16777216 = (d2.fs f).now.extract 0 fr.toNat ∧ readE (startD (crashD (truncD d2 [] f fr) [])) f 0 16777216 = 0) := by
        rintro fr rfl
        exact ⟨law.out.cut, law.out.rest, law.out.j⟩
      go_wp2_with fail
      refine (o_read d4 f a (s.size : Int)).mono ?_
      rintro e _ ⟨rfl, rfl⟩
      rw [law.out.x, law.out.g]
      go_wp2_with fail
      refine (o_size d4 f).mono ?_
      rintro e _ ⟨rfl, rfl⟩
      go_wp2_with fail
      refine (o_read d4 f 0 _).mono ?_
      rintro e _ ⟨rfl, rfl⟩
      rw [law.out.all, law.out.h]
      go_wp2_with fail
      refine (o_read d4 f a n).mono ?_
      rintro e _ ⟨rfl, rfl⟩
      rw [law.out.part, law.out.i, ← min_if, ← min_if n]
      go_wp2_with fail
      all_goals
        refine (o_size d4 f).mono ?_
        rintro e _ ⟨rfl, rfl⟩
        go_wp2_with fail
        refine (o_trunc d4 p4.st (by decide) f _).mono ?_
        intro e w5 hp
        obtain ⟨rfl, o5, d5, p5⟩ := hp.is (r' := .int .i64 0) (by rw [(X.out _ (by omega)).1]) rfl
        clear hp p4 d4
        go_wp2_with fail
        refine (o_crash (ks' := []) d5 p5.st (by decide) none 0 (KeepAt.nil _ _ _) (by decide)).mono ?_
        rintro e w6 ⟨rfl, o6, d6, p6⟩
        clear p5 d5
        go_wp2_with fail
        refine (o_start d6 p6.st (by decide)).mono ?_
        rintro e w7 ⟨rfl, o7, d7, p7⟩
        clear p6 d6
        go_wp2_with fail
        refine (o_read d7 f 0 16777216).mono ?_
        rintro e _ ⟨rfl, rfl⟩
        rw [(X.out _ (by omega)).2.1, (X.out _ (by omega)).2.2]
        go_wp2_with fail
        go_ret
        exact ⟨rfl, p7.st.fr⟩
end Go.Proofs.Ytjgmbildgcighaa
