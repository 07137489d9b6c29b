import Derived.Test.YtjgmbildgcighaaDoorD9
namespace Go.Proofs.YtjgmbildgcighaaDoor
open Go.RowKit
theorem KeepAt.post {w w' : World} {F : Nat → Prop} {g : Nat} {r kv : Value} {d : DS} {e : Ending} {A : Option Addr} {ks : List Int} (h : KeepAt w F A ks) (hp : DPost w F g r kv d e w') : KeepAt w' (Grow F w w') A ks :=
  h.fr hp.2.2 (fun _ _ h => h) (fun k hk h => h.elim id fun h => by omega)
theorem DiskAt.c6 {w : World} {F : Nat → Prop} {g : Nat} {kv : Value} {d : DS} (h : DiskAt w F g kv d) : w.cell? ⟨g, 6, none⟩ = some kv := by
  obtain ⟨bf, bs, qv, h⟩ := h
  exact h.blk.cell 6
set_option maxRecDepth 100000 in
set_option maxHeartbeats 1600000 in
theorem write_any (g : Nat) (d : DS) (A : Option Addr) (c : Nat) (ks : List Int) (f a : Int) (s : ByteArray) (w : World) (F : Nat → Prop) (h : DiskAt w F g (.slice A ks.length c) d) (hk : KeepAt w F A ks) (hb : ks.length ≤ 1000000) :
    Calls Tryd.prog 11 #[.pointer (some ⟨g, 0, none⟩), .int .i64 f, .int .i64 a, .string s] w (DPost w F g (.int .i64 (writeE d f a s)) (.slice A ks.length c) (writeD d ks f a s)) := by
  have HAt := Lib.hid h
  have HK := Lib.hid hk
  cases he : endsB d
  · have HB := Lib.hid he
    have HE : Hid (writeE d f a s = wrE (endsD d) f a s ∧ writeD d ks f a s = wrD (endsD d) f a s) := by simp [Hid, writeE, writeD, he]
    clear h hk he
    go_enter Tryd.func11, Tryd.ntmps11
    go_wp2_with fail
    refine (ends_is g d _ false _ F HAt.out HB.out).mono ?_
    intro e w1 hp
    have P1 := Lib.hid hp
    obtain ⟨rfl, hd1, hf1⟩ := hp
    go_wp2_with fail
    refine (wr_any g (endsD d) _ f a s _ _ hd1).mono ?_
    intro e w2 hp2
    have P2 := Lib.hid (P1.out.then_ hp2 HAt.out.lt)
    obtain ⟨rfl, -, -⟩ := hp2
    clear hd1 hf1 P1
    go_wp2_with fail
    go_ret
    rw [HE.out.1, HE.out.2]
    exact P2.out
  · have HB := Lib.hid he
    have HE : Hid (writeE d f a s = 9 ∧ writeD d ks f a s = crashD (wrD (endsD d) f a s) ks) := by simp [Hid, writeE, writeD, he]
    clear h hk he
    go_enter Tryd.func11, Tryd.ntmps11
    go_wp2_with fail
    refine (ends_is g d _ true _ F HAt.out HB.out).mono ?_
    intro e w1 hp
    have P1 := Lib.hid hp
    have K1 := Lib.hid (HK.out.post hp)
    obtain ⟨rfl, hd1, hf1⟩ := hp
    go_wp2_with fail
    refine (wr_any g (endsD d) _ f a s _ _ hd1).mono ?_
    intro e w2 hp2
    have K2 := Lib.hid (K1.out.post hp2)
    have P2 := Lib.hid hp2
    obtain ⟨rfl, hd2, -⟩ := hp2
    have c6 := hd2.c6
    have D2 := Lib.hid hd2
    clear hd1 hf1 K1 hd2
    go_wp2_with fail
    refine (crash_any g _ _ A c ks _ _ D2.out K2.out hb).mono ?_
    intro e w3 hp3
    have P3 := Lib.hid (P1.out.then_ (P2.out.then_ hp3 (P1.out.2.1.lt)) HAt.out.lt)
    obtain ⟨rfl, -, -⟩ := hp3
    clear c6 D2 K2 P1 P2
    go_wp2_with fail
    go_ret
    rw [HE.out.1, HE.out.2]
    exact ⟨rfl, P3.out.2⟩
theorem comes_f {d : DS} {ks : List Int} (h : endsB d = false) : comesD d ks = endsD d := by unfold comesD; rw [h]; simp
theorem comes_t {d : DS} {ks : List Int} (h : endsB d = true) : comesD d ks = crashD (endsD d) ks := by unfold comesD; rw [h]; simp
theorem DPost.at {w w1 w2 : World} {F : Nat → Prop} {g : Nat} {r r' kv : Value} {d d2 : DS} {e : Ending} (h : DPost w F g r kv d e w1) (hl : ∀ k, F k → k < w.heap.size) (h2 : DiskAt w2 (Grow F w w1) g kv d2) (hf : Fr (Grow F w w1) w1 w2) : DPost w F g r' kv d2 (.returned r') w2 :=
  h.then_ (h.2.1.post0 (r := r') h2 hf) hl
set_option maxRecDepth 100000 in
set_option maxHeartbeats 3200000 in
theorem sync_any (g : Nat) (d : DS) (A : Option Addr) (c : Nat) (ks : List Int) (f : Int) (w : World) (F : Nat → Prop) (h : DiskAt w F g (.slice A ks.length c) d) (hk : KeepAt w F A ks) (hb : ks.length ≤ 1000000) :
    Calls Tryd.prog 41 #[.pointer (some ⟨g, 0, none⟩), .int .i64 f] w (DPost w F g (.int .i64 (syncE d ks f)) (.slice A ks.length c) (syncD d ks f)) := by
  have HAt := Lib.hid h
  have HK := Lib.hid hk
  cases he : endsB d
  · have HB := Lib.hid he
    have hC := comes_f (ks := ks) he
    clear h hk he
    by_cases hm : mayE (endsD d) f = 0
    · have HM := Lib.hid hm
      by_cases hl : 0 < ((endsD d)).lost
      · have HE : Hid (syncE d ks f = 10 ∧ syncD d ks f = { (endsD d) with lost := ((endsD d)).lost - 1 }) := by simp [Hid, syncE, syncD, syncE1, syncD1, hC, hm, hl]
        clear hm hC
        go_enter Tryd.func41, Tryd.ntmps41
        go_wp2_with fail
        refine (ends_is g d _ false _ F HAt.out HB.out).mono ?_
        intro e w1 hp
        have PX := Lib.hid hp
        obtain ⟨rfl, -, -⟩ := hp
        obtain ⟨w2, rfl⟩ : ∃ w', w' = w1 := ⟨_, rfl⟩
        have DX := Lib.hid PX.out.2.1
        go_wp2_with fail
        refine (may_is g _ _ f 0 _ _ DX.out HM.out).mono ?_
        rintro e w3 ⟨rfl, rfl⟩
        obtain ⟨bf, bs, qv, hx⟩ := DX.out
        have c3 : w2.cell? ⟨g, 3, none⟩ = some (.int .i64 (endsD d).lost) := hx.blk.cell 3
        have f3 : w2.frozen? ⟨g, 3, none⟩ = false := hx.blk.frozen 3
        have hlb := hx.inv.lost
        have hend := Lib.hid (PX.out.at (r' := .int .i64 10) HAt.out.lt (d2 := { (endsD d) with lost := (endsD d).lost - 1 }) ⟨bf, bs, qv, hx.set_ (i := 3) (u := .int .i64 ((endsD d).lost - 1)) (kv' := .slice A ks.length c) ⟨hx.inv.nodup, hx.inv.sect, hx.inv.now, hx.inv.last, by show 0 ≤ (endsD d).lost - 1 ∧ (endsD d).lost - 1 ≤ _; omega, hx.inv.armed⟩ rfl rfl rfl⟩ ((Fr.refl _ _).setCell (fun _ => hx.own) _))
        obtain ⟨hlb1, hlb2⟩ := hlb
        clear hx DX PX
        go_wp2_with fail
        go_ret
        rw [HE.out.1, HE.out.2]
        exact hend.out
      · have HE : Hid (syncE d ks f = 0 ∧ syncD d ks f = settleD (endsD d) f ((endsD d).fs f).now) := by simp [Hid, syncE, syncD, syncE1, syncD1, hC, hm, hl]
        clear hm hC
        go_enter Tryd.func41, Tryd.ntmps41
        go_wp2_with fail
        refine (ends_is g d _ false _ F HAt.out HB.out).mono ?_
        intro e w1 hp
        have PX := Lib.hid hp
        obtain ⟨rfl, -, -⟩ := hp
        obtain ⟨w2, rfl⟩ : ∃ w', w' = w1 := ⟨_, rfl⟩
        have DX := Lib.hid PX.out.2.1
        go_wp2_with fail
        refine (may_is g _ _ f 0 _ _ DX.out HM.out).mono ?_
        rintro e w3 ⟨rfl, rfl⟩
        obtain ⟨bf, bs, qv, hx⟩ := DX.out
        have c3 : w2.cell? ⟨g, 3, none⟩ = some (.int .i64 (endsD d).lost) := hx.blk.cell 3
        have c0 : w2.cell? ⟨g, 0, none⟩ = some (.map (some bf)) := hx.blk.cell 0
        have hlk := hx.files.look f
        have hsz := hx.inv.now f
        unfold fileV at hlk
        have hfn := field_now ((endsD d).fs f).now ((endsD d).fs f).last
        clear hx
        go_wp2_with fail
        refine (settle_any g _ _ f _ hsz _ _ DX.out).mono ?_
        intro e w4 hp4
        have hend := Lib.hid (PX.out.then_ hp4 HAt.out.lt)
        obtain ⟨rfl, -, -⟩ := hp4
        clear DX PX c3 c0 hlk hfn
        go_wp2_with fail
        go_ret
        rw [HE.out.1, HE.out.2]
        exact ⟨rfl, hend.out.2⟩
    · have HE : Hid (syncE d ks f = mayE (endsD d) f ∧ syncD d ks f = (endsD d)) := by simp [Hid, syncE, syncD, syncE1, syncD1, hC, hm]
      have hm' : (mayE (endsD d) f != 0) = true := by simpa using hm
      clear hm hC
      go_enter Tryd.func41, Tryd.ntmps41
      go_wp2_with fail
      refine (ends_is g d _ false _ F HAt.out HB.out).mono ?_
      intro e w1 hp
      have PX := Lib.hid hp
      obtain ⟨rfl, -, -⟩ := hp
      obtain ⟨w2, rfl⟩ : ∃ w', w' = w1 := ⟨_, rfl⟩
      have DX := Lib.hid PX.out.2.1
      go_wp2_with fail
      refine (may_any g _ _ f _ _ DX.out).mono ?_
      rintro e w3 ⟨rfl, rfl⟩
      have hend := Lib.hid (PX.out.at (r' := .int .i64 (mayE (endsD d) f)) HAt.out.lt DX.out (Fr.refl _ _))
      clear DX PX
      go_wp2_with fail
      go_ret
      rw [HE.out.1, HE.out.2]
      exact hend.out
  · have HB := Lib.hid he
    have hC := comes_t (ks := ks) he
    clear h hk he
    by_cases hm : mayE (crashD (endsD d) ks) f = 0
    · have HM := Lib.hid hm
      by_cases hl : 0 < ((crashD (endsD d) ks)).lost
      · have HE : Hid (syncE d ks f = 10 ∧ syncD d ks f = { (crashD (endsD d) ks) with lost := ((crashD (endsD d) ks)).lost - 1 }) := by simp [Hid, syncE, syncD, syncE1, syncD1, hC, hm, hl]
        clear hm hC
        go_enter Tryd.func41, Tryd.ntmps41
        go_wp2_with fail
        refine (ends_is g d _ true _ F HAt.out HB.out).mono ?_
        intro e w1 hp
        have P1 := Lib.hid hp
        have K1 := Lib.hid (HK.out.post hp)
        obtain ⟨rfl, hd1, hf1⟩ := hp
        have c6 := hd1.c6
        have D1 := Lib.hid hd1
        clear hd1 hf1
        go_wp2_with fail
        refine (crash_any g _ _ A c ks _ _ D1.out K1.out hb).mono ?_
        intro e w2 hp2
        have PX := Lib.hid (P1.out.then_ hp2 HAt.out.lt)
        obtain ⟨rfl, -, -⟩ := hp2
        clear c6 D1 K1 P1
        have DX := Lib.hid PX.out.2.1
        go_wp2_with fail
        refine (may_is g _ _ f 0 _ _ DX.out HM.out).mono ?_
        rintro e w3 ⟨rfl, rfl⟩
        obtain ⟨bf, bs, qv, hx⟩ := DX.out
        have c3 : w2.cell? ⟨g, 3, none⟩ = some (.int .i64 (crashD (endsD d) ks).lost) := hx.blk.cell 3
        have f3 : w2.frozen? ⟨g, 3, none⟩ = false := hx.blk.frozen 3
        have hlb := hx.inv.lost
        have hend := Lib.hid (PX.out.at (r' := .int .i64 10) HAt.out.lt (d2 := { (crashD (endsD d) ks) with lost := (crashD (endsD d) ks).lost - 1 }) ⟨bf, bs, qv, hx.set_ (i := 3) (u := .int .i64 ((crashD (endsD d) ks).lost - 1)) (kv' := .slice A ks.length c) ⟨hx.inv.nodup, hx.inv.sect, hx.inv.now, hx.inv.last, by show 0 ≤ (crashD (endsD d) ks).lost - 1 ∧ (crashD (endsD d) ks).lost - 1 ≤ _; omega, hx.inv.armed⟩ rfl rfl rfl⟩ ((Fr.refl _ _).setCell (fun _ => hx.own) _))
        obtain ⟨hlb1, hlb2⟩ := hlb
        clear hx DX PX
        go_wp2_with fail
        go_ret
        rw [HE.out.1, HE.out.2]
        exact hend.out
      · have HE : Hid (syncE d ks f = 0 ∧ syncD d ks f = settleD (crashD (endsD d) ks) f ((crashD (endsD d) ks).fs f).now) := by simp [Hid, syncE, syncD, syncE1, syncD1, hC, hm, hl]
        clear hm hC
        go_enter Tryd.func41, Tryd.ntmps41
        go_wp2_with fail
        refine (ends_is g d _ true _ F HAt.out HB.out).mono ?_
        intro e w1 hp
        have P1 := Lib.hid hp
        have K1 := Lib.hid (HK.out.post hp)
        obtain ⟨rfl, hd1, hf1⟩ := hp
        have c6 := hd1.c6
        have D1 := Lib.hid hd1
        clear hd1 hf1
        go_wp2_with fail
        refine (crash_any g _ _ A c ks _ _ D1.out K1.out hb).mono ?_
        intro e w2 hp2
        have PX := Lib.hid (P1.out.then_ hp2 HAt.out.lt)
        obtain ⟨rfl, -, -⟩ := hp2
        clear c6 D1 K1 P1
        have DX := Lib.hid PX.out.2.1
        go_wp2_with fail
        refine (may_is g _ _ f 0 _ _ DX.out HM.out).mono ?_
        rintro e w3 ⟨rfl, rfl⟩
        obtain ⟨bf, bs, qv, hx⟩ := DX.out
        have c3 : w2.cell? ⟨g, 3, none⟩ = some (.int .i64 (crashD (endsD d) ks).lost) := hx.blk.cell 3
        have c0 : w2.cell? ⟨g, 0, none⟩ = some (.map (some bf)) := hx.blk.cell 0
        have hlk := hx.files.look f
        have hsz := hx.inv.now f
        unfold fileV at hlk
        have hfn := field_now ((crashD (endsD d) ks).fs f).now ((crashD (endsD d) ks).fs f).last
        clear hx
        go_wp2_with fail
        refine (settle_any g _ _ f _ hsz _ _ DX.out).mono ?_
        intro e w4 hp4
        have hend := Lib.hid (PX.out.then_ hp4 HAt.out.lt)
        obtain ⟨rfl, -, -⟩ := hp4
        clear DX PX c3 c0 hlk hfn
        go_wp2_with fail
        go_ret
        rw [HE.out.1, HE.out.2]
        exact ⟨rfl, hend.out.2⟩
    · have HE : Hid (syncE d ks f = mayE (crashD (endsD d) ks) f ∧ syncD d ks f = (crashD (endsD d) ks)) := by simp [Hid, syncE, syncD, syncE1, syncD1, hC, hm]
      have hm' : (mayE (crashD (endsD d) ks) f != 0) = true := by simpa using hm
      clear hm hC
      go_enter Tryd.func41, Tryd.ntmps41
      go_wp2_with fail
      refine (ends_is g d _ true _ F HAt.out HB.out).mono ?_
      intro e w1 hp
      have P1 := Lib.hid hp
      have K1 := Lib.hid (HK.out.post hp)
      obtain ⟨rfl, hd1, hf1⟩ := hp
      have c6 := hd1.c6
      have D1 := Lib.hid hd1
      clear hd1 hf1
      go_wp2_with fail
      refine (crash_any g _ _ A c ks _ _ D1.out K1.out hb).mono ?_
      intro e w2 hp2
      have PX := Lib.hid (P1.out.then_ hp2 HAt.out.lt)
      obtain ⟨rfl, -, -⟩ := hp2
      clear c6 D1 K1 P1
      have DX := Lib.hid PX.out.2.1
      go_wp2_with fail
      refine (may_any g _ _ f _ _ DX.out).mono ?_
      rintro e w3 ⟨rfl, rfl⟩
      have hend := Lib.hid (PX.out.at (r' := .int .i64 (mayE (crashD (endsD d) ks) f)) HAt.out.lt DX.out (Fr.refl _ _))
      clear DX PX
      go_wp2_with fail
      go_ret
      rw [HE.out.1, HE.out.2]
      exact hend.out
end Go.Proofs.YtjgmbildgcighaaDoor
