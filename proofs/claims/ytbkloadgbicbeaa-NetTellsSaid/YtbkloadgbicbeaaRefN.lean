import Derived.Test.YtbkloadgbicbeaaRefB
namespace Go.Proofs.Ytbkloadgbicbeaa
open Go.RowKit

def NewBlk (w : World) : Nat → Prop := fun k => w.heap.size ≤ k
theorem fresh1 (w : World) : Row (w.alloc (.cells #[] 34)).drew (NewBlk w) 34 3 (.slice (some ⟨w.heap.size, 0, none⟩) 0 0) 0 [] :=
  (row_fresh w).more fun k _ h => by subst h; exact Nat.le_refl _
theorem fresh2 (w : World) (o : Obj) : Row ((w.alloc (.cells #[] 34)).alloc o).drew (NewBlk w) 34 3 (.slice (some ⟨w.heap.size, 0, none⟩) 0 0) 0 [] :=
  Row.alloc (fresh1 w) o
theorem fresh3 (w : World) (o : Obj) : Row ((w.alloc o).alloc (.cells #[] 34)).drew (NewBlk w) 34 3 (.slice (some ⟨w.heap.size + 1, 0, none⟩) 0 0) 0 [] := by
  have h := fresh1 (w.alloc o)
  simp only [World.size_alloc] at h
  exact h.more fun k _ h => by simp [NewBlk] at h ⊢; omega
theorem mid_append {w W w' : World} {v v' : Value} {n m : Nat} {xs ys : List Value} (hm : Fr (fun _ => False) w W) (hr : Row W (NewBlk w) 34 3 v n xs)
    (r : Row w' (Grow (NewBlk w) W w') 34 3 v' m ys) (f : Fr (Own v) W w') : Fr (fun _ => False) w w' ∧ Row w' (NewBlk w) 34 3 v' m ys := by
  refine ⟨hm.trans' f fun i hi h => ?_, r.more fun k _ h => ?_⟩
  · have := hr.2 i h
    simp [NewBlk] at this; omega
  · rcases h with h | h
    · exact h
    · have := hm.size; simp [NewBlk]; omega
theorem store_end {w w2 : World} {F : Nat → Prop} {g : Nat} {u v2 : Value} {ps qs : List Pkt} {s : Int} {n2 : Nat} {r : Value}
    (hN : NetAt w F 51 g ps s) (hg : F g) (hb : Blk w g 51 #[u, .int .i64 s]) (hf0 : Fr (fun _ => False) w w2) (r2 : Row w2 (NewBlk w) 34 3 v2 n2 (pcells qs)) (hn : n2 = qs.length) :
    NetPost w F 51 g r qs s (.returned r) (w2.setCell ⟨g, 0, none⟩ v2) := by
  subst hn
  have hb2 := hb.keep hf0 (fun h => h)
  have hne := own_blk_ne r2.1 hb2 (by decide)
  have hf2 : Fr F w (w2.setCell ⟨g, 0, none⟩ v2) := Fr.setCell (hf0.mono fun _ _ h => h.elim) (fun _ => hg) v2
  refine ⟨rfl, ⟨grow_lt hN.1 hf2.size, .inl hg, v2, by simpa using hb2.set_ 0 v2, ?_⟩, hf2⟩
  refine (r2.far (p := ⟨g, 0, none⟩) hne v2).more fun k hk h => .inr ⟨h, hk⟩
theorem rd_blk3 {w : World} {b : Nat} {x y z : Value} {t : TypeId} (h : Blk w b t #[x, y, z]) : Rd w 3 (some ⟨b, 0, none⟩) 1 [x, y, z] := by
  refine ⟨rfl, fun _ => ⟨_, rfl, fun j u hu => ?_⟩⟩
  rw [Addr.add_lit, Nat.zero_add, h.cell j]
  simpa using hu

end Go.Proofs.Ytbkloadgbicbeaa
