import Derived.Test.YtjgmbildgcighaaDoorRows
import Derived.Test.YtjgmbildgcighaaDoorMaps
namespace Go.Proofs.YtjgmbildgcighaaDoor
open Go.RowKit

theorem findNow_int (q : IntKind) {β : Type} (mkV : β → Value) (a : Int) : ∀ (L : List (Int × β × Nat)) (i : Nat),
    Instr.findNow (.int q) (.int .i64 a) (L.map (ent (Value.int .i64) mkV)) i = some (findX mkV a L i)
  | [], _ => rfl
  | t :: r, i => by
    simp only [List.map_cons, Instr.findNow, ent, Instr.sameNow, findX, if_true]
    by_cases h : t.1 = a
    · simp [h]
    · have h2 : ¬ a = t.1 := fun e => h e.symm
      simp only [h, if_false]
      have : (a == t.1) = false := by simpa using h2
      rw [this]
      exact findNow_int q mkV a r (i + 1)
theorem check_int {P : Program} (h3 : P.underlying 3 = some (.int .i64)) (w : World) (em : Bool) (n : Nat) (a : Int) : (Instr.checkKey em (n + 1) 3 (.int .i64 a)).run P w = .ok () w := by
  rw [Instr.checkKey]
  simp [run_underlying h3]
theorem key_int {P : Program} (h3 : P.underlying 3 = some (.int .i64)) : KeyL P 3 (Value.int .i64) where
  check w em a := check_int h3 w em 9999 a
  find mkV w a L := by simp [Instr.findKey, run_underlying h3, findNow_int]
  stays w a := by simp [Instr.keyThatStays, Instr.sameBits]

/-- A sector, as a key. -/
def secV (p : Int × Int) : Value := .agg #[.int .i64 p.1, .int .i64 p.2]
theorem part3 (w : World) (cs : Array Value) (i : Nat) (x : Int) (h : cs[i]? = some (.int .i64 x)) : (part 3 cs i).run Tryd.prog w = .ok (.int .i64 x) w := by
  unfold part
  go_simp
theorem run_eql_sec (w : World) (a b a' b' : Int) : (binOp .eql 78 (.agg #[.int .i64 a, .int .i64 b]) (.agg #[.int .i64 a', .int .i64 b'])).run Tryd.prog w = .ok (.bool (decide (a = a') && decide (b = b'))) w := by
  by_cases h1 : a = a' <;> by_cases h2 : b = b' <;> simp [h1, h2] <;> go_simp
theorem run_equal_sec (w : World) (p q : Int × Int) : (Op.equal 78 (secV p) (secV q)).run Tryd.prog w = .ok (decide (p = q)) w := by
  obtain ⟨a, b⟩ := p
  obtain ⟨a', b'⟩ := q
  have h := run_eql_sec w a b a' b'
  unfold binOp at h
  simp only [Sem.run_bind] at h
  show (Op.equal 78 (.agg #[.int .i64 a, .int .i64 b]) (.agg #[.int .i64 a', .int .i64 b'])).run Tryd.prog w = _
  cases hr : (Op.equal 78 (.agg #[.int .i64 a, .int .i64 b]) (.agg #[.int .i64 a', .int .i64 b'])).run Tryd.prog w with
  | ok e w1 =>
    rw [hr] at h
    simp only [Result.andThen, Sem.run_pure] at h
    injection h with h1 h2
    injection h1 with h1
    rw [h1, h2]
    congr 1
    simp
  | halt e w1 => rw [hr] at h; simp [Result.andThen] at h
theorem findAsking_sec {β : Type} (mkV : β → Value) (w : World) (a : Int × Int) : ∀ (L : List ((Int × Int) × β × Nat)) (i : Nat),
    (Instr.findAsking 78 (secV a) (L.map (ent secV mkV)) i).run Tryd.prog w = .ok (findX mkV a L i) w
  | [], _ => rfl
  | t :: r, i => by
    simp only [List.map_cons, Instr.findAsking, Sem.run_bind, ent, run_equal_sec, Result.andThen, findX]
    by_cases h : a = t.1
    · subst h; simp
    · have h2 : ¬ t.1 = a := fun e => h e.symm
      simp only [h, h2, decide_false, Bool.false_eq_true, if_false]
      exact findAsking_sec mkV w a r (i + 1)
theorem key_sec : KeyL Tryd.prog 78 secV where
  check w em a := by
    show (Instr.checkKey em (9999 + 1) 78 (.agg #[.int .i64 a.1, .int .i64 a.2])).run Tryd.prog w = _
    rw [Instr.checkKey]
    simp [run_underlying Tryd.underlying78, part3 w #[.int .i64 a.1, .int .i64 a.2] 0 a.1 rfl, part3 w #[.int .i64 a.1, .int .i64 a.2] 1 a.2 rfl, check_int Tryd.underlying3 w em 9998]
  find mkV w a L := by
    cases L with
    | nil => simp [Instr.findKey, run_underlying Tryd.underlying78, Instr.findNow, findX]
    | cons t r =>
      have := findAsking_sec mkV w a (t :: r) 0
      simp only [Instr.findKey, Sem.run_bind, run_underlying Tryd.underlying78, Result.andThen]
      have hn : Instr.findNow (.struct #[{ name := "file", type := 3, offset := 0, embedded := false, tag := "", pkgPath := "taquin/disk", byteOffset := 0 }, { name := "number", type := 3, offset := 1, embedded := false, tag := "", pkgPath := "taquin/disk", byteOffset := 8 }]) (secV a) ((t :: r).map (ent secV mkV)) 0 = none := by
        simp [Instr.findNow, Instr.sameNow]
      rw [hn]
      exact this
  stays w a := by
    show (Instr.keyThatStays (.agg #[.int .i64 a.1, .int .i64 a.2]) (.agg #[.int .i64 a.1, .int .i64 a.2])).run Tryd.prog w = _
    have : Instr.sameBits (9999 + 1) (.agg #[.int .i64 a.1, .int .i64 a.2]) (.agg #[.int .i64 a.1, .int .i64 a.2]) = true := by
      rw [Instr.sameBits]; simp [Instr.sameBits]
    simp only [Instr.keyThatStays]
    rw [if_pos this]
    rfl
end Go.Proofs.YtjgmbildgcighaaDoor
