/- What a nil index of fingerprints says (the second seat's numbers). -/
import Derived.Test.YtcgnilbilccohabEvW
import Derived.Test.YtcgnilbilccohabEvT
namespace Go.Ev.Z
open Go Go.Ev Go.Proofs
set_option linter.unusedVariables false
set_option maxRecDepth 8000
set_option linter.unusedSimpArgs false

theorem t13 (id : Int) (t : Tm) (k : Nat) (S : Store) : callN E (k + 1) 13 [.nilptr, .int .i64 id, .agg t.cells] S = some (.int .i64 2, S ++ [.cells t.cells 24]) := by
  rw [run_fn (by decide) Try.func13 rfl]
  simp [Try.f13, keepl]

theorem t14 (id : Int) (k : Nat) (S : Store) : callN E (k + 1) 14 [.nilptr, .int .i64 id] S = some (.int .i64 2, S ++ [.cells [.int .i64 id] 3]) := by
  rw [run_fn (by decide) Try.func14 rfl]
  simp [Try.f14, keepl]

theorem t62 (F : Nat) (t : Tm) (k : Nat) (S : Store) : callN E (k + 1) 62 [.nilptr, .agg t.cells, .func F [] []] S = some (.nilsl, S) := by
  rw [run_fn (by decide) Try.func62 rfl]
  simp [Try.f62, keepl]

theorem t15 (t : Tm) (k : Nat) (S : Store) : callN E (k + 2) 15 [.nilptr, .agg t.cells] S = some (.nilsl, S) := by
  rw [run_fn (by decide) Try.func15 rfl]
  simp [Try.f15, keepl, t62]

theorem t16 (t : Tm) (k : Nat) (S : Store) : callN E (k + 2) 16 [.nilptr, .agg t.cells] S = some (.nilsl, S) := by
  rw [run_fn (by decide) Try.func16 rfl]
  simp [Try.f16, keepl, t62]

theorem t17 (t : Tm) (k : Nat) (S : Store) : callN E (k + 2) 17 [.nilptr, .agg t.cells] S = some (.nilsl, S) := by
  rw [run_fn (by decide) Try.func17 rfl]
  simp [Try.f17, keepl, t62]

theorem t18 (k : Nat) (S : Store) : callN E (k + 1) 18 [.nilptr] S = some (.int .i64 0, S) := by
  rw [run_fn (by decide) Try.func18 rfl]
  simp [Try.f18, keepl]

theorem t19 (k : Nat) (S : Store) : callN E (k + 1) 19 [] S = some (.bool true, S) := by
  rw [call_hand (c := closedB true) (by simp [handZ])]
  rfl

theorem law3 (id : Int) (t : Tm) (k : Nat) (S : Store) : callN E (k + 3) 3 [.int .i64 id, .agg t.cells] S = some (.bool true, S) := by
  have h0 : IntKind.i64.wrap 0 = 0 := by decide
  rw [run_fn (by decide) Try.func3 rfl]
  simp [Try.f3, keepl, t13, t14, t15, t16, t17, t18, t19, h0]

end Go.Ev.Z
