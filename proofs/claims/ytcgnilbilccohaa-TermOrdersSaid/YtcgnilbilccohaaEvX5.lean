/- The laws TermOrder and TermOrders, as the evaluator tells them. -/
import Derived.Test.YtcgnilbilccohaaEvX4
namespace Go.Ev.Z
open Go Go.Ev Go.Proofs
set_option maxRecDepth 8000
set_option linter.unusedSimpArgs false

theorem t17 (k : Nat) (S : Store) : callN E (k + 1) 17 [] S = some (.bool true, S) := by
  rw [call_hand (c := closedB true) (by simp [handZ])]
  rfl

theorem law3 (a b : Tm) (k : Nat) (ha : a.ok) (hb : b.ok) (hka : a.w + b.w + 2 ≤ k) (S : Store) : callN E (k + 1) 3 [.agg a.cells, .agg b.cells] S = some (.bool true, S) := by
  obtain ⟨k, rfl⟩ : ∃ k', k = k' + 1 := ⟨k - 1, by omega⟩
  have h14 : ∀ S, callN E (k + 1) 14 [.agg a.cells] S = some (.int .i64 (rightW a), S) := fun S => t14 a k S (by omega) ha
  have h14' : ∀ S, callN E (k + 1) 14 [.agg b.cells] S = some (.int .i64 (rightW b), S) := fun S => t14 b k S (by omega) hb
  have h15 := fun S => t15 a b (k + 1) S (by omega) ha
  have h16 := fun S => t16 a b (k + 1) S (by omega) ha
  have h18 := fun S => t18 a b (k + 1) S (by omega) ha
  have h19 := fun S => t19 a b (k + 1) S (by omega) ha
  have h17 := t17 k
  have h4 : ∀ (t : Tm) S l, rowCells S l = some t.cells → readN S 3 (.ptr l 0) = some t.cells := fun t S l h => readN_box h
  rw [run_fn (by decide) Try.func3 rfl]
  by_cases h1 : rightW a = 0
  · by_cases h2 : rightW b = 0
    · simp [Try.f3, keepl, h14, h14', h15, h16, h17, h18, h19, h4, h1, h2]
    · simp [Try.f3, keepl, h14, h14', h15, h16, h17, h18, h19, h4, h1, h2]
  · simp [Try.f3, keepl, h14, h14', h15, h16, h17, h18, h19, h4, h1]

theorem law4 (a b c : Tm) (k : Nat) (ha : a.ok) (hb : b.ok) (hc : c.ok) (hka : a.w + b.w + c.w + 2 ≤ k) (S : Store) : callN E (k + 1) 4 [.agg a.cells, .agg b.cells, .agg c.cells] S = some (.bool true, S) := by
  obtain ⟨k, rfl⟩ : ∃ k', k = k' + 1 := ⟨k - 1, by omega⟩
  have h14 : ∀ S, callN E (k + 1) 14 [.agg a.cells] S = some (.int .i64 (rightW a), S) := fun S => t14 a k S (by omega) ha
  have h14' : ∀ S, callN E (k + 1) 14 [.agg b.cells] S = some (.int .i64 (rightW b), S) := fun S => t14 b k S (by omega) hb
  have h14'' : ∀ S, callN E (k + 1) 14 [.agg c.cells] S = some (.int .i64 (rightW c), S) := fun S => t14 c k S (by omega) hc
  have h15 := fun S => t15 a b (k + 1) S (by omega) ha
  have h18 := fun S => t18 a b (k + 1) S (by omega) ha
  have h18' := fun S => t18 b c (k + 1) S (by omega) hb
  have h18'' := fun S => t18 a c (k + 1) S (by omega) ha
  have h18n := fun S => t18 b a (k + 1) S (by omega) hb
  have h17 := t17 k
  rw [run_fn (by decide) Try.func4 rfl]
  by_cases h1 : rightW a = 0
  · by_cases h2 : rightW b = 0
    · by_cases h3 : rightW c = 0
      · have g1 : IntKind.i64.wrap (-cmpT b a) = cmpT a b := by
          have := cmpT_abs a b
          rw [cmpT_neg a b, Int.neg_neg]
          exact wrapN (by omega) (by omega)
        have g2 := cmpT_zero a b (rightW_shape h1) (rightW_shape h2)
        have g3 := cmpT_trans a b c
        by_cases e1 : cmpT a b = 0
        · have e2 := g2.1 e1
          by_cases e3 : 0 < cmpT b c
          · simp [Try.f4, keepl, h14, h14', h14'', h15, h17, h18, h18', h18'', h18n, h1, h2, h3, g1, e1, e2, e3]
          · have e4 : cmpT a c ≤ 0 := (g3 (by omega) (by omega)).1
            simp [Try.f4, keepl, h14, h14', h14'', h15, h17, h18, h18', h18'', h18n, h1, h2, h3, g1, e1, e2, e3, e4]
        · have e2 : same a b = false := by
            cases hs : same a b with
            | false => rfl
            | true => exact absurd (g2.2 hs) e1
          by_cases e5 : 0 < cmpT a b
          · simp [Try.f4, keepl, h14, h14', h14'', h15, h17, h18, h18', h18'', h18n, h1, h2, h3, g1, e1, e2, e5]
          · by_cases e3 : 0 < cmpT b c
            · simp [Try.f4, keepl, h14, h14', h14'', h15, h17, h18, h18', h18'', h18n, h1, h2, h3, g1, e1, e2, e3, e5]
            · have e4 : cmpT a c ≤ 0 := (g3 (by omega) (by omega)).1
              simp [Try.f4, keepl, h14, h14', h14'', h15, h17, h18, h18', h18'', h18n, h1, h2, h3, g1, e1, e2, e3, e4, e5]
      · simp [Try.f4, keepl, h14, h14', h14'', h15, h17, h18, h18', h18'', h18n, h1, h2, h3]
    · simp [Try.f4, keepl, h14, h14', h14'', h15, h17, h18, h18', h18'', h18n, h1, h2]
  · simp [Try.f4, keepl, h14, h14', h14'', h15, h17, h18, h18', h18'', h18n, h1]

end Go.Ev.Z
