/- Terms: what the reference says of their size, depth and shape. -/
import Derived.Test.YtcgnilbilccohabEvQ
import Derived.Test.YtcgnilbilccohabEvW
import Derived.Test.YtcgnilbilccohabEvT
namespace Go.Ev.Z
open Go Go.Ev Go.Proofs
set_option linter.unusedVariables false
set_option maxRecDepth 8000
set_option pp.maxSteps 200000
set_option linter.unusedSimpArgs false

theorem wrapN {n : Int} (h0 : -9223372036854775808 ≤ n) (h : n < 9223372036854775808) : IntKind.i64.wrap n = n := by
  rw [IntKind.wrap_i64]; omega

mutual
def sizeW : Tm → Int
  | .mk _ _ _ args => sizeWL 1 args
def sizeWL : Int → List Tm → Int
  | acc, [] => acc
  | acc, t :: ts => sizeWL (IntKind.i64.wrap (acc + sizeW t)) ts
end

theorem drop_cons {α : Type} {l rest : List α} {a : α} {i : Nat} (h : l.drop i = a :: rest) : i < l.length ∧ l[i]? = some a ∧ l.drop (i + 1) = rest := by
  have hi : i < l.length := by
    by_cases h' : i < l.length
    · exact h'
    · rw [List.drop_eq_nil_of_le (by omega)] at h; cases h
  refine ⟨hi, ?_, ?_⟩
  · have := congrArg List.head? h
    rw [List.head?_drop] at this
    simpa using this
  · have := congrArg List.tail h
    simpa using this

theorem loop22 (v : Int) (fn : ByteArray) (kk : Option Bool) (args : List Tm) (l k K : Nat) (S : Store) (ih : ∀ a ∈ args, callN E k 22 [.agg a.cells] S = some (.int .i64 (sizeW a), S)) (hrow : rowCells S l = some (Tm.mk v fn kk args).cells) (hb : args.length < 9223372036854775807) :
    ∀ (rest : List Tm) (i : Nat) (acc : Int) (n : Nat) (t : Tmps), args.drop i = rest → rest.length < n → t.length = 21 → tg t 1 = .ptr l 0 → tg t 3 = .int .i64 acc → tg t 4 = .int .i64 i →
      Out (fun e t' S' => e = .exit 0 ∧ t'.length = 21 ∧ tg t' 3 = .int .i64 (sizeWL acc rest) ∧ S' = S) (loopC T (callN E k) (drawF T (callN E k) 22 none (planOf 22)) K (lp 0 Try.f22) n t S) := by
  simp only [Tm.cells] at hrow
  intro rest
  induction rest with
  | nil =>
    intro i acc n t hd hn hlen h1 h3 h4
    obtain ⟨n, rfl⟩ : ∃ n', n = n' + 1 := ⟨n - 1, by omega⟩
    have hi : args.length ≤ i := List.drop_eq_nil_iff.1 hd
    have e1 : ¬ i < args.length := by omega
    simp [loop_step, Try.f22, h1, h3, h4, hlen, hrow, e1, sizeWL]
  | cons a rest ihr =>
    intro i acc n t hd hn hlen h1 h3 h4
    obtain ⟨n, rfl⟩ : ∃ n', n = n' + 1 := ⟨n - 1, by omega⟩
    obtain ⟨hi, ha, hd'⟩ := drop_cons hd
    have hA := ih a (List.mem_of_getElem? ha)
    have e3 : (cellsL args)[i]? = some a.cells := by simp [cellsL_get, ha]
    have e2 := indexA_slA (T := T) (ty := 22) (e := 24) (sz := 3) (k := kk) (els := cellsL args) (i := i) (el := a.cells) rfl rfl e3 (by simp)
    have e4 := readN_el e3 (Tm.cells_len a)
    have hw : IntKind.i64.wrap ((i : Int) + 1) = ((i + 1 : Nat) : Int) := wrapN (by omega) (by omega)
    simp [loop_step, Try.f22, h1, h3, h4, hlen, hrow, hi, e2, e4, hA, hw]
    refine ihr (i + 1) (IntKind.i64.wrap (acc + sizeW a)) n _ hd' (by simp at hn; omega) ?_ ?_ ?_ ?_ <;> simp [hlen, h1]

theorem t22 : ∀ (t0 : Tm) (k : Nat) (S : Store), t0.w ≤ k → t0.ok → callN E k 22 [.agg t0.cells] S = some (.int .i64 (sizeW t0), S)
  | .mk v fn kk args, k, S, hk, hb => by
    obtain ⟨k, rfl⟩ : ∃ k', k = k' + 1 := ⟨k - 1, by simp only [Tm.w] at hk; omega⟩
    simp only [Tm.w] at hk
    obtain ⟨hb, hbL⟩ := hb
    have ih : ∀ a ∈ args, ∀ S, callN E k 22 [.agg a.cells] S = some (.int .i64 (sizeW a), S) := fun a ha S => by
      have := w_mem ha
      exact t22 a k S (by omega) (okL_mem hbL a ha)
    rw [run_fn (by decide) Try.func22 rfl]
    have hlen := wL_len args
    simp [Try.f22, keepl]
    generalize hr : loopC T (callN E k) _ (k + 1) _ (k + 1) _ _ = r
    obtain ⟨e, t', S', rfl, rfl, g1, g2, rfl⟩ := Out.at hr (loop22 v fn kk args S.length k (k + 1) (S ++ [.cells (Tm.mk v fn kk args).cells 24]) (fun a ha => ih a ha _) (by simp) (by omega) args 0 1 (k + 1) _ rfl (by omega) (by rfl) (by rfl) (by rfl) (by rfl))
    simp [g1, g2, sizeW]
termination_by t0 => t0.w
decreasing_by simp only [Tm.w]; omega

/-! ### Depth -/
mutual
def depthW : Tm → Int
  | .mk _ _ _ args => IntKind.i64.wrap (depthWL 0 args + 1)
def depthWL : Int → List Tm → Int
  | acc, [] => acc
  | acc, t :: ts => depthWL (if acc < depthW t then depthW t else acc) ts
end

theorem loop108 (v : Int) (fn : ByteArray) (kk : Option Bool) (args : List Tm) (l k K : Nat) (S : Store) (ih : ∀ a ∈ args, callN E k 108 [.agg a.cells] S = some (.int .i64 (depthW a), S)) (hrow : rowCells S l = some (Tm.mk v fn kk args).cells) (hb : args.length < 9223372036854775807) :
    ∀ (rest : List Tm) (i : Nat) (acc : Int) (n : Nat) (t : Tmps), args.drop i = rest → rest.length < n → t.length = 22 → tg t 1 = .ptr l 0 → tg t 3 = .int .i64 acc → tg t 4 = .int .i64 i →
      Out (fun e t' S' => e = .exit 0 ∧ t'.length = 22 ∧ tg t' 3 = .int .i64 (depthWL acc rest) ∧ S' = S) (loopC T (callN E k) (drawF T (callN E k) 108 none (planOf 108)) K (lp 0 Try.f108) n t S) := by
  simp only [Tm.cells] at hrow
  intro rest
  induction rest with
  | nil =>
    intro i acc n t hd hn hlen h1 h3 h4
    obtain ⟨n, rfl⟩ : ∃ n', n = n' + 1 := ⟨n - 1, by omega⟩
    have hi : args.length ≤ i := List.drop_eq_nil_iff.1 hd
    have e1 : ¬ i < args.length := by omega
    simp [loop_step, Try.f108, h1, h3, h4, hlen, hrow, e1, depthWL]
  | cons a rest ihr =>
    intro i acc n t hd hn hlen h1 h3 h4
    obtain ⟨n, rfl⟩ : ∃ n', n = n' + 1 := ⟨n - 1, by omega⟩
    obtain ⟨hi, ha, hd'⟩ := drop_cons hd
    have hA := ih a (List.mem_of_getElem? ha)
    have e3 : (cellsL args)[i]? = some a.cells := by simp [cellsL_get, ha]
    have e2 := indexA_slA (T := T) (ty := 22) (e := 24) (sz := 3) (k := kk) (els := cellsL args) (i := i) (el := a.cells) rfl rfl e3 (by simp)
    have e4 := readN_el e3 (Tm.cells_len a)
    have hw : IntKind.i64.wrap ((i : Int) + 1) = ((i + 1 : Nat) : Int) := wrapN (by omega) (by omega)
    simp [loop_step, Try.f108, h1, h3, h4, hlen, hrow, hi, e2, e4, hA, hw]
    refine ihr (i + 1) (if acc < depthW a then depthW a else acc) n _ hd' (by simp at hn; omega) ?_ ?_ ?_ ?_ <;> simp [hlen, h1]

theorem t108 : ∀ (t0 : Tm) (k : Nat) (S : Store), t0.w ≤ k → t0.ok → callN E k 108 [.agg t0.cells] S = some (.int .i64 (depthW t0), S)
  | .mk v fn kk args, k, S, hk, hb => by
    obtain ⟨k, rfl⟩ : ∃ k', k = k' + 1 := ⟨k - 1, by simp only [Tm.w] at hk; omega⟩
    simp only [Tm.w] at hk
    obtain ⟨hb, hbL⟩ := hb
    have ih : ∀ a ∈ args, ∀ S, callN E k 108 [.agg a.cells] S = some (.int .i64 (depthW a), S) := fun a ha S => by
      have := w_mem ha
      exact t108 a k S (by omega) (okL_mem hbL a ha)
    rw [run_fn (by decide) Try.func108 rfl]
    have hlen := wL_len args
    simp [Try.f108, keepl]
    generalize hr : loopC T (callN E k) _ (k + 1) _ (k + 1) _ _ = r
    obtain ⟨e, t', S', rfl, rfl, g1, g2, rfl⟩ := Out.at hr (loop108 v fn kk args S.length k (k + 1) (S ++ [.cells (Tm.mk v fn kk args).cells 24]) (fun a ha => ih a ha _) (by simp) (by omega) args 0 0 (k + 1) _ rfl (by omega) (by rfl) (by rfl) (by rfl) (by rfl))
    simp [g1, g2, depthW]
termination_by t0 => t0.w
decreasing_by simp only [Tm.w]; omega

/-! ### Shape -/
mutual
def shapeB : Tm → Bool
  | .mk v fn _ args => bif strEq fn { data := #[] } then (decide (0 ≤ v) && (decide (v < 1000000) && ((args.length : Int) == 0))) else (decide (v = 0) && (decide (fn.size ≤ 64) && (decide (args.length ≤ 16) && shapeAll args)))
def shapeAll : List Tm → Bool
  | [] => true
  | t :: ts => shapeB t && shapeAll ts
end

theorem loop107 (v : Int) (fn : ByteArray) (kk : Option Bool) (args : List Tm) (l k K : Nat) (S : Store) (ih : ∀ a ∈ args, callN E k 107 [.agg a.cells] S = some (.bool (shapeB a), S)) (hrow : rowCells S l = some (Tm.mk v fn kk args).cells) (hb : args.length < 9223372036854775807) :
    ∀ (rest : List Tm) (i n : Nat) (t : Tmps), args.drop i = rest → rest.length < n → t.length = 50 → tg t 1 = .ptr l 0 → tg t 3 = .int .i64 i →
      Out (fun e t' S' => (e = .exit 0 ∧ shapeAll rest = true ∨ e = .ret ∧ shapeAll rest = false ∧ tg t' 2 = .bool false) ∧ t'.length = 50 ∧ S' = S) (loopC T (callN E k) (drawF T (callN E k) 107 none (planOf 107)) K (lp 0 Try.f107) n t S) := by
  simp only [Tm.cells] at hrow
  intro rest
  induction rest with
  | nil =>
    intro i n t hd hn hlen h1 h3
    obtain ⟨n, rfl⟩ : ∃ n', n = n' + 1 := ⟨n - 1, by omega⟩
    have hi : args.length ≤ i := List.drop_eq_nil_iff.1 hd
    have e1 : ¬ i < args.length := by omega
    simp [loop_step, Try.f107, h1, h3, hlen, hrow, e1, shapeAll]
  | cons a rest ihr =>
    intro i n t hd hn hlen h1 h3
    obtain ⟨n, rfl⟩ : ∃ n', n = n' + 1 := ⟨n - 1, by omega⟩
    obtain ⟨hi, ha, hd'⟩ := drop_cons hd
    have hA := ih a (List.mem_of_getElem? ha)
    have e3 : (cellsL args)[i]? = some a.cells := by simp [cellsL_get, ha]
    have e2 := indexA_slA (T := T) (ty := 22) (e := 24) (sz := 3) (k := kk) (els := cellsL args) (i := i) (el := a.cells) rfl rfl e3 (by simp)
    have e4 := readN_el e3 (Tm.cells_len a)
    have hw : IntKind.i64.wrap ((i : Int) + 1) = ((i + 1 : Nat) : Int) := wrapN (by omega) (by omega)
    cases hs : shapeB a
    · simp [loop_step, Try.f107, h1, h3, hlen, hrow, hi, e2, e4, hA, hw, hs, shapeAll]
    · simp [loop_step, Try.f107, h1, h3, hlen, hrow, hi, e2, e4, hA, hw, hs, shapeAll]
      refine ihr (i + 1) n _ hd' (by simp at hn; omega) ?_ ?_ ?_ <;> simp [hlen, h1]

theorem t107 : ∀ (t0 : Tm) (k : Nat) (S : Store), t0.w ≤ k → t0.ok → callN E k 107 [.agg t0.cells] S = some (.bool (shapeB t0), S)
  | .mk v fn kk args, k, S, hk, hb => by
    obtain ⟨k, rfl⟩ : ∃ k', k = k' + 1 := ⟨k - 1, by simp only [Tm.w] at hk; omega⟩
    simp only [Tm.w] at hk
    obtain ⟨hb, hbL⟩ := hb
    have ih : ∀ a ∈ args, ∀ S, callN E k 107 [.agg a.cells] S = some (.bool (shapeB a), S) := fun a ha S => by
      have := w_mem ha
      exact t107 a k S (by omega) (okL_mem hbL a ha)
    have hlen := wL_len args
    rw [run_fn (by decide) Try.func107 rfl]
    cases h0 : strEq fn { data := #[] }
    · by_cases hg : v = 0 ∧ fn.size ≤ 64 ∧ args.length ≤ 16
      · obtain ⟨rfl, g2, g3⟩ := hg
        have g2' : (fn.size : Int) ≤ 64 := by omega
        have g3' : (args.length : Int) ≤ 16 := by omega
        have g2n : ¬ (64 : Int) < fn.size := by omega
        have g3n : ¬ (16 : Int) < args.length := by omega
        simp [Try.f107, keepl, Tm.cells, h0, g2', g3', g2n, g3n, shapeB, g2, g3]
        have L := fun t => loop107 0 fn kk args S.length k (k + 1) (S ++ [.cells [.int .i64 0, .str fn, slA kk (cellsL args)] 24]) (fun a ha => ih a ha _) (by simp [Tm.cells]) (by omega) args 0 (k + 1) t rfl (by omega)
        simp only [lp, loops, Try.f107, List.nil_append, List.append_nil, List.getD_cons_zero] at L
        generalize hr : loopC T (callN E k) _ (k + 1) _ (k + 1) _ _ = r
        obtain ⟨e, t', S', rfl, h, g1, rfl⟩ := Out.at hr (L _ (by rfl) (by rfl) (by rfl))
        rcases h with ⟨rfl, h⟩ | ⟨rfl, h, h2⟩
        · simp [h, g1]
        · simp [h, g1, h2]
      · by_cases g1 : v = 0
        · subst g1
          by_cases g2 : fn.size ≤ 64
          · have g3 : ¬ args.length ≤ 16 := fun h => hg ⟨rfl, g2, h⟩
            have g2' : (fn.size : Int) ≤ 64 := by omega
            have g2n : ¬ (64 : Int) < fn.size := by omega
            have g3n : ¬ (args.length : Int) ≤ 16 := by omega
            have g3' : (16 : Int) < args.length := by omega
            simp [Try.f107, keepl, Tm.cells, h0, g2', g3', g2n, g3n, shapeB, g2, g3]
          · have g2n : ¬ (fn.size : Int) ≤ 64 := by omega
            have g2' : (64 : Int) < fn.size := by omega
            simp [Try.f107, keepl, Tm.cells, h0, g2', g2n, shapeB, g2]
        · simp [Try.f107, keepl, Tm.cells, h0, shapeB, g1]
    · simp [Try.f107, keepl, Tm.cells, h0, shapeB]
      repeat' (split <;> simp [*])
termination_by t0 => t0.w
decreasing_by simp only [Tm.w]; omega

/-- What Right tells. -/
def rightW (t : Tm) : Int := if shapeB t = false then 1 else if 60 < depthW t then 22 else if 4000 < sizeW t then 3 else 0

theorem t47 (t : Tm) (k : Nat) (S : Store) (hk : t.w ≤ k) (hb : t.ok) : callN E (k + 1) 47 [.agg t.cells] S = some (.int .i64 (rightW t), S) := by
  rw [run_fn (by decide) Try.func47 rfl]
  have h1 := fun S => t107 t k S hk hb
  have h2 := fun S => t108 t k S hk hb
  have h3 := fun S => t22 t k S hk hb
  have h4 : ∀ S l, rowCells S l = some t.cells → readN S 3 (.ptr l 0) = some t.cells := fun S l h => by
    simp [h, List.take_of_length_le]
  cases hs : shapeB t
  · simp [Try.f47, keepl, h1, h2, h3, h4, hs, rightW]
  · by_cases g1 : 60 < depthW t
    · simp [Try.f47, keepl, h1, h2, h3, h4, hs, rightW, g1]
    · by_cases g2 : 4000 < sizeW t
      · simp [Try.f47, keepl, h1, h2, h3, h4, hs, rightW, g1, g2]
      · simp [Try.f47, keepl, h1, h2, h3, h4, hs, rightW, g1, g2]

end Go.Ev.Z
