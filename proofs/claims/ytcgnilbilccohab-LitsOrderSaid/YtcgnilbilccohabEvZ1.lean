/- Terms that come in. -/
import Derived.Test.YtcgnilbilccohabEvW
import Derived.Test.YtcgnilbilccohabEvU
import Derived.SizedLaws
namespace Go.Ev.Z
open Go Go.Ev Go.Proofs
set_option linter.unusedSimpArgs false
set_option linter.unusedVariables false
set_option maxRecDepth 20000

theorem all_append {l m : List Nat} {b : Nat} (h : (l ++ m).all (· ≤ b) = true) : l.all (· ≤ b) = true ∧ m.all (· ≤ b) = true := by
  rw [List.all_append, Bool.and_eq_true] at h
  exact h

theorem bytesOf24 : Try.prog.bytesOf 24 = 48 := by kernel_rfl

mutual
/-- A datum of the terms' type is a term. -/
theorem tm_of {H : Type} : ∀ (d : DataW H), hasT Try.prog d 24 → (d.weights Try.prog 24).all (· ≤ reachBytes) = true → ∃ t : Tm, avs d = t.cells ∧ t.ok
  | .agg ps, h, hw => by
    obtain ⟨fs, hu, hf⟩ := h
    rw [Try.underlying24] at hu
    simp only [Option.some.injEq, TypeDesc.struct.injEq] at hu
    subst hu
    match ps, hf, hw with
    | [d1, d2, d3], hf, hw =>
      obtain ⟨h1, h2, h3, _⟩ := hf
      have hw3 : (d3.weights Try.prog 22).all (· ≤ reachBytes) = true := by
        simp only [DataW.weights, Try.underlying24, List.map_cons, List.map_nil, DataW.weightsEach] at hw
        exact (all_append (all_append (all_append hw).2).2).1
      have e1 : ∃ n : Int, avs d1 = [.int .i64 n] := by
        match d1, h1 with
        | .lit (.int k n), h1 =>
          have := h1.1
          rw [show Try.prog.underlying 3 = some (.int .i64) from Try.underlying3] at this
          simp only [Option.some.injEq, TypeDesc.int.injEq] at this
          subst this
          exact ⟨n, rfl⟩
        | .lit (.bool b), h1 => have h1 : Try.prog.underlying 3 = _ := h1; rw [Try.underlying3] at h1; cases h1
        | .lit (.string s), h1 => have h1 : Try.prog.underlying 3 = _ := h1; rw [Try.underlying3] at h1; cases h1
        | .nil, h1 => obtain ⟨e, h1⟩ := h1; rw [show Try.prog.underlying 3 = some (.int .i64) from Try.underlying3] at h1; cases h1
        | .slice _ _, h1 => obtain ⟨e, h1, _⟩ := h1; rw [show Try.prog.underlying 3 = some (.int .i64) from Try.underlying3] at h1; cases h1
        | .agg _, h1 => obtain ⟨e, h1, _⟩ := h1; rw [show Try.prog.underlying 3 = some (.int .i64) from Try.underlying3] at h1; cases h1
      have e2 : ∃ s : ByteArray, avs d2 = [.str s] := by
        match d2, h2 with
        | .lit (.string s), h2 => exact ⟨_, rfl⟩
        | .lit (.bool b), h1 => have h1 : Try.prog.underlying 9 = _ := h1; rw [Try.underlying9] at h1; cases h1
        | .lit (.int k n), h1 => have h1 : Try.prog.underlying 9 = _ := h1.1; rw [Try.underlying9] at h1; cases h1
        | .nil, h1 => obtain ⟨e, h1⟩ := h1; rw [show Try.prog.underlying 9 = some .string from Try.underlying9] at h1; cases h1
        | .slice _ _, h1 => obtain ⟨e, h1, _⟩ := h1; rw [show Try.prog.underlying 9 = some .string from Try.underlying9] at h1; cases h1
        | .agg _, h1 => obtain ⟨e, h1, _⟩ := h1; rw [show Try.prog.underlying 9 = some .string from Try.underlying9] at h1; cases h1
      obtain ⟨n, e1⟩ := e1
      obtain ⟨s, e2⟩ := e2
      match d3, h3, hw3 with
      | .nil, _, _ => exact ⟨.mk n s none [], by simp [avs, avsF, e1, e2, Tm.cells, slA, cellsL], by simp [Tm.ok, okL]⟩
      | .slice es sp, h3, hw3 =>
        obtain ⟨e, hu, hl⟩ := h3
        rw [show Try.prog.underlying 22 = some (.slice 24) from Try.underlying22] at hu
        simp only [Option.some.injEq, TypeDesc.slice.injEq] at hu
        subst hu
        simp only [DataW.weights, Try.underlying22, List.all_cons, Bool.and_eq_true, decide_eq_true_eq, bytesOf24] at hw3
        obtain ⟨ts, g1, g2⟩ := tms_of es hl (all_append hw3.2).1
        have hlen : ts.length = es.length := by
          have := congrArg List.length g1
          rw [avsLL_len, cellsL_len] at this
          exact this.symm
        refine ⟨.mk n s (some false) ts, by simp [avs, avsF, e1, e2, Tm.cells, slA, g1], ?_, g2⟩
        have h0 := hw3.1
        unfold reachBytes at h0
        omega
      | .lit (.bool b), h1, _ => have h1 : Try.prog.underlying 22 = _ := h1; rw [Try.underlying22] at h1; cases h1
      | .lit (.int k n), h1, _ => have h1 : Try.prog.underlying 22 = _ := h1.1; rw [Try.underlying22] at h1; cases h1
      | .lit (.string s), h1, _ => have h1 : Try.prog.underlying 22 = _ := h1; rw [Try.underlying22] at h1; cases h1
      | .agg _, h1, _ => obtain ⟨e, h1, _⟩ := h1; rw [show Try.prog.underlying 22 = some (.slice 24) from Try.underlying22] at h1; cases h1
  | .lit (.bool b), h1, _ => by have h1 : Try.prog.underlying 24 = _ := h1; rw [Try.underlying24] at h1; cases h1
  | .lit (.int k n), h1, _ => by have h1 : Try.prog.underlying 24 = _ := h1.1; rw [Try.underlying24] at h1; cases h1
  | .lit (.string s), h1, _ => by have h1 : Try.prog.underlying 24 = _ := h1; rw [Try.underlying24] at h1; cases h1
  | .nil, h1, _ => by obtain ⟨e, h1⟩ := h1; rw [Try.underlying24] at h1; cases h1
  | .slice _ _, h1, _ => by obtain ⟨e, h1, _⟩ := h1; rw [Try.underlying24] at h1; cases h1
theorem tms_of {H : Type} : ∀ (ds : List (DataW H)), hasTL Try.prog ds 24 → (DataW.weightsAll Try.prog 24 ds).all (· ≤ reachBytes) = true → ∃ ts : List Tm, avsLL ds = cellsL ts ∧ okL ts
  | [], _, _ => ⟨[], rfl, trivial⟩
  | d :: ds, h, hw => by
    simp only [DataW.weightsAll] at hw
    obtain ⟨w1, w2⟩ := all_append hw
    obtain ⟨t, g1, g2⟩ := tm_of d h.1 w1
    obtain ⟨ts, g3, g4⟩ := tms_of ds h.2 w2
    exact ⟨t :: ts, by simp [avsLL, cellsL, g1, g3], g2, g4⟩
end

theorem int_of {H : Type} {d : DataW H} (h : hasT Try.prog d 3) : ∃ n : Int, avs d = [.int .i64 n] := by
  match d, h with
  | .lit (.int k n), h1 =>
    have := h1.1
    rw [show Try.prog.underlying 3 = some (.int .i64) from Try.underlying3] at this
    simp only [Option.some.injEq, TypeDesc.int.injEq] at this
    subst this
    exact ⟨n, rfl⟩
  | .lit (.bool b), h1 => have h1 : Try.prog.underlying 3 = _ := h1; rw [Try.underlying3] at h1; cases h1
  | .lit (.string s), h1 => have h1 : Try.prog.underlying 3 = _ := h1; rw [Try.underlying3] at h1; cases h1
  | .nil, h1 => obtain ⟨e, h1⟩ := h1; rw [show Try.prog.underlying 3 = some (.int .i64) from Try.underlying3] at h1; cases h1
  | .slice _ _, h1 => obtain ⟨e, h1, _⟩ := h1; rw [show Try.prog.underlying 3 = some (.int .i64) from Try.underlying3] at h1; cases h1
  | .agg _, h1 => obtain ⟨e, h1, _⟩ := h1; rw [show Try.prog.underlying 3 = some (.int .i64) from Try.underlying3] at h1; cases h1

theorem str_of {H : Type} {d : DataW H} (h : hasT Try.prog d 9) : ∃ s : ByteArray, avs d = [.str s] := by
  match d, h with
  | .lit (.string s), h2 => exact ⟨_, rfl⟩
  | .lit (.bool b), h1 => have h1 : Try.prog.underlying 9 = _ := h1; rw [Try.underlying9] at h1; cases h1
  | .lit (.int k n), h1 => have h1 : Try.prog.underlying 9 = _ := h1.1; rw [Try.underlying9] at h1; cases h1
  | .nil, h1 => obtain ⟨e, h1⟩ := h1; rw [show Try.prog.underlying 9 = some .string from Try.underlying9] at h1; cases h1
  | .slice _ _, h1 => obtain ⟨e, h1, _⟩ := h1; rw [show Try.prog.underlying 9 = some .string from Try.underlying9] at h1; cases h1
  | .agg _, h1 => obtain ⟨e, h1, _⟩ := h1; rw [show Try.prog.underlying 9 = some .string from Try.underlying9] at h1; cases h1

end Go.Ev.Z
