/- Literals that come in (second seat). -/
import Derived.Test.YtcgnilbilccohabEvZ1
import Derived.Test.YtcgnilbilccohabEvLi
namespace Go.Ev.Z
open Go Go.Ev Go.Proofs
set_option linter.unusedSimpArgs false
set_option linter.unusedVariables false
set_option maxRecDepth 20000

theorem bool_of {H : Type} {d : DataW H} (h : hasT Try.prog d 4) : ∃ b : Bool, avs d = [.bool b] := by
  match d, h with
  | .lit (.bool b), _ => exact ⟨b, rfl⟩
  | .lit (.int k n), h1 => have h1 : Try.prog.underlying 4 = _ := h1.1; rw [Try.underlying4] at h1; cases h1
  | .lit (.string s), h1 => have h1 : Try.prog.underlying 4 = _ := h1; rw [Try.underlying4] at h1; cases h1
  | .nil, h1 => obtain ⟨e, h1⟩ := h1; rw [show Try.prog.underlying 4 = some .bool from Try.underlying4] at h1; cases h1
  | .slice _ _, h1 => obtain ⟨e, h1, _⟩ := h1; rw [show Try.prog.underlying 4 = some .bool from Try.underlying4] at h1; cases h1
  | .agg _, h1 => obtain ⟨e, h1, _⟩ := h1; rw [show Try.prog.underlying 4 = some .bool from Try.underlying4] at h1; cases h1

/-- A datum of the literals' type is a literal. -/
theorem li_of {H : Type} : ∀ (d : DataW H), hasT Try.prog d 54 → (d.weights Try.prog 54).all (· ≤ reachBytes) = true → ∃ x : Li, avs d = x.cells ∧ x.ok
  | .agg ps, h, hw => by
    obtain ⟨fs, hu, hf⟩ := h
    rw [Try.underlying54] at hu
    simp only [Option.some.injEq, TypeDesc.struct.injEq] at hu
    subst hu
    match ps, hf, hw with
    | [d1, d2, d3], hf, hw =>
      obtain ⟨h1, h2, h3, _⟩ := hf
      simp only [DataW.weights, Try.underlying54, List.map_cons, List.map_nil, DataW.weightsEach] at hw
      obtain ⟨b, e1⟩ := bool_of h1
      obtain ⟨l, e2, o2⟩ := tm_of d2 h2 (all_append (all_append hw).2).1
      obtain ⟨r, e3, o3⟩ := tm_of d3 h3 (all_append (all_append (all_append hw).2).2).1
      exact ⟨⟨b, l, r⟩, by simp [avs, avsF, e1, e2, e3, Li.cells], o2, o3⟩
  | .lit (.bool b), h1, _ => by have h1 : Try.prog.underlying 54 = _ := h1; rw [Try.underlying54] at h1; cases h1
  | .lit (.int k n), h1, _ => by have h1 : Try.prog.underlying 54 = _ := h1.1; rw [Try.underlying54] at h1; cases h1
  | .lit (.string s), h1, _ => by have h1 : Try.prog.underlying 54 = _ := h1; rw [Try.underlying54] at h1; cases h1
  | .nil, h1, _ => by obtain ⟨e, h1⟩ := h1; rw [Try.underlying54] at h1; cases h1
  | .slice _ _, h1, _ => by obtain ⟨e, h1, _⟩ := h1; rw [Try.underlying54] at h1; cases h1

end Go.Ev.Z
