/- Fingerprints that come in. -/
import Derived.Test.YtcgnilbilccohaaEvZ1
import Derived.Test.YtcgnilbilccohaaEvV
import Derived.Test.YtcgnilbilccohaaEvX1
namespace Go.Ev.Z
open Go Go.Ev Go.Proofs
set_option linter.unusedVariables false
set_option linter.unusedSimpArgs false
set_option maxRecDepth 20000

theorem bytesOf132 : Try.prog.bytesOf 132 = 32 := by kernel_rfl

theorem int_of {H : Type} {d : DataW H} (h : hasT Try.prog d 3) : ∃ n : Int, avs d = [.int .i64 n] := by
  match d, h with
  | .lit (.int k n), h1 =>
    have := h1.1
    rw [show Try.prog.underlying 3 = some (.int .i64) from Try.underlying3] at this
    simp only [Option.some.injEq, TypeDesc.int.injEq] at this
    subst this
    exact ⟨n, rfl⟩
  | .lit (.bool b), h1 => have h1 : Try.prog.underlying 3 = _ := h1; rw [Try.underlying3] at h1; cases h1
  | .lit (.string s), h1 => have h1 : Try.prog.underlying 3 = _ := h1; rw [Try.underlying3] at h1; cases h1
  | .nil, h1 => obtain ⟨e, h1⟩ := h1; rw [show Try.prog.underlying 3 = some (.int .i64) from Try.underlying3] at h1; cases h1
  | .slice _ _, h1 => obtain ⟨e, h1, _⟩ := h1; rw [show Try.prog.underlying 3 = some (.int .i64) from Try.underlying3] at h1; cases h1
  | .agg _, h1 => obtain ⟨e, h1, _⟩ := h1; rw [show Try.prog.underlying 3 = some (.int .i64) from Try.underlying3] at h1; cases h1

theorem str_of {H : Type} {d : DataW H} (h : hasT Try.prog d 9) : ∃ s : ByteArray, avs d = [.str s] := by
  match d, h with
  | .lit (.string s), h2 => exact ⟨_, rfl⟩
  | .lit (.bool b), h1 => have h1 : Try.prog.underlying 9 = _ := h1; rw [Try.underlying9] at h1; cases h1
  | .lit (.int k n), h1 => have h1 : Try.prog.underlying 9 = _ := h1.1; rw [Try.underlying9] at h1; cases h1
  | .nil, h1 => obtain ⟨e, h1⟩ := h1; rw [show Try.prog.underlying 9 = some .string from Try.underlying9] at h1; cases h1
  | .slice _ _, h1 => obtain ⟨e, h1, _⟩ := h1; rw [show Try.prog.underlying 9 = some .string from Try.underlying9] at h1; cases h1
  | .agg _, h1 => obtain ⟨e, h1, _⟩ := h1; rw [show Try.prog.underlying 9 = some .string from Try.underlying9] at h1; cases h1

theorem ft_of {H : Type} {d : DataW H} (h : hasT Try.prog d 132) : ∃ f : Ft, avs d = f.cells := by
  match d, h with
  | .agg ps, h =>
    obtain ⟨fs, hu, hf⟩ := h
    rw [Try.underlying132] at hu
    simp only [Option.some.injEq, TypeDesc.struct.injEq] at hu
    subst hu
    match ps, hf with
    | [d1, d2, d3], hf =>
      obtain ⟨h1, h2, h3, _⟩ := hf
      obtain ⟨a, e1⟩ := int_of h1
      obtain ⟨b, e2⟩ := int_of h2
      obtain ⟨c, e3⟩ := str_of h3
      exact ⟨⟨a, b, c⟩, by simp [avs, avsF, e1, e2, e3, Ft.cells]⟩
  | .lit (.bool b), h1 => have h1 : Try.prog.underlying 132 = _ := h1; rw [Try.underlying132] at h1; cases h1
  | .lit (.int k n), h1 => have h1 : Try.prog.underlying 132 = _ := h1.1; rw [Try.underlying132] at h1; cases h1
  | .lit (.string s), h1 => have h1 : Try.prog.underlying 132 = _ := h1; rw [Try.underlying132] at h1; cases h1
  | .nil, h1 => obtain ⟨e, h1⟩ := h1; rw [Try.underlying132] at h1; cases h1
  | .slice _ _, h1 => obtain ⟨e, h1, _⟩ := h1; rw [Try.underlying132] at h1; cases h1

theorem fts_all {H : Type} : ∀ {ds : List (DataW H)}, hasTL Try.prog ds 132 → ∃ fs : List Ft, avsLL ds = fs.map Ft.cells
  | [], _ => ⟨[], rfl⟩
  | d :: ds, h => by
    obtain ⟨f, e⟩ := ft_of h.1
    obtain ⟨fs, es⟩ := fts_all h.2
    exact ⟨f :: fs, by simp [avsLL, e, es]⟩

theorem fts_of {H : Type} {d : DataW H} (h : hasT Try.prog d 65) (hw : (d.weights Try.prog 65).all (· ≤ reachBytes) = true) : ∃ (k : Option Bool) (fs : List Ft), av1 d = slA k (fs.map Ft.cells) ∧ fs.length * 32 ≤ room := by
  match d, h with
  | .nil, _ => exact ⟨none, [], rfl, by simp⟩
  | .slice es sp, h =>
    obtain ⟨e, hu, hl⟩ := h
    rw [show Try.prog.underlying 65 = some (.slice 132) from Try.underlying65] at hu
    simp only [Option.some.injEq, TypeDesc.slice.injEq] at hu
    subst hu
    obtain ⟨fs, e1⟩ := fts_all hl
    simp only [DataW.weights, Try.underlying65, List.all_cons, Bool.and_eq_true, decide_eq_true_eq, bytesOf132] at hw
    have hlen : fs.length = es.length := by
      have := congrArg List.length e1
      rw [avsLL_len, List.length_map] at this
      exact this.symm
    refine ⟨some false, fs, by simp [av1, avs, slA, e1], ?_⟩
    have h0 := hw.1
    unfold reachBytes at h0
    unfold room
    omega
  | .lit (.bool b), h1 => have h1 : Try.prog.underlying 65 = _ := h1; rw [Try.underlying65] at h1; cases h1
  | .lit (.int k n), h1 => have h1 : Try.prog.underlying 65 = _ := h1.1; rw [Try.underlying65] at h1; cases h1
  | .lit (.string s), h1 => have h1 : Try.prog.underlying 65 = _ := h1; rw [Try.underlying65] at h1; cases h1
  | .agg _, h1 => obtain ⟨e, h1, _⟩ := h1; rw [Try.underlying65] at h1; cases h1

end Go.Ev.Z
