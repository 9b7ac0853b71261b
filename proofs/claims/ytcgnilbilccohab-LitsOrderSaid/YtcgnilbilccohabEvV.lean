/- The evaluator Ev, part V: a law's call, from what comes in to what its row asks. -/
import Derived.Test.YtcgnilbilccohabEvU
import Derived.Below
import Derived.WideShapes
namespace Go.Ev
open Go
set_option linter.unusedSimpArgs false
set_option linter.unusedVariables false

/-- Nothing is owned yet. -/
def rho0 : Rho := fun _ => none

theorem mut0 (b : Nat) : ¬ Mut rho0 [] b := by
  rintro ⟨l, base, r, h, _⟩
  simp at h

theorem rel0 (W : World) : Rel W rho0 [] :=
  ⟨fun l b base h => (by cases h), fun l r b base h => (by simp at h), fun l l' r r' b base base' h => (by simp at h)⟩

/-- The law tells true; of what was there nothing has turned. -/
theorem law_calls {P : Program} {E : Env} (hE : EnvOK P E) {k f : Nat} {args : List AV} {S' : Store} (h : callN E k f args [] = some (.bool true, S')) {W : World} {vs : List Value} (hv : RVs W rho0 (Mut rho0 []) args vs) :
    Calls P f vs.toArray W fun e W' => e = .returned (.bool true) ∧ RowKit.Below W.heap.size W W' := by
  refine ((callN_sound hE k).1 f args [] _ S' rho0 W vs h (rel0 W) hv).mono ?_
  rintro e W' ⟨x, ρ', rfl, g1, g2, g3⟩
  cases g1
  exact ⟨rfl, g3.os, g3.tape, g3.output, g3.size, fun b hb => g3.frame b hb (mut0 b)⟩

section
variable {H : Type} {enc : TypeId × Value → H} {P : Program} {W : World}

/-- A datum of one cell. -/
def av1 (d : DataW H) : AV := (avs d).headD .junk

theorem arg_one {C : List Nat} (hC : openOK P C = true) {t : Nat} (ht : t ∈ C) (h1 : P.cellsOf t = 1) {v : Value} {d : DataW H} {ps : List MemPlace} (hd : DataW.Trod enc P W 0 (fun _ => true) true t v d ps) (hv : v.cells = #[v]) :
    RV W rho0 (Mut rho0 []) (av1 d) v := by
  obtain ⟨fuel, hf⟩ := hd
  obtain ⟨g1, _⟩ := open_sound (ρ := rho0) hC mut0 fuel t _ _ ht hf
  simp only [hv] at g1
  have hl := g1.1
  cases ha : avs d with
  | nil => simp [ha] at hl
  | cons a l =>
    have := g1.2 0 a v (by simp [ha]) rfl
    simpa [av1, ha] using this

theorem cells_int {r : _root_.Go.Reach} {base t : Nat} {v : Value} {k : IntKind} (hu : P.underlying t = some (.int k)) (hv : Value.okWide P W r base t v) : v.cells = #[v] := by
  obtain ⟨n, rfl⟩ := WideShapes.okWide_int hu hv
  rfl

theorem cells_bool {r : _root_.Go.Reach} {base t : Nat} {v : Value} (hu : P.underlying t = some .bool) (hv : Value.okWide P W r base t v) : v.cells = #[v] := by
  obtain ⟨n, rfl⟩ := WideShapes.okWide_bool hu hv
  rfl

theorem arg_agg {C : List Nat} (hC : openOK P C = true) {t : Nat} (ht : t ∈ C) {fs : Array Field} (hu : P.underlying t = some (.struct fs)) {r : _root_.Go.Reach} {base : Nat} {v : Value} {d : DataW H} {ps : List MemPlace} (hd : DataW.Trod enc P W 0 (fun _ => true) true t v d ps) (hv : Value.okWide P W r base t v) :
    RV W rho0 (Mut rho0 []) (.agg (avs d)) v := by
  obtain ⟨fuel, hf⟩ := hd
  simp only [Value.okWide, hu] at hv
  obtain ⟨cs, rfl, _⟩ := hv
  obtain ⟨g1, _⟩ := open_sound (ρ := rho0) hC mut0 fuel t _ _ ht hf
  obtain ⟨l⟩ := cs
  exact RV.agg g1.1 g1.2

theorem arg_slice {C : List Nat} (hC : openOK P C = true) {t : Nat} (ht : t ∈ C) {e : Nat} (hu : P.underlying t = some (.slice e)) {r : _root_.Go.Reach} {base : Nat} {v : Value} {d : DataW H} {ps : List MemPlace} (hd : DataW.Trod enc P W 0 (fun _ => true) true t v d ps) (hv : Value.okWide P W r base t v) :
    RV W rho0 (Mut rho0 []) (av1 d) v := by
  have h1 : P.cellsOf t = 1 := by
    have := List.all_eq_true.1 hC t ht
    rw [hu] at this
    simp at this
    exact this.1.2
  obtain ⟨a, len, cap, rfl⟩ := WideShapes.okWide_slice hu hv
  exact arg_one hC ht h1 hd rfl

end
end Go.Ev
