/- The evaluator Ev, part S: functions without parameters that were run once, in nobody's memory, tell the same everywhere. -/
import Derived.Test.YtcgnilbilccohabEvV
namespace Go.Ev
open Go
set_option linter.unusedSimpArgs false
set_option linter.unusedVariables false

/-- A function without parameters that tells a bool. -/
def closedB (b : Bool) (args : List AV) (S : Store) : Option (AV × Store) := match args with
  | [] => some (.bool b, S)
  | _ => none

/-- What comes of a closed call: which bool. -/
def boolR (r : Option (AV × Store)) : Option Bool := match r with
  | some (.bool b, _) => some b
  | _ => none

theorem boolR_some {r : Option (AV × Store)} {b : Bool} (h : boolR r = some b) : ∃ S, r = some (.bool b, S) := by
  unfold boolR at h
  split at h
  · rename_i b' S
    simp only [Option.some.injEq] at h
    subst h
    exact ⟨S, rfl⟩
  · cases h

theorem closed_sound {P : Program} {E : Env} (hE : EnvOK P E) {k f : Nat} {b : Bool} (h : boolR (callN E k f [] []) = some b) : CallSound P f (closedB b) := by
  intro args S v S' ρ W vs hc hr hv
  unfold closedB at hc
  split at hc
  case h_2 => cases hc
  simp only [Option.some.injEq, Prod.mk.injEq] at hc
  obtain ⟨rfl, rfl⟩ := hc
  obtain rfl : vs = [] := List.eq_nil_of_length_eq_zero hv.1.symm
  obtain ⟨S2, h2⟩ := boolR_some h
  refine ((callN_sound hE k).1 f [] [] _ S2 rho0 W [] h2 (rel0 W) (RVs.nil _ _ _)).mono ?_
  rintro e W' ⟨x, ρ', rfl, g1, g2, g3⟩
  cases g1
  have hst : Still W W' := ⟨g3.os, g3.tape, g3.output, g3.size, fun b hb => g3.frame b hb (mut0 b)⟩
  exact ⟨.bool b, ρ, rfl, .bool b, hst.rel hr, hst.ext _ _ _⟩

theorem callN_run {E : Env} {k f : Nat} {fn : Func} (h1 : E.hand (callN E k) f = none) (h2 : E.fns f = some fn) (h3 : E.alts f = fun _ => []) (args : List AV) (S : Store) :
    callN E (k + 1) f args S = (evFun E.T (callN E k) (drawF E.T (callN E k) f none (E.plans f)) (k + 1) fn args S).bind (fin (E.mode f) S) := by
  simp [callN, h1, h2, drawX_nil h3]

theorem callN_hand {E : Env} {k f : Nat} {c : List AV → Store → Option (AV × Store)} (h1 : E.hand (callN E k) f = some c) (args : List AV) (S : Store) : callN E (k + 1) f args S = c args S := by
  simp [callN, h1]

end Go.Ev
