/- The first seat's environment. -/
import Derived.Test.YtcgnilbilccohabEvP
import Derived.Test.YtcgnilbilccohabEvS
import Derived.Eval
namespace Go.Ev.Z
open Go Go.Ev Go.Proofs
set_option linter.unusedSimpArgs false
set_option linter.unusedVariables false
set_option maxRecDepth 4000

def okT (f : Nat) : Bool := decide (f < 233) && (true)

theorem oks_ok : (List.range 233).all (fun f => !okT f || fnOK f) = true := by kernel_rfl

noncomputable def rfsOK (f : Nat) : Bool := match Try.prog.funcs[f]? with
  | some fn => (fn.body.map rfOK).getD true
  | none => true

theorem rfs_ok : (List.range 233).all (fun f => !okT f || rfsOK f) = true := by kernel_rfl

theorem ok_lt {f : Nat} (h : okT f = true) : f < 233 := by
  unfold okT at h
  rw [Bool.and_eq_true] at h
  exact of_decide_eq_true h.1

theorem ok_fn {f : Nat} (h : okT f = true) : fnOK f = true := by
  have h1 := List.all_eq_true.1 oks_ok f (List.mem_range.2 (ok_lt h))
  simpa only [h, Bool.not_true, Bool.false_or] using h1

theorem fnOK_fn {f : Nat} {fn : Func} (h : fnOK f = true) (hf : Try.prog.funcs[f]? = some fn) : (fn.body.map (codeOK (regOK (planOf f) (altOf f)))).getD true = true := by
  unfold fnOK at h
  rw [hf] at h
  exact h

/-- Functions that hand out or write what their caller goes on writing. -/
def keepl : List Nat := [13, 14, 51, 53, 54, 60, 69, 71, 74, 75, 77, 114, 117, 119, 120, 121, 128, 129, 133, 134, 135, 137, 139, 140, 143, 145, 147, 148, 161, 163, 164, 165, 166, 167, 168, 171, 177, 178, 179, 185, 186, 187, 188, 189, 190, 191, 192, 193, 194, 198, 199, 200, 201, 202, 203, 205, 206, 207, 208, 209, 210, 211, 212, 213, 214, 217, 218, 220, 221, 222, 223, 224, 225, 226, 227, 228, 229, 230, 231, 232]

noncomputable def E0 : Env where
  T := T
  fns f := if okT f then Try.prog.funcs[f]? else none
  mode f := !(keepl.contains f)
  plans := planOf
  alts := altOf
  hand _ _ := none

theorem E0_ok : EnvOK Try.prog E0 where
  mixed := Try.checked.mixed
  tab := T_ok
  fns f fn h := by
    simp only [E0] at h
    split at h
    · rename_i hf
      exact ⟨h, fnOK_fn (ok_fn hf) h⟩
    · cases h
  codes f fn c h hb := by
    simp only [E0] at h
    split at h
    · rename_i hf
      have h1 := List.all_eq_true.1 rfs_ok f (List.mem_range.2 (ok_lt hf))
      simp only [hf, Bool.not_true, Bool.false_or] at h1
      unfold rfsOK at h1
      rw [h] at h1
      replace h1 : (fn.body.map rfOK).getD true = true := h1
      rw [hb] at h1
      exact ⟨h1, fun ps => by unfold codesOf; rw [h]; dsimp only; rw [hb]⟩
    · cases h
  hand call _ f c h := by simp [E0] at h

theorem alive19 : boolR (callN E0 40 19 [] []) = some true := by kernel_rfl
theorem alive29 : boolR (callN E0 40 29 [] []) = some true := by kernel_rfl

/-- Functions by hand. -/
noncomputable def handZ (f : Nat) : Option (List AV → Store → Option (AV × Store)) :=
  if f = 19 ∨ f = 29 then some (closedB true) else none

noncomputable def E : Env := { E0 with hand := fun _ f => handZ f }

theorem E_ok : EnvOK Try.prog E where
  mixed := E0_ok.mixed
  tab := E0_ok.tab
  fns := E0_ok.fns
  codes := E0_ok.codes
  hand call _ f c h := by
    replace h : handZ f = some c := h
    unfold handZ at h
    split at h
    · rename_i hf
      simp only [Option.some.injEq] at h
      subst h
      rcases hf with rfl | rfl
      · exact closed_sound E0_ok alive19
      · exact closed_sound E0_ok alive29
    · cases h

theorem call_hand {k f : Nat} {c : List AV → Store → Option (AV × Store)} (h : handZ f = some c) (args : List AV) (S : Store) : callN E (k + 1) f args S = c args S := callN_hand (E := E) h args S

theorem run_of {k f : Nat} {fn : Func} (hok : (okT f && ((handZ f).isNone && (findP altl f).isEmpty)) = true) (hf : Try.prog.funcs[f]? = some fn) (args : List AV) (S : Store) :
    callN E (k + 1) f args S = (evFun T (callN E k) (drawF T (callN E k) f none (planOf f)) (k + 1) fn args S).bind (fin (!(keepl.contains f)) S) := by
  rw [Bool.and_eq_true, Bool.and_eq_true] at hok
  have h3 : altOf f = fun _ => [] := by
    funext id
    unfold altOf
    rw [List.isEmpty_iff.1 hok.2.2]
    rfl
  have h2 : E.fns f = some fn := by
    show (if okT f then Try.prog.funcs[f]? else none) = some fn
    rw [if_pos hok.1, hf]
  exact callN_run (E := E) (show handZ f = none from Option.isNone_iff_eq_none.1 hok.2.1) h2 h3 args S

end Go.Ev.Z
