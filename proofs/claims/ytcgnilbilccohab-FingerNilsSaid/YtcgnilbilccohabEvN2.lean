/- The law FingerNils tells true, whatever the input. -/
import Derived.Test.YtcgnilbilccohabRows
import Derived.Test.YtcgnilbilccohabEvV
import Derived.Test.YtcgnilbilccohabEvZ1
import Derived.Test.YtcgnilbilccohabEvN1
import Derived.WalkKit
import Derived.ProofKit
import Derived.OpenShut
import Derived.ShutString
import Derived.ChangeOld
import Derived.Below
import Derived.SizedLaws
import Derived.Carry
namespace Go.Proofs.Ytcgnilbilccohab.fingerNils
open Go.ChangeShapes Go.WideShapes Go.ChangeAt Go.RowKit
open Go Go.Proofs
set_option linter.unusedVariables false
set_option linter.unusedSimpArgs false
set_option maxRecDepth 1000000

theorem own : ownKnob Try.prog.godebug = none := by kernel_rfl
theorem laidOut : laidOutB Try.prog = true := by kernel_rfl

def types : List Nat := [24, 3, 9, 22]
theorem types_ok : Ev.openOK Try.prog types = true := by kernel_rfl

theorem law {H : Type} {d0 d1 : DataW H} (h0 : Ev.hasT Try.prog d0 3) (h1 : Ev.hasT Try.prog d1 24)
    (hsz : (DataW.weightsEach Try.prog [3, 24] [d0, d1]).all (· ≤ reachBytes) = true) : ∃ k S', Ev.callN Ev.Z.E k 3 [Ev.av1 d0, .agg (Ev.avs d1)] [] = some (.bool true, S') := by
  simp only [DataW.weightsEach] at hsz
  obtain ⟨_, hsz⟩ := Ev.Z.all_append hsz
  obtain ⟨z1, _⟩ := Ev.Z.all_append hsz
  obtain ⟨id, e0⟩ := Ev.Z.int_of h0
  obtain ⟨t, e1, o1⟩ := Ev.Z.tm_of d1 h1 z1
  rw [e1, show Ev.av1 d0 = .int .i64 id by simp [Ev.av1, e0]]
  exact ⟨3, [], Ev.Z.law3 id t 0 []⟩

set_option maxRecDepth 1000000 in
theorem lifted (os : Os) (started : os.Started) (H : Type) (enc : TypeId × Value → H) :
    ReturnsInHanded {} Try.checked os 3 .any (Rows.fingerNilsSpec.pre6 enc Try.prog Try.f3 Rows.fingerNilsRow.domain false) (Rows.fingerNilsSpec.post enc Try.prog Try.f3 false true false false) := by
  refine returnsInHanded_of_change_sized (C := Try.checked) own started (by kernel_rfl) Try.func3
    (ChangeSpec.witness6 (enc := enc) (C := Try.checked) false ⟨#[], #[.int .i64 0, .agg #[.int .i64 0, .string .empty, .slice none 0 0]], []⟩ 8 (by kernel_rfl) (by kernel_rfl) (by kernel_rfl) (by kernel_rfl)) ?_
  intro W base args ds gs before hval0 hW hcnd hsz0 _
  have hval : ∀ (j : Nat) t v, Try.f3.params[j]? = some t → args[j]? = some v → Value.okWide Try.prog W .any base t v := hval0
  have hW' := hW
  obtain ⟨p, q, hA0, hV, rfl, hfz, hnd⟩ := hW
  have hA : DataW.TrodAll enc Try.prog W 0 (fun _ => true) true Try.f3.params.toList args.toList ds p := hA0
  rw [Try.params3] at hA hval
  obtain ⟨v0, vs0, d0, ds0, p0, q0, hargs, rfl, rfl, h0, r0⟩ := trodAll_cons hA
  obtain ⟨v1, vs1, d1, ds1, p1, q1, rfl, rfl, rfl, h1, r1⟩ := trodAll_cons r0
  obtain ⟨rfl, rfl, rfl⟩ := trodAll_nil r1
  obtain rfl : args = #[v0, v1] := by cases args; simp_all
  obtain ⟨rfl, rfl⟩ := trodVars_none hV
  have hsz : (DataW.weightsEach Try.prog [3, 24] [d0, d1]).all (· ≤ reachBytes) = true := hsz0
  have lt0 : ∀ x ∈ p0, x.block < W.heap.size := by obtain ⟨m, hm⟩ := h0; exact DataW.trod_lt m _ _ _ hm
  have lt1 : ∀ x ∈ p1, x.block < W.heap.size := by obtain ⟨m, hm⟩ := h1; exact DataW.trod_lt m _ _ _ hm
  have w0 : Ev.RV W Ev.rho0 (Ev.Mut Ev.rho0 []) (Ev.av1 d0) v0 := Ev.arg_one types_ok (by decide) (by kernel_rfl) h0 (Ev.cells_int Try.underlying3 (hval 0 3 v0 rfl rfl))
  have w1 : Ev.RV W Ev.rho0 (Ev.Mut Ev.rho0 []) (.agg (Ev.avs d1)) v1 := Ev.arg_agg types_ok (by decide) Try.underlying24 h1 (hval 1 24 v1 rfl rfl)
  have t0 : Ev.hasT Try.prog d0 3 := by obtain ⟨m, hm⟩ := h0; exact Ev.open_typed types_ok m 3 _ _ (by decide) hm
  have t1 : Ev.hasT Try.prog d1 24 := by obtain ⟨m, hm⟩ := h1; exact Ev.open_typed types_ok m 24 _ _ (by decide) hm
  obtain ⟨k, S', hk⟩ := law t0 t1 hsz
  refine (Ev.law_calls Ev.Z.E_ok hk (Ev.RVs.cons w0 (Ev.RVs.cons w1 (Ev.RVs.nil _ _ _)))).mono fun e W' ⟨he, bel⟩ => ?_
  subst he
  exact ⟨_, rfl, _, _, _, [], _, [], hW', trodAll_mk1 (shut_bool Try.underlying4 _), (trodAll_cons_mk (Below.trod laidOut (by kernel_rfl) (of_decide_eq_true (by kernel_rfl)) h0 bel lt0) (trodAll_cons_mk (Below.trod laidOut (by kernel_rfl) (of_decide_eq_true (by kernel_rfl)) h1 bel lt1) trodAll_mk0)), rfl, bel.frame _, fun h => by cases h⟩

theorem over : Rows.fingerNilsRow.holds Try.pinned (OpenSpec.ofChange Rows.fingerNilsSpec) :=
  OpenClaim.holds_of_wide 3 Try.f3 rfl rfl rfl rfl rfl rfl rfl ⟨rfl, rfl, rfl, rfl, rfl⟩ rfl rfl rfl rfl rfl (by kernel_rfl) Try.func3 (by kernel_rfl)
    (of_decide_eq_true (by kernel_rfl)) (by unfold Func.isWrapper; first | (rw [if_pos (by decide +kernel)]; kernel_rfl) | (rw [if_neg (by decide +kernel)]; exact ⟨rfl, rfl⟩))
    (fun os started H enc _ => lifted os started H enc)

theorem proved : Rows.FingerNilsSaid := over
end Go.Proofs.Ytcgnilbilccohab.fingerNils
