/- The law LitsOrder tells true, whatever the input. -/
import Derived.Test.YtcgnilbilccohabRows
import Derived.Test.YtcgnilbilccohabEvV
import Derived.Test.YtcgnilbilccohabEvZ3
import Derived.Test.YtcgnilbilccohabEvLi
import Derived.WalkKit
import Derived.ProofKit
import Derived.OpenShut
import Derived.ShutString
import Derived.ChangeOld
import Derived.Below
import Derived.SizedLaws
import Derived.Carry
namespace Go.Proofs.Ytcgnilbilccohab.litsOrder
open Go.ChangeShapes Go.WideShapes Go.ChangeAt Go.RowKit
open Go Go.Proofs
set_option linter.unusedVariables false
set_option linter.unusedSimpArgs false
set_option maxRecDepth 1000000

theorem own : ownKnob Try.prog.godebug = none := by kernel_rfl
theorem laidOut : laidOutB Try.prog = true := by kernel_rfl

def types : List Nat := [54, 24, 3, 9, 22, 4]
theorem types_ok : Ev.openOK Try.prog types = true := by kernel_rfl

theorem law {H : Type} {d0 d1 d2 : DataW H} (h0 : Ev.hasT Try.prog d0 54) (h1 : Ev.hasT Try.prog d1 54) (h2 : Ev.hasT Try.prog d2 54)
    (hsz : (DataW.weightsEach Try.prog [54, 54, 54] [d0, d1, d2]).all (· ≤ reachBytes) = true) : ∃ k S', Ev.callN Ev.Z.E k 8 [.agg (Ev.avs d0), .agg (Ev.avs d1), .agg (Ev.avs d2)] [] = some (.bool true, S') := by
  simp only [DataW.weightsEach] at hsz
  obtain ⟨z0, hsz⟩ := Ev.Z.all_append hsz
  obtain ⟨z1, hsz⟩ := Ev.Z.all_append hsz
  obtain ⟨z2, _⟩ := Ev.Z.all_append hsz
  obtain ⟨a, e0, o0⟩ := Ev.Z.li_of d0 h0 z0
  obtain ⟨b, e1, o1⟩ := Ev.Z.li_of d1 h1 z1
  obtain ⟨c, e2, o2⟩ := Ev.Z.li_of d2 h2 z2
  rw [e0, e1, e2]
  exact ⟨a.w + b.w + c.w + 7, [], Ev.Z.law8 a b c (a.w + b.w + c.w + 6) o0 o1 o2 (Nat.le_refl _) []⟩

set_option maxRecDepth 1000000 in
theorem lifted (os : Os) (started : os.Started) (H : Type) (enc : TypeId × Value → H) :
    ReturnsInHanded {} Try.checked os 8 .any (Rows.litsOrderSpec.pre6 enc Try.prog Try.f8 Rows.litsOrderRow.domain false) (Rows.litsOrderSpec.post enc Try.prog Try.f8 false true false false) := by
  refine returnsInHanded_of_change_sized (C := Try.checked) own started (by kernel_rfl) Try.func8
    (ChangeSpec.witness6 (enc := enc) (C := Try.checked) false ⟨#[], #[.agg #[.bool false, .int .i64 0, .string .empty, .slice none 0 0, .int .i64 0, .string .empty, .slice none 0 0], .agg #[.bool false, .int .i64 0, .string .empty, .slice none 0 0, .int .i64 0, .string .empty, .slice none 0 0], .agg #[.bool false, .int .i64 0, .string .empty, .slice none 0 0, .int .i64 0, .string .empty, .slice none 0 0]], []⟩ 8 (by kernel_rfl) (by kernel_rfl) (by kernel_rfl) (by kernel_rfl)) ?_
  intro W base args ds gs before hval0 hW hcnd hsz0 _
  have hval : ∀ (j : Nat) t v, Try.f8.params[j]? = some t → args[j]? = some v → Value.okWide Try.prog W .any base t v := hval0
  have hW' := hW
  obtain ⟨p, q, hA0, hV, rfl, hfz, hnd⟩ := hW
  have hA : DataW.TrodAll enc Try.prog W 0 (fun _ => true) true Try.f8.params.toList args.toList ds p := hA0
  rw [Try.params8] at hA hval
  obtain ⟨v0, vs0, d0, ds0, p0, q0, hargs, rfl, rfl, h0, r0⟩ := trodAll_cons hA
  obtain ⟨v1, vs1, d1, ds1, p1, q1, rfl, rfl, rfl, h1, r1⟩ := trodAll_cons r0
  obtain ⟨v2, vs2, d2, ds2, p2, q2, rfl, rfl, rfl, h2, r2⟩ := trodAll_cons r1
  obtain ⟨rfl, rfl, rfl⟩ := trodAll_nil r2
  obtain rfl : args = #[v0, v1, v2] := by cases args; simp_all
  obtain ⟨rfl, rfl⟩ := trodVars_none hV
  have hsz : (DataW.weightsEach Try.prog [54, 54, 54] [d0, d1, d2]).all (· ≤ reachBytes) = true := hsz0
  have lt0 : ∀ x ∈ p0, x.block < W.heap.size := by obtain ⟨m, hm⟩ := h0; exact DataW.trod_lt m _ _ _ hm
  have lt1 : ∀ x ∈ p1, x.block < W.heap.size := by obtain ⟨m, hm⟩ := h1; exact DataW.trod_lt m _ _ _ hm
  have lt2 : ∀ x ∈ p2, x.block < W.heap.size := by obtain ⟨m, hm⟩ := h2; exact DataW.trod_lt m _ _ _ hm
  have w0 : Ev.RV W Ev.rho0 (Ev.Mut Ev.rho0 []) (.agg (Ev.avs d0)) v0 := Ev.arg_agg types_ok (by decide) Try.underlying54 h0 (hval 0 54 v0 rfl rfl)
  have w1 : Ev.RV W Ev.rho0 (Ev.Mut Ev.rho0 []) (.agg (Ev.avs d1)) v1 := Ev.arg_agg types_ok (by decide) Try.underlying54 h1 (hval 1 54 v1 rfl rfl)
  have w2 : Ev.RV W Ev.rho0 (Ev.Mut Ev.rho0 []) (.agg (Ev.avs d2)) v2 := Ev.arg_agg types_ok (by decide) Try.underlying54 h2 (hval 2 54 v2 rfl rfl)
  have t0 : Ev.hasT Try.prog d0 54 := by obtain ⟨m, hm⟩ := h0; exact Ev.open_typed types_ok m 54 _ _ (by decide) hm
  have t1 : Ev.hasT Try.prog d1 54 := by obtain ⟨m, hm⟩ := h1; exact Ev.open_typed types_ok m 54 _ _ (by decide) hm
  have t2 : Ev.hasT Try.prog d2 54 := by obtain ⟨m, hm⟩ := h2; exact Ev.open_typed types_ok m 54 _ _ (by decide) hm
  obtain ⟨k, S', hk⟩ := law t0 t1 t2 hsz
  refine (Ev.law_calls Ev.Z.E_ok hk (Ev.RVs.cons w0 (Ev.RVs.cons w1 (Ev.RVs.cons w2 (Ev.RVs.nil _ _ _))))).mono fun e W' ⟨he, bel⟩ => ?_
  subst he
  exact ⟨_, rfl, _, _, _, [], _, [], hW', trodAll_mk1 (shut_bool Try.underlying4 _), (trodAll_cons_mk (Below.trod laidOut (by kernel_rfl) (of_decide_eq_true (by kernel_rfl)) h0 bel lt0) (trodAll_cons_mk (Below.trod laidOut (by kernel_rfl) (of_decide_eq_true (by kernel_rfl)) h1 bel lt1) (trodAll_cons_mk (Below.trod laidOut (by kernel_rfl) (of_decide_eq_true (by kernel_rfl)) h2 bel lt2) trodAll_mk0))), rfl, bel.frame _, fun h => by cases h⟩

theorem over : Rows.litsOrderRow.holds Try.pinned (OpenSpec.ofChange Rows.litsOrderSpec) :=
  OpenClaim.holds_of_wide 8 Try.f8 rfl rfl rfl rfl rfl rfl rfl ⟨rfl, rfl, rfl, rfl, rfl⟩ rfl rfl rfl rfl rfl (by kernel_rfl) Try.func8 (by kernel_rfl)
    (of_decide_eq_true (by kernel_rfl)) (by unfold Func.isWrapper; first | (rw [if_pos (by decide +kernel)]; kernel_rfl) | (rw [if_neg (by decide +kernel)]; exact ⟨rfl, rfl⟩))
    (fun os started H enc _ => lifted os started H enc)

theorem proved : Rows.LitsOrderSaid := over
end Go.Proofs.Ytcgnilbilccohab.litsOrder
