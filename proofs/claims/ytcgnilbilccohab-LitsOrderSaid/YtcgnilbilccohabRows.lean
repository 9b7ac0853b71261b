/-
  NARROWER THAN 'FOR EVERY INPUT', by the rows' own cells (each row's printed sentence says how): FingerNils: loops · UnifyMatches: loops · LitsNormal: loops · LitsMeans: loops · LitsOrder: loops · UnifyGeneral: loops · SubstKeeps: loops · UnifyEach: loops · DiscOrder: loops.
  DERIVED. THE GIVEN ROWS OF THIS SEAT. 10 by the template 'for every input the law returns true; each argument reads behind the call as it read before'; 0 by the template 'total and deterministic' (their statements: YtcgnilbilccohabTotals.lean).
  GIVEN WITH THE SEED: the statements are not yours to turn. If you find one false, say at which input.
  Laid BY PROGRAM, IN A SANDBOX (cutbox-rows.mjs): the forced cells as the released guide's own fill.sh prints them over the translation 6737d098cf762369… (all of the seat's roots in one cut). By AI agents, Wed Nov 11 2026. No macro, syntax, notation, axiom, sorry.
-/
import Derived.Test.YtcgnilbilccohabChecked
import GoSem.Claim
import GoSem.ClaimJoined
import GoSem.ClaimMapViews
import Derived.JoinedTies
import Derived.KernelRfl
namespace Go.Proofs.Ytcgnilbilccohab
/- THE CELL 'sum', in the pinned program and in every row, IS THE sha256 OF THE DUMP (.gsa) THAT YtcgnilbilccohabProg.lean LOADS. Nothing in Lean hashes anything: it is a label: what it is worth is what the hold of that sum in a sandbox is worth. -/
noncomputable def Try.pinned : Pinned := { name := "ytcgnilbilccohab", sum := "6737d098cf762369731737256c8fa3a0d09efc6cdf3a4df7c66ca7d63398dabc", checked := Try.checked }
namespace Rows
def none {H : Type} : Left H := { results := [], args := [] }

/-- 'assizelaw10.FingerNils': WHATEVER THE INPUT: true; the input reads as it did. -/
def fingerNilsSpec : ChangeSpec := { name := "fingerNils", fn := fun _ => fun
  | [d1, d2] => { results := [.lit (.bool true)], args := [d1, d2] }
  | _ => none }
def fingerNilsRow : OpenClaim := { program := "ytcgnilbilccohab", sum := "6737d098cf762369731737256c8fa3a0d09efc6cdf3a4df7c66ca7d63398dabc", func := "assize/assizelaw10.FingerNils", spec := "fingerNils", unfollowed := true, recurses := true, loops := true, plainKeys := false, apart := false }
def FingerNilsSaid : Prop := fingerNilsRow.holds Try.pinned (OpenSpec.ofChange fingerNilsSpec)

/-- ITS FALSE NEIGHBOUR: 'it returns false'. Refute it at one input. -/
def fingerNilsWrong : ChangeSpec := { name := "fingerNils", fn := fun _ => fun
  | [d1, d2] => { results := [.lit (.bool false)], args := [d1, d2] }
  | _ => none }
def FingerNilsWrongFalsely : Prop := fingerNilsRow.holds Try.pinned (OpenSpec.ofChange fingerNilsWrong)

/-- 'assizelaw05.UnifyDoubles': WHATEVER THE INPUT: true; the input reads as it did. -/
def unifyDoublesSpec : ChangeSpec := { name := "unifyDoubles", fn := fun _ => fun
  | [d1, d2] => { results := [.lit (.bool true)], args := [d1, d2] }
  | _ => none }
def unifyDoublesRow : OpenClaim := { program := "ytcgnilbilccohab", sum := "6737d098cf762369731737256c8fa3a0d09efc6cdf3a4df7c66ca7d63398dabc", func := "assize/assizelaw05.UnifyDoubles", spec := "unifyDoubles", unfollowed := true, recurses := true, plainKeys := false, apart := false }
def UnifyDoublesSaid : Prop := unifyDoublesRow.holds Try.pinned (OpenSpec.ofChange unifyDoublesSpec)

/-- ITS FALSE NEIGHBOUR: 'it returns false'. Refute it at one input. -/
def unifyDoublesWrong : ChangeSpec := { name := "unifyDoubles", fn := fun _ => fun
  | [d1, d2] => { results := [.lit (.bool false)], args := [d1, d2] }
  | _ => none }
def UnifyDoublesWrongFalsely : Prop := unifyDoublesRow.holds Try.pinned (OpenSpec.ofChange unifyDoublesWrong)

/-- 'assizelaw05.UnifyMatches': WHATEVER THE INPUT: true; the input reads as it did. -/
def unifyMatchesSpec : ChangeSpec := { name := "unifyMatches", fn := fun _ => fun
  | [d1, d2] => { results := [.lit (.bool true)], args := [d1, d2] }
  | _ => none }
def unifyMatchesRow : OpenClaim := { program := "ytcgnilbilccohab", sum := "6737d098cf762369731737256c8fa3a0d09efc6cdf3a4df7c66ca7d63398dabc", func := "assize/assizelaw05.UnifyMatches", spec := "unifyMatches", unfollowed := true, recurses := true, loops := true, plainKeys := false, apart := false }
def UnifyMatchesSaid : Prop := unifyMatchesRow.holds Try.pinned (OpenSpec.ofChange unifyMatchesSpec)

/-- ITS FALSE NEIGHBOUR: 'it returns false'. Refute it at one input. -/
def unifyMatchesWrong : ChangeSpec := { name := "unifyMatches", fn := fun _ => fun
  | [d1, d2] => { results := [.lit (.bool false)], args := [d1, d2] }
  | _ => none }
def UnifyMatchesWrongFalsely : Prop := unifyMatchesRow.holds Try.pinned (OpenSpec.ofChange unifyMatchesWrong)

/-- 'assizelaw06.LitsNormal': WHATEVER THE INPUT: true; the input reads as it did. -/
def litsNormalSpec : ChangeSpec := { name := "litsNormal", fn := fun _ => fun
  | [d] => { results := [.lit (.bool true)], args := [d] }
  | _ => none }
def litsNormalRow : OpenClaim := { program := "ytcgnilbilccohab", sum := "6737d098cf762369731737256c8fa3a0d09efc6cdf3a4df7c66ca7d63398dabc", func := "assize/assizelaw06.LitsNormal", spec := "litsNormal", unfollowed := true, recurses := true, loops := true, plainKeys := false, apart := false }
def LitsNormalSaid : Prop := litsNormalRow.holds Try.pinned (OpenSpec.ofChange litsNormalSpec)

/-- ITS FALSE NEIGHBOUR: 'it returns false'. Refute it at one input. -/
def litsNormalWrong : ChangeSpec := { name := "litsNormal", fn := fun _ => fun
  | [d] => { results := [.lit (.bool false)], args := [d] }
  | _ => none }
def LitsNormalWrongFalsely : Prop := litsNormalRow.holds Try.pinned (OpenSpec.ofChange litsNormalWrong)

/-- 'assizelaw06.LitsMeans': WHATEVER THE INPUT: true; the input reads as it did. -/
def litsMeansSpec : ChangeSpec := { name := "litsMeans", fn := fun _ => fun
  | [d1, d2] => { results := [.lit (.bool true)], args := [d1, d2] }
  | _ => none }
def litsMeansRow : OpenClaim := { program := "ytcgnilbilccohab", sum := "6737d098cf762369731737256c8fa3a0d09efc6cdf3a4df7c66ca7d63398dabc", func := "assize/assizelaw06.LitsMeans", spec := "litsMeans", unfollowed := true, recurses := true, loops := true, plainKeys := false, apart := false }
def LitsMeansSaid : Prop := litsMeansRow.holds Try.pinned (OpenSpec.ofChange litsMeansSpec)

/-- ITS FALSE NEIGHBOUR: 'it returns false'. Refute it at one input. -/
def litsMeansWrong : ChangeSpec := { name := "litsMeans", fn := fun _ => fun
  | [d1, d2] => { results := [.lit (.bool false)], args := [d1, d2] }
  | _ => none }
def LitsMeansWrongFalsely : Prop := litsMeansRow.holds Try.pinned (OpenSpec.ofChange litsMeansWrong)

/-- 'assizelaw06.LitsOrder': WHATEVER THE INPUT: true; the input reads as it did. -/
def litsOrderSpec : ChangeSpec := { name := "litsOrder", fn := fun _ => fun
  | [d1, d2, d3] => { results := [.lit (.bool true)], args := [d1, d2, d3] }
  | _ => none }
def litsOrderRow : OpenClaim := { program := "ytcgnilbilccohab", sum := "6737d098cf762369731737256c8fa3a0d09efc6cdf3a4df7c66ca7d63398dabc", func := "assize/assizelaw06.LitsOrder", spec := "litsOrder", unfollowed := true, recurses := true, loops := true, plainKeys := false, apart := false }
def LitsOrderSaid : Prop := litsOrderRow.holds Try.pinned (OpenSpec.ofChange litsOrderSpec)

/-- ITS FALSE NEIGHBOUR: 'it returns false'. Refute it at one input. -/
def litsOrderWrong : ChangeSpec := { name := "litsOrder", fn := fun _ => fun
  | [d1, d2, d3] => { results := [.lit (.bool false)], args := [d1, d2, d3] }
  | _ => none }
def LitsOrderWrongFalsely : Prop := litsOrderRow.holds Try.pinned (OpenSpec.ofChange litsOrderWrong)

/-- 'assizelaw05.UnifyGeneral': WHATEVER THE INPUT: true; the input reads as it did. -/
def unifyGeneralSpec : ChangeSpec := { name := "unifyGeneral", fn := fun _ => fun
  | [d1, d2, d3] => { results := [.lit (.bool true)], args := [d1, d2, d3] }
  | _ => none }
def unifyGeneralRow : OpenClaim := { program := "ytcgnilbilccohab", sum := "6737d098cf762369731737256c8fa3a0d09efc6cdf3a4df7c66ca7d63398dabc", func := "assize/assizelaw05.UnifyGeneral", spec := "unifyGeneral", unfollowed := true, recurses := true, loops := true, plainKeys := false, apart := false }
def UnifyGeneralSaid : Prop := unifyGeneralRow.holds Try.pinned (OpenSpec.ofChange unifyGeneralSpec)

/-- ITS FALSE NEIGHBOUR: 'it returns false'. Refute it at one input. -/
def unifyGeneralWrong : ChangeSpec := { name := "unifyGeneral", fn := fun _ => fun
  | [d1, d2, d3] => { results := [.lit (.bool false)], args := [d1, d2, d3] }
  | _ => none }
def UnifyGeneralWrongFalsely : Prop := unifyGeneralRow.holds Try.pinned (OpenSpec.ofChange unifyGeneralWrong)

/-- 'assizelaw04.SubstKeeps': WHATEVER THE INPUT: true; the input reads as it did. -/
def substKeepsSpec : ChangeSpec := { name := "substKeeps", fn := fun _ => fun
  | [d1, d2, d3] => { results := [.lit (.bool true)], args := [d1, d2, d3] }
  | _ => none }
def substKeepsRow : OpenClaim := { program := "ytcgnilbilccohab", sum := "6737d098cf762369731737256c8fa3a0d09efc6cdf3a4df7c66ca7d63398dabc", func := "assize/assizelaw04.SubstKeeps", spec := "substKeeps", inPlace := ["slices.overlaps[assize/api.Bind]"], unfollowed := true, recurses := true, loops := true, plainKeys := false, apart := false }
def SubstKeepsSaid : Prop := substKeepsRow.holds Try.pinned (OpenSpec.ofChange substKeepsSpec)

/-- ITS FALSE NEIGHBOUR: 'it returns false'. Refute it at one input. -/
def substKeepsWrong : ChangeSpec := { name := "substKeeps", fn := fun _ => fun
  | [d1, d2, d3] => { results := [.lit (.bool false)], args := [d1, d2, d3] }
  | _ => none }
def SubstKeepsWrongFalsely : Prop := substKeepsRow.holds Try.pinned (OpenSpec.ofChange substKeepsWrong)

/-- 'assizelaw05.UnifyEach': WHATEVER THE INPUT: true; the input reads as it did. -/
def unifyEachSpec : ChangeSpec := { name := "unifyEach", fn := fun _ => fun
  | [d1, d2] => { results := [.lit (.bool true)], args := [d1, d2] }
  | _ => none }
def unifyEachRow : OpenClaim := { program := "ytcgnilbilccohab", sum := "6737d098cf762369731737256c8fa3a0d09efc6cdf3a4df7c66ca7d63398dabc", func := "assize/assizelaw05.UnifyEach", spec := "unifyEach", unfollowed := true, recurses := true, loops := true, plainKeys := false, apart := false }
def UnifyEachSaid : Prop := unifyEachRow.holds Try.pinned (OpenSpec.ofChange unifyEachSpec)

/-- ITS FALSE NEIGHBOUR: 'it returns false'. Refute it at one input. -/
def unifyEachWrong : ChangeSpec := { name := "unifyEach", fn := fun _ => fun
  | [d1, d2] => { results := [.lit (.bool false)], args := [d1, d2] }
  | _ => none }
def UnifyEachWrongFalsely : Prop := unifyEachRow.holds Try.pinned (OpenSpec.ofChange unifyEachWrong)

/-- 'assizelaw11.DiscOrder': WHATEVER THE INPUT: true; the input reads as it did. -/
def discOrderSpec : ChangeSpec := { name := "discOrder", fn := fun _ => fun
  | [d1, d2, d3] => { results := [.lit (.bool true)], args := [d1, d2, d3] }
  | _ => none }
def discOrderRow : OpenClaim := { program := "ytcgnilbilccohab", sum := "6737d098cf762369731737256c8fa3a0d09efc6cdf3a4df7c66ca7d63398dabc", func := "assize/assizelaw11.DiscOrder", spec := "discOrder", unfollowed := true, recurses := true, loops := true, plainKeys := false, apart := false }
def DiscOrderSaid : Prop := discOrderRow.holds Try.pinned (OpenSpec.ofChange discOrderSpec)

/-- ITS FALSE NEIGHBOUR: 'it returns false'. Refute it at one input. -/
def discOrderWrong : ChangeSpec := { name := "discOrder", fn := fun _ => fun
  | [d1, d2, d3] => { results := [.lit (.bool false)], args := [d1, d2, d3] }
  | _ => none }
def DiscOrderWrongFalsely : Prop := discOrderRow.holds Try.pinned (OpenSpec.ofChange discOrderWrong)

/- THE SECOND FORM. 'bulk': how many values and letters a reading holds, each counted each time it is reached (what is shared counts as often as it is met; a slice's spare places count too). A statement '..UptoSaid' is the law's where the arguments, and the package variables that the reading takes, are together of bulk at most 1048576: NARROWER than '..Said'. Prove '..Said' where nothing that the law and all that it calls make is longer than what came in: it says more and counts as full. Else prove '..UptoSaid'. A law counts once. -/
mutual
def uptoBulk {H : Type} : DataW H → Nat
  | .lit (.string bytes) => bytes.length + 1
  | .lit _ => 1
  | .nil => 1
  | .ptr d => uptoBulk d + 1
  | .slice elems spare => uptoBulkAll elems + uptoBulkAll spare + 1
  | .agg parts => uptoBulkAll parts + 1
  | .iface _ d => uptoBulk d + 1
  | .map entries => uptoBulkEntries entries + 1
  | .held _ => 1
def uptoBulkAll {H : Type} : List (DataW H) → Nat
  | [] => 0
  | d :: r => uptoBulk d + uptoBulkAll r
def uptoBulkEntries {H : Type} : List (Lit × DataW H) → Nat
  | [] => 0
  | x :: r => uptoBulkEntry x + uptoBulkEntries r
def uptoBulkEntry {H : Type} : Lit × DataW H → Nat
  | (.string bytes, d) => bytes.length + uptoBulk d + 1
  | (_, d) => uptoBulk d + 1
 end
def uptoSmall : (H : Type) → List (DataW H) → Bool := fun _ ds => decide (uptoBulkAll ds ≤ 1048576)
def OpenSpec.upto (s : _root_.Go.ChangeSpec) : _root_.Go.OpenSpec := { _root_.Go.OpenSpec.ofChange s with cond := some uptoSmall }

/-- 'assizelaw10.FingerNils', WHERE WHAT IT READS IS OF BULK AT MOST 1048576: true; the input reads as it did. -/
def fingerNilsUptoRow : OpenClaim := { program := "ytcgnilbilccohab", sum := "6737d098cf762369731737256c8fa3a0d09efc6cdf3a4df7c66ca7d63398dabc", func := "assize/assizelaw10.FingerNils", spec := "fingerNils", unfollowed := true, recurses := true, loops := true, plainKeys := false, apart := false, narrowed := true }
def FingerNilsUptoSaid : Prop := fingerNilsUptoRow.holds Try.pinned (OpenSpec.upto fingerNilsSpec)

/-- 'assizelaw05.UnifyDoubles', WHERE WHAT IT READS IS OF BULK AT MOST 1048576: true; the input reads as it did. -/
def unifyDoublesUptoRow : OpenClaim := { program := "ytcgnilbilccohab", sum := "6737d098cf762369731737256c8fa3a0d09efc6cdf3a4df7c66ca7d63398dabc", func := "assize/assizelaw05.UnifyDoubles", spec := "unifyDoubles", unfollowed := true, recurses := true, plainKeys := false, apart := false, narrowed := true }
def UnifyDoublesUptoSaid : Prop := unifyDoublesUptoRow.holds Try.pinned (OpenSpec.upto unifyDoublesSpec)

/-- 'assizelaw05.UnifyMatches', WHERE WHAT IT READS IS OF BULK AT MOST 1048576: true; the input reads as it did. -/
def unifyMatchesUptoRow : OpenClaim := { program := "ytcgnilbilccohab", sum := "6737d098cf762369731737256c8fa3a0d09efc6cdf3a4df7c66ca7d63398dabc", func := "assize/assizelaw05.UnifyMatches", spec := "unifyMatches", unfollowed := true, recurses := true, loops := true, plainKeys := false, apart := false, narrowed := true }
def UnifyMatchesUptoSaid : Prop := unifyMatchesUptoRow.holds Try.pinned (OpenSpec.upto unifyMatchesSpec)

/-- 'assizelaw06.LitsNormal', WHERE WHAT IT READS IS OF BULK AT MOST 1048576: true; the input reads as it did. -/
def litsNormalUptoRow : OpenClaim := { program := "ytcgnilbilccohab", sum := "6737d098cf762369731737256c8fa3a0d09efc6cdf3a4df7c66ca7d63398dabc", func := "assize/assizelaw06.LitsNormal", spec := "litsNormal", unfollowed := true, recurses := true, loops := true, plainKeys := false, apart := false, narrowed := true }
def LitsNormalUptoSaid : Prop := litsNormalUptoRow.holds Try.pinned (OpenSpec.upto litsNormalSpec)

/-- 'assizelaw06.LitsMeans', WHERE WHAT IT READS IS OF BULK AT MOST 1048576: true; the input reads as it did. -/
def litsMeansUptoRow : OpenClaim := { program := "ytcgnilbilccohab", sum := "6737d098cf762369731737256c8fa3a0d09efc6cdf3a4df7c66ca7d63398dabc", func := "assize/assizelaw06.LitsMeans", spec := "litsMeans", unfollowed := true, recurses := true, loops := true, plainKeys := false, apart := false, narrowed := true }
def LitsMeansUptoSaid : Prop := litsMeansUptoRow.holds Try.pinned (OpenSpec.upto litsMeansSpec)

/-- 'assizelaw06.LitsOrder', WHERE WHAT IT READS IS OF BULK AT MOST 1048576: true; the input reads as it did. -/
def litsOrderUptoRow : OpenClaim := { program := "ytcgnilbilccohab", sum := "6737d098cf762369731737256c8fa3a0d09efc6cdf3a4df7c66ca7d63398dabc", func := "assize/assizelaw06.LitsOrder", spec := "litsOrder", unfollowed := true, recurses := true, loops := true, plainKeys := false, apart := false, narrowed := true }
def LitsOrderUptoSaid : Prop := litsOrderUptoRow.holds Try.pinned (OpenSpec.upto litsOrderSpec)

/-- 'assizelaw05.UnifyGeneral', WHERE WHAT IT READS IS OF BULK AT MOST 1048576: true; the input reads as it did. -/
def unifyGeneralUptoRow : OpenClaim := { program := "ytcgnilbilccohab", sum := "6737d098cf762369731737256c8fa3a0d09efc6cdf3a4df7c66ca7d63398dabc", func := "assize/assizelaw05.UnifyGeneral", spec := "unifyGeneral", unfollowed := true, recurses := true, loops := true, plainKeys := false, apart := false, narrowed := true }
def UnifyGeneralUptoSaid : Prop := unifyGeneralUptoRow.holds Try.pinned (OpenSpec.upto unifyGeneralSpec)

/-- 'assizelaw04.SubstKeeps', WHERE WHAT IT READS IS OF BULK AT MOST 1048576: true; the input reads as it did. -/
def substKeepsUptoRow : OpenClaim := { program := "ytcgnilbilccohab", sum := "6737d098cf762369731737256c8fa3a0d09efc6cdf3a4df7c66ca7d63398dabc", func := "assize/assizelaw04.SubstKeeps", spec := "substKeeps", inPlace := ["slices.overlaps[assize/api.Bind]"], unfollowed := true, recurses := true, loops := true, plainKeys := false, apart := false, narrowed := true }
def SubstKeepsUptoSaid : Prop := substKeepsUptoRow.holds Try.pinned (OpenSpec.upto substKeepsSpec)

/-- 'assizelaw05.UnifyEach', WHERE WHAT IT READS IS OF BULK AT MOST 1048576: true; the input reads as it did. -/
def unifyEachUptoRow : OpenClaim := { program := "ytcgnilbilccohab", sum := "6737d098cf762369731737256c8fa3a0d09efc6cdf3a4df7c66ca7d63398dabc", func := "assize/assizelaw05.UnifyEach", spec := "unifyEach", unfollowed := true, recurses := true, loops := true, plainKeys := false, apart := false, narrowed := true }
def UnifyEachUptoSaid : Prop := unifyEachUptoRow.holds Try.pinned (OpenSpec.upto unifyEachSpec)

/-- 'assizelaw11.DiscOrder', WHERE WHAT IT READS IS OF BULK AT MOST 1048576: true; the input reads as it did. -/
def discOrderUptoRow : OpenClaim := { program := "ytcgnilbilccohab", sum := "6737d098cf762369731737256c8fa3a0d09efc6cdf3a4df7c66ca7d63398dabc", func := "assize/assizelaw11.DiscOrder", spec := "discOrder", unfollowed := true, recurses := true, loops := true, plainKeys := false, apart := false, narrowed := true }
def DiscOrderUptoSaid : Prop := discOrderUptoRow.holds Try.pinned (OpenSpec.upto discOrderSpec)

end Rows
end Go.Proofs.Ytcgnilbilccohab
