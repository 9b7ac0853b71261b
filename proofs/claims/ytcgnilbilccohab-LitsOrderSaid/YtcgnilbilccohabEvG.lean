/- The evaluator Ev, part G: copy, clear, cuts, make. -/
import Derived.Test.YtcgnilbilccohabEvF
namespace Go.Ev
open Go
set_option linter.unusedSimpArgs false
set_option linter.unusedVariables false

section
variable {P : Program} {T : Tab} {W : World} {ρ : Rho} {S : Store}

def ORV (W : World) (ρ : Rho) (M : Nat → Prop) : Option AV → Option Value → Prop
  | none, none => True
  | some c, some v => RV W ρ M c v
  | _, _ => False

theorem natOf_sound {M : Nat → Prop} {c : AV} {v : Value} {n : Nat} (hv : RV W ρ M c v) (h : natOf c = some n) : ∃ k, v = .int k (n : Int) := by
  unfold natOf at h
  split at h
  · cases hv
    split at h
    · rename_i k m hm
      simp only [Option.some.injEq] at h
      refine ⟨k, ?_⟩
      congr 1
      omega
    · cases h
  · cases h

theorem bounds_sound {M : Nat → Prop} {lo hi : Option AV} {lov hiv : Option Value} (hlo : ORV W ρ M lo lov) (hhi : ORV W ρ M hi hiv) {l h len cap : Nat} {b : Bool}
    (e1 : natO 0 lo = some l) (e2 : natO len hi = some h) (hle : l ≤ h) (hc : h ≤ cap) :
    (Instr.sliceBounds b len cap lov hiv none).run P W = .ok (l, h, cap) W := by
  have hh : ∀ (n m : Nat) (k : IntKind) (code : BoundsCode), n ≤ m → (Instr.sliceBound (.int k (n : Int)) m code).run P W = .ok n W := by
    intro n m k code hnm
    have h1 : (0 : Int) ≤ n ∧ (n : Int) ≤ m := ⟨by omega, by omega⟩
    simp [Instr.sliceBound, asIntOf, hnm]
  cases lo with
  | none =>
    cases lov with
    | some _ => exact hlo.elim
    | none =>
      simp [natO] at e1
      subst e1
      cases hi with
      | none =>
        cases hiv with
        | some _ => exact hhi.elim
        | none => simp [natO] at e2; subst e2; simp [Instr.sliceBounds]
      | some c =>
        cases hiv with
        | none => exact hhi.elim
        | some v =>
          obtain ⟨k, rfl⟩ := natOf_sound hhi e2
          simp [Instr.sliceBounds, hh _ _ _ _ hc]
  | some c =>
    cases lov with
    | none => exact hlo.elim
    | some v =>
      obtain ⟨k, rfl⟩ := natOf_sound hlo e1
      cases hi with
      | none =>
        cases hiv with
        | some _ => exact hhi.elim
        | none => simp [natO] at e2; subst e2; simp [Instr.sliceBounds, hh _ _ _ _ hle]
      | some c' =>
        cases hiv with
        | none => exact hhi.elim
        | some v' =>
          obtain ⟨k', rfl⟩ := natOf_sound hhi e2
          simp [Instr.sliceBounds, hh _ _ _ _ hc, hh _ _ _ _ hle]

theorem slice_sound (hT : TabOK P T) {M : Nat → Prop} {ty : Nat} {x c : AV} {lo hi : Option AV} {v : Value} {lov hiv : Option Value} (hv : RV W ρ M x v) (hlo : ORV W ρ M lo lov) (hhi : ORV W ρ M hi hiv)
    (h : sliceA T ty x lo hi = some c) : ∃ y, (Instr.sliceAt ty v lov hiv none).run P W = .ok y W ∧ RV W ρ M c y := by
  unfold sliceA at h
  split at h
  · cases h
  rename_i l e1
  split at h
  · -- a string
    cases hv
    rename_i s
    split at h
    · rename_i hs
      split at h
      · rename_i hn e2
        split at h
        · rename_i hc
          simp only [Option.some.injEq] at h
          subst h
          have hb := bounds_sound (P := P) (b := false) (cap := s.size) hlo hhi e1 e2 hc.1 hc.2
          exact ⟨_, by simp [Instr.sliceAt, Instr.slice, run_underlyingE (hT.str _ hs), hb], .str _⟩
        · cases h
      · cases h
    · cases h
  · -- finished
    rename_i xx els
    split at h
    case h_2 => cases h
    rename_i e he
    split at h
    case h_2 => cases h
    rename_i sz hsz
    split at h
    case isFalse => cases h
    rename_i hok
    split at h
    case h_2 => cases h
    rename_i hn e2
    split at h
    case isFalse => cases h
    rename_i hc
    simp only [Option.some.injEq] at h
    subst h
    obtain ⟨i, hi', hie⟩ := hT.sz _ _ hsz
    cases hv with
    | fsl0 A cap hx =>
      simp only [List.length_nil] at hc e2
      obtain rfl : hn = 0 := by omega
      obtain rfl : l = 0 := by omega
      have hb := bounds_sound (P := P) (b := true) (cap := cap) hlo hhi e1 e2 (Nat.le_refl _) (Nat.zero_le _)
      refine ⟨_, by simp [Instr.sliceAt, Instr.slice, run_underlyingE (hT.sle _ _ he), hb, run_sizeOfE hi']; rfl, ?_⟩
      simp only [List.take_nil, List.drop_nil]
      exact .fsl0 _ _ (by simpa using hx)
    | @fsl _ _ b off sz' cap vs hs hM hB hc' hx h1 h2 =>
      have hb := bounds_sound (P := P) (b := true) (cap := cap) hlo hhi e1 e2 hc.1 (Nat.le_trans hc.2 hc')
      have hlen : ((els.take hn).drop l).length = hn - l := by rw [List.length_drop, List.length_take]; omega
      by_cases hem : (els.take hn).drop l = []
      · have hz : hn - l = 0 := by rw [← hlen, hem]; rfl
        refine ⟨_, by simp [Instr.sliceAt, Instr.slice, run_underlyingE (hT.sle _ _ he), hb, run_sizeOfE hi']; rfl, ?_⟩
        rw [hem, hz]
        refine .fsl0 _ _ (fun hxx => ?_)
        simp only [Bool.and_eq_true, beq_iff_eq] at hxx
        have := hx hxx.1
        omega
      · have hlt : l < hn := by
          by_cases hlt : l < hn
          · exact hlt
          · exact absurd (List.eq_nil_of_length_eq_zero (by rw [hlen]; omega)) hem
        have hcap : ¬ cap = l := by omega
        have hszz : i.size = sz' := by
          cases els with
          | nil => simp at hc; omega
          | cons e0 es =>
            simp only [headOK, beq_iff_eq] at hok
            rw [hie, ← hok]
            exact hs 0 e0 rfl
        refine ⟨.slice (some ⟨b, off + l * sz', none⟩) (hn - l) (cap - l), by simp [Instr.sliceAt, Instr.slice, run_underlyingE (hT.sle _ _ he), hb, run_sizeOfE hi', hcap, add_add, hszz], ?_⟩
        have hget : ∀ (k : Nat) (el : List AV), ((els.take hn).drop l)[k]? = some el → els[l + k]? = some el := by
          intro k el hk
          rw [List.getElem?_drop, List.getElem?_take] at hk
          split at hk
          · exact hk
          · cases hk
        have := RV.fsl (W := W) (ρ := ρ) (M := M) (x := xx && hn == els.length) (els := (els.take hn).drop l) (b := b) (off := off + l * sz') (sz := sz') (cap := cap - l) (fun i j => vs (l + i) j)
          (fun k el hk => hs _ _ (hget k el hk)) hM hB (by rw [hlen]; omega) (fun hxx => by
            simp only [Bool.and_eq_true, beq_iff_eq] at hxx
            have := hx hxx.1
            rw [hlen]; omega)
          (fun k j el a hk hj => by
            have := h1 (l + k) j el a (hget k el hk) hj
            rw [← this, Nat.add_mul]
            congr 2
            omega)
          (fun k j el a hk hj => h2 (l + k) j el a (hget k el hk) hj)
        rwa [hlen] at this
  · -- nil
    cases hv
    split at h
    case isFalse => cases h
    rename_i hs
    split at h
    case h_2 => cases h
    rename_i hn e2
    split at h
    case isFalse => cases h
    rename_i hc
    simp only [Option.some.injEq] at h
    subst h
    obtain ⟨rfl, rfl⟩ := hc
    obtain ⟨sz, hsz⟩ := Option.isSome_iff_exists.1 hs
    obtain ⟨e, he, hsz⟩ := Option.bind_eq_some_iff.1 hsz
    obtain ⟨i, hi', hie⟩ := hT.sz _ _ hsz
    have hb := bounds_sound (P := P) (b := true) (cap := 0) hlo hhi e1 e2 (Nat.le_refl _) (Nat.le_refl _)
    exact ⟨.slice none 0 0, by simp [Instr.sliceAt, Instr.slice, run_underlyingE (hT.sle _ _ he), hb, run_sizeOfE hi'], .nilsl⟩
  · -- a row of one's own
    rename_i lo' off len cap sz
    split at h
    case h_2 => cases h
    rename_i e he
    split at h
    case isFalse => cases h
    rename_i hsz
    split at h
    case h_2 => cases h
    rename_i hn e2
    split at h
    case isFalse => cases h
    rename_i hc
    obtain ⟨i, hi', hie⟩ := hT.sz _ _ hsz
    cases hv with
    | @sl _ _ _ _ _ b base cap' ty' cur hρ hl hcc hb' hz =>
      have hb := bounds_sound (P := P) (b := true) (cap := cap') hlo hhi e1 e2 hc.1 (Nat.le_trans hc.2 hcc)
      split at h
      · rename_i hlt
        simp only [Option.some.injEq] at h
        subst h
        have hne : ¬ cap' = l := by omega
        refine ⟨.slice (some ⟨b, base + (off + l * sz), none⟩) (hn - l) (cap' - l), by simp [Instr.sliceAt, Instr.slice, run_underlyingE (hT.sle _ _ he), hb, run_sizeOfE hi', hne, add_add, hie, Nat.add_assoc], ?_⟩
        refine .sl hρ (by omega) (by omega) hb' ?_
        have : (cap' - l) * sz + l * sz = cap' * sz := by rw [← Nat.add_mul]; congr 1; omega
        omega
      · split at h
        · rename_i hl0
          simp only [Option.some.injEq] at h
          subst h
          subst hl0
          refine ⟨.slice (some ⟨b, base + off, none⟩) (hn - 0) cap', by simp [Instr.sliceAt, Instr.slice, run_underlyingE (hT.sle _ _ he), hb, run_sizeOfE hi', add_add], ?_⟩
          exact .sl hρ (by omega) hcc hb' hz
        · simp only [Option.some.injEq] at h
          subst h
          have h0 : hn - l = 0 := by omega
          refine ⟨_, by simp [Instr.sliceAt, Instr.slice, run_underlyingE (hT.sle _ _ he), hb, run_sizeOfE hi']; rfl, ?_⟩
          rw [h0]
          exact .fsl0 _ _ (by simp)
  · cases h

end
end Go.Ev
