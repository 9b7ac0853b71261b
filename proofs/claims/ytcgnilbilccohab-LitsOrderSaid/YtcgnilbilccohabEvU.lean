/- The evaluator Ev, part U: what comes in, as abstract values, whatever its type (bools, whole numbers, strings, structs, slices; types that hold themselves, too). -/
import Derived.Test.YtcgnilbilccohabEvO
import Derived.ChangeArms
namespace Go.Ev
open Go
set_option linter.unusedSimpArgs false
set_option linter.unusedVariables false

mutual
/-- A datum's cells. -/
def avs {H : Type} : DataW H → List AV
  | .lit (.bool b) => [.bool b]
  | .lit (.int k n) => [.int k n]
  | .lit (.string s) => [.str ⟨⟨s⟩⟩]
  | .nil => [.nilsl]
  | .agg ps => avsF ps
  | .slice es _ => [.fsl false (avsLL es)]
  | _ => [.junk]
def avsF {H : Type} : List (DataW H) → List AV
  | [] => []
  | d :: ds => avs d ++ avsF ds
def avsLL {H : Type} : List (DataW H) → List (List AV)
  | [] => []
  | d :: ds => avs d :: avsLL ds
end

/-- A struct's fields lie one behind the other. -/
def fieldsLie (P : Program) (C : List Nat) : List Field → Nat → Option Nat
  | [], o => some o
  | f :: fs, o => if C.contains f.type && f.offset == o then fieldsLie P C fs (o + P.cellsOf f.type) else none

/-- A list of types of which each is made of others of the list. -/
def openOK (P : Program) (C : List Nat) : Bool := C.all fun t => match P.underlying t with
  | some .bool | some (.int _) | some .string => P.cellsOf t == 1
  | some (.slice e) => C.contains e && P.cellsOf t == 1 && decide (0 < P.cellsOf e)
  | some (.struct fs) => fieldsLie P C fs.toList 0 == some (P.cellsOf t)
  | _ => false

section
variable {H : Type} {enc : TypeId × Value → H} {P : Program} {W : World} {ρ : Rho} {M : Nat → Prop}

theorem avsLL_get : ∀ (ds : List (DataW H)) (i : Nat) (e : List AV), (avsLL ds)[i]? = some e → ∃ d, ds[i]? = some d ∧ e = avs d
  | [], i, e, h => by simp [avsLL] at h
  | d :: ds, i, e, h => by
    cases i with
    | zero => simp [avsLL] at h; exact ⟨d, rfl, h.symm⟩
    | succ i => simp [avsLL] at h; obtain ⟨d', h1, h2⟩ := avsLL_get ds i e h; exact ⟨d', by simpa using h1, h2⟩

theorem avsLL_len : ∀ (ds : List (DataW H)), (avsLL ds).length = ds.length
  | [] => rfl
  | d :: ds => by simp [avsLL, avsLL_len ds]

theorem fields_open {C : List Nat} (hM : ∀ b, ¬ M b) {m : Nat} (ih : ∀ (t : Nat) (cs : List Value) (x : DataW H × List MemPlace), t ∈ C → DataW.trod enc P W 0 (fun _ => true) true m t cs = some x → RVs W ρ M (avs x.1) cs ∧ cs.length = P.cellsOf t) (cs : List Value) :
    ∀ (fs : List Field) (o n : Nat) (xs : List (DataW H × List MemPlace)), fieldsLie P C fs o = some n → xs.length = fs.length → (∀ (i : Nat) (f : Field), fs[i]? = some f → DataW.trod enc P W 0 (fun _ => true) true m f.type ((cs.drop f.offset).take (P.cellsOf f.type)) = xs[i]?) →
      n ≤ cs.length → RVs W ρ M (avsF (xs.map (·.1))) ((cs.drop o).take (n - o)) ∧ o ≤ n := by
  intro fs
  induction fs with
  | nil =>
    intro o n xs h1 h2 h3 h4
    simp only [fieldsLie, Option.some.injEq] at h1
    subst h1
    obtain rfl : xs = [] := List.eq_nil_of_length_eq_zero h2
    simp [avsF]
    exact RVs.nil W ρ M
  | cons f fs ihf =>
    intro o n xs h1 h2 h3 h4
    cases xs with
    | nil => simp at h2
    | cons x xs =>
      simp only [fieldsLie] at h1
      split at h1
      · rename_i hc
        simp only [Bool.and_eq_true, beq_iff_eq, List.contains_iff_mem] at hc
        obtain ⟨hc1, hc2⟩ := hc
        have hx := h3 0 f rfl
        simp only [List.getElem?_cons_zero] at hx
        obtain ⟨g1, g2⟩ := ih _ _ _ hc1 hx
        obtain ⟨k1, k2⟩ := ihf _ n xs h1 (by simpa using h2) (fun i f' hi => by simpa using h3 (i + 1) f' (by simpa using hi)) h4
        rw [hc2] at g1 g2
        refine ⟨?_, by omega⟩
        simp only [List.map_cons, avsF]
        have he : (cs.drop o).take (n - o) = (cs.drop o).take (P.cellsOf f.type) ++ (cs.drop (o + P.cellsOf f.type)).take (n - (o + P.cellsOf f.type)) := by
          rw [show n - o = P.cellsOf f.type + (n - (o + P.cellsOf f.type)) by omega, List.take_add, List.drop_drop]
        rw [he]
        exact RVs.append g1 k1
      · cases h1

theorem open_sound {C : List Nat} (hC : openOK P C = true) (hM : ∀ b, ¬ M b) : ∀ (fuel t : Nat) (cs : List Value) (x : DataW H × List MemPlace), t ∈ C → DataW.trod enc P W 0 (fun _ => true) true fuel t cs = some x →
    RVs W ρ M (avs x.1) cs ∧ cs.length = P.cellsOf t := by
  intro fuel
  induction fuel with
  | zero => intro t cs x _ h; simp [DataW.trod] at h
  | succ m ih =>
    intro t cs x ht h
    have hk := List.all_eq_true.1 hC t ht
    split at hk
    · rename_i hu
      unfold DataW.trod at h
      rw [hu] at h
      split at h <;> first | (cases h; done) | skip
      all_goals first | (exfalso; simp_all; done) | skip
      simp only [Option.some.injEq] at h
      subst h
      simp [avs]
      exact ⟨RVs.cons (.bool _) (RVs.nil W ρ M), (show P.cellsOf t = 1 by simpa using hk).symm⟩
    · rename_i q hu
      unfold DataW.trod at h
      rw [hu] at h
      split at h <;> first | (cases h; done) | skip
      all_goals simp_all
      obtain ⟨_, rfl⟩ := h
      simp [avs]
      exact RVs.cons (.int _ _) (RVs.nil W ρ M)
    · rename_i hu
      unfold DataW.trod at h
      rw [hu] at h
      split at h <;> first | (cases h; done) | skip
      all_goals simp_all
      obtain ⟨_, rfl⟩ := h
      simp [avs]
      exact RVs.cons (.str _) (RVs.nil W ρ M)
    · rename_i e hu
      simp only [Bool.and_eq_true, beq_iff_eq, decide_eq_true_eq, List.contains_iff_mem] at hk
      obtain ⟨⟨k1, k2⟩, k3⟩ := hk
      rcases DataW.trod_slice hu h with ⟨rfl, rfl⟩ | ⟨a, len, cap, elems, rest, n, hn, rfl, rfl, hb, hl, hm, hlen, hel, _, _⟩
      · refine ⟨?_, by simp [k2]⟩
        simp [avs]
        exact RVs.cons .nilsl (RVs.nil W ρ M)
      · refine ⟨?_, by simp [k2]⟩
        simp only [avs]
        refine RVs.cons ?_ (RVs.nil W ρ M)
        obtain rfl : n = m := by omega
        subst hlen
        by_cases h0 : elems = []
        · subst h0
          simp [avsLL]
          exact RV.fsl0 _ _ (fun hx => by cases hx)
        · have cells : ∀ (i : Nat) (d : DataW H), (elems.map (·.1))[i]? = some d → ∃ cs, W.cells? 0 (a.add (i * P.cellsOf e)) (P.cellsOf e) = some cs ∧ RVs W ρ M (avs d) cs ∧ cs.length = P.cellsOf e := by
            intro i d hd
            simp only [List.getElem?_map, Option.map_eq_some_iff] at hd
            obtain ⟨y, hy, rfl⟩ := hd
            have hi : i < elems.length := (List.getElem?_eq_some_iff.1 hy).1
            have := hel i hi
            rw [hy] at this
            obtain ⟨cs, hcs, ht⟩ := Option.bind_eq_some_iff.1 this
            obtain ⟨r1, r2⟩ := ih e cs y k1 ht
            exact ⟨cs, hcs, r1, r2⟩
          have hread : ∀ (p : Addr) (n : Nat) (cs : List Value), W.cells? 0 p n = some cs → ∀ j, j < n → W.cell? (p.add j) = cs[j]? := by
            intro p n cs h j hj
            simp only [World.cells?, Nat.zero_le, if_true] at h
            have := mapM_some_get h j j (by simp [hj])
            simpa using this
          have hspot : a.spot = none := by
            obtain ⟨x0, xs, rfl⟩ := List.exists_cons_of_ne_nil h0
            obtain ⟨cs, h1, _, h3⟩ := cells 0 x0.1 (by simp)
            have := hread _ _ _ h1 0 k3
            rw [List.getElem?_eq_getElem (by omega)] at this
            simp only [Nat.zero_mul] at this
            cases hs : a.spot with
            | none => rfl
            | some q => 
              have e0 : (a.add 0).add 0 = a := by simp [Addr.add, hs]
              rw [e0] at this
              unfold World.cell? at this
              split at this
              · simp [hs] at this
              · cases this
          obtain ⟨blk, off, spot⟩ := a
          simp only at hspot
          subst hspot
          have key : ∀ (i j : Nat) (e' : List AV) (c : AV), (avsLL (elems.map (·.1)))[i]? = some e' → e'[j]? = some c → e'.length = P.cellsOf e ∧ ∃ u, W.cell? ⟨blk, off + (i * P.cellsOf e + j), none⟩ = some u ∧ RV W ρ M c u := by
            intro i j e' c hi hj
            obtain ⟨d, hd, rfl⟩ := avsLL_get _ _ _ hi
            obtain ⟨cs, h1, h2, h3⟩ := cells i d hd
            have hl' : (avs d).length = P.cellsOf e := by rw [h2.1, h3]
            have hjl : j < P.cellsOf e := by rw [← hl']; exact (List.getElem?_eq_some_iff.1 hj).1
            have hr := hread _ _ _ h1 j hjl
            rw [List.getElem?_eq_getElem (by omega)] at hr
            rw [add_add, add_add, Nat.add_assoc] at hr
            exact ⟨hl', cs[j], hr, h2.2 j c _ hj (List.getElem?_eq_getElem (by omega))⟩
          have hp := RV.fsl (W := W) (ρ := ρ) (M := M) (x := false) (els := avsLL (elems.map (·.1))) (b := blk) (off := off) (sz := P.cellsOf e) (cap := cap) (fun i j => (W.cell? ⟨blk, off + (i * P.cellsOf e + j), none⟩).getD Go.undef)
            (fun i e' hi => by
              obtain ⟨d, hd, rfl⟩ := avsLL_get _ _ _ hi
              obtain ⟨cs, h1, h2, h3⟩ := cells i d hd
              rw [h2.1, h3])
            (hM _)
            (by
              obtain ⟨x0, xs, rfl⟩ := List.exists_cons_of_ne_nil h0
              obtain ⟨cs, h1, _, h3⟩ := cells 0 x0.1 (by simp)
              have := hread _ _ _ h1 0 k3
              rw [List.getElem?_eq_getElem (by omega), add_add, add_add] at this
              exact cell_lt this)
            (by rw [avsLL_len]; simpa using hl) (fun hx => by cases hx)
            (fun i j e' c hi hj => by obtain ⟨_, u, hu, _⟩ := key i j e' c hi hj; simp [hu])
            (fun i j e' c hi hj => by obtain ⟨_, u, hu, hru⟩ := key i j e' c hi hj; simp [hu, hru])
          rw [avsLL_len, List.length_map] at hp
          exact hp
    · rename_i fs hu
      obtain ⟨xs, n, hn, rfl, hl, hlen, hf⟩ := DataW.trod_struct hu h
      obtain rfl : n = m := by omega
      refine ⟨?_, hl⟩
      simp only [beq_iff_eq] at hk
      obtain ⟨g1, _⟩ := fields_open (ρ := ρ) hM (fun t cs x hx h => ih t cs x hx h) cs fs.toList 0 _ xs hk (by simpa using hlen) (fun i f hi => hf i f (by simpa using hi)) (by omega)
      simp only [avs]
      simp only [List.drop_zero, Nat.sub_zero, ← hl, List.take_length] at g1
      exact g1
    · cases hk

mutual
/-- A datum is of a type. -/
def hasT {H : Type} (P : Program) : DataW H → Nat → Prop
  | .lit (.bool _), t => P.underlying t = some .bool
  | .lit (.int k n), t => P.underlying t = some (.int k) ∧ (Lit.int k n).wf = true
  | .lit (.string s), t => P.underlying t = some .string
  | .nil, t => ∃ e, P.underlying t = some (.slice e)
  | .slice es _, t => ∃ e, P.underlying t = some (.slice e) ∧ hasTL P es e
  | .agg ps, t => ∃ fs : Array Field, P.underlying t = some (.struct fs) ∧ hasTF P ps fs.toList
  | _, _ => False
def hasTL {H : Type} (P : Program) : List (DataW H) → Nat → Prop
  | [], _ => True
  | d :: ds, t => hasT P d t ∧ hasTL P ds t
def hasTF {H : Type} (P : Program) : List (DataW H) → List Field → Prop
  | [], [] => True
  | d :: ds, f :: fs => hasT P d f.type ∧ hasTF P ds fs
  | _, _ => False
end

theorem hasTL_of {t : Nat} : ∀ (ds : List (DataW H)), (∀ d ∈ ds, hasT P d t) → hasTL P ds t
  | [], _ => trivial
  | d :: ds, h => ⟨h d List.mem_cons_self, hasTL_of ds fun x hx => h x (List.mem_cons_of_mem _ hx)⟩

theorem hasTL_mem {t : Nat} : ∀ {ds : List (DataW H)}, hasTL P ds t → ∀ d ∈ ds, hasT P d t
  | [], _, d, h => by simp at h
  | x :: ds, h, d, hd => by
    rcases List.mem_cons.1 hd with rfl | hd
    · exact h.1
    · exact hasTL_mem h.2 d hd

theorem fields_typed {C : List Nat} {m : Nat} (ih : ∀ (t : Nat) (cs : List Value) (x : DataW H × List MemPlace), t ∈ C → DataW.trod enc P W 0 (fun _ => true) true m t cs = some x → hasT P x.1 t) (cs : List Value) :
    ∀ (fs : List Field) (o n : Nat) (xs : List (DataW H × List MemPlace)), fieldsLie P C fs o = some n → xs.length = fs.length → (∀ (i : Nat) (f : Field), fs[i]? = some f → DataW.trod enc P W 0 (fun _ => true) true m f.type ((cs.drop f.offset).take (P.cellsOf f.type)) = xs[i]?) →
      hasTF P (xs.map (·.1)) fs := by
  intro fs
  induction fs with
  | nil =>
    intro o n xs h1 h2 h3
    obtain rfl : xs = [] := List.eq_nil_of_length_eq_zero h2
    trivial
  | cons f fs ihf =>
    intro o n xs h1 h2 h3
    cases xs with
    | nil => simp at h2
    | cons x xs =>
      simp only [fieldsLie] at h1
      split at h1
      · rename_i hc
        simp only [Bool.and_eq_true, beq_iff_eq, List.contains_iff_mem] at hc
        have hx := h3 0 f rfl
        simp only [List.getElem?_cons_zero] at hx
        exact ⟨ih _ _ _ hc.1 hx, ihf _ n xs h1 (by simpa using h2) (fun i f' hi => by simpa using h3 (i + 1) f' (by simpa using hi))⟩
      · cases h1

theorem open_typed {C : List Nat} (hC : openOK P C = true) : ∀ (fuel t : Nat) (cs : List Value) (x : DataW H × List MemPlace), t ∈ C → DataW.trod enc P W 0 (fun _ => true) true fuel t cs = some x → hasT P x.1 t := by
  intro fuel
  induction fuel with
  | zero => intro t cs x _ h; simp [DataW.trod] at h
  | succ m ih =>
    intro t cs x ht h
    have hk := List.all_eq_true.1 hC t ht
    split at hk
    · rename_i hu
      unfold DataW.trod at h
      rw [hu] at h
      split at h <;> first | (cases h; done) | skip
      all_goals first | (exfalso; simp_all; done) | skip
      simp only [Option.some.injEq] at h
      subst h
      simpa [hasT] using hu
    · rename_i q hu
      unfold DataW.trod at h
      rw [hu] at h
      split at h <;> first | (cases h; done) | skip
      all_goals simp_all
      obtain ⟨h1, rfl⟩ := h
      simp [hasT, hu, h1]
    · rename_i hu
      unfold DataW.trod at h
      rw [hu] at h
      split at h <;> first | (cases h; done) | skip
      all_goals simp_all
      obtain ⟨_, rfl⟩ := h
      simp [hasT, hu]
    · rename_i e hu
      simp only [Bool.and_eq_true, beq_iff_eq, decide_eq_true_eq, List.contains_iff_mem] at hk
      obtain ⟨⟨k1, k2⟩, k3⟩ := hk
      rcases DataW.trod_slice hu h with ⟨rfl, rfl⟩ | ⟨a, len, cap, elems, rest, n, hn, rfl, rfl, hb, hl, hm, hlen, hel, _, _⟩
      · exact ⟨e, hu⟩
      · obtain rfl : n = m := by omega
        subst hlen
        refine ⟨e, hu, hasTL_of _ fun d hd => ?_⟩
        obtain ⟨y, hy, rfl⟩ := List.mem_map.1 hd
        obtain ⟨i, hi, rfl⟩ := List.mem_iff_getElem.1 hy
        have := hel i hi
        rw [List.getElem?_eq_getElem hi] at this
        obtain ⟨cs, hcs, ht⟩ := Option.bind_eq_some_iff.1 this
        exact ih e cs _ k1 ht
    · rename_i fs hu
      obtain ⟨xs, n, hn, rfl, hl, hlen, hf⟩ := DataW.trod_struct hu h
      obtain rfl : n = m := by omega
      simp only [beq_iff_eq] at hk
      exact ⟨fs, hu, fields_typed (fun t cs x hx h => ih t cs x hx h) cs fs.toList 0 _ xs hk (by simpa using hlen) (fun i f hi => hf i f (by simpa using hi))⟩
    · cases hk

end
end Go.Ev
