/- The evaluator Ev, part G, more: keys of maps: when two are the same. -/
import Derived.Test.YtcgnilbilccohabEvG
import Derived.ChangeKeysEq
namespace Go.Ev
open Go
set_option linter.unusedSimpArgs false
set_option linter.unusedVariables false

section
variable {P : Program} {W : World} {ρ : Rho} {M : Nat → Prop}

/-- A value of a type, by its cells. -/
def KeyV (P : Program) (W : World) (ρ : Rho) (M : Nat → Prop) (t : Nat) (a : List AV) (v : Value) : Prop :=
  ∃ d, P.underlying t = some d ∧ if aggDesc d = true then ∃ vs : List Value, v = .agg vs.toArray ∧ RVs W ρ M a vs else ∃ c, a = [c] ∧ RV W ρ M c v

theorem eqCells_append {ks : List Nat} : ∀ {ls : List Nat} {x y : List AV} {r : Bool}, eqCells (ks ++ ls) x y = some r →
    ∃ r1 r2, eqCells ks (x.take ks.length) (y.take ks.length) = some r1 ∧ eqCells ls (x.drop ks.length) (y.drop ks.length) = some r2 ∧ r = (r1 && r2) ∧ ks.length ≤ x.length ∧ ks.length ≤ y.length := by
  induction ks with
  | nil => intro ls x y r h; exact ⟨true, r, by simp [eqCells], by simpa using h, by simp, Nat.zero_le _, Nat.zero_le _⟩
  | cons k ks ih =>
    intro ls x y r h
    cases x with
    | nil => simp [eqCells] at h
    | cons a xs =>
      cases y with
      | nil => simp [eqCells] at h
      | cons b ys =>
        simp only [List.cons_append, eqCells] at h
        split at h
        · rename_i r0 s0 h1 h2
          simp only [Option.some.injEq] at h
          subst h
          obtain ⟨r1, r2, g1, g2, g3, g4, g5⟩ := ih h2
          refine ⟨r0 && r1, r2, ?_, by simpa using g2, by rw [g3, Bool.and_assoc], by simpa using g4, by simpa using g5⟩
          simp [eqCells, h1, g1]
        · cases h

theorem RVs.take {a : List AV} {vs : List Value} (h : RVs W ρ M a vs) (n : Nat) : RVs W ρ M (a.take n) (vs.take n) := by
  refine ⟨by simp [h.1], fun i c v hi hj => ?_⟩
  rw [List.getElem?_take] at hi hj
  split at hi
  · rename_i hlt
    rw [if_pos hlt] at hj
    exact h.2 i c v hi hj
  · cases hi

theorem RVs.drop {a : List AV} {vs : List Value} (h : RVs W ρ M a vs) (n : Nat) : RVs W ρ M (a.drop n) (vs.drop n) := by
  refine ⟨by simp [h.1], fun i c v hi hj => ?_⟩
  rw [List.getElem?_drop] at hi hj
  exact h.2 _ c v hi hj

/-- A part of a row is a value of its type. -/
theorem part_keyV {d : Nat} {t : Nat} {ks : List Nat} (hk : flatP P d t = some ks) {vs : List Value} {a : List AV} {o : Nat} (hv : RVs W ρ M a (vs.drop o)) (hl : ks.length ≤ a.length) :
    ∃ z, (part t vs.toArray o).run P W = .ok z W ∧ KeyV P W ρ M t (a.take ks.length) z := by
  have hlen := hv.1
  cases d with
  | zero => simp [flatP] at hk
  | succ d =>
    simp only [flatP] at hk
    have single : ∀ (td : TypeDesc) (k : Nat), P.underlying t = some td → aggDesc td = false → [k] = ks → ∃ z, (part t vs.toArray o).run P W = .ok z W ∧ KeyV P W ρ M t (a.take ks.length) z := by
      intro td k hu hag he
      subst he
      simp only [List.length_cons, List.length_nil, List.length_drop] at hl hlen
      have ho : o < vs.length := by omega
      have ha0 : 0 < a.length := by omega
      refine ⟨vs[o], by simp [part, run_isAggE hu, hag, ho], td, hu, ?_⟩
      rw [if_neg (by simp [hag])]
      refine ⟨a[0], ?_, hv.2 0 _ _ (List.getElem?_eq_getElem ha0) (by simp [ho])⟩
      cases a with
      | nil => simp at ha0
      | cons x xs => simp
    have many : ∀ (td : TypeDesc) (i : TypeInfo), P.underlying t = some td → aggDesc td = true → P.info? t = some i → i.size = ks.length → ∃ z, (part t vs.toArray o).run P W = .ok z W ∧ KeyV P W ρ M t (a.take ks.length) z := by
      intro td i hu hag hi he
      refine ⟨.agg (vs.toArray.extract o (o + ks.length)), by simp [part, run_isAggE hu, hag, run_sizeOfE hi, he], td, hu, ?_⟩
      rw [if_pos hag]
      refine ⟨(vs.drop o).take ks.length, ?_, hv.take _⟩
      congr 1
      simp
    split at hk
    · rename_i hu; exact single _ 0 hu rfl (by simpa using hk)
    · rename_i q hu; exact single _ 5 hu rfl (by simpa using hk)
    · rename_i hu; exact single _ 6 hu rfl (by simpa using hk)
    · rename_i fs hu
      split at hk
      · rename_i ks' hks
        split at hk
        · rename_i hc
          simp only [Option.some.injEq] at hk
          subst hk
          simp only [Bool.and_eq_true, beq_iff_eq] at hc
          obtain ⟨i, hi, he⟩ := Option.map_eq_some_iff.1 hc.2
          exact many _ i hu rfl hi he
        · cases hk
      · cases hk
    · rename_i n e hu
      split at hk
      · rename_i ks' hks
        split at hk
        · rename_i hc
          simp only [Option.some.injEq] at hk
          subst hk
          simp only [Bool.and_eq_true, beq_iff_eq] at hc
          obtain ⟨i, hi, he⟩ := Option.map_eq_some_iff.1 hc.1
          exact many _ i hu rfl hi he
        · cases hk
      · cases hk
    · cases hk

theorem flatFs_cons {g : Nat → Option (List Nat)} {f : Field} {fs : List Field} {o : Nat} {ks : List Nat} (h : flatFs g (f :: fs) o = some ks) :
    ∃ kf kr, ks = kf ++ kr ∧ g f.type = some kf ∧ flatFs g fs (o + kf.length) = some kr ∧ f.name ≠ "_" ∧ f.offset = o := by
  simp only [flatFs] at h
  split at h
  · rename_i kf h1
    split at h
    · rename_i kr h2
      split at h
      · rename_i hc
        simp only [Bool.and_eq_true, bne_iff_ne, ne_eq, beq_iff_eq] at hc
        simp only [Option.some.injEq] at h
        exact ⟨kf, kr, h.symm, h1, h2, hc.1, hc.2⟩
      · cases h
    · cases h
  · cases h

theorem eqFields_flat {d D : Nat} (ih : ∀ (t : Nat) (ks : List Nat), flatP P d t = some ks → ∀ (a b : List AV) (v u : Value) (r : Bool), KeyV P W ρ M t a v → KeyV P W ρ M t b u → eqCells ks a b = some r → (Op.equalIn D t v u).run P W = .ok r W) {vs us : List Value} :
    ∀ (fs : List Field) (o : Nat) (ks : List Nat) (a b : List AV) (r : Bool), flatFs (flatP P d) fs o = some ks → RVs W ρ M a (vs.drop o) → RVs W ρ M b (us.drop o) → eqCells ks a b = some r → (Op.eqFields D vs.toArray us.toArray fs).run P W = .ok r W := by
  intro fs
  induction fs with
  | nil =>
    intro o ks a b r hf ha hb hc
    simp only [flatFs, Option.some.injEq] at hf
    subst hf
    cases a <;> cases b <;> simp [eqCells] at hc
    subst hc
    simp [Op.eqFields]
  | cons f fs ihf =>
    intro o ks a b r hf ha hb hc
    obtain ⟨kf, kr, rfl, h1, h2, hn, hof⟩ := flatFs_cons hf
    obtain ⟨r1, r2, g1, g2, rfl, g4, g5⟩ := eqCells_append hc
    obtain ⟨z1, p1, k1⟩ := part_keyV h1 ha g4
    obtain ⟨z2, p2, k2⟩ := part_keyV h1 hb g5
    have he := ih _ _ h1 _ _ _ _ _ k1 k2 g1
    have hrest := ihf (o + kf.length) kr _ _ r2 h2 (by have := ha.drop kf.length; rwa [List.drop_drop] at this) (by have := hb.drop kf.length; rwa [List.drop_drop] at this) g2
    rw [← hof] at p1 p2
    simp only [Op.eqFields, if_pos hn, Sem.run_bind, p1, p2, he, Result.andThen_ok]
    cases r1
    · simp
    · simpa using hrest

theorem eqItems_flat {d D e : Nat} {ks : List Nat} (he : flatP P d e = some ks) (ih : ∀ (a b : List AV) (v u : Value) (r : Bool), KeyV P W ρ M e a v → KeyV P W ρ M e b u → eqCells ks a b = some r → (Op.equalIn D e v u).run P W = .ok r W) {vs us : List Value} :
    ∀ (n i : Nat) (a b : List AV) (r : Bool), RVs W ρ M a (vs.drop (i * ks.length)) → RVs W ρ M b (us.drop (i * ks.length)) → eqCells (repK ks n) a b = some r → (Op.eqItems D e ks.length vs.toArray us.toArray (List.range' i n)).run P W = .ok r W := by
  intro n
  induction n with
  | zero =>
    intro i a b r ha hb hc
    simp only [repK] at hc
    cases a <;> cases b <;> simp [eqCells] at hc
    subst hc
    simp [Op.eqItems]
  | succ n ihn =>
    intro i a b r ha hb hc
    simp only [repK] at hc
    obtain ⟨r1, r2, g1, g2, rfl, g4, g5⟩ := eqCells_append hc
    obtain ⟨z1, p1, k1⟩ := part_keyV he ha g4
    obtain ⟨z2, p2, k2⟩ := part_keyV he hb g5
    have hq := ih _ _ _ _ _ k1 k2 g1
    have hm : i * ks.length + ks.length = (i + 1) * ks.length := by rw [Nat.add_mul, Nat.one_mul]
    have hrest := ihn (i + 1) _ _ r2 (by have := ha.drop ks.length; rwa [List.drop_drop, hm] at this) (by have := hb.drop ks.length; rwa [List.drop_drop, hm] at this) g2
    simp only [List.range'_succ, Op.eqItems, Sem.run_bind, p1, p2, hq, Result.andThen_ok]
    cases r1
    · simp
    · simpa using hrest

/-- Two keys are compared cell by cell. -/
theorem eq_flat : ∀ (d t : Nat) (ks : List Nat), flatP P d t = some ks → ∀ (D : Nat), d ≤ D → ∀ (a b : List AV) (v u : Value) (r : Bool), KeyV P W ρ M t a v → KeyV P W ρ M t b u → eqCells ks a b = some r → (Op.equalIn D t v u).run P W = .ok r W := by
  intro d
  induction d with
  | zero => intro t ks h; simp [flatP] at h
  | succ d ih =>
    intro t ks h D hD a b v u r ha hb hc
    obtain ⟨D, rfl⟩ : ∃ D', D = D' + 1 := ⟨D - 1, by omega⟩
    obtain ⟨td, hu, ha⟩ := ha
    obtain ⟨td', hu', hb⟩ := hb
    rw [hu] at hu'
    cases hu'
    simp only [flatP, hu] at h
    have single : ∀ k, aggDesc td = false → [k] = ks → ((k = 0 ∧ P.underlying t = some .bool) ∨ (k = 5 ∧ ∃ q, P.underlying t = some (.int q)) ∨ (k = 6 ∧ P.underlying t = some .string)) → (Op.equalIn (D + 1) t v u).run P W = .ok r W := by
      intro k hag he hk
      subst he
      rw [if_neg (by simp [hag])] at ha hb
      obtain ⟨c1, rfl, q1⟩ := ha
      obtain ⟨c2, rfl, q2⟩ := hb
      have h1 : eqCell k c1 c2 = some r := by
        simp only [eqCells] at hc
        split at hc
        · rename_i r0 s0 e1 e2
          simp only [Option.some.injEq] at hc e2
          subst e2
          rw [e1, ← hc, Bool.and_true]
        · cases hc
      exact eqCell_sound q1 q2 h1 hk
    split at h
    · rename_i he; cases he; exact single 0 rfl (by simpa using h) (.inl ⟨rfl, hu⟩)
    · rename_i q he; cases he; exact single 5 rfl (by simpa using h) (.inr (.inl ⟨rfl, q, hu⟩))
    · rename_i he; cases he; exact single 6 rfl (by simpa using h) (.inr (.inr ⟨rfl, hu⟩))
    · rename_i fs he
      cases he
      split at h
      · rename_i ks' hks
        split at h
        · rename_i hcnd
          simp only [Option.some.injEq] at h
          subst h
          simp only [Bool.and_eq_true, Bool.not_eq_true'] at hcnd
          rw [if_pos (show aggDesc (.struct fs) = true from rfl)] at ha hb
          obtain ⟨vs, rfl, q1⟩ := ha
          obtain ⟨us, rfl, q2⟩ := hb
          have hf : P.fieldsOf t = fs := by simp [Program.fieldsOf, hu]
          rw [run_equalIn_struct (P := P) W D t _ _ (by rw [hf]; exact hu) hcnd.1, hf]
          exact eqFields_flat (fun t ks hk a b v u r => ih t ks hk D (by omega) a b v u r) fs.toList 0 ks' a b r hks (by simpa using q1) (by simpa using q2) hc
        · cases h
      · cases h
    · rename_i n e he
      cases he
      split at h
      · rename_i ks' hks
        split at h
        · rename_i hcnd
          simp only [Option.some.injEq] at h
          subst h
          simp only [Bool.and_eq_true, beq_iff_eq] at hcnd
          rw [if_pos (show aggDesc (.array n e) = true from rfl)] at ha hb
          obtain ⟨vs, rfl, q1⟩ := ha
          obtain ⟨us, rfl, q2⟩ := hb
          obtain ⟨i, hi, hie⟩ := Option.map_eq_some_iff.1 hcnd.2
          have hce : P.cellsOf e = ks'.length := by simp [Program.cellsOf, hi, hie]
          rw [run_equalIn_array (P := P) W D _ _ hu hi, hce, List.range_eq_range']
          exact eqItems_flat hks (fun a b v u r => ih e ks' hks D (by omega) a b v u r) n 0 a b r (by simpa using q1) (by simpa using q2) hc
        · cases h
      · cases h
    · cases h

theorem check_fields {d D : Nat} {em : Bool} (ih : ∀ (t : Nat) (ks : List Nat), flatP P d t = some ks → ∀ (a : List AV) (v : Value), KeyV P W ρ M t a v → a.length = ks.length → (Instr.checkKey em D t v).run P W = .ok () W) {vs : List Value} :
    ∀ (fs : List Field) (o : Nat) (ks : List Nat) (a : List AV), flatFs (flatP P d) fs o = some ks → RVs W ρ M a (vs.drop o) → a.length = ks.length →
      (forIn fs PUnit.unit (fun f _ => (if f.name ≠ "_" then (do
          let x ← part f.type vs.toArray f.offset
          Instr.checkKey em D f.type x
          pure (ForInStep.yield PUnit.unit)) else pure (ForInStep.yield PUnit.unit) : Sem (ForInStep PUnit)))).run P W = .ok PUnit.unit W := by
  intro fs
  induction fs with
  | nil => intro o ks a _ _ _; simp
  | cons f fs ihf =>
    intro o ks a hf ha hl
    obtain ⟨kf, kr, rfl, h1, h2, hn, hof⟩ := flatFs_cons hf
    rw [List.length_append] at hl
    obtain ⟨z1, p1, k1⟩ := part_keyV h1 ha (by omega)
    have he := ih _ _ h1 _ _ k1 (by simp; omega)
    have hrest := ihf (o + kf.length) kr _ h2 (by have := ha.drop kf.length; rwa [List.drop_drop] at this) (by simp; omega)
    rw [← hof] at p1
    simp only [List.forIn_cons, Sem.run_bind, if_pos hn, p1, he, Result.andThen_ok, Sem.run_pure]
    exact hrest

theorem check_items {d D e : Nat} {em : Bool} {ks : List Nat} (he : flatP P d e = some ks) (ih : ∀ (a : List AV) (v : Value), KeyV P W ρ M e a v → a.length = ks.length → (Instr.checkKey em D e v).run P W = .ok () W) (hs : (sizeOf e).run P W = .ok ks.length W) {vs : List Value} :
    ∀ (n i : Nat) (a : List AV), RVs W ρ M a (vs.drop (i * ks.length)) → a.length = (repK ks n).length →
      (forIn (List.range' i n) PUnit.unit (fun i _ => (do
        Instr.checkKey em D e (← part e vs.toArray (i * (← sizeOf e)))
        pure (ForInStep.yield PUnit.unit) : Sem (ForInStep PUnit)))).run P W = .ok PUnit.unit W := by
  intro n
  induction n with
  | zero => intro i a _ _; simp
  | succ n ihn =>
    intro i a ha hl
    simp only [repK, List.length_append] at hl
    obtain ⟨z1, p1, k1⟩ := part_keyV he ha (by omega)
    have hq := ih _ _ k1 (by simp; omega)
    have hm : i * ks.length + ks.length = (i + 1) * ks.length := by rw [Nat.add_mul, Nat.one_mul]
    have hrest := ihn (i + 1) _ (by have := ha.drop ks.length; rwa [List.drop_drop, hm] at this) (by simp; omega)
    simp only [List.range'_succ, List.forIn_cons, Sem.run_bind, hs, p1, hq, Result.andThen_ok, Sem.run_pure]
    exact hrest

/-- Such a key can be a key. -/
theorem check_flat (em : Bool) : ∀ (d t : Nat) (ks : List Nat), flatP P d t = some ks → ∀ (D : Nat), d ≤ D → ∀ (a : List AV) (v : Value), KeyV P W ρ M t a v → a.length = ks.length → (Instr.checkKey em D t v).run P W = .ok () W := by
  intro d
  induction d with
  | zero => intro t ks h; simp [flatP] at h
  | succ d ih =>
    intro t ks h D hD a v ha hl
    obtain ⟨D, rfl⟩ : ∃ D', D = D' + 1 := ⟨D - 1, by omega⟩
    obtain ⟨td, hu, ha⟩ := ha
    simp only [flatP, hu] at h
    split at h
    · rename_i he; cases he; simp [Instr.checkKey, run_underlyingE hu]
    · rename_i q he; cases he; simp [Instr.checkKey, run_underlyingE hu]
    · rename_i he; cases he; simp [Instr.checkKey, run_underlyingE hu]
    · rename_i fs he
      cases he
      split at h
      · rename_i ks' hks
        split at h
        · rename_i hcnd
          simp only [Option.some.injEq] at h
          subst h
          rw [if_pos (show aggDesc (.struct fs) = true from rfl)] at ha
          obtain ⟨vs, rfl, q1⟩ := ha
          have hc := check_fields (em := em) (D := D) (fun t ks hk a v => ih t ks hk D (by omega) a v) fs.toList 0 ks' a hks (by simpa using q1) hl
          simp only [Instr.checkKey, Sem.run_bind, run_underlyingE hu, Result.andThen_ok]
          rw [← Array.forIn_toList, hc]
          simp
        · cases h
      · cases h
    · rename_i n e he
      cases he
      split at h
      · rename_i ks' hks
        split at h
        · rename_i hcnd
          simp only [Option.some.injEq] at h
          subst h
          simp only [Bool.and_eq_true, beq_iff_eq] at hcnd
          rw [if_pos (show aggDesc (.array n e) = true from rfl)] at ha
          obtain ⟨vs, rfl, q1⟩ := ha
          obtain ⟨i, hi, hie⟩ := Option.map_eq_some_iff.1 hcnd.2
          have hs : (sizeOf e).run P W = .ok ks'.length W := by rw [run_sizeOfE hi, hie]
          have hc := check_items (em := em) (D := D) hks (fun a v => ih e ks' hks D (by omega) a v) hs n 0 a (by simpa using q1) hl
          simp only [Instr.checkKey, Sem.run_bind, run_underlyingE hu, Result.andThen_ok]
          simp only [Std.Legacy.Range.forIn_eq_forIn_range', Std.Legacy.Range.size, Nat.sub_zero, Nat.add_one_sub_one, Nat.div_one]
          rw [hc]
          simp
        · cases h
      · cases h
    · cases h

end
end Go.Ev
