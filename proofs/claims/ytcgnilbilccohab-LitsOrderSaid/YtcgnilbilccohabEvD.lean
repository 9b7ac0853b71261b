/- The evaluator Ev, part D: building values and slices; rows laid and written. -/
import Derived.Test.YtcgnilbilccohabEvC
import Derived.Laws.Tables
namespace Go.Ev
open Go
set_option linter.unusedSimpArgs false
set_option linter.unusedVariables false

section
variable {P : Program} {T : Tab} {W : World} {ρ : Rho} {S : Store}

theorem foldl_zipIdx (off : Nat) : ∀ (l : List Value) (k : Nat) (arr : Array Value), off + k + l.length ≤ arr.size →
    (l.zipIdx k).foldl (fun (cs : Array Value) (p : Value × Nat) => cs.setIfInBounds (off + p.2) p.1) arr = (setN arr.toList (off + k) l).toArray
  | [], k, arr, h => by simp [setN]
  | v :: rest, k, arr, h => by
    simp only [List.length_cons] at h
    rw [List.zipIdx_cons, List.foldl_cons, foldl_zipIdx off rest (k + 1) _ (by simp; omega)]
    congr 1
    have e := list_seg_step arr.toList (off + k) v rest (by simp; omega)
    simpa [setN, Array.toList_setIfInBounds, Nat.add_assoc] using e

theorem cells_rel {M : Nat → Prop} {c : AV} {v : Value} {cs : List AV} (hv : RV W ρ M c v) (h : c.cellsOf = some cs) : RVs W ρ M cs v.cells.toList := by
  cases hv with
  | agg hl hh =>
    simp only [AV.cellsOf, Option.some.injEq] at h
    subst h
    exact ⟨by simpa [Value.cells] using hl, fun i c v h1 h2 => hh i c v h1 (by simpa [Value.cells] using h2)⟩
  | junk v => simp [AV.cellsOf] at h
  | _ =>
    simp only [AV.cellsOf, Option.some.injEq] at h
    subst h
    refine RVs.cons ?_ (RVs.nil W ρ M)
    constructor <;> assumption

theorem setN_rel {M : Nat → Prop} {cs ns : List AV} {vs us : List Value} (o : Nat) (h : RVs W ρ M cs vs) (k : RVs W ρ M ns us) : RVs W ρ M (setN cs o ns) (setN vs o us) := by
  have hl := k.1
  refine RVs.append (RVs.append ⟨by simp [h.1], fun i c v h1 h2 => ?_⟩ k) ⟨by simp [h.1, hl], fun i c v h1 h2 => ?_⟩
  · rw [List.getElem?_take] at h1 h2
    split at h1
    · rename_i hi; rw [if_pos hi] at h2; exact h.2 i c v h1 h2
    · cases h1
  · rw [List.getElem?_drop] at h1 h2
    rw [hl] at h1
    exact h.2 _ c v h1 h2

theorem length_setN {α : Type} (cs ns : List α) (o : Nat) (h : o + ns.length ≤ cs.length) : (setN cs o ns).length = cs.length := by
  simp [setN]; omega

theorem fill_sound {M : Nat → Prop} {place : Nat → Option (Nat × Nat)} : ∀ (ps : List (Nat × AV)) (qs : List (Nat × Value)) (cs : List AV) (vs : List Value) (cs' : List AV), RVs W ρ M cs vs →
    ps.length = qs.length → (∀ (i : Nat) (p : Nat × AV) (q : Nat × Value), ps[i]? = some p → qs[i]? = some q → p.1 = q.1 ∧ RV W ρ M p.2 q.2) → fillA place cs ps = some cs' →
    ∃ vs', Instr.fill place vs.toArray qs = some vs'.toArray ∧ RVs W ρ M cs' vs'
  | [], qs, cs, vs, cs', h, hl, hp, hf => by
    obtain rfl : qs = [] := List.eq_nil_of_length_eq_zero hl.symm
    simp only [fillA, Option.some.injEq] at hf
    subst hf
    exact ⟨vs, rfl, h⟩
  | (i, c) :: ps, [], cs, vs, cs', h, hl, hp, hf => by simp at hl
  | (i, c) :: ps, (i', v) :: qs, cs, vs, cs', h, hl, hp, hf => by
    obtain ⟨he, hv⟩ := hp 0 _ _ rfl rfl
    simp only at he hv
    subst he
    simp only [fillA] at hf
    split at hf
    · rename_i off size ns hpl hcs
      split at hf
      · rename_i hle
        obtain ⟨hsz, hle⟩ := hle
        have hn := cells_rel hv hcs
        have hsize : v.cells.size = size := by rw [← hsz, hn.1, Array.length_toList]
        have hfit : off + v.cells.size ≤ vs.length := by rw [hsize, ← hsz, ← h.1]; exact hle
        obtain ⟨vs', h1, h2⟩ := fill_sound ps qs _ (setN vs off v.cells.toList) cs' (setN_rel off h hn) (by simpa using hl) (fun i p q a b => hp (i + 1) p q (by simpa using a) (by simpa using b)) hf
        refine ⟨vs', ?_, h2⟩
        have hfold : (v.cells.zipIdx.foldl (fun cs (x : Value × Nat) => cs.setIfInBounds (off + x.2) x.1) vs.toArray) = (setN vs off v.cells.toList).toArray := by
          have := foldl_zipIdx off v.cells.toList 0 vs.toArray (by simpa using hfit)
          rw [← Array.foldl_toList, Array.toList_zipIdx]
          simpa using this
        have hno : ¬ (v.cells.size ≠ size ∨ off + v.cells.size > vs.length) := by simp [hsize] at hfit ⊢; omega
        simp only [Instr.fill, hpl]
        rw [if_neg (by simpa using hno)]
        rw [show (v.cells.zipIdx.foldl (fun cs (c, j) => cs.setIfInBounds (off + j) c) vs.toArray) = (v.cells.zipIdx.foldl (fun cs (x : Value × Nat) => cs.setIfInBounds (off + x.2) x.1) vs.toArray) from rfl, hfold]
        exact h1
      · cases hf
    · cases hf

/-! ### New blocks that nobody writes -/
structure Still (W W' : World) : Prop where
  os : W'.os = W.os
  tape : W'.tape = W.tape
  output : W'.output = W.output
  size : W.heap.size ≤ W'.heap.size
  heap : ∀ b, b < W.heap.size → W'.heap[b]? = W.heap[b]?

theorem Still.refl (W : World) : Still W W := ⟨rfl, rfl, rfl, Nat.le_refl _, fun _ _ => rfl⟩
theorem alloc_old (W : World) (o : Obj) {b : Nat} (hb : b < W.heap.size) : (W.alloc o).heap[b]? = W.heap[b]? := by
  show (W.heap.push o)[b]? = _
  rw [Array.getElem?_push, if_neg (by omega)]
theorem alloc_new (W : World) (o : Obj) : (W.alloc o).heap[W.heap.size]? = some o := by
  show (W.heap.push o)[W.heap.size]? = _
  rw [Array.getElem?_push, if_pos rfl]
theorem Still.alloc (W : World) (o : Obj) : Still W (W.alloc o) := ⟨rfl, rfl, rfl, by simp, fun b hb => alloc_old W o hb⟩
theorem Still.drew (W : World) : Still W W.drew := ⟨rfl, rfl, rfl, Nat.le_refl _, fun _ _ => rfl⟩
theorem Still.trans {W W' W'' : World} (h : Still W W') (k : Still W' W'') : Still W W'' :=
  ⟨k.os.trans h.os, k.tape.trans h.tape, k.output.trans h.output, Nat.le_trans h.size k.size, fun b hb => (k.heap b (Nat.lt_of_lt_of_le hb h.size)).trans (h.heap b hb)⟩

theorem Still.rv {W W' : World} (h : Still W W') {M : Nat → Prop} {c : AV} {v : Value} (hv : RV W ρ M c v) : RV W' ρ M c v :=
  RV.ext (fun _ _ h => h) h.size (fun b hb _ => h.heap b hb) (fun _ _ h => h) (fun b c t fr hc => ⟨c, (h.heap b (heap_lt hc)).trans hc, rfl⟩) hv

theorem Still.rvs {W W' : World} (h : Still W W') {M : Nat → Prop} {cs : List AV} {vs : List Value} (hv : RVs W ρ M cs vs) : RVs W' ρ M cs vs :=
  ⟨hv.1, fun i c v a b => h.rv (hv.2 i c v a b)⟩

theorem Still.rowRel {W W' : World} (h : Still W W') {M : Nat → Prop} {b base : Nat} (hb : b < W.heap.size) {r : Row} (hr : RowRel W ρ M b base r) : RowRel W' ρ M b base r := by
  cases r with
  | cells cs t =>
    obtain ⟨c, h1, h2, h3⟩ := hr
    exact ⟨c, (h.heap b hb).trans h1, h2, fun j a hj => by obtain ⟨g1, v, g2, g3⟩ := h3 j a hj; exact ⟨g1, v, g2, h.rv g3⟩⟩
  | map es clk =>
    obtain ⟨h0, ms, h1, h2, h3⟩ := hr
    exact ⟨h0, ms, (h.heap b hb).trans h1, h2, fun j e m he hm => ⟨h.rv (h3 j e m he hm).1, h.rv (h3 j e m he hm).2.1, (h3 j e m he hm).2.2⟩⟩
  | iter m since seen last =>
    obtain ⟨h0, mb, h1, h2⟩ := hr
    refine ⟨h0, mb, (h.heap b hb).trans h1, ?_⟩
    cases m with
    | none => exact h2
    | some l => obtain ⟨b', e1, e2⟩ := h2; exact ⟨b', e1, h.rv e2⟩
  | loop f ps t st j =>
    obtain ⟨h0, r, h1, h2, h3, h4, h5, h6⟩ := hr
    exact ⟨h0, r, (h.heap b hb).trans h1, h2, h3, h4, fun i => h.rv (h5 i), h6⟩
  | dead => trivial

theorem Still.rel {W W' : World} (h : Still W W') (hr : Rel W ρ S) : Rel W' ρ S where
  dom := fun l b base hl => ⟨(hr.dom l b base hl).1, Nat.lt_of_lt_of_le (hr.dom l b base hl).2 h.size⟩
  rows := fun l r b base hS hl => h.rowRel (hr.dom l b base hl).2 (hr.rows l r b base hS hl)
  inj := hr.inj

theorem Still.ext {W W' : World} (h : Still W W') (n : Nat) (ρ : Rho) (S : Store) : Ext n ρ S W ρ S W' :=
  ⟨h.os, h.tape, h.output, h.size, fun b hb _ => h.heap b hb, fun _ _ h => h, fun _ _ h => h, fun b c t fr hc => ⟨c, (h.heap b (heap_lt hc)).trans hc, rfl⟩, fun _ _ h h' => (by rw [h'] at h; cases h), Nat.le_refl _⟩

theorem Still.tr {W W' : World} (h : Still W W') {X : FX} {M : Nat → Prop} {t : Tmps} {a : Act} (ht : TR X W ρ M t a) : TR X W' ρ M t a := by
  refine ⟨ht.len, fun i => h.rv (ht.val i), ?_, Nat.le_trans ht.begun h.size, ht.rnd⟩
  obtain ⟨rs, h1, h2, h3⟩ := ht.defers
  exact ⟨rs, h1, h2, fun r hr => ⟨(h3 r hr).1, (h3 r hr).2.1, (h.heap r (heap_lt (h3 r hr).2.2)).trans (h3 r hr).2.2⟩⟩

theorem mut_lt (hr : Rel W ρ S) {b : Nat} (h : Mut ρ S b) : b < W.heap.size := by
  obtain ⟨l, base, r, _, _, hl⟩ := h
  exact (hr.dom l b base hl).2

/-! ### build, buildSlice -/
theorem zero_rel {M : Nat → Prop} (vs : List Value) : RVs W ρ M (vs.map ofConst) vs := by
  induction vs with
  | nil => exact RVs.nil W ρ M
  | cons v vs ih => exact RVs.cons (RV.const W ρ M v) ih

theorem build_sound (hT : TabOK P T) {M : Nat → Prop} {ty : Nat} {ps : List (Nat × AV)} {qs : Array (Nat × Value)} {c : AV} (hl : ps.length = qs.toList.length)
    (hp : ∀ (i : Nat) (p : Nat × AV) (q : Nat × Value), ps[i]? = some p → qs.toList[i]? = some q → p.1 = q.1 ∧ RV W ρ M p.2 q.2) (h : buildA T ty ps = some c) :
    ∃ x, (Instr.build ty qs).run P W = .ok x W ∧ RV W ρ M c x := by
  unfold buildA at h
  split at h
  · rename_i z hz
    obtain ⟨i, v, hi, hv, rfl, _⟩ := hT.zero _ _ hz
    split at h
    · rename_i pl hpl
      obtain ⟨fs, hu, hm⟩ := hT.parts _ _ hpl
      obtain ⟨cs', hf, rfl⟩ := Option.map_eq_some_iff.1 h
      obtain ⟨vs', h1, h2⟩ := fill_sound ps qs.toList _ v.cells.toList cs' (zero_rel _) hl hp hf
      refine ⟨.agg vs'.toArray, run_build W ty qs _ ?_, .agg h2.1 h2.2⟩
      simp only [Program.built, hi, hu, hv, hm]
      have : (fun x : Nat => pl.toArray[x]?) = fun i : Nat => pl[i]? := by funext x; simp
      rw [this]
      simpa using h1
    · split at h
      · rename_i n e ha
        split at h
        · rename_i sz hs
          obtain ⟨ie, hie, rfl⟩ := hT.sz _ _ hs
          obtain ⟨cs', hf, rfl⟩ := Option.map_eq_some_iff.1 h
          obtain ⟨vs', h1, h2⟩ := fill_sound ps qs.toList _ v.cells.toList cs' (zero_rel _) hl hp hf
          refine ⟨.agg vs'.toArray, run_build W ty qs _ ?_, .agg h2.1 h2.2⟩
          simp only [Program.built, hi, hT.arr _ _ _ ha, hv, hie]
          simpa using h1
        · cases h
      · cases h
  · cases h

def repV (z : List Value) : Nat → List Value
  | 0 => []
  | n + 1 => z ++ repV z n

theorem length_repV (z : List Value) : ∀ n, (repV z n).length = n * z.length
  | 0 => by simp [repV]
  | n + 1 => by simp [repV, length_repV z n, Nat.add_mul]; omega

theorem repV_get (z : List Value) (hz : 0 < z.length) : ∀ (n i : Nat), i < n * z.length → (repV z n)[i]? = z[i % z.length]?
  | 0, i, h => by simp at h
  | n + 1, i, h => by
    simp only [repV, List.getElem?_append]
    split
    · rename_i hi; rw [Nat.mod_eq_of_lt hi]
    · rename_i hi
      rw [repV_get z hz n (i - z.length) (by rw [Nat.add_mul] at h; omega)]
      congr 1
      conv => rhs; rw [← Nat.sub_add_cancel (Nat.le_of_not_lt hi)]
      rw [Nat.add_mod_right]

theorem zeros_eq (z : Array Value) (hz : 0 < z.size) (n : Nat) : ((Array.range (n * z.size)).map (z[· % z.size]!)) = (repV z.toList n).toArray := by
  apply Array.ext_getElem?
  intro i
  simp only [Array.getElem?_map, List.getElem?_toArray]
  by_cases hi : i < n * z.size
  · rw [repV_get z.toList (by simpa using hz) n i (by simpa using hi)]
    have h1 : (Array.range (n * z.size))[i]? = some i := by simp [Array.getElem?_range, hi]
    rw [h1]
    have hm : i % z.size < z.size := Nat.mod_lt _ hz
    simp [hm]
  · have h1 : (Array.range (n * z.size))[i]? = none := by simp [Array.getElem?_range, hi]
    rw [h1, List.getElem?_eq_none (by rw [length_repV]; simp; omega)]
    rfl

theorem repA_rel {M : Nat → Prop} {zc : List AV} {zv : List Value} (h : RVs W ρ M zc zv) : ∀ n, RVs W ρ M (repA zc n) (repV zv n)
  | 0 => RVs.nil W ρ M
  | n + 1 => RVs.append h (repA_rel h n)

theorem chunk_get (sz : Nat) : ∀ (n : Nat) (cs : List AV) (i : Nat) (e : List AV), (chunk sz cs n)[i]? = some e → e = (cs.drop (i * sz)).take sz ∧ i < n
  | 0, cs, i, e, h => by simp [chunk] at h
  | n + 1, cs, 0, e, h => by simp [chunk] at h; simp [h.symm]
  | n + 1, cs, i + 1, e, h => by
    simp only [chunk, List.getElem?_cons_succ] at h
    obtain ⟨h1, h2⟩ := chunk_get sz n _ i e h
    rw [List.drop_drop] at h1
    exact ⟨by rw [h1, Nat.add_mul]; congr 2; omega, by omega⟩

theorem length_chunk (sz : Nat) : ∀ (n : Nat) (cs : List AV), (chunk sz cs n).length = n
  | 0, cs => rfl
  | n + 1, cs => by simp [chunk, length_chunk sz n]

/-- A row just laid, as a frozen slice. -/
theorem frozen_new (hr : Rel W ρ S) {sz n e : Nat} {cs : List AV} {vs : List Value} (hlen : cs.length = n * sz) (h : RVs W ρ (Mut ρ S) cs vs) :
    RV (W.alloc (.cells vs.toArray e)) ρ (Mut ρ S) (.fsl true (chunk sz cs n)) (.slice (some ⟨W.heap.size, 0, none⟩) n n) := by
  have hst := Still.alloc W (.cells vs.toArray e)
  have hvs : vs.length = n * sz := by rw [← h.1, hlen]
  have hcell : ∀ j (x : Value), vs[j]? = some x → (W.alloc (.cells vs.toArray e)).cell? ⟨W.heap.size, j, none⟩ = some x := by
    intro j x hj
    exact cell_of_row (alloc_new W _) (by simpa using hj)
  have key : ∀ (i j : Nat) (el : List AV) (c : AV), (chunk sz cs n)[i]? = some el → el[j]? = some c → cs[i * sz + j]? = some c ∧ i * sz + j < vs.length := by
    intro i j el c hi hj
    obtain ⟨rfl, hin⟩ := chunk_get sz n cs i el hi
    rw [List.getElem?_take] at hj
    split at hj
    · rw [List.getElem?_drop] at hj
      refine ⟨hj, ?_⟩
      rw [← h.1]
      exact (List.getElem?_eq_some_iff.1 hj).1
    · cases hj
  have := RV.fsl (W := W.alloc (.cells vs.toArray e)) (ρ := ρ) (M := Mut ρ S) (x := true) (els := chunk sz cs n) (b := W.heap.size) (off := 0) (sz := sz) (cap := n) (fun i j => (vs[i * sz + j]?).getD undef)
    (fun i el hi => by
      obtain ⟨rfl, hin⟩ := chunk_get sz n cs i el hi
      rw [List.length_take, List.length_drop, hlen]
      have : i * sz + sz ≤ n * sz := by rw [← Nat.succ_mul]; exact Nat.mul_le_mul_right _ hin
      omega)
    (fun hm => by have := mut_lt hr hm; omega) (by simp) (by rw [length_chunk]; exact Nat.le_refl _) (fun _ => (length_chunk sz n cs).symm)
    (fun i j el c hi hj => by
      obtain ⟨h1, h2⟩ := key i j el c hi hj
      rw [Nat.zero_add]
      exact hcell _ _ (by rw [List.getElem?_eq_getElem h2]; rfl))
    (fun i j el c hi hj => by
      obtain ⟨h1, h2⟩ := key i j el c hi hj
      rw [List.getElem?_eq_getElem h2]
      exact hst.rv (h.2 _ c _ h1 (List.getElem?_eq_getElem h2)))
  rwa [length_chunk] at this

theorem repA_length (z : List AV) : ∀ n, (repA z n).length = n * z.length
  | 0 => by simp [repA]
  | n + 1 => by simp [repA, repA_length z n, Nat.add_mul]; omega

theorem fillA_length {place : Nat → Option (Nat × Nat)} : ∀ (ps : List (Nat × AV)) (cs cs' : List AV), fillA place cs ps = some cs' → cs'.length = cs.length
  | [], cs, cs', h => by simp [fillA] at h; rw [h]
  | (i, c) :: ps, cs, cs', h => by
    simp only [fillA] at h
    split at h
    · split at h
      · rename_i hle
        rw [fillA_length ps _ _ h, length_setN _ _ _ hle.2]
      · cases h
    · cases h

theorem buildSlice_sound (hT : TabOK P T) (hr : Rel W ρ S) {ty n : Nat} {ps : List (Nat × AV)} {qs : Array (Nat × Value)} {c : AV} (hl : ps.length = qs.toList.length)
    (hp : ∀ (i : Nat) (p : Nat × AV) (q : Nat × Value), ps[i]? = some p → qs.toList[i]? = some q → p.1 = q.1 ∧ RV W ρ (Mut ρ S) p.2 q.2) (h : buildSliceA T ty n ps = some c) :
    ∃ x W', (Instr.buildSlice ty n qs).run P W = .ok x W' ∧ Still W W' ∧ RV W' ρ (Mut ρ S) c x := by
  unfold buildSliceA at h
  split at h
  · rename_i e he
    split at h
    · rename_i sz z hs hz
      split at h
      · rename_i hc
        obtain ⟨hzl, hpos, hroom⟩ := hc
        obtain ⟨cs, hf, rfl⟩ := Option.map_eq_some_iff.1 h
        obtain ⟨i, v, hi, hv, rfl, _⟩ := hT.zero _ _ hz
        obtain ⟨i', hi', hsz⟩ := hT.sz _ _ hs
        obtain rfl : i = i' := by rw [hi] at hi'; simpa using hi'
        simp only [List.length_map, Array.length_toList] at hzl
        obtain ⟨vs', h1, h2⟩ := fill_sound ps qs.toList _ _ cs (repA_rel (zero_rel v.cells.toList) n) hl hp hf
        have hlen : cs.length = n * sz := by rw [fillA_length _ _ _ hf, repA_length]; simp [hzl]
        refine ⟨_, _, ?_, Still.alloc W (.cells vs'.toArray e), frozen_new hr hlen h2⟩
        have hz' : (Array.range (n * sz)).map (v.cells[· % v.cells.size]!) = (repV v.cells.toList n).toArray := by rw [← hzl]; exact zeros_eq _ (by omega) n
        subst hsz
        have hroom' : ¬ (n * i.size > 2 ^ 24) := by omega
        have hrun : (Instr.buildSlice ty n qs).run P W = .ok (.slice (some ⟨W.heap.size, 0, none⟩) n n) (W.alloc (.cells vs'.toArray e)) := by
          unfold Instr.buildSlice
          by_cases hn : n = 0
          · subst hn
            have hz0 : Instr.fill (fun i_1 => some (i_1 * i.size, i.size)) #[] qs.toList = some vs'.toArray := by simpa [repV] using h1
            have hr0 : ∀ f : Nat → Value, Array.map f (Array.range 0) = #[] := fun f => by simp
            simp [run_underlyingE (hT.sle _ _ he), run_sizeOfE hi, newRow, hr0, hz0]
          · have hne : ¬ (n * i.size = 0) := Nat.mul_ne_zero hn (by omega)
            rw [← hz'] at h1
            have h1' : Instr.fill (fun x => some (x * i.size, i.size)) (Array.map (fun x => v.cells[x % v.cells.size]!) (Array.range (n * i.size))) qs.toList = some vs'.toArray := h1
            simp only [Sem.run_bind, run_underlyingE (hT.sle _ _ he), Result.andThen_ok, run_sizeOfE hi, if_neg hroom', if_neg hne, run_zeroE hi hv, Sem.run_pure, Sem.run_ite, h1']
            simp [newRow]
        exact hrun
      · cases h
    · cases h
  · cases h

end
end Go.Ev
