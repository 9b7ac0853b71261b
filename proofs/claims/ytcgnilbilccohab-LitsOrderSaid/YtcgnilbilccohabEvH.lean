/- The evaluator Ev, part H: make, copy, clear; every operation. -/
import Derived.Test.YtcgnilbilccohabEvGo
namespace Go.Ev
open Go
set_option linter.unusedSimpArgs false
set_option linter.unusedVariables false

section
variable {P : Program} {T : Tab} {W : World} {ρ : Rho} {S : Store}

theorem flat_take {sz : Nat} : ∀ (els : List (List AV)) (k : Nat), (∀ e ∈ els, e.length = sz) → flatA (els.take k) = (flatA els).take (k * sz)
  | [], k, _ => by simp [flatA]
  | e :: els, 0, _ => by simp [flatA]
  | e :: els, k + 1, h => by
    have he := h e (by simp)
    simp only [List.take_succ_cons, flatA, flat_take els k (fun x hx => h x (by simp [hx]))]
    rw [Nat.add_mul, Nat.one_mul, Nat.add_comm, List.take_add, ← he, List.take_left, List.drop_left]

theorem copy_sound (hT : TabOK P T) (hr : Rel W ρ S) {ty ty' ty2 : Nat} {d x c : AV} {v u : Value} {S' : Store} (hv : RV W ρ (Mut ρ S) d v) (hu : RV W ρ (Mut ρ S) x u) (h : copyA T S ty d x = some (c, S')) :
    ∃ y W', (Builtin.copy_ #[ty, ty2] ty' #[v, u]).run P W = .ok y W' ∧ RV W' ρ (Mut ρ S') c y ∧ Rel W' ρ S' ∧ ∀ n, Ext n ρ S W ρ S' W' := by
  unfold copyA at h
  split at h
  case h_2 => cases h
  rename_i e he
  split at h
  case h_2 => cases h
  rename_i sz hsz
  split at h
  case h_2 => cases h
  rename_i l off len cap sz' new hnew
  split at h
  case isFalse => cases h
  rename_i hse
  obtain ⟨rfl, hpos⟩ := hse
  obtain ⟨S1, hw, hSe⟩ := Option.map_eq_some_iff.1 h
  simp only [Prod.mk.injEq] at hSe
  obtain ⟨rfl, rfl⟩ := hSe
  obtain ⟨i, hi, hie⟩ := hT.sz _ _ hsz
  obtain ⟨hall, A, cu, us, rfl, hus, hul, huc⟩ := elsOf_sound hr hpos hu hnew
  cases hv with
  | @sl _ _ _ _ _ b base cap' ty3 cur hρ hl hcc hb hz =>
    have hft := flat_take new len hall
    have hus' : RVs W ρ (Mut ρ S) (flatA (new.take len)) (us.take (len * sz')) := by rw [hft]; exact hus.take _
    obtain ⟨W', hst, hr', hext⟩ := write_sound (P := P) hr hρ hus' hw
    have hn : Nat.min new.length len = min new.length len := rfl
    have hlen' : (us.take (len * sz')).length = min new.length len * sz' := by
      rw [List.length_take, hul]
      rcases Nat.le_total new.length len with hh | hh
      · rw [Nat.min_eq_left hh, Nat.min_eq_right (Nat.mul_le_mul_right _ hh)]
      · rw [Nat.min_eq_right hh, Nat.min_eq_left (Nat.mul_le_mul_right _ hh)]
    have hfc : (Builtin.firstCells i.size (min new.length len) (.slice A new.length cu)).run P W = .ok (us.take (len * sz')).toArray W := by
      rw [hie]
      have := run_firstCells (P := P) (W := W) (A := A) (m := min new.length len) (c := cu) (sz := sz') (us := us.take (len * sz')) hlen' (fun hne => by
        have : new ≠ [] := by rintro rfl; simp at hne
        obtain ⟨a, rfl, hc⟩ := huc this
        exact ⟨a, rfl, fun j u hj => hc j u (by
          rw [List.getElem?_take] at hj
          split at hj
          · exact hj
          · cases hj)⟩)
      unfold Builtin.firstCells at this ⊢
      cases A <;> exact this
    refine ⟨goInt ((min new.length len : Nat) : Int), W', by simp [Builtin.copy_, run_underlyingE (hT.sle _ _ he), Builtin.lenOf, run_sizeOfE hi, hn, hfc, hst], ?_, hr', hext⟩
    exact RV.int _ _

theorem clear_sound (hT : TabOK P T) (hr : Rel W ρ S) {ty ty' : Nat} {d c : AV} {v : Value} {S' : Store} (hv : RV W ρ (Mut ρ S) d v) (h : clearA T S ty d = some (c, S')) :
    ∃ y W', (Builtin.clear_ #[ty] ty' #[v]).run P W = .ok y W' ∧ RV W' ρ (Mut ρ S') c y ∧ Rel W' ρ S' ∧ ∀ n, Ext n ρ S W ρ S' W' := by
  unfold clearA at h
  split at h
  case h_2 => cases h
  rename_i e he
  split at h
  case h_2 => cases h
  rename_i sz z hsz hz
  split at h
  · rename_i l off len cap sz'
    split at h
    case isFalse => cases h
    rename_i hc
    obtain ⟨rfl, hzl, hpos⟩ := hc
    obtain ⟨S1, hw, hSe⟩ := Option.map_eq_some_iff.1 h
    simp only [Prod.mk.injEq] at hSe
    obtain ⟨rfl, rfl⟩ := hSe
    obtain ⟨i, zv, hi, hzv, hzc, _⟩ := hT.zero _ _ hz
    cases hv with
    | @sl _ _ _ _ _ b base cap' ty3 cur hρ hl hcc hb hz' =>
      have hzs : zv.cells.size = sz' := by rw [← hzl, hzc]; simp
      have hrv : RVs W ρ (Mut ρ S) (repA z len) (repV zv.cells.toList len) := by rw [hzc]; exact repA_rel (zero_rel _) len
      obtain ⟨W', hst, hr', hext⟩ := write_sound (P := P) hr hρ hrv hw
      refine ⟨.tuple #[], W', ?_, RV.undef _ _ _, hr', hext⟩
      by_cases h0 : len = 0
      · subst h0
        simp only [repV, storeCells] at hst
        have : W = W' := by simpa using hst
        subst this
        simp [Builtin.clear_, run_underlyingE (hT.sle _ _ he)]
      · have hzz : Builtin.zeroCells zv.cells len = (repV zv.cells.toList len).toArray := by
          unfold Builtin.zeroCells
          exact zeros_eq zv.cells (by omega) len
        have hne : ∃ k, len = k + 1 := ⟨len - 1, by omega⟩
        obtain ⟨k, rfl⟩ := hne
        simp [Builtin.clear_, run_underlyingE (hT.sle _ _ he), run_zeroE hi hzv, hzz, hst]
  · cases hv
    simp only [Option.some.injEq, Prod.mk.injEq] at h
    obtain ⟨rfl, rfl⟩ := h
    exact ⟨.tuple #[], W, by simp [Builtin.clear_, run_underlyingE (hT.sle _ _ he)], RV.undef _ _ _, hr, fun n => Ext.refl _ _ _ _⟩
  · cases h

theorem wrap64_of {n : Int} (h0 : 0 ≤ n) (h : n ≤ 9223372036854775807) : IntKind.i64.wrap n = n := by
  simp only [IntKind.wrap, IntKind.bits, IntKind.signed]
  have : n % 2 ^ 64 = n := by omega
  simp [this]
  omega

theorem makeSlice_sound (hT : TabOK P T) (hr : Rel W ρ S) {l n ty : Nat} {x y : AV} {v u : Value} {r : (Nat → AV) × Row} (hS : S[l]? = some r.2) (hρ : ρ l = none) (hn : n ≤ l) (hv : RV W ρ (Mut ρ S) x v) (hu : RV W ρ (Mut ρ S) y u) (h : makeSliceA T ty x y = some r) :
    ∃ z W' b, (Instr.makeSlice ty v u).run P W = .ok z W' ∧ RV W' (ρ.set l (b, 0)) (Mut (ρ.set l (b, 0)) S) (r.1 l) z ∧ Rel W' (ρ.set l (b, 0)) S ∧ Ext n ρ S W (ρ.set l (b, 0)) S W' := by
  unfold makeSliceA at h
  split at h
  case h_2 => cases h
  rename_i e n' c' he
  split at h
  case h_2 => cases h
  rename_i sz by_ z hsz hby hz
  split at h
  case isFalse => cases h
  rename_i hc
  simp only [Option.some.injEq] at h
  subst h
  obtain ⟨hzl, hpos, hn0, hnc, hc63, hroom⟩ := hc
  unfold room at hroom
  cases hv; cases hu
  obtain ⟨i, hi, hie⟩ := hT.sz _ _ hsz
  obtain ⟨i2, hi2, hib⟩ := hT.bytes _ _ hby
  obtain rfl : i = i2 := by rw [hi] at hi2; simpa using hi2
  obtain ⟨i3, zv, hi3, hzv, hzc, hzone⟩ := hT.zero _ _ hz
  obtain rfl : i = i3 := by rw [hi] at hi3; simpa using hi3
  subst hie hib
  have hzs : zv.cells.size = i.size := by rw [← hzl, hzc]; simp
  have hrv : RVs W ρ (Mut ρ S) (repA z c'.toNat) (repV zv.cells.toList c'.toNat) := by rw [hzc]; exact repA_rel (zero_rel _) _
  have hone : (repA z c'.toNat).all AV.one = true := by
    generalize c'.toNat = k
    induction k with
    | zero => rfl
    | succ k ih => simp only [repA, List.all_append, hzone, ih, Bool.and_self]
  have hlay := lay_sound hr (l := l) (n := n) (e := e) (vs := repV zv.cells.toList c'.toNat) hS hρ hn hrv hone #[]
  simp only [Array.append_empty] at hlay
  have hw1 := wrap64_of hn0 (by omega : n' ≤ 9223372036854775807)
  have hw2 := wrap64_of (by omega : 0 ≤ c') hc63
  have hsize : ((repV zv.cells.toList c'.toNat).toArray).size = c'.toNat * i.size := by rw [List.size_toArray, length_repV]; simp [hzs]
  refine ⟨.slice (some ⟨W.heap.size, 0, none⟩) n'.toNat c'.toNat, _, W.heap.size, ?_, ?_, hlay.1, hlay.2⟩
  · have hnt : ¬ (c' < 0 ∨ 281474976710656 < (i.bytes : Int) * c') := by
      have : (i.bytes : Int) * c' = ((c'.toNat * i.bytes : Nat) : Int) := by
        rw [Int.natCast_mul, Int.toNat_of_nonneg (by omega), Int.mul_comm]
      omega
    have hnl : ¬ (n' < 0) := by omega
    have hnc' : ¬ (c' < n') := by omega
    have hd1 : ¬ c' < 0 := by omega
    have hd2 : ¬ (281474976710656 < (i.bytes : Int) * c') := fun hh => hnt (.inr hh)
    have hzz : ∀ k : Nat, 0 < k → (Array.range (k * i.size)).map (zv.cells[· % zv.cells.size]!) = (repV zv.cells.toList k).toArray := fun k _ => by rw [← hzs]; exact zeros_eq zv.cells (by omega) k
    by_cases h0 : c'.toNat = 0
    · simp [Instr.makeSlice, run_underlyingE (hT.sle _ _ he), asInt, asIntOf, run_typeInfoE hi, hw1, hw2, hnl, hnc', hd1, hd2, h0, newRow, repV, run_sizeOfE hi]
      have hr0 : ∀ f : Nat → Value, Array.map f (Array.range 0) = #[] := fun f => by simp
      rw [hr0]
    · have hm : ¬ (c'.toNat * i.size = 0) := Nat.mul_ne_zero h0 (by omega)
      have hzz' := hzz c'.toNat (by omega)
      simp [Instr.makeSlice, run_underlyingE (hT.sle _ _ he), asInt, asIntOf, run_typeInfoE hi, hw1, hw2, hnl, hnc', hd1, hd2, newRow, run_sizeOfE hi, hm, run_zeroE hi hzv]
      rw [hzz']
  · have := RV.sl (W := W.alloc (.cells (repV zv.cells.toList c'.toNat).toArray e)) (ρ := ρ.set l (W.heap.size, 0)) (M := Mut (ρ.set l (W.heap.size, 0)) S) (l := l) (off := 0) (len := n'.toNat) (cap := c'.toNat) (sz := i.size) (b := W.heap.size) (base := 0) (cap' := c'.toNat) (ty := e)
      (by simp [Rho.set]) (by omega) (Nat.le_refl _) (alloc_new W _) (by rw [hsize]; omega)
    simpa using this

/-! ### Every operation -/
theorem TR.parts {M : Nat → Prop} {X : FX} {t : Tmps} {a : Act} (ht : TR X W ρ M t a) (ps : Array (Nat × Operand)) :
    (partsA t ps).length = (ps.map fun (i, x) => (i, a.eval x)).toList.length ∧ ∀ (i : Nat) (p : Nat × AV) (q : Nat × Value), (partsA t ps)[i]? = some p → (ps.map fun (i, x) => (i, a.eval x)).toList[i]? = some q → p.1 = q.1 ∧ RV W ρ M p.2 q.2 := by
  refine ⟨by simp [partsA], fun i p q h1 h2 => ?_⟩
  simp only [partsA, List.getElem?_map, Array.toList_map, Option.map_eq_some_iff] at h1 h2
  obtain ⟨x, hx, rfl⟩ := h1
  obtain ⟨y, hy, rfl⟩ := h2
  rw [hx] at hy
  simp at hy
  subst hy
  exact ⟨rfl, ht.opd _⟩

theorem TR.opt {M : Nat → Prop} {X : FX} {t : Tmps} {a : Act} (ht : TR X W ρ M t a) (x : Option Operand) : ORV W ρ M (x.map (Ev.opd t)) (x.map a.eval) := by
  cases x with
  | none => trivial
  | some x => exact ht.opd x

theorem evP_sound (hT : TabOK P T) (hr : Rel W ρ S) {X : FX} {t : Tmps} {a : Act} (ht : TR X W ρ (Mut ρ S) t a) {o : Oper} {c : AV} (h : evP T t S o.op = some c) :
    ∃ x W', (execOp a.eval o).run P W = .ok (.value x) W' ∧ Still W W' ∧ RV W' ρ (Mut ρ S) c x := by
  unfold evP at h
  split at h
  · rename_i x ho
    simp only [Option.some.injEq] at h
    subst h
    exact ⟨a.eval x, W, by simp [execOp, ho], Still.refl W, ht.opd x⟩
  · rename_i x ho
    simp only [Option.some.injEq] at h
    subst h
    exact ⟨a.eval x, W, by simp [execOp, ho], Still.refl W, ht.opd x⟩
  · rename_i b x y ho
    have hb := ht.opd b
    split at h
    · rename_i hbt
      rw [hbt] at hb
      simp only [Option.some.injEq] at h
      subst h
      generalize hv : a.eval b = v at hb
      cases hb
      exact ⟨a.eval x, W, by simp [execOp, ho, hv, asBool], Still.refl W, ht.opd x⟩
    · rename_i hbt
      rw [hbt] at hb
      simp only [Option.some.injEq] at h
      subst h
      generalize hv : a.eval b = v at hb
      cases hb
      exact ⟨a.eval y, W, by simp [execOp, ho, hv, asBool], Still.refl W, ht.opd y⟩
    · cases h
  · rename_i ty ps ho
    obtain ⟨x, h1, h2⟩ := build_sound (W := W) hT (ht.parts ps).1 (ht.parts ps).2 h
    exact ⟨x, W, by simp [execOp, ho, h1], Still.refl W, h2⟩
  · rename_i ty n ps ho
    obtain ⟨x, W', h1, h2, h3⟩ := buildSlice_sound hT hr (ht.parts ps).1 (ht.parts ps).2 h
    exact ⟨x, W', by simp [execOp, ho, h1], h2, h3⟩
  · rename_i ty x ho
    obtain ⟨y, h1, h2⟩ := loadA_sound hT hr (ht.opd x) h
    exact ⟨y, W, by simp [execOp, ho, h1], Still.refl W, h2⟩
  · rename_i x ho
    have hx := ht.opd x
    split at h
    · rename_i l o hxo
      rw [hxo] at hx
      simp only [Option.some.injEq] at h
      subst h
      generalize hv : a.eval x = v at hx
      cases hx with
      | ptr o hρ => exact ⟨_, W, by simp [execOp, ho, hv], Still.refl W, .ptr o hρ⟩
    · rename_i e i o hxo
      rw [hxo] at hx
      simp only [Option.some.injEq] at h
      subst h
      generalize hv : a.eval x = v at hx
      cases hx with
      | fptr i o vs hs hM hB h1 h2 => exact ⟨_, W, by simp [execOp, ho, hv], Still.refl W, .fptr i o vs hs hM hB h1 h2⟩
    · cases h
  · rename_i op ty x y yt ho
    obtain ⟨z, h1, h2⟩ := bin_sound hT x y (ht.opd x) (ht.opd y) h
    exact ⟨z, W, by simp only [execOp, ho, Sem.run_bind, Sem.run_pure]; rw [← Sem.run_bind, h1]; rfl, Still.refl W, h2⟩
  · rename_i op ty x ho
    obtain ⟨z, h1, h2⟩ := un_sound (P := P) (W := W) (ht.opd x) h
    exact ⟨z, W, by simp [execOp, ho, h1], Still.refl W, h2⟩
  · rename_i f first caps ho
    simp only [Option.some.injEq] at h
    subst h
    have h1 := ht.opds first.toList
    have h2 := ht.opds caps.toList
    refine ⟨.func (.func f) (first.map a.eval) (caps.map a.eval), W, by simp [execOp, ho, Instr.makeFunc], Still.refl W, ?_⟩
    have := RV.func (W := W) (ρ := ρ) (M := Mut ρ S) f h1.1 h2.1 h1.2 h2.2
    have e1 : (first.toList.map a.eval).toArray = first.map a.eval := Array.toList_inj.1 (by simp)
    have e2 : (caps.toList.map a.eval).toArray = caps.map a.eval := Array.toList_inj.1 (by simp)
    rwa [e1, e2] at this
  · rename_i ty x lo hi ho
    obtain ⟨y, h1, h2⟩ := sliceB_sound (P := P) (W := W) hT hr (ht.opd x) (ht.opt lo) (ht.opt hi) h
    exact ⟨y, W, by simp [execOp, ho, h1], Still.refl W, h2⟩
  · rename_i s x f ho
    split at h
    · rename_i n hn
      obtain ⟨y, h1, h2⟩ := fieldAddr_sound (W := W) hT (ht.opd x) hn h
      exact ⟨y, W, by simp [execOp, ho, h1], Still.refl W, h2⟩
    · cases h
  · rename_i ty x i ho
    obtain ⟨y, h1, h2⟩ := index_sound (W := W) hT (ht.opd x) (ht.opd i) h
    exact ⟨y, W, by simp [execOp, ho, h1], Still.refl W, h2⟩
  · rename_i x i ho
    obtain ⟨y, h1, h2⟩ := extract_sound (P := P) (W := W) (ht.opd x) h
    exact ⟨y, W, by simp [execOp, ho, h1], Still.refl W, h2⟩
  · rename_i src dst x ho
    obtain ⟨y, h1, h2⟩ := convert_sound (P := P) (W := W) hT (ht.opd x) h
    exact ⟨y, W, by simp [execOp, ho, h1], Still.refl W, h2⟩
  · rename_i ty x i ho
    obtain ⟨y, h1, h2⟩ := indexV_sound (P := P) (W := W) hT (ht.opd x) (ht.opd i) h
    exact ⟨y, W, by simp [execOp, ho, h1], Still.refl W, h2⟩
  · rename_i ty x f ho
    obtain ⟨y, h1, h2⟩ := fieldV_sound (P := P) (W := W) hT (ht.opd x) h
    exact ⟨y, W, by simp [execOp, ho, h1], Still.refl W, h2⟩
  · rename_i ty x k ok ho
    obtain ⟨y, h1, h2⟩ := lookup_sound hT hr (ht.opd x) (ht.opd k) h
    exact ⟨y, W, by simp [execOp, ho, h1], Still.refl W, h2⟩
  · rename_i xs tys ho
    split at h
    · rename_i x ty hx hty
      obtain rfl : xs = #[x] := Array.toList_inj.1 (by simpa using hx)
      obtain rfl : tys = #[ty] := Array.toList_inj.1 (by simpa using hty)
      obtain ⟨y, h1, h2⟩ := lenB_sound (W := W) (ty' := o.type) hT hr (ht.opd x) h
      exact ⟨y, W, by simp [execOp, ho, resolve, invoke, builtin, h1], Still.refl W, h2⟩
    · cases h
  · rename_i xs tys ho
    split at h
    · rename_i x y hx
      obtain rfl : xs = #[x, y] := Array.toList_inj.1 (by simpa using hx)
      obtain ⟨z, h1, h2⟩ := max2_sound (P := P) (W := W) (ht.opd x) (ht.opd y) h
      exact ⟨z, W, by simp [execOp, ho, resolve, invoke, builtin, Builtin.max_, h1], Still.refl W, h2⟩
    · cases h
  · rename_i xs tys ho
    split at h
    · rename_i x y hx
      obtain rfl : xs = #[x, y] := Array.toList_inj.1 (by simpa using hx)
      obtain ⟨z, h1, h2⟩ := min2_sound (P := P) (W := W) (ht.opd x) (ht.opd y) h
      exact ⟨z, W, by simp [execOp, ho, resolve, invoke, builtin, Builtin.min_, h1], Still.refl W, h2⟩
    · cases h
  · cases h

end
end Go.Ev
