/- The evaluator Ev, part C: each operation that reads, lays a row or writes does to real memory what the evaluator tells. -/
import Derived.Test.YtcgnilbilccohabEvB
import Derived.Laws.StructEq
import Derived.Laws.OwnMore
import Derived.Laws.MakeOwn
import Derived.Laws.Slices
import Derived.Deep.AppendLies
namespace Go.Ev
open Go
set_option linter.unusedSimpArgs false
set_option linter.unusedVariables false

def aggDesc : TypeDesc → Bool
  | .struct _ | .array _ _ => true
  | _ => false

def kindDesc (k : Nat) (d : Option TypeDesc) : Prop :=
  match k with
  | 0 => d = some .bool
  | 1 => ∃ e, d = some (.pointer e)
  | 2 => ∃ e, d = some (.slice e)
  | 3 => ∃ a e, d = some (.map a e)
  | 4 => ∃ a b c, d = some (.func a b c)
  | _ => False

/-- A struct's fields, where each is one cell that can be compared. -/
def eqFs (P : Program) : List Field → Nat → Option (List Nat)
  | [], _ => some []
  | f :: fs, o => match P.underlying f.type, eqFs P fs (o + 1) with
    | some .bool, some ks => if f.name != "_" && f.offset == o then some (0 :: ks) else none
    | some (.int _), some ks => if f.name != "_" && f.offset == o then some (5 :: ks) else none
    | some .string, some ks => if f.name != "_" && f.offset == o then some (6 :: ks) else none
    | _, _ => none

def flatFs (g : Nat → Option (List Nat)) : List Field → Nat → Option (List Nat)
  | [], _ => some []
  | f :: fs, o => match g f.type with
    | some ks => match flatFs g fs (o + ks.length) with
      | some rest => if f.name != "_" && f.offset == o then some (ks ++ rest) else none
      | none => none
    | none => none

def repK (ks : List Nat) : Nat → List Nat
  | 0 => []
  | n + 1 => ks ++ repK ks n

/-- The kinds of a type's cells, if all can be compared. -/
def flatP (P : Program) : Nat → Nat → Option (List Nat)
  | 0, _ => none
  | d + 1, t => match P.underlying t with
    | some .bool => some [0]
    | some (.int _) => some [5]
    | some .string => some [6]
    | some (.struct fs) => match flatFs (flatP P d) fs.toList 0 with
      | some ks => if !P.stoodInHeld t && (P.info? t).map (·.size) == some ks.length then some ks else none
      | none => none
    | some (.array n e) => match flatP P d e with
      | some ks => if (P.info? t).map (·.size) == some (repK ks n).length && (P.info? e).map (·.size) == some ks.length then some (repK ks n) else none
      | none => none
    | _ => none

def isAggV : Value → Bool
  | .agg _ => true
  | _ => false

/-- What is known of the types is so. -/
structure TabOK (P : Program) (T : Tab) : Prop where
  sz : ∀ t n, T.sz t = some n → ∃ i, P.info? t = some i ∧ i.size = n
  agg : ∀ t b, T.agg t = some b → ∃ d, P.underlying t = some d ∧ aggDesc d = b
  off : ∀ s f n, T.off s f = some n → ∃ (fs : Array Field) (fd : Field), P.underlying s = some (.struct fs) ∧ fs[f]? = some fd ∧ fd.offset = n ∧ ∃ i, P.info? fd.type = some i ∧ i.size ≠ 0
  sle : ∀ t e, T.sle t = some e → P.underlying t = some (.slice e)
  arr : ∀ t n e, T.arr t = some (n, e) → P.underlying t = some (.array n e)
  zero : ∀ t z, T.zero t = some z → ∃ (i : TypeInfo) (v : Value), P.info? t = some i ∧ i.zero = some v ∧ z = v.cells.toList.map ofConst ∧ z.all AV.one = true
  parts : ∀ t pl, T.parts t = some pl → ∃ fs : Array Field, P.underlying t = some (.struct fs) ∧ fs.toList.mapM (fun f => (P.info? f.type).map fun i => (f.offset, i.size)) = some pl
  bytes : ∀ t n, T.bytes t = some n → ∃ i, P.info? t = some i ∧ i.bytes = n
  str : ∀ t, T.str t = true → P.underlying t = some .string
  kind : ∀ t k, T.kind t = some k → kindDesc k (P.underlying t)
  eqf : ∀ t ks, T.eqf t = some ks → ∃ fs : Array Field, P.underlying t = some (.struct fs) ∧ P.stoodInHeld t = false ∧ P.eqGuardType P.depth t = false ∧ eqFs P fs.toList 0 = some ks
  zsh : ∀ t z b, T.zero t = some z → T.agg t = some b → ∃ (i : TypeInfo) (v : Value), P.info? t = some i ∧ i.zero = some v ∧ isAggV v = b
  intK : ∀ t k, T.intK t = some k → P.underlying t = some (.int k)
  mapT : ∀ t k e, T.mapT t = some (k, e) → P.underlying t = some (.map k e)
  flat : ∀ t ks, T.flat t = some ks → flatP P 9 t = some ks
  ent : ∀ f, T.ent f = true → ∀ (args : Array Value) (w : World), (callFunc f args).run P w = .ok (.enter f args) w
  fag : ∀ s f b, T.fag s f = some b → ∃ (fs : Array Field) (fd : Field) (d : TypeDesc), P.underlying s = some (.struct fs) ∧ fs[f]? = some fd ∧ P.underlying fd.type = some d ∧ aggDesc d = b

section
variable {P : Program} {T : Tab} {W : World} {ρ : Rho} {S : Store}

theorem add_add (b o j : Nat) : (⟨b, o, none⟩ : Addr).add j = ⟨b, o + j, none⟩ := by
  unfold Addr.add
  split
  · simp_all
  · rfl

theorem run_underlyingE {t : TypeId} {d : TypeDesc} (h : P.underlying t = some d) : (underlying t).run P W = .ok d W := by simp [underlying, h]
theorem run_typeInfoE {t : TypeId} {i : TypeInfo} (h : P.info? t = some i) : (typeInfo t).run P W = .ok i W := by simp [typeInfo, h]
theorem run_sizeOfE {t : TypeId} {i : TypeInfo} (h : P.info? t = some i) : (sizeOf t).run P W = .ok i.size W := by simp [sizeOf, typeInfo, h]
theorem run_zeroE {t : TypeId} {i : TypeInfo} {v : Value} (h : P.info? t = some i) (hz : i.zero = some v) : (zeroValue t).run P W = .ok v W := by simp [zeroValue, typeInfo, h, hz]
theorem run_isAggE {t : TypeId} {d : TypeDesc} (h : P.underlying t = some d) : (isAgg t).run P W = .ok (aggDesc d) W := by
  cases d <;> simp [isAgg, underlying, h, aggDesc]

theorem cell_of_row {c : Array Value} {t b : Nat} {j : Nat} {v : Value} (h : W.heap[b]? = some (.cells c t (0, 0))) (hj : c[j]? = some v) : W.cell? ⟨b, j, none⟩ = some v := by
  simp [World.cell?, h, hj]

theorem rowCells_some {l : Nat} {cs : List AV} (h : rowCells S l = some cs) : ∃ t, S[l]? = some (.cells cs t) := by
  unfold rowCells at h
  split at h
  · rename_i cs' t hs
    simp at h
    exact ⟨t, by rw [hs, h]⟩
  · cases h

/-- A cell of a row of one's own. -/
theorem own_cell (hr : Rel W ρ S) {l b base : Nat} (hρ : ρ l = some (b, base)) {cs : List AV} {t : Nat} (hS : S[l]? = some (.cells cs t)) {j : Nat} {a : AV} (hj : cs[j]? = some a) :
    a.one = true ∧ ∃ v, W.cell? ⟨b, base + j, none⟩ = some v ∧ RV W ρ (Mut ρ S) a v := by
  obtain ⟨c, hc, hl, h⟩ := hr.rows l _ b base hS hρ
  obtain ⟨h1, v, h2, h3⟩ := h j a hj
  exact ⟨h1, v, cell_of_row hc h2, h3⟩

theorem read1_sound (hr : Rel W ρ S) {a c : AV} {v : Value} (hv : RV W ρ (Mut ρ S) a v) (h : read1 S a = some c) : ∃ ad x, v = .pointer (some ad) ∧ W.cell? ad = some x ∧ RV W ρ (Mut ρ S) c x := by
  cases hv with
  | ptr o hρ =>
    simp only [read1] at h
    split at h
    · rename_i cs hc
      obtain ⟨t, ht⟩ := rowCells_some hc
      obtain ⟨_, x, h1, h2⟩ := own_cell hr hρ ht h
      exact ⟨_, x, rfl, h1, h2⟩
    · cases h
  | fptr i o vs hs hM hB h1 h2 =>
    simp only [read1] at h
    split at h
    · rename_i e he
      exact ⟨_, _, rfl, h1 i o e c he h, h2 i o e c he h⟩
    · cases h
  | _ => simp [read1] at h

theorem RVs.of_fun {M : Nat → Prop} {cs : List AV} (f : Nat → Value) (h : ∀ j c, cs[j]? = some c → RV W ρ M c (f j)) : RVs W ρ M cs ((List.range cs.length).map f) := by
  refine ⟨by simp, fun i c v h1 h2 => ?_⟩
  have hi : i < cs.length := (List.getElem?_eq_some_iff.1 h1).1
  simp [hi] at h2
  subst h2
  exact h i c h1

theorem readN_sound (hr : Rel W ρ S) {a : AV} {cs : List AV} {n : Nat} {v : Value} (hv : RV W ρ (Mut ρ S) a v) (h : readN S n a = some cs) :
    ∃ ad xs, v = .pointer (some ad) ∧ cs.length = n ∧ RVs W ρ (Mut ρ S) cs xs ∧ ∀ j x, xs[j]? = some x → W.cell? (ad.add j) = some x := by
  cases hv with
  | @ptr l b base o hρ =>
    simp only [readN] at h
    split at h
    · rename_i cs' hc
      obtain ⟨t, ht⟩ := rowCells_some hc
      split at h
      · rename_i hl
        simp only [Option.some.injEq] at h
        subst h
        have key : ∀ (j : Nat) (c : AV), ((cs'.drop o).take n)[j]? = some c → W.cell? ⟨b, base + o + j, none⟩ = some ((W.cell? ⟨b, base + o + j, none⟩).getD undef) ∧ RV W ρ (Mut ρ S) c ((W.cell? ⟨b, base + o + j, none⟩).getD undef) := by
          intro j c hj
          have hj' : cs'[o + j]? = some c := by
            rw [List.getElem?_take] at hj
            split at hj
            · rwa [List.getElem?_drop] at hj
            · cases hj
          obtain ⟨_, x, h1, h2⟩ := own_cell hr hρ ht hj'
          rw [← Nat.add_assoc] at h1
          rw [h1]
          exact ⟨rfl, h2⟩
        refine ⟨_, (List.range ((cs'.drop o).take n).length).map (fun j => (W.cell? ⟨b, base + o + j, none⟩).getD undef), rfl, by simp; omega, RVs.of_fun _ (fun j c hj => (key j c hj).2), fun j x hx => ?_⟩
        rw [add_add]
        have hj : j < ((cs'.drop o).take n).length := by
          have := (List.getElem?_eq_some_iff.1 hx).1
          simpa using this
        have hx' : (W.cell? ⟨b, base + o + j, none⟩).getD undef = x := by
          simp only [List.getElem?_map, List.getElem?_range hj, Option.map_some, Option.some.injEq] at hx
          exact hx
        rw [(key j _ (List.getElem?_eq_getElem hj)).1, hx']
      · cases h
    · cases h
  | @fptr els b off sz i o vs hs hM hB h1 h2 =>
    simp only [readN] at h
    split at h
    · rename_i e he
      split at h
      · rename_i hl
        simp only [Option.some.injEq] at h
        subst h
        have key : ∀ (j : Nat) (c : AV), ((e.drop o).take n)[j]? = some c → e[o + j]? = some c := by
          intro j c hj
          rw [List.getElem?_take] at hj
          split at hj
          · rwa [List.getElem?_drop] at hj
          · cases hj
        refine ⟨_, (List.range ((e.drop o).take n).length).map (fun j => vs i (o + j)), rfl, by simp; omega, RVs.of_fun _ (fun j c hj => h2 i (o + j) e c he (key j c hj)), fun j x hx => ?_⟩
        rw [add_add]
        have hj : j < ((e.drop o).take n).length := by
          have := (List.getElem?_eq_some_iff.1 hx).1
          simpa using this
        have hx' : vs i (o + j) = x := by
          simp only [List.getElem?_map, List.getElem?_range hj, Option.map_some, Option.some.injEq] at hx
          exact hx
        have := h1 i (o + j) e _ he (key j _ (List.getElem?_eq_getElem hj))
        rw [hx'] at this
        rw [← this]
        congr 2
        omega
      · cases h
    · cases h
  | _ => simp [readN] at h

theorem loadA_sound (hT : TabOK P T) (hr : Rel W ρ S) {ty : Nat} {a c : AV} {v : Value} (hv : RV W ρ (Mut ρ S) a v) (h : loadA T S ty a = some c) :
    ∃ x, (Instr.loadAt ty v).run P W = .ok x W ∧ RV W ρ (Mut ρ S) c x := by
  unfold loadA at h
  split at h
  · rename_i hag
    split at h
    · rename_i n hn
      obtain ⟨d, hd, hb⟩ := hT.agg ty _ hag
      obtain ⟨i, hi, rfl⟩ := hT.sz ty _ hn
      obtain ⟨cs, hcs, rfl⟩ := Option.map_eq_some_iff.1 h
      obtain ⟨ad, xs, rfl, hl, hR, hc⟩ := readN_sound hr hv hcs
      refine ⟨.agg xs.toArray, ?_, .agg hR.1 hR.2⟩
      have hcells : (loadCells ad i.size).run P W = .ok xs.toArray W := by
        have := run_loadCells_list (P := P) (w := W) ad xs hc
        rw [← hl, hR.1]
        exact this
      simp [Instr.loadAt, Instr.sureAddr, loadVar, run_isAggE hd, hb, run_sizeOfE hi, hcells]
    · cases h
  · rename_i hag
    obtain ⟨d, hd, hb⟩ := hT.agg ty _ hag
    obtain ⟨ad, x, rfl, hc, hx⟩ := read1_sound hr hv h
    refine ⟨x, ?_, hx⟩
    simp [Instr.loadAt, Instr.sureAddr, loadVar, run_isAggE hd, hb, hc]
  · cases h

/-! ### Operations that lay and write nothing -/
theorem add_sound {M : Nat → Prop} {n : Nat} {a c : AV} {v : Value} (hv : RV W ρ M a v) (h : addO n a = some c) : ∃ ad, v = .pointer (some ad) ∧ RV W ρ M c (.pointer (some (ad.add n))) := by
  cases hv with
  | ptr o hρ =>
    simp only [addO, Option.some.injEq] at h
    subst h
    refine ⟨_, rfl, ?_⟩
    rw [add_add, Nat.add_assoc]
    exact .ptr _ hρ
  | fptr i o vs hs hM hB h1 h2 =>
    simp only [addO, Option.some.injEq] at h
    subst h
    refine ⟨_, rfl, ?_⟩
    rw [add_add, Nat.add_assoc, Nat.add_assoc]
    exact .fptr i _ vs hs hM hB h1 h2
  | _ => simp [addO] at h

theorem fieldAddr_sound (hT : TabOK P T) {M : Nat → Prop} {s f n : Nat} {a c : AV} {v : Value} (hv : RV W ρ M a v) (hn : T.off s f = some n) (h : addO n a = some c) :
    ∃ x, (Instr.fieldAt s v f).run P W = .ok x W ∧ RV W ρ M c x := by
  obtain ⟨ad, rfl, hx⟩ := add_sound hv h
  obtain ⟨fs, fd, hu, hf, rfl, i, hi, hne⟩ := hT.off s f n hn
  exact ⟨_, by simp [Instr.fieldAt, run_underlyingE hu, hf, Instr.sureAddr, fieldPlace, run_sizeOfE hi, hne], hx⟩

theorem index_sound (hT : TabOK P T) {M : Nat → Prop} {ty : Nat} {x i c : AV} {v u : Value} (hv : RV W ρ M x v) (hu : RV W ρ M i u) (h : indexA T ty x i = some c) :
    ∃ y, (Instr.indexAt ty v u).run P W = .ok y W ∧ RV W ρ M c y := by
  cases hu with
  | int k n =>
    cases hv with
    | fsl0 A cap hx =>
      simp only [indexA] at h
      split at h <;> simp_all
    | @fsl x els b off sz cap vs hs hM hB hc hx h1 h2 =>
      simp only [indexA] at h
      split at h
      · rename_i e el he hel
        split at h
        · rename_i hn
          simp only [Option.some.injEq] at h
          subst h
          obtain ⟨hn0, hsz⟩ := hn
          obtain ⟨i, hi, hie⟩ := hT.sz _ _ hsz
          have hlt : n.toNat < els.length := (List.getElem?_eq_some_iff.1 hel).1
          have hes := hs _ _ hel
          refine ⟨.pointer (some ⟨b, off + (n.toNat * sz + 0), none⟩), ?_, .fptr n.toNat 0 vs hs hM hB h1 h2⟩
          have hbd : 0 ≤ n ∧ n < (els.length : Int) := ⟨hn0, by omega⟩
          simp [Instr.indexAt, asIntOf, run_underlyingE (hT.sle _ _ he), hbd, run_sizeOfE hi, hie, hes, add_add]
        · cases h
      · cases h
    | @sl l off len cap sz b base cap' ty' c' hρ hl hc hb hz =>
      simp only [indexA] at h
      split at h
      · rename_i e he
        split at h
        · rename_i hn
          simp only [Option.some.injEq] at h
          subst h
          obtain ⟨hsz, hn0, hlt⟩ := hn
          obtain ⟨i, hi, hie⟩ := hT.sz _ _ hsz
          refine ⟨.pointer (some ⟨b, base + (off + n.toNat * sz), none⟩), ?_, .ptr _ hρ⟩
          simp [Instr.indexAt, asIntOf, run_underlyingE (hT.sle _ _ he), hn0, hlt, run_sizeOfE hi, hie, add_add, Nat.add_assoc]
        · cases h
      · cases h
    | @ptr l b base o hρ =>
      simp only [indexA] at h
      split at h
      · rename_i len e he
        split at h
        · rename_i sz hsz
          split at h
          · rename_i hn
            simp only [Option.some.injEq] at h
            subst h
            obtain ⟨i, hi, hie⟩ := hT.sz _ _ hsz
            refine ⟨.pointer (some ⟨b, base + (o + n.toNat * sz), none⟩), ?_, .ptr _ hρ⟩
            simp [Instr.indexAt, asIntOf, run_underlyingE (hT.arr _ _ _ he), hn.1, hn.2, run_sizeOfE hi, hie, add_add, Nat.add_assoc, Instr.sureAddr]
          · cases h
        · cases h
      · cases h
    | @fptr els b off sz i o vs hs hM hB h1 h2 =>
      simp only [indexA] at h
      split at h
      · rename_i len e he
        split at h
        · rename_i sz' hsz
          split at h
          · rename_i hn
            simp only [Option.some.injEq] at h
            subst h
            obtain ⟨i', hi, hie⟩ := hT.sz _ _ hsz
            refine ⟨.pointer (some ⟨b, off + (i * sz + (o + n.toNat * sz')), none⟩), ?_, .fptr i _ vs hs hM hB h1 h2⟩
            simp [Instr.indexAt, asIntOf, run_underlyingE (hT.arr _ _ _ he), hn.1, hn.2, run_sizeOfE hi, hie, add_add, Nat.add_assoc, Instr.sureAddr]
          · cases h
        · cases h
      · cases h
    | _ => simp [indexA] at h
  | _ => cases x <;> simp [indexA] at h

theorem toList_data (s : ByteArray) : s.toList = s.data.toList := by
  have key : ∀ (n i : Nat) (r : List UInt8), s.size - i = n → ByteArray.toList.loop s i r = r.reverse ++ s.data.toList.drop i := by
    intro n
    induction n with
    | zero =>
      intro i r h
      unfold ByteArray.toList.loop
      have hd : s.data.toList.drop i = [] := List.drop_eq_nil_of_le (by rw [Array.length_toList]; show s.size ≤ i; omega)
      rw [if_neg (by omega), hd, List.append_nil]
    | succ n ih =>
      intro i r h
      unfold ByteArray.toList.loop
      have hi : i < s.size := by omega
      rw [if_pos hi, ih _ _ (by omega)]
      have hl : i < s.data.toList.length := by rw [Array.length_toList]; exact hi
      rw [List.drop_eq_getElem_cons hl]
      have hg : s.get! i = s.data.toList[i] := by
        show s.data[i]! = _
        have hi' : i < s.data.size := hi
        exact getElem!_pos s.data i hi'
      simp [hg]
  have := key s.size 0 [] (by omega)
  simpa [ByteArray.toList] using this

theorem bytesLt_eq : ∀ (a b : List UInt8), bytesLt a b = Op.bytesLess a b
  | _, [] => by simp [bytesLt, Op.bytesLess]
  | [], _ :: _ => by simp [bytesLt, Op.bytesLess]
  | a :: x, b :: y => by simp only [bytesLt, Op.bytesLess, bytesLt_eq x y]

def NilV (k : Nat) (b : Bool) (v : Value) : Prop :=
  match k with
  | 1 => ∃ p : Option Addr, v = .pointer p ∧ p.isNone = b
  | 2 => ∃ (a : Option Addr) (n c : Nat), v = .slice a n c ∧ a.isNone = b
  | 3 => ∃ r : Option Nat, v = .map r ∧ r.isNone = b
  | 4 => (b = true ∧ v = .nilFunc) ∨ (b = false ∧ ∃ f x y, v = .func f x y)
  | _ => False

theorem isNil_sound {M : Nat → Prop} {x : AV} {v : Value} {k : Nat} {b : Bool} (hv : RV W ρ M x v) (h : isNilA x = some (k, b)) : NilV k b v := by
  cases hv <;> simp [isNilA] at h <;> obtain ⟨rfl, rfl⟩ := h <;> simp [NilV]

theorem nil_eq (W : World) (d : Nat) {t : TypeId} {x y : Value} {k : Nat} {a b : Bool} (hk : kindDesc k (P.underlying t)) (hx : NilV k a x) (hy : NilV k b y) (hab : a = true ∨ b = true) :
    (Op.equalIn (d + 1) t x y).run P W = .ok (a && b) W := by
  match k, hk, hx, hy with
  | 1, ⟨e, hk⟩, ⟨p, hx, ha⟩, ⟨q, hy, hb⟩ =>
    subst hx hy ha hb
    cases p <;> cases q <;> simp at hab <;> simp [Op.equalIn, run_underlyingE hk]
  | 2, ⟨e, hk⟩, ⟨p, n, c, hx, ha⟩, ⟨q, n', c', hy, hb⟩ =>
    subst hx hy ha hb
    cases p <;> cases q <;> simp at hab <;> simp [Op.equalIn, run_underlyingE hk]
  | 3, ⟨e, e', hk⟩, ⟨p, hx, ha⟩, ⟨q, hy, hb⟩ =>
    subst hx hy ha hb
    cases p <;> cases q <;> simp at hab <;> simp [Op.equalIn, run_underlyingE hk]
  | 4, ⟨e, e', e'', hk⟩, hx, hy =>
    rcases hx with ⟨rfl, rfl⟩ | ⟨rfl, f, u, w, rfl⟩ <;> rcases hy with ⟨rfl, rfl⟩ | ⟨rfl, f', u', w', rfl⟩ <;> simp at hab <;> simp [Op.equalIn, run_underlyingE hk]

theorem equal_of_in {t : TypeId} {x y : Value} {r : Bool} (h : ∀ d, (Op.equalIn (d + 1) t x y).run P W = .ok r W) : (Op.equal t x y).run P W = .ok r W := h 9999

theorem eqNil_sound (hT : TabOK P T) {M : Nat → Prop} {ty : Nat} {x y : AV} {v u : Value} {r : Bool} (hv : RV W ρ M x v) (hu : RV W ρ M y u) (h : eqNil T ty x y = some r) :
    (Op.equal ty v u).run P W = .ok r W := by
  unfold eqNil at h
  split at h
  · rename_i k k' b hx hy
    split at h
    · rename_i hk
      obtain ⟨rfl, hk⟩ := hk
      simp only [Option.some.injEq] at h
      subst h
      have := fun d => nil_eq W d (hT.kind _ _ hk) (isNil_sound hv hx) (isNil_sound hu hy) (.inl rfl)
      exact equal_of_in (by simpa using this)
    · cases h
  · rename_i k b k' _ hx hy
    split at h
    · rename_i hk
      obtain ⟨rfl, hk⟩ := hk
      simp only [Option.some.injEq] at h
      subst h
      have := fun d => nil_eq W d (hT.kind _ _ hk) (isNil_sound hv hx) (isNil_sound hu hy) (.inr rfl)
      exact equal_of_in (by simpa using this)
    · cases h
  · cases h

theorem eqNil_kinds {M : Nat → Prop} {ty : Nat} {x y : AV} {v u : Value} {r : Bool} (hv : RV W ρ M x v) (hu : RV W ρ M y u) (h : eqNil T ty x y = some r) : ∃ k a b, NilV k a v ∧ NilV k b u := by
  unfold eqNil at h
  split at h
  · rename_i k k' b hx hy
    split at h
    · rename_i hk
      obtain ⟨rfl, hk⟩ := hk
      exact ⟨_, _, _, isNil_sound hv hx, isNil_sound hu hy⟩
    · cases h
  · rename_i k b k' _ hx hy
    split at h
    · rename_i hk
      obtain ⟨rfl, hk⟩ := hk
      exact ⟨_, _, _, isNil_sound hv hx, isNil_sound hu hy⟩
    · cases h
  · cases h

theorem nilV_plain {k : Nat} {a : Bool} {v : Value} (h : NilV k a v) : (∀ z, v ≠ .agg z) ∧ v ≠ .nilIface := by
  match k, h with
  | 1, ⟨p, h, _⟩ => subst h; simp
  | 2, ⟨p, n, c, h, _⟩ => subst h; simp
  | 3, ⟨p, h, _⟩ => subst h; simp
  | 4, h => rcases h with ⟨_, rfl⟩ | ⟨_, f, x, y, rfl⟩ <;> simp

theorem binOp_nil {k : Nat} {a b : Bool} {v u : Value} (ty : Nat) (hv : NilV k a v) (hu : NilV k b u) :
    binOp .eql ty v u = (do pure (.bool (← Op.equal ty v u))) ∧ binOp .neq ty v u = (do pure (.bool (!(← Op.equal ty v u)))) := by
  match k, hv, hu with
  | 1, ⟨p, hv, _⟩, ⟨q, hu, _⟩ => subst hv hu; exact ⟨rfl, rfl⟩
  | 2, ⟨p, n, c, hv, _⟩, ⟨q, n', c', hu, _⟩ => subst hv hu; exact ⟨rfl, rfl⟩
  | 3, ⟨p, hv, _⟩, ⟨q, hu, _⟩ => subst hv hu; exact ⟨rfl, rfl⟩
  | 4, hv, hu => rcases hv with ⟨_, rfl⟩ | ⟨_, f, x, y, rfl⟩ <;> rcases hu with ⟨_, rfl⟩ | ⟨_, f', x', y', rfl⟩ <;> exact ⟨rfl, rfl⟩

theorem eqGuard_plain (op : BinOp) (t : TypeId) (x y : Operand) {a b : Value} (ha : ∀ z, a ≠ .agg z) (hn : a ≠ .nilIface) : (eqGuard op t x y a b).run P W = .ok () W := by
  cases a <;> first | exact absurd rfl hn | exact absurd rfl (ha _) | (cases op <;> rfl)

theorem eqCell_sound {d : Nat} {t : TypeId} {M : Nat → Prop} {x y : AV} {v u : Value} {k : Nat} {r : Bool} (hv : RV W ρ M x v) (hu : RV W ρ M y u) (h : eqCell k x y = some r)
    (hk : (k = 0 ∧ P.underlying t = some .bool) ∨ (k = 5 ∧ ∃ q, P.underlying t = some (.int q)) ∨ (k = 6 ∧ P.underlying t = some .string)) : (Op.equalIn (d + 1) t v u).run P W = .ok r W := by
  unfold eqCell at h
  split at h
  · cases hv; cases hu
    simp only [Option.some.injEq] at h
    subst h
    rcases hk with ⟨_, hk⟩ | ⟨hk, _⟩ | ⟨hk, _⟩
    · simp [Op.equalIn, run_underlyingE hk]
    · cases hk
    · cases hk
  · cases hv; cases hu
    split at h
    · rename_i e
      subst e
      simp only [Option.some.injEq] at h
      subst h
      rcases hk with ⟨hk, _⟩ | ⟨_, q, hk⟩ | ⟨hk, _⟩
      · cases hk
      · simp [Op.equalIn, run_underlyingE hk]
      · cases hk
    · cases h
  · cases hv; cases hu
    rename_i a b
    simp only [Option.some.injEq] at h
    subst h
    rcases hk with ⟨hk, _⟩ | ⟨hk, _⟩ | ⟨_, hk⟩
    · cases hk
    · cases hk
    · have hb : (a == b) = strEq a b := by
        obtain ⟨⟨x⟩⟩ := a
        obtain ⟨⟨y⟩⟩ := b
        unfold strEq
        show ((⟨x⟩ : Array UInt8) == ⟨y⟩) = (x == y)
        simp
      simp [Op.equalIn, run_underlyingE hk, hb]
  · cases h

theorem eqFs_cons {f : Field} {fs : List Field} {o : Nat} {ks : List Nat} (h : eqFs P (f :: fs) o = some ks) : ∃ k ks', ks = k :: ks' ∧ eqFs P fs (o + 1) = some ks' ∧ f.name ≠ "_" ∧ f.offset = o ∧
    ((k = 0 ∧ P.underlying f.type = some .bool) ∨ (k = 5 ∧ ∃ q, P.underlying f.type = some (.int q)) ∨ (k = 6 ∧ P.underlying f.type = some .string)) := by
  simp only [eqFs] at h
  split at h
  · rename_i ks' h1 h2
    split at h
    · rename_i hc
      simp only [Bool.and_eq_true, bne_iff_ne, ne_eq, beq_iff_eq] at hc
      simp only [Option.some.injEq] at h
      exact ⟨0, ks', h.symm, h2, hc.1, hc.2, .inl ⟨rfl, h1⟩⟩
    · cases h
  · rename_i q ks' h1 h2
    split at h
    · rename_i hc
      simp only [Bool.and_eq_true, bne_iff_ne, ne_eq, beq_iff_eq] at hc
      simp only [Option.some.injEq] at h
      exact ⟨5, ks', h.symm, h2, hc.1, hc.2, .inr (.inl ⟨rfl, q, h1⟩)⟩
    · cases h
  · rename_i ks' h1 h2
    split at h
    · rename_i hc
      simp only [Bool.and_eq_true, bne_iff_ne, ne_eq, beq_iff_eq] at hc
      simp only [Option.some.injEq] at h
      exact ⟨6, ks', h.symm, h2, hc.1, hc.2, .inr (.inr ⟨rfl, h1⟩)⟩
    · cases h
  · cases h

theorem eqCells_sound {d : Nat} {M : Nat → Prop} {vs us : List Value} : ∀ (fs : List Field) (o : Nat) (ks : List Nat) (a b : List AV) (r : Bool), eqFs P fs o = some ks → eqCells ks a b = some r →
    a.length = (vs.drop o).length → b.length = (us.drop o).length → (∀ (i : Nat) (c : AV) (v : Value), a[i]? = some c → vs[o + i]? = some v → RV W ρ M c v) → (∀ (i : Nat) (c : AV) (v : Value), b[i]? = some c → us[o + i]? = some v → RV W ρ M c v) →
    (Op.eqFields (d + 1) vs.toArray us.toArray fs).run P W = .ok r W := by
  intro fs
  induction fs with
  | nil =>
    intro o ks a b r hf hc hla hlb ha hb
    simp only [eqFs, Option.some.injEq] at hf
    subst hf
    cases a <;> cases b <;> simp [eqCells] at hc
    subst hc
    simp [Op.eqFields]
  | cons f fs ih =>
    intro o ks a b r hf hc hla hlb ha hb
    obtain ⟨k, ks', rfl, hfs, hn, hof, hk⟩ := eqFs_cons hf
    cases a with
    | nil => simp [eqCells] at hc
    | cons x xs =>
      cases b with
      | nil => simp [eqCells] at hc
      | cons y ys =>
        simp only [eqCells] at hc
        split at hc
        · rename_i r1 s1 h1 h2
          simp only [Option.some.injEq] at hc
          subst hc
          simp only [List.length_cons, List.length_drop] at hla hlb
          have hv0 : o < vs.length := by omega
          have hu0 : o < us.length := by omega
          have hx := ha 0 x vs[o] rfl (by simp [hv0])
          have hy := hb 0 y us[o] rfl (by simp [hu0])
          have hagg : (isAgg f.type).run P W = .ok false W := by
            rcases hk with ⟨_, hk⟩ | ⟨_, q, hk⟩ | ⟨_, hk⟩ <;> exact run_isAggE hk
          have hp1 : (part f.type vs.toArray f.offset).run P W = .ok vs[o] W := by simp [part, hagg, hof, hv0]
          have hp2 : (part f.type us.toArray f.offset).run P W = .ok us[o] W := by simp [part, hagg, hof, hu0]
          have he := eqCell_sound (d := d) hx hy h1 hk
          have hrest := ih (o + 1) ks' xs ys s1 hfs h2 (by simp only [List.length_drop]; omega) (by simp only [List.length_drop]; omega)
            (fun i c v hi hj => ha (i + 1) c v (by simpa using hi) (by rw [← hj]; congr 1; omega)) (fun i c v hi hj => hb (i + 1) c v (by simpa using hi) (by rw [← hj]; congr 1; omega))
          simp only [Op.eqFields, if_pos hn, Sem.run_bind, hp1, hp2, he, Result.andThen_ok]
          cases r1
          · simp
          · simpa using hrest
        · cases hc

theorem eqAgg_sound (hT : TabOK P T) {M : Nat → Prop} {ty : Nat} {a b : List AV} {v u : Value} {r : Bool} (op : BinOp) (ox oy : Operand) (hv : RV W ρ M (.agg a) v) (hu : RV W ρ M (.agg b) u) (h : eqAgg T ty a b = some r) :
    (eqGuard op ty ox oy v u).run P W = .ok () W ∧ (binOp .eql ty v u).run P W = .ok (.bool r) W ∧ (binOp .neq ty v u).run P W = .ok (.bool (!r)) W := by
  unfold eqAgg at h
  split at h
  case h_2 => cases h
  rename_i ks hks
  obtain ⟨fs, h1, h2, h3, h4⟩ := hT.eqf _ _ hks
  cases hv with
  | @agg _ vs hl hh =>
    cases hu with
    | @agg _ us hl' hh' =>
      have hf : P.fieldsOf ty = fs := by simp [Program.fieldsOf, h1]
      have he : (Op.equal ty (.agg vs.toArray) (.agg us.toArray)).run P W = .ok r W := by
        show (Op.equalIn (9998 + 1 + 1) ty _ _).run P W = _
        rw [run_equalIn_struct (P := P) W (9998 + 1) ty _ _ (by rw [hf]; exact h1) h2, hf]
        exact eqCells_sound fs.toList 0 ks a b r h4 h (by simpa using hl) (by simpa using hl') (fun i c v hi hj => hh i c v hi (by simpa using hj)) (fun i c v hi hj => hh' i c v hi (by simpa using hj))
      refine ⟨?_, ?_, ?_⟩
      · cases op <;> simp [eqGuard, h3]
      · simp [binOp, he]
      · simp [binOp, he]

theorem bin_sound (hT : TabOK P T) {M : Nat → Prop} {ty : Nat} {op : BinOp} {x y c : AV} {v u : Value} (ox oy : Operand) (hv : RV W ρ M x v) (hu : RV W ρ M y u) (h : binA T ty op x y = some c) :
    ∃ z, ((do eqGuard op ty ox oy v u; binOp op ty v u) : Sem Value).run P W = .ok z W ∧ RV W ρ M c z := by
  unfold binA at h
  split at h
  · rename_i k a k' b
    cases hv; cases hu
    split at h
    · rename_i hk
      obtain ⟨rfl, h1, h2⟩ := hk
      have hg := eqGuard_plain (P := P) (W := W) op ty ox oy (a := Value.int k a) (b := Value.int k b) (by simp) (by simp)
      rw [Sem.run_bind, hg]
      simp only [Result.andThen_ok]
      cases op <;> simp [binInt] at h <;> first | (exact absurd rfl h1) | (exact absurd rfl h2) | skip
      all_goals first
        | (obtain ⟨hb, h⟩ := h; subst h; exact ⟨_, by simp [binOp, Op.intDiv, hb], .int _ _⟩)
        | (subst h; first | exact ⟨_, by simp [binOp, Op.intArith], .int _ _⟩ | exact ⟨_, by simp [binOp, Op.intCmp], .bool _⟩)
    · unfold shiftA at h
      split at h
      · cases h
      · rename_i hb
        have hg := eqGuard_plain (P := P) (W := W) op ty ox oy (a := Value.int k a) (b := Value.int k' b) (by simp) (by simp)
        rw [Sem.run_bind, hg]
        simp only [Result.andThen_ok]
        cases op <;> simp at h
        all_goals (subst h; exact ⟨_, by simp [binOp, Op.shift, hb], .int _ _⟩)
  · rename_i a b
    cases hv; cases hu
    have hg := eqGuard_plain (P := P) (W := W) op ty ox oy (a := Value.string a) (b := Value.string b) (by simp) (by simp)
    rw [Sem.run_bind, hg]
    simp only [Result.andThen_ok]
    cases op <;> simp [binStr] at h
    all_goals (subst h; refine ⟨_, ?_, .bool _⟩; simp [binOp, Op.stringOp, strEq, strLt, toList_data, bytesLt_eq])
  · rename_i a b
    cases hv; cases hu
    split at h
    · rename_i hk
      have hd : P.underlying ty = some .bool := hT.kind _ _ hk
      have hg := eqGuard_plain (P := P) (W := W) op ty ox oy (a := Value.bool a) (b := Value.bool b) (by simp) (by simp)
      rw [Sem.run_bind, hg]
      simp only [Result.andThen_ok]
      have he : (Op.equal ty (.bool a) (.bool b)).run P W = .ok (a == b) W := by
        exact equal_of_in fun d => by simp [Op.equalIn, run_underlyingE hd]
      cases op <;> simp at h
      all_goals (subst h; exact ⟨_, by simp [binOp, he], .bool _⟩)
    · cases h
  · split at h
    · obtain ⟨r, hr, rfl⟩ := Option.map_eq_some_iff.1 h
      obtain ⟨g1, g2, _⟩ := eqAgg_sound hT .eql ox oy hv hu hr
      rw [Sem.run_bind, g1]
      exact ⟨_, g2, .bool _⟩
    · obtain ⟨r, hr, rfl⟩ := Option.map_eq_some_iff.1 h
      obtain ⟨g1, _, g2⟩ := eqAgg_sound hT .neq ox oy hv hu hr
      rw [Sem.run_bind, g1]
      exact ⟨_, g2, .bool _⟩
    · cases h
  · split at h
    · obtain ⟨r, hr, rfl⟩ := Option.map_eq_some_iff.1 h
      have he := eqNil_sound hT hv hu hr
      obtain ⟨k, a, b, ha, hb⟩ := eqNil_kinds hv hu hr
      rw [Sem.run_bind, eqGuard_plain _ _ _ _ (nilV_plain ha).1 (nilV_plain ha).2, (binOp_nil ty ha hb).1]
      exact ⟨_, by simp [he], .bool _⟩
    · obtain ⟨r, hr, rfl⟩ := Option.map_eq_some_iff.1 h
      have he := eqNil_sound hT hv hu hr
      obtain ⟨k, a, b, ha, hb⟩ := eqNil_kinds hv hu hr
      rw [Sem.run_bind, eqGuard_plain _ _ _ _ (nilV_plain ha).1 (nilV_plain ha).2, (binOp_nil ty ha hb).2]
      exact ⟨_, by simp [he], .bool _⟩
    · cases h

theorem un_sound {M : Nat → Prop} {op : UnOp} {x c : AV} {v : Value} (hv : RV W ρ M x v) (h : unA op x = some c) : ∃ z, (Op.unary op v).run P W = .ok z W ∧ RV W ρ M c z := by
  unfold unA at h
  split at h
  · cases hv
    simp at h
    subst h
    exact ⟨_, by simp [Op.unary], .bool _⟩
  · cases hv
    simp only [Option.some.injEq] at h
    subst h
    exact ⟨_, rfl, .int _ _⟩
  · cases h

theorem extract_sound {M : Nat → Prop} {x c : AV} {i : Nat} {v : Value} (hv : RV W ρ M x v) (h : extractA x i = some c) : ∃ z, (Instr.extract v i).run P W = .ok z W ∧ RV W ρ M c z := by
  unfold extractA at h
  split at h
  · rename_i cs
    cases hv with
    | @tuple cs vs hl hh =>
      have hi : i < vs.length := by rw [← hl]; exact (List.getElem?_eq_some_iff.1 h).1
      exact ⟨vs[i], by simp [Instr.extract, hi], hh i c _ h (List.getElem?_eq_getElem hi)⟩
  · cases h

theorem max2_sound {M : Nat → Prop} {x y c : AV} {v u : Value} (hv : RV W ρ M x v) (hu : RV W ρ M y u) (h : max2A x y = some c) : ∃ z, (Builtin.max2 v u).run P W = .ok z W ∧ RV W ρ M c z := by
  unfold max2A at h
  split at h
  · cases hv; cases hu
    split at h
    · rename_i hk
      simp at h
      subst h
      exact ⟨_, by simp [Builtin.max2], .int _ _⟩
    · cases h
  · cases h

theorem min2_sound {M : Nat → Prop} {x y c : AV} {v u : Value} (hv : RV W ρ M x v) (hu : RV W ρ M y u) (h : min2A x y = some c) : ∃ z, (Builtin.min2 v u).run P W = .ok z W ∧ RV W ρ M c z := by
  unfold min2A at h
  split at h
  · cases hv; cases hu
    split at h
    · rename_i hk
      simp at h
      subst h
      exact ⟨_, by simp [Builtin.min2], .int _ _⟩
    · cases h
  · cases h

theorem len_sound (hT : TabOK P T) {M : Nat → Prop} {x c : AV} {v : Value} {ty ty' : Nat} (hv : RV W ρ M x v) (h : lenA T ty x = some c) : ∃ z, (Builtin.len_ #[ty] ty' #[v]).run P W = .ok z W ∧ RV W ρ M c z := by
  have hk : T.kind ty = some 2 → ∃ e, P.underlying ty = some (.slice e) := fun h => hT.kind _ _ h
  cases hv <;> simp [lenA] at h
  case str s =>
    obtain ⟨hs, rfl⟩ := h
    exact ⟨_, by simp [Builtin.len_, run_underlyingE (hT.str _ hs), goInt], .int _ _⟩
  all_goals
    obtain ⟨hs, rfl⟩ := h
    obtain ⟨e, he⟩ := hk hs
    exact ⟨_, by simp [Builtin.len_, run_underlyingE he, goInt], .int _ _⟩

end
end Go.Ev
