/- The evaluator Ev, part N: what is known of a program's types, by lists that are looked up; that they are so is asked once, by computation. -/
import Derived.Test.YtcgnilbilccohabEvM
namespace Go.Ev
open Go
set_option linter.unusedSimpArgs false
set_option linter.unusedVariables false

/-- One type's row: its number, cells, bytes, whether it is a struct or an array, a slice's element, an array's length and element, its zero value, a struct's fields (offset, cells), its kind, whether it is a string. -/
structure TRow where
  sz : Nat
  bytes : Nat
  agg : Bool
  sle : Option Nat
  arr : Option (Nat × Nat)
  zero : Option (List AV)
  parts : Option (List (Nat × Nat))
  kind : Option Nat
  str : Bool
  eqf : Option (List Nat)
  mapT : Option (Nat × Nat)
  intK : Option IntKind
  flat : Option (List Nat)
  fag : Option (List Bool)

def TRow.beq (a b : TRow) : Bool :=
  a.sz == b.sz && a.bytes == b.bytes && a.agg == b.agg && a.sle == b.sle && a.arr == b.arr && a.parts == b.parts && a.kind == b.kind && a.str == b.str && a.eqf == b.eqf && a.mapT == b.mapT && decide (a.intK = b.intK) && a.flat == b.flat && a.fag == b.fag &&
  (match a.zero, b.zero with
   | none, _ => true
   | some x, some y => AV.beqL x y
   | _, _ => false)

def kindOf : TypeDesc → Option Nat
  | .bool => some 0
  | .pointer _ => some 1
  | .slice _ => some 2
  | .map _ _ => some 3
  | .func _ _ _ => some 4
  | _ => none

/-- A type's row, out of the program. -/
def rowOf (P : Program) (t : Nat) : Option TRow :=
  match P.info? t, P.underlying t with
  | some i, some d => some {
      sz := i.size, bytes := i.bytes, agg := aggDesc d,
      sle := match d with | .slice e => some e | _ => none,
      arr := match d with | .array n e => some (n, e) | _ => none,
      zero := match i.zero with
        | some v => if (v.cells.toList.map ofConst).all AV.one && isAggV v == aggDesc d then some (v.cells.toList.map ofConst) else none
        | none => none,
      parts := match d with | .struct fs => fs.toList.mapM (fun f => (P.info? f.type).map fun i => (f.offset, i.size)) | _ => none,
      kind := kindOf d,
      str := match d with | .string => true | _ => false,
      eqf := match d with | .struct fs => if !P.stoodInHeld t && !P.eqGuardType P.depth t then eqFs P fs.toList 0 else none | _ => none,
      mapT := match d with | .map k e => some (k, e) | _ => none,
      intK := match d with | .int k => some k | _ => none,
      flat := flatP P 9 t,
      fag := match d with | .struct fs => fs.toList.mapM (fun f => (P.underlying f.type).map aggDesc) | _ => none }
  | _, _ => none

def findT : List (Nat × TRow) → Nat → Option TRow
  | [], _ => none
  | (k, r) :: rest, t => if t = k then some r else findT rest t

def entOf (P : Program) (f : Nat) : Bool :=
  match P.funcs[f]? with
  | some fn => fn.body.isSome && !(fn.name == "runtime.NumGoroutine")
  | none => false

/-- The lists are the program's. -/
def listOK (P : Program) (l : List (Nat × TRow)) : Bool := l.all fun p => match rowOf P p.1 with
  | some r => TRow.beq p.2 r
  | none => false

def mkTab (l : List (Nat × TRow)) (ent : Nat → Bool) : Tab where
  sz t := (findT l t).map (·.sz)
  agg t := (findT l t).map (·.agg)
  off s f := (findT l s).bind fun r => r.parts.bind fun ps => match ps[f]? with
    | some (o, n) => if n = 0 then none else some o
    | none => none
  sle t := (findT l t).bind (·.sle)
  arr t := (findT l t).bind (·.arr)
  zero t := (findT l t).bind (·.zero)
  parts t := (findT l t).bind (·.parts)
  bytes t := (findT l t).map (·.bytes)
  str t := ((findT l t).map (·.str)).getD false
  kind t := (findT l t).bind (·.kind)
  eqf t := (findT l t).bind (·.eqf)
  mapT t := (findT l t).bind (·.mapT)
  flat t := (findT l t).bind (·.flat)
  intK t := (findT l t).bind (·.intK)
  ent := ent
  fag s f := (findT l s).bind fun r => r.fag.bind fun l => l[f]?

theorem findT_mem {l : List (Nat × TRow)} {t : Nat} {r : TRow} (h : findT l t = some r) : (t, r) ∈ l := by
  induction l with
  | nil => cases h
  | cons p rest ih =>
    obtain ⟨k, r'⟩ := p
    simp only [findT] at h
    split at h
    · rename_i he
      simp only [Option.some.injEq] at h
      subst h; subst he
      exact List.mem_cons_self
    · exact List.mem_cons_of_mem _ (ih h)

theorem listOK_row {P : Program} {l : List (Nat × TRow)} (h : listOK P l = true) {t : Nat} {r : TRow} (hr : findT l t = some r) :
    ∃ i d, P.info? t = some i ∧ P.underlying t = some d ∧ r.sz = i.size ∧ r.bytes = i.bytes ∧ r.agg = aggDesc d ∧ (∀ e, r.sle = some e → d = .slice e) ∧ (∀ n e, r.arr = some (n, e) → d = .array n e) ∧
      (∀ z, r.zero = some z → ∃ v, i.zero = some v ∧ z = v.cells.toList.map ofConst ∧ z.all AV.one = true ∧ isAggV v = aggDesc d) ∧ (∀ pl, r.parts = some pl → ∃ fs : Array Field, d = .struct fs ∧ fs.toList.mapM (fun f => (P.info? f.type).map fun i => (f.offset, i.size)) = some pl) ∧
      (∀ k, r.kind = some k → kindDesc k (some d)) ∧ (r.str = true → d = .string) ∧
      (∀ ks, r.eqf = some ks → ∃ fs : Array Field, d = .struct fs ∧ P.stoodInHeld t = false ∧ P.eqGuardType P.depth t = false ∧ eqFs P fs.toList 0 = some ks) ∧ (∀ k e, r.mapT = some (k, e) → d = .map k e) ∧ (∀ ks, r.flat = some ks → flatP P 9 t = some ks) ∧ (∀ k, r.intK = some k → d = .int k) ∧ (∀ l, r.fag = some l → ∃ fs : Array Field, d = .struct fs ∧ fs.toList.mapM (fun f => (P.underlying f.type).map aggDesc) = some l) := by
  have h1 := List.all_eq_true.1 h _ (findT_mem hr)
  simp only at h1
  split at h1
  case h_2 => cases h1
  rename_i r' hr'
  unfold rowOf at hr'
  split at hr'
  case h_2 => cases hr'
  rename_i i d hi hd
  simp only [Option.some.injEq] at hr'
  simp only [TRow.beq, Bool.and_eq_true, beq_iff_eq, decide_eq_true_eq] at h1
  obtain ⟨⟨⟨⟨⟨⟨⟨⟨⟨⟨⟨⟨⟨e1, e2⟩, e3⟩, e4⟩, e5⟩, e6⟩, e7⟩, e8⟩, e10⟩, e11⟩, e13⟩, e12⟩, e14⟩, e9⟩ := h1
  subst hr'
  simp only at e1 e2 e3 e4 e5 e6 e7 e8 e9 e10 e11 e12 e13 e14
  refine ⟨i, d, hi, hd, e1, e2, e3, fun e he => ?_, fun n e he => ?_, fun z hz => ?_, fun pl hp => ?_, fun k hk => ?_, fun hs => ?_, fun ks hs => ?_, fun k e hs => ?_, fun ks hs => by rw [← e12]; exact hs, fun k hs => ?_, fun l hs => ?_⟩
  · rw [e4] at he
    cases d <;> simp at he
    subst he; rfl
  · rw [e5] at he
    cases d <;> simp at he
    obtain ⟨rfl, rfl⟩ := he; rfl
  · rw [hz] at e9
    cases hv : i.zero with
    | none => rw [hv] at e9; simp at e9
    | some v =>
      rw [hv] at e9
      by_cases hall : ((v.cells.toList.map ofConst).all AV.one && isAggV v == aggDesc d) = true
      · simp only [hall, if_true] at e9
        have := AV.eq_of_beqL _ _ e9
        simp only [Bool.and_eq_true, beq_iff_eq] at hall
        exact ⟨v, rfl, this, by rw [this]; exact hall.1, hall.2⟩
      · simp only [hall] at e9
        simp at e9
  · rw [e6] at hp
    cases d <;> simp at hp
    rename_i fs
    exact ⟨fs, rfl, by simpa using hp⟩
  · rw [e7] at hk
    cases d <;> simp [kindOf] at hk <;> subst hk <;> simp [kindDesc]
  · rw [e8] at hs
    cases d <;> simp at hs
    rfl
  · rw [e10] at hs
    split at hs
    · rename_i fs
      split at hs
      · rename_i hc
        simp only [Bool.and_eq_true, Bool.not_eq_true'] at hc
        exact ⟨fs, rfl, hc.1, hc.2, hs⟩
      · cases hs
    · cases hs
  · rw [e11] at hs
    cases d <;> simp at hs
    obtain ⟨rfl, rfl⟩ := hs; rfl
  · rw [e13] at hs
    cases d <;> simp at hs
    subst hs; rfl
  · rw [e14] at hs
    cases d <;> simp at hs
    rename_i fs
    exact ⟨fs, rfl, by simpa using hs⟩

theorem mkTab_ok {P : Program} {l : List (Nat × TRow)} {ent : Nat → Bool} (h : listOK P l = true) (he : ∀ f, ent f = true → entOf P f = true) : TabOK P (mkTab l ent) where
  sz t n hn := by
    obtain ⟨r, hr, rfl⟩ := Option.map_eq_some_iff.1 hn
    obtain ⟨i, d, h1, h2, h3, _⟩ := listOK_row h hr
    exact ⟨i, h1, h3.symm⟩
  agg t b hb := by
    obtain ⟨r, hr, rfl⟩ := Option.map_eq_some_iff.1 hb
    obtain ⟨i, d, h1, h2, h3, h4, h5, _⟩ := listOK_row h hr
    exact ⟨d, h2, h5.symm⟩
  off s f n hn := by
    obtain ⟨r, hr, hn⟩ := Option.bind_eq_some_iff.1 hn
    obtain ⟨ps, hps, hn⟩ := Option.bind_eq_some_iff.1 hn
    obtain ⟨i, d, h1, h2, _, _, _, _, _, _, h9, _⟩ := listOK_row h hr
    obtain ⟨fs, rfl, hm⟩ := h9 ps hps
    split at hn
    · rename_i o m hf
      split at hn
      · cases hn
      · rename_i hne
        simp only [Option.some.injEq] at hn
        subst hn
        have key : ∀ (l : List Field) (ps : List (Nat × Nat)) (f o m : Nat), l.mapM (fun f => (P.info? f.type).map fun i => (f.offset, i.size)) = some ps → ps[f]? = some (o, m) → ∃ fd, l[f]? = some fd ∧ fd.offset = o ∧ ∃ i, P.info? fd.type = some i ∧ i.size = m := by
          intro l
          induction l with
          | nil => intro ps f o m h hf; simp at h; subst h; simp at hf
          | cons x xs ih =>
            intro ps f o m h hf
            simp only [List.mapM_cons, Option.bind_eq_bind, Option.pure_def] at h
            cases hi : P.info? x.type with
            | none => simp [hi] at h
            | some i =>
              cases hq : xs.mapM (fun f => (P.info? f.type).map fun i => (f.offset, i.size)) with
              | none => simp [hi, hq] at h
              | some q =>
                simp [hi, hq] at h
                subst h
                cases f with
                | zero => simp at hf; exact ⟨x, rfl, hf.1, i, hi, hf.2⟩
                | succ f => simp at hf; obtain ⟨fd, g1, g2⟩ := ih q f o m hq hf; exact ⟨fd, by simpa using g1, g2⟩
        obtain ⟨fd, g1, g2, i', g3, g4⟩ := key _ _ _ _ _ hm hf
        exact ⟨fs, fd, h2, by simpa using g1, g2, i', g3, by omega⟩
    · cases hn
  sle t e hn := by
    obtain ⟨r, hr, hn⟩ := Option.bind_eq_some_iff.1 hn
    obtain ⟨i, d, h1, h2, _, _, _, h6, _⟩ := listOK_row h hr
    rw [h2, h6 e hn]
  arr t n e hn := by
    obtain ⟨r, hr, hn⟩ := Option.bind_eq_some_iff.1 hn
    obtain ⟨i, d, h1, h2, _, _, _, _, h7, _⟩ := listOK_row h hr
    rw [h2, h7 n e hn]
  zero t z hn := by
    obtain ⟨r, hr, hn⟩ := Option.bind_eq_some_iff.1 hn
    obtain ⟨i, d, h1, h2, _, _, _, _, _, h8, _⟩ := listOK_row h hr
    obtain ⟨v, g1, g2, g3, _⟩ := h8 z hn
    exact ⟨i, v, h1, g1, g2, g3⟩
  parts t pl hn := by
    obtain ⟨r, hr, hn⟩ := Option.bind_eq_some_iff.1 hn
    obtain ⟨i, d, h1, h2, _, _, _, _, _, _, h9, _⟩ := listOK_row h hr
    obtain ⟨fs, rfl, hm⟩ := h9 pl hn
    exact ⟨fs, h2, hm⟩
  bytes t n hn := by
    obtain ⟨r, hr, rfl⟩ := Option.map_eq_some_iff.1 hn
    obtain ⟨i, d, h1, h2, h3, h4, _⟩ := listOK_row h hr
    exact ⟨i, h1, h4.symm⟩
  str t hn := by
    cases hr : findT l t with
    | none => simp [mkTab, hr] at hn
    | some r =>
      simp [mkTab, hr] at hn
      obtain ⟨i, d, h1, h2, _, _, _, _, _, _, _, _, h11, _⟩ := listOK_row h hr
      rw [h2, h11 hn]
  kind t k hn := by
    obtain ⟨r, hr, hn⟩ := Option.bind_eq_some_iff.1 hn
    obtain ⟨i, d, h1, h2, _, _, _, _, _, _, _, h10, _⟩ := listOK_row h hr
    rw [h2]
    exact h10 k hn
  eqf t ks hn := by
    obtain ⟨r, hr, hn⟩ := Option.bind_eq_some_iff.1 hn
    obtain ⟨i, d, h1, h2, _, _, _, _, _, _, _, _, _, h12, _⟩ := listOK_row h hr
    obtain ⟨fs, rfl, g⟩ := h12 ks hn
    exact ⟨fs, h2, g⟩
  zsh t z b hz hb := by
    obtain ⟨r, hr, hn⟩ := Option.bind_eq_some_iff.1 hz
    obtain ⟨r', hr', rfl⟩ := Option.map_eq_some_iff.1 hb
    rw [hr] at hr'
    cases hr'
    obtain ⟨i, d, h1, h2, _, _, h5, _, _, h8, _⟩ := listOK_row h hr
    obtain ⟨v, g1, _, _, g4⟩ := h8 z hn
    exact ⟨i, v, h1, g1, by rw [g4, h5]⟩
  mapT t k e hn := by
    obtain ⟨r, hr, hn⟩ := Option.bind_eq_some_iff.1 hn
    obtain ⟨i, d, h1, h2, _, _, _, _, _, _, _, _, _, _, h13, _⟩ := listOK_row h hr
    rw [h2, h13 k e hn]
  flat t ks hn := by
    obtain ⟨r, hr, hn⟩ := Option.bind_eq_some_iff.1 hn
    obtain ⟨i, d, h1, h2, _, _, _, _, _, _, _, _, _, _, _, h14, _⟩ := listOK_row h hr
    exact h14 ks hn
  intK t k hn := by
    obtain ⟨r, hr, hn⟩ := Option.bind_eq_some_iff.1 hn
    obtain ⟨i, d, h1, h2, _, _, _, _, _, _, _, _, _, _, _, _, h15, _⟩ := listOK_row h hr
    rw [h2, h15 k hn]
  ent f hf args w := by
    have h1 := he f hf
    unfold entOf at h1
    split at h1
    · rename_i fn hfn
      simp only [Bool.and_eq_true, Bool.not_eq_true'] at h1
      obtain ⟨c, hc⟩ := Option.isSome_iff_exists.1 h1.1
      exact Go.Proofs.enters_of hfn h1.2 hc args w
    · cases h1
  fag s f b hb := by
    obtain ⟨r, hr, hn⟩ := Option.bind_eq_some_iff.1 hb
    obtain ⟨q, hq, hf⟩ := Option.bind_eq_some_iff.1 hn
    obtain ⟨i, d, h1, h2, _, _, _, _, _, _, _, _, _, _, _, _, _, h16⟩ := listOK_row h hr
    obtain ⟨fs, rfl, hm⟩ := h16 q hq
    have key : ∀ (l : List Field) (q : List Bool) (f : Nat) (b : Bool), l.mapM (fun f => (P.underlying f.type).map aggDesc) = some q → q[f]? = some b → ∃ fd d, l[f]? = some fd ∧ P.underlying fd.type = some d ∧ aggDesc d = b := by
      intro l
      induction l with
      | nil => intro q f b h hf; simp at h; subst h; simp at hf
      | cons x xs ih =>
        intro q f b h hf
        simp only [List.mapM_cons, Option.bind_eq_bind, Option.pure_def] at h
        cases hi : P.underlying x.type with
        | none => simp [hi] at h
        | some d =>
          cases hq : xs.mapM (fun f => (P.underlying f.type).map aggDesc) with
          | none => simp [hi, hq] at h
          | some q' =>
            simp [hi, hq] at h
            subst h
            cases f with
            | zero => simp at hf; exact ⟨x, d, rfl, hi, hf⟩
            | succ f => simp at hf; obtain ⟨fd, d', g1, g2⟩ := ih q' f b hq hf; exact ⟨fd, d', by simpa using g1, g2⟩
    obtain ⟨fd, d, g1, g2, g3⟩ := key _ _ _ _ hm hf
    exact ⟨fs, fd, d, h2, by simpa using g1, g2, g3⟩

end Go.Ev
