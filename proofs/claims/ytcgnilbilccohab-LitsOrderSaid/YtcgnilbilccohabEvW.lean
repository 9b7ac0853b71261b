/- Slices as values, terms; rules for evaluating on temporaries that are known in part. -/
import Derived.Test.YtcgnilbilccohabEvR
import Derived.Test.YtcgnilbilccohabEvQ
namespace Go.Ev
open Go
set_option linter.unusedSimpArgs false
set_option linter.unusedVariables false

theorem Z.run_fn {k f : Nat} {fn : Func} {c : Code} (hok : (Z.okT f && ((Z.handZ f).isNone && (findP Z.altl f).isEmpty)) = true) (hf : Go.Proofs.Try.prog.funcs[f]? = some fn) (hb : fn.body = some c) (args : List AV) (S : Store) :
    callN Z.E (k + 1) f args S = (funK Z.T fn.results.toList (evCode Z.T (callN Z.E k) (drawF Z.T (callN Z.E k) f none (Z.planOf f)) (k + 1) c (args ++ List.replicate (fn.ntmps - args.length) undefA) S)).bind (fin (!(Z.keepl.contains f)) S) := by
  rw [Z.run_of hok hf, evFun_k _ _ _ _ _ _ _ hb]

/-! ### A slice, nil or not -/
/-- A slice of known elements. k: none: nil where it is empty. -/
def slA (k : Option Bool) (els : List (List AV)) : AV := match k, els with
  | none, [] => .nilsl
  | none, els => .fsl false els
  | some x, els => .fsl x els

section
variable {T : Tab} {ty e sz : Nat} {k : Option Bool} {els : List (List AV)}

theorem slA_cases (k : Option Bool) (els : List (List AV)) : (slA k els = .nilsl ∧ els = []) ∨ ∃ x, slA k els = .fsl x els := by
  cases k with
  | none => cases els with
    | nil => exact .inl ⟨rfl, rfl⟩
    | cons a l => exact .inr ⟨false, rfl⟩
  | some x => exact .inr ⟨x, rfl⟩

@[simp] theorem lenA_slA (hk : T.kind ty = some 2) : lenA T ty (slA k els) = some (.int .i64 els.length) := by
  rcases slA_cases k els with ⟨h, rfl⟩ | ⟨x, h⟩ <;> rw [h] <;> simp [lenA, hk]

@[simp] theorem lenB_slA {S : Store} (hk : T.kind ty = some 2) : lenB T S ty (slA k els) = some (.int .i64 els.length) := by
  rcases slA_cases k els with ⟨h, rfl⟩ | ⟨x, h⟩ <;> rw [h] <;> simp [lenB, lenA, hk]

theorem indexA_slA {i : Nat} {el : List AV} (hs : T.sle ty = some e) (hz : T.sz e = some sz) (hi : els[i]? = some el) (hl : el.length = sz) : indexA T ty (slA k els) (.int .i64 i) = some (.fptr els i 0) := by
  rcases slA_cases k els with ⟨h, rfl⟩ | ⟨x, h⟩
  · simp at hi
  · rw [h]
    have : ((i : Int).toNat) = i := rfl
    simp only [indexA, hs, this, hi, hz, hl]
    simp

@[simp] theorem one_slA : (slA k els).one = true := by
  rcases slA_cases k els with ⟨h, _⟩ | ⟨x, h⟩ <;> rw [h] <;> rfl

@[simp] theorem cells_slA : (slA k els).cellsOf = some [slA k els] := by
  rcases slA_cases k els with ⟨h, _⟩ | ⟨x, h⟩ <;> rw [h] <;> rfl

@[simp] theorem elsOf_slA {S : Store} (h : els.all (fun e => e.length == sz) = true) : elsOf S sz (slA k els) = some els := by
  rcases slA_cases k els with ⟨h', rfl⟩ | ⟨x, h'⟩ <;> rw [h'] <;> simp only [elsOf]
  rw [h, if_pos rfl]

@[simp] theorem isPanic_slA : (slA k els).isPanic = false := by
  rcases slA_cases k els with ⟨h, _⟩ | ⟨x, h⟩ <;> rw [h] <;> rfl
end

theorem readN_el {els : List (List AV)} {i n : Nat} {e : List AV} (h : els[i]? = some e) (hl : e.length = n) (S : Store) : readN S n (.fptr els i 0) = some e := by
  rw [readN_fptr, h]
  simp [hl, List.take_of_length_le (Nat.le_of_eq hl)]

/-! ### Temporaries known in part -/
theorem getD_at {t : Tmps} {i : Nat} {v : AV} (h : t[i]? = some v) : t.getD i undefA = v := by
  rw [List.getD_eq_getElem?_getD, h]; rfl

/-! ### Terms -/
inductive Tm where
  | mk (v : Int) (fn : ByteArray) (k : Option Bool) (args : List Tm)

mutual
def Tm.cells : Tm → List AV
  | .mk v fn k args => [.int .i64 v, .str fn, slA k (cellsL args)]
def cellsL : List Tm → List (List AV)
  | [] => []
  | t :: ts => t.cells :: cellsL ts
end

@[simp] theorem Tm.cells_len : ∀ (t : Tm), t.cells.length = 3
  | .mk v fn k args => rfl

@[simp] theorem Tm.cells_one : ∀ (t : Tm), t.cells.all AV.one = true
  | .mk v fn k args => by simp [Tm.cells]

@[simp] theorem Tm.take3 (t : Tm) : List.take 3 t.cells = t.cells := List.take_of_length_le (by simp)
@[simp] theorem Tm.drop3 (t : Tm) : List.drop 3 t.cells = [] := List.drop_eq_nil_of_le (by simp)

@[simp] theorem cellsL_len : ∀ (l : List Tm), (cellsL l).length = l.length
  | [] => rfl
  | t :: ts => by simp [cellsL, cellsL_len ts]

theorem cellsL_get : ∀ (l : List Tm) (i : Nat), (cellsL l)[i]? = (l[i]?).map Tm.cells
  | [], i => by simp [cellsL]
  | t :: ts, 0 => by simp [cellsL]
  | t :: ts, i + 1 => by simp [cellsL, cellsL_get ts i]

theorem cellsL_map (l : List Tm) : cellsL l = l.map Tm.cells := by
  induction l with
  | nil => rfl
  | cons t ts ih => simp [cellsL, ih]

def Tm.v : Tm → Int | .mk v _ _ _ => v
def Tm.fn : Tm → ByteArray | .mk _ f _ _ => f
def Tm.k : Tm → Option Bool | .mk _ _ k _ => k
def Tm.args : Tm → List Tm | .mk _ _ _ a => a

mutual
/-- How much fuel serves. -/
def Tm.w : Tm → Nat
  | .mk _ _ _ args => wL args + 2
def wL : List Tm → Nat
  | [] => 0
  | t :: ts => t.w + wL ts + 1
end

mutual
/-- No list of arguments is so long that its indices would not be whole numbers of the machine. -/
def Tm.ok : Tm → Prop
  | .mk _ _ _ args => args.length < 4611686018427387904 ∧ okL args
def okL : List Tm → Prop
  | [] => True
  | t :: ts => t.ok ∧ okL ts
end

theorem okL_mem : ∀ {l : List Tm}, okL l → ∀ t ∈ l, t.ok
  | x :: xs, h, t, ht => by
    rcases List.mem_cons.1 ht with rfl | ht
    · exact h.1
    · exact okL_mem h.2 t ht

theorem wL_len : ∀ (l : List Tm), l.length ≤ wL l
  | [] => Nat.le_refl _
  | t :: ts => by simp only [wL, List.length_cons]; have := wL_len ts; omega

theorem w_mem : ∀ {l : List Tm} {t : Tm}, t ∈ l → t.w < wL l
  | x :: xs, t, h => by
    simp only [wL]
    rcases List.mem_cons.1 h with rfl | h
    · omega
    · have := w_mem h; omega

end Go.Ev
