/- Literals: sizes, rightness and order (second seat). -/
import Derived.Test.YtcgnilbilccohabEvX4
namespace Go.Ev.Z
open Go Go.Ev Go.Proofs
set_option linter.unusedVariables false
set_option maxRecDepth 8000
set_option linter.unusedSimpArgs false

structure Li where
  neg : Bool
  l : Tm
  r : Tm

def Li.cells (x : Li) : List AV := .bool x.neg :: (x.l.cells ++ x.r.cells)
def cellsC (xs : List Li) : List (List AV) := xs.map Li.cells
@[simp] theorem Li.cells_len (x : Li) : x.cells.length = 7 := by simp [Li.cells]
@[simp] theorem cellsC_len (xs : List Li) : (cellsC xs).length = xs.length := by simp [cellsC]
theorem cellsC_get (xs : List Li) (i : Nat) : (cellsC xs)[i]? = xs[i]?.map Li.cells := by simp [cellsC]

theorem Li.takeL (x : Li) : (x.cells.drop 1).take 3 = x.l.cells := by
  have h := Tm.cells_len x.l
  simp only [Li.cells, List.drop_succ_cons, List.drop_zero]
  rw [List.take_append_of_le_length (by omega), List.take_of_length_le (by omega)]

theorem Li.takeR (x : Li) : (x.cells.drop 4).take 3 = x.r.cells := by
  have h := Tm.cells_len x.l
  have h' := Tm.cells_len x.r
  simp only [Li.cells, List.drop_succ_cons]
  rw [List.drop_append_of_le_length (by omega), List.drop_of_length_le (by omega), List.nil_append, List.take_of_length_le (by omega)]

theorem readL {els : List (List AV)} {i : Nat} {x : Li} (h : els[i]? = some x.cells) (S : Store) : readN S 3 (.fptr els i 1) = some x.l.cells := by
  rw [readN_fptr, h]
  simp only [Li.cells_len, Li.takeL]
  rfl

theorem readR {els : List (List AV)} {i : Nat} {x : Li} (h : els[i]? = some x.cells) (S : Store) : readN S 3 (.fptr els i 4) = some x.r.cells := by
  rw [readN_fptr, h]
  simp only [Li.cells_len, Li.takeR]
  rfl

def sizeC : Int → List Li → Int
  | acc, [] => acc
  | acc, x :: xs => sizeC (IntKind.i64.wrap (IntKind.i64.wrap (acc + sizeW x.l) + sizeW x.r)) xs

def Li.ok (x : Li) : Prop := x.l.ok ∧ x.r.ok
def Li.w (x : Li) : Nat := x.l.w + x.r.w

theorem loop82 (xs : List Li) (kk : Option Bool) (k K : Nat) (S : Store) (hx : ∀ x ∈ xs, x.ok ∧ x.w ≤ k) (hb : xs.length < 9223372036854775807) :
    ∀ (rest : List Li) (i : Nat) (acc : Int) (n : Nat) (t : Tmps), xs.drop i = rest → rest.length < n → t.length = 27 → tg t 0 = slA kk (cellsC xs) → tg t 3 = .int .i64 acc → tg t 4 = .int .i64 i →
      Out (fun e t' S' => e = .exit 0 ∧ t'.length = 27 ∧ tg t' 3 = .int .i64 (sizeC acc rest) ∧ S' = S) (loopC T (callN E k) (drawF T (callN E k) 82 none (planOf 82)) K (lp 0 Try.f82) n t S) := by
  intro rest
  induction rest with
  | nil =>
    intro i acc n t hd hn hlen h0 h3 h4
    obtain ⟨n, rfl⟩ : ∃ n', n = n' + 1 := ⟨n - 1, by omega⟩
    have hi : xs.length ≤ i := List.drop_eq_nil_iff.1 hd
    have e1 : ¬ i < xs.length := by omega
    simp [loop_step, Try.f82, h0, h3, h4, hlen, e1, sizeC]
  | cons a rest ihr =>
    intro i acc n t hd hn hlen h0 h3 h4
    obtain ⟨n, rfl⟩ : ∃ n', n = n' + 1 := ⟨n - 1, by omega⟩
    obtain ⟨hi, ha, hd'⟩ := drop_cons hd
    obtain ⟨⟨ol, or⟩, hw'⟩ := hx a (List.mem_of_getElem? ha)
    simp only [Li.w] at hw'
    have hL := fun S => t22 a.l k S (by omega) ol
    have hR := fun S => t22 a.r k S (by omega) or
    have e3 : (cellsC xs)[i]? = some a.cells := by simp [cellsC_get, ha]
    have e2 := indexA_slA (T := T) (ty := 45) (e := 54) (sz := 7) (k := kk) (els := cellsC xs) (i := i) (el := a.cells) rfl rfl e3 (by simp)
    have e4 := readL e3
    have e5 := readR e3
    have hw : IntKind.i64.wrap ((i : Int) + 1) = ((i + 1 : Nat) : Int) := wrapN (by omega) (by omega)
    simp [loop_step, Try.f82, h0, h3, h4, hlen, hi, e2, e4, e5, hL, hR, hw, sizeC]
    refine ihr (i + 1) _ n _ hd' (by simp at hn; omega) ?_ ?_ ?_ ?_ <;> simp [hlen, h0]

theorem t82 (xs : List Li) (kk : Option Bool) (k : Nat) (S : Store) (hx : ∀ x ∈ xs, x.ok ∧ x.w ≤ k) (hb : xs.length < 9223372036854775807) (hk : xs.length ≤ k) : callN E (k + 1) 82 [slA kk (cellsC xs)] S = some (.int .i64 (sizeC 0 xs), S) := by
  rw [run_fn (by decide) Try.func82 rfl]
  have L := fun t => loop82 xs kk k (k + 1) S hx hb xs 0 0 (k + 1) t rfl (by omega)
  simp only [lp, loops, Try.f82, List.nil_append, List.append_nil, List.getD_cons_zero] at L
  simp [Try.f82, keepl]
  generalize hr : loopC T (callN E k) _ (k + 1) _ (k + 1) _ _ = r
  obtain ⟨e, t', S', rfl, rfl, g1, g2, rfl⟩ := Out.at hr (L _ (by rfl) (by rfl) (by rfl) (by rfl))
  simp [g1, g2]

/-! ### Right -/
def codeC : List Li → Int
  | [] => 0
  | x :: xs => if rightW x.l = 0 then (if rightW x.r = 0 then codeC xs else rightW x.r) else rightW x.l

theorem loop28 (xs : List Li) (kk : Option Bool) (k K : Nat) (S : Store) (hx : ∀ x ∈ xs, x.ok ∧ x.w ≤ k) (hb : xs.length < 9223372036854775807) :
    ∀ (rest : List Li) (i : Nat) (n : Nat) (t : Tmps), xs.drop i = rest → rest.length < n → t.length = 36 → tg t 0 = slA kk (cellsC xs) → tg t 3 = .int .i64 i →
      Out (fun e t' S' => (e = .exit 0 ∧ codeC rest = 0 ∧ tg t' 0 = slA kk (cellsC xs) ∨ e = .ret ∧ ¬ codeC rest = 0 ∧ tg t' 2 = .int .i64 (codeC rest)) ∧ t'.length = 36 ∧ S' = S) (loopC T (callN E (k + 1)) (drawF T (callN E (k + 1)) 28 none (planOf 28)) K (lp 0 Try.f28) n t S) := by
  intro rest
  induction rest with
  | nil =>
    intro i n t hd hn hlen h0 h3
    obtain ⟨n, rfl⟩ : ∃ n', n = n' + 1 := ⟨n - 1, by omega⟩
    have hi : xs.length ≤ i := List.drop_eq_nil_iff.1 hd
    have e1 : ¬ i < xs.length := by omega
    simp [loop_step, Try.f28, h0, h3, hlen, e1, codeC]
  | cons a rest ihr =>
    intro i n t hd hn hlen h0 h3
    obtain ⟨n, rfl⟩ : ∃ n', n = n' + 1 := ⟨n - 1, by omega⟩
    obtain ⟨hi, ha, hd'⟩ := drop_cons hd
    obtain ⟨⟨ol, or⟩, hw'⟩ := hx a (List.mem_of_getElem? ha)
    simp only [Li.w] at hw'
    have hL := fun S => t47 a.l k S (by omega) ol
    have hR := fun S => t47 a.r k S (by omega) or
    have e3 : (cellsC xs)[i]? = some a.cells := by simp [cellsC_get, ha]
    have e2 := indexA_slA (T := T) (ty := 45) (e := 54) (sz := 7) (k := kk) (els := cellsC xs) (i := i) (el := a.cells) rfl rfl e3 (by simp)
    have e4 := readL e3
    have e5 := readR e3
    have hw : IntKind.i64.wrap ((i : Int) + 1) = ((i + 1 : Nat) : Int) := wrapN (by omega) (by omega)
    by_cases g1 : rightW a.l = 0
    · by_cases g2 : rightW a.r = 0
      · simp [loop_step, Try.f28, h0, h3, hlen, hi, e2, e4, e5, hL, hR, hw, codeC, g1, g2]
        refine ihr (i + 1) n _ hd' (by simp at hn; omega) ?_ ?_ ?_ <;> simp [hlen, h0]
      · simp [loop_step, Try.f28, h0, h3, hlen, hi, e2, e4, e5, hL, hR, hw, codeC, g1, g2]
    · simp [loop_step, Try.f28, h0, h3, hlen, hi, e2, e4, e5, hL, hR, hw, codeC, g1]

def rightC (xs : List Li) : Int := if 60 < xs.length then 3 else if codeC xs = 0 then (if 4000 < sizeC 0 xs then 3 else 0) else codeC xs

theorem t28 (xs : List Li) (kk : Option Bool) (k : Nat) (S : Store) (hx : ∀ x ∈ xs, x.ok ∧ x.w ≤ k) (hb : xs.length < 9223372036854775807) (hk : xs.length ≤ k) : callN E (k + 2) 28 [slA kk (cellsC xs)] S = some (.int .i64 (rightC xs), S) := by
  rw [run_fn (by decide) Try.func28 rfl]
  have h82 := fun S => t82 xs kk k S hx hb hk
  by_cases g : 60 < xs.length
  · have g' : (60 : Int) < xs.length := by omega
    simp [Try.f28, keepl, rightC, g, g']
  · have g' : ¬ (60 : Int) < xs.length := by omega
    have g'' : (xs.length : Int) ≤ 60 := by omega
    have L := fun t => loop28 xs kk k (k + 2) S hx hb xs 0 (k + 2) t rfl (by omega)
    simp only [lp, loops, Try.f28, List.nil_append, List.append_nil, List.getD_cons_zero] at L
    simp [Try.f28, keepl, g, g', g'']
    generalize hr : loopC T (callN E (k + 1)) _ (k + 2) _ (k + 2) _ _ = r
    obtain ⟨e, t', S', rfl, h, g1, rfl⟩ := Out.at hr (L _ (by rfl) (by rfl) (by rfl))
    rcases h with ⟨rfl, h, h0⟩ | ⟨rfl, h, h2⟩
    · by_cases g2 : 4000 < sizeC 0 xs
      · simp [h, h0, g1, h82, rightC, g, g2]
      · simp [h, h0, g1, h82, rightC, g, g2]
    · simp [h, h2, g1, rightC, g]

/-! ### Order -/
def cmpLi (a b : Li) : Int := if a.neg = b.neg then (if cmpT a.l b.l = 0 then cmpT a.r b.r else cmpT a.l b.l) else if b.neg then -1 else 1

theorem t102 (a b : Int) (k : Nat) (S : Store) : callN E (k + 3) 102 [.fsl true [[.int .i64 a], [.int .i64 b]]] S = some (.int .i64 (if a = 0 then b else a), S) := by
  rw [run_fn (by decide) Try.func102 rfl]
  have w1 : IntKind.i64.wrap 1 = 1 := by decide
  have w2 : IntKind.i64.wrap 2 = 2 := by decide
  have i0 : ∀ x y : AV, indexA T 29 (.fsl true [[x], [y]]) (.int .i64 0) = some (.fptr [[x], [y]] 0 0) := fun x y => (rfl)
  have i1 : ∀ x y : AV, indexA T 29 (.fsl true [[x], [y]]) (.int .i64 1) = some (.fptr [[x], [y]] 1 0) := fun x y => (rfl)
  have j0 : ∀ (x y : AV) S, read1 S (.fptr [[x], [y]] 0 0) = some x := fun x y S => (rfl)
  have j1 : ∀ (x y : AV) S, read1 S (.fptr [[x], [y]] 1 0) = some y := fun x y S => (rfl)
  by_cases h : a = 0
  · by_cases h' : b = 0
    · simp [Try.f102, keepl, loop_step, i0, i1, j0, j1, w1, w2, h, h']
    · simp [Try.f102, keepl, loop_step, i0, i1, j0, j1, w1, w2, h, h']
  · simp [Try.f102, keepl, loop_step, i0, i1, j0, j1, w1, w2, h]

@[simp] theorem Li.cells_one (x : Li) : x.cells.all AV.one = true := by
  have h1 := Tm.cells_one x.l
  have h2 := Tm.cells_one x.r
  rw [Li.cells, List.all_cons, List.all_append, h1, h2]
  rfl

theorem boxN {x : Li} {S : Store} {l : Nat} (h : rowCells S l = some x.cells) : read1 S (.ptr l 0) = some (.bool x.neg) := by
  simp [read1, h, Li.cells]
theorem boxL {x : Li} {S : Store} {l : Nat} (h : rowCells S l = some x.cells) : readN S 3 (.ptr l 1) = some x.l.cells := by
  simp only [readN, h, Li.cells_len, Li.takeL]; rfl
theorem boxR {x : Li} {S : Store} {l : Nat} (h : rowCells S l = some x.cells) : readN S 3 (.ptr l 4) = some x.r.cells := by
  simp only [readN, h, Li.cells_len, Li.takeR]; rfl
theorem boxAll {x : Li} {S : Store} {l : Nat} (h : rowCells S l = some x.cells) : readN S 7 (.ptr l 0) = some x.cells := by
  simp only [readN, h, Li.cells_len, List.drop_zero, List.take_of_length_le (Nat.le_of_eq (Li.cells_len x))]; rfl

theorem t41 (a b : Li) (k : Nat) (S : Store) (ha : a.ok) (hk : a.w + 2 ≤ k) : callN E (k + 1) 41 [.agg a.cells, .agg b.cells] S = some (.int .i64 (cmpLi a b), S) := by
  simp only [Li.w] at hk
  have h1 := fun S => t104 a.l b.l k S (by omega) ha.1
  have h2 := fun S => t104 a.r b.r k S (by omega) ha.2
  have r0 := @boxN
  have r1 := @boxL
  have r2 := @boxR
  rw [run_fn (by decide) Try.func41 rfl]
  by_cases g : a.neg = b.neg
  · by_cases g1 : cmpT a.l b.l = 0
    · simp [Try.f41, keepl, h1, h2, r0 (x := a), r1 (x := a), r2 (x := a), r0 (x := b), r1 (x := b), r2 (x := b), g, g1, cmpLi]
    · simp [Try.f41, keepl, h1, h2, r0 (x := a), r1 (x := a), r2 (x := a), r0 (x := b), r1 (x := b), r2 (x := b), g, g1, cmpLi]
  · cases g2 : b.neg
    · have g3 : a.neg = true := by cases h : a.neg <;> simp_all
      simp [Try.f41, keepl, h1, h2, r0 (x := a), r1 (x := a), r2 (x := a), r0 (x := b), r1 (x := b), r2 (x := b), g2, g3, cmpLi]
    · have g3 : a.neg = false := by cases h : a.neg <;> simp_all
      simp [Try.f41, keepl, h1, h2, r0 (x := a), r1 (x := a), r2 (x := a), r0 (x := b), r1 (x := b), r2 (x := b), g2, g3, cmpLi]

theorem t40 (a b : Li) (k : Nat) (S : Store) (ha : a.ok) (hk : a.w + 4 ≤ k) : callN E (k + 1) 40 [.agg a.cells, .agg b.cells] S = some (.int .i64 (cmpLi a b), S) := by
  simp only [Li.w] at hk
  obtain ⟨k, rfl⟩ : ∃ k', k = k' + 3 := ⟨k - 3, by omega⟩
  have h1 := fun S => t103 a.l b.l (k + 3) S (by omega) ha.1
  have h2 := fun S => t103 a.r b.r (k + 3) S (by omega) ha.2
  have h3 := fun x y S => t102 x y k S
  have bs : ∀ x y : Int, buildSliceA T 29 2 [(0, .int .i64 x), (1, .int .i64 y)] = some (.fsl true [[.int .i64 x], [.int .i64 y]]) := fun x y => (rfl)
  have r0 := @boxN
  have r1 := @boxL
  have r2 := @boxR
  rw [run_fn (by decide) Try.func40 rfl]
  cases g3 : a.neg <;> cases g2 : b.neg <;>
    simp [Try.f40, keepl, Li.takeL, Li.takeR, bs, h1, h2, h3, r0 (x := a), r1 (x := a), r2 (x := a), r0 (x := b), r1 (x := b), r2 (x := b), g2, g3, cmpLi]

/-! ### The law LitsOrder -/
theorem cmpLi_neg (a b : Li) : cmpLi b a = - cmpLi a b := by
  have h1 := cmpT_neg a.l b.l
  have h2 := cmpT_neg a.r b.r
  unfold cmpLi
  cases a.neg <;> cases b.neg <;> simp [h1, h2] <;> (try omega)

theorem or_trans {p q r p' q' r' : Int} (h1 : p ≤ 0 → q ≤ 0 → r ≤ 0 ∧ (p < 0 ∨ q < 0 → r < 0)) (h2 : p' ≤ 0 → q' ≤ 0 → r' ≤ 0) (a : (if p = 0 then p' else p) ≤ 0) (b : (if q = 0 then q' else q) ≤ 0) : (if r = 0 then r' else r) ≤ 0 := by
  by_cases hp : p = 0
  · rw [if_pos hp] at a
    by_cases hq : q = 0
    · rw [if_pos hq] at b
      have k1 := h1 (by omega) (by omega)
      have k2 := h2 a b
      split <;> omega
    · rw [if_neg hq] at b
      have k1 := h1 (by omega) b
      have k2 := k1.2 (.inr (by omega))
      rw [if_neg (by omega)]; omega
  · rw [if_neg hp] at a
    have hq : q ≤ 0 := by
      by_cases hq : q = 0
      · omega
      · rw [if_neg hq] at b; exact b
    have k1 := h1 a hq
    have k2 := k1.2 (.inl (by omega))
    rw [if_neg (by omega)]; omega

theorem cmpLi_trans (a b c : Li) (h : cmpLi a b ≤ 0) (h' : cmpLi b c ≤ 0) : cmpLi a c ≤ 0 := by
  have h1 := cmpT_trans a.l b.l c.l
  have h2 := cmpT_trans a.r b.r c.r
  unfold cmpLi at *
  cases ha : a.neg <;> cases hb : b.neg <;> cases hc : c.neg <;> simp only [ha, hb, hc, if_true, reduceCtorEq, if_false] at h h' ⊢ <;> first
    | omega
    | exact or_trans h1 (fun x y => (h2 x y).1) h h'
    | (simp at h h' ⊢; done)
    | simp

theorem t29 (k : Nat) (S : Store) : callN E (k + 1) 29 [] S = some (.bool true, S) := by
  rw [call_hand (c := closedB true) (by simp [handZ])]
  rfl

theorem cmpLi_abs (a b : Li) : -1 ≤ cmpLi a b ∧ cmpLi a b ≤ 1 := by
  have h1 := cmpT_abs a.l b.l
  have h2 := cmpT_abs a.r b.r
  unfold cmpLi
  repeat' split
  all_goals omega

theorem take7 (x : Li) : x.cells.take 7 = x.cells := List.take_of_length_le (Nat.le_of_eq (Li.cells_len x))

theorem bs3 (a b c : Li) : buildSliceA T 45 3 [(0, .agg a.cells), (1, .agg b.cells), (2, .agg c.cells)] = some (.fsl true [a.cells, b.cells, c.cells]) := by
  obtain ⟨n1, ⟨v1, f1, k1, s1⟩, ⟨w1, g1, l1, r1⟩⟩ := a
  obtain ⟨n2, ⟨v2, f2, k2, s2⟩, ⟨w2, g2, l2, r2⟩⟩ := b
  obtain ⟨n3, ⟨v3, f3, k3, s3⟩, ⟨w3, g3, l3, r3⟩⟩ := c
  rfl

theorem law8 (a b c : Li) (k : Nat) (ha : a.ok) (hb : b.ok) (hc : c.ok) (hk : a.w + b.w + c.w + 6 ≤ k) (S : Store) : callN E (k + 1) 8 [.agg a.cells, .agg b.cells, .agg c.cells] S = some (.bool true, S) := by
  obtain ⟨k, rfl⟩ : ∃ k', k = k' + 2 := ⟨k - 2, by omega⟩
  have h28 : ∀ S, callN E (k + 2) 28 [.fsl true [a.cells, b.cells, c.cells]] S = some (.int .i64 (rightC [a, b, c]), S) := fun S => t28 [a, b, c] (some true) k S (by simp; exact ⟨⟨ha, by omega⟩, ⟨hb, by omega⟩, hc, by omega⟩) (by simp) (by simp; omega)
  have h40 : ∀ S, callN E (k + 2) 40 [.agg a.cells, .agg b.cells] S = some (.int .i64 (cmpLi a b), S) := fun S => t40 a b (k + 1) S ha (by omega)
  have h40' : ∀ S, callN E (k + 2) 40 [.agg b.cells, .agg c.cells] S = some (.int .i64 (cmpLi b c), S) := fun S => t40 b c (k + 1) S hb (by omega)
  have h40'' : ∀ S, callN E (k + 2) 40 [.agg a.cells, .agg c.cells] S = some (.int .i64 (cmpLi a c), S) := fun S => t40 a c (k + 1) S ha (by omega)
  have h40n : ∀ S, callN E (k + 2) 40 [.agg b.cells, .agg a.cells] S = some (.int .i64 (cmpLi b a), S) := fun S => t40 b a (k + 1) S hb (by omega)
  have h41 : ∀ S, callN E (k + 2) 41 [.agg a.cells, .agg b.cells] S = some (.int .i64 (cmpLi a b), S) := fun S => t41 a b (k + 1) S ha (by omega)
  have h29 : ∀ S, callN E (k + 2) 29 [] S = some (.bool true, S) := t29 (k + 1)
  have r := @boxAll
  have bs := bs3 a b c
  have e1 := cmpLi_neg a b
  have e2 := cmpLi_trans a b c
  rw [run_fn (by decide) Try.func8 rfl]
  have g1 : IntKind.i64.wrap (-cmpLi b a) = cmpLi a b := by
    have := cmpLi_abs a b
    rw [cmpLi_neg a b, Int.neg_neg]
    exact wrapN (by omega) (by omega)
  by_cases g : rightC [a, b, c] = 0
  · by_cases e5 : 0 < cmpLi a b
    · simp [-buildSliceA, Try.f8, keepl, take7, h28, h40, h40', h40'', h40n, h41, h29, r (x := a), r (x := b), r (x := c), bs, g, g1, e5]
    · by_cases e3 : 0 < cmpLi b c
      · simp [-buildSliceA, Try.f8, keepl, take7, h28, h40, h40', h40'', h40n, h41, h29, r (x := a), r (x := b), r (x := c), bs, g, g1, e5, e3]
      · have e4 : cmpLi a c ≤ 0 := e2 (by omega) (by omega)
        simp [-buildSliceA, Try.f8, keepl, take7, h28, h40, h40', h40'', h40n, h41, h29, r (x := a), r (x := b), r (x := c), bs, g, g1, e5, e3, e4]
  · simp [-buildSliceA, Try.f8, keepl, take7, h28, h29, r (x := a), r (x := b), r (x := c), bs, g]

end Go.Ev.Z
