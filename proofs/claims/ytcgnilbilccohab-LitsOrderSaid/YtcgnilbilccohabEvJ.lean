/- The evaluator Ev, part J: regions whose order is drawn: definitions, and what the checks give. -/
import Derived.Test.YtcgnilbilccohabEvI
namespace Go.Ev
open Go
set_option linter.unusedSimpArgs false
set_option linter.unusedVariables false

/-! ### Equality of abstract values, as a Bool -/
mutual
def AV.beq : AV → AV → Bool
  | .bool a, .bool b => a == b
  | .int k n, .int k' n' => decide (k = k') && n == n'
  | .str a, .str b => a.data.toList == b.data.toList
  | .ptr l o, .ptr l' o' => l == l' && o == o'
  | .nilptr, .nilptr => true
  | .fptr e i o, .fptr e' i' o' => AV.beqLL e e' && (i == i' && o == o')
  | .sl a b c d e, .sl a' b' c' d' e' => a == a' && (b == b' && (c == c' && (d == d' && e == e')))
  | .nilsl, .nilsl => true
  | .fsl x e, .fsl x' e' => x == x' && AV.beqLL e e'
  | .map l, .map l' => l == l'
  | .nilmap, .nilmap => true
  | .func f a b, .func f' a' b' => f == f' && (AV.beqL a a' && AV.beqL b b')
  | .nilfunc, .nilfunc => true
  | .iface t v, .iface t' v' => t == t' && AV.beq v v'
  | .niliface, .niliface => true
  | .agg a, .agg a' => AV.beqL a a'
  | .tuple a, .tuple a' => AV.beqL a a'
  | .yield l, .yield l' => l == l'
  | .panicked v, .panicked w => AV.beq v w
  | _, _ => false
def AV.beqL : List AV → List AV → Bool
  | [], [] => true
  | a :: xs, b :: ys => AV.beq a b && AV.beqL xs ys
  | _, _ => false
def AV.beqLL : List (List AV) → List (List AV) → Bool
  | [], [] => true
  | a :: xs, b :: ys => AV.beqL a b && AV.beqLL xs ys
  | _, _ => false
end

mutual
theorem AV.eq_of_beq : ∀ (a b : AV), AV.beq a b = true → a = b
  | .bool a, b, h => by cases b <;> simp_all [AV.beq]
  | .int k n, b, h => by cases b <;> simp_all [AV.beq]
  | .str a, b, h => by
    cases b <;> simp [AV.beq] at h
    rename_i b
    congr 1
    cases a; cases b
    simp_all
  | .ptr l o, b, h => by cases b <;> simp_all [AV.beq]
  | .nilptr, b, h => by cases b <;> simp_all [AV.beq]
  | .fptr e i o, b, h => by
    cases b <;> simp [AV.beq] at h
    rw [AV.eq_of_beqLL _ _ h.1, h.2.1, h.2.2]
  | .sl a b c d e, x, h => by cases x <;> simp_all [AV.beq]
  | .nilsl, b, h => by cases b <;> simp_all [AV.beq]
  | .fsl x e, b, h => by
    cases b <;> simp [AV.beq] at h
    rw [h.1, AV.eq_of_beqLL _ _ h.2]
  | .map l, b, h => by cases b <;> simp_all [AV.beq]
  | .nilmap, b, h => by cases b <;> simp_all [AV.beq]
  | .func f x y, b, h => by
    cases b <;> simp [AV.beq] at h
    rw [h.1, AV.eq_of_beqL _ _ h.2.1, AV.eq_of_beqL _ _ h.2.2]
  | .nilfunc, b, h => by cases b <;> simp_all [AV.beq]
  | .iface t v, b, h => by
    cases b <;> simp [AV.beq] at h
    rw [h.1, AV.eq_of_beq _ _ h.2]
  | .niliface, b, h => by cases b <;> simp_all [AV.beq]
  | .agg a, b, h => by
    cases b <;> simp [AV.beq] at h
    rw [AV.eq_of_beqL _ _ h]
  | .tuple a, b, h => by
    cases b <;> simp [AV.beq] at h
    rw [AV.eq_of_beqL _ _ h]
  | .yield l, b, h => by cases b <;> simp_all [AV.beq]
  | .panicked v, b, h => by
    cases b <;> simp [AV.beq] at h
    rw [AV.eq_of_beq _ _ h]
  | .junk, b, h => by simp [AV.beq] at h
theorem AV.eq_of_beqL : ∀ (a b : List AV), AV.beqL a b = true → a = b
  | [], [], _ => rfl
  | [], _ :: _, h => by simp [AV.beqL] at h
  | _ :: _, [], h => by simp [AV.beqL] at h
  | a :: xs, b :: ys, h => by
    simp [AV.beqL] at h
    rw [AV.eq_of_beq _ _ h.1, AV.eq_of_beqL _ _ h.2]
theorem AV.eq_of_beqLL : ∀ (a b : List (List AV)), AV.beqLL a b = true → a = b
  | [], [], _ => rfl
  | [], _ :: _, h => by simp [AV.beqLL] at h
  | _ :: _, [], h => by simp [AV.beqLL] at h
  | a :: xs, b :: ys, h => by
    simp [AV.beqLL] at h
    rw [AV.eq_of_beqL _ _ h.1, AV.eq_of_beqLL _ _ h.2]
end

/-! ### Equality -/
mutual
def AV.eqb : AV → AV → Bool
  | .bool a, .bool b => a == b
  | .int k a, .int k' b => decide (k = k') && a == b
  | .str a, .str b => strEq a b
  | .ptr l o, .ptr l' o' => l == l' && o == o'
  | .nilptr, .nilptr => true
  | .fptr e i o, .fptr e' i' o' => AV.eqbLL e e' && (i == i' && o == o')
  | .sl l o n c z, .sl l' o' n' c' z' => l == l' && (o == o' && (n == n' && (c == c' && z == z')))
  | .nilsl, .nilsl => true
  | .fsl x e, .fsl x' e' => x == x' && AV.eqbLL e e'
  | .map l, .map l' => l == l'
  | .nilmap, .nilmap => true
  | .func f a b, .func f' a' b' => f == f' && (AV.eqbL a a' && AV.eqbL b b')
  | .nilfunc, .nilfunc => true
  | .iface t v, .iface t' v' => t == t' && AV.eqb v v'
  | .niliface, .niliface => true
  | .agg a, .agg b => AV.eqbL a b
  | .tuple a, .tuple b => AV.eqbL a b
  | .yield l, .yield l' => l == l'
  | .panicked v, .panicked w => AV.eqb v w
  | .junk, .junk => true
  | _, _ => false
def AV.eqbL : List AV → List AV → Bool
  | [], [] => true
  | a :: x, b :: y => AV.eqb a b && AV.eqbL x y
  | _, _ => false
def AV.eqbLL : List (List AV) → List (List AV) → Bool
  | [], [] => true
  | a :: x, b :: y => AV.eqbL a b && AV.eqbLL x y
  | _, _ => false
end

theorem strEq_eq {a b : ByteArray} (h : strEq a b = true) : a = b := by
  unfold strEq at h
  obtain ⟨⟨a⟩⟩ := a
  obtain ⟨⟨b⟩⟩ := b
  simpa using h

theorem strEq_refl (a : ByteArray) : strEq a a = true := by simp [strEq]

mutual
theorem AV.eq_of_eqb : ∀ (a b : AV), AV.eqb a b = true → a = b
  | .bool a, b, h => by cases b <;> simp_all [AV.eqb]
  | .int k a, b, h => by cases b <;> simp_all [AV.eqb]
  | .str a, b, h => by
    cases b <;> simp [AV.eqb] at h
    rw [strEq_eq h]
  | .ptr l o, b, h => by cases b <;> simp_all [AV.eqb]
  | .nilptr, b, h => by cases b <;> simp_all [AV.eqb]
  | .fptr e i o, b, h => by
    cases b <;> simp [AV.eqb] at h
    rw [AV.eq_of_eqbLL _ _ h.1, h.2.1, h.2.2]
  | .sl l o n c z, b, h => by cases b <;> simp_all [AV.eqb]
  | .nilsl, b, h => by cases b <;> simp_all [AV.eqb]
  | .fsl x e, b, h => by
    cases b <;> simp [AV.eqb] at h
    rw [h.1, AV.eq_of_eqbLL _ _ h.2]
  | .map l, b, h => by cases b <;> simp_all [AV.eqb]
  | .nilmap, b, h => by cases b <;> simp_all [AV.eqb]
  | .func f x y, b, h => by
    cases b <;> simp [AV.eqb] at h
    rw [h.1, AV.eq_of_eqbL _ _ h.2.1, AV.eq_of_eqbL _ _ h.2.2]
  | .nilfunc, b, h => by cases b <;> simp_all [AV.eqb]
  | .iface t v, b, h => by
    cases b <;> simp [AV.eqb] at h
    rw [h.1, AV.eq_of_eqb _ _ h.2]
  | .niliface, b, h => by cases b <;> simp_all [AV.eqb]
  | .agg a, b, h => by
    cases b <;> simp [AV.eqb] at h
    rw [AV.eq_of_eqbL _ _ h]
  | .tuple a, b, h => by
    cases b <;> simp [AV.eqb] at h
    rw [AV.eq_of_eqbL _ _ h]
  | .yield l, b, h => by cases b <;> simp_all [AV.eqb]
  | .panicked v, b, h => by
    cases b <;> simp [AV.eqb] at h
    rw [AV.eq_of_eqb _ _ h]
  | .junk, b, h => by cases b <;> simp_all [AV.eqb]
theorem AV.eq_of_eqbL : ∀ (a b : List AV), AV.eqbL a b = true → a = b
  | [], [], _ => rfl
  | [], _ :: _, h => by simp [AV.eqbL] at h
  | _ :: _, [], h => by simp [AV.eqbL] at h
  | a :: xs, b :: ys, h => by
    simp [AV.eqbL] at h
    rw [AV.eq_of_eqb _ _ h.1, AV.eq_of_eqbL _ _ h.2]
theorem AV.eq_of_eqbLL : ∀ (a b : List (List AV)), AV.eqbLL a b = true → a = b
  | [], [], _ => rfl
  | [], _ :: _, h => by simp [AV.eqbLL] at h
  | _ :: _, [], h => by simp [AV.eqbLL] at h
  | a :: xs, b :: ys, h => by
    simp [AV.eqbLL] at h
    rw [AV.eq_of_eqbL _ _ h.1, AV.eq_of_eqbLL _ _ h.2]
end

mutual
theorem AV.eqb_refl : ∀ (a : AV), AV.eqb a a = true
  | .bool a => by simp [AV.eqb]
  | .int k a => by simp [AV.eqb]
  | .str a => by simp [AV.eqb, strEq_refl]
  | .ptr l o => by simp [AV.eqb]
  | .nilptr => by simp [AV.eqb]
  | .fptr e i o => by simp [AV.eqb, AV.eqbLL_refl e]
  | .sl l o n c z => by simp [AV.eqb]
  | .nilsl => by simp [AV.eqb]
  | .fsl x e => by simp [AV.eqb, AV.eqbLL_refl e]
  | .map l => by simp [AV.eqb]
  | .nilmap => by simp [AV.eqb]
  | .func f x y => by simp [AV.eqb, AV.eqbL_refl x, AV.eqbL_refl y]
  | .nilfunc => by simp [AV.eqb]
  | .iface t v => by simp [AV.eqb, AV.eqb_refl v]
  | .niliface => by simp [AV.eqb]
  | .agg a => by simp [AV.eqb, AV.eqbL_refl a]
  | .tuple a => by simp [AV.eqb, AV.eqbL_refl a]
  | .yield l => by simp [AV.eqb]
  | .panicked v => by simp [AV.eqb, AV.eqb_refl v]
  | .junk => by simp [AV.eqb]
theorem AV.eqbL_refl : ∀ (a : List AV), AV.eqbL a a = true
  | [] => by simp [AV.eqbL]
  | a :: x => by simp [AV.eqbL, AV.eqb_refl a, AV.eqbL_refl x]
theorem AV.eqbLL_refl : ∀ (a : List (List AV)), AV.eqbLL a a = true
  | [] => by simp [AV.eqbLL]
  | a :: x => by simp [AV.eqbLL, AV.eqbL_refl a, AV.eqbLL_refl x]
end

def esSame : List (AV × AV × Nat) → List (AV × AV × Nat) → Bool
  | [], [] => true
  | a :: x, b :: y => AV.eqb a.1 b.1 && (AV.eqb a.2.1 b.2.1 && (a.2.2 == b.2.2 && esSame x y))
  | _, _ => false

theorem esSame_eq : ∀ {a b : List (AV × AV × Nat)}, esSame a b = true → a = b
  | [], [], _ => rfl
  | [], _ :: _, h => by simp [esSame] at h
  | _ :: _, [], h => by simp [esSame] at h
  | a :: x, b :: y, h => by
    simp [esSame] at h
    rw [esSame_eq h.2.2.2, show a = b from Prod.ext (AV.eq_of_eqb _ _ h.1) (Prod.ext (AV.eq_of_eqb _ _ h.2.1) h.2.2.1)]

theorem esSame_refl : ∀ (a : List (AV × AV × Nat)), esSame a a = true
  | [] => by simp [esSame]
  | a :: x => by simp [esSame, AV.eqb_refl, esSame_refl x]

def Row.same : Row → Row → Bool
  | .cells a t, .cells b t' => t == t' && AV.eqbL a b
  | .map a c, .map b c' => c == c' && esSame a b
  | .iter m a s l, .iter m' a' s' l' => decide (m = m') && (a == a' && (s == s' && l == l'))
  | .loop f ps t st j, .loop f' ps' t' st' j' => f == f' && (ps == ps' && (AV.eqbL t t' && (st == st' && j == j')))
  | .dead, .dead => true
  | _, _ => false

theorem Row.same_eq {a b : Row} (h : Row.same a b = true) : a = b := by
  cases a <;> cases b <;> simp [Row.same] at h
  · rw [h.1, AV.eq_of_eqbL _ _ h.2]
  · rw [h.1, esSame_eq h.2]
  · rw [h.1, h.2.1, h.2.2.1, h.2.2.2]
  · rw [h.1, h.2.1, AV.eq_of_eqbL _ _ h.2.2.1, h.2.2.2.1, h.2.2.2.2]
  · rfl

theorem Row.same_refl (a : Row) : Row.same a a = true := by cases a <;> simp [Row.same, AV.eqbL_refl, esSame_refl]

/-! ### The order of a region -/
/-- The operations that must come ahead. -/
def pre (o : Oper) : List Nat := (o.after.toList.filter fun e => Region.binds .any e).map (·.on)

inductive Reach (ops : Array Oper) : Nat → Nat → Prop where
  | one {i j : Nat} {o : Oper} (h : ops[i]? = some o) (hj : j ∈ pre o) : Reach ops i j
  | step {i k j : Nat} {o : Oper} (h : ops[i]? = some o) (hk : k ∈ pre o) (hj : Reach ops k j) : Reach ops i j

def ancGo : List (List Nat) → List Oper → List (List Nat)
  | A, [] => A
  | A, o :: rest => ancGo (A ++ [(pre o ++ (pre o).flatMap fun k => A.getD k []).eraseDups]) rest

def ancT (ops : Array Oper) : List (List Nat) := ancGo [] ops.toList

theorem ancGo_sound (ops : Array Oper) : ∀ (l : List Oper) (A : List (List Nat)), (∀ j, l[j]? = ops[A.length + j]?) → (∀ (i j : Nat) (r : List Nat), A[i]? = some r → j ∈ r → Reach ops i j) →
    ∀ (i j : Nat) (r : List Nat), (ancGo A l)[i]? = some r → j ∈ r → Reach ops i j
  | [], A, _, hA => hA
  | o :: rest, A, hl, hA => by
    refine ancGo_sound ops rest _ (fun j => ?_) (fun i j r hi hj => ?_)
    · have := hl (j + 1)
      simp only [List.getElem?_cons_succ] at this
      rw [this, List.length_append]
      congr 1
      simp
      omega
    · rw [List.getElem?_append] at hi
      split at hi
      · exact hA i j r hi hj
      · rename_i hlt
        have h0 : ops[A.length]? = some o := by have := hl 0; simpa using this.symm
        have hi0 : i - A.length = 0 := by
          by_cases h : i - A.length = 0
          · exact h
          · rw [List.getElem?_eq_none (by simp; omega)] at hi; cases hi
        have hie : i = A.length := by omega
        rw [hi0] at hi
        simp only [List.getElem?_cons_zero, Option.some.injEq] at hi
        subst hi
        subst hie
        rw [List.mem_eraseDups, List.mem_append, List.mem_flatMap] at hj
        rcases hj with hj | ⟨k, hk, hj⟩
        · exact .one h0 hj
        · rw [List.getD_eq_getElem?_getD] at hj
          cases hr : A[k]? with
          | none => rw [hr] at hj; simp at hj
          | some r =>
            rw [hr] at hj
            exact .step h0 hk (hA k j r hr hj)

def anc (A : List (List Nat)) (i j : Nat) : Bool := (A.getD i []).contains j

theorem anc_sound {ops : Array Oper} {i j : Nat} (h : anc (ancT ops) i j = true) : Reach ops i j := by
  unfold anc at h
  rw [List.getD_eq_getElem?_getD] at h
  cases hr : (ancT ops)[i]? with
  | none => rw [hr] at h; simp at h
  | some r =>
    rw [hr] at h
    exact ancGo_sound ops ops.toList [] (by simp) (by simp) i j r hr (by simpa using h)

def isC (o : Oper) : Bool := cls o.op != 0 && cls o.op != 1
def isA (o : Oper) : Bool := cls o.op == 1
/-- Reads memory. -/
def reads : Op → Bool
  | .load .. => true
  | .lookup .. => true
  | .slice .. => true
  | .call { callee := .builtin .len, .. } => true
  | _ => false

def isLoad (o : Oper) : Bool := reads o.op

/-- How many of the first i do more than reading and laying. -/
def cidx (ops : Array Oper) (i : Nat) : Nat := ((ops.toList.take i).filter isC).length

def dsts (o : Oper) (d : Nat) : Bool := o.dst == some d

def pairOK (A : List (List Nat)) (ops : Array Oper) (i j : Nat) (x y : Oper) : Bool :=
  (match x.dst with
   | some d => y.dst != some d && (!(y.looksAt ops).contains d || anc A j i)
   | none => true) &&
  (match y.dst with
   | some d => !(x.looksAt ops).contains d || anc A j i
   | none => true) &&
  (!(isC x && (isC y || isA y)) || anc A j i)

def hiOK (A : List (List Nat)) (ops : Array Oper) (p : Nat) (hi : Nat) : Bool :=
  hi == cidx ops ops.size || (List.range ops.size).any fun c => ((ops[c]?).map isC).getD false && (cidx ops c == hi && anc A c p)

def loadOK (A : List (List Nat)) (ops : Array Oper) (p : Nat) (q : Nat × Nat) : Bool :=
  (q.1 == 0 || (List.range ops.size).any fun c => ((ops[c]?).map isC).getD false && (cidx ops c + 1 == q.1 && anc A p c)) && hiOK A ops p q.2

def planOK (ops : Array Oper) (pl : List (Nat × Nat)) : Bool :=
  let A := ancT ops
  let l := ops.toList.zipIdx
  pl.length == ops.size &&
  (l.all fun (o, i) => (pre o).all fun e => e < i) &&
  (l.all fun (y, j) => l.all fun (x, i) => !(i < j) || pairOK A ops i j x y) &&
  (l.all fun (o, i) => (!isLoad o || loadOK A ops i (pl.getD i (0, 0))) && (!isA o || ((pl.getD i (0, 0)).1 == cidx ops i && hiOK A ops i (pl.getD i (0, 0)).2)))

def evOpD (T : Tab) (call : CallT) (t : Tmps) (S : Store) (op : Op) : Option (AV × Store) :=
  (evOp T call t S op).bind fun r => if mayPanic op && r.1.isPanic then none else some r

theorem evOpD_some {T : Tab} {call : CallT} {t : Tmps} {S : Store} {op : Op} {r : AV × Store} (h : evOpD T call t S op = some r) : evOp T call t S op = some r ∧ (mayPanic op && r.1.isPanic) = false := by
  unfold evOpD at h
  obtain ⟨r', h1, h2⟩ := Option.bind_eq_some_iff.1 h
  split at h2
  · cases h2
  · rename_i hn
    simp only [Option.some.injEq] at h2
    subst h2
    exact ⟨h1, by simpa using hn⟩

def stepD (T : Tab) (call : CallT) (ops : Array Oper) (o : Oper) (t : Tmps) (S : Store) : Option (Tmps × Store) :=
  match wantedA ops t o with
  | some true => (evOpD T call t S o.op).map fun r => (putA t o.dst r.1, r.2)
  | some false => some (putA t o.dst undefA, S)
  | none => none

inductive Chk where
  | rd (lo hi : Nat) (op : Op) (t : Tmps) (v : AV)
  | row (lo hi l : Nat) (r : Row)

def chkOf (T : Tab) (ops : Array Oper) (o : Oper) (t : Tmps) (S : Store) (q : Nat × Nat) : List Chk :=
  if q.1 < q.2 then match wantedA ops t o with
    | some true => if isLoad o then [.rd q.1 q.2 o.op t ((evP T t S o.op).getD .junk)] else if isA o then (match evA T t S o.op with
        | some r => [.row q.1 q.2 S.length r.2]
        | none => []) else []
    | _ => []
  else []

def drawGo (T : Tab) (call : CallT) (ops : Array Oper) : List Oper → List (Nat × Nat) → Tmps → Store → Option (Tmps × Store × List Store × List Chk)
  | [], _, t, S => some (t, S, [S], [])
  | o :: rest, pl, t, S => match stepD T call ops o t S with
    | none => none
    | some (t1, S1) => match drawGo T call ops rest pl.tail t1 S1 with
      | none => none
      | some (t', S', segs, chks) => some (t', S', if isC o then S :: segs else segs, chkOf T ops o t S (pl.headD (0, 0)) ++ chks)

def chkOK (T : Tab) (segs : List Store) : Chk → Bool
  | .rd lo hi op t v => ((segs.drop lo).take (hi + 1 - lo)).all fun S => match evP T t S op with
    | some v' => AV.eqb v' v
    | none => false
  | .row lo hi l r => ((segs.drop lo).take (hi + 1 - lo)).all fun S => match S[l]? with
    | some r' => Row.same r' r
    | none => false

def drawEv (T : Tab) (call : CallT) (plans : Nat → List (Nat × Nat)) (id : Nat) (ops : Array Oper) (t : Tmps) (S : Store) : Option (Tmps × Store) :=
  match drawGo T call ops ops.toList (plans id) t S with
  | none => none
  | some (t', S', segs, chks) => if chks.all (chkOK T segs) then some (t', S') else none

/-- A function's frame. -/
def drawF (T : Tab) (call : CallT) (f : Nat) (rnd : Option Nat) (plans : Nat → List (Nat × Nat)) : DrawT := ⟨f, rnd, drawEv T call plans⟩

end Go.Ev
