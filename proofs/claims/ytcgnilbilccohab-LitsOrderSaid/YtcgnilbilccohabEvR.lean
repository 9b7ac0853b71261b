/- Rules for evaluating by simp. -/
import Derived.Test.YtcgnilbilccohabEvO
namespace Go.Ev
open Go
set_option linter.unusedSimpArgs false
set_option linter.unusedVariables false

@[simp] theorem app_get0 {α : Type} (S L : List α) : (S ++ L)[S.length]? = L[0]? := by
  rw [List.getElem?_append_right (Nat.le_refl _), Nat.sub_self]
@[simp] theorem app_get {α : Type} (S L : List α) (k : Nat) : (S ++ L)[S.length + k]? = L[k]? := by
  rw [List.getElem?_append_right (by omega)]; congr 1; omega
@[simp] theorem app_set0 {α : Type} (S L : List α) (x : α) : (S ++ L).set S.length x = S ++ L.set 0 x := by
  rw [List.set_append_right _ _ (Nat.le_refl _), Nat.sub_self]
@[simp] theorem app_set {α : Type} (S L : List α) (k : Nat) (x : α) : (S ++ L).set (S.length + k) x = S ++ L.set k x := by
  rw [List.set_append_right _ _ (by omega)]; congr 2; omega
@[simp] theorem app_app {α : Type} (S L M : List α) : S ++ L ++ M = S ++ (L ++ M) := List.append_assoc _ _ _
@[simp] theorem take_app {α : Type} (S L : List α) : (S ++ L).take S.length = S := by simp
@[simp] theorem row_app0 (S L : Store) : rowCells (S ++ L) S.length = rowCells L 0 := by simp [rowCells, app_get0]
@[simp] theorem row_app (S L : Store) (k : Nat) : rowCells (S ++ L) (S.length + k) = rowCells L k := by simp [rowCells, app_get]
@[simp] theorem row_0 (cs : List AV) (t : Nat) (L : Store) : rowCells (.cells cs t :: L) 0 = some cs := rfl
@[simp] theorem row_s (r : Row) (L : Store) (k : Nat) : rowCells (r :: L) (k + 1) = rowCells L k := rfl

/-- A loop, kept whole. -/
def loopC (T : Tab) (call : CallT) (draw : DrawT) (k : Nat) (c : Code) (n : Nat) (t : Tmps) (S : Store) : Option (Ex × Tmps × Store) := loopN (evCode T call draw k c) n t S

abbrev Res := Option (Ex × Tmps × Store)

/-! What is still to do, as data: nothing of it is looked at before its turn. -/
def seqK (T : Tab) (call : CallT) (draw : DrawT) (k : Nat) (b : Code) : Res → Res
  | some (.normal, t, S) => evCode T call draw k b t S
  | r => r
def condK (T : Tab) (call : CallT) (draw : DrawT) (k : Nat) (a b : Code) (t : Tmps) (S : Store) : AV → Res
  | .bool true => evCode T call draw k a t S
  | .bool false => evCode T call draw k b t S
  | _ => none
def blockK (id : Nat) : Res → Res
  | some (.exit id', t', S') => if id' = id then some (.normal, t', S') else some (.exit id', t', S')
  | r => r
def loopK (T : Tab) (call : CallT) (draw : DrawT) (k : Nat) (c : Code) (n : Nat) : Res → Res
  | some (.normal, t, S) => loopC T call draw k c n t S
  | r => r
def drawK : Option (Tmps × Store) → Res
  | some r => some (.normal, r.1, r.2)
  | none => none
/-- An operation has told. -/
def opV (T : Tab) (call : CallT) (ops : Array Oper) (rest : List Oper) (o : Oper) (t : Tmps) : Option (AV × Store) → Res
  | some (v, S') => if mayPanic o.op && v.isPanic then some (.panic (unpanic v), t, S') else evOps T call ops rest (putA t o.dst v) S'
  | none => none
/-- An operation's turn; whether it is wanted. -/
def opK (T : Tab) (call : CallT) (ops : Array Oper) (rest : List Oper) (o : Oper) (t : Tmps) (S : Store) : Option Bool → Res
  | some true => opV T call ops rest o t (evOp T call t S o.op)
  | some false => evOps T call ops rest (putA t o.dst undefA) S
  | none => none
def valK (S : Store) : Option AV → Option (AV × Store)
  | some v => some (v, S)
  | none => none
def rowK (S : Store) : Option ((Nat → AV) × Row) → Option (AV × Store)
  | some r => some (r.1 S.length, S ++ [r.2])
  | none => none
def funK (T : Tab) (rs : List ResultVar) : Res → Option (AV × Store)
  | some (.normal, t, S') => valK S' ((resultsA T S' t rs).map oneA)
  | some (.ret, t, S') => valK S' ((resultsA T S' t rs).map oneA)
  | some (.panic v, _, S') => some (.panicked v, S')
  | _ => none
/-- A drawn region, operation by operation. -/
def drK (T : Tab) (call : CallT) (ops : Array Oper) (rest : List Oper) (pl : List (Nat × Nat)) (o : Oper) (t : Tmps) (S : Store) : Option (Tmps × Store × List Store × List Chk) → Option (Tmps × Store × List Store × List Chk)
  | some (t', S', segs, chks) => some (t', S', if isC o then S :: segs else segs, chkOf T ops o t S (pl.headD (0, 0)) ++ chks)
  | none => none
def drS (T : Tab) (call : CallT) (ops : Array Oper) (rest : List Oper) (pl : List (Nat × Nat)) (o : Oper) (t : Tmps) (S : Store) : Option (Tmps × Store) → Option (Tmps × Store × List Store × List Chk)
  | some (t1, S1) => drK T call ops rest pl o t S (drawGo T call ops rest pl.tail t1 S1)
  | none => none
def drV (T : Tab) (call : CallT) (o : Oper) (t : Tmps) : Option (AV × Store) → Option (Tmps × Store)
  | some (v, S') => if mayPanic o.op && v.isPanic then none else some (putA t o.dst v, S')
  | none => none
def drW (T : Tab) (call : CallT) (o : Oper) (t : Tmps) (S : Store) : Option Bool → Option (Tmps × Store)
  | some true => drV T call o t (evOp T call t S o.op)
  | some false => some (putA t o.dst undefA, S)
  | none => none
def drE (T : Tab) : Option (Tmps × Store × List Store × List Chk) → Res
  | some (t', S', segs, chks) => if chks.all (chkOK T segs) then some (.normal, t', S') else none
  | none => none

section
variable (T : Tab) (call : CallT) (draw : DrawT) (k : Nat) (a b : Code) (t : Tmps) (S : Store)
@[simp] theorem ec_skip : evCode T call draw k .skip t S = some (.normal, t, S) := rfl
@[simp] theorem ec_reg (id : Nat) (ops : Array Oper) : evCode T call draw k (.region id ops false) t S = evOps T call ops ops.toList t S := rfl
@[simp] theorem ec_seq : evCode T call draw k (.seq a b) t S = seqK T call draw k b (evCode T call draw k a t S) := rfl
@[simp] theorem ec_cond (c : Operand) : evCode T call draw k (.cond c a b) t S = condK T call draw k a b t S (opd t c) := rfl
@[simp] theorem ec_block (id : Nat) : evCode T call draw k (.block id a) t S = blockK id (evCode T call draw k a t S) := rfl
@[simp] theorem ec_loop : evCode T call draw k (.loop a) t S = loopC T call draw k a k t S := rfl
@[simp] theorem ec_range (g : Operand) (ps : Array Tmp) : evCode T call draw k (.rangeFunc g ps a b) t S = rangeFuncA T call draw g ps t S := rfl
@[simp] theorem ec_exit (id : Nat) : evCode T call draw k (.exit id) t S = some (.exit id, t, S) := rfl
@[simp] theorem ec_ret : evCode T call draw k .ret t S = some (.ret, t, S) := rfl
theorem loop_step (n : Nat) : loopC T call draw k a (n + 1) t S = loopK T call draw k a n (evCode T call draw k a t S) := by
  simp only [loopC, loopN]; rfl
@[simp] theorem ec_draw (f : Nat) (rnd : Option Nat) (plans : Nat → List (Nat × Nat)) (id : Nat) (ops : Array Oper) : evCode T call (drawF T call f rnd plans) k (.region id ops true) t S = drE T (drawGo T call ops ops.toList (plans id) t S) := by
  simp only [evCode, drawF, drawEv]
  cases drawGo T call ops ops.toList (plans id) t S with
  | none => rfl
  | some r => obtain ⟨a, b, c, d⟩ := r; simp only [drE]; split <;> rfl

@[simp] theorem seqK_n : seqK T call draw k b (some (.normal, t, S)) = evCode T call draw k b t S := rfl
@[simp] theorem seqK_e (id : Nat) : seqK T call draw k b (some (.exit id, t, S)) = some (.exit id, t, S) := rfl
@[simp] theorem seqK_r : seqK T call draw k b (some (.ret, t, S)) = some (.ret, t, S) := rfl
@[simp] theorem seqK_p (v : AV) : seqK T call draw k b (some (.panic v, t, S)) = some (.panic v, t, S) := rfl
@[simp] theorem condK_b (c : Bool) : condK T call draw k a b t S (.bool c) = if c = true then evCode T call draw k a t S else evCode T call draw k b t S := by cases c <;> rfl
@[simp] theorem blockK_n (id : Nat) : blockK id (some (.normal, t, S)) = some (.normal, t, S) := rfl
@[simp] theorem blockK_e (id id' : Nat) : blockK id (some (.exit id', t, S)) = if id' = id then some (.normal, t, S) else some (.exit id', t, S) := rfl
@[simp] theorem blockK_r (id : Nat) : blockK id (some (.ret, t, S)) = some (.ret, t, S) := rfl
@[simp] theorem blockK_p (id : Nat) (v : AV) : blockK id (some (.panic v, t, S)) = some (.panic v, t, S) := rfl
@[simp] theorem loopK_n (n : Nat) : loopK T call draw k a n (some (.normal, t, S)) = loopC T call draw k a n t S := rfl
@[simp] theorem loopK_e (n id : Nat) : loopK T call draw k a n (some (.exit id, t, S)) = some (.exit id, t, S) := rfl
@[simp] theorem loopK_r (n : Nat) : loopK T call draw k a n (some (.ret, t, S)) = some (.ret, t, S) := rfl
@[simp] theorem loopK_p (n : Nat) (v : AV) : loopK T call draw k a n (some (.panic v, t, S)) = some (.panic v, t, S) := rfl
@[simp] theorem ops_nil (ops : Array Oper) : evOps T call ops [] t S = some (.normal, t, S) := rfl
@[simp] theorem ops_cons (ops : Array Oper) (o : Oper) (rest : List Oper) : evOps T call ops (o :: rest) t S = opK T call ops rest o t S (wantedA ops t o) := by
  simp only [evOps, opK]
  cases wantedA ops t o with
  | none => rfl
  | some w => cases w <;> rfl
@[simp] theorem opK_b (ops : Array Oper) (o : Oper) (rest : List Oper) (w : Bool) : opK T call ops rest o t S (some w) = if w = true then opV T call ops rest o t (evOp T call t S o.op) else evOps T call ops rest (putA t o.dst undefA) S := by cases w <;> rfl
@[simp] theorem opV_some (ops : Array Oper) (o : Oper) (rest : List Oper) (v : AV) : opV T call ops rest o t (some (v, S)) = if mayPanic o.op && v.isPanic then some (.panic (unpanic v), t, S) else evOps T call ops rest (putA t o.dst v) S := rfl
@[simp] theorem evOp_k (op : Op) : evOp T call t S op = match cls op with
    | 0 => valK S (evP T t S op)
    | 1 => rowK S (evA T t S op)
    | _ => evC T call t S op := by
  have h1 : ∀ p : Option AV, (p.map fun v => (v, S)) = valK S p := fun p => by cases p <;> rfl
  have h2 : ∀ p : Option ((Nat → AV) × Row), (p.map fun r => (r.1 S.length, S ++ [r.2])) = rowK S p := fun p => by cases p <;> rfl
  unfold evOp
  rw [h1, h2]
  rfl
@[simp] theorem valK_some (v : AV) : valK S (some v) = some (v, S) := rfl
@[simp] theorem valK_none : valK S none = none := rfl
@[simp] theorem rowK_some (r : (Nat → AV) × Row) : rowK S (some r) = some (r.1 S.length, S ++ [r.2]) := rfl
theorem evFun_k (fn : Func) (args : List AV) {c : Code} (h : fn.body = some c) : evFun T call draw k fn args S = funK T fn.results.toList (evCode T call draw k c (args ++ List.replicate (fn.ntmps - args.length) undefA) S) := by
  unfold evFun
  rw [h]
  simp only
  generalize evCode T call draw k c _ S = r
  match r with
  | none => rfl
  | some (.normal, t, S') => simp only [funK]; cases resultsA T S' t fn.results.toList <;> rfl
  | some (.ret, t, S') => simp only [funK]; cases resultsA T S' t fn.results.toList <;> rfl
  | some (.exit _, _, _) => rfl
  | some (.panic _, _, _) => rfl
@[simp] theorem funK_n (rs : List ResultVar) : funK T rs (some (.normal, t, S)) = valK S ((resultsA T S t rs).map oneA) := rfl
@[simp] theorem funK_r (rs : List ResultVar) : funK T rs (some (.ret, t, S)) = valK S ((resultsA T S t rs).map oneA) := rfl
@[simp] theorem funK_p (rs : List ResultVar) (v : AV) : funK T rs (some (.panic v, t, S)) = some (.panicked v, S) := rfl
@[simp] theorem dr_nil (ops : Array Oper) (pl : List (Nat × Nat)) : drawGo T call ops [] pl t S = some (t, S, [S], []) := rfl
@[simp] theorem dr_cons (ops : Array Oper) (o : Oper) (rest : List Oper) (pl : List (Nat × Nat)) : drawGo T call ops (o :: rest) pl t S = drS T call ops rest pl o t S (drW T call o t S (wantedA ops t o)) := by
  have h : stepD T call ops o t S = drW T call o t S (wantedA ops t o) := by
    unfold stepD drW
    cases wantedA ops t o with
    | none => rfl
    | some w =>
      cases w with
      | false => rfl
      | true =>
        simp only [evOpD, drV]
        cases evOp T call t S o.op with
        | none => rfl
        | some r =>
          obtain ⟨v, S'⟩ := r
          simp only [Option.bind_some]
          split <;> simp_all
  simp only [drawGo, h]
  cases drW T call o t S (wantedA ops t o) with
  | none => rfl
  | some r =>
    obtain ⟨t1, S1⟩ := r
    simp only [drS]
    cases drawGo T call ops rest pl.tail t1 S1 with
    | none => rfl
    | some r => rfl
@[simp] theorem drW_b (o : Oper) (w : Bool) : drW T call o t S (some w) = if w = true then drV T call o t (evOp T call t S o.op) else some (putA t o.dst undefA, S) := by cases w <;> rfl
@[simp] theorem drV_some (o : Oper) (v : AV) : drV T call o t (some (v, S)) = if mayPanic o.op && v.isPanic then none else some (putA t o.dst v, S) := rfl
@[simp] theorem drS_some (ops : Array Oper) (o : Oper) (rest : List Oper) (pl : List (Nat × Nat)) (t1 : Tmps) (S1 : Store) : drS T call ops rest pl o t S (some (t1, S1)) = drK T call ops rest pl o t S (drawGo T call ops rest pl.tail t1 S1) := rfl
@[simp] theorem drK_some (ops : Array Oper) (o : Oper) (rest : List Oper) (pl : List (Nat × Nat)) (t' : Tmps) (S' : Store) (segs : List Store) (chks : List Chk) : drK T call ops rest pl o t S (some (t', S', segs, chks)) = some (t', S', if isC o then S :: segs else segs, chkOf T ops o t S (pl.headD (0, 0)) ++ chks) := rfl
@[simp] theorem drE_some (segs : List Store) (chks : List Chk) : drE T (some (t, S, segs, chks)) = if chks.all (chkOK T segs) then some (.normal, t, S) else none := rfl
end

attribute [simp] mayPanic unpanic  jumpOf exJump afterA rangeFuncA roundOK endA beginA yieldA setAll rangeA nextA entryA shiftA convertA indexVA fieldVA   slicePA lookupA seekA keyCells fit1 fits findA mapRow mapRows zeroA lenMap mapUpdateA mapEntryA entryStoreA deleteA reads isLoad cls evP evA evC putA    loadA   storeA writeN setN   binInt binStr eqCell eqCells eqAgg unA  max2A min2A
  fillA partsA buildA chunk repA buildSliceA  flatA natOf natO headOK  extractA resultsA oneA sameS_refl omap undefA chkOf isC isA chkOK   strEq_refl Row.same_refl AV.eqb_refl AV.eqbL_refl AV.eqbLL_refl

@[simp] theorem bne_t {a b : Int} (h : ¬ a = b) : (a != b) = true := by simpa using h
@[simp] theorem beq_f {a b : Int} (h : ¬ a = b) : (a == b) = false := by simpa using h
@[simp] theorem beq_t {a b : Int} (h : a = b) : (a == b) = true := by simpa using h
@[simp] theorem bne_f {a b : Int} (h : a = b) : (a != b) = false := by simpa using h

/-! ### What is told is frozen -/
def fz (S : Store) (n : Nat) (v : AV) : Option AV := frz S n 64 v

section
variable (n l o i m len cap sz : Nat) (x : Bool) (els : List (List AV)) (cs cs' : List AV) (e : List AV) (k : IntKind) (z : Int) (s : ByteArray) (b : Bool) (v : AV)
@[simp] theorem old_bool : (AV.bool b).old n = true := (rfl)
@[simp] theorem old_int : (AV.int k z).old n = true := (rfl)
@[simp] theorem old_str : (AV.str s).old n = true := (rfl)
@[simp] theorem old_nilptr : AV.nilptr.old n = true := (rfl)
@[simp] theorem old_nilsl : AV.nilsl.old n = true := (rfl)
@[simp] theorem old_nilmap : AV.nilmap.old n = true := (rfl)
@[simp] theorem old_nilfunc : AV.nilfunc.old n = true := (rfl)
@[simp] theorem old_niliface : AV.niliface.old n = true := (rfl)
@[simp] theorem old_ptr : (AV.ptr l o).old n = decide (l < n) := (rfl)
@[simp] theorem old_sl : (AV.sl l o len cap sz).old n = decide (l < n) := (rfl)
@[simp] theorem old_map : (AV.map l).old n = decide (l < n) := (rfl)
@[simp] theorem old_fptr : (AV.fptr els i o).old n = AV.oldLL n els := (rfl)
@[simp] theorem old_fsl : (AV.fsl x els).old n = AV.oldLL n els := (rfl)
@[simp] theorem old_func : (AV.func m cs cs').old n = (AV.oldL n cs && AV.oldL n cs') := (rfl)
@[simp] theorem old_agg : (AV.agg cs).old n = AV.oldL n cs := (rfl)
@[simp] theorem old_tuple : (AV.tuple cs).old n = AV.oldL n cs := (rfl)
@[simp] theorem old_panicked : (AV.panicked v).old n = v.old n := (rfl)
@[simp] theorem oldL_nil : AV.oldL n [] = true := (rfl)
@[simp] theorem oldL_cons : AV.oldL n (v :: cs) = (v.old n && AV.oldL n cs) := (rfl)
@[simp] theorem oldLL_nil : AV.oldLL n [] = true := (rfl)
@[simp] theorem oldLL_cons : AV.oldLL n (e :: els) = (AV.oldL n e && AV.oldLL n els) := (rfl)
end

@[simp] theorem fz_old {S : Store} {n : Nat} {v : AV} (h : v.old n = true) : fz S n v = some v := by
  unfold fz frz
  rw [h, if_pos rfl]

@[simp] theorem fin_k (mode : Bool) (S S' : Store) (v : AV) : fin mode S (v, S') = if mode = true then (if sameS (S'.take S.length) S = true then valK S (fz S' S.length v) else none) else some (v, S') := by
  unfold fin
  cases mode with
  | false => rfl
  | true =>
    simp only [if_true]
    split
    · unfold fz
      cases frz S' S.length 64 v <;> rfl
    · rfl

/-! ### By what a value is -/
section
variable (T : Tab) (S : Store) (ty n sz l o i len cap off : Nat) (x : Bool) (els : List (List AV)) (cs : List AV) (k k' : IntKind) (z z' : Int) (s s' : ByteArray) (b b' : Bool) (v : AV)
@[simp] theorem lenA_fsl : lenA T ty (.fsl x els) = if T.kind ty = some 2 then some (.int .i64 els.length) else none := rfl
@[simp] theorem lenA_nilsl : lenA T ty .nilsl = if T.kind ty = some 2 then some (.int .i64 0) else none := rfl
@[simp] theorem lenA_sl : lenA T ty (.sl l off len cap sz) = if T.kind ty = some 2 then some (.int .i64 len) else none := rfl
@[simp] theorem lenA_str : lenA T ty (.str s) = if T.str ty then some (.int .i64 s.size) else none := rfl
@[simp] theorem lenA_map : lenA T ty (.map l) = none := rfl
@[simp] theorem lenA_nilmap : lenA T ty .nilmap = none := rfl
theorem lenB_some {w : AV} (h : lenA T ty v = some w) : lenB T S ty v = some w := by simp [lenB, h]
@[simp] theorem lenB_fsl (h : T.kind ty = some 2) : lenB T S ty (.fsl x els) = some (.int .i64 els.length) := lenB_some _ _ _ _ (by simp [h])
@[simp] theorem lenB_nilsl (h : T.kind ty = some 2) : lenB T S ty .nilsl = some (.int .i64 0) := lenB_some _ _ _ _ (by simp [h])
@[simp] theorem lenB_sl (h : T.kind ty = some 2) : lenB T S ty (.sl l off len cap sz) = some (.int .i64 len) := lenB_some _ _ _ _ (by simp [h])
@[simp] theorem lenB_str (h : T.str ty = true) : lenB T S ty (.str s) = some (.int .i64 s.size) := lenB_some _ _ _ _ (by simp [h])
@[simp] theorem lenB_map : lenB T S ty (.map l) = lenMap T S ty (.map l) := rfl
@[simp] theorem lenB_nilmap : lenB T S ty .nilmap = lenMap T S ty .nilmap := rfl
theorem indexA_fsl : indexA T ty (.fsl x els) (.int k z) = match T.sle ty, els[z.toNat]? with
    | some e, some el => if 0 ≤ z ∧ T.sz e = some el.length then some (.fptr els z.toNat 0) else none
    | _, _ => none := rfl
@[simp] theorem indexA_sl : indexA T ty (.sl l off len cap sz) (.int k z) = match T.sle ty with
    | some e => if T.sz e = some sz ∧ 0 ≤ z ∧ z < len then some (.ptr l (off + z.toNat * sz)) else none
    | none => none := rfl
@[simp] theorem indexA_ptr : indexA T ty (.ptr l o) (.int k z) = match T.arr ty with
    | some (len, e) => match T.sz e with
      | some sz => if 0 ≤ z ∧ z < len then some (.ptr l (o + z.toNat * sz)) else none
      | none => none
    | none => none := rfl
@[simp] theorem indexA_fptr : indexA T ty (.fptr els i o) (.int k z) = match T.arr ty with
    | some (len, e) => match T.sz e with
      | some sz => if 0 ≤ z ∧ z < len then some (.fptr els i (o + z.toNat * sz)) else none
      | none => none
    | none => none := rfl
@[simp] theorem elsOf_fsl : elsOf S sz (.fsl x els) = if els.all (fun e => e.length == sz) then some els else none := rfl
@[simp] theorem elsOf_nilsl : elsOf S sz .nilsl = some [] := rfl
@[simp] theorem elsOf_sl (sz' : Nat) : elsOf S sz (.sl l off len cap sz') = if sz' = sz then match rowCells S l with
      | some cs => if off + len * sz ≤ cs.length then some (chunk sz (cs.drop off) len) else none
      | none => none
    else none := rfl
@[simp] theorem cellsOf_agg : (AV.agg cs).cellsOf = some cs := rfl
@[simp] theorem cellsOf_bool : (AV.bool b).cellsOf = some [.bool b] := rfl
@[simp] theorem cellsOf_int : (AV.int k z).cellsOf = some [.int k z] := rfl
@[simp] theorem cellsOf_str : (AV.str s).cellsOf = some [.str s] := rfl
@[simp] theorem cellsOf_ptr : (AV.ptr l o).cellsOf = some [.ptr l o] := rfl
@[simp] theorem cellsOf_nilptr : AV.nilptr.cellsOf = some [.nilptr] := rfl
@[simp] theorem cellsOf_fptr : (AV.fptr els i o).cellsOf = some [.fptr els i o] := rfl
@[simp] theorem cellsOf_sl : (AV.sl l off len cap sz).cellsOf = some [.sl l off len cap sz] := rfl
@[simp] theorem cellsOf_nilsl : AV.nilsl.cellsOf = some [.nilsl] := rfl
@[simp] theorem cellsOf_fsl : (AV.fsl x els).cellsOf = some [.fsl x els] := rfl
@[simp] theorem cellsOf_map : (AV.map l).cellsOf = some [.map l] := rfl
@[simp] theorem cellsOf_nilmap : AV.nilmap.cellsOf = some [.nilmap] := rfl
@[simp] theorem cellsOf_func (a c : List AV) : (AV.func n a c).cellsOf = some [.func n a c] := rfl
@[simp] theorem cellsOf_nilfunc : AV.nilfunc.cellsOf = some [.nilfunc] := rfl
@[simp] theorem cellsOf_yield : (AV.yield l).cellsOf = some [.yield l] := rfl
@[simp] theorem one_agg : (AV.agg cs).one = false := rfl
@[simp] theorem one_bool : (AV.bool b).one = true := rfl
@[simp] theorem one_int : (AV.int k z).one = true := rfl
@[simp] theorem one_str : (AV.str s).one = true := rfl
@[simp] theorem one_ptr : (AV.ptr l o).one = true := rfl
@[simp] theorem one_nilptr : AV.nilptr.one = true := rfl
@[simp] theorem one_fptr : (AV.fptr els i o).one = true := rfl
@[simp] theorem one_sl : (AV.sl l off len cap sz).one = true := rfl
@[simp] theorem one_nilsl : AV.nilsl.one = true := rfl
@[simp] theorem one_fsl : (AV.fsl x els).one = true := rfl
@[simp] theorem one_map : (AV.map l).one = true := rfl
@[simp] theorem one_nilmap : AV.nilmap.one = true := rfl
@[simp] theorem one_func (a c : List AV) : (AV.func n a c).one = true := rfl
@[simp] theorem one_nilfunc : AV.nilfunc.one = true := rfl
@[simp] theorem one_yield : (AV.yield l).one = true := rfl
@[simp] theorem panic_agg : (AV.agg cs).isPanic = false := rfl
@[simp] theorem panic_bool : (AV.bool b).isPanic = false := rfl
@[simp] theorem panic_int : (AV.int k z).isPanic = false := rfl
@[simp] theorem panic_str : (AV.str s).isPanic = false := rfl
@[simp] theorem panic_ptr : (AV.ptr l o).isPanic = false := rfl
@[simp] theorem panic_nilptr : AV.nilptr.isPanic = false := rfl
@[simp] theorem panic_fptr : (AV.fptr els i o).isPanic = false := rfl
@[simp] theorem panic_sl : (AV.sl l off len cap sz).isPanic = false := rfl
@[simp] theorem panic_nilsl : AV.nilsl.isPanic = false := rfl
@[simp] theorem panic_fsl : (AV.fsl x els).isPanic = false := rfl
@[simp] theorem panic_map : (AV.map l).isPanic = false := rfl
@[simp] theorem panic_nilmap : AV.nilmap.isPanic = false := rfl
@[simp] theorem panic_func (a c : List AV) : (AV.func n a c).isPanic = false := rfl
@[simp] theorem panic_nilfunc : AV.nilfunc.isPanic = false := rfl
@[simp] theorem panic_tuple : (AV.tuple cs).isPanic = false := rfl
@[simp] theorem panic_panicked : (AV.panicked v).isPanic = true := rfl
@[simp] theorem nil_nilptr : isNilA .nilptr = some (1, true) := rfl
@[simp] theorem nil_ptr : isNilA (.ptr l o) = some (1, false) := rfl
@[simp] theorem nil_fptr : isNilA (.fptr els i o) = some (1, false) := rfl
@[simp] theorem nil_nilsl : isNilA .nilsl = some (2, true) := rfl
@[simp] theorem nil_sl : isNilA (.sl l off len cap sz) = some (2, false) := rfl
@[simp] theorem nil_nilmap : isNilA .nilmap = some (3, true) := rfl
@[simp] theorem nil_map : isNilA (.map l) = some (3, false) := rfl
@[simp] theorem nil_nilfunc : isNilA .nilfunc = some (4, true) := rfl
@[simp] theorem nil_func (a c : List AV) : isNilA (.func n a c) = some (4, false) := rfl
@[simp] theorem addO_ptr : addO n (.ptr l o) = some (.ptr l (o + n)) := rfl
@[simp] theorem addO_fptr : addO n (.fptr els i o) = some (.fptr els i (o + n)) := rfl
@[simp] theorem readN_ptr : readN S n (.ptr l o) = match rowCells S l with
    | some cs => if o + n ≤ cs.length then some ((cs.drop o).take n) else none
    | none => none := rfl
theorem readN_fptr : readN S n (.fptr els i o) = match els[i]? with
    | some e => if o + n ≤ e.length then some ((e.drop o).take n) else none
    | none => none := rfl
@[simp] theorem read1_ptr : read1 S (.ptr l o) = match rowCells S l with
    | some cs => cs[o]?
    | none => none := rfl
theorem read1_fptr : read1 S (.fptr els i o) = match els[i]? with
    | some e => e[o]?
    | none => none := rfl
@[simp] theorem binA_int (op : BinOp) : binA T ty op (.int k z) (.int k' z') = if k = k' ∧ op ≠ .shl ∧ op ≠ .shr then binInt op k z z' else shiftA op k z z' := rfl
@[simp] theorem binA_str (op : BinOp) : binA T ty op (.str s) (.str s') = binStr op s s' := rfl
@[simp] theorem binA_bool (op : BinOp) : binA T ty op (.bool b) (.bool b') = if T.kind ty = some 0 then (match op with
      | .eql => some (.bool (b == b'))
      | .neq => some (.bool (!(b == b')))
      | _ => none) else none := rfl
@[simp] theorem binA_agg (op : BinOp) (d : List AV) : binA T ty op (.agg cs) (.agg d) = match op with
    | .eql => (eqAgg T ty cs d).map .bool
    | .neq => (eqAgg T ty cs d).map fun b => .bool (!b)
    | _ => none := rfl
/-- nil or not. -/
theorem eqNil_l {a c : AV} {m : Nat} (h1 : isNilA a = some (m, true)) {r : Bool} (h2 : isNilA c = some (m, r)) (hk : T.kind ty = some m) : eqNil T ty a c = some r := by
  unfold eqNil; rw [h1, h2]; simp [hk]
theorem eqNil_r {a c : AV} {m : Nat} (h1 : isNilA a = some (m, false)) (h2 : isNilA c = some (m, true)) (hk : T.kind ty = some m) : eqNil T ty a c = some false := by
  unfold eqNil; rw [h1, h2]; simp [hk]
@[simp] theorem eqNil_nn (h : T.kind ty = some 1) : eqNil T ty .nilptr .nilptr = some true := eqNil_l T ty rfl rfl h
@[simp] theorem eqNil_pn (h : T.kind ty = some 1) : eqNil T ty (.ptr l o) .nilptr = some false := eqNil_r T ty rfl rfl h
@[simp] theorem eqNil_fn (h : T.kind ty = some 1) : eqNil T ty (.fptr els i o) .nilptr = some false := eqNil_r T ty rfl rfl h
@[simp] theorem eqNil_ss (h : T.kind ty = some 2) : eqNil T ty .nilsl .nilsl = some true := eqNil_l T ty rfl rfl h
@[simp] theorem eqNil_sn (h : T.kind ty = some 2) : eqNil T ty (.sl l off len cap sz) .nilsl = some false := eqNil_r T ty rfl rfl h
@[simp] theorem eqNil_mm (h : T.kind ty = some 3) : eqNil T ty .nilmap .nilmap = some true := eqNil_l T ty rfl rfl h
@[simp] theorem eqNil_mn (h : T.kind ty = some 3) : eqNil T ty (.map l) .nilmap = some false := eqNil_r T ty rfl rfl h
section
variable (op : BinOp)
@[simp] theorem binA_pn : binA T ty op (.ptr l o) .nilptr = (match op with | .eql => (eqNil T ty (.ptr l o) .nilptr).map .bool | .neq => (eqNil T ty (.ptr l o) .nilptr).map fun b => .bool (!b) | _ => none) := rfl
@[simp] theorem binA_fn : binA T ty op (.fptr els i o) .nilptr = (match op with | .eql => (eqNil T ty (.fptr els i o) .nilptr).map .bool | .neq => (eqNil T ty (.fptr els i o) .nilptr).map fun b => .bool (!b) | _ => none) := rfl
@[simp] theorem binA_nn : binA T ty op .nilptr .nilptr = (match op with | .eql => (eqNil T ty .nilptr .nilptr).map .bool | .neq => (eqNil T ty .nilptr .nilptr).map fun b => .bool (!b) | _ => none) := rfl
end
end

@[simp] theorem const_bool (b : Bool) : ofConst (.bool b) = .bool b := rfl
@[simp] theorem const_int (k : IntKind) (n : Int) : ofConst (.int k n) = .int k n := rfl
@[simp] theorem const_str (s : ByteArray) : ofConst (.string s) = .str s := rfl
@[simp] theorem const_nilptr : ofConst (.pointer none) = .nilptr := rfl
@[simp] theorem const_nilsl : ofConst (.slice none 0 0) = .nilsl := rfl
@[simp] theorem const_nilmap : ofConst (.map none) = .nilmap := rfl
@[simp] theorem const_nilfunc : ofConst .nilFunc = .nilfunc := rfl
@[simp] theorem const_niliface : ofConst .nilIface = .niliface := rfl
@[simp] theorem const_unit : ofConst (.tuple #[]) = .tuple [] := rfl
@[simp] theorem constA_bool (b : Bool) : constA (.bool b) = .bool b := rfl
@[simp] theorem constA_int (k : IntKind) (n : Int) : constA (.int k n) = .int k n := rfl
@[simp] theorem constA_str (s : ByteArray) : constA (.string s) = .str s := rfl
@[simp] theorem constA_nilptr : constA (.pointer none) = .nilptr := rfl
@[simp] theorem constA_nilsl : constA (.slice none 0 0) = .nilsl := rfl
@[simp] theorem constA_nilmap : constA (.map none) = .nilmap := rfl
@[simp] theorem constA_nilfunc : constA .nilFunc = .nilfunc := rfl
@[simp] theorem constA_niliface : constA .nilIface = .niliface := rfl
@[simp] theorem constA_unit : constA (.tuple #[]) = .tuple [] := rfl
@[simp] theorem constA_agg (cs : Array Value) : constA (.agg cs) = .agg (cs.toList.map ofConst) := rfl

/-! ### Temporaries -/
/-- A temporary. -/
def tg (t : Tmps) (i : Nat) : AV := t.getD i undefA

section
variable (t : Tmps) (S : Store) (T : Tab)
@[simp] theorem opd_tmp (i : Nat) : opd t (.tmp i) = tg t i := rfl
@[simp] theorem opd_const (v : Value) : opd t (.const v) = constA v := rfl
@[simp] theorem opd_func (f : Nat) : opd t (.func f) = .func f [] [] := rfl
@[simp] theorem opd_global (g : Nat) : opd t (.global g) = .junk := rfl
@[simp] theorem resultA_tmp (i : Nat) : resultA T S t (.tmp i) = some (tg t i) := rfl
@[simp] theorem resultA_cell (i ty : Nat) : resultA T S t (.cell i ty) = loadA T S ty (tg t i) := rfl
@[simp] theorem wanted_none (ops : Array Oper) (d : Option Nat) (op : Op) (ty : Nat) (pos : String) (af : Array Edge) : wantedA ops t ⟨d, op, ty, pos, af, none⟩ = some true := rfl
@[simp] theorem wanted_some (ops : Array Oper) (d : Option Nat) (op : Op) (ty : Nat) (pos : String) (af : Array Edge) (j : Nat) (w : Bool) : wantedA ops t ⟨d, op, ty, pos, af, some (j, w)⟩ = match (ops[j]?).bind (·.dst) with
    | some d => match tg t d with
      | .bool b => some (b == w)
      | .tuple [] => some false
      | _ => none
    | none => none := rfl
@[simp] theorem tg_set (i j : Nat) (v : AV) : tg (t.set i v) j = if i = j ∧ i < t.length then v else tg t j := by
  unfold tg
  rw [List.getD_eq_getElem?_getD, List.getD_eq_getElem?_getD, List.getElem?_set]
  by_cases h : i = j
  · subst h
    by_cases h2 : i < t.length
    · simp [h2]
    · simp [h2]
  · simp [h]
@[simp] theorem tg_zero (a : AV) : tg (a :: t) 0 = a := rfl
@[simp] theorem tg_succ (a : AV) (i : Nat) : tg (a :: t) (i + 1) = tg t i := rfl
@[simp] theorem tg_nil (i : Nat) : tg [] i = .tuple [] := rfl
end

/-! ### Loops -/
def loops : Code → List Code
  | .seq a b => loops a ++ loops b
  | .cond _ a b => loops a ++ loops b
  | .block _ c => loops c
  | .loop c => c :: loops c
  | .rangeFunc _ _ a b => loops a ++ loops b
  | _ => []

/-- A function's n-th loop's body. -/
def lp (n : Nat) (fn : Func) : Code := match fn.body with
  | some c => (loops c).getD n .skip
  | none => .skip

/-- It ends, and so. -/
def Out (Q : Ex → Tmps → Store → Prop) (r : Option (Ex × Tmps × Store)) : Prop := ∃ e t S, r = some (e, t, S) ∧ Q e t S

@[simp] theorem out_some {Q : Ex → Tmps → Store → Prop} {e : Ex} {t : Tmps} {S : Store} : Out Q (some (e, t, S)) ↔ Q e t S :=
  ⟨fun ⟨e', t', S', h, hq⟩ => by cases h; exact hq, fun h => ⟨e, t, S, rfl, h⟩⟩
@[simp] theorem out_none {Q : Ex → Tmps → Store → Prop} : Out Q none ↔ False := ⟨fun ⟨e', t', S', h, hq⟩ => (by cases h), False.elim⟩
theorem Out.mono {Q Q' : Ex → Tmps → Store → Prop} {r : Option (Ex × Tmps × Store)} (h : Out Q r) (hq : ∀ e t S, Q e t S → Q' e t S) : Out Q' r := by
  obtain ⟨e, t, S, h, q⟩ := h
  exact ⟨e, t, S, h, hq _ _ _ q⟩
theorem Out.at {Q : Ex → Tmps → Store → Prop} {r x : Option (Ex × Tmps × Store)} (hr : r = x) (h : Out Q r) : Out Q x := hr ▸ h

theorem set_get_ne {α : Type} (t : List α) (i j : Nat) (v : α) (h : i ≠ j) : (t.set i v)[j]? = t[j]? := List.getElem?_set_ne h
theorem set_get {α : Type} (t : List α) (i : Nat) (v : α) (h : i < t.length) : (t.set i v)[i]? = some v := List.getElem?_set_self h

attribute [simp] loops lp

end Go.Ev
