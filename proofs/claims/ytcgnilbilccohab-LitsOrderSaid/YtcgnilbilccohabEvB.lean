/- The evaluator Ev, part B: how abstract values and the store stand to real memory; what lives on when memory is written. -/
import Derived.Test.YtcgnilbilccohabEvAp
import Derived.Laws.Cells
import Derived.Laws.AppendOwn
import Derived.Laws.CopyRow
import Derived.RangeFuncRecord
import Derived.OrdersIn
import Derived.LoopNIn
import Derived.TacticsIn
namespace Go.Ev
open Go
set_option linter.unusedSimpArgs false
set_option linter.unusedVariables false

abbrev Rho := Nat → Option (Nat × Nat)

/-- An abstract value stands for a real one. M: which blocks may be written. -/
inductive RV (W : World) (ρ : Rho) (M : Nat → Prop) : AV → Value → Prop where
  | bool (b : Bool) : RV W ρ M (.bool b) (.bool b)
  | int (k : IntKind) (n : Int) : RV W ρ M (.int k n) (.int k n)
  | str (s : ByteArray) : RV W ρ M (.str s) (.string s)
  | ptr {l b base : Nat} (o : Nat) (h : ρ l = some (b, base)) : RV W ρ M (.ptr l o) (.pointer (some ⟨b, base + o, none⟩))
  | nilptr : RV W ρ M .nilptr (.pointer none)
  | fptr {els : List (List AV)} {b off sz : Nat} (i o : Nat) (vs : Nat → Nat → Value) (hs : ∀ (i : Nat) (e : List AV), els[i]? = some e → e.length = sz) (hM : ¬ M b) (hB : b < W.heap.size)
      (h1 : ∀ (i j : Nat) (e : List AV) (c : AV), els[i]? = some e → e[j]? = some c → W.cell? ⟨b, off + (i * sz + j), none⟩ = some (vs i j)) (h2 : ∀ (i j : Nat) (e : List AV) (c : AV), els[i]? = some e → e[j]? = some c → RV W ρ M c (vs i j)) :
      RV W ρ M (.fptr els i o) (.pointer (some ⟨b, off + (i * sz + o), none⟩))
  | sl {l off len cap sz b base cap' ty : Nat} {c : Array Value} (h : ρ l = some (b, base)) (hl : len ≤ cap) (hc : cap ≤ cap') (hb : W.heap[b]? = some (.cells c ty (0, 0))) (hz : base + off + cap' * sz ≤ c.size) :
      RV W ρ M (.sl l off len cap sz) (.slice (some ⟨b, base + off, none⟩) len cap')
  | nilsl : RV W ρ M .nilsl (.slice none 0 0)
  | fsl0 {x : Bool} (A : Option Addr) (cap : Nat) (hx : x = true → cap = 0) : RV W ρ M (.fsl x []) (.slice A 0 cap)
  | fsl {x : Bool} {els : List (List AV)} {b off sz cap : Nat} (vs : Nat → Nat → Value) (hs : ∀ (i : Nat) (e : List AV), els[i]? = some e → e.length = sz) (hM : ¬ M b) (hB : b < W.heap.size) (hc : els.length ≤ cap) (hx : x = true → cap = els.length)
      (h1 : ∀ (i j : Nat) (e : List AV) (c : AV), els[i]? = some e → e[j]? = some c → W.cell? ⟨b, off + (i * sz + j), none⟩ = some (vs i j)) (h2 : ∀ (i j : Nat) (e : List AV) (c : AV), els[i]? = some e → e[j]? = some c → RV W ρ M c (vs i j)) :
      RV W ρ M (.fsl x els) (.slice (some ⟨b, off, none⟩) els.length cap)
  | map {l b : Nat} (h : ρ l = some (b, 0)) : RV W ρ M (.map l) (.map (some b))
  | nilmap : RV W ρ M .nilmap (.map none)
  | func (f : Nat) {first caps : List AV} {vf vc : List Value} (hf : first.length = vf.length) (hc : caps.length = vc.length)
      (h1 : ∀ (i : Nat) (c : AV) (v : Value), first[i]? = some c → vf[i]? = some v → RV W ρ M c v) (h2 : ∀ (i : Nat) (c : AV) (v : Value), caps[i]? = some c → vc[i]? = some v → RV W ρ M c v) :
      RV W ρ M (.func f first caps) (.func (.func f) vf.toArray vc.toArray)
  | nilfunc : RV W ρ M .nilfunc .nilFunc
  | iface (t : Nat) {c : AV} {v : Value} (h : RV W ρ M c v) : RV W ρ M (.iface t c) (.iface t v)
  | niliface : RV W ρ M .niliface .nilIface
  | agg {cs : List AV} {vs : List Value} (hl : cs.length = vs.length) (h : ∀ (i : Nat) (c : AV) (v : Value), cs[i]? = some c → vs[i]? = some v → RV W ρ M c v) : RV W ρ M (.agg cs) (.agg vs.toArray)
  | tuple {cs : List AV} {vs : List Value} (hl : cs.length = vs.length) (h : ∀ (i : Nat) (c : AV) (v : Value), cs[i]? = some c → vs[i]? = some v → RV W ρ M c v) : RV W ρ M (.tuple cs) (.tuple vs.toArray)
  | yield {l b : Nat} (h : ρ l = some (b, 0)) : RV W ρ M (.yield l) (.func (.yield b) #[] #[])
  | junk (v : Value) : RV W ρ M .junk v

/-- Lists of values. -/
def RVs (W : World) (ρ : Rho) (M : Nat → Prop) (cs : List AV) (vs : List Value) : Prop :=
  cs.length = vs.length ∧ ∀ (i : Nat) (c : AV) (v : Value), cs[i]? = some c → vs[i]? = some v → RV W ρ M c v

def Row.live : Row → Bool
  | .dead => false
  | _ => true

/-- The blocks that may be written. -/
def Mut (ρ : Rho) (S : Store) (b : Nat) : Prop := ∃ l base r, S[l]? = some r ∧ r.live = true ∧ ρ l = some (b, base)

def stateN : LoopState → Nat
  | .ready => 0
  | .busy => 1
  | .done => 2
  | .exhausted => 3

def jumpC : Nat → Option Code
  | 0 => none
  | 1 => some .ret
  | n + 2 => some (.exit n)

def RowRel (W : World) (ρ : Rho) (M : Nat → Prop) (b base : Nat) : Row → Prop
  | .cells cs t => ∃ c : Array Value, W.heap[b]? = some (.cells c t (0, 0)) ∧ base + cs.length ≤ c.size ∧ ∀ (j : Nat) (a : AV), cs[j]? = some a → a.one = true ∧ ∃ v, c[base + j]? = some v ∧ RV W ρ M a v
  | .map es clk => base = 0 ∧ ∃ (ms : Array MapEntry), W.heap[b]? = some (.map ms clk) ∧ es.length = ms.size ∧ ∀ (j : Nat) (e : AV × AV × Nat) (m : MapEntry), es[j]? = some e → ms[j]? = some m → RV W ρ M e.1 m.key ∧ RV W ρ M e.2.1 m.val ∧ m.born = e.2.2
  | .iter m since seen last => base = 0 ∧ ∃ mb : Option Nat, W.heap[b]? = some (.mapIter mb since seen.toArray last) ∧ match m with
    | none => mb = none
    | some l => ∃ b', mb = some b' ∧ RV W ρ M (.map l) (.map (some b'))
  | .loop f ps t st j => base = 0 ∧ ∃ r : Loop, W.heap[b]? = some (.loop r) ∧ r.params.toList = ps ∧ codesOf f ps = some (r.assign, r.body) ∧ t.length = r.tmps.size ∧ (∀ i, RV W ρ M (t.getD i undefA) (r.tmps.getD i undef)) ∧ stateN r.state = st ∧ r.pending = jumpC j
  | .dead => True

structure Rel (W : World) (ρ : Rho) (S : Store) : Prop where
  dom : ∀ l b base, ρ l = some (b, base) → l < S.length ∧ b < W.heap.size
  rows : ∀ l r b base, S[l]? = some r → ρ l = some (b, base) → RowRel W ρ (Mut ρ S) b base r
  inj : ∀ l l' r r' b base base', S[l]? = some r → S[l']? = some r' → r.live = true → r'.live = true → ρ l = some (b, base) → ρ l' = some (b, base') → l = l'

/-- From (ρ, S, W) on to (ρ', S', W'); n: what is new among the locations lies from n on. -/
structure Ext (n : Nat) (ρ : Rho) (S : Store) (W : World) (ρ' : Rho) (S' : Store) (W' : World) : Prop where
  os : W'.os = W.os
  tape : W'.tape = W.tape
  output : W'.output = W.output
  size : W.heap.size ≤ W'.heap.size
  frame : ∀ b, b < W.heap.size → ¬ Mut ρ S b → W'.heap[b]? = W.heap[b]?
  agree : ∀ l x, ρ l = some x → ρ' l = some x
  muts : ∀ b, b < W.heap.size → Mut ρ' S' b → Mut ρ S b
  shape : ∀ (b : Nat) (c : Array Value) (t : Nat) (fr : Nat × Nat), W.heap[b]? = some (Obj.cells c t fr) → ∃ c' : Array Value, W'.heap[b]? = some (Obj.cells c' t fr) ∧ c'.size = c.size
  fresh : ∀ l x, ρ' l = some x → ρ l = none → n ≤ l
  slen : S.length ≤ S'.length

theorem Ext.refl (n : Nat) (ρ : Rho) (S : Store) (W : World) : Ext n ρ S W ρ S W :=
  ⟨rfl, rfl, rfl, Nat.le_refl _, fun _ _ _ => rfl, fun _ _ h => h, fun _ _ h => h, fun _ c _ _ h => ⟨c, h, rfl⟩, fun _ _ h h' => (by rw [h'] at h; cases h), Nat.le_refl _⟩

theorem Ext.trans {n : Nat} {ρ₁ ρ₂ ρ₃ : Rho} {S₁ S₂ S₃ : Store} {W₁ W₂ W₃ : World} (h : Ext n ρ₁ S₁ W₁ ρ₂ S₂ W₂) (k : Ext n ρ₂ S₂ W₂ ρ₃ S₃ W₃) : Ext n ρ₁ S₁ W₁ ρ₃ S₃ W₃ where
  os := k.os.trans h.os
  tape := k.tape.trans h.tape
  output := k.output.trans h.output
  size := Nat.le_trans h.size k.size
  frame := fun b hb hM => (k.frame b (Nat.lt_of_lt_of_le hb h.size) (fun hm => hM (h.muts b hb hm))).trans (h.frame b hb hM)
  agree := fun l x hx => k.agree l x (h.agree l x hx)
  muts := fun b hb hm => h.muts b hb (k.muts b (Nat.lt_of_lt_of_le hb h.size) hm)
  shape := fun b c t fr hc => by
    obtain ⟨c1, h1, e1⟩ := h.shape b c t fr hc
    obtain ⟨c2, h2, e2⟩ := k.shape b c1 t fr h1
    exact ⟨c2, h2, e2.trans e1⟩
  fresh := fun l x hx h0 => by
    cases h2 : ρ₂ l with
    | none => exact k.fresh l x hx h2
    | some y => exact h.fresh l y h2 h0
  slen := Nat.le_trans h.slen k.slen

theorem Ext.weaken {n m : Nat} {ρ ρ' : Rho} {S S' : Store} {W W' : World} (h : Ext n ρ S W ρ' S' W') (hm : m ≤ n) : Ext m ρ S W ρ' S' W' :=
  { h with fresh := fun l x hx h0 => Nat.le_trans hm (h.fresh l x hx h0) }

theorem heap_lt {W : World} {b : Nat} {o : Obj} (h : W.heap[b]? = some o) : b < W.heap.size := (Array.getElem?_eq_some_iff.1 h).1

theorem cell_lt {W : World} {b o : Nat} {v : Value} (h : W.cell? ⟨b, o, none⟩ = some v) : b < W.heap.size := World.block_lt_of_cell? W _ h

/-- What a value stands for lives on. -/
theorem RV.cellsKept {W W' : World} {ρ ρ' : Rho} {M M' : Nat → Prop} (hag : ∀ l x, ρ l = some x → ρ' l = some x) (hsz : W.heap.size ≤ W'.heap.size) (hcell : ∀ {b o : Nat} {v : Value}, ¬ M b → W.cell? ⟨b, o, none⟩ = some v → W'.cell? ⟨b, o, none⟩ = some v) (hmut : ∀ b, b < W.heap.size → M' b → M b)
    (hsh : ∀ (b : Nat) (c : Array Value) (t : Nat) (fr : Nat × Nat), W.heap[b]? = some (Obj.cells c t fr) → ∃ c' : Array Value, W'.heap[b]? = some (Obj.cells c' t fr) ∧ c'.size = c.size) {a : AV} {v : Value} (h : RV W ρ M a v) : RV W' ρ' M' a v := by
  induction h with
  | bool b => exact .bool b
  | int k n => exact .int k n
  | str s => exact .str s
  | ptr o h => exact .ptr o (hag _ _ h)
  | nilptr => exact .nilptr
  | @fptr els b off sz i o vs hs hM hB h1 h2 ih =>
    exact .fptr i o vs hs (fun hm => hM (hmut b hB hm)) (Nat.lt_of_lt_of_le hB hsz) (fun i j e c a b => hcell hM (h1 i j e c a b)) ih
  | sl h hl hc hb hz =>
    obtain ⟨c', hc', e⟩ := hsh _ _ _ _ hb
    exact .sl (hag _ _ h) hl hc hc' (by omega)
  | nilsl => exact .nilsl
  | fsl0 A cap hx => exact .fsl0 A cap hx
  | @fsl x els b off sz cap vs hs hM hB hc hx h1 h2 ih =>
    exact .fsl vs hs (fun hm => hM (hmut b hB hm)) (Nat.lt_of_lt_of_le hB hsz) hc hx (fun i j e c a b => hcell hM (h1 i j e c a b)) ih
  | map h => exact .map (hag _ _ h)
  | nilmap => exact .nilmap
  | func f hf hc h1 h2 ih1 ih2 => exact .func f hf hc ih1 ih2
  | nilfunc => exact .nilfunc
  | iface t h ih => exact .iface t ih
  | niliface => exact .niliface
  | agg hl h ih => exact .agg hl ih
  | tuple hl h ih => exact .tuple hl ih
  | yield h => exact .yield (hag _ _ h)
  | junk v => exact .junk v

theorem RV.ext {W W' : World} {ρ ρ' : Rho} {M M' : Nat → Prop} (hag : ∀ l x, ρ l = some x → ρ' l = some x) (hsz : W.heap.size ≤ W'.heap.size) (hfr : ∀ b, b < W.heap.size → ¬ M b → W'.heap[b]? = W.heap[b]?) (hmut : ∀ b, b < W.heap.size → M' b → M b)
    (hsh : ∀ (b : Nat) (c : Array Value) (t : Nat) (fr : Nat × Nat), W.heap[b]? = some (Obj.cells c t fr) → ∃ c' : Array Value, W'.heap[b]? = some (Obj.cells c' t fr) ∧ c'.size = c.size) {a : AV} {v : Value} (h : RV W ρ M a v) : RV W' ρ' M' a v :=
  RV.cellsKept hag hsz (fun hM hc => by rw [← hc]; exact World.cell?_of_block (hfr _ (cell_lt hc) hM)) hmut hsh h

theorem RV.step {n : Nat} {W W' : World} {ρ ρ' : Rho} {S S' : Store} (h : Ext n ρ S W ρ' S' W') {a : AV} {v : Value} (hv : RV W ρ (Mut ρ S) a v) : RV W' ρ' (Mut ρ' S') a v :=
  RV.ext h.agree h.size h.frame h.muts h.shape hv

theorem RVs.step {n : Nat} {W W' : World} {ρ ρ' : Rho} {S S' : Store} (h : Ext n ρ S W ρ' S' W') {ws : List AV} {vs : List Value} (hv : RVs W ρ (Mut ρ S) ws vs) : RVs W' ρ' (Mut ρ' S') ws vs :=
  ⟨hv.1, fun i c v a b => (hv.2 i c v a b).step h⟩

theorem RVs.nil (W : World) (ρ : Rho) (M : Nat → Prop) : RVs W ρ M [] [] := ⟨rfl, fun i c v h => by simp at h⟩

theorem RVs.cons {W : World} {ρ : Rho} {M : Nat → Prop} {a : AV} {v : Value} {ws : List AV} {vs : List Value} (h : RV W ρ M a v) (hs : RVs W ρ M ws vs) : RVs W ρ M (a :: ws) (v :: vs) := by
  refine ⟨by simp [hs.1], fun i c x h1 h2 => ?_⟩
  cases i with
  | zero => simp at h1 h2; subst h1; subst h2; exact h
  | succ i => simp at h1 h2; exact hs.2 i c x h1 h2

theorem RVs.uncons {W : World} {ρ : Rho} {M : Nat → Prop} {a : AV} {ws : List AV} {vs : List Value} (h : RVs W ρ M (a :: ws) vs) : ∃ v vs', vs = v :: vs' ∧ RV W ρ M a v ∧ RVs W ρ M ws vs' := by
  obtain ⟨hl, h⟩ := h
  cases vs with
  | nil => simp at hl
  | cons v vs => exact ⟨v, vs, rfl, h 0 a v rfl rfl, by simpa using hl, fun i c x h1 h2 => h (i + 1) c x (by simpa using h1) (by simpa using h2)⟩

theorem RVs.append {W : World} {ρ : Rho} {M : Nat → Prop} {ws bs : List AV} {vs us : List Value} (h : RVs W ρ M ws vs) (k : RVs W ρ M bs us) : RVs W ρ M (ws ++ bs) (vs ++ us) := by
  induction ws generalizing vs with
  | nil => obtain rfl : vs = [] := List.eq_nil_of_length_eq_zero h.1.symm; simpa using k
  | cons a ws ih =>
    obtain ⟨v, vs', rfl, h1, h2⟩ := h.uncons
    exact RVs.cons h1 (ih h2)

/-- What a frame holds beside its temporaries: the heap's size where it began, the deferred calls of its own, the round's loop. -/
structure FX where
  B : Nat
  D : List Deferred
  R : Option Nat
  L : Option Nat

def mark (r : Nat) : Deferred := { target := .collected r, args := #[] }

/-- The temporaries, and what is deferred. -/
structure TR (X : FX) (W : World) (ρ : Rho) (M : Nat → Prop) (t : Tmps) (a : Act) : Prop where
  len : t.length = a.tmps.size
  val : ∀ i, RV W ρ M (t.getD i undefA) (a.tmps.getD i undef)
  defers : ∃ rs : List Nat, a.defers = rs.map mark ++ X.D ∧ rs.Nodup ∧ ∀ r ∈ rs, X.B ≤ r ∧ ¬ M r ∧ W.heap[r]? = some (.deferred (some []))
  begun : X.B ≤ W.heap.size
  rnd : match X.L with
    | none => X.R = none
    | some l => ∃ b, X.R = some b ∧ ρ l = some (b, 0)

theorem RV.undef (W : World) (ρ : Rho) (M : Nat → Prop) : RV W ρ M undefA Go.undef := by
  have := RV.tuple (W := W) (ρ := ρ) (M := M) (cs := []) (vs := []) rfl (fun i c v h => by simp at h)
  simpa [undefA, Go.undef] using this

theorem TR.step {n : Nat} {W W' : World} {ρ ρ' : Rho} {S S' : Store} (h : Ext n ρ S W ρ' S' W') {X : FX} {t : Tmps} {a : Act} (ht : TR X W ρ (Mut ρ S) t a) : TR X W' ρ' (Mut ρ' S') t a := by
  refine ⟨ht.len, fun i => (ht.val i).step h, ?_, Nat.le_trans ht.begun h.size, ?_⟩
  · obtain ⟨rs, h1, h2, h3⟩ := ht.defers
    refine ⟨rs, h1, h2, fun r hr => ?_⟩
    obtain ⟨g1, g2, g3⟩ := h3 r hr
    have hlt := heap_lt g3
    exact ⟨g1, fun hm => g2 (h.muts r hlt hm), (h.frame r hlt g2).trans g3⟩
  · have := ht.rnd
    cases hL : X.L with
    | none => rw [hL] at this; exact this
    | some l => rw [hL] at this; obtain ⟨b, e1, e2⟩ := this; exact ⟨b, e1, h.agree _ _ e2⟩

theorem TR.put {W : World} {ρ : Rho} {M : Nat → Prop} {X : FX} {t : Tmps} {a : Act} (ht : TR X W ρ M t a) (dst : Option Tmp) {c : AV} {v : Value} (hv : RV W ρ M c v) : TR X W ρ M (putA t dst c) (a.put dst v) := by
  cases dst with
  | none => exact ht
  | some d =>
    refine ⟨by simp [putA, Act.put, ht.len], fun i => ?_, by simpa [Act.put] using ht.defers, ht.begun, ht.rnd⟩
    have hl := ht.len
    have hi := ht.val i
    simp only [putA, Act.put, List.getD_eq_getElem?_getD, Array.getD_eq_getD_getElem?, List.getElem?_set, Array.getElem?_setIfInBounds] at hi ⊢
    by_cases e : d = i
    · subst e
      by_cases hd : d < t.length
      · simp [hd, ← hl]; exact hv
      · simp [hd, ← hl]; exact RV.undef W ρ M
    · simp [e]; simpa using hi

theorem RV.const (W : World) (ρ : Rho) (M : Nat → Prop) (v : Value) : RV W ρ M (ofConst v) v := by
  cases v with
  | bool b => exact .bool _
  | int k n => exact .int _ _
  | float k n => exact .junk _
  | complex k x y => exact .junk _
  | string s => exact .str _
  | pointer a => cases a with
    | none => exact .nilptr
    | some a => exact .junk _
  | slice a l c => cases a with
    | none => cases l with
      | zero => cases c with
        | zero => exact .nilsl
        | succ c => exact .junk _
      | succ l => exact .junk _
    | some a => exact .junk _
  | map r => cases r with
    | none => exact .nilmap
    | some r => exact .junk _
  | chan r => exact .junk _
  | func f x y => exact .junk _
  | nilFunc => exact .nilfunc
  | iface t v => exact .junk _
  | nilIface => exact .niliface
  | agg cs => exact .junk _
  | tuple vs =>
    obtain ⟨l⟩ := vs
    cases l with
    | nil => exact RV.undef W ρ M
    | cons x l => exact .junk _

theorem RV.constA (W : World) (ρ : Rho) (M : Nat → Prop) (v : Value) : RV W ρ M (Ev.constA v) v := by
  have key := RV.const W ρ M v
  cases v with
  | agg cs =>
    have : (Value.agg cs) = .agg cs.toList.toArray := by simp
    rw [this]
    refine RV.agg (by simp) (fun i c v hc hv => ?_)
    rw [List.getElem?_map, hv] at hc; simp only [Option.map_some, Option.some.injEq] at hc
    subst hc
    exact RV.const W ρ M v
  | _ => simpa only [Ev.constA] using key

theorem TR.opd {W : World} {ρ : Rho} {M : Nat → Prop} {X : FX} {t : Tmps} {a : Act} (ht : TR X W ρ M t a) (x : Operand) : RV W ρ M (opd t x) (a.eval x) := by
  cases x with
  | tmp i => exact ht.val i
  | const v => exact RV.constA W ρ M v
  | global g => exact .junk _
  | func f => exact .func (vf := []) (vc := []) f rfl rfl (fun i c v h => by simp at h) (fun i c v h => by simp at h)

theorem TR.opds {W : World} {ρ : Rho} {M : Nat → Prop} {X : FX} {t : Tmps} {a : Act} (ht : TR X W ρ M t a) (xs : List Operand) : RVs W ρ M (xs.map (Ev.opd t)) (xs.map a.eval) := by
  induction xs with
  | nil => exact RVs.nil W ρ M
  | cons x xs ih => exact RVs.cons (ht.opd x) ih

end Go.Ev
