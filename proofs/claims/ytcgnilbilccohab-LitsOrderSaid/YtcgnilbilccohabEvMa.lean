/- The evaluator Ev, part Ma: regions in which some stores have no order: each of the orders that there are is a region of its own; all tell the same. -/
import Derived.Test.YtcgnilbilccohabEvM
namespace Go.Ev
open Go
set_option linter.unusedSimpArgs false
set_option linter.unusedVariables false

/-- A region by one plan. -/
def runEv (T : Tab) (call : CallT) (pl : List (Nat × Nat)) (ops : Array Oper) (t : Tmps) (S : Store) : Option (Tmps × Store) :=
  match drawGo T call ops ops.toList pl t S with
  | none => none
  | some (t', S', segs, chks) => if chks.all (chkOK T segs) then some (t', S') else none

/-- What comes ahead of an operation, where it has a new place; those that do more than reading and laying keep the new order. -/
def presOf (ops : Array Oper) (σ : List Nat) (k : Nat) (o : Oper) : List Nat :=
  (pre o).map (fun j => σ.idxOf j) ++ (if isC o then (List.range k).filter fun j => (((σ[j]?).bind (ops[·]?)).map isC).getD false else [])

def moved (ops : Array Oper) (σ : List Nat) (p : Nat × Nat) : Oper := match ops[p.1]? with
  | some o => { o with after := ((presOf ops σ p.2 o).map fun j => ⟨j, .data⟩).toArray }
  | none => default

/-- A region's operations in a new order. -/
def permOps (ops : Array Oper) (σ : List Nat) : Array Oper := (σ.zipIdx.map (moved ops σ)).toArray

def place (σ : List Nat) (listed : Array Bool) : Array Bool := (σ.map fun i => listed.getD i false).toArray

def stepOK (ops : Array Oper) (listed : Array Bool) (i : Nat) (σ : List Nat) : Bool :=
  (Region.ready .any (permOps ops σ) (place σ listed)).contains (σ.idxOf i) && (place σ (listed.setIfInBounds i true)).toList == ((place σ listed).setIfInBounds (σ.idxOf i) true).toList &&
  σ[σ.idxOf i]? == some i && ((ops[i]?).map fun o => o.guard.isNone).getD false

def nextS (ops : Array Oper) (s : Array Bool × List (List Nat)) : List (Array Bool × List (List Nat)) :=
  (Region.ready .any ops s.1).map fun i => (s.1.setIfInBounds i true, s.2.filter (stepOK ops s.1 i))

def restS (ops : Array Oper) (s : Array Bool × List (List Nat)) : Bool :=
  !s.2.isEmpty && (!(Region.ready .any ops s.1).isEmpty || s.2.all fun σ => (Region.ready .any (permOps ops σ) (place σ s.1)).isEmpty)

/-- Without what stands twice. -/
def once : List (Array Bool × List (List Nat)) → List (Array Bool × List (List Nat))
  | [] => []
  | x :: l => let r := once l; if r.any fun y => y.1.toList == x.1.toList && y.2 == x.2 then r else x :: r

theorem mem_once {x : Array Bool × List (List Nat)} : ∀ {l : List (Array Bool × List (List Nat))}, x ∈ l → x ∈ once l
  | y :: l, h => by
    simp only [once]
    rcases List.mem_cons.1 h with rfl | h
    · split
      · rename_i hr
        obtain ⟨z, hz, he⟩ := List.any_eq_true.1 hr
        simp only [Bool.and_eq_true, beq_iff_eq] at he
        have : z = x := Prod.ext (Array.toList_inj.1 he.1) he.2
        rw [← this]; exact hz
      · exact List.mem_cons_self
    · split
      · exact mem_once h
      · exact List.mem_cons_of_mem _ (mem_once h)

/-- Is each order of a region one of those that are given? -/
def covers (ops : Array Oper) : Nat → List (Array Bool × List (List Nat)) → Bool
  | 0, L => L.all fun s => !s.2.isEmpty
  | fuel + 1, L => L.all (restS ops) && covers ops fuel (once (L.flatMap (nextS ops)))

def Lst (ops : Array Oper) : Nat → Array Bool → List Nat → Prop
  | 0, _, l => l = []
  | _ + 1, listed, [] => Region.ready .any ops listed = []
  | fuel + 1, listed, i :: l => i ∈ Region.ready .any ops listed ∧ Lst ops fuel (listed.setIfInBounds i true) l

def SameOp (ops : Array Oper) (σ : List Nat) (i : Nat) : Prop := ∃ o af, ops[i]? = some o ∧ o.guard = none ∧ (permOps ops σ)[σ.idxOf i]? = some { o with after := af }

section
variable {F : Fence} {n : Nat} {P : Program} {ops : Array Oper} {Q : Exit → Act → World → Prop}

theorem any_lst : ∀ (fuel : Nat) (listed : Array Bool) (l : List Nat) (a : Act) (w : World), wpAnyIn F n P .any ops Q fuel listed a w → Lst ops fuel listed l → wpOpsIn F n P ops Q l a w := by
  intro fuel
  induction fuel with
  | zero => intro listed l a w h hl; obtain rfl : l = [] := hl; exact h.2
  | succ fuel ih =>
    intro listed l a w h hl
    cases l with
    | nil => exact h.1 hl
    | cons i l =>
      rw [wpOpsIn_cons]
      exact wpOpIn_mono (fun a w h' => ih _ _ a w h' hl.2) (h.2 i hl.1)

theorem stepOK_same {listed : Array Bool} {i : Nat} {σ : List Nat} (h : stepOK ops listed i σ = true) : σ.idxOf i ∈ Region.ready .any (permOps ops σ) (place σ listed) ∧ place σ (listed.setIfInBounds i true) = (place σ listed).setIfInBounds (σ.idxOf i) true ∧ SameOp ops σ i := by
  simp only [stepOK, Bool.and_eq_true, beq_iff_eq] at h
  obtain ⟨⟨⟨h1, h2⟩, h3⟩, h4⟩ := h
  refine ⟨by simpa using h1, Array.toList_inj.1 h2, ?_⟩
  cases ho : ops[i]? with
  | none => rw [ho] at h4; cases h4
  | some o =>
    rw [ho] at h4
    refine ⟨o, ((presOf ops σ (σ.idxOf i) o).map fun j => ⟨j, .data⟩).toArray, ho, by simpa [ho] using h4, ?_⟩
    have hz : σ.zipIdx[σ.idxOf i]? = some (i, σ.idxOf i) := by rw [List.getElem?_zipIdx, h3]; simp
    simp only [permOps, List.getElem?_toArray, List.getElem?_map, hz, Option.map_some, moved, ho]

theorem go_lst : ∀ (fuel t : Nat) (listed : Array Bool) (K : List (List Nat)) (L : List (Array Bool × List (List Nat))), covers ops fuel L = true → (listed, K) ∈ L →
    ∃ σ ∈ K, Lst (permOps ops σ) fuel (place σ listed) ((Region.linearise.go .any ops fuel t listed []).map fun i => σ.idxOf i) ∧ ∀ i ∈ Region.linearise.go .any ops fuel t listed [], SameOp ops σ i := by
  intro fuel
  induction fuel with
  | zero =>
    intro t listed K L h hL
    have h := List.all_eq_true.1 h _ hL
    cases K with
    | nil => cases h
    | cons σ K => exact ⟨σ, List.mem_cons_self, by simp [Region.linearise.go, Lst], by simp [Region.linearise.go]⟩
  | succ fuel ih =>
    intro t listed K L h hL
    simp only [covers, Bool.and_eq_true] at h
    obtain ⟨h12, h3⟩ := h
    have h12 := List.all_eq_true.1 h12 _ hL
    simp only [restS, Bool.and_eq_true, Bool.or_eq_true] at h12
    obtain ⟨h1, h2⟩ := h12
    have hgo : Region.linearise.go .any ops (fuel + 1) t listed [] = match (Region.ready .any ops listed)[t % (Region.ready .any ops listed).length]? with
      | some i => Region.linearise.go .any ops fuel (t / (Region.ready .any ops listed).length) (listed.setIfInBounds i true) [i]
      | none => [].reverse := rfl
    rw [hgo]
    cases hi : (Region.ready .any ops listed)[t % (Region.ready .any ops listed).length]? with
    | none =>
      have hnil : Region.ready .any ops listed = [] := by
        cases hr : Region.ready .any ops listed with
        | nil => rfl
        | cons x xs =>
          rw [hr] at hi
          have hlt : t % (x :: xs).length < (x :: xs).length := Nat.mod_lt _ (by simp)
          simp at hi
          simp at hlt
          omega
      cases K with
      | nil => cases h1
      | cons σ K =>
        rw [hnil] at h2
        have h2 := List.all_eq_true.1 (h2.resolve_left (by simp)) σ List.mem_cons_self
        exact ⟨σ, List.mem_cons_self, by simpa [Lst] using h2, by simp⟩
    | some i =>
      have hm := List.mem_of_getElem? hi
      obtain ⟨σ, hσ, g1, g2⟩ := ih (t / (Region.ready .any ops listed).length) (listed.setIfInBounds i true) _ _ h3 (mem_once (List.mem_flatMap.2 ⟨_, hL, List.mem_map.2 ⟨i, hm, rfl⟩⟩))
      obtain ⟨k1, k2⟩ := List.mem_filter.1 hσ
      obtain ⟨s1, s2, s3⟩ := stepOK_same k2
      refine ⟨σ, k1, ?_, ?_⟩
      · dsimp only
        rw [linearise_go_acc, List.reverse_singleton, List.singleton_append, List.map_cons]
        exact ⟨s1, by rw [← s2]; exact g1⟩
      · dsimp only
        rw [linearise_go_acc, List.reverse_singleton, List.singleton_append]
        intro j hj
        rcases List.mem_cons.1 hj with rfl | hj
        · exact s3
        · exact g2 j hj

theorem ops_perm {σ : List Nat} : ∀ (l : List Nat) (a : Act) (w : World), (∀ i ∈ l, SameOp ops σ i) → wpOpsIn F n P (permOps ops σ) Q (l.map fun i => σ.idxOf i) a w → wpOpsIn F n P ops Q l a w
  | [], a, w, _, h => h
  | i :: l, a, w, hs, h => by
    obtain ⟨o, af, h1, h2, h3⟩ := hs i List.mem_cons_self
    rw [List.map_cons, wpOpsIn_cons] at h
    rw [wpOpsIn_cons]
    have hmono := wpOpIn_mono (fun a w h' => ops_perm l a w (fun j hj => hs j (List.mem_cons_of_mem _ hj)) h') h
    unfold wpOpIn at hmono ⊢
    rw [h3] at hmono
    rw [h1]
    simp only [Region.wanted, h2, if_true] at hmono ⊢
    exact hmono
end

/-- The orders that are given serve. -/
def altOK (ops : Array Oper) (A : List (List Nat × List (Nat × Nat))) : Bool :=
  (A.all fun x => planOK (permOps ops x.1) x.2 && x.1.length == ops.size && (place x.1 (Array.replicate ops.size false)).toList == List.replicate ops.size false) && covers ops ops.size [(Array.replicate ops.size false, A.map (·.1))]

def sameS : Store → Store → Bool
  | [], [] => true
  | a :: x, b :: y => Row.same a b && sameS x y
  | _, _ => false

theorem sameS_eq : ∀ {x y : Store}, sameS x y = true → x = y
  | [], [], _ => rfl
  | a :: x, b :: y, h => by
    simp only [sameS, Bool.and_eq_true] at h
    rw [Row.same_eq h.1, sameS_eq h.2]
  | [], _ :: _, h => by cases h
  | _ :: _, [], h => by cases h

theorem sameS_refl : ∀ (x : Store), sameS x x = true
  | [] => rfl
  | a :: x => by simp [sameS, Row.same_refl, sameS_refl x]

def sameTS (a b : Tmps × Store) : Bool := AV.eqbL a.1 b.1 && sameS a.2 b.2

/-- All orders tell the same. -/
def altEv (T : Tab) (call : CallT) (ops : Array Oper) (A : List (List Nat × List (Nat × Nat))) (t : Tmps) (S : Store) : Option (Tmps × Store) := match A with
  | [] => none
  | x :: rest => match runEv T call x.2 (permOps ops x.1) t S with
    | none => none
    | some r => if rest.all (fun y => match runEv T call y.2 (permOps ops y.1) t S with
      | some r' => sameTS r' r
      | none => false) then some r else none

/-- A function's frame, where some stores have no order. -/
def drawX (T : Tab) (call : CallT) (f : Nat) (rnd : Option Nat) (plans : Nat → List (Nat × Nat)) (alts : Nat → List (List Nat × List (Nat × Nat))) : DrawT :=
  ⟨f, rnd, fun id ops t S => match alts id with
    | [] => drawEv T call plans id ops t S
    | A => altEv T call ops A t S⟩

def regOK (plans : Nat → List (Nat × Nat)) (alts : Nat → List (List Nat × List (Nat × Nat))) (id : Nat) (ops : Array Oper) : Bool := match alts id with
  | [] => planOK ops (plans id)
  | A => altOK ops A

section
variable {P : Program} {T : Tab} {call : CallT}

/-- What the evaluator tells of a drawn region is so, whatever order is drawn. -/
theorem draw_any {X : FX} {ops : Array Oper} {pl : List (Nat × Nat)} {t : Tmps} {S : Store} {t' : Tmps} {S' : Store} {ρ : Rho} {W : World} {a : Act} {Q : Exit → Act → World → Prop} (hT : TabOK P T) (hcall : CallsSound P call)
    (hok : planOK ops pl = true) (h : runEv T call pl ops t S = some (t', S')) (hr : Rel W ρ S) (ht : TR X W ρ (Mut ρ S) t a)
    (hQ : ∀ a' W' ρ', Rel W' ρ' S' → TR X W' ρ' (Mut ρ' S') t' a' → Ext S.length ρ S W ρ' S' W' → Q .normal a' W') : wpAnyIn (FR X.R) 0 P .any ops Q ops.size (Array.replicate ops.size false) a W.drew := by
  unfold runEv at h
  split at h
  · cases h
  rename_i t1 S1 segs chks hgo
  split at h
  case isFalse => cases h
  rename_i hchk
  simp only [Option.some.injEq, Prod.mk.injEq] at h
  obtain ⟨rfl, rfl⟩ := h
  obtain ⟨L, h0, hn, hs, hc, hsn, hk⟩ := drawGo_trace ops.toList pl t S _ _ segs chks hgo
  rw [Array.length_toList] at hn hsn
  have hcnt : ∀ i, cnt ops.toList i = cidx ops i := fun i => rfl
  have htr : Trace T call ops pl L segs chks := ⟨fun i o ho => hs i o (by simpa using ho), fun i o ho hC => by have := hc i o (by simpa using ho) hC; rwa [hcnt] at this, by rw [← hcnt, hsn, hn], fun i o ho => hk i o (by simpa using ho)⟩
  have hst := Still.drew W
  refine (wpAny_of (ρ0 := ρ) (W0 := W) hT hcall hok htr (fun c hcm => List.all_eq_true.1 hchk c hcm) ?_ ops.size _ 0 t ρ W.drew a ?_ (left_new _ _ (Nat.le_refl _)))
  · intro a' W' ρ' g1 g2 g3
    rw [hn] at g1 g2 g3
    rw [h0] at g3
    exact hQ a' W' ρ' g1 g2 g3
  · have hf : ∀ i, (Array.replicate ops.size false).getD i false = false := by
      intro i
      simp [Array.getD_eq_getD_getElem?, Array.getElem?_replicate]
      split <;> rfl
    have hpre := seg_pre htr (i := 0) (Nat.zero_le _)
    rw [cidx_zero, h0] at hpre
    have hmore := (hst.rel hr).more hpre.2 hpre.1
    refine ⟨by simp, fun i p hi => ?_, Nat.zero_le _, fun i o ho hC => ?_, hmore.1, (hst.tr ht).step (hmore.2 0), ?_, by rw [h0], fun i o d ho hd => ?_, fun d _ => by rw [h0], fun i o ho hA hw _ hci => ?_, fun k k' hkk hk0 hci => ?_⟩
    · rw [hf] at hi; cases hi
    · rw [hf]; simp
    · rw [h0]; exact (hst.ext _ _ _).trans (hmore.2 _)
    · rw [hf, if_neg (by simp), h0]
    · have hi := (Array.getElem?_eq_some_iff.1 ho).1
      have := trace_pre htr (i := 0) i (by omega) (by rw [cidx_zero, Nat.zero_add]; omega)
      rw [Nat.zero_add, h0] at this
      exact rho_none hr this.1
    · obtain ⟨d, rfl⟩ := Nat.exists_eq_add_of_le hkk
      have := cidx_mono (ops := ops) (show k ≤ k + d by omega)
      exact (trace_pre htr (i := k) d (by omega) (by omega)).1


theorem sameTS_eq {a b : Tmps × Store} (h : sameTS a b = true) : a = b := by
  simp only [sameTS, Bool.and_eq_true] at h
  exact Prod.ext (AV.eq_of_eqbL _ _ h.1) (sameS_eq h.2)

theorem altEv_sound (hm : P.follows .mixedOrders = true) (hT : TabOK P T) (hcall : CallsSound P call) {A : List (List Nat × List (Nat × Nat))} {X : FX} {ops : Array Oper} {t : Tmps} {S : Store} {t' : Tmps} {S' : Store} {ρ : Rho} {W : World} {a : Act} {id : Nat} {Q : Exit → Act → World → Prop}
    (hok : altOK ops A = true) (h : altEv T call ops A t S = some (t', S')) (hr : Rel W ρ S) (ht : TR X W ρ (Mut ρ S) t a)
    (hQ : ∀ a' W' ρ', Rel W' ρ' S' → TR X W' ρ' (Mut ρ' S') t' a' → Ext S.length ρ S W ρ' S' W' → Q .normal a' W') : (Code.region id ops true).wpIn (FR X.R) 0 P Q a W := by
  simp only [altOK, Bool.and_eq_true] at hok
  obtain ⟨hok, hcov⟩ := hok
  have hall : ∀ x ∈ A, runEv T call x.2 (permOps ops x.1) t S = some (t', S') := by
    unfold altEv at h
    split at h
    · cases h
    rename_i y rest
    split at h
    · cases h
    rename_i r hy
    split at h
    case isFalse => cases h
    rename_i hrest
    simp only [Option.some.injEq] at h
    subst h
    intro x hx
    rcases List.mem_cons.1 hx with rfl | hx
    · exact hy
    · have := List.all_eq_true.1 hrest x hx
      split at this
      · rename_i r' hr'
        rw [hr', sameTS_eq this]
      · cases this
  refine wpIn_region_draw fun tape => ?_
  simp only [Region.schedule, hm, Bool.true_or, if_true]
  obtain ⟨σ, hσ, hl, hsame⟩ := go_lst ops.size tape _ _ _ hcov List.mem_cons_self
  obtain ⟨x, hx, rfl⟩ := List.mem_map.1 hσ
  have h1 := List.all_eq_true.1 hok x hx
  simp only [Bool.and_eq_true, beq_iff_eq] at h1
  obtain ⟨⟨g1, g2⟩, g3⟩ := h1
  have hsz : (permOps ops x.1).size = ops.size := by simp [permOps, g2]
  have hw := draw_any (a := a) (Q := Q) hT hcall g1 (hall x hx) hr ht hQ
  rw [hsz] at hw
  have hp : place x.1 (Array.replicate ops.size false) = Array.replicate ops.size false := Array.toList_inj.1 (by rw [g3]; simp)
  rw [hp] at hl
  exact ops_perm _ _ _ hsame (any_lst _ _ _ _ _ hw hl)

/-- What the evaluator tells of drawn regions is so. -/
theorem drawX_sound (hm : P.follows .mixedOrders = true) (hT : TabOK P T) (hcall : CallsSound P call) (f : Nat) (rnd : Option Nat) (plans : Nat → List (Nat × Nat)) (alts : Nat → List (List Nat × List (Nat × Nat))) : DrawSound P (regOK plans alts) (drawX T call f rnd plans alts) := by
  intro X ops t S t' S' ρ W a id Q hok h hr ht hQ
  unfold regOK at hok
  simp only [drawX] at h
  split at hok
  · rename_i hn
    rw [hn] at h
    exact drawEv_sound hm hT hcall f rnd plans X ops t S t' S' ρ W a id Q hok h hr ht hQ
  · rename_i hn
    split at h
    · rename_i hn'
      exact absurd hn' hn
    · exact altEv_sound hm hT hcall hok h hr ht hQ

theorem drawX_nil {f : Nat} {rnd : Option Nat} {plans : Nat → List (Nat × Nat)} {alts : Nat → List (List Nat × List (Nat × Nat))} (h : alts = fun _ => []) : drawX T call f rnd plans alts = drawF T call f rnd plans := by
  subst h; rfl

theorem regOK_nil {plans : Nat → List (Nat × Nat)} {alts : Nat → List (List Nat × List (Nat × Nat))} (h : alts = fun _ => []) : regOK plans alts = fun id ops => planOK ops (plans id) := by
  subst h; rfl

end
end Go.Ev
