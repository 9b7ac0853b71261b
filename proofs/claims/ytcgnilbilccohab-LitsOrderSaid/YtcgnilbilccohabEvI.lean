/- The evaluator Ev, part I: regions in the text's order, code, functions. -/
import Derived.Test.YtcgnilbilccohabEvH
import Derived.LoopN
namespace Go.Ev
open Go
set_option linter.unusedSimpArgs false
set_option linter.unusedVariables false

/-- The fence of a frame: wide; in a round, or not. -/
abbrev FR (R : Option Nat) : Fence := { Fence.wide with round := R }

theorem callsIn_FR {R : Option Nat} {n : Nat} {P : Program} {f : FuncId} {args : Array Value} {w : World} {Q : Ending → World → Prop} : CallsIn (FR R) n P f args w Q ↔ Calls P f args w Q := by
  rw [← callsIn_wide (n := n)]
  exact Iff.rfl

/-- How a call ends. -/
def endOf : AV → Value → Ending
  | .panicked _, x => .panicked [{ v := x, recovered := false }]
  | _, x => .returned x

/-- What is so behind a call, or a round. -/
def Behind (v : AV) (S S' : Store) (ρ : Rho) (W : World) (e : Ending) (W' : World) : Prop :=
  ∃ x ρ', e = endOf v x ∧ RV W' ρ' (Mut ρ' S') (unpanic v) x ∧ Rel W' ρ' S' ∧ Ext S.length ρ S W ρ' S' W'

/-- What an abstract function tells of a Go function's calls is so. -/
def CallSound (P : Program) (f : Nat) (c : List AV → Store → Option (AV × Store)) : Prop :=
  ∀ (args : List AV) (S : Store) (v : AV) (S' : Store) (ρ : Rho) (W : World) (vs : List Value), c args S = some (v, S') → Rel W ρ S → RVs W ρ (Mut ρ S) args vs →
    Calls P f vs.toArray W (Behind v S S' ρ W)

/-- What is told of rounds is so. -/
def YieldSound (P : Program) (y : Nat → List AV → Store → Option (AV × Store)) : Prop :=
  ∀ (l : Nat) (args : List AV) (S : Store) (v : AV) (S' : Store) (ρ : Rho) (W : World) (vs : List Value) (b : Nat), y l args S = some (v, S') → ρ l = some (b, 0) → Rel W ρ S → RVs W ρ (Mut ρ S) args vs →
    ∃ f tmps assign body, (Instr.yield b vs.toArray).run P W = .ok (.round b f tmps assign body) W ∧ v.isPanic = false ∧ RoundIn Fence.wide 0 P b f tmps assign body W (Behind v S S' ρ W)

def CallsSound (P : Program) (call : CallT) : Prop := (∀ f, CallSound P f (call f)) ∧ YieldSound P call.yield

theorem CallSound.mono {P : Program} {f : Nat} {c c' : List AV → Store → Option (AV × Store)} (h : CallSound P f c) (hc : ∀ args S r, c' args S = some r → c args S = some r) : CallSound P f c' :=
  fun args S v S' ρ W vs h' hr hv => h args S v S' ρ W vs (hc _ _ _ h') hr hv

theorem CallSound.none (P : Program) (f : Nat) : CallSound P f (fun _ _ => none) := fun _ _ _ _ _ _ _ h => by cases h

section
variable {P : Program} {T : Tab} {W : World} {ρ : Rho} {S : Store} {X : FX}

theorem evA_sound (hT : TabOK P T) (hr : Rel W ρ S) {t : Tmps} {a : Act} (ht : TR X W ρ (Mut ρ S) t a) {o : Oper} {l n : Nat} {r : (Nat → AV) × Row} (hS : S[l]? = some r.2) (hρ : ρ l = none) (hn : n ≤ l) {S0 : Store} (h : evA T t S0 o.op = some r) :
    ∃ z W' b, (execOp a.eval o).run P W = .ok (.value z) W' ∧ RV W' (ρ.set l (b, 0)) (Mut (ρ.set l (b, 0)) S) (r.1 l) z ∧ Rel W' (ρ.set l (b, 0)) S ∧ Ext n ρ S W (ρ.set l (b, 0)) S W' := by
  unfold evA at h
  split at h
  · rename_i e ho
    obtain ⟨z, hz, rfl⟩ := Option.map_eq_some_iff.1 h
    obtain ⟨i, zv, hi, hzv, hzc, hone⟩ := hT.zero _ _ hz
    have hlay := lay_sound hr (l := l) (n := n) (e := e) (vs := zv.cells.toList) hS hρ hn (by rw [hzc]; exact zero_rel _) hone #[]
    simp only [Array.append_empty, Array.toArray_toList] at hlay
    refine ⟨.pointer (some ⟨W.heap.size, 0, none⟩), _, W.heap.size, by simp [execOp, ho, Instr.alloc, run_zeroE hi hzv, newVar, newRow], ?_, hlay.1, hlay.2⟩
    exact RV.ptr (base := 0) 0 (by simp [Rho.set])
  · rename_i e x ho
    split at h
    · rename_i cs hcs
      split at h
      · rename_i hone
        simp only [Option.some.injEq] at h
        subst h
        have hc := cells_rel (ht.opd x) hcs
        have hlay := lay_sound hr (l := l) (n := n) (e := e) hS hρ hn hc hone #[]
        simp only [Array.append_empty, Array.toArray_toList] at hlay
        refine ⟨.pointer (some ⟨W.heap.size, 0, none⟩), _, W.heap.size, by simp [execOp, ho, Instr.box, newVar, newRow], ?_, hlay.1, hlay.2⟩
        exact RV.ptr (base := 0) 0 (by simp [Rho.set])
      · cases h
    · cases h
  · rename_i ty x y ho
    obtain ⟨z, W', b, h1, h2, h3, h4⟩ := makeSlice_sound (n := n) hT hr hS hρ hn (ht.opd x) (ht.opd y) h
    exact ⟨z, W', b, by simp [execOp, ho, h1], h2, h3, h4⟩
  · rename_i ty ho
    simp only [Option.some.injEq] at h
    subst h
    obtain ⟨h1, h2⟩ := layMap_sound hr (l := l) (n := n) hS hρ hn
    exact ⟨.map (some W.heap.size), _, W.heap.size, by simp [execOp, ho, Instr.makeMap, newObj, Sem.run], RV.map (by simp [Rho.set]), h1, h2⟩
  · cases h

theorem wpIn_run {R : Option Nat} {o : Oper} {a : Act} {K : Act → World → Prop} {Q : Exit → Act → World → Prop} {r : Result Next} (hd : ∀ c, o.op ≠ .defer c) (hrun : (execOp a.eval o).run P W = r) (h : o.uponIn (FR R) 0 P a K Q r) : o.wpIn (FR R) 0 P a W K Q := by
  refine ⟨fun _ _ => trivial, ?_⟩
  have : Oper.semAt (FR R).round a.eval o = execOp a.eval o := by
    cases R with
    | none => rfl
    | some l => exact Oper.semAt_some l _ _ hd
  rw [this, hrun]
  exact h

theorem evC_sound (hT : TabOK P T) {call : CallT} (hcall : CallsSound P call) (hr : Rel W ρ S) {t : Tmps} {a : Act} (ht : TR X W ρ (Mut ρ S) t a) {o : Oper} {c : AV} {S' : Store} (h : evC T call t S o.op = some (c, S'))
    {K : Act → World → Prop} {Q : Exit → Act → World → Prop} (hK : (mayPanic o.op && c.isPanic) = false → ∀ x W' ρ', RV W' ρ' (Mut ρ' S') c x → Rel W' ρ' S' → Ext S.length ρ S W ρ' S' W' → K (a.put o.dst x) W')
    (hP : (mayPanic o.op && c.isPanic) = true → ∀ x W' ρ', RV W' ρ' (Mut ρ' S') (unpanic c) x → Rel W' ρ' S' → Ext S.length ρ S W ρ' S' W' → Q (.panic [{ v := x, recovered := false }]) a W') : o.wpIn (FR X.R) 0 P a W K Q := by
  unfold evC at h
  split at h
  · rename_i ty x y ho
    obtain ⟨S1, hs, hSe⟩ := Option.map_eq_some_iff.1 h
    simp only [Prod.mk.injEq] at hSe
    obtain ⟨rfl, rfl⟩ := hSe
    obtain ⟨W', h1, h2, h3⟩ := store_sound hT hr (ht.opd x) (ht.opd y) hs
    have hrun : (execOp a.eval o).run P W = .ok .skip W' := by simp [execOp, ho, h1]
    refine wpIn_run (by simp [ho]) hrun ?_
    exact hK (by simp [ho, mayPanic]) _ _ _ (RV.undef _ _ _) h2 (h3 _)
  · rename_i x args tys ho
    have hend : ∀ e W', Behind c S S' ρ W e W' → (match e, W' with
        | .returned v, w'' => K (a.put o.dst v) w''
        | .panicked chain, w'' => Q (.panic chain) a w''
        | .outgrown, _ => LetsOut Q) := by
      rintro e W' ⟨y, ρ', rfl, g1, g2, g3⟩
      cases hc : c.isPanic with
      | false =>
        have e1 : endOf c y = .returned y := by cases c <;> first | rfl | (simp [AV.isPanic] at hc)
        have e2 : unpanic c = c := by cases c <;> first | rfl | (simp [AV.isPanic] at hc)
        rw [e1]
        rw [e2] at g1
        exact hK (by simp [hc]) _ _ _ g1 g2 g3
      | true =>
        have e1 : endOf c y = .panicked [{ v := y, recovered := false }] := by cases c <;> first | rfl | (simp [AV.isPanic] at hc)
        rw [e1]
        exact hP (by simp [hc, ho, mayPanic]) _ _ _ g1 g2 g3
    split at h
    · rename_i f first caps hx
      split at h
      case isFalse => cases h
      rename_i hent
      have hxv := ht.opd x
      rw [hx] at hxv
      generalize hv : a.eval x = v at hxv
      cases hxv with
      | @func _ _ _ vf vc hf hc h1 h2 =>
        have hargs : RVs W ρ (Mut ρ S) (first ++ args.toList.map (opd t) ++ caps) (vf ++ args.toList.map a.eval ++ vc) := RVs.append (RVs.append ⟨hf, h1⟩ (ht.opds _)) ⟨hc, h2⟩
        have hcs := hcall.1 f _ _ _ _ ρ W _ h hr hargs
        have he : (vf ++ args.toList.map a.eval ++ vc).toArray = vf.toArray ++ args.map a.eval ++ vc.toArray := by
          apply Array.toList_inj.1
          simp
        have hrun : (execOp a.eval o).run P W = .ok (.enter f (vf ++ args.toList.map a.eval ++ vc).toArray) W := by
          rw [he]
          have := hT.ent f hent (vf.toArray ++ args.map a.eval ++ vc.toArray) W
          simp only [execOp, ho, resolve, hv, Deferred.ofValue, Sem.run_bind, Sem.run_pure, Result.andThen_ok, invoke]
          exact this
        refine wpIn_run (by simp [ho]) hrun ⟨fun h => by simp [Fence.wide] at h, callsIn_FR.2 (hcs.mono hend)⟩
    · rename_i l hx
      have hxv := ht.opd x
      rw [hx] at hxv
      generalize hv : a.eval x = v at hxv
      cases hxv with
      | @yield _ b hb =>
        obtain ⟨f, tmps, assign, body, hy, hnp, hround⟩ := hcall.2 l _ _ _ _ ρ W _ b h hb hr (ht.opds _)
        have he : (args.toList.map a.eval).toArray = args.map a.eval := by
          apply Array.toList_inj.1
          simp
        rw [he] at hy
        have hrun : (execOp a.eval o).run P W = .ok (.round b f tmps assign body) W := by
          simp only [execOp, ho, resolve, hv, Deferred.ofValue, Sem.run_bind, Sem.run_pure, Result.andThen_ok]
          simpa [invoke] using hy
        refine wpIn_run (by simp [ho]) hrun ⟨fun h => by simp [Fence.wide] at h, ?_⟩
        exact RoundIn.mono (F := FR X.R) ⟨trivial, hround.2⟩ hend
    · cases h
  · rename_i args tys ho
    split at h
    case h_2 => cases h
    rename_i s x ty ty' hxs htys
    obtain rfl : args = #[s, x] := Array.toList_inj.1 (by simpa using hxs)
    obtain rfl : tys = #[ty, ty'] := Array.toList_inj.1 (by simpa using htys)
    split at h
    case isFalse => cases h
    rename_i hty
    subst hty
    obtain ⟨y, W', ρ', h1, h2, h3, h4⟩ := append_sound (ty' := o.type) hT hr (ht.opd s) (ht.opd x) h
    have hrun : (execOp a.eval o).run P W = .ok (.value y) W' := by simp [execOp, ho, resolve, invoke, builtin, h1]
    refine wpIn_run (by simp [ho]) hrun ?_
    exact hK (by simp [ho, mayPanic]) _ _ _ h2 h3 h4
  · rename_i args tys ho
    split at h
    case h_2 => cases h
    rename_i s x ty ty' hxs htys
    obtain rfl : args = #[s, x] := Array.toList_inj.1 (by simpa using hxs)
    obtain rfl : tys = #[ty, ty'] := Array.toList_inj.1 (by simpa using htys)
    obtain ⟨y, W', h1, h2, h3, h4⟩ := copy_sound (ty' := o.type) (ty2 := ty') hT hr (ht.opd s) (ht.opd x) h
    have hrun : (execOp a.eval o).run P W = .ok (.value y) W' := by simp [execOp, ho, resolve, invoke, builtin, h1]
    refine wpIn_run (by simp [ho]) hrun ?_
    exact hK (by simp [ho, mayPanic]) _ _ _ h2 h3 (h4 _)
  · rename_i args tys ho
    split at h
    case h_2 => cases h
    rename_i s ty hxs htys
    obtain rfl : args = #[s] := Array.toList_inj.1 (by simpa using hxs)
    obtain rfl : tys = #[ty] := Array.toList_inj.1 (by simpa using htys)
    obtain ⟨y, W', h1, h2, h3, h4⟩ := clear_sound (ty' := o.type) hT hr (ht.opd s) h
    have hrun : (execOp a.eval o).run P W = .ok (.value y) W' := by simp [execOp, ho, resolve, invoke, builtin, h1]
    refine wpIn_run (by simp [ho]) hrun ?_
    exact hK (by simp [ho, mayPanic]) _ _ _ h2 h3 (h4 _)
  · rename_i args tys ho
    split at h
    case h_2 => cases h
    rename_i s x ty ty' hxs htys
    obtain rfl : args = #[s, x] := Array.toList_inj.1 (by simpa using hxs)
    obtain rfl : tys = #[ty, ty'] := Array.toList_inj.1 (by simpa using htys)
    obtain ⟨W', h1, rfl, h3, h4⟩ := delete_sound (ty' := o.type) (ty2 := ty') hT hr (ht.opd s) (ht.opd x) h
    have hrun : (execOp a.eval o).run P W = .ok (.value (.tuple #[])) W' := by simp [execOp, ho, resolve, invoke, builtin, h1]
    refine wpIn_run (by simp [ho]) hrun ?_
    exact hK (by simp [ho, mayPanic]) _ _ _ (RV.undef _ _ _) h3 (h4 _)
  · rename_i ty m k x ho
    obtain ⟨W', h1, rfl, h3, h4⟩ := mapUpdate_sound hT hr (ht.opd m) (ht.opd k) (ht.opd x) h
    have hrun : (execOp a.eval o).run P W = .ok .skip W' := by simp [execOp, ho, h1]
    refine wpIn_run (by simp [ho]) hrun ?_
    exact hK (by simp [ho, mayPanic]) _ _ _ (RV.undef _ _ _) h3 (h4 _)
  · rename_i ty m k ho
    obtain ⟨z, W', h1, h2, h3, h4⟩ := mapEntry_sound hT hr (ht.opd m) (ht.opd k) h
    have hrun : (execOp a.eval o).run P W = .ok (.value z) W' := by simp [execOp, ho, h1]
    refine wpIn_run (by simp [ho]) hrun ?_
    exact hK (by simp [ho, mayPanic]) _ _ _ h2 h3 (h4 _)
  · rename_i ty m s x ho
    obtain ⟨W', h1, rfl, h3, h4⟩ := entryStore_sound (P := P) hr ty (ht.opd m) (ht.opd s) (ht.opd x) h
    have hrun : (execOp a.eval o).run P W = .ok .skip W' := by simp [execOp, ho, h1]
    refine wpIn_run (by simp [ho]) hrun ?_
    exact hK (by simp [ho, mayPanic]) _ _ _ (RV.undef _ _ _) h3 (h4 _)
  · rename_i ty x ho
    obtain ⟨z, W', ρ', h1, h2, h3, h4⟩ := range_sound hT hr (ht.opd x) h
    have hrun : (execOp a.eval o).run P W = .ok (.value z) W' := by simp [execOp, ho, h1]
    refine wpIn_run (by simp [ho]) hrun ?_
    exact hK (by simp [ho, mayPanic]) _ _ _ h2 h3 h4
  · rename_i x ho
    obtain ⟨z, W', h1, h2, h3, h4⟩ := next_sound (P := P) hr o.type (ht.opd x) h
    have hrun : (execOp a.eval o).run P W = .ok (.value z) W' := by simp [execOp, ho, h1]
    refine wpIn_run (by simp [ho]) hrun ?_
    exact hK (by simp [ho, mayPanic]) _ _ _ h2 h3 (h4 _)
  · rename_i x ho
    obtain ⟨rfl, z, h1, h2⟩ := entry_sound (P := P) hr (ht.opd x) h
    have hrun : (execOp a.eval o).run P W = .ok (.value z) W := by simp [execOp, ho, h1]
    refine wpIn_run (by simp [ho]) hrun ?_
    exact hK (by simp [ho, mayPanic]) _ _ _ h2 hr (Ext.refl _ _ _ _)
  · rename_i x ho
    split at h
    case h_2 => cases h
    rename_i ty v hx
    simp only [Option.some.injEq, Prod.mk.injEq] at h
    obtain ⟨rfl, rfl⟩ := h
    have hxv := ht.opd x
    rw [hx] at hxv
    generalize hv : a.eval x = z at hxv
    have hrun : (execOp a.eval o).run P W = .halt (.panic z) W := by
      cases hxv
      simp [execOp, ho, hv, Instr.panic, goPanic, Sem.run_bind, Result.andThen, Sem.run]
    refine wpIn_run (by simp [ho]) hrun ?_
    exact hP (by simp [ho, mayPanic, AV.isPanic]) _ _ _ hxv hr (Ext.refl _ _ _ _)
  · cases h

theorem rho_none (hr : Rel W ρ S) {l : Nat} (h : S.length ≤ l) : ρ l = none := by
  cases hl : ρ l with
  | none => rfl
  | some x => obtain ⟨b, base⟩ := x; have := (hr.dom _ _ _ hl).1; omega

theorem mayPanic_cls {op : Op} (h : cls op = 0 ∨ cls op = 1) : mayPanic op = false := by
  unfold mayPanic
  split
  · simp [cls] at h
  · simp [cls] at h
  · rfl

theorem evOp_sound (hT : TabOK P T) {call : CallT} (hcall : CallsSound P call) (hr : Rel W ρ S) {t : Tmps} {a : Act} (ht : TR X W ρ (Mut ρ S) t a) {o : Oper} {c : AV} {S' : Store} (h : evOp T call t S o.op = some (c, S'))
    {K : Act → World → Prop} {Q : Exit → Act → World → Prop} (hK : (mayPanic o.op && c.isPanic) = false → ∀ x W' ρ', RV W' ρ' (Mut ρ' S') c x → Rel W' ρ' S' → Ext S.length ρ S W ρ' S' W' → K (a.put o.dst x) W')
    (hP : (mayPanic o.op && c.isPanic) = true → ∀ x W' ρ', RV W' ρ' (Mut ρ' S') (unpanic c) x → Rel W' ρ' S' → Ext S.length ρ S W ρ' S' W' → Q (.panic [{ v := x, recovered := false }]) a W') : o.wpIn (FR X.R) 0 P a W K Q := by
  have hnd : ∀ c, cls o.op ≠ 2 → o.op ≠ .defer c := fun c h e => by rw [e] at h; simp [cls] at h
  unfold evOp at h
  split at h
  · rename_i hc
    obtain ⟨v, hv, hSe⟩ := Option.map_eq_some_iff.1 h
    simp only [Prod.mk.injEq] at hSe
    obtain ⟨rfl, rfl⟩ := hSe
    obtain ⟨x, W', h1, h2, h3⟩ := evP_sound hT hr ht hv
    refine wpIn_run (fun c => hnd c (by rw [hc]; decide)) h1 ?_
    exact hK (by simp [mayPanic_cls (.inl hc)]) _ _ _ h3 (h2.rel hr) (h2.ext _ _ _)
  · rename_i hc
    obtain ⟨r, hr', hSe⟩ := Option.map_eq_some_iff.1 h
    simp only [Prod.mk.injEq] at hSe
    obtain ⟨rfl, rfl⟩ := hSe
    have hmore := hr.more (S' := S ++ [r.2]) (fun l hl => by rw [List.getElem?_append_left hl]) (by simp)
    obtain ⟨z, W', b, h1, h2, h3, h4⟩ := evA_sound (l := S.length) (n := S.length) hT hmore.1 (ht.step (hmore.2 0)) (by simp) (rho_none hr (Nat.le_refl _)) (Nat.le_refl _) hr'
    refine wpIn_run (fun c => hnd c (by rw [hc]; decide)) h1 ?_
    exact hK (by simp [mayPanic_cls (.inr hc)]) _ _ _ h2 h3 ((hmore.2 _).trans h4)
  · exact evC_sound hT hcall hr ht h hK hP

theorem wanted_sound {M : Nat → Prop} {t : Tmps} {a : Act} (ht : TR X W ρ M t a) {ops : Array Oper} {o : Oper} {b : Bool} (h : wantedA ops t o = some b) : Region.wanted o (yielded ops a.tmps) = b := by
  unfold wantedA at h
  unfold Region.wanted
  split at h
  · rename_i hg
    simp only [Option.some.injEq] at h
    subst h
    rw [hg]
  · rename_i j want hg
    rw [hg]
    simp only
    split at h
    case h_2 => cases h
    rename_i d hd
    have hyd : yielded ops a.tmps j = match a.tmps.getD d undef with | .bool b => some b | _ => none := by
      unfold yielded
      rw [hd]
      simp only [Option.bind_some, Array.getD_eq_getD_getElem?]
      cases a.tmps[d]? with
      | none => rfl
      | some v => cases v <;> rfl
    have hval := ht.val d
    split at h
    · rename_i b' hb
      simp only [Option.some.injEq] at h
      subst h
      rw [hb] at hval
      rw [hyd]
      generalize a.tmps.getD d undef = v at hval
      cases hval
      simp
    · rename_i hb
      simp only [Option.some.injEq] at h
      subst h
      rw [hb] at hval
      rw [hyd]
      generalize a.tmps.getD d undef = v at hval
      cases hval
      simp
    · cases h

/-- How a piece of code is left. -/
def Ends (P : Program) (X : FX) (S : Store) (ρ : Rho) (W : World) (Q : Exit → Act → World → Prop) : Ex → Tmps → Store → Prop
  | .normal, t', S' => ∀ a' W' ρ', Rel W' ρ' S' → TR X W' ρ' (Mut ρ' S') t' a' → Ext S.length ρ S W ρ' S' W' → Q .normal a' W'
  | .exit id, t', S' => ∀ a' W' ρ', Rel W' ρ' S' → TR X W' ρ' (Mut ρ' S') t' a' → Ext S.length ρ S W ρ' S' W' → Q (.exit id) a' W'
  | .ret, t', S' => ∀ a' W' ρ', Rel W' ρ' S' → TR X W' ρ' (Mut ρ' S') t' a' → Ext S.length ρ S W ρ' S' W' → Q .ret a' W'
  | .panic v, _, S' => ∀ a' W' ρ' x t', Rel W' ρ' S' → TR X W' ρ' (Mut ρ' S') t' a' → RV W' ρ' (Mut ρ' S') v x → Ext S.length ρ S W ρ' S' W' → Q (.panic [{ v := x, recovered := false }]) a' W'

theorem Ends.ext {X : FX} {S S1 : Store} {ρ ρ1 : Rho} {W W1 : World} {Q : Exit → Act → World → Prop} {e : Ex} {t' : Tmps} {S' : Store} (h : Ends P X S ρ W Q e t' S') (hx : Ext S.length ρ S W ρ1 S1 W1) : Ends P X S1 ρ1 W1 Q e t' S' := by
  cases e with
  | normal => exact fun a2 W2 ρ2 g1 g2 g3 => h a2 W2 ρ2 g1 g2 (hx.trans (g3.weaken hx.slen))
  | exit id => exact fun a2 W2 ρ2 g1 g2 g3 => h a2 W2 ρ2 g1 g2 (hx.trans (g3.weaken hx.slen))
  | ret => exact fun a2 W2 ρ2 g1 g2 g3 => h a2 W2 ρ2 g1 g2 (hx.trans (g3.weaken hx.slen))
  | panic v => exact fun a2 W2 ρ2 x t2 g1 g2 g3 g4 => h a2 W2 ρ2 x t2 g1 g2 g3 (hx.trans (g4.weaken hx.slen))

theorem evOps_sound (hT : TabOK P T) {call : CallT} (hcall : CallsSound P call) {ops : Array Oper} {Q : Exit → Act → World → Prop} : ∀ (l : List Oper) (t : Tmps) (S : Store) (ρ : Rho) (W : World) (a : Act) (e : Ex) (t' : Tmps) (S' : Store),
    Rel W ρ S → TR X W ρ (Mut ρ S) t a → evOps T call ops l t S = some (e, t', S') → Ends P X S ρ W Q e t' S' → wpListIn (FR X.R) 0 P ops Q l a W
  | [], t, S, ρ, W, a, e, t', S', hr, ht, h, hQ => by
    simp only [evOps, Option.some.injEq, Prod.mk.injEq] at h
    obtain ⟨rfl, rfl, rfl⟩ := h
    exact hQ a W ρ hr ht (Ext.refl _ _ _ _)
  | o :: rest, t, S, ρ, W, a, e, t', S', hr, ht, h, hQ => by
    simp only [evOps] at h
    refine wpListIn_step fun K hKl => ?_
    split at h
    · rename_i hw
      rw [wanted_sound ht hw, if_pos rfl]
      split at h
      · rename_i v S1 hv
        refine evOp_sound hT hcall hr ht hv (fun hnp x W' ρ' h1 h2 h3 => hKl _ _ ?_) (fun hp x W' ρ' h1 h2 h3 => ?_)
        · rw [hnp, if_neg (by simp)] at h
          exact evOps_sound hT hcall rest _ S1 ρ' W' _ e t' S' h2 ((ht.step h3).put o.dst h1) h (hQ.ext h3)
        · rw [hp, if_pos rfl] at h
          simp only [Option.some.injEq, Prod.mk.injEq] at h
          obtain ⟨rfl, rfl, rfl⟩ := h
          exact hQ a W' ρ' x t h2 (ht.step h3) h1 h3
      · cases h
    · rename_i hw
      rw [wanted_sound ht hw, if_neg (by simp)]
      exact ⟨fun _ _ => trivial, hKl _ _ (evOps_sound hT hcall rest _ S ρ W _ e t' S' hr (ht.put o.dst (RV.undef _ _ _)) h hQ)⟩
    · cases h

/-- What is told of drawn regions is so. -/
def DrawSound (P : Program) (okR : Nat → Array Oper → Bool) (draw : DrawT) : Prop :=
  ∀ (X : FX) (ops : Array Oper) (t : Tmps) (S : Store) (t' : Tmps) (S' : Store) (ρ : Rho) (W : World) (a : Act) (id : Nat) (Q : Exit → Act → World → Prop), okR id ops = true → draw id ops t S = some (t', S') → Rel W ρ S → TR X W ρ (Mut ρ S) t a →
    (∀ a' W' ρ', Rel W' ρ' S' → TR X W' ρ' (Mut ρ' S') t' a' → Ext S.length ρ S W ρ' S' W' → Q .normal a' W') → (Code.region id ops true).wpIn (FR X.R) 0 P Q a W

/-- A piece of code does what the evaluator tells. -/
def CodeSound (P : Program) (X : FX) (c : Code) (f : Tmps → Store → Option (Ex × Tmps × Store)) : Prop :=
  ∀ (t : Tmps) (S : Store) (e : Ex) (t' : Tmps) (S' : Store) (ρ : Rho) (W : World) (a : Act) (Q : Exit → Act → World → Prop), f t S = some (e, t', S') → Rel W ρ S → TR X W ρ (Mut ρ S) t a → Ends P X S ρ W Q e t' S' → c.wpIn (FR X.R) 0 P Q a W

theorem loop_sound {c : Code} {f : Tmps → Store → Option (Ex × Tmps × Store)} (hc : CodeSound P X c f) : ∀ (k : Nat), CodeSound P X (.loop c) (loopN f k) := by
  intro k t S e t' S' ρ W a Q h hr ht hQ
  refine wpIn_loop_rounds k ?_
  induction k generalizing t S ρ W a with
  | zero => cases h
  | succ k ih =>
    rw [roundsIn_succ]
    simp only [loopN] at h
    cases hf : f t S with
    | none => rw [hf] at h; cases h
    | some r =>
      obtain ⟨e1, t1, S1⟩ := r
      rw [hf] at h
      refine hc t S e1 t1 S1 ρ W a _ hf hr ht ?_
      cases e1 with
      | normal => exact fun a' W' ρ' h1 h2 h3 => ih t1 S1 ρ' W' a' h h1 h2 (hQ.ext h3)
      | exit id => simp only [Option.some.injEq, Prod.mk.injEq] at h; obtain ⟨rfl, rfl, rfl⟩ := h; exact hQ
      | ret => simp only [Option.some.injEq, Prod.mk.injEq] at h; obtain ⟨rfl, rfl, rfl⟩ := h; exact hQ
      | panic v => simp only [Option.some.injEq, Prod.mk.injEq] at h; obtain ⟨rfl, rfl, rfl⟩ := h; exact hQ

/-! ### Loops' records -/
theorem layLoop_sound (hr : Rel W ρ S) {l n f st j : Nat} {ps : List Nat} {t : Tmps} {r : Loop} (h2 : r.params.toList = ps) (h3 : codesOf f ps = some (r.assign, r.body)) (h4 : t.length = r.tmps.size) (h5 : ∀ i, RV W ρ (Mut ρ S) (t.getD i undefA) (r.tmps.getD i undef)) (h6 : stateN r.state = st) (h7 : r.pending = jumpC j)
    (hS : S[l]? = some (.loop f ps t st j)) (hρ : ρ l = none) (hn : n ≤ l) :
    Rel (W.alloc (.loop r)) (ρ.set l (W.heap.size, 0)) S ∧ Ext n ρ S W (ρ.set l (W.heap.size, 0)) S (W.alloc (.loop r)) := by
  have hst := Still.alloc W (.loop r)
  have hset : ∀ k x, (ρ.set l (W.heap.size, 0)) k = some x → (k = l ∧ x = (W.heap.size, 0)) ∨ (k ≠ l ∧ ρ k = some x) := by
    intro k x h
    unfold Rho.set at h
    split at h
    · rename_i hk; exact .inl ⟨hk, by simpa using h.symm⟩
    · rename_i hk; exact .inr ⟨hk, h⟩
  have hext : Ext n ρ S W (ρ.set l (W.heap.size, 0)) S (W.alloc (.loop r)) := by
    refine ⟨rfl, rfl, rfl, hst.size, fun b hb _ => hst.heap b hb, fun k x hk => ?_, ?_, fun b c t fr hc => ⟨c, (hst.heap b (heap_lt hc)).trans hc, rfl⟩, fun k x hk h0 => ?_, Nat.le_refl _⟩
    · have : k ≠ l := by rintro rfl; rw [hρ] at hk; cases hk
      simp [Rho.set, this, hk]
    · rintro b hb ⟨k, base, r, g1, g2, g3⟩
      rcases hset _ _ g3 with ⟨rfl, he⟩ | ⟨_, h⟩
      · simp at he; omega
      · exact ⟨k, base, r, g1, g2, h⟩
    · rcases hset _ _ hk with ⟨rfl, _⟩ | ⟨_, h⟩
      · exact hn
      · rw [h0] at h; cases h
  refine ⟨⟨fun k b base h => ?_, fun k r' b base g1 g2 => ?_, fun k k' r r' b base base' g1 g2 g3 g4 g5 g6 => ?_⟩, hext⟩
  · rcases hset _ _ h with ⟨rfl, he⟩ | ⟨_, h⟩
    · simp at he
      obtain ⟨rfl, rfl⟩ := he
      exact ⟨(List.getElem?_eq_some_iff.1 hS).1, by simp⟩
    · exact ⟨(hr.dom _ _ _ h).1, Nat.lt_of_lt_of_le (hr.dom _ _ _ h).2 hst.size⟩
  · rcases hset _ _ g2 with ⟨rfl, he⟩ | ⟨_, h⟩
    · simp at he
      obtain ⟨rfl, rfl⟩ := he
      rw [hS] at g1
      simp at g1
      subst g1
      exact ⟨rfl, r, alloc_new W _, h2, h3, h4, fun i => (h5 i).step hext, h6, h7⟩
    · exact RowRel.step (hst.heap b (hr.dom _ _ _ h).2) (fun c v => RV.step hext) (hr.rows _ _ _ _ g1 h)
  · rcases hset _ _ g5 with ⟨rfl, he⟩ | ⟨_, h⟩ <;> rcases hset _ _ g6 with ⟨rfl, he'⟩ | ⟨_, h'⟩
    · rfl
    · simp at he
      have := (hr.dom _ _ _ h').2
      omega
    · simp at he'
      have := (hr.dom _ _ _ h).2
      omega
    · exact hr.inj k k' r r' b base base' g1 g2 g3 g4 h h'

/-- A loop's record is written, or forgotten. -/
theorem putLoop_sound (hr : Rel W ρ S) {l b : Nat} {row row' : Row} {r0 r1 : Loop} (hS : S[l]? = some row) (hrow : row.live = true) (hρ : ρ l = some (b, 0)) (hW : W.heap[b]? = some (.loop r0))
    (hn : row' = .dead ∨ ∃ f ps t st j, row' = .loop f ps t st j ∧ r1.params.toList = ps ∧ codesOf f ps = some (r1.assign, r1.body) ∧ t.length = r1.tmps.size ∧ (∀ i, RV W ρ (Mut ρ S) (t.getD i undefA) (r1.tmps.getD i undef)) ∧ stateN r1.state = st ∧ r1.pending = jumpC j) :
    Rel (W.putObj b (.loop r1)) ρ (S.set l row') ∧ ∀ n, Ext n ρ S W ρ (S.set l row') (W.putObj b (.loop r1)) := by
  have hl := (hr.dom l b 0 hρ).1
  have hbl := (hr.dom l b 0 hρ).2
  generalize hW' : W.putObj b (.loop r1) = W'
  have hsame : W'.heap[b]? = some (.loop r1) := by rw [← hW']; exact World.putObj_heap_same hbl
  have hother : ∀ x, x ≠ b → W'.heap[x]? = W.heap[x]? := by intro x hx; rw [← hW']; exact World.putObj_heap_other hx
  have hb : Mut ρ S b := ⟨l, 0, _, hS, hrow, hρ⟩
  have hm : ∀ x, Mut ρ (S.set l row') x → Mut ρ S x := by
    rintro x ⟨k, bs, r, g1, g2, g3⟩
    rw [List.getElem?_set] at g1
    split at g1
    · rename_i hk; subst hk; exact ⟨l, bs, _, hS, hrow, g3⟩
    · exact ⟨k, bs, r, g1, g2, g3⟩
  have hext : ∀ n, Ext n ρ S W ρ (S.set l row') W' := by
    intro n
    refine ⟨by rw [← hW']; rfl, by rw [← hW']; rfl, by rw [← hW']; rfl, by rw [← hW']; simp, fun x hx hM => hother x (fun e => hM (e ▸ hb)), fun _ _ h => h, fun x _ h => hm x h, fun x c t' fr hc => ?_, fun _ _ h h' => (by rw [h'] at h; cases h), by simp⟩
    by_cases hx : x = b
    · subst hx
      rw [hW] at hc
      cases hc
    · exact ⟨c, (hother x hx).trans hc, rfl⟩
  refine ⟨⟨fun k x bs hk => ?_, fun k r x bs g1 g2 => ?_, fun k k' r r' x bs bs' g1 g2 g3 g4 g5 g6 => ?_⟩, hext⟩
  · have := hr.dom k x bs hk
    exact ⟨by simpa using this.1, Nat.lt_of_lt_of_le this.2 (hext 0).size⟩
  · rw [List.getElem?_set] at g1
    split at g1
    · rename_i hk
      subst hk
      simp [hl] at g1
      subst g1
      rw [hρ] at g2
      simp at g2
      obtain ⟨rfl, rfl⟩ := g2
      rcases hn with rfl | ⟨f, ps, t, st, j, rfl, q1, q2, q3, q4, q5, q6⟩
      · trivial
      · exact ⟨rfl, r1, hsame, q1, q2, q3, fun i => (q4 i).step (hext 0), q5, q6⟩
    · rename_i hk
      cases hd : r.live with
      | false => cases r <;> simp [Row.live] at hd; trivial
      | true =>
        have hx : x ≠ b := fun e => hk (hr.inj l k _ r b 0 bs hS g1 hrow hd hρ (e ▸ g2))
        exact RowRel.step (hother x hx) (fun c v => RV.step (hext 0)) (hr.rows k r x bs g1 g2)
  · have hlv : ∀ (k : Nat) (r : Row), (S.set l row')[k]? = some r → r.live = true → ∃ r0 : Row, S[k]? = some r0 ∧ r0.live = true := by
      intro k r g h
      rw [List.getElem?_set] at g
      split at g
      · rename_i hk; subst hk; exact ⟨_, hS, hrow⟩
      · exact ⟨r, g, h⟩
    obtain ⟨r0, e1, e2⟩ := hlv k r g1 g3
    obtain ⟨r0', e1', e2'⟩ := hlv k' r' g2 g4
    exact hr.inj k k' r0 r0' x bs bs' e1 e1' e2 e2' g5 g6

theorem jumpC_code {j : Nat} : jumpC j = (match jumpOf j with
    | .normal => none
    | .ret => some .ret
    | .exit id => some (.exit id)
    | .panic _ => none) := by
  match j with
  | 0 => rfl
  | 1 => rfl
  | n + 2 => rfl

theorem jumpOf_panic {j : Nat} {v : AV} : jumpOf j ≠ .panic v := by
  match j with
  | 0 => simp [jumpOf]
  | 1 => simp [jumpOf]
  | n + 2 => simp [jumpOf]

theorem map_mark : ∀ {a b : List Nat}, a.map mark = b.map mark → a = b
  | [], [], _ => rfl
  | [], _ :: _, h => by simp at h
  | _ :: _, [], h => by simp at h
  | x :: a, y :: b, h => by
    simp only [List.map_cons, List.cons.injEq] at h
    rw [map_mark h.2]
    have := h.1
    simp [mark] at this
    rw [this]

/-- A range over a function. -/
theorem rangeFunc_sound (hT : TabOK P T) {call : CallT} (hcall : CallsSound P call) {draw : DrawT} (hL : draw.rnd = X.L) {g : Operand} {ps : Array Tmp} {assign body : Code} (hcode : codesOf draw.fid ps.toList = some (assign, body)) :
    CodeSound P X (.rangeFunc g ps assign body) (rangeFuncA T call draw g ps) := by
  intro t S e t' S' ρ W a Q h hr ht hQ
  unfold rangeFuncA at h
  split at h
  case h_2 => cases h
  rename_i f first caps hg
  split at h
  case isFalse => cases h
  rename_i hent
  rw [Bool.and_eq_true] at hent
  obtain ⟨hent, hround⟩ := hent
  split at h
  case h_2 => cases h
  rename_i v S1 hc
  split at h
  · cases h
  rename_i hnp
  unfold afterA at h
  split at h
  case h_2 => cases h
  rename_i f' ps' t1 st j hrow
  split at h
  · cases h
  rename_i hst
  simp only [Option.some.injEq, Prod.mk.injEq] at h
  obtain ⟨rfl, rfl, rfl⟩ := h
  have hgv := ht.opd g
  rw [hg] at hgv
  generalize hv : a.eval g = fv at hgv
  cases hgv with
  | @func _ _ _ vf vc hf hcp h1 h2 =>
  refine wpIn_rangeFunc fun fn _ => ?_
  -- the record is laid
  have henter : ∃ (D : Nat) (mk : List Nat) (W1 : World), (Instr.enterLoop fn a.tmps ps assign body (FR X.R).round).run P W = .ok (W1.heap.size, mk.map mark) (W1.alloc (.loop { state := .ready, pending := none, fn := fn, tmps := a.tmps, params := ps, assign := assign, body := body, defers := D })) ∧
      Still W W1 ∧ TR X W1 ρ (Mut ρ S) t { a with defers := mk.map mark ++ a.defers } := by
    have hrnd := ht.rnd
    cases hLX : X.L with
    | none =>
      rw [hLX] at hrnd
      refine ⟨W.heap.size, [W.heap.size], W.alloc (.deferred (some [])), ?_, Still.alloc W _, ?_⟩
      · have : (FR X.R).round = none := hrnd
        rw [this, run_enterLoop_outer]
        simp [mark, World.size_alloc]
      · have hta := (Still.alloc W (.deferred (some []))).tr ht
        refine ⟨hta.len, hta.val, ?_, hta.begun, hta.rnd⟩
        obtain ⟨rs, q1, q2, q3⟩ := hta.defers
        obtain ⟨rs', q1', q2', q3'⟩ := ht.defers
        have hrs : rs' = rs := by
          have := q1'.symm.trans q1
          have := List.append_cancel_right this
          exact map_mark this
        subst hrs
        refine ⟨W.heap.size :: rs', by simp [q1'], List.nodup_cons.2 ⟨fun hm => ?_, q2⟩, fun r hr' => ?_⟩
        · have := heap_lt (q3' _ hm).2.2
          omega
        · rcases List.mem_cons.1 hr' with rfl | hm
          · refine ⟨ht.begun, fun hm => ?_, alloc_new W _⟩
            have := mut_lt hr hm
            omega
          · exact q3 r hm
    | some l0 =>
      rw [hLX] at hrnd
      obtain ⟨b0, hb0, hρ0⟩ := hrnd
      have hrk : roundOK S (some l0) = true := by rw [← hLX, ← hL]; exact hround
      unfold roundOK at hrk
      dsimp only at hrk
      split at hrk
      case h_2 => cases hrk
      rename_i fa pa ta sa ja hrow0
      obtain ⟨_, r0, hr0, _⟩ := hr.rows _ _ _ _ hrow0 hρ0
      refine ⟨r0.defers, [], W, ?_, Still.refl W, by simpa using ht⟩
      have : (FR X.R).round = some b0 := hb0
      rw [this]
      unfold Instr.enterLoop
      simp [Sem.run_bind, run_getLoop hr0, Result.andThen, Sem.run_pure, run_newObj_alloc]
  obtain ⟨D, mk, W1, he, hst1, ht1⟩ := henter
  have hr1 := hst1.rel hr
  have hmore := hr1.more (S' := S ++ [.loop draw.fid ps.toList t 0 0]) (fun l hl => by rw [List.getElem?_append_left hl]) (by simp)
  have ht2 := ht1.step (hmore.2 0)
  obtain ⟨hr2, hx2⟩ := layLoop_sound (n := S.length) hmore.1 (l := S.length) (r := { state := .ready, pending := none, fn := fn, tmps := a.tmps, params := ps, assign := assign, body := body, defers := D }) (st := 0) (j := 0) (f := draw.fid) (ps := ps.toList) (t := t) rfl hcode ht2.len ht2.val rfl rfl (by simp) (rho_none hr1 (Nat.le_refl _)) (Nat.le_refl _)
  have hx1 : Ext S.length ρ S W (ρ.set S.length (W1.heap.size, 0)) (S ++ [.loop draw.fid ps.toList t 0 0]) (W1.alloc (.loop { state := .ready, pending := none, fn := fn, tmps := a.tmps, params := ps, assign := assign, body := body, defers := D })) := ((hst1.ext S.length ρ S).trans (hmore.2 _)).trans hx2
  have ht3 := ht2.step hx2
  have hρl : (ρ.set S.length (W1.heap.size, 0)) S.length = some (W1.heap.size, 0) := by simp [Rho.set]
  have hyv : RV (W1.alloc (.loop { state := .ready, pending := none, fn := fn, tmps := a.tmps, params := ps, assign := assign, body := body, defers := D })) (ρ.set S.length (W1.heap.size, 0)) (Mut (ρ.set S.length (W1.heap.size, 0)) (S ++ [.loop draw.fid ps.toList t 0 0])) (.yield S.length) (.func (.yield W1.heap.size) #[] #[]) := RV.yield hρl
  have hargs := RVs.append (RVs.append (RVs.step hx1 ⟨hf, h1⟩) (RVs.cons hyv (RVs.nil _ _ _))) (RVs.step hx1 ⟨hcp, h2⟩)
  have hcs := hcall.1 f _ _ _ _ _ _ _ hc hr2 hargs
  have hea : (vf ++ [Value.func (.yield W1.heap.size) #[] #[]] ++ vc).toArray = vf.toArray ++ #[Value.func (.yield W1.heap.size) #[] #[]] ++ vc.toArray := by
    apply Array.toList_inj.1
    simp
  rw [hea] at hcs
  refine ⟨W1.heap.size, mk.map mark, _, { target := .fn (.func f) vc.toArray, args := vf.toArray ++ #[Value.func (.yield W1.heap.size) #[] #[]] }, _, f, _, _, he, ?_, fun _ _ => trivial, hT.ent f hent _ _, fun h => by simp [Fence.wide] at h, callsIn_FR.2 (hcs.mono ?_)⟩
  · simp only [resolve, rangeCall, hv, Deferred.ofValue, Sem.run_pure]
    simp [Act.eval]
  · rintro e3 W3 ⟨y, ρ3, rfl, g1, g2, g3⟩
    have e1 : endOf v y = .returned y := by cases v <;> first | rfl | (simp [AV.isPanic] at hnp)
    rw [e1]
    have hρ3 := g3.agree _ _ hρl
    obtain ⟨_, r3, q1, q2, q3, q4, q5, q6, q7⟩ := g2.rows _ _ _ _ hrow hρ3
    have hnb : r3.state ≠ .busy := fun hb => hst (by rw [← q6, hb]; rfl)
    refine ⟨jumpC j, _, by rw [← q7]; exact run_endLoop q1 hnb, ?_⟩
    obtain ⟨k1, k2⟩ := putLoop_sound (row' := .dead) (r1 := { r3 with state := .exhausted }) g2 hrow rfl hρ3 q1 (.inl rfl)
    have hx4 : Ext S.length ρ S W ρ3 (S1.set S.length .dead) (W3.putObj W1.heap.size (.loop { r3 with state := .exhausted })) := (hx1.trans (g3.weaken (by simp))).trans (k2 _)
    have ht4 := (ht3.step g3).step (k2 0)
    have hQ' := hQ
    rw [jumpC_code]
    cases hj : jumpOf j with
    | normal => rw [hj] at hQ; exact hQ _ _ _ k1 ht4 hx4
    | ret => rw [hj] at hQ; exact wpIn_ret (hQ _ _ _ k1 ht4 hx4)
    | exit id => rw [hj] at hQ; exact wpIn_exit (hQ _ _ _ k1 ht4 hx4)
    | panic v => exact absurd hj jumpOf_panic

theorem evCode_sound (hT : TabOK P T) {call : CallT} (hcall : CallsSound P call) {okR : Nat → Array Oper → Bool} {draw : DrawT} (hd : DrawSound P okR draw) (hL : draw.rnd = X.L) (k : Nat) (c : Code) (hok : codeOK okR c = true) (hrf : ∀ x ∈ rfs c, codesOf draw.fid x.1 = some x.2) : CodeSound P X c (evCode T call draw k c) := by
  induction c with
  | skip =>
    intro t S e t' S' ρ W a Q h hr ht hQ
    simp only [evCode, Option.some.injEq, Prod.mk.injEq] at h
    obtain ⟨rfl, rfl, rfl⟩ := h
    exact wpIn_skip (hQ a W ρ hr ht (Ext.refl _ _ _ _))
  | region id ops dr =>
    intro t S e t' S' ρ W a Q h hr ht hQ
    cases dr with
    | false =>
      simp only [evCode] at h
      exact wpIn_region_list (evOps_sound hT hcall ops.toList t S ρ W a _ _ _ hr ht h hQ)
    | true =>
      simp only [evCode] at h
      obtain ⟨r, h1, h2⟩ := Option.map_eq_some_iff.1 h
      simp only [Prod.mk.injEq] at h2
      obtain ⟨rfl, rfl, rfl⟩ := h2
      exact hd X ops t S _ _ ρ W a id Q hok h1 hr ht hQ
  | seq x y ihx ihy =>
    simp only [codeOK, Bool.and_eq_true] at hok
    replace ihx := ihx hok.1 (fun z hz => hrf z (by simp only [rfs]; exact List.mem_append_left _ hz))
    replace ihy := ihy hok.2 (fun z hz => hrf z (by simp only [rfs]; exact List.mem_append_right _ hz))
    intro t S e t' S' ρ W a Q h hr ht hQ
    simp only [evCode] at h
    cases hf : evCode T call draw k x t S with
    | none => rw [hf] at h; cases h
    | some r =>
      obtain ⟨e1, t1, S1⟩ := r
      rw [hf] at h
      refine wpIn_seq (ihx t S e1 t1 S1 ρ W a _ hf hr ht ?_)
      cases e1 with
      | normal => exact fun a' W' ρ' h1 h2 h3 => ihy t1 S1 e t' S' ρ' W' a' Q h h1 h2 (hQ.ext h3)
      | exit id => simp only [Option.some.injEq, Prod.mk.injEq] at h; obtain ⟨rfl, rfl, rfl⟩ := h; exact hQ
      | ret => simp only [Option.some.injEq, Prod.mk.injEq] at h; obtain ⟨rfl, rfl, rfl⟩ := h; exact hQ
      | panic v => simp only [Option.some.injEq, Prod.mk.injEq] at h; obtain ⟨rfl, rfl, rfl⟩ := h; exact hQ
  | cond x c1 c2 ih1 ih2 =>
    simp only [codeOK, Bool.and_eq_true] at hok
    replace ih1 := ih1 hok.1 (fun z hz => hrf z (by simp only [rfs]; exact List.mem_append_left _ hz))
    replace ih2 := ih2 hok.2 (fun z hz => hrf z (by simp only [rfs]; exact List.mem_append_right _ hz))
    intro t S e t' S' ρ W a Q h hr ht hQ
    simp only [evCode] at h
    have hx := ht.opd x
    split at h
    · rename_i hxo
      rw [hxo] at hx
      generalize hv : a.eval x = v at hx
      cases hx
      exact wpIn_cond_true hv (ih1 t S e t' S' ρ W a Q h hr ht hQ)
    · rename_i hxo
      rw [hxo] at hx
      generalize hv : a.eval x = v at hx
      cases hx
      exact wpIn_cond_false hv (ih2 t S e t' S' ρ W a Q h hr ht hQ)
    · cases h
  | block id c ih =>
    replace ih := ih hok hrf
    intro t S e t' S' ρ W a Q h hr ht hQ
    simp only [evCode] at h
    cases hf : evCode T call draw k c t S with
    | none => rw [hf] at h; cases h
    | some r =>
      obtain ⟨e1, t1, S1⟩ := r
      rw [hf] at h
      refine wpIn_block (ih t S e1 t1 S1 ρ W a _ hf hr ht ?_)
      cases e1 with
      | normal => simp only [Option.some.injEq, Prod.mk.injEq] at h; obtain ⟨rfl, rfl, rfl⟩ := h; exact hQ
      | exit id' =>
        intro a' W' ρ' h1 h2 h3
        simp only [Exit.inBlock]
        dsimp only at h
        split at h
        · rename_i he
          simp only [Option.some.injEq, Prod.mk.injEq] at h
          obtain ⟨rfl, rfl, rfl⟩ := h
          rw [if_pos he]
          exact hQ a' W' ρ' h1 h2 h3
        · rename_i he
          simp only [Option.some.injEq, Prod.mk.injEq] at h
          obtain ⟨rfl, rfl, rfl⟩ := h
          rw [if_neg he]
          exact hQ a' W' ρ' h1 h2 h3
      | ret => simp only [Option.some.injEq, Prod.mk.injEq] at h; obtain ⟨rfl, rfl, rfl⟩ := h; exact hQ
      | panic v => simp only [Option.some.injEq, Prod.mk.injEq] at h; obtain ⟨rfl, rfl, rfl⟩ := h; exact hQ
  | loop c ih => exact loop_sound (ih hok hrf) k
  | rangeFunc g ps x y ihx ihy => exact rangeFunc_sound hT hcall hL (hrf (ps.toList, x, y) (by simp [rfs]))
  | exit id =>
    intro t S e t' S' ρ W a Q h hr ht hQ
    simp only [evCode, Option.some.injEq, Prod.mk.injEq] at h
    obtain ⟨rfl, rfl, rfl⟩ := h
    exact wpIn_exit (hQ a W ρ hr ht (Ext.refl _ _ _ _))
  | ret =>
    intro t S e t' S' ρ W a Q h hr ht hQ
    simp only [evCode, Option.some.injEq, Prod.mk.injEq] at h
    obtain ⟨rfl, rfl, rfl⟩ := h
    exact wpIn_ret (hQ a W ρ hr ht (Ext.refl _ _ _ _))
  | _ =>
    intro t S e t' S' ρ W a Q h hr ht hQ
    simp [evCode] at h

/-! ### Functions -/
def resSem (tm : Array Value) : ResultVar → Sem Value
  | .tmp t => pure (tm.getD t undef)
  | .cell ad t => do loadVar t (← asAddr (tm.getD ad undef))

theorem results_sound (hT : TabOK P T) (hr : Rel W ρ S) {t : Tmps} {a : Act} (ht : TR X W ρ (Mut ρ S) t a) : ∀ (rs : List ResultVar) (cs : List AV), resultsA T S t rs = some cs →
    ∃ vs, (rs.mapM (resSem a.tmps)).run P W = .ok vs W ∧ RVs W ρ (Mut ρ S) cs vs
  | [], cs, h => by
    simp only [resultsA, Option.some.injEq] at h
    subst h
    exact ⟨[], rfl, RVs.nil _ _ _⟩
  | r :: rs, cs, h => by
    simp only [resultsA] at h
    split at h
    · rename_i v vs h1 h2
      simp only [Option.some.injEq] at h
      subst h
      obtain ⟨us, g1, g2⟩ := results_sound hT hr ht rs vs h2
      have hone : ∃ x, (resSem a.tmps r).run P W = .ok x W ∧ RV W ρ (Mut ρ S) v x := by
        cases r with
        | tmp i =>
          simp only [resultA, Option.some.injEq] at h1
          subst h1
          exact ⟨_, rfl, ht.val i⟩
        | cell ad ty =>
          simp only [resultA] at h1
          obtain ⟨x, hx1, hx2⟩ := loadA_sound hT hr (ht.val ad) h1
          refine ⟨x, ?_, hx2⟩
          simp only [resSem, Sem.run_bind]
          generalize a.tmps.getD ad undef = v at hx1
          cases v with
          | pointer p =>
            cases p with
            | none => simp [Instr.loadAt, Instr.sureAddr] at hx1
            | some p => simpa [Instr.loadAt, Instr.sureAddr, asAddr] using hx1
          | _ => simp [Instr.loadAt, Instr.sureAddr] at hx1
      obtain ⟨x, hx1, hx2⟩ := hone
      refine ⟨x :: us, ?_, RVs.cons hx2 g2⟩
      simp only [List.mapM_cons, Sem.run_bind, hx1, Result.andThen_ok, g1, Sem.run_pure]
    · cases h

/-- A mark is come to: what it names is shut. -/
theorem take_sound (hr : Rel W ρ S) {r : Nat} {ds : List Deferred} {o : Option (List Deferred)} (hM : ¬ Mut ρ S r) (hW : W.heap[r]? = some (.deferred (some ds))) :
    Rel (W.putObj r (.deferred o)) ρ S ∧ ∀ c v, RV W ρ (Mut ρ S) c v → RV (W.putObj r (.deferred o)) ρ (Mut ρ S) c v := by
  have hlt := heap_lt hW
  have hother : ∀ x, x ≠ r → (W.putObj r (.deferred o)).heap[x]? = W.heap[x]? := fun x hx => World.putObj_heap_other hx
  have hrv : ∀ c v, RV W ρ (Mut ρ S) c v → RV (W.putObj r (.deferred o)) ρ (Mut ρ S) c v := by
    intro c v h
    refine RV.cellsKept (fun _ _ h => h) (by simp) (fun {b o' v'} _ hc => ?_) (fun _ _ h => h) (fun b c t fr hc => ?_) h
    · have hb : b ≠ r := by
        rintro rfl
        simp [World.cell?, hW] at hc
      rw [← hc]
      exact World.cell?_of_block (hother b hb)
    · have hb : b ≠ r := by
        rintro rfl
        rw [hW] at hc
        cases hc
      exact ⟨c, (hother b hb).trans hc, rfl⟩
  refine ⟨⟨fun l b base h => ⟨(hr.dom l b base h).1, by simpa using (hr.dom l b base h).2⟩, fun l row b base h1 h2 => ?_, hr.inj⟩, hrv⟩
  cases hd : row.live with
  | false => cases row <;> simp [Row.live] at hd; trivial
  | true =>
    have hb : b ≠ r := fun e => hM (e ▸ ⟨l, base, row, h1, hd, h2⟩)
    exact RowRel.step (hother b hb) hrv (hr.rows l row b base h1 h2)

/-- A frame goes: the marks first. -/
theorem leaves_marks {fn : Func} {tmps : Array Value} {R : Ending → World → Prop} {n : Nat} {u : FrameMode} (hu : u ≠ .run) : ∀ (rs : List Nat) (W : World) (ρ : Rho) (S : Store), rs.Nodup → (∀ r ∈ rs, ¬ Mut ρ S r ∧ W.heap[r]? = some (.deferred (some []))) → Rel W ρ S →
    (∀ W', Rel W' ρ S → (∀ c v, RV W ρ (Mut ρ S) c v → RV W' ρ (Mut ρ S) c v) → (∀ b, b ∉ rs → W'.heap[b]? = W.heap[b]?) → W'.os = W.os ∧ W'.tape = W.tape ∧ W'.output = W.output ∧ W'.heap.size = W.heap.size → LeavesIn (FR none) n P fn tmps R [] u W') →
    LeavesInM (FR none) n P fn tmps R (rs.map mark) u W
  | [], W, ρ, S, _, _, hr, h => h W hr (fun _ _ h => h) (fun _ _ => rfl) ⟨rfl, rfl, rfl, rfl⟩
  | r :: rs, W, ρ, S, hnd, hm, hr, h => by
    obtain ⟨hM, hW⟩ := hm r List.mem_cons_self
    obtain ⟨h1, h2⟩ := take_sound (o := none) hr hM hW
    have hnd' := List.nodup_cons.1 hnd
    refine ⟨hu, .inl ⟨r, _, rfl, run_takeDeferred hW, leaves_marks hu rs _ ρ S hnd'.2 (fun x hx => ?_) h1 (fun W' g1 g2 g3 g4 => ?_)⟩⟩
    · obtain ⟨q1, q2⟩ := hm x (List.mem_cons_of_mem _ hx)
      exact ⟨q1, (World.putObj_heap_other (fun e => hnd'.1 (by rw [← e]; exact hx))).trans q2⟩
    · refine h W' g1 (fun c v hv => g2 c v (h2 c v hv)) (fun b hb => ?_) ⟨g4.1.trans rfl, g4.2.1.trans rfl, g4.2.2.1.trans rfl, g4.2.2.2.trans (by simp)⟩
      simp only [List.mem_cons, not_or] at hb
      exact (g3 b hb.2).trans (World.putObj_heap_other hb.1)

/-- How a function's body leaves it. -/
theorem fun_leaves {f : Nat} {fn : Func} {v : AV} {S S' S1 : Store} {ρ ρ' : Rho} {W W' : World} {t : Tmps} {a' : Act} {u : FrameMode} (hu : u ≠ .run) (hX : X.D = []) (hB : X.B = W.heap.size) (g1 : Rel W' ρ' S1) (g2 : TR X W' ρ' (Mut ρ' S1) t a') (g3 : Ext S.length ρ S W ρ' S1 W')
    (h : ∀ W2, Rel W2 ρ' S1 → (∀ c v, RV W' ρ' (Mut ρ' S1) c v → RV W2 ρ' (Mut ρ' S1) c v) → Ext S.length ρ S W ρ' S1 W2 → LeavesIn (FR none) 0 P fn a'.tmps (Behind v S S' ρ W) [] u W2) :
    LeavesInM (FR none) 0 P fn a'.tmps (Behind v S S' ρ W) a'.defers u W' := by
  obtain ⟨rs, q1, q2, q3⟩ := g2.defers
  rw [q1, hX, List.append_nil]
  refine leaves_marks hu rs W' ρ' S1 q2 (fun r hr => (q3 r hr).2) g1 (fun W2 k1 k2 k3 k4 => h W2 k1 k2 ?_)
  have hnr : ∀ b, b < W.heap.size → b ∉ rs := fun b hb hm => by have := (q3 b hm).1; omega
  refine ⟨k4.1.trans g3.os, k4.2.1.trans g3.tape, k4.2.2.1.trans g3.output, by rw [k4.2.2.2]; exact g3.size, fun b hb hM => (k3 b (hnr b hb)).trans (g3.frame b hb hM), g3.agree, g3.muts, fun b c ty fr hc => ?_, g3.fresh, g3.slen⟩
  obtain ⟨c', e1, e2⟩ := g3.shape b c ty fr hc
  exact ⟨c', (k3 b (hnr b (heap_lt hc))).trans e1, e2⟩

theorem args_tr {args : List AV} {vs : List Value} {n : Nat} (hv : RVs W ρ (Mut ρ S) args vs) :
    TR ⟨W.heap.size, [], none, none⟩ W ρ (Mut ρ S) (args ++ List.replicate (n - args.length) undefA) { tmps := vs.toArray ++ Array.replicate (n - vs.toArray.size) undef, defers := [] } := by
  have hlen : vs.toArray.size = args.length := by rw [List.size_toArray, hv.1]
  refine ⟨by simp [hv.1], fun i => ?_, ⟨[], rfl, List.nodup_nil, fun r h => by simp at h⟩, Nat.le_refl _, rfl⟩
  have hrep : ∀ n, RVs W ρ (Mut ρ S) (List.replicate n undefA) (List.replicate n undef) := by
    intro n
    induction n with
    | zero => exact RVs.nil W ρ _
    | succ n ih => exact RVs.cons (RV.undef _ _ _) ih
  have hall := RVs.append hv (hrep (n - args.length))
  have he : (vs.toArray ++ Array.replicate (n - vs.toArray.size) undef) = (vs ++ List.replicate (n - args.length) undef).toArray := by
    rw [hlen]
    apply Array.toList_inj.1
    simp
  rw [he]
  simp only [List.getD_eq_getElem?_getD, Array.getD_eq_getD_getElem?, List.getElem?_toArray]
  generalize args ++ List.replicate (n - args.length) undefA = as1 at hall
  generalize vs ++ List.replicate (n - args.length) undef = vs1 at hall
  by_cases hi : i < as1.length
  · have hi' : i < vs1.length := by rw [← hall.1]; exact hi
    rw [List.getElem?_eq_getElem hi, List.getElem?_eq_getElem hi']
    exact hall.2 i _ _ (List.getElem?_eq_getElem hi) (List.getElem?_eq_getElem hi')
  · have hi' : ¬ i < vs1.length := by rw [← hall.1]; exact hi
    rw [List.getElem?_eq_none (by omega), List.getElem?_eq_none (by omega)]
    exact RV.undef _ _ _

/-- What a function tells is never a panic. -/
theorem oneA_panic {vs : List AV} {us : List Value} (h : RVs W ρ (Mut ρ S) vs us) : (oneA vs).isPanic = false := by
  match vs, us, h with
  | [], _, _ => rfl
  | [c], [], h => simp [RVs] at h
  | [c], u :: us, h =>
    have := h.2 0 c u rfl rfl
    cases this <;> rfl
  | c1 :: c2 :: cs, _, _ => rfl

theorem rv_panic {M : Nat → Prop} {c : AV} {x : Value} (h : RV W ρ M c x) : c.isPanic = false := by cases h <;> rfl

theorem endOf_plain {v : AV} {x : Value} (h : v.isPanic = false) : endOf v x = .returned x := by cases v <;> first | rfl | (simp [AV.isPanic] at h)
theorem unpanic_plain {v : AV} (h : v.isPanic = false) : unpanic v = v := by cases v <;> first | rfl | (simp [AV.isPanic] at h)

theorem evFun_sound (hT : TabOK P T) {call : CallT} (hcall : CallsSound P call) {okR : Nat → Array Oper → Bool} {draw : DrawT} (hd : DrawSound P okR draw) (hL : draw.rnd = none) (k f : Nat) (fn : Func) (hf : P.funcs[f]? = some fn) (hok : (fn.body.map (codeOK okR)).getD true = true)
    (hrf : ∀ c, fn.body = some c → ∀ x ∈ rfs c, codesOf draw.fid x.1 = some x.2) : CallSound P f (evFun T call draw k fn) := by
  intro args S v S' ρ W vs h hr hv
  unfold evFun at h
  split at h
  · cases h
  rename_i c hb
  rw [hb] at hok
  replace hok : codeOK okR c = true := hok
  rw [← callsIn_FR (R := none) (n := 0)]
  refine callsIn_of_wp_marks hf hb trivial ?_
  have ht := args_tr (n := fn.ntmps) hv
  have fin : ∀ (t : Tmps) (S1 : Store) (a' : Act) (W' : World) (ρ' : Rho), (resultsA T S1 t fn.results.toList).map (fun vs => (oneA vs, S1)) = some (v, S') → Rel W' ρ' S1 → TR ⟨W.heap.size, [], none, none⟩ W' ρ' (Mut ρ' S1) t a' → Ext S.length ρ S W ρ' S1 W' →
      LeavesInM (FR none) 0 P fn a'.tmps (Behind v S S' ρ W) a'.defers .returning W' := by
    intro t S1 a' W' ρ' hres g1 g2 g3
    obtain ⟨cs, hcs, he⟩ := Option.map_eq_some_iff.1 hres
    simp only [Prod.mk.injEq] at he
    obtain ⟨rfl, rfl⟩ := he
    refine fun_leaves (f := f) (by simp) rfl rfl g1 g2 g3 (fun W2 k1 k2 k3 => ?_)
    have g2' : TR ⟨W2.heap.size, [], none, none⟩ W2 ρ' (Mut ρ' S1) t { a' with defers := [] } := ⟨g2.len, fun i => k2 _ _ (g2.val i), ⟨[], rfl, List.nodup_nil, fun r h => by simp at h⟩, Nat.le_refl _, rfl⟩
    obtain ⟨us, hrun, hus⟩ := results_sound hT k1 g2' _ cs hcs
    have hrun' : (results fn a'.tmps).run P W2 = .ok (if h : us.toArray.size = 1 then us.toArray[0] else .tuple us.toArray) W2 := by
      have hres' : results fn a'.tmps = (fn.results.mapM (resSem a'.tmps) >>= fun vs => pure (if h : vs.size = 1 then vs[0] else Value.tuple vs)) := by
        unfold results
        refine congrArg (fun g => (fn.results.mapM g >>= fun vs => (pure (if h : vs.size = 1 then vs[0] else Value.tuple vs) : Sem Value))) ?_
        funext r
        cases r <;> rfl
      rw [hres', Sem.run_bind, Array.mapM_eq_mapM_toList, Sem.run_map, hrun]
      rfl
    have hnp := oneA_panic hus
    refine ⟨_, hrun', _, ρ', (endOf_plain hnp).symm, ?_, k1, k3⟩
    rw [unpanic_plain hnp]
    match cs, us, hus with
    | [], [], h => simpa [oneA] using RV.tuple h.1 h.2
    | [c], [u], h => simpa [oneA] using h.2 0 c u rfl rfl
    | c1 :: c2 :: cs, u1 :: u2 :: us, h => simpa [oneA] using RV.tuple h.1 h.2
    | [], _ :: _, h => simp [RVs] at h
    | [_], [], h => simp [RVs] at h
    | [_], _ :: _ :: _, h => simp [RVs] at h
    | _ :: _ :: _, [], h => simp [RVs] at h
    | _ :: _ :: _, [_], h => simp [RVs] at h
  split at h
  · rename_i t1 S1 hev
    exact evCode_sound (X := ⟨W.heap.size, [], none, none⟩) hT hcall hd hL k c hok (hrf c hb) _ S _ t1 S1 ρ W _ _ hev hr ht (fun a' W' ρ' g1 g2 g3 => fin t1 S1 a' W' ρ' h g1 g2 g3)
  · rename_i t1 S1 hev
    exact evCode_sound (X := ⟨W.heap.size, [], none, none⟩) hT hcall hd hL k c hok (hrf c hb) _ S _ t1 S1 ρ W _ _ hev hr ht (fun a' W' ρ' g1 g2 g3 => fin t1 S1 a' W' ρ' h g1 g2 g3)
  · rename_i p t1 S1 hev
    simp only [Option.some.injEq, Prod.mk.injEq] at h
    obtain ⟨rfl, rfl⟩ := h
    refine evCode_sound (X := ⟨W.heap.size, [], none, none⟩) hT hcall hd hL k c hok (hrf c hb) _ S _ t1 S1 ρ W _ _ hev hr ht (fun a' W' ρ' x t' g1 g2 g3 g4 => ?_)
    exact fun_leaves (f := f) (by simp) rfl rfl g1 g2 g4 (fun W2 k1 k2 k3 => ⟨x, ρ', rfl, k2 _ _ g3, k1, k3⟩)
  · cases h

/-! ### Rounds -/
theorem setAll_sound {M : Nat → Prop} : ∀ (ps : List Nat) (args : List AV) (vs : List Value) (t : Tmps) (tm : Array Value), RVs W ρ M args vs → t.length = tm.size → (∀ i, RV W ρ M (t.getD i undefA) (tm.getD i undef)) →
    (setAll t ps args).length = ((ps.zip vs).foldl (fun tmps (p : Nat × Value) => tmps.setIfInBounds p.1 p.2) tm).size ∧ ∀ i, RV W ρ M ((setAll t ps args).getD i undefA) (((ps.zip vs).foldl (fun tmps (p : Nat × Value) => tmps.setIfInBounds p.1 p.2) tm).getD i undef)
  | [], args, vs, t, tm, _, hl, hv => by cases args <;> exact ⟨hl, hv⟩
  | p :: ps, [], vs, t, tm, ha, hl, hv => by
    obtain rfl : vs = [] := List.eq_nil_of_length_eq_zero ha.1.symm
    exact ⟨hl, hv⟩
  | p :: ps, a :: args, vs, t, tm, ha, hl, hv => by
    obtain ⟨v, vs', rfl, h1, h2⟩ := ha.uncons
    simp only [setAll, List.zip_cons_cons, List.foldl_cons]
    refine setAll_sound ps args vs' _ _ h2 (by simp [hl]) (fun i => ?_)
    have hi := hv i
    simp only [List.getD_eq_getElem?_getD, Array.getD_eq_getD_getElem?, List.getElem?_set, Array.getElem?_setIfInBounds] at hi ⊢
    by_cases e : p = i
    · subst e
      by_cases hd : p < t.length
      · simp [hd, ← hl]; exact h1
      · simp [hd, ← hl]; exact RV.undef W ρ M
    · simp [e]; simpa using hi

theorem yield_sound {ev : Nat → Nat → Code → Tmps → Store → Option (Ex × Tmps × Store)} (code : Nat → List Nat → Option (Code × Code)) (hcode : ∀ f ps x, code f ps = some x → codesOf f ps = some x)
    (hev : ∀ (l f : Nat) (ps : List Nat) (a c : Code) (X : FX), code f ps = some (a, c) → X.L = some l → CodeSound P X a (ev l f a) ∧ CodeSound P X c (ev l f c)) : YieldSound P (fun l => yieldA code (ev l) l) := by
  intro l args S v S' ρ W vs b h hρ hr hv
  replace h : yieldA code (ev l) l args S = some (v, S') := h
  unfold yieldA at h
  split at h
  case h_2 => cases h
  rename_i f ps t st j hrow
  split at h
  case h_2 => cases h
  rename_i a c hc
  split at h
  case isFalse => cases h
  rename_i hlen
  split at h
  case h_2 => cases h
  rename_i t1 S1 he1
  split at h
  case h_2 => cases h
  rename_i S2 hbg
  split at h
  case h_2 => cases h
  rename_i e t3 S3 he2
  obtain ⟨_, r, q1, q2, q3, q4, q5, q6, q7⟩ := hr.rows _ _ _ _ hrow hρ
  have hcd := hcode _ _ _ hc
  rw [q3] at hcd
  simp only [Option.some.injEq, Prod.mk.injEq] at hcd
  obtain ⟨hra, hrc⟩ := hcd
  have hsz : vs.toArray.size = r.params.size := by rw [List.size_toArray, ← hv.1, hlen, ← q2, Array.length_toList]
  have htm := setAll_sound ps args vs t r.tmps hv q4 q5
  have hfold : (r.params.zip vs.toArray).foldl (fun tmps (t, a) => tmps.setIfInBounds t a) r.tmps = (ps.zip vs).foldl (fun tmps (p : Nat × Value) => tmps.setIfInBounds p.1 p.2) r.tmps := by
    rw [← q2, ← Array.foldl_toList, Array.toList_zip]
  have hnp : v.isPanic = false := by
    unfold endA at h
    split at h
    · simp only [Option.some.injEq, Prod.mk.injEq] at h
      obtain ⟨rfl, _⟩ := h
      rfl
    · cases h
  refine ⟨_, _, _, _, run_yield q1 hsz, hnp, ?_⟩
  rw [hfold, hra, hrc]
  refine roundIn_of_wpIn trivial ?_
  have hX : (⟨W.heap.size, [], some b, some l⟩ : FX).L = some l := rfl
  obtain ⟨s1, s2⟩ := hev l f ps a c ⟨W.heap.size, [], some b, some l⟩ hc hX
  have ht0 : TR ⟨W.heap.size, [], some b, some l⟩ W ρ (Mut ρ S) (setAll t ps args) { tmps := (ps.zip vs).foldl (fun tmps (p : Nat × Value) => tmps.setIfInBounds p.1 p.2) r.tmps, defers := [] } :=
    ⟨htm.1, htm.2, ⟨[], rfl, List.nodup_nil, fun r h => by simp at h⟩, Nat.le_refl _, b, rfl, hρ⟩
  refine s1 _ S .normal t1 S1 ρ W _ _ he1 hr ht0 (fun a1 W1 ρ1 g1 g2 g3 => ?_)
  -- the round begins
  unfold beginA at hbg
  split at hbg
  case h_2 => cases hbg
  rename_i f' ps' t' j' hrow1
  simp only [Option.some.injEq] at hbg
  subst hbg
  have hρ1 := g3.agree _ _ hρ
  obtain ⟨_, r1, p1, p2, p3, p4, p5, p6, p7⟩ := g1.rows _ _ _ _ hrow1 hρ1
  have hready : r1.state = .ready := by
    cases hs : r1.state <;> rw [hs] at p6 <;> simp [stateN] at p6 ⊢
  obtain ⟨k1, k2⟩ := putLoop_sound (r1 := { r1 with state := .busy }) (row' := .loop f' ps' t' 1 j') g1 hrow1 rfl hρ1 p1 (.inr ⟨_, _, _, _, _, rfl, p2, p3, p4, p5, rfl, p7⟩)
  refine ⟨_, run_beginRound p1 hready, ?_⟩
  have hx2 := g3.trans ((k2 S1.length).weaken g3.slen)
  refine s2 _ _ e t3 S3 ρ1 _ _ _ he2 k1 (g2.step (k2 0)) ?_
  have hpost : ∀ (jump : Option Code) (a' : Act) (W' : World) (ρ' : Rho) (j0 : Nat), exJump e = some j0 → jumpC j0 = jump → Rel W' ρ' S3 → Ext (S1.set l (.loop f' ps' t' 1 j')).length ρ1 (S1.set l (.loop f' ps' t' 1 j')) (W1.putObj b (.loop { r1 with state := .busy })) ρ' S3 W' →
      ∃ v0 w', (Instr.endRound b jump).run P W' = .ok v0 w' ∧ Behind v S S' ρ W (.returned v0) w' := by
    intro jump a' W' ρ' j0 hj hjc m1 m2
    unfold endA at h
    rw [hj] at h
    split at h
    case h_2 => cases h
    rename_i f3 ps3 t3' st3 j3 j4 hrow3 hj4
    simp only [Option.some.injEq] at hj4
    subst hj4
    simp only [Option.some.injEq, Prod.mk.injEq] at h
    obtain ⟨rfl, rfl⟩ := h
    have hρ3 := m2.agree _ _ hρ1
    obtain ⟨_, r3, u1, u2, u3, u4, u5, u6, u7⟩ := m1.rows _ _ _ _ hrow3 hρ3
    have hjn : jump.isNone = decide (j0 = 0) := by
      subst hjc
      match j0 with
      | 0 => rfl
      | 1 => rfl
      | n + 2 => rfl
    obtain ⟨w1, w2⟩ := putLoop_sound (r1 := { r3 with state := if jump.isNone then .ready else .done, pending := jump }) (row' := .loop f3 ps3 t3' (if j0 = 0 then 0 else 2) j0) m1 hrow3 rfl hρ3 u1
      (.inr ⟨_, _, _, _, _, rfl, u2, u3, u4, u5, by rw [hjn]; by_cases h0 : j0 = 0 <;> simp [h0, stateN], hjc.symm⟩)
    refine ⟨_, _, run_endRound jump u1, .bool jump.isNone, ρ', rfl, ?_, w1, ?_⟩
    · rw [hjn]
      exact RV.bool _
    · exact (hx2.trans (m2.weaken (by simpa using g3.slen))).trans ((w2 S3.length).weaken (Nat.le_trans (by simpa using g3.slen) m2.slen))
  cases e with
  | normal => exact fun a' W' ρ' m1 m2 m3 => hpost none a' W' ρ' 0 rfl rfl m1 m3
  | ret => exact fun a' W' ρ' m1 m2 m3 => hpost (some .ret) a' W' ρ' 1 rfl rfl m1 m3
  | exit id => exact fun a' W' ρ' m1 m2 m3 => hpost (some (.exit id)) a' W' ρ' (id + 2) rfl rfl m1 m3
  | panic v =>
    unfold endA at h
    simp [exJump] at h

end
end Go.Ev
