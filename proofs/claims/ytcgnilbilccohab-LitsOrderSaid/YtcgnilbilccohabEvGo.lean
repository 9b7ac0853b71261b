/- The evaluator Ev, part G, more: iterators over maps of which one entry at most is left. -/
import Derived.Test.YtcgnilbilccohabEvGn
namespace Go.Ev
open Go
set_option linter.unusedSimpArgs false
set_option linter.unusedVariables false

section
variable {P : Program} {T : Tab} {W : World} {ρ : Rho} {S : Store}

theorem iter_write (hr : Rel W ρ S) {l b base : Nat} {m : Option Nat} {since last last' : Nat} {seen seen' : List Nat} (hS : S[l]? = some (.iter m since seen last)) (hρ : ρ l = some (b, base)) {mb : Option Nat} (hW : W.heap[b]? = some (.mapIter mb since seen.toArray last))
    (hn : match m with | none => mb = none | some l => ∃ b', mb = some b' ∧ RV W ρ (Mut ρ S) (.map l) (.map (some b'))) : Rel { W with heap := W.heap.setIfInBounds b (.mapIter mb since seen'.toArray last') } ρ (S.set l (.iter m since seen' last')) ∧ ∀ n, Ext n ρ S W ρ (S.set l (.iter m since seen' last')) { W with heap := W.heap.setIfInBounds b (.mapIter mb since seen'.toArray last') } := by
  have hl := (hr.dom l b base hρ).1
  have hbl := (hr.dom l b base hρ).2
  have h0 := (hr.rows l _ b base hS hρ).1
  generalize hW' : ({ W with heap := W.heap.setIfInBounds b (.mapIter mb since seen'.toArray last') } : World) = W'
  have hsame : W'.heap[b]? = some (.mapIter mb since seen'.toArray last') := by rw [← hW']; simp [hbl]
  have hother : ∀ x, x ≠ b → W'.heap[x]? = W.heap[x]? := by intro x hx; rw [← hW']; simp [Ne.symm hx]
  have hm : ∀ x, Mut ρ (S.set l (.iter m since seen' last')) x ↔ Mut ρ S x := by
    intro x
    constructor
    · rintro ⟨k, bs, r, g1, g2, g3⟩
      rw [List.getElem?_set] at g1
      split at g1
      · rename_i hk; subst hk; exact ⟨l, bs, _, hS, rfl, g3⟩
      · exact ⟨k, bs, r, g1, g2, g3⟩
    · rintro ⟨k, bs, r, g1, g2, g3⟩
      by_cases hk : l = k
      · subst hk; exact ⟨l, bs, .iter m since seen' last', by simp [hl], rfl, g3⟩
      · exact ⟨k, bs, r, by rw [List.getElem?_set, if_neg hk]; exact g1, g2, g3⟩
  have hb : Mut ρ S b := ⟨l, base, _, hS, rfl, hρ⟩
  have hext : ∀ n, Ext n ρ S W ρ (S.set l (.iter m since seen' last')) W' := by
    intro n
    refine ⟨by rw [← hW'], by rw [← hW'], by rw [← hW'], by rw [← hW']; simp, fun x hx hM => hother x (fun e => hM (e ▸ hb)), fun _ _ h => h, fun x _ h => (hm x).1 h, fun x c t' fr hc => ?_, fun _ _ h h' => (by rw [h'] at h; cases h), by simp⟩
    by_cases hx : x = b
    · subst hx
      rw [hW] at hc
      cases hc
    · exact ⟨c, (hother x hx).trans hc, rfl⟩
  refine ⟨⟨fun k x bs hk => ?_, fun k r x bs g1 g2 => ?_, fun k k' r r' x bs bs' g1 g2 g3 g4 g5 g6 => ?_⟩, hext⟩
  · have := hr.dom k x bs hk
    exact ⟨by simpa using this.1, Nat.lt_of_lt_of_le this.2 (hext 0).size⟩
  · rw [List.getElem?_set] at g1
    split at g1
    · rename_i hk
      subst hk
      simp [hl] at g1
      subst g1
      rw [hρ] at g2
      simp at g2
      obtain ⟨rfl, rfl⟩ := g2
      refine ⟨h0, mb, hsame, ?_⟩
      cases m with
      | none => exact hn
      | some l' => obtain ⟨b', e1, e2⟩ := hn; exact ⟨b', e1, e2.step (hext 0)⟩
    · rename_i hk
      cases hd : r.live with
      | false => cases r <;> simp [Row.live] at hd; trivial
      | true =>
        have hx : x ≠ b := fun e => hk (hr.inj l k _ r b base bs hS g1 rfl hd hρ (e ▸ g2))
        exact RowRel.step (hother x hx) (fun c v => RV.step (hext 0)) (hr.rows k r x bs g1 g2)
  · have hlv : ∀ (k : Nat) (r : Row), (S.set l (.iter m since seen' last'))[k]? = some r → r.live = true → ∃ r0 : Row, S[k]? = some r0 ∧ r0.live = true := by
      intro k r g h
      rw [List.getElem?_set] at g
      split at g
      · rename_i hk; subst hk; exact ⟨_, hS, rfl⟩
      · exact ⟨r, g, h⟩
    obtain ⟨r0, e1, e2⟩ := hlv k r g1 g3
    obtain ⟨r0', e1', e2'⟩ := hlv k' r' g2 g4
    exact hr.inj k k' r0 r0' x bs bs' e1 e1' e2 e2' g5 g6


theorem layIter_sound (hr : Rel W ρ S) {l n : Nat} {m : Option Nat} {since last : Nat} {mb : Option Nat} (hn' : match m with | none => mb = none | some l => ∃ b', mb = some b' ∧ RV W ρ (Mut ρ S) (.map l) (.map (some b'))) (hS : S[l]? = some (.iter m since [] last)) (hρ : ρ l = none) (hn : n ≤ l) :
    Rel (W.alloc (.mapIter mb since #[] last)) (ρ.set l (W.heap.size, 0)) S ∧ Ext n ρ S W (ρ.set l (W.heap.size, 0)) S (W.alloc (.mapIter mb since #[] last)) := by
  have hst := Still.alloc W (.mapIter mb since #[] last)
  have hset : ∀ k x, (ρ.set l (W.heap.size, 0)) k = some x → (k = l ∧ x = (W.heap.size, 0)) ∨ (k ≠ l ∧ ρ k = some x) := by
    intro k x h
    unfold Rho.set at h
    split at h
    · rename_i hk; exact .inl ⟨hk, by simpa using h.symm⟩
    · rename_i hk; exact .inr ⟨hk, h⟩
  have hext : Ext n ρ S W (ρ.set l (W.heap.size, 0)) S (W.alloc (.mapIter mb since #[] last)) := by
    refine ⟨rfl, rfl, rfl, hst.size, fun b hb _ => hst.heap b hb, fun k x hk => ?_, ?_, fun b c t fr hc => ⟨c, (hst.heap b (heap_lt hc)).trans hc, rfl⟩, fun k x hk h0 => ?_, Nat.le_refl _⟩
    · have : k ≠ l := by rintro rfl; rw [hρ] at hk; cases hk
      simp [Rho.set, this, hk]
    · rintro b hb ⟨k, base, r, g1, g2, g3⟩
      rcases hset _ _ g3 with ⟨rfl, he⟩ | ⟨_, h⟩
      · simp at he; omega
      · exact ⟨k, base, r, g1, g2, h⟩
    · rcases hset _ _ hk with ⟨rfl, _⟩ | ⟨_, h⟩
      · exact hn
      · rw [h0] at h; cases h
  refine ⟨⟨fun k b base h => ?_, fun k r b base g1 g2 => ?_, fun k k' r r' b base base' g1 g2 g3 g4 g5 g6 => ?_⟩, hext⟩
  · rcases hset _ _ h with ⟨rfl, he⟩ | ⟨_, h⟩
    · simp at he
      obtain ⟨rfl, rfl⟩ := he
      exact ⟨(List.getElem?_eq_some_iff.1 hS).1, by simp⟩
    · exact ⟨(hr.dom _ _ _ h).1, Nat.lt_of_lt_of_le (hr.dom _ _ _ h).2 hst.size⟩
  · rcases hset _ _ g2 with ⟨rfl, he⟩ | ⟨_, h⟩
    · simp at he
      obtain ⟨rfl, rfl⟩ := he
      rw [hS] at g1
      simp at g1
      subst g1
      refine ⟨rfl, mb, alloc_new W _, ?_⟩
      cases m with
      | none => exact hn'
      | some l' => obtain ⟨b', e1, e2⟩ := hn'; exact ⟨b', e1, e2.step hext⟩
    · exact RowRel.step (hst.heap b (hr.dom _ _ _ h).2) (fun c v => RV.step hext) (hr.rows _ _ _ _ g1 h)
  · rcases hset _ _ g5 with ⟨rfl, he⟩ | ⟨_, h⟩ <;> rcases hset _ _ g6 with ⟨rfl, he'⟩ | ⟨_, h'⟩
    · rfl
    · simp at he
      have := (hr.dom _ _ _ h').2
      omega
    · simp at he'
      have := (hr.dom _ _ _ h).2
      omega
    · exact hr.inj k k' r r' b base base' g1 g2 g3 g4 h h'


theorem range_sound (hT : TabOK P T) (hr : Rel W ρ S) {ty : Nat} {x c : AV} {v : Value} {S' : Store} (hv : RV W ρ (Mut ρ S) x v) (h : rangeA T S ty x = some (c, S')) :
    ∃ z W' ρ', (Instr.range ty v).run P W = .ok z W' ∧ RV W' ρ' (Mut ρ' S') c z ∧ Rel W' ρ' S' ∧ Ext S.length ρ S W ρ' S' W' := by
  unfold rangeA at h
  split at h
  case isFalse => cases h
  rename_i hk
  obtain ⟨e, e', hu⟩ : ∃ e e', P.underlying ty = some (.map e e') := hT.kind _ _ hk
  have hnone : ρ S.length = none := by
    cases hl : ρ S.length with
    | none => rfl
    | some x => have := (hr.dom _ x.1 x.2 hl).1; omega
  split at h
  · simp only [Option.some.injEq, Prod.mk.injEq] at h
    obtain ⟨rfl, rfl⟩ := h
    cases hv
    obtain ⟨m1, m2⟩ := hr.more (S' := S ++ [.iter none 0 [] 0]) (fun l hl => by rw [List.getElem?_append_left hl]) (by simp)
    obtain ⟨g1, g2⟩ := layIter_sound m1 (l := S.length) (n := S.length) (m := none) (since := 0) (last := 0) (mb := none) rfl (by simp) hnone (Nat.le_refl _)
    refine ⟨.pointer (some ⟨W.heap.size, 0, none⟩), _, _, by simp [Instr.range, run_underlyingE hu], ?_, g1, (m2 _).trans g2⟩
    exact RV.ptr (base := 0) 0 (by simp [Rho.set])
  · rename_i l
    split at h
    case h_2 => cases h
    rename_i es clk hrow
    simp only [Option.some.injEq, Prod.mk.injEq] at h
    obtain ⟨rfl, rfl⟩ := h
    cases hv with
    | @map _ b hρ =>
      obtain ⟨ms, hW, hes⟩ := mapRow_sound hr hrow hρ
      obtain ⟨m1, m2⟩ := hr.more (S' := S ++ [.iter (some l) clk [] clk]) (fun l hl => by rw [List.getElem?_append_left hl]) (by simp)
      obtain ⟨g1, g2⟩ := layIter_sound m1 (l := S.length) (n := S.length) (m := some l) (since := clk) (last := clk) (mb := some b) ⟨b, rfl, .map hρ⟩ (by simp) hnone (Nat.le_refl _)
      refine ⟨.pointer (some ⟨W.heap.size, 0, none⟩), _, _, by simp [Instr.range, run_underlyingE hu, MapKept.run_getObj_map hW], ?_, g1, (m2 _).trans g2⟩
      exact RV.ptr (base := 0) 0 (by simp [Rho.set])
  · cases h

theorem EsRel.filter {M : Nat → Prop} {f : Nat → Bool} : ∀ {es : List (AV × AV × Nat)} {ms : List MapEntry}, EsRel W ρ M es ms → EsRel W ρ M (es.filter fun e => f e.2.2) (ms.filter fun m => f m.born)
  | [], ms, h => by
    obtain rfl : ms = [] := List.eq_nil_of_length_eq_zero h.1.symm
    exact ⟨rfl, fun j e m hj => by simp at hj⟩
  | e :: es, [], h => by simp [EsRel] at h
  | e :: es, m :: ms, h => by
    have h0 := h.2 0 e m rfl rfl
    have hr : EsRel W ρ M es ms := ⟨by simpa using h.1, fun j e' m' hj hm => h.2 (j + 1) e' m' (by simpa using hj) (by simpa using hm)⟩
    have ih := EsRel.filter (f := f) hr
    simp only [List.filter_cons, h0.2.2]
    split
    · refine ⟨by simp [ih.1], fun j e' m' hj hm => ?_⟩
      cases j with
      | zero => simp at hj hm; subst hj; subst hm; exact h0
      | succ j => exact ih.2 j e' m' (by simpa using hj) (by simpa using hm)
    · exact ih

theorem next_sound (hr : Rel W ρ S) {x c : AV} {v : Value} {S' : Store} (ty : Nat) (hv : RV W ρ (Mut ρ S) x v) (h : nextA S x = some (c, S')) :
    ∃ z W', (Instr.next v false ty).run P W = .ok z W' ∧ RV W' ρ (Mut ρ S') c z ∧ Rel W' ρ S' ∧ ∀ n, Ext n ρ S W ρ S' W' := by
  unfold nextA at h
  split at h
  case h_2 => cases h
  rename_i l
  cases hv with
  | @ptr _ b base _ hρ =>
    split at h
    · rename_i since seen last hS
      obtain ⟨h0, mb, hW, hm⟩ := hr.rows l _ b base hS hρ
      simp only at hm
      subst hm
      subst h0
      simp only [Option.some.injEq, Prod.mk.injEq] at h
      obtain ⟨rfl, rfl⟩ := h
      refine ⟨.tuple #[.bool false], W, by simp [Instr.next, getObj, Sem.run, hW], ?_, hr, fun n => Ext.refl _ _ _ _⟩
      exact RV.tuple (vs := [.bool false]) rfl ((RVs.cons (RV.bool _) (RVs.nil _ _ _)).2)
    · rename_i m since seen last hS
      obtain ⟨h0, mb, hW, hm⟩ := hr.rows l _ b base hS hρ
      obtain ⟨b', rfl, hm'⟩ := hm
      subst h0
      cases hm' with
      | map hρm =>
        split at h
        case h_2 => cases h
        rename_i es clk hrow
        obtain ⟨ms, hWm, hes⟩ := mapRow_sound hr hrow hρm
        split at h
        · cases h
        rename_i hguard
        have hes' := hes.filter (f := fun b => !seen.contains b)
        have hg : (!seen.toArray.isEmpty && !ms.isEmpty && ms.all (·.born ≥ last)) = false := by
          have h1 : seen.toArray.isEmpty = seen.isEmpty := by simp
          have hl0 : es.length = ms.size := by simpa using hes.1
          have h2 : ms.isEmpty = es.isEmpty := by
            rw [Bool.eq_iff_iff, List.isEmpty_iff, Array.isEmpty_iff, ← List.length_eq_zero_iff, ← Array.size_eq_zero_iff, hl0]
          have h3 : ms.all (fun m => decide (m.born ≥ last)) = es.all (fun e => decide (last ≤ e.2.2)) := by
            have key : ∀ (es : List (AV × AV × Nat)) (ms : List MapEntry), EsRel W ρ (Mut ρ S) es ms → ms.all (fun m => decide (m.born ≥ last)) = es.all (fun e => decide (last ≤ e.2.2)) := by
              intro es
              induction es with
              | nil => intro ms h; obtain rfl : ms = [] := List.eq_nil_of_length_eq_zero h.1.symm; rfl
              | cons e es ih =>
                intro ms h
                cases ms with
                | nil => simp [EsRel] at h
                | cons m ms =>
                  have h0 := (h.2 0 e m rfl rfl).2.2
                  simp only [List.all_cons, h0, ih ms ⟨by simpa using h.1, fun j e' m' hj hm => h.2 (j + 1) e' m' (by simpa using hj) (by simpa using hm)⟩]
            rw [← key es ms.toList hes, Array.all_toList]
          rw [h1, h2, h3]
          simpa using hguard
        have hleft : ∀ L, es.filter (fun e => !seen.contains e.2.2) = L → EsRel W ρ (Mut ρ S) L (ms.filter (fun e => !seen.toArray.contains e.born)).toList := by
          intro L hL
          subst hL
          have : (ms.filter (fun e => !seen.toArray.contains e.born)).toList = ms.toList.filter (fun e => !seen.contains e.born) := by simp
          rw [this]
          exact hes'
        generalize hL : es.filter (fun e => !seen.contains e.2.2) = L at h
        have hl := hleft L hL
        generalize hM : ms.filter (fun e => !seen.toArray.contains e.born) = left at hl
        split at h
        · simp only [Option.some.injEq, Prod.mk.injEq] at h
          obtain ⟨rfl, rfl⟩ := h
          have hemp : left = #[] := Array.toList_inj.1 (List.eq_nil_of_length_eq_zero hl.1.symm)
          subst hemp
          refine ⟨.tuple #[.bool false], W, ?_, RV.tuple (vs := [.bool false]) rfl ((RVs.cons (RV.bool _) (RVs.nil _ _ _)).2), hr, fun n => Ext.refl _ _ _ _⟩
          have hget : (getObj b).run P W = .ok (.mapIter (some b') since seen.toArray last) W := by simp [getObj, Sem.run, hW]
          unfold Instr.next
          simp only [Nat.add_zero, Sem.run_bind, hget, Result.andThen_ok, MapKept.run_getObj_map hWm, hg, hM]
          simp [Question.forced]
        · rename_i e
          split at h
          case isFalse => cases h
          rename_i hlt
          simp only [Option.some.injEq, Prod.mk.injEq] at h
          obtain ⟨rfl, rfl⟩ := h
          obtain ⟨m0, rfl⟩ : ∃ m0, left = #[m0] := by
            obtain ⟨ll⟩ := left
            match ll, hl.1 with
            | [m0], _ => exact ⟨m0, rfl⟩
          obtain ⟨r1, r2, r3⟩ := hl.2 0 e m0 rfl rfl
          have hget : (getObj b).run P W = .ok (.mapIter (some b') since seen.toArray last) W := by simp [getObj, Sem.run, hW]
          have hset : ∀ o : Obj, (setObj b o).run P W = .ok () { W with heap := W.heap.setIfInBounds b o } := by intro o; simp [setObj, Sem.run, hW]
          obtain ⟨g1, g2⟩ := iter_write hr (seen' := seen ++ [e.2.2]) (last' := clk) hS hρ hW ⟨b', rfl, .map hρm⟩
          refine ⟨.tuple #[.bool true, m0.key, m0.val], _, ?_, RV.tuple (vs := [.bool true, m0.key, m0.val]) rfl ((RVs.cons (RV.bool _) (RVs.cons (r1.step (g2 0)) (RVs.cons (r2.step (g2 0)) (RVs.nil _ _ _)))).2), g1, g2⟩
          unfold Instr.next
          simp only [Nat.add_zero, Sem.run_bind, hget, Result.andThen_ok, MapKept.run_getObj_map hWm, hg, hM]
          have h1 : m0.born < since := by rw [r3]; exact hlt
          have h2 : ¬ since ≤ m0.born := by omega
          have h3 : ¬ since ≤ e.2.2 := by omega
          simp [Question.forced, List.filter_cons, h1, h2, h3, hset, r3, hlt]
        · cases h
    · cases h

theorem EsRel.find {M : Nat → Prop} {b : Nat} : ∀ {es : List (AV × AV × Nat)} {ms : List MapEntry} {e : AV × AV × Nat}, EsRel W ρ M es ms → es.find? (fun e => e.2.2 == b) = some e → ∃ m, ms.find? (fun m => m.born == b) = some m ∧ RV W ρ M e.1 m.key ∧ RV W ρ M e.2.1 m.val
  | [], ms, e, h, hf => by simp at hf
  | x :: es, [], e, h, hf => by simp [EsRel] at h
  | x :: es, m :: ms, e, h, hf => by
    have h0 := h.2 0 x m rfl rfl
    have hr : EsRel W ρ M es ms := ⟨by simpa using h.1, fun j e' m' hj hm => h.2 (j + 1) e' m' (by simpa using hj) (by simpa using hm)⟩
    rw [List.find?_cons] at hf ⊢
    rw [h0.2.2]
    split at hf
    · rename_i hb
      simp only [Option.some.injEq] at hf
      subst hf
      exact ⟨m, rfl, h0.1, h0.2.1⟩
    · exact EsRel.find hr hf

theorem entry_sound (hr : Rel W ρ S) {x c : AV} {v : Value} {S' : Store} (hv : RV W ρ (Mut ρ S) x v) (h : entryA S x = some (c, S')) :
    S' = S ∧ ∃ z, (Instr.entry v).run P W = .ok z W ∧ RV W ρ (Mut ρ S) c z := by
  unfold entryA at h
  split at h
  case h_2 => cases h
  rename_i l
  cases hv with
  | @ptr _ b base _ hρ =>
    split at h
    case h_2 => cases h
    rename_i m since seen last hS
    obtain ⟨h0, mb, hW, hm⟩ := hr.rows l _ b base hS hρ
    obtain ⟨b', rfl, hm'⟩ := hm
    subst h0
    cases hm' with
    | map hρm =>
      split at h
      case h_2 => cases h
      rename_i es clk bb hrow hlast
      obtain ⟨ms, hWm, hes⟩ := mapRow_sound hr hrow hρm
      split at h
      case isFalse => cases h
      rename_i hclk
      subst hclk
      obtain ⟨e, he, hc⟩ := Option.map_eq_some_iff.1 h
      simp only [Prod.mk.injEq] at hc
      obtain ⟨rfl, rfl⟩ := hc
      obtain ⟨m0, hm0, r1, r2⟩ := EsRel.find hes he
      refine ⟨rfl, .tuple #[m0.key, m0.val], ?_, RV.tuple (vs := [m0.key, m0.val]) rfl ((RVs.cons r1 (RVs.cons r2 (RVs.nil _ _ _))).2)⟩
      have hget : (getObj b).run P W = .ok (.mapIter (some b') since seen.toArray clk) W := by simp [getObj, Sem.run, hW]
      have hback : seen.toArray.back? = some bb := by rw [← hlast]; simp
      have hfind : ms.find? (fun m => m.born == bb) = some m0 := by rw [← hm0]; simp
      unfold Instr.entry
      simp [hget, hback, MapKept.run_getObj_map hWm, hfind]

end
end Go.Ev
