/- The evaluator Ev, part L: the proof that a region whose order is drawn tells the same in whatever order. -/
import Derived.Test.YtcgnilbilccohabEvK
namespace Go.Ev
open Go
set_option linter.unusedSimpArgs false
set_option linter.unusedVariables false

/-! ### The canonical run -/
structure Trace (T : Tab) (call : CallT) (ops : Array Oper) (pl : List (Nat × Nat)) (L : Nat → Tmps × Store) (segs : List Store) (chks : List Chk) : Prop where
  step : ∀ i o, ops[i]? = some o → stepD T call ops o (L i).1 (L i).2 = some (L (i + 1))
  segC : ∀ i o, ops[i]? = some o → isC o = true → segs[cidx ops i]? = some (L i).2
  segN : segs[cidx ops ops.size]? = some (L ops.size).2
  chk : ∀ i o, ops[i]? = some o → ∀ c ∈ chkOf T ops o (L i).1 (L i).2 (pl.getD i (0, 0)), c ∈ chks

def cnt (l : List Oper) (i : Nat) : Nat := ((l.take i).filter isC).length

theorem drawGo_trace {T : Tab} {call : CallT} {ops : Array Oper} : ∀ (l : List Oper) (pl : List (Nat × Nat)) (t : Tmps) (S : Store) (t' : Tmps) (S' : Store) (segs : List Store) (chks : List Chk),
    drawGo T call ops l pl t S = some (t', S', segs, chks) → ∃ L : Nat → Tmps × Store, L 0 = (t, S) ∧ L l.length = (t', S') ∧ (∀ i o, l[i]? = some o → stepD T call ops o (L i).1 (L i).2 = some (L (i + 1))) ∧
      (∀ i o, l[i]? = some o → isC o = true → segs[cnt l i]? = some (L i).2) ∧ segs[cnt l l.length]? = some S' ∧ (∀ i o, l[i]? = some o → ∀ c ∈ chkOf T ops o (L i).1 (L i).2 (pl.getD i (0, 0)), c ∈ chks)
  | [], pl, t, S, t', S', segs, chks, h => by
    simp only [drawGo, Option.some.injEq, Prod.mk.injEq] at h
    obtain ⟨rfl, rfl, rfl, rfl⟩ := h
    exact ⟨fun _ => (t, S), rfl, rfl, by simp, by simp, by simp [cnt], by simp⟩
  | o :: rest, pl, t, S, t', S', segs, chks, h => by
    simp only [drawGo] at h
    split at h
    · cases h
    rename_i t1 S1 hst
    split at h
    · cases h
    rename_i t2 S2 segs2 chks2 hgo
    simp only [Option.some.injEq, Prod.mk.injEq] at h
    obtain ⟨rfl, rfl, rfl, rfl⟩ := h
    obtain ⟨L, h0, hn, hs, hc, hsn, hk⟩ := drawGo_trace rest pl.tail t1 S1 t2 S2 segs2 chks2 hgo
    have hcnt : ∀ i, cnt (o :: rest) (i + 1) = cnt rest i + (if isC o then 1 else 0) := by
      intro i
      simp only [cnt, List.take_succ_cons, List.filter_cons]
      split <;> simp
    refine ⟨fun i => match i with | 0 => (t, S) | i + 1 => L i, rfl, hn, fun i o' hi => ?_, fun i o' hi hC => ?_, ?_, fun i o' hi c hcm => ?_⟩
    · cases i with
      | zero => simp at hi; subst hi; simpa [h0] using hst
      | succ i => exact hs i o' (by simpa using hi)
    · cases i with
      | zero => simp at hi; subst hi; simp [cnt, hC]
      | succ i =>
        rw [hcnt]
        have := hc i o' (by simpa using hi) hC
        split
        · simpa using this
        · simpa using this
    · rw [List.length_cons, hcnt]
      split
      · simpa using hsn
      · simpa using hsn
    · cases i with
      | zero =>
        simp at hi
        subst hi
        refine List.mem_append_left _ ?_
        cases pl <;> simpa using hcm
      | succ i =>
        refine List.mem_append_right _ (hk i o' (by simpa using hi) c ?_)
        cases pl <;> simpa using hcm

section
variable {P : Program} {T : Tab} {call : CallT} {ops : Array Oper} {pl : List (Nat × Nat)} {L : Nat → Tmps × Store} {segs : List Store} {chks : List Chk}

theorem cidx_zero : cidx ops 0 = 0 := by simp [cidx]

theorem cidx_succ {i : Nat} {o : Oper} (h : ops[i]? = some o) : cidx ops (i + 1) = cidx ops i + (if isC o then 1 else 0) := by
  have h' : ops.toList[i]? = some o := by simpa using h
  unfold cidx
  rw [List.take_add_one, h', List.filter_append, List.length_append]
  cases hc : isC o <;> simp [hc]

theorem cidx_mono {i j : Nat} (h : i ≤ j) : cidx ops i ≤ cidx ops j := by
  unfold cidx
  obtain ⟨k, rfl⟩ := Nat.exists_eq_add_of_le h
  rw [List.take_add, List.filter_append, List.length_append]
  omega

theorem cidx_lt {i j : Nat} {o : Oper} (h : ops[i]? = some o) (hc : isC o = true) (hij : i < j) : cidx ops i < cidx ops j := by
  have := cidx_mono (ops := ops) (show i + 1 ≤ j by omega)
  rw [cidx_succ h, if_pos hc] at this
  omega

/-- Each number has its operation. -/
theorem cidx_find {j : Nat} : ∀ (k : Nat), k ≤ ops.size → j < cidx ops k → ∃ i o, i < k ∧ ops[i]? = some o ∧ isC o = true ∧ cidx ops i = j
  | 0, _, h => by rw [cidx_zero] at h; omega
  | k + 1, hk, h => by
    have hlt : k < ops.size := by omega
    have ho := Array.getElem?_eq_getElem hlt
    rw [cidx_succ ho] at h
    by_cases hjk : j < cidx ops k
    · obtain ⟨i, o, h1, h2⟩ := cidx_find k (by omega) hjk
      exact ⟨i, o, by omega, h2⟩
    · cases hc : isC ops[k] with
      | false => rw [hc] at h; simp at h; omega
      | true => rw [hc] at h; simp at h; exact ⟨k, _, by omega, ho, hc, by omega⟩

/-! ### What the checks give -/
theorem plan_down (h : planOK ops pl = true) {i : Nat} {o : Oper} (ho : ops[i]? = some o) {e : Nat} (he : e ∈ pre o) : e < i := by
  simp only [planOK, Bool.and_eq_true] at h
  have := List.all_eq_true.1 h.1.1.2 (o, i) (by
    rw [List.mem_zipIdx_iff_getElem?]
    simpa using ho)
  simpa using List.all_eq_true.1 this e he

theorem reach_lt (h : planOK ops pl = true) {i j : Nat} (hr : Reach ops i j) : j < i := by
  induction hr with
  | one ho hj => exact plan_down h ho hj
  | step ho hk _ ih => have := plan_down h ho hk; omega

theorem plan_pair (h : planOK ops pl = true) {i j : Nat} {x y : Oper} (hx : ops[i]? = some x) (hy : ops[j]? = some y) (hij : i < j) : pairOK (ancT ops) ops i j x y = true := by
  simp only [planOK, Bool.and_eq_true] at h
  have h1 := List.all_eq_true.1 h.1.2 (y, j) (by rw [List.mem_zipIdx_iff_getElem?]; simpa using hy)
  have h2 := List.all_eq_true.1 h1 (x, i) (by rw [List.mem_zipIdx_iff_getElem?]; simpa using hx)
  simpa [hij] using h2

theorem plan_dst (h : planOK ops pl = true) {i j : Nat} {x y : Oper} (hx : ops[i]? = some x) (hy : ops[j]? = some y) {d : Nat} (hdx : x.dst = some d) (hdy : y.dst = some d) : i = j := by
  rcases Nat.lt_trichotomy i j with hij | hij | hij
  · have := plan_pair h hx hy hij
    simp [pairOK, hdx, hdy] at this
  · exact hij
  · have := plan_pair h hy hx hij
    simp [pairOK, hdx, hdy] at this

/-- A slot's writer and one that looks at it have an order. -/
theorem plan_looks (h : planOK ops pl = true) {w i : Nat} {x y : Oper} (hx : ops[w]? = some x) (hy : ops[i]? = some y) {d : Nat} (hd : x.dst = some d) (hl : d ∈ y.looksAt ops) (hne : w ≠ i) : (w < i ∧ Reach ops i w) ∨ (i < w ∧ Reach ops w i) := by
  rcases Nat.lt_trichotomy w i with hij | hij | hij
  · have := plan_pair h hx hy hij
    simp only [pairOK, hd, Bool.and_eq_true, Bool.or_eq_true] at this
    have h1 := this.1.1.2
    simp [hl] at h1
    exact .inl ⟨hij, anc_sound h1⟩
  · exact absurd hij hne
  · have := plan_pair h hy hx hij
    simp only [pairOK, hd, Bool.and_eq_true, Bool.or_eq_true] at this
    have h1 := this.1.2
    simp [hl] at h1
    exact .inr ⟨hij, anc_sound h1⟩

theorem plan_C (h : planOK ops pl = true) {i j : Nat} {x y : Oper} (hx : ops[i]? = some x) (hy : ops[j]? = some y) (hij : i < j) (hc : isC x = true ∧ (isC y = true ∨ isA y = true)) : Reach ops j i := by
  have := plan_pair h hx hy hij
  simp only [pairOK, Bool.and_eq_true, Bool.or_eq_true] at this
  have h1 := this.2
  refine anc_sound (h1.resolve_left ?_)
  obtain ⟨a, b | b⟩ := hc <;> simp [a, b]

theorem hi_ok {i q : Nat} (h : hiOK (ancT ops) ops i q = true) : q = cidx ops ops.size ∨ ∃ c x, ops[c]? = some x ∧ isC x = true ∧ cidx ops c = q ∧ Reach ops c i := by
  simp only [hiOK, Bool.and_eq_true, Bool.or_eq_true, beq_iff_eq, List.any_eq_true, List.mem_range] at h
  refine h.imp_right ?_
  rintro ⟨c, hc, hC, he, hr⟩
  cases hx : ops[c]? with
  | none => rw [hx] at hC; simp at hC
  | some x => rw [hx] at hC; exact ⟨c, x, hx, by simpa using hC, he, anc_sound hr⟩

theorem plan_A (h : planOK ops pl = true) {i : Nat} {o : Oper} (ho : ops[i]? = some o) (hA : isA o = true) :
    (pl.getD i (0, 0)).1 = cidx ops i ∧ ((pl.getD i (0, 0)).2 = cidx ops ops.size ∨ ∃ c x, ops[c]? = some x ∧ isC x = true ∧ cidx ops c = (pl.getD i (0, 0)).2 ∧ Reach ops c i) := by
  simp only [planOK, Bool.and_eq_true] at h
  have h1 := List.all_eq_true.1 h.2 (o, i) (by rw [List.mem_zipIdx_iff_getElem?]; simpa using ho)
  simp only [hA, Bool.not_true, Bool.false_or, Bool.and_eq_true, beq_iff_eq] at h1
  exact ⟨h1.2.1, hi_ok h1.2.2⟩

theorem plan_load (h : planOK ops pl = true) {i : Nat} {o : Oper} (ho : ops[i]? = some o) (hl : isLoad o = true) :
    ((pl.getD i (0, 0)).1 = 0 ∨ ∃ c x, ops[c]? = some x ∧ isC x = true ∧ cidx ops c + 1 = (pl.getD i (0, 0)).1 ∧ Reach ops i c) ∧
    ((pl.getD i (0, 0)).2 = cidx ops ops.size ∨ ∃ c x, ops[c]? = some x ∧ isC x = true ∧ cidx ops c = (pl.getD i (0, 0)).2 ∧ Reach ops c i) := by
  simp only [planOK, Bool.and_eq_true] at h
  have h1 := List.all_eq_true.1 h.2 (o, i) (by rw [List.mem_zipIdx_iff_getElem?]; simpa using ho)
  simp only [hl, Bool.not_true, Bool.false_or, loadOK, Bool.and_eq_true] at h1
  obtain ⟨⟨ha, hb⟩, _⟩ := h1
  refine ⟨?_, hi_ok hb⟩
  simp only [Bool.and_eq_true, Bool.or_eq_true, beq_iff_eq, List.any_eq_true, List.mem_range] at ha
  refine ha.imp_right ?_
  rintro ⟨c, hc, hC, he, hr⟩
  cases hx : ops[c]? with
  | none => rw [hx] at hC; simp at hC
  | some x => rw [hx] at hC; exact ⟨c, x, hx, by simpa using hC, he, anc_sound hr⟩

/-! ### The canonical run's stores -/
theorem cls_cases (o : Oper) : (cls o.op = 0 ∧ isC o = false ∧ isA o = false) ∨ (cls o.op = 1 ∧ isC o = false ∧ isA o = true) ∨ (isC o = true ∧ isA o = false ∧ ∀ T call t S, evOp T call t S o.op = evC T call t S o.op) := by
  have h : cls o.op = 0 ∨ cls o.op = 1 ∨ cls o.op = 2 := by
    unfold cls
    split <;> simp
  rcases h with h | h | h
  · exact .inl ⟨h, by simp [isC, h], by simp [isA, h]⟩
  · exact .inr (.inl ⟨h, by simp [isC, h], by simp [isA, h]⟩)
  · exact .inr (.inr ⟨by simp [isC, h], by simp [isA, h], fun T call t S => by simp [evOp, h]⟩)

def Pre (S S' : Store) : Prop := S.length ≤ S'.length ∧ ∀ l, l < S.length → S'[l]? = S[l]?

theorem Pre.refl (S : Store) : Pre S S := ⟨Nat.le_refl _, fun _ _ => rfl⟩
theorem Pre.trans {A B C : Store} (h : Pre A B) (k : Pre B C) : Pre A C := ⟨Nat.le_trans h.1 k.1, fun l hl => (k.2 l (Nat.lt_of_lt_of_le hl h.1)).trans (h.2 l hl)⟩
theorem Pre.snoc (S : Store) (r : Row) : Pre S (S ++ [r]) := ⟨by simp, fun l hl => by rw [List.getElem?_append_left hl]⟩

/-- Between two operations that do more than reading and laying the store grows at its end alone. -/
theorem trace_pre1 (ht : Trace T call ops pl L segs chks) {i : Nat} {o : Oper} (ho : ops[i]? = some o) (hc : isC o = false) : Pre (L i).2 (L (i + 1)).2 := by
  have hs := ht.step i o ho
  unfold stepD at hs
  split at hs
  · obtain ⟨r, hr, he⟩ := Option.map_eq_some_iff.1 hs
    replace hr := (evOpD_some hr).1
    rw [← he]
    rcases cls_cases o with ⟨hcl, _⟩ | ⟨hcl, _⟩ | ⟨hcl, _⟩
    · simp only [evOp, hcl] at hr
      obtain ⟨v, hv, rfl⟩ := Option.map_eq_some_iff.1 hr
      exact Pre.refl _
    · simp only [evOp, hcl] at hr
      obtain ⟨v, hv, rfl⟩ := Option.map_eq_some_iff.1 hr
      exact Pre.snoc _ _
    · rw [hc] at hcl; cases hcl
  · simp only [Option.some.injEq] at hs
    rw [← hs]
    exact Pre.refl _
  · cases hs

theorem trace_pre (ht : Trace T call ops pl L segs chks) {i : Nat} : ∀ (k : Nat), i + k ≤ ops.size → cidx ops i = cidx ops (i + k) → Pre (L i).2 (L (i + k)).2
  | 0, _, _ => Pre.refl _
  | k + 1, hk, he => by
    have hlt : i + k < ops.size := by omega
    have ho := Array.getElem?_eq_getElem hlt
    have h1 := cidx_mono (ops := ops) (show i ≤ i + k by omega)
    have h2 := cidx_mono (ops := ops) (show i + k ≤ i + (k + 1) by omega)
    have h3 := cidx_succ ho
    have hc : isC ops[i + k] = false := by
      cases hc : isC ops[i + k] with
      | false => rfl
      | true => rw [hc] at h3; simp at h3; rw [← Nat.add_assoc] at he h2; omega
    exact (trace_pre ht k (by omega) (by omega)).trans (trace_pre1 ht ho hc)

def seg (segs : List Store) (j : Nat) : Store := segs.getD j []

theorem seg_pre (ht : Trace T call ops pl L segs chks) {i : Nat} (hi : i ≤ ops.size) : Pre (L i).2 (seg segs (cidx ops i)) := by
  have hm := cidx_mono (ops := ops) hi
  by_cases hlt : cidx ops i < cidx ops ops.size
  · obtain ⟨k, o, hk, ho, hc, he⟩ := cidx_find ops.size (Nat.le_refl _) hlt
    have hik : i ≤ k := by
      by_cases h : i ≤ k
      · exact h
      · have := cidx_lt ho hc (show k < i by omega); omega
    obtain ⟨d, rfl⟩ := Nat.exists_eq_add_of_le hik
    have := trace_pre ht d (by omega) he.symm
    have hs := ht.segC _ o ho hc
    rw [he] at hs
    unfold seg
    rw [List.getD_eq_getElem?_getD, hs]
    exact this
  · have he : cidx ops i = cidx ops ops.size := by omega
    obtain ⟨d, hd⟩ := Nat.exists_eq_add_of_le hi
    have := trace_pre ht (i := i) d (by omega) (by rw [← hd]; exact he)
    rw [← hd] at this
    unfold seg
    rw [List.getD_eq_getElem?_getD, he, ht.segN]
    exact this

theorem seg_C (ht : Trace T call ops pl L segs chks) {i : Nat} {o : Oper} (ho : ops[i]? = some o) (hc : isC o = true) : seg segs (cidx ops i) = (L i).2 := by
  unfold seg
  rw [List.getD_eq_getElem?_getD, ht.segC i o ho hc]
  rfl

/-! ### The canonical run's temporaries -/
theorem trace_len (ht : Trace T call ops pl L segs chks) : ∀ (i : Nat), i ≤ ops.size → (L i).1.length = (L 0).1.length
  | 0, _ => rfl
  | i + 1, hi => by
    have ho := Array.getElem?_eq_getElem (show i < ops.size by omega)
    have hs := ht.step i _ ho
    unfold stepD at hs
    have hput : ∀ (t : Tmps) (d : Option Nat) (v : AV), (putA t d v).length = t.length := by
      intro t d v
      cases d <;> simp [putA]
    split at hs
    · obtain ⟨r, hr, he⟩ := Option.map_eq_some_iff.1 hs
      rw [← he, hput]
      exact trace_len ht i (by omega)
    · simp only [Option.some.injEq] at hs
      rw [← hs, hput]
      exact trace_len ht i (by omega)
    · cases hs

theorem trace_step (ht : Trace T call ops pl L segs chks) {i : Nat} {o : Oper} (ho : ops[i]? = some o) : ∃ v, (L (i + 1)).1 = putA (L i).1 o.dst v := by
  have hs := ht.step i o ho
  unfold stepD at hs
  split at hs
  · obtain ⟨r, hr, he⟩ := Option.map_eq_some_iff.1 hs
    exact ⟨r.1, by rw [← he]⟩
  · simp only [Option.some.injEq] at hs
    exact ⟨undefA, by rw [← hs]⟩
  · cases hs

theorem putA_other {t : Tmps} {dst : Option Nat} {v : AV} {d : Nat} (h : dst ≠ some d) : (putA t dst v).getD d undefA = t.getD d undefA := by
  cases dst with
  | none => rfl
  | some e =>
    have : e ≠ d := fun he => h (by rw [he])
    simp [putA, List.getD_eq_getElem?_getD, List.getElem?_set, this]

theorem putA_same {t : Tmps} {v : AV} {d : Nat} (h : d < t.length) : (putA t (some d) v).getD d undefA = v := by
  simp [putA, List.getD_eq_getElem?_getD, List.getElem?_set, h]

/-- A slot that nobody writes. -/
theorem trace_none (ht : Trace T call ops pl L segs chks) {d : Nat} {k : Nat} : ∀ (i : Nat), i + k ≤ ops.size → (∀ j o, i ≤ j → j < i + k → ops[j]? = some o → o.dst ≠ some d) → (L (i + k)).1.getD d undefA = (L i).1.getD d undefA := by
  induction k with
  | zero => intro i _ _; rfl
  | succ k ih =>
    intro i hi h
    have ho := Array.getElem?_eq_getElem (show i + k < ops.size by omega)
    obtain ⟨v, hv⟩ := trace_step ht ho
    rw [← Nat.add_assoc, hv, putA_other (h (i + k) _ (by omega) (by omega) ho)]
    exact ih i (by omega) (fun j o h1 h2 => h j o h1 (by omega))

/-- A slot before its one writer, and behind it. -/
theorem trace_before (hp : planOK ops pl = true) (ht : Trace T call ops pl L segs chks) {w i d : Nat} {x : Oper} (hx : ops[w]? = some x) (hd : x.dst = some d) (hi : i ≤ w) : (L i).1.getD d undefA = (L 0).1.getD d undefA := by
  have hw := (Array.getElem?_eq_some_iff.1 hx).1
  have := trace_none ht (d := d) (k := i) 0 (by omega) (fun j o h1 h2 ho he => by
    have := plan_dst hp ho hx he hd
    omega)
  simpa using this

theorem trace_behind (hp : planOK ops pl = true) (ht : Trace T call ops pl L segs chks) {w i d : Nat} {x : Oper} (hx : ops[w]? = some x) (hd : x.dst = some d) (hi : w < i) (hn : i ≤ ops.size) : (L i).1.getD d undefA = (L (w + 1)).1.getD d undefA := by
  obtain ⟨k, rfl⟩ := Nat.exists_eq_add_of_le (show w + 1 ≤ i by omega)
  exact trace_none ht (w + 1) hn (fun j o h1 h2 ho he => by
    have := plan_dst hp ho hx he hd
    omega)

end
end Go.Ev
