/- The evaluator Ev, part G, more: maps are read and written. -/
import Derived.Test.YtcgnilbilccohabEvGm
import Derived.Test.YtcgnilbilccohabEvE
import Derived.MapKept
namespace Go.Ev
open Go
set_option linter.unusedSimpArgs false
set_option linter.unusedVariables false

section
variable {P : Program} {T : Tab} {W : World} {ρ : Rho} {S : Store}

theorem fits_len : ∀ {ks : List Nat} {x : List AV}, fits ks x = true → x.length = ks.length
  | [], [], _ => rfl
  | [], _ :: _, h => by simp [fits] at h
  | _ :: _, [], h => by simp [fits] at h
  | k :: ks, x :: xs, h => by
    simp [fits] at h
    simp [fits_len h.2]

theorem eqCell_same {M : Nat → Prop} {k : Nat} {a b : AV} {v u : Value} (h : eqCell k a b = some true) (hv : RV W ρ M a v) (hu : RV W ρ M b u) : v = u ∧ ∀ n, Instr.sameBits n v u = true := by
  unfold eqCell at h
  split at h
  · cases hv; cases hu
    simp at h
    subst h
    exact ⟨rfl, fun n => by cases n <;> simp [Instr.sameBits]⟩
  · cases hv; cases hu
    split at h
    · rename_i e
      subst e
      simp at h
      subst h
      exact ⟨rfl, fun n => by cases n <;> simp [Instr.sameBits]⟩
    · cases h
  · rename_i x y
    cases hv; cases hu
    simp only [Option.some.injEq] at h
    have : x = y := by
      unfold strEq at h
      obtain ⟨⟨a⟩⟩ := x
      obtain ⟨⟨b⟩⟩ := y
      simpa using h
    subst this
    have hb : (x == x) = true := by
      obtain ⟨⟨x⟩⟩ := x
      show ((⟨x⟩ : Array UInt8) == ⟨x⟩) = true
      simp
    exact ⟨rfl, fun n => by cases n <;> simp [Instr.sameBits, hb]⟩
  · cases h

theorem sameNow_eq {d : TypeDesc} {t : Nat} (hd : P.underlying t = some d) {v u : Value} {b : Bool} (h : Instr.sameNow d v u = some b) (D : Nat) : (Op.equalIn (D + 1) t v u).run P W = .ok b W := by
  unfold Instr.sameNow at h
  split at h
  · split at h
    · rename_i hk
      subst hk
      simp only [Option.some.injEq] at h
      subst h
      simp [Op.equalIn, run_underlyingE hd]
    · cases h
  · simp only [Option.some.injEq] at h
    subst h
    simp [Op.equalIn, run_underlyingE hd]
  · simp only [Option.some.injEq] at h
    subst h
    simp [Op.equalIn, run_underlyingE hd]
  · cases h

theorem eqCells_same {M : Nat → Prop} : ∀ {ks : List Nat} {a b : List AV} {vs us : List Value}, eqCells ks a b = some true → RVs W ρ M a vs → RVs W ρ M b us → vs = us ∧ ∀ n, (vs.zip us).all (fun (x, y) => Instr.sameBits n x y) = true
  | [], [], [], vs, us, _, hv, hu => by
    obtain rfl : vs = [] := List.eq_nil_of_length_eq_zero hv.1.symm
    obtain rfl : us = [] := List.eq_nil_of_length_eq_zero hu.1.symm
    exact ⟨rfl, fun n => rfl⟩
  | [], _ :: _, _, _, _, h, _, _ => by simp [eqCells] at h
  | [], [], _ :: _, _, _, h, _, _ => by simp [eqCells] at h
  | _ :: _, [], _, _, _, h, _, _ => by simp [eqCells] at h
  | _ :: _, _ :: _, [], _, _, h, _, _ => by simp [eqCells] at h
  | k :: ks, x :: xs, y :: ys, vs, us, h, hv, hu => by
    obtain ⟨v, vs, rfl, v1, v2⟩ := hv.uncons
    obtain ⟨u, us, rfl, u1, u2⟩ := hu.uncons
    simp only [eqCells] at h
    split at h
    · rename_i r s h1 h2
      simp only [Option.some.injEq, Bool.and_eq_true] at h
      obtain ⟨rfl, rfl⟩ := h
      obtain ⟨rfl, g1⟩ := eqCell_same h1 v1 u1
      obtain ⟨rfl, g2⟩ := eqCells_same h2 v2 u2
      exact ⟨rfl, fun n => by simp [g1 n]; simpa using g2 n⟩
    · cases h

/-- A key's cells are its value's. -/
theorem keyCells_sound (hT : TabOK P T) {M : Nat → Prop} {kt : Nat} {k : AV} {v : Value} {ks : List Nat} {kc : List AV} (h : keyCells T kt k = some (ks, kc)) (hv : RV W ρ M k v) :
    flatP P 9 kt = some ks ∧ KeyV P W ρ M kt kc v ∧ kc.length = ks.length ∧ T.flat kt = some ks := by
  unfold keyCells at h
  split at h
  · rename_i ks' hf hag
    obtain ⟨d, hd, hda⟩ := hT.agg _ _ hag
    split at h
    · rename_i cs
      split at h
      · rename_i hfit
        simp only [Option.some.injEq, Prod.mk.injEq] at h
        obtain ⟨rfl, rfl⟩ := h
        refine ⟨hT.flat _ _ hf, ⟨d, hd, ?_⟩, fits_len hfit, hf⟩
        rw [if_pos hda]
        cases hv with
        | agg hl hh => exact ⟨_, rfl, hl, hh⟩
      · cases h
    · cases h
  · rename_i ks' hf hag
    obtain ⟨d, hd, hda⟩ := hT.agg _ _ hag
    split at h
    · rename_i hfit
      simp only [Option.some.injEq, Prod.mk.injEq] at h
      obtain ⟨rfl, rfl⟩ := h
      refine ⟨hT.flat _ _ hf, ⟨d, hd, ?_⟩, fits_len hfit, hf⟩
      rw [if_neg (by simp [hda])]
      exact ⟨k, rfl, hv⟩
    · cases h
  · cases h

theorem keyV_same {M : Nat → Prop} {kt : Nat} {ks : List Nat} {a b : List AV} {v u : Value} (h : eqCells ks a b = some true) (hv : KeyV P W ρ M kt a v) (hu : KeyV P W ρ M kt b u) : v = u ∧ Instr.sameBits 10000 v u = true := by
  obtain ⟨d, hd, hv⟩ := hv
  obtain ⟨d', hd', hu⟩ := hu
  rw [hd] at hd'
  cases hd'
  split at hv
  · rename_i hag
    rw [if_pos hag] at hu
    obtain ⟨vs, rfl, v1⟩ := hv
    obtain ⟨us, rfl, u1⟩ := hu
    obtain ⟨rfl, g⟩ := eqCells_same h v1 u1
    refine ⟨rfl, ?_⟩
    have := g 9999
    show ((vs.toArray.size == vs.toArray.size) && (vs.toArray.toList.zip vs.toArray.toList).all fun (x, y) => Instr.sameBits 9999 x y) = true
    simpa using this
  · rename_i hag
    rw [if_neg hag] at hu
    obtain ⟨c, rfl, v1⟩ := hv
    obtain ⟨c', rfl, u1⟩ := hu
    have h1 : ∃ k, eqCell k c c' = some true := by
      cases ks with
      | nil => simp [eqCells] at h
      | cons k ks =>
        simp only [eqCells] at h
        split at h
        · rename_i r s e1 e2
          simp only [Option.some.injEq, Bool.and_eq_true] at h
          exact ⟨k, by rw [e1, h.1]⟩
        · cases h
    obtain ⟨k, h1⟩ := h1
    obtain ⟨rfl, g⟩ := eqCell_same h1 v1 u1
    exact ⟨rfl, g _⟩

/-- The entries stand for the map's. -/
def EsRel (W : World) (ρ : Rho) (M : Nat → Prop) (es : List (AV × AV × Nat)) (ms : List MapEntry) : Prop :=
  es.length = ms.length ∧ ∀ (j : Nat) (e : AV × AV × Nat) (m : MapEntry), es[j]? = some e → ms[j]? = some m → RV W ρ M e.1 m.key ∧ RV W ρ M e.2.1 m.val ∧ m.born = e.2.2

theorem asking_sound (hT : TabOK P T) {M : Nat → Prop} {kt : Nat} {ks : List Nat} {kc : List AV} {v : Value} (hk : flatP P 9 kt = some ks) (hv : KeyV P W ρ M kt kc v) :
    ∀ (es : List (AV × AV × Nat)) (ms : List MapEntry) (i : Nat) (r : Option (Nat × AV × Nat)), EsRel W ρ M es ms → findA T kt ks kc es i = some r →
      ∃ q, (Instr.findAsking kt v ms i).run P W = .ok q W ∧ (∀ d, P.underlying kt = some d → ∀ q', Instr.findNow d v ms i = some q' → q' = q) ∧
        match r with
        | none => q = none
        | some (j, x, b) => ∃ (m : MapEntry) (e : AV × AV × Nat), q = some (j, m.val) ∧ i ≤ j ∧ ms[j - i]? = some m ∧ es[j - i]? = some e ∧ e.2 = (x, b) ∧ Instr.sameBits 10000 m.key v = true
  | [], ms, i, r, hr, h => by
    obtain rfl : ms = [] := List.eq_nil_of_length_eq_zero hr.1.symm
    simp only [findA, Option.some.injEq] at h
    subst h
    exact ⟨none, by simp [Instr.findAsking], fun d _ q' h => by simp [Instr.findNow] at h; exact h.symm, rfl⟩
  | e :: es, ms, i, r, hr, h => by
    cases ms with
    | nil => simp [EsRel] at hr
    | cons m ms =>
      obtain ⟨r1, r2, r3⟩ := hr.2 0 e m rfl rfl
      have hrest : EsRel W ρ M es ms := ⟨by simpa using hr.1, fun j e' m' hj hj' => hr.2 (j + 1) e' m' (by simpa using hj) (by simpa using hj')⟩
      simp only [findA] at h
      split at h
      case h_2 => cases h
      rename_i ks' y hy
      obtain ⟨f1, f2, f3, f4⟩ := keyCells_sound hT hy r1
      split at h
      · rename_i heq
        simp only [Option.some.injEq] at h
        subst h
        have hq := eq_flat 9 kt ks hk 10000 (by omega) kc y v m.key true hv f2 heq
        obtain ⟨hsame, hbits⟩ := keyV_same heq hv f2
        subst hsame
        have hrun : (Op.equal kt m.key m.key).run P W = .ok true W := hq
        refine ⟨some (i, m.val), by simp [Instr.findAsking, hrun], fun d hd q' h' => ?_, m, e, rfl, Nat.le_refl _, by simp, by simp, rfl, hbits⟩
        simp only [Instr.findNow] at h'
        split at h'
        · simpa using h'.symm
        · rename_i hsn
          have := sameNow_eq (P := P) (W := W) hd hsn 9999
          rw [hq] at this
          cases this
        · cases h'
      · rename_i heq
        have hq : (Op.equal kt v m.key).run P W = .ok false W := eq_flat 9 kt ks hk 10000 (by omega) kc y v m.key false hv f2 heq
        obtain ⟨q, g1, g2, g3⟩ := asking_sound hT hk hv es ms (i + 1) r hrest h
        refine ⟨q, by simp [Instr.findAsking, hq, g1], fun d hd q' h' => ?_, ?_⟩
        · simp only [Instr.findNow] at h'
          split at h'
          · rename_i hsn
            have hq' : (Op.equalIn (9999 + 1) kt v m.key).run P W = .ok false W := hq
            have := sameNow_eq (P := P) (W := W) hd hsn 9999
            rw [hq'] at this
            cases this
          · exact g2 d hd q' h'
          · cases h'
        · cases r with
          | none => exact g3
          | some z =>
            obtain ⟨j, x, b⟩ := z
            obtain ⟨m', e', h1, h2, h3, h4, h5⟩ := g3
            refine ⟨m', e', h1, by omega, ?_, ?_, h5⟩
            · rw [← h3, show j - i = (j - (i + 1)) + 1 by omega]; simp
            · rw [← h4, show j - i = (j - (i + 1)) + 1 by omega]; simp
      · cases h

theorem seek_sound (hT : TabOK P T) {M : Nat → Prop} {kt : Nat} {k : AV} {v : Value} {es : List (AV × AV × Nat)} {ms : List MapEntry} {r : Option (Nat × AV × Nat)} (hv : RV W ρ M k v) (hr : EsRel W ρ M es ms) (h : seekA T kt k es = some r) (em : Bool) :
    (Instr.checkKey em 10000 kt v).run P W = .ok () W ∧ ∃ q, (Instr.findKey kt v ms).run P W = .ok q W ∧
      match r with
      | none => q = none
      | some (j, x, b) => ∃ (m : MapEntry) (e : AV × AV × Nat), q = some (j, m.val) ∧ ms[j]? = some m ∧ es[j]? = some e ∧ e.2 = (x, b) ∧ Instr.sameBits 10000 m.key v = true := by
  unfold seekA at h
  split at h
  case h_2 => cases h
  rename_i ks kc hk
  obtain ⟨f1, f2, f3, f4⟩ := keyCells_sound hT hk hv
  refine ⟨check_flat em 9 kt ks f1 10000 (by omega) kc v f2 f3, ?_⟩
  obtain ⟨q, g1, g2, g3⟩ := asking_sound hT f1 f2 es ms 0 r hr h
  refine ⟨q, ?_, ?_⟩
  · obtain ⟨d, hd, _⟩ := f2
    unfold Instr.findKey
    simp only [Sem.run_bind, run_underlyingE hd, Result.andThen_ok]
    split
    · rename_i q' hq'
      rw [g2 d hd q' hq']
      simp
    · exact g1
  · cases r with
    | none => exact g3
    | some z =>
      obtain ⟨j, x, b⟩ := z
      obtain ⟨m, e, h1, h2, h3, h4, h5, h6⟩ := g3
      exact ⟨m, e, h1, by simpa using h3, by simpa using h4, h5, h6⟩

theorem mapRow_some {l : Nat} {es : List (AV × AV × Nat)} {clk : Nat} (h : mapRow S l = some (es, clk)) : S[l]? = some (.map es clk) := by
  unfold mapRow at h
  split at h
  · rename_i es' clk' hS
    simp only [Option.some.injEq, Prod.mk.injEq] at h
    rw [hS, h.1, h.2]
  · cases h

theorem mapRow_sound (hr : Rel W ρ S) {l b base : Nat} {es : List (AV × AV × Nat)} {clk : Nat} (h : mapRow S l = some (es, clk)) (hρ : ρ l = some (b, base)) :
    ∃ ms : Array MapEntry, W.heap[b]? = some (.map ms clk) ∧ EsRel W ρ (Mut ρ S) es ms.toList := by
  obtain ⟨_, ms, h1, h2, h3⟩ := hr.rows l _ b base (mapRow_some h) hρ
  exact ⟨ms, h1, by simpa using h2, fun j e m hj hm => h3 j e m hj (by simpa using hm)⟩

theorem map_write (hr : Rel W ρ S) {l b base : Nat} {es es' : List (AV × AV × Nat)} {clk clk' : Nat} {ms ms' : Array MapEntry} (h : mapRow S l = some (es, clk)) (hρ : ρ l = some (b, base)) (hW : W.heap[b]? = some (.map ms clk))
    (hn : EsRel W ρ (Mut ρ S) es' ms'.toList) : Rel { W with heap := W.heap.setIfInBounds b (.map ms' clk') } ρ (S.set l (.map es' clk')) ∧ ∀ n, Ext n ρ S W ρ (S.set l (.map es' clk')) { W with heap := W.heap.setIfInBounds b (.map ms' clk') } := by
  have hS := mapRow_some h
  have hl := (hr.dom l b base hρ).1
  have hbl := (hr.dom l b base hρ).2
  have h0 := (hr.rows l _ b base hS hρ).1
  generalize hW' : ({ W with heap := W.heap.setIfInBounds b (.map ms' clk') } : World) = W'
  have hsame : W'.heap[b]? = some (.map ms' clk') := by rw [← hW']; simp [hbl]
  have hother : ∀ x, x ≠ b → W'.heap[x]? = W.heap[x]? := by intro x hx; rw [← hW']; simp [Ne.symm hx]
  have hm : ∀ x, Mut ρ (S.set l (.map es' clk')) x ↔ Mut ρ S x := by
    intro x
    constructor
    · rintro ⟨k, bs, r, g1, g2, g3⟩
      rw [List.getElem?_set] at g1
      split at g1
      · rename_i hk; subst hk; exact ⟨l, bs, _, hS, rfl, g3⟩
      · exact ⟨k, bs, r, g1, g2, g3⟩
    · rintro ⟨k, bs, r, g1, g2, g3⟩
      by_cases hk : l = k
      · subst hk; exact ⟨l, bs, .map es' clk', by simp [hl], rfl, g3⟩
      · exact ⟨k, bs, r, by rw [List.getElem?_set, if_neg hk]; exact g1, g2, g3⟩
  have hb : Mut ρ S b := ⟨l, base, _, hS, rfl, hρ⟩
  have hext : ∀ n, Ext n ρ S W ρ (S.set l (.map es' clk')) W' := by
    intro n
    refine ⟨by rw [← hW'], by rw [← hW'], by rw [← hW'], by rw [← hW']; simp, fun x hx hM => hother x (fun e => hM (e ▸ hb)), fun _ _ h => h, fun x _ h => (hm x).1 h, fun x c t' fr hc => ?_, fun _ _ h h' => (by rw [h'] at h; cases h), by simp⟩
    by_cases hx : x = b
    · subst hx
      rw [hW] at hc
      cases hc
    · exact ⟨c, (hother x hx).trans hc, rfl⟩
  refine ⟨⟨fun k x bs hk => ?_, fun k r x bs g1 g2 => ?_, fun k k' r r' x bs bs' g1 g2 g3 g4 g5 g6 => ?_⟩, hext⟩
  · have := hr.dom k x bs hk
    exact ⟨by simpa using this.1, Nat.lt_of_lt_of_le this.2 (hext 0).size⟩
  · rw [List.getElem?_set] at g1
    split at g1
    · rename_i hk
      subst hk
      simp [hl] at g1
      subst g1
      rw [hρ] at g2
      simp at g2
      obtain ⟨rfl, rfl⟩ := g2
      refine ⟨h0, ms', hsame, by simpa using hn.1, fun j e m hj hm' => ?_⟩
      obtain ⟨q1, q2, q3⟩ := hn.2 j e m hj (by simpa using hm')
      exact ⟨q1.step (hext 0), q2.step (hext 0), q3⟩
    · rename_i hk
      cases hd : r.live with
      | false => cases r <;> simp [Row.live] at hd; trivial
      | true =>
        have hx : x ≠ b := fun e => hk (hr.inj l k _ r b base bs hS g1 rfl hd hρ (e ▸ g2))
        exact RowRel.step (hother x hx) (fun c v => RV.step (hext 0)) (hr.rows k r x bs g1 g2)
  · have hlv : ∀ (k : Nat) (r : Row), (S.set l (.map es' clk'))[k]? = some r → r.live = true → ∃ r0 : Row, S[k]? = some r0 ∧ r0.live = true := by
      intro k r g h
      rw [List.getElem?_set] at g
      split at g
      · rename_i hk; subst hk; exact ⟨_, hS, rfl⟩
      · exact ⟨r, g, h⟩
    obtain ⟨r0, e1, e2⟩ := hlv k r g1 g3
    obtain ⟨r0', e1', e2'⟩ := hlv k' r' g2 g4
    exact hr.inj k k' r0 r0' x bs bs' e1 e1' e2 e2' g5 g6

theorem EsRel.push {M : Nat → Prop} {es : List (AV × AV × Nat)} {ms : Array MapEntry} (h : EsRel W ρ M es ms.toList) {k v : AV} {kv vv : Value} {c : Nat} (hk : RV W ρ M k kv) (hv : RV W ρ M v vv) :
    EsRel W ρ M (es ++ [(k, v, c)]) (ms.push { key := kv, val := vv, born := c }).toList := by
  refine ⟨by simp [h.1], fun j e m hj hm => ?_⟩
  rw [Array.toList_push] at hm
  have hl := h.1
  by_cases hlt : j < es.length
  · rw [List.getElem?_append_left hlt] at hj
    rw [List.getElem?_append_left (by omega)] at hm
    exact h.2 j e m hj hm
  · rw [List.getElem?_append_right (by omega)] at hj hm
    rw [hl] at hj
    cases hx : j - ms.toList.length with
    | zero =>
      rw [hx] at hj hm
      simp at hj hm
      subst hj; subst hm
      exact ⟨hk, hv, rfl⟩
    | succ y => rw [hx] at hj; simp at hj

theorem EsRel.modify {M : Nat → Prop} {es : List (AV × AV × Nat)} {ms : Array MapEntry} (h : EsRel W ρ M es ms.toList) {i : Nat} {e0 : AV × AV × Nat} {m0 : MapEntry} {f : MapEntry → MapEntry} (hi : ms.toList[i]? = some m0) (hn : RV W ρ M e0.1 (f m0).key ∧ RV W ρ M e0.2.1 (f m0).val ∧ (f m0).born = e0.2.2) :
    EsRel W ρ M (es.set i e0) (ms.modify i f).toList := by
  refine ⟨by simp [h.1], fun j e m hj hm => ?_⟩
  rw [List.getElem?_set] at hj
  simp only [Array.getElem?_toList, Array.getElem?_modify] at hm
  split at hj
  · rename_i hij
    subst hij
    split at hj
    · simp only [Option.some.injEq] at hj
      subst hj
      rw [if_pos rfl] at hm
      simp only [Array.getElem?_toList] at hi
      rw [hi] at hm
      simp at hm
      subst hm
      exact hn
    · cases hj
  · rename_i hij
    rw [if_neg hij] at hm
    exact h.2 j e m hj (by simpa using hm)

theorem keyThatStays_of {old new : Value} (h : Instr.sameBits 10000 old new = true) : (Instr.keyThatStays old new).run P W = .ok new W := by
  simp [Instr.keyThatStays, h]

theorem zeroA_sound (hT : TabOK P T) {M : Nat → Prop} {t : Nat} {z : AV} (h : zeroA T t = some z) : ∃ v, (zeroValue t).run P W = .ok v W ∧ RV W ρ M z v := by
  unfold zeroA at h
  split at h
  · rename_i zs hag hz
    simp only [Option.some.injEq] at h
    subst h
    obtain ⟨i, v, h1, h2, h3, _⟩ := hT.zero _ _ hz
    obtain ⟨i', v', g1, g2, g3⟩ := hT.zsh _ _ _ hz hag
    rw [h1] at g1; cases g1
    rw [h2] at g2; cases g2
    refine ⟨v, run_zeroE h1 h2, ?_⟩
    cases v <;> simp [isAggV] at g3
    rename_i cs
    obtain ⟨l⟩ := cs
    have := zero_rel (W := W) (ρ := ρ) (M := M) l
    simp only [Value.cells] at h3
    rw [h3]
    exact RV.agg this.1 this.2
  · rename_i c hag hz
    simp only [Option.some.injEq] at h
    subst h
    obtain ⟨i, v, h1, h2, h3, _⟩ := hT.zero _ _ hz
    obtain ⟨i', v', g1, g2, g3⟩ := hT.zsh _ _ _ hz hag
    rw [h1] at g1; cases g1
    rw [h2] at g2; cases g2
    refine ⟨v, run_zeroE h1 h2, ?_⟩
    have hc : v.cells = #[v] := by cases v <;> simp [isAggV] at g3 <;> rfl
    rw [hc] at h3
    simp at h3
    rw [h3]
    exact RV.const W ρ M v
  · cases h

theorem mapUpdate_sound (hT : TabOK P T) (hr : Rel W ρ S) {ty : Nat} {x k v c : AV} {xv kv vv : Value} {S' : Store} (hx : RV W ρ (Mut ρ S) x xv) (hk : RV W ρ (Mut ρ S) k kv) (hv : RV W ρ (Mut ρ S) v vv) (h : mapUpdateA T S ty x k v = some (c, S')) :
    ∃ W', (Instr.mapUpdate ty xv kv vv).run P W = .ok () W' ∧ c = undefA ∧ Rel W' ρ S' ∧ ∀ n, Ext n ρ S W ρ S' W' := by
  unfold mapUpdateA at h
  split at h
  case h_2 => cases h
  rename_i l kt et hmt
  have hu := hT.mapT _ _ _ hmt
  split at h
  case h_2 => cases h
  rename_i es clk hrow
  cases hx with
  | @map _ b hρ =>
    obtain ⟨ms, hW, hes⟩ := mapRow_sound hr hrow hρ
    split at h
    · rename_i i w born hseek
      simp only [Option.some.injEq, Prod.mk.injEq] at h
      obtain ⟨rfl, rfl⟩ := h
      obtain ⟨hck, q, hf, m, e, rfl, hm, he, heq, hbits⟩ := seek_sound hT hk hes hseek false
      have hbe := (hes.2 i e m he hm).2.2
      have hn := EsRel.modify hes (f := fun e => { e with key := kv, val := vv }) (e0 := (k, v, born)) hm ⟨hk, hv, by rw [hbe, heq]⟩
      obtain ⟨g1, g2⟩ := map_write hr (clk' := clk) hrow hρ hW hn
      have hm' : ms[i]? = some m := by simpa using hm
      refine ⟨_, ?_, rfl, g1, g2⟩
      simp [Instr.mapUpdate, run_underlyingE hu, MapKept.run_getObj_map hW, hck, hf, hm', keyThatStays_of hbits, MapKept.run_setObj_map _ hW, Result.andThen]
    · rename_i hseek
      simp only [Option.some.injEq, Prod.mk.injEq] at h
      obtain ⟨rfl, rfl⟩ := h
      obtain ⟨hck, q, hf, rfl⟩ := seek_sound hT hk hes hseek false
      obtain ⟨g1, g2⟩ := map_write hr (clk' := clk + 1) hrow hρ hW (hes.push (c := clk) hk hv)
      refine ⟨_, ?_, rfl, g1, g2⟩
      simp [Instr.mapUpdate, run_underlyingE hu, MapKept.run_getObj_map hW, hck, hf, MapKept.run_setObj_map _ hW, Result.andThen]
    · cases h

theorem mapEntry_sound (hT : TabOK P T) (hr : Rel W ρ S) {ty : Nat} {x k c : AV} {xv kv : Value} {S' : Store} (hx : RV W ρ (Mut ρ S) x xv) (hk : RV W ρ (Mut ρ S) k kv) (h : mapEntryA T S ty x k = some (c, S')) :
    ∃ z W', (Instr.mapEntry ty xv kv).run P W = .ok z W' ∧ RV W' ρ (Mut ρ S') c z ∧ Rel W' ρ S' ∧ ∀ n, Ext n ρ S W ρ S' W' := by
  unfold mapEntryA at h
  split at h
  case h_2 => cases h
  rename_i l kt et hmt
  have hu := hT.mapT _ _ _ hmt
  split at h
  case h_2 => cases h
  rename_i es clk z hrow hz
  obtain ⟨zv, hz1, hz2⟩ := zeroA_sound (P := P) (W := W) (ρ := ρ) (M := Mut ρ S) hT hz
  cases hx with
  | @map _ b hρ =>
    obtain ⟨ms, hW, hes⟩ := mapRow_sound hr hrow hρ
    split at h
    · rename_i i w born hseek
      simp only [Option.some.injEq, Prod.mk.injEq] at h
      obtain ⟨rfl, rfl⟩ := h
      obtain ⟨hck, q, hf, m, e, rfl, hm, he, heq, hbits⟩ := seek_sound hT hk hes hseek false
      obtain ⟨r1, r2, r3⟩ := hes.2 i e m he hm
      rw [heq] at r2 r3
      have hn := EsRel.modify hes (f := fun e => { e with key := kv }) (e0 := (k, w, born)) hm ⟨hk, r2, r3⟩
      obtain ⟨g1, g2⟩ := map_write hr (clk' := clk) hrow hρ hW hn
      have hm' : ms[i]? = some m := by simpa using hm
      refine ⟨.tuple #[m.val, goInt m.born], _, ?_, ?_, g1, g2⟩
      · simp [Instr.mapEntry, run_underlyingE hu, MapKept.run_getObj_map hW, hck, hf, hm', keyThatStays_of hbits, MapKept.run_setObj_map _ hW, Result.andThen]
      · refine RV.tuple (vs := [m.val, goInt m.born]) rfl ((RVs.cons (r2.step (g2 0)) (RVs.cons ?_ (RVs.nil _ _ _))).2)
        rw [r3]
        exact RV.int _ _
    · rename_i hseek
      simp only [Option.some.injEq, Prod.mk.injEq] at h
      obtain ⟨rfl, rfl⟩ := h
      obtain ⟨hck, q, hf, rfl⟩ := seek_sound hT hk hes hseek false
      obtain ⟨g1, g2⟩ := map_write hr (clk' := clk + 1) hrow hρ hW (hes.push (c := clk) hk hz2)
      refine ⟨.tuple #[zv, goInt clk], _, ?_, ?_, g1, g2⟩
      · simp [Instr.mapEntry, run_underlyingE hu, MapKept.run_getObj_map hW, hck, hf, hz1, MapKept.run_setObj_map _ hW, Result.andThen]
      · exact RV.tuple (vs := [zv, goInt clk]) rfl ((RVs.cons (hz2.step (g2 0)) (RVs.cons (RV.int _ _) (RVs.nil _ _ _))).2)
    · cases h

theorem lookup_sound (hT : TabOK P T) (hr : Rel W ρ S) {ty : Nat} {x k c : AV} {xv kv : Value} {ok : Bool} (hx : RV W ρ (Mut ρ S) x xv) (hk : RV W ρ (Mut ρ S) k kv) (h : lookupA T S ty x k ok = some c) :
    ∃ z, (Instr.lookup ty xv kv ok).run P W = .ok z W ∧ RV W ρ (Mut ρ S) c z := by
  unfold lookupA at h
  split at h
  case h_2 => cases h
  rename_i kt et hmt
  have hu := hT.mapT _ _ _ hmt
  split at h
  case h_2 => cases h
  rename_i es z hrow hz
  obtain ⟨zv, hz1, hz2⟩ := zeroA_sound (P := P) (W := W) (ρ := ρ) (M := Mut ρ S) hT hz
  have pair : ∀ (a : AV) (v : Value) (b : Bool), RV W ρ (Mut ρ S) a v → RV W ρ (Mut ρ S) (.tuple [a, .bool b]) (.tuple #[v, .bool b]) := by
    intro a v b ha
    exact RV.tuple (vs := [v, .bool b]) rfl ((RVs.cons ha (RVs.cons (RV.bool _) (RVs.nil _ _ _))).2)
  unfold mapRows at hrow
  split at hrow
  · simp only [Option.some.injEq] at hrow
    subst hrow
    cases hx
    have hes : EsRel W ρ (Mut ρ S) [] ([] : List MapEntry) := ⟨rfl, fun j e m h => by simp at h⟩
    split at h
    · rename_i i w born hseek
      obtain ⟨_, q, _, m, e, _, hm, _⟩ := seek_sound hT hk hes hseek true
      simp at hm
    · rename_i hseek
      simp only [Option.some.injEq] at h
      obtain ⟨hck, q, hf, rfl⟩ := seek_sound hT hk hes hseek true
      cases ok
      · simp at h; subst h
        exact ⟨zv, by simp [Instr.lookup, run_underlyingE hu, hck, hf, hz1], hz2⟩
      · simp at h; subst h
        exact ⟨_, by simp [Instr.lookup, run_underlyingE hu, hck, hf, hz1], pair _ _ _ hz2⟩
    · cases h
  · rename_i l
    obtain ⟨⟨es', clk⟩, hrow', rfl⟩ := Option.map_eq_some_iff.1 hrow
    cases hx with
    | @map _ b hρ =>
      obtain ⟨ms, hW, hes⟩ := mapRow_sound hr hrow' hρ
      simp only at h
      split at h
      · rename_i i w born hseek
        simp only [Option.some.injEq] at h
        obtain ⟨hck, q, hf, m, e, rfl, hm, he, heq, _⟩ := seek_sound hT hk hes hseek ms.isEmpty
        obtain ⟨r1, r2, r3⟩ := hes.2 i e m he hm
        rw [heq] at r2
        cases ok
        · simp at h; subst h
          exact ⟨m.val, by simp [Instr.lookup, run_underlyingE hu, MapKept.run_getObj_map hW, hck, hf], r2⟩
        · simp at h; subst h
          exact ⟨_, by simp [Instr.lookup, run_underlyingE hu, MapKept.run_getObj_map hW, hck, hf], pair _ _ _ r2⟩
      · rename_i hseek
        simp only [Option.some.injEq] at h
        obtain ⟨hck, q, hf, rfl⟩ := seek_sound hT hk hes hseek ms.isEmpty
        cases ok
        · simp at h; subst h
          exact ⟨zv, by simp [Instr.lookup, run_underlyingE hu, MapKept.run_getObj_map hW, hck, hf, hz1], hz2⟩
        · simp at h; subst h
          exact ⟨_, by simp [Instr.lookup, run_underlyingE hu, MapKept.run_getObj_map hW, hck, hf, hz1], pair _ _ _ hz2⟩
      · cases h
  · cases hrow

theorem entryStore_sound (hr : Rel W ρ S) {x stamp v c : AV} {xv sv vv : Value} {S' : Store} (ty : Nat) (hx : RV W ρ (Mut ρ S) x xv) (hs : RV W ρ (Mut ρ S) stamp sv) (hv : RV W ρ (Mut ρ S) v vv) (h : entryStoreA S x stamp v = some (c, S')) :
    ∃ W', (Instr.entryStore ty xv sv vv).run P W = .ok () W' ∧ c = undefA ∧ Rel W' ρ S' ∧ ∀ n, Ext n ρ S W ρ S' W' := by
  unfold entryStoreA at h
  split at h
  case h_2 => cases h
  rename_i l kk n
  split at h
  case h_2 => cases h
  rename_i es clk hrow
  cases hx with
  | @map _ b hρ =>
    cases hs
    obtain ⟨ms, hW, hes⟩ := mapRow_sound hr hrow hρ
    split at h
    case h_2 => cases h
    rename_i i hi
    split at h
    case h_2 => cases h
    rename_i e he
    simp only [Option.some.injEq, Prod.mk.injEq] at h
    obtain ⟨rfl, rfl⟩ := h
    have hil : i < ms.toList.length := by rw [← hes.1]; exact (List.getElem?_eq_some_iff.1 he).1
    obtain ⟨r1, r2, r3⟩ := hes.2 i e _ he (List.getElem?_eq_getElem hil)
    have hn := EsRel.modify hes (f := fun e => { e with val := vv }) (e0 := (e.1, v, e.2.2)) (List.getElem?_eq_getElem hil) ⟨r1, hv, r3⟩
    obtain ⟨g1, g2⟩ := map_write hr (clk' := clk) hrow hρ hW hn
    have hidx : ms.findIdx? (fun e => (e.born : Int) == n) = some i := by
      have h1 : ms.toList.findIdx? (fun e => (e.born : Int) == n) = es.findIdx? (fun e => (e.2.2 : Int) == n) := by
        have hl := hes.1
        have : ms.toList.map (fun e => (e.born : Int)) = es.map (fun e => (e.2.2 : Int)) := by
          apply List.ext_getElem?
          intro j
          simp only [List.getElem?_map]
          by_cases hj : j < es.length
          · have hj' : j < ms.toList.length := by rw [← hes.1]; exact hj
            rw [List.getElem?_eq_getElem hj, List.getElem?_eq_getElem hj']
            simp only [Option.map_some]
            rw [(hes.2 j _ _ (List.getElem?_eq_getElem hj) (List.getElem?_eq_getElem hj')).2.2]
          · rw [List.getElem?_eq_none (by omega), List.getElem?_eq_none (by omega)]
            rfl
        have e1 : ∀ l : List MapEntry, l.findIdx? (fun e => (e.born : Int) == n) = (l.map (fun e => (e.born : Int))).findIdx? (fun b => b == n) := fun l => by rw [List.findIdx?_map]; rfl
        have e2 : ∀ l : List (AV × AV × Nat), l.findIdx? (fun e => (e.2.2 : Int) == n) = (l.map (fun e => (e.2.2 : Int))).findIdx? (fun b => b == n) := fun l => by rw [List.findIdx?_map]; rfl
        rw [e1, e2, this]
      have h2 : ms.findIdx? (fun e => (e.born : Int) == n) = ms.toList.findIdx? (fun e => (e.born : Int) == n) := by
        obtain ⟨l⟩ := ms
        simp
      rw [h2, h1]
      exact hi
    refine ⟨_, ?_, rfl, g1, g2⟩
    simp [Instr.entryStore, MapKept.run_getObj_map hW, asInt, asIntOf, hidx, MapKept.run_setObj_map _ hW, Result.andThen]

theorem EsRel.erase {M : Nat → Prop} {es : List (AV × AV × Nat)} {ms : Array MapEntry} (h : EsRel W ρ M es ms.toList) (i : Nat) : EsRel W ρ M (es.eraseIdx i) (ms.eraseIdxIfInBounds i).toList := by
  have he : (ms.eraseIdxIfInBounds i).toList = ms.toList.eraseIdx i := by
    unfold Array.eraseIdxIfInBounds
    split
    · simp
    · rename_i hi
      rw [List.eraseIdx_of_length_le (by simpa using hi)]
  rw [he]
  refine ⟨by simp [List.length_eraseIdx, h.1], fun j e m hj hm => ?_⟩
  rw [List.getElem?_eraseIdx] at hj hm
  split at hj
  · rename_i hlt
    rw [if_pos hlt] at hm
    exact h.2 j e m hj hm
  · rename_i hlt
    rw [if_neg hlt] at hm
    exact h.2 _ e m hj hm

theorem delete_sound (hT : TabOK P T) (hr : Rel W ρ S) {ty ty2 ty' : Nat} {x k c : AV} {xv kv : Value} {S' : Store} (hx : RV W ρ (Mut ρ S) x xv) (hk : RV W ρ (Mut ρ S) k kv) (h : deleteA T S ty x k = some (c, S')) :
    ∃ W', (Builtin.delete_ #[ty, ty2] ty' #[xv, kv]).run P W = .ok (.tuple #[]) W' ∧ c = undefA ∧ Rel W' ρ S' ∧ ∀ n, Ext n ρ S W ρ S' W' := by
  unfold deleteA at h
  split at h
  case h_2 => cases h
  rename_i kt et hmt
  have hu := hT.mapT _ _ _ hmt
  split at h
  · split at h
    · rename_i z hkc
      obtain ⟨ks, kc⟩ := z
      simp only [Option.some.injEq, Prod.mk.injEq] at h
      obtain ⟨rfl, rfl⟩ := h
      cases hx
      obtain ⟨f1, f2, f3, f4⟩ := keyCells_sound hT hkc hk
      have hck := check_flat (P := P) true 9 kt ks f1 10000 (by omega) kc kv f2 f3
      exact ⟨W, by simp [Builtin.delete_, run_underlyingE hu, hck], rfl, hr, fun n => Ext.refl _ _ _ _⟩
    · cases h
  · rename_i l
    split at h
    case h_2 => cases h
    rename_i es clk hrow
    cases hx with
    | @map _ b hρ =>
      obtain ⟨ms, hW, hes⟩ := mapRow_sound hr hrow hρ
      split at h
      · rename_i i w born hseek
        simp only [Option.some.injEq, Prod.mk.injEq] at h
        obtain ⟨rfl, rfl⟩ := h
        obtain ⟨hck, q, hf, m, e, rfl, hm, he, heq, hbits⟩ := seek_sound hT hk hes hseek ms.isEmpty
        obtain ⟨g1, g2⟩ := map_write hr (clk' := clk) hrow hρ hW (hes.erase i)
        refine ⟨_, ?_, rfl, g1, g2⟩
        simp [Builtin.delete_, run_underlyingE hu, MapKept.run_getObj_map hW, hck, hf, MapKept.run_setObj_map _ hW, Result.andThen]
      · rename_i hseek
        simp only [Option.some.injEq, Prod.mk.injEq] at h
        obtain ⟨rfl, rfl⟩ := h
        obtain ⟨hck, q, hf, rfl⟩ := seek_sound hT hk hes hseek ms.isEmpty
        have hback : S.set l (.map es clk) = S := by
          apply List.ext_getElem?
          intro j
          rw [List.getElem?_set]
          split
          · rename_i hj
            subst hj
            have := mapRow_some hrow
            rw [if_pos (List.getElem?_eq_some_iff.1 this).1, this]
          · rfl
        obtain ⟨g1, g2⟩ := map_write hr (clk' := clk) hrow hρ hW hes
        rw [hback] at g1 g2
        refine ⟨_, ?_, rfl, g1, g2⟩
        simp [Builtin.delete_, run_underlyingE hu, MapKept.run_getObj_map hW, hck, hf, MapKept.run_setObj_map _ hW, Result.andThen]
      · cases h
  · cases h

theorem lenMap_sound (hT : TabOK P T) (hr : Rel W ρ S) {ty ty' : Nat} {x c : AV} {xv : Value} (hx : RV W ρ (Mut ρ S) x xv) (h : lenMap T S ty x = some c) :
    ∃ z, (Builtin.len_ #[ty] ty' #[xv]).run P W = .ok z W ∧ RV W ρ (Mut ρ S) c z := by
  unfold lenMap at h
  split at h
  case isFalse => cases h
  rename_i hkd
  obtain ⟨e, e', hu⟩ : ∃ e e', P.underlying ty = some (.map e e') := hT.kind _ _ hkd
  obtain ⟨es, hrow, rfl⟩ := Option.map_eq_some_iff.1 h
  unfold mapRows at hrow
  split at hrow
  · simp only [Option.some.injEq] at hrow
    subst hrow
    cases hx
    exact ⟨_, by simp [Builtin.len_, run_underlyingE hu, goInt], .int _ _⟩
  · rename_i l
    obtain ⟨⟨es', clk⟩, hrow', rfl⟩ := Option.map_eq_some_iff.1 hrow
    cases hx with
    | @map _ b hρ =>
      obtain ⟨ms, hW, hes⟩ := mapRow_sound hr hrow' hρ
      refine ⟨goInt ms.size, by simp [Builtin.len_, run_underlyingE hu, MapKept.run_getObj_map hW], ?_⟩
      have : es'.length = ms.size := by simpa using hes.1
      simp only [this]
      exact .int _ _
  · cases hrow

theorem lenB_sound (hT : TabOK P T) (hr : Rel W ρ S) {ty ty' : Nat} {x c : AV} {xv : Value} (hx : RV W ρ (Mut ρ S) x xv) (h : lenB T S ty x = some c) :
    ∃ z, (Builtin.len_ #[ty] ty' #[xv]).run P W = .ok z W ∧ RV W ρ (Mut ρ S) c z := by
  unfold lenB at h
  split at h
  · rename_i v hv
    simp only [Option.some.injEq] at h
    subst h
    exact len_sound hT hx hv
  · exact lenMap_sound hT hr hx h

theorem sliceB_sound (hT : TabOK P T) (hr : Rel W ρ S) {ty : Nat} {x c : AV} {lo hi : Option AV} {v : Value} {lov hiv : Option Value} (hv : RV W ρ (Mut ρ S) x v) (hlo : ORV W ρ (Mut ρ S) lo lov) (hhi : ORV W ρ (Mut ρ S) hi hiv)
    (h : sliceB T S ty x lo hi = some c) : ∃ y, (Instr.sliceAt ty v lov hiv none).run P W = .ok y W ∧ RV W ρ (Mut ρ S) c y := by
  unfold sliceB at h
  split at h
  · rename_i l o
    unfold slicePA at h
    split at h
    case h_2 => cases h
    rename_i n e ha
    have hu := hT.arr _ _ _ ha
    split at h
    case h_2 => cases h
    rename_i sz cs hsz hrow
    split at h
    case h_2 => cases h
    rename_i l1 h1 e1 e2
    split at h
    case isFalse => cases h
    rename_i hc
    simp only [Option.some.injEq] at h
    subst h
    obtain ⟨i, hi', hie⟩ := hT.sz _ _ hsz
    obtain ⟨t, hS⟩ := rowCells_some hrow
    cases hv with
    | @ptr _ b base _ hρ =>
      obtain ⟨cur, hcur, hfit, _⟩ := hr.rows l _ b base hS hρ
      have hb := bounds_sound (P := P) (W := W) (b := false) (cap := n) hlo hhi e1 e2 hc.1 hc.2.1
      have hne : ¬ n = l1 := by omega
      refine ⟨.slice (some ⟨b, base + (o + l1 * sz), none⟩) (h1 - l1) (n - l1), ?_, ?_⟩
      · simp [Instr.sliceAt, run_underlyingE hu, Instr.sureAddr, hb, run_sizeOfE hi', hie, hne, add_add, Nat.add_assoc]
      · refine RV.sl hρ (by omega) (Nat.le_refl _) hcur ?_
        have : l1 * sz + (n - l1) * sz = n * sz := by rw [← Nat.add_mul]; congr 1; omega
        omega
  · exact slice_sound hT hv hlo hhi h

theorem convert_sound (hT : TabOK P T) {M : Nat → Prop} {src dst : Nat} {x c : AV} {v : Value} (hv : RV W ρ M x v) (h : convertA T src dst x = some c) : ∃ y, (convert src dst v).run P W = .ok y W ∧ RV W ρ M c y := by
  unfold convertA at h
  split at h
  · rename_i k0 n b k hb hk
    simp only [Option.some.injEq] at h
    subst h
    cases hv
    obtain ⟨d, hd, _⟩ := hT.agg _ _ hb
    exact ⟨_, by simp [convert, run_underlyingE hd, run_underlyingE (hT.intK _ _ hk), Conv.intToInt], .int _ _⟩
  · cases h

theorem indexV_sound (hT : TabOK P T) {M : Nat → Prop} {ty : Nat} {x i c : AV} {v u : Value} (hv : RV W ρ M x v) (hu : RV W ρ M i u) (h : indexVA T ty x i = some c) : ∃ y, (Instr.index ty v u).run P W = .ok y W ∧ RV W ρ M c y := by
  unfold indexVA at h
  split at h
  · rename_i cs k n
    split at h
    case h_2 => cases h
    rename_i len e ha
    split at h
    case h_2 => cases h
    rename_i sz ag hsz hag
    split at h
    case isFalse => cases h
    rename_i hc
    obtain ⟨ti, hi, hie⟩ := hT.sz _ _ hsz
    obtain ⟨d, hd, hda⟩ := hT.agg _ _ hag
    cases hu
    cases hv with
    | @agg _ vs hl hh =>
      split at h
      · rename_i hagt
        subst hagt
        split at h
        case isFalse => cases h
        rename_i hfit
        simp only [Option.some.injEq] at h
        subst h
        refine ⟨.agg (vs.toArray.extract (n.toNat * sz) (n.toNat * sz + sz)), by simp [Instr.index, asIntOf, run_underlyingE (hT.arr _ _ _ ha), hc, part, run_isAggE hd, hda, run_sizeOfE hi, hie], ?_⟩
        have hq : RVs W ρ M ((cs.drop (n.toNat * sz)).take sz) ((vs.drop (n.toNat * sz)).take sz) := (RVs.drop ⟨hl, hh⟩ _).take _
        have he : vs.toArray.extract (n.toNat * sz) (n.toNat * sz + sz) = ((vs.drop (n.toNat * sz)).take sz).toArray := by simp
        rw [he]
        exact RV.agg hq.1 hq.2
      · rename_i hagf
        have hagf : ag = false := by simpa using hagf
        subst hagf
        have hlt : n.toNat * sz < vs.length := by rw [← hl]; exact (List.getElem?_eq_some_iff.1 h).1
        exact ⟨vs[n.toNat * sz], by simp [Instr.index, asIntOf, run_underlyingE (hT.arr _ _ _ ha), hc, part, run_isAggE hd, hda, run_sizeOfE hi, hie, hlt], hh _ _ _ h (List.getElem?_eq_getElem hlt)⟩
  · rename_i s k n
    cases hu
    cases hv
    split at h
    case isFalse => cases h
    rename_i hc
    obtain ⟨b, hb, rfl⟩ := Option.map_eq_some_iff.1 h
    exact ⟨_, by simp [Instr.index, asIntOf, run_underlyingE (hT.str _ hc.1), hc.2, hb], .int _ _⟩
  · cases h

theorem parts_at {l : List Field} : ∀ {ps : List (Nat × Nat)} {f o m : Nat}, l.mapM (fun f => (P.info? f.type).map fun i => (f.offset, i.size)) = some ps → ps[f]? = some (o, m) → ∃ fd, l[f]? = some fd ∧ fd.offset = o ∧ ∃ i, P.info? fd.type = some i ∧ i.size = m := by
  induction l with
  | nil => intro ps f o m h hf; simp at h; subst h; simp at hf
  | cons x xs ih =>
    intro ps f o m h hf
    simp only [List.mapM_cons, Option.bind_eq_bind, Option.pure_def] at h
    cases hi : P.info? x.type with
    | none => simp [hi] at h
    | some i =>
      cases hq : xs.mapM (fun f => (P.info? f.type).map fun i => (f.offset, i.size)) with
      | none => simp [hi, hq] at h
      | some q =>
        simp [hi, hq] at h
        subst h
        cases f with
        | zero => simp at hf; exact ⟨x, rfl, hf.1, i, hi, hf.2⟩
        | succ f => simp at hf; obtain ⟨fd, g1, g2⟩ := ih hq hf; exact ⟨fd, by simpa using g1, g2⟩

theorem fieldV_sound (hT : TabOK P T) {M : Nat → Prop} {ty f : Nat} {x c : AV} {v : Value} (hv : RV W ρ M x v) (h : fieldVA T ty x f = some c) : ∃ y, (Instr.field ty v f).run P W = .ok y W ∧ RV W ρ M c y := by
  unfold fieldVA at h
  split at h
  case h_2 => cases h
  rename_i cs
  split at h
  case h_2 => cases h
  rename_i o n ag hp hg
  obtain ⟨pl, hpl, hf⟩ := Option.bind_eq_some_iff.1 hp
  obtain ⟨fs, hu, hm⟩ := hT.parts _ _ hpl
  obtain ⟨fd, hfd, ho, i, hi, hin⟩ := parts_at hm hf
  obtain ⟨fs', fd', d, hu', hfd', hd, hda⟩ := hT.fag _ _ _ hg
  rw [hu] at hu'
  simp only [Option.some.injEq, TypeDesc.struct.injEq] at hu'
  subst hu'
  have hfd2 : fs[f]? = some fd := by simpa using hfd
  rw [hfd2] at hfd'
  cases hfd'
  cases hv with
  | @agg _ vs hl hh =>
    split at h
    · rename_i hagt
      subst hagt
      split at h
      case isFalse => cases h
      rename_i hfit
      simp only [Option.some.injEq] at h
      subst h
      refine ⟨.agg (vs.toArray.extract o (o + n)), by simp [Instr.field, run_underlyingE hu, hfd2, asAgg, part, run_isAggE hd, hda, run_sizeOfE hi, hin, ho], ?_⟩
      have hq : RVs W ρ M ((cs.drop o).take n) ((vs.drop o).take n) := (RVs.drop ⟨hl, hh⟩ _).take _
      have he : vs.toArray.extract o (o + n) = ((vs.drop o).take n).toArray := by simp
      rw [he]
      exact RV.agg hq.1 hq.2
    · rename_i hagf
      have hagf : ag = false := by simpa using hagf
      subst hagf
      have hlt : o < vs.length := by rw [← hl]; exact (List.getElem?_eq_some_iff.1 h).1
      exact ⟨vs[o], by simp [Instr.field, run_underlyingE hu, hfd2, asAgg, part, run_isAggE hd, hda, ho, hlt], hh _ _ _ h (List.getElem?_eq_getElem hlt)⟩

end
end Go.Ev
