/- The evaluator Ev, part E: rows laid and written, and slices that grow. -/
import Derived.Test.YtcgnilbilccohabEvD
namespace Go.Ev
open Go
set_option linter.unusedSimpArgs false
set_option linter.unusedVariables false

section
variable {P : Program} {T : Tab} {W : World} {ρ : Rho} {S : Store}

theorem RowRel.step {W W' : World} {ρ ρ' : Rho} {M M' : Nat → Prop} {b base : Nat} (hb : W'.heap[b]? = W.heap[b]?) (hv : ∀ c v, RV W ρ M c v → RV W' ρ' M' c v) {r : Row} (hr : RowRel W ρ M b base r) : RowRel W' ρ' M' b base r := by
  cases r with
  | cells cs t =>
    obtain ⟨c, h1, h2, h3⟩ := hr
    exact ⟨c, hb.trans h1, h2, fun j a hj => by obtain ⟨g1, v, g2, g3⟩ := h3 j a hj; exact ⟨g1, v, g2, hv _ _ g3⟩⟩
  | map es clk =>
    obtain ⟨h0, ms, h1, h2, h3⟩ := hr
    exact ⟨h0, ms, hb.trans h1, h2, fun j e m he hm => ⟨hv _ _ (h3 j e m he hm).1, hv _ _ (h3 j e m he hm).2.1, (h3 j e m he hm).2.2⟩⟩
  | iter m since seen last =>
    obtain ⟨h0, mb, h1, h2⟩ := hr
    refine ⟨h0, mb, hb.trans h1, ?_⟩
    cases m with
    | none => exact h2
    | some l => obtain ⟨b', e1, e2⟩ := h2; exact ⟨b', e1, hv _ _ e2⟩
  | loop f ps t st j =>
    obtain ⟨h0, r, h1, h2, h3, h4, h5, h6⟩ := hr
    exact ⟨h0, r, hb.trans h1, h2, h3, h4, fun i => hv _ _ (h5 i), h6⟩
  | dead => trivial

def Rho.set (ρ : Rho) (l : Nat) (x : Nat × Nat) : Rho := fun k => if k = l then some x else ρ k

/-- What lies in memory behind the store is not known to it: rows may be told of that are not there yet. -/
theorem Rel.more {S S' : Store} (hr : Rel W ρ S) (hs : ∀ l, l < S.length → S'[l]? = S[l]?) (hl : S.length ≤ S'.length) : Rel W ρ S' ∧ ∀ n, Ext n ρ S W ρ S' W := by
  have hm : ∀ b, Mut ρ S' b → Mut ρ S b := by
    rintro b ⟨l, base, r, h1, h2, h3⟩
    exact ⟨l, base, r, by rw [← hs l (hr.dom l b base h3).1]; exact h1, h2, h3⟩
  have hm' : ∀ b, Mut ρ S b → Mut ρ S' b := by
    rintro b ⟨l, base, r, h1, h2, h3⟩
    exact ⟨l, base, r, by rw [hs l (hr.dom l b base h3).1]; exact h1, h2, h3⟩
  have hext : ∀ n, Ext n ρ S W ρ S' W := fun n => ⟨rfl, rfl, rfl, Nat.le_refl _, fun _ _ _ => rfl, fun _ _ h => h, fun b _ h => hm b h, fun _ c _ _ h => ⟨c, h, rfl⟩, fun _ _ h h' => (by rw [h'] at h; cases h), hl⟩
  refine ⟨⟨fun l b base h => ⟨Nat.lt_of_lt_of_le (hr.dom l b base h).1 hl, (hr.dom l b base h).2⟩, fun l r b base h1 h2 => ?_, fun l l' r r' b base base' h1 h2 g1 g2 e1 e2 => ?_⟩, hext⟩
  · rw [hs l (hr.dom l b base h2).1] at h1
    exact RowRel.step rfl (fun c v => RV.step (hext 0)) (hr.rows l r b base h1 h2)
  · rw [hs l (hr.dom l _ _ e1).1] at h1
    rw [hs l' (hr.dom l' _ _ e2).1] at h2
    exact hr.inj l l' r r' b base base' h1 h2 g1 g2 e1 e2

/-- A row is laid. -/
theorem lay_sound (hr : Rel W ρ S) {l n e : Nat} {cs : List AV} {vs : List Value} (hS : S[l]? = some (.cells cs e)) (hρ : ρ l = none) (hn : n ≤ l) (hv : RVs W ρ (Mut ρ S) cs vs) (h1 : cs.all AV.one = true) (extra : Array Value) :
    Rel (W.alloc (.cells (vs.toArray ++ extra) e)) (ρ.set l (W.heap.size, 0)) S ∧ Ext n ρ S W (ρ.set l (W.heap.size, 0)) S (W.alloc (.cells (vs.toArray ++ extra) e)) := by
  have hst := Still.alloc W (.cells (vs.toArray ++ extra) e)
  have hset : ∀ k x, (ρ.set l (W.heap.size, 0)) k = some x → (k = l ∧ x = (W.heap.size, 0)) ∨ (k ≠ l ∧ ρ k = some x) := by
    intro k x h
    unfold Rho.set at h
    split at h
    · rename_i hk; exact .inl ⟨hk, by simpa using h.symm⟩
    · rename_i hk; exact .inr ⟨hk, h⟩
  have hext : Ext n ρ S W (ρ.set l (W.heap.size, 0)) S (W.alloc (.cells (vs.toArray ++ extra) e)) := by
    refine ⟨rfl, rfl, rfl, hst.size, fun b hb _ => hst.heap b hb, fun k x hk => ?_, ?_, fun b c t fr hc => ⟨c, (hst.heap b (heap_lt hc)).trans hc, rfl⟩, fun k x hk h0 => ?_, Nat.le_refl _⟩
    · have : k ≠ l := by rintro rfl; rw [hρ] at hk; cases hk
      simp [Rho.set, this, hk]
    · rintro b hb ⟨k, base, r, g1, g2, g3⟩
      rcases hset _ _ g3 with ⟨rfl, he⟩ | ⟨_, h⟩
      · simp at he; omega
      · exact ⟨k, base, r, g1, g2, h⟩
    · rcases hset _ _ hk with ⟨rfl, _⟩ | ⟨_, h⟩
      · exact hn
      · rw [h0] at h; cases h
  refine ⟨⟨fun k b base h => ?_, fun k r b base g1 g2 => ?_, fun k k' r r' b base base' g1 g2 g3 g4 g5 g6 => ?_⟩, hext⟩
  · rcases hset _ _ h with ⟨rfl, he⟩ | ⟨_, h⟩
    · simp at he
      obtain ⟨rfl, rfl⟩ := he
      exact ⟨(List.getElem?_eq_some_iff.1 hS).1, by simp⟩
    · exact ⟨(hr.dom _ _ _ h).1, Nat.lt_of_lt_of_le (hr.dom _ _ _ h).2 hst.size⟩
  · rcases hset _ _ g2 with ⟨rfl, he⟩ | ⟨_, h⟩
    · simp at he
      obtain ⟨rfl, rfl⟩ := he
      rw [hS] at g1
      simp at g1
      subst g1
      refine ⟨_, alloc_new W _, by simp [hv.1], fun j a hj => ?_⟩
      have hj' : j < vs.length := by rw [← hv.1]; exact (List.getElem?_eq_some_iff.1 hj).1
      refine ⟨List.all_eq_true.1 h1 a (List.mem_of_getElem? hj), vs[j], ?_, (hv.2 j a _ hj (List.getElem?_eq_getElem hj')).step hext⟩
      rw [Nat.zero_add, Array.getElem?_append_left (by simpa using hj')]
      simp [hj']
    · exact RowRel.step (hst.heap b (hr.dom _ _ _ h).2) (fun c v => RV.step hext) (hr.rows _ _ _ _ g1 h)
  · rcases hset _ _ g5 with ⟨rfl, he⟩ | ⟨_, h⟩ <;> rcases hset _ _ g6 with ⟨rfl, he'⟩ | ⟨_, h'⟩
    · rfl
    · simp at he
      have := (hr.dom _ _ _ h').2
      omega
    · simp at he'
      have := (hr.dom _ _ _ h).2
      omega
    · exact hr.inj k k' r r' b base base' g1 g2 g3 g4 h h'

/-- A new map. -/
theorem layMap_sound (hr : Rel W ρ S) {l n : Nat} (hS : S[l]? = some (.map [] 0)) (hρ : ρ l = none) (hn : n ≤ l) :
    Rel (W.alloc (.map #[] 0)) (ρ.set l (W.heap.size, 0)) S ∧ Ext n ρ S W (ρ.set l (W.heap.size, 0)) S (W.alloc (.map #[] 0)) := by
  have hst := Still.alloc W (.map #[] 0)
  have hset : ∀ k x, (ρ.set l (W.heap.size, 0)) k = some x → (k = l ∧ x = (W.heap.size, 0)) ∨ (k ≠ l ∧ ρ k = some x) := by
    intro k x h
    unfold Rho.set at h
    split at h
    · rename_i hk; exact .inl ⟨hk, by simpa using h.symm⟩
    · rename_i hk; exact .inr ⟨hk, h⟩
  have hext : Ext n ρ S W (ρ.set l (W.heap.size, 0)) S (W.alloc (.map #[] 0)) := by
    refine ⟨rfl, rfl, rfl, hst.size, fun b hb _ => hst.heap b hb, fun k x hk => ?_, ?_, fun b c t fr hc => ⟨c, (hst.heap b (heap_lt hc)).trans hc, rfl⟩, fun k x hk h0 => ?_, Nat.le_refl _⟩
    · have : k ≠ l := by rintro rfl; rw [hρ] at hk; cases hk
      simp [Rho.set, this, hk]
    · rintro b hb ⟨k, base, r, g1, g2, g3⟩
      rcases hset _ _ g3 with ⟨rfl, he⟩ | ⟨_, h⟩
      · simp at he; omega
      · exact ⟨k, base, r, g1, g2, h⟩
    · rcases hset _ _ hk with ⟨rfl, _⟩ | ⟨_, h⟩
      · exact hn
      · rw [h0] at h; cases h
  refine ⟨⟨fun k b base h => ?_, fun k r b base g1 g2 => ?_, fun k k' r r' b base base' g1 g2 g3 g4 g5 g6 => ?_⟩, hext⟩
  · rcases hset _ _ h with ⟨rfl, he⟩ | ⟨_, h⟩
    · simp at he
      obtain ⟨rfl, rfl⟩ := he
      exact ⟨(List.getElem?_eq_some_iff.1 hS).1, by simp⟩
    · exact ⟨(hr.dom _ _ _ h).1, Nat.lt_of_lt_of_le (hr.dom _ _ _ h).2 hst.size⟩
  · rcases hset _ _ g2 with ⟨rfl, he⟩ | ⟨_, h⟩
    · simp at he
      obtain ⟨rfl, rfl⟩ := he
      rw [hS] at g1
      simp at g1
      subst g1
      exact ⟨rfl, #[], alloc_new W _, rfl, fun j e m hj => by simp at hj⟩
    · exact RowRel.step (hst.heap b (hr.dom _ _ _ h).2) (fun c v => RV.step hext) (hr.rows _ _ _ _ g1 h)
  · rcases hset _ _ g5 with ⟨rfl, he⟩ | ⟨_, h⟩ <;> rcases hset _ _ g6 with ⟨rfl, he'⟩ | ⟨_, h'⟩
    · rfl
    · simp at he
      have := (hr.dom _ _ _ h').2
      omega
    · simp at he'
      have := (hr.dom _ _ _ h).2
      omega
    · exact hr.inj k k' r r' b base base' g1 g2 g3 g4 h h'

theorem one_rel {M : Nat → Prop} {c : AV} {v : Value} (hv : RV W ρ M c v) (h : c.one = true) : v.oneCell' = true := by
  cases hv <;> simp [AV.one] at h <;> rfl

theorem ones_rel {M : Nat → Prop} {cs : List AV} {vs : List Value} (hv : RVs W ρ M cs vs) (h : cs.all AV.one = true) : ∀ v ∈ vs, v.oneCell' = true := by
  intro v hm
  obtain ⟨i, hi, rfl⟩ := List.mem_iff_getElem.1 hm
  have hi' : i < cs.length := by rw [hv.1]; exact hi
  exact one_rel (hv.2 i cs[i] _ (List.getElem?_eq_getElem hi') (List.getElem?_eq_getElem hi)) (List.all_eq_true.1 h _ (List.getElem_mem hi'))

/-- A row is written. -/
theorem write_sound (hr : Rel W ρ S) {l o b base : Nat} {ns : List AV} {us : List Value} {S' : Store} (hρ : ρ l = some (b, base)) (hv : RVs W ρ (Mut ρ S) ns us) (h : writeN S l o ns = some S') :
    ∃ W', (storeCells ⟨b, base + o, none⟩ us).run P W = .ok () W' ∧ Rel W' ρ S' ∧ (∀ n, Ext n ρ S W ρ S' W') := by
  unfold writeN at h
  split at h
  · rename_i cs t hS
    split at h
    · rename_i hc
      obtain ⟨hle, hone⟩ := hc
      simp only [Option.some.injEq] at h
      subst h
      have hl := (hr.dom l b base hρ).1
      obtain ⟨cur, hcur, hsz, hcells⟩ := hr.rows l _ b base hS hρ
      have hfit : base + o + us.length ≤ cur.size := by rw [← hv.1]; omega
      have hrun := run_storeCells_at P b (base + o) t us 0 cur W hcur (by simpa using hfit) (ones_rel hv hone)
      simp only [Nat.add_zero] at hrun
      have hsz' : (cur.toList.take (base + o) ++ us ++ cur.toList.drop (base + o + us.length)).toArray.size = cur.size := by simp; omega
      generalize hnew : (cur.toList.take (base + o) ++ us ++ cur.toList.drop (base + o + us.length)).toArray = new at hrun hsz'
      have hm : ∀ x, Mut ρ (S.set l (.cells (setN cs o ns) t)) x ↔ Mut ρ S x := by
        intro x
        constructor
        · rintro ⟨k, bs, r, g1, g2, g3⟩
          rw [List.getElem?_set] at g1
          split at g1
          · rename_i hk; subst hk; exact ⟨l, bs, _, hS, rfl, g3⟩
          · exact ⟨k, bs, r, g1, g2, g3⟩
        · rintro ⟨k, bs, r, g1, g2, g3⟩
          by_cases hk : l = k
          · subst hk; exact ⟨l, bs, .cells (setN cs o ns) t, by simp [hl], rfl, g3⟩
          · exact ⟨k, bs, r, by rw [List.getElem?_set, if_neg hk]; exact g1, g2, g3⟩
      have hb : Mut ρ S b := ⟨l, base, _, hS, rfl, hρ⟩
      have hext : ∀ n, Ext n ρ S W ρ (S.set l (.cells (setN cs o ns) t)) (W.setRow b new) := by
        intro n
        refine ⟨rfl, rfl, rfl, by simp, fun x hx hM => setRow_other W b x _ (fun e => hM (e ▸ hb)), fun _ _ h => h, fun x _ h => (hm x).1 h, fun x c t' fr hc => ?_, fun _ _ h h' => (by rw [h'] at h; cases h), by simp⟩
        by_cases hx : x = b
        · subst hx
          rw [hcur] at hc
          simp at hc
          obtain ⟨rfl, rfl, rfl⟩ := hc
          exact ⟨new, setRow_heap W x cur new t (0, 0) hcur, hsz'⟩
        · exact ⟨c, (setRow_other W b x _ hx).trans hc, rfl⟩
      refine ⟨_, hrun, ⟨fun k x bs hk => ?_, fun k r x bs g1 g2 => ?_, fun k k' r r' x bs bs' g1 g2 g3 g4 g5 g6 => ?_⟩, hext⟩
      · simpa using hr.dom k x bs hk
      · rw [List.getElem?_set] at g1
        split at g1
        · rename_i hk
          subst hk
          simp [hl] at g1
          subst g1
          rw [hρ] at g2
          simp at g2
          obtain ⟨rfl, rfl⟩ := g2
          refine ⟨new, setRow_heap W b cur new t (0, 0) hcur, by rw [hsz', length_setN _ _ _ hle]; exact hsz, fun j a hj => ?_⟩
          have hget : ∀ j, new[base + j]? = if j < o then cur[base + j]? else if j < o + us.length then us[j - o]? else cur[base + j]? := by
            intro j
            rw [← hnew]
            simp only [List.getElem?_toArray, List.getElem?_append, List.length_append, List.length_take, Array.length_toList, List.getElem?_take, List.getElem?_drop]
            have hmin : min (base + o) cur.size = base + o := by omega
            rw [hmin]
            by_cases c1 : j < o
            · have d1 : base + j < base + o := by omega
              have d2 : base + j < base + o + us.length := by omega
              simp [c1, d1, d2]
            · by_cases c2 : j < o + us.length
              · have d1 : ¬ base + j < base + o := by omega
                have d2 : base + j < base + o + us.length := by omega
                have d3 : base + j - (base + o) = j - o := by omega
                simp [c1, c2, d1, d2, d3]
              · have d2 : ¬ base + j < base + o + us.length := by omega
                have d4 : base + o + us.length + (base + j - (base + o + us.length)) = base + j := by omega
                simp [c1, c2, d2, d4]
          have hset : (setN cs o ns)[j]? = if j < o then cs[j]? else if j < o + ns.length then ns[j - o]? else cs[j]? := by
            simp only [setN, List.getElem?_append, List.length_append, List.length_take, List.getElem?_take, List.getElem?_drop]
            have hmin : min o cs.length = o := by omega
            rw [hmin]
            by_cases c1 : j < o
            · have d2 : j < o + ns.length := by omega
              simp [c1, d2]
            · by_cases c2 : j < o + ns.length
              · simp [c1, c2]
              · have d4 : o + ns.length + (j - (o + ns.length)) = j := by omega
                simp [c1, c2, d4]
          rw [hset] at hj
          rw [hget j, ← hv.1]
          split at hj
          · rename_i c1
            rw [if_pos c1]
            obtain ⟨q1, v, q2, q3⟩ := hcells j a hj
            exact ⟨q1, v, q2, q3.step (hext 0)⟩
          · rename_i c1
            rw [if_neg c1]
            split at hj
            · rename_i c2
              rw [if_pos c2]
              have hlt : j - o < us.length := by rw [← hv.1]; omega
              exact ⟨List.all_eq_true.1 hone a (List.mem_of_getElem? hj), us[j - o], List.getElem?_eq_getElem hlt, (hv.2 (j - o) a _ hj (List.getElem?_eq_getElem hlt)).step (hext 0)⟩
            · rename_i c2
              rw [if_neg c2]
              obtain ⟨q1, v, q2, q3⟩ := hcells j a hj
              exact ⟨q1, v, q2, q3.step (hext 0)⟩
        · rename_i hk
          cases hd : r.live with
          | false => cases r <;> simp [Row.live] at hd; trivial
          | true =>
            have hx : x ≠ b := fun e => hk (hr.inj l k _ r b base bs hS g1 rfl hd hρ (e ▸ g2))
            exact RowRel.step (setRow_other W b x _ hx) (fun c v => RV.step (hext 0)) (hr.rows k r x bs g1 g2)
      · have hlv : ∀ (k : Nat) (r : Row), (S.set l (.cells (setN cs o ns) t))[k]? = some r → r.live = true → ∃ r0 : Row, S[k]? = some r0 ∧ r0.live = true := by
          intro k r g h
          rw [List.getElem?_set] at g
          split at g
          · rename_i hk; subst hk; exact ⟨_, hS, rfl⟩
          · exact ⟨r, g, h⟩
        obtain ⟨r0, e1, e2⟩ := hlv k r g1 g3
        obtain ⟨r0', e1', e2'⟩ := hlv k' r' g2 g4
        exact hr.inj k k' r0 r0' x bs bs' e1 e1' e2 e2' g5 g6
    · cases h
  · cases h

theorem store_sound (hT : TabOK P T) (hr : Rel W ρ S) {ty : Nat} {a x : AV} {v u : Value} {S' : Store} (hv : RV W ρ (Mut ρ S) a v) (hu : RV W ρ (Mut ρ S) x u) (h : storeA T S ty a x = some S') :
    ∃ W', (Instr.storeAt ty v u).run P W = .ok () W' ∧ Rel W' ρ S' ∧ ∀ n, Ext n ρ S W ρ S' W' := by
  unfold storeA at h
  split at h
  · rename_i l o cs hcs
    split at h
    · rename_i hsz
      cases hv with
      | @ptr l b base o hρ =>
        have hc := cells_rel hu hcs
        obtain ⟨W', hrun, h1, h2⟩ := write_sound (P := P) hr hρ hc h
        obtain ⟨i, hi, hie⟩ := hT.sz _ _ hsz
        refine ⟨W', ?_, h1, h2⟩
        have he : u.cells.size = i.size := by rw [hie, hc.1, Array.length_toList]
        simp [Instr.storeAt, Instr.sureAddr, storeVar, run_sizeOfE hi, he, hrun]
    · cases h
  · cases h

/-! ### A slice's elements -/
theorem flat_chunk (sz : Nat) : ∀ (n : Nat) (cs : List AV), flatA (chunk sz cs n) = cs.take (n * sz)
  | 0, cs => by simp [chunk, flatA]
  | n + 1, cs => by
    simp only [chunk, flatA, flat_chunk sz n]
    rw [Nat.add_mul, Nat.one_mul, Nat.add_comm, List.take_add]

theorem flat_get {sz : Nat} (hsz : 0 < sz) : ∀ (els : List (List AV)), (∀ e ∈ els, e.length = sz) → ∀ (j : Nat) (c : AV), (flatA els)[j]? = some c → ∃ e, els[j / sz]? = some e ∧ e[j % sz]? = some c
  | [], _, j, c, h => by simp [flatA] at h
  | e :: els, hall, j, c, h => by
    have he := hall e (by simp)
    simp only [flatA, List.getElem?_append] at h
    split at h
    · rename_i hj
      rw [he] at hj
      exact ⟨e, by rw [Nat.div_eq_of_lt hj]; rfl, by rw [Nat.mod_eq_of_lt hj]; exact h⟩
    · rename_i hj
      rw [he] at hj h
      obtain ⟨e', h1, h2⟩ := flat_get hsz els (fun x hx => hall x (by simp [hx])) (j - sz) c h
      have hle : sz ≤ j := by omega
      refine ⟨e', ?_, ?_⟩
      · rw [Nat.div_eq_sub_div hsz hle]; simpa using h1
      · rw [Nat.mod_eq_sub_mod hle]; exact h2

theorem flat_length {sz : Nat} : ∀ (els : List (List AV)), (∀ e ∈ els, e.length = sz) → (flatA els).length = els.length * sz
  | [], _ => by simp [flatA]
  | e :: els, h => by
    simp only [flatA, List.length_append, List.length_cons, flat_length els (fun x hx => h x (by simp [hx])), h e (by simp), Nat.add_mul]
    omega

theorem chunk_all {sz : Nat} : ∀ (n : Nat) (cs : List AV), n * sz ≤ cs.length → ∀ e ∈ chunk sz cs n, e.length = sz
  | 0, cs, _, e, h => by simp [chunk] at h
  | n + 1, cs, hl, e, h => by
    rw [Nat.add_mul] at hl
    simp only [chunk, List.mem_cons] at h
    rcases h with rfl | h
    · rw [List.length_take]; omega
    · exact chunk_all n _ (by rw [List.length_drop]; omega) e h

theorem elsOf_sound (hr : Rel W ρ S) {sz : Nat} (hsz : 0 < sz) {x : AV} {v : Value} {new : List (List AV)} (hv : RV W ρ (Mut ρ S) x v) (h : elsOf S sz x = some new) :
    (∀ e ∈ new, e.length = sz) ∧ ∃ A c us, v = .slice A new.length c ∧ RVs W ρ (Mut ρ S) (flatA new) us ∧ us.length = new.length * sz ∧ (new ≠ [] → ∃ a, A = some a ∧ ∀ j u, us[j]? = some u → W.cell? (a.add j) = some u) := by
  cases hv with
  | nilsl =>
    simp only [elsOf, Option.some.injEq] at h
    subst h
    exact ⟨by simp, none, 0, [], rfl, RVs.nil _ _ _, by simp, fun h => absurd rfl h⟩
  | fsl0 A cap hx =>
    simp only [elsOf] at h
    simp at h
    subst h
    exact ⟨by simp, A, cap, [], rfl, RVs.nil _ _ _, by simp, fun h => absurd rfl h⟩
  | @fsl x els b off sz' cap vs hs hM hB hc hx h1 h2 =>
    simp only [elsOf] at h
    split at h
    · rename_i hall
      simp only [Option.some.injEq] at h
      subst h
      have hall' : ∀ e ∈ els, e.length = sz := fun e he => by simpa using List.all_eq_true.1 hall e he
      have hcell : ∀ (j : Nat) (c : AV), (flatA els)[j]? = some c → ∃ e, els[j / sz]? = some e ∧ e[j % sz]? = some c ∧ sz' = sz := by
        intro j c hj
        obtain ⟨e, g1, g2⟩ := flat_get hsz els hall' j c hj
        exact ⟨e, g1, g2, by rw [← hs _ _ g1]; exact hall' e (List.mem_of_getElem? g1)⟩
      refine ⟨hall', _, cap, (List.range (flatA els).length).map (fun j => vs (j / sz) (j % sz)), rfl, RVs.of_fun _ (fun j c hj => ?_), by simp [flat_length els hall'], fun _ => ⟨_, rfl, fun j u hj => ?_⟩⟩
      · obtain ⟨e, g1, g2, _⟩ := hcell j c hj
        exact h2 _ _ e c g1 g2
      · rw [add_add]
        have hjl : j < (flatA els).length := by simpa using (List.getElem?_eq_some_iff.1 hj).1
        obtain ⟨e, g1, g2, rfl⟩ := hcell j _ (List.getElem?_eq_getElem hjl)
        have hu : vs (j / sz') (j % sz') = u := by
          simp only [List.getElem?_map, List.getElem?_range hjl, Option.map_some, Option.some.injEq] at hj
          exact hj
        have := h1 _ _ e _ g1 g2
        rw [hu] at this
        rw [← this]
        congr 2
        rw [Nat.mul_comm, Nat.div_add_mod]
    · cases h
  | @sl l off len cap sz' b base cap' ty c hρ hl hc hb hz =>
    simp only [elsOf] at h
    split at h
    · rename_i he
      subst he
      split at h
      · rename_i cs hcs
        split at h
        · rename_i hle
          simp only [Option.some.injEq] at h
          subst h
          obtain ⟨t, ht⟩ := rowCells_some hcs
          have hfl : flatA (chunk sz' (cs.drop off) len) = (cs.drop off).take (len * sz') := flat_chunk _ _ _
          have hlen : ((cs.drop off).take (len * sz')).length = len * sz' := by rw [List.length_take, List.length_drop]; omega
          have key : ∀ (j : Nat) (a : AV), ((cs.drop off).take (len * sz'))[j]? = some a → W.cell? ⟨b, base + off + j, none⟩ = some ((W.cell? ⟨b, base + off + j, none⟩).getD undef) ∧ RV W ρ (Mut ρ S) a ((W.cell? ⟨b, base + off + j, none⟩).getD undef) := by
            intro j a hj
            have hj' : cs[off + j]? = some a := by
              rw [List.getElem?_take] at hj
              split at hj
              · rwa [List.getElem?_drop] at hj
              · cases hj
            obtain ⟨_, x, g1, g2⟩ := own_cell hr hρ ht hj'
            rw [← Nat.add_assoc] at g1
            rw [g1]
            exact ⟨rfl, g2⟩
          refine ⟨chunk_all len _ (by rw [List.length_drop]; omega), _, cap', (List.range ((cs.drop off).take (len * sz')).length).map (fun j => (W.cell? ⟨b, base + off + j, none⟩).getD undef), by rw [length_chunk], ?_, by rw [length_chunk]; simpa using hlen, fun _ => ⟨_, rfl, fun j u hj => ?_⟩⟩
          · rw [hfl]
            exact RVs.of_fun _ (fun j a hj => (key j a hj).2)
          · rw [add_add]
            have hjl : j < ((cs.drop off).take (len * sz')).length := by simpa using (List.getElem?_eq_some_iff.1 hj).1
            have hu : (W.cell? ⟨b, base + off + j, none⟩).getD undef = u := by
              simp only [List.getElem?_map, List.getElem?_range hjl, Option.map_some, Option.some.injEq] at hj
              exact hj
            rw [(key j _ (List.getElem?_eq_getElem hjl)).1, hu]
        · cases h
      · cases h
    · cases h
  | _ => simp [elsOf] at h

end
end Go.Ev
