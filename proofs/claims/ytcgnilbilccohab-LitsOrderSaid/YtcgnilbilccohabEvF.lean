/- The evaluator Ev, part F: append, copy, clear, cuts, make. -/
import Derived.Test.YtcgnilbilccohabEvE
import Derived.Laws.Append
namespace Go.Ev
open Go
set_option linter.unusedSimpArgs false
set_option linter.unusedVariables false

section
variable {P : Program} {T : Tab} {W : World} {ρ : Rho} {S : Store}

/-- A row is given up. -/
theorem kill_sound (hr : Rel W ρ S) (l : Nat) : Rel W ρ (S.set l .dead) ∧ ∀ n, Ext n ρ S W ρ (S.set l .dead) W := by
  have hget : ∀ (k : Nat) (r : Row), (S.set l .dead)[k]? = some r → r.live = true → S[k]? = some r ∧ k ≠ l := by
    intro k r h hl
    rw [List.getElem?_set] at h
    split at h
    · split at h
      · simp at h; subst h; simp [Row.live] at hl
      · cases h
    · rename_i hk; exact ⟨h, fun e => hk e.symm⟩
  have hm : ∀ b, Mut ρ (S.set l .dead) b → Mut ρ S b := by
    rintro b ⟨k, base, r, h1, h2, h3⟩
    exact ⟨k, base, r, (hget k r h1 h2).1, h2, h3⟩
  have hext : ∀ n, Ext n ρ S W ρ (S.set l .dead) W := fun n => ⟨rfl, rfl, rfl, Nat.le_refl _, fun _ _ _ => rfl, fun _ _ h => h, fun b _ h => hm b h, fun _ c _ _ h => ⟨c, h, rfl⟩, fun _ _ h h' => (by rw [h'] at h; cases h), by simp⟩
  refine ⟨⟨fun k b base h => by simpa using hr.dom k b base h, fun k r b base h1 h2 => ?_, fun k k' r r' b base base' h1 h2 g1 g2 e1 e2 => ?_⟩, hext⟩
  · cases hd : r.live with
    | false => cases r <;> simp [Row.live] at hd; trivial
    | true => exact RowRel.step rfl (fun c v => RV.step (hext 0)) (hr.rows k r b base (hget k r h1 hd).1 h2)
  · exact hr.inj k k' r r' b base base' (hget k r h1 g1).1 (hget k' r' h2 g2).1 g1 g2 e1 e2

theorem run_firstCells {W : World} {A : Option Addr} {m c sz : Nat} {us : List Value} (hl : us.length = m * sz) (h : m ≠ 0 → ∃ a, A = some a ∧ ∀ j u, us[j]? = some u → W.cell? (a.add j) = some u) :
    (Builtin.firstCells sz m (.slice A m c)).run P W = .ok us.toArray W := by
  cases A with
  | none =>
    have hm : m = 0 := by
      by_cases hm : m = 0
      · exact hm
      · obtain ⟨a, h, _⟩ := h hm; cases h
    subst hm
    obtain rfl : us = [] := List.eq_nil_of_length_eq_zero (by simpa using hl)
    simp [Builtin.firstCells]
  | some a =>
    have hc : ∀ j u, us[j]? = some u → W.cell? (a.add j) = some u := by
      by_cases hm : m = 0
      · subst hm
        obtain rfl : us = [] := List.eq_nil_of_length_eq_zero (by simpa using hl)
        intro j u h; simp at h
      · obtain ⟨a', h, h'⟩ := h hm
        cases h
        exact h'
    have := run_loadCells_list (P := P) (w := W) a us hc
    rw [hl] at this
    simpa [Builtin.firstCells] using this

theorem run_append_in {W W' : World} {t ty e : TypeId} {i : TypeInfo} (ht : P.underlying t = some (.slice e)) (hi : P.info? e = some i) {b o sLen sCap m c : Nat} {A : Option Addr} {us : List Value}
    (hl : us.length = m * i.size) (h : m ≠ 0 → ∃ a, A = some a ∧ ∀ j u, us[j]? = some u → W.cell? (a.add j) = some u) (hroom : sLen + m ≤ sCap) (hst : (storeCells ⟨b, o + sLen * i.size, none⟩ us).run P W = .ok () W') :
    (Builtin.append_ #[t, t] ty #[.slice (some ⟨b, o, none⟩) sLen sCap, .slice A m c]).run P W = .ok (.slice (some ⟨b, o, none⟩) (sLen + m) sCap) W' := by
  have hf := run_firstCells (P := P) (c := c) hl h
  simp [Builtin.append_, run_underlying ht, sizeOf, typeInfo, hi, Builtin.lenOf, hroom, hf, add_add, hst]

theorem run_append_zero {W : World} {t ty e : TypeId} {i : TypeInfo} (ht : P.underlying t = some (.slice e)) (hi : P.info? e = some i) {B A : Option Addr} {sLen sCap c : Nat} (hs : sLen ≤ sCap) :
    (Builtin.append_ #[t, t] ty #[.slice B sLen sCap, .slice A 0 c]).run P W = .ok (.slice B sLen sCap) W := by
  have hf := run_firstCells (P := P) (W := W) (A := A) (m := 0) (c := c) (sz := i.size) (us := []) (by simp) (fun h => absurd rfl h)
  cases B <;> simp [Builtin.append_, run_underlying ht, sizeOf, typeInfo, hi, Builtin.lenOf, hs, hf, storeCells]

/-- The slice that has grown, in a row of its own. -/
theorem grown_sound (hr : Rel W ρ S) {n e m cap : Nat} {sz : Nat} {cs : List AV} {vs : List Value} (extra : Array Value) (hn : n ≤ S.length) (hl : cs.length = m * sz) (hv : RVs W ρ (Mut ρ S) cs vs) (h1 : cs.all AV.one = true) (hcap : m ≤ cap)
    (hex : (vs.toArray ++ extra).size = cap * sz) :
    let W' := W.alloc (.cells (vs.toArray ++ extra) e)
    let S' := S ++ [.cells cs e]
    ∃ ρ', RV W' ρ' (Mut ρ' S') (.sl S.length 0 m m sz) (.slice (some ⟨W.heap.size, 0, none⟩) m cap) ∧ Rel W' ρ' S' ∧ Ext n ρ S W ρ' S' W' := by
  intro W' S'
  have hmore := hr.more (S' := S ++ [.cells cs e]) (fun l hl => by rw [List.getElem?_append_left hl]) (by simp)
  have hnone : ρ S.length = none := by
    cases h : ρ S.length with
    | none => rfl
    | some x => obtain ⟨b, base⟩ := x; have := (hr.dom _ _ _ h).1; omega
  have hlay := lay_sound hmore.1 (l := S.length) (n := n) (e := e) (cs := cs) (vs := vs) (by simp) hnone hn (hv.step (hmore.2 0)) h1 extra
  refine ⟨ρ.set S.length (W.heap.size, 0), ?_, hlay.1, (hmore.2 n).trans hlay.2⟩
  have := RV.sl (W := W') (ρ := ρ.set S.length (W.heap.size, 0)) (M := Mut (ρ.set S.length (W.heap.size, 0)) S') (l := S.length) (off := 0) (len := m) (cap := m) (sz := sz) (b := W.heap.size) (base := 0) (cap' := cap) (ty := e) (c := vs.toArray ++ extra)
    (by simp [Rho.set]) (Nat.le_refl _) hcap (alloc_new W _) (by rw [hex]; omega)
  simpa using this

theorem zeroCells_size (z : Array Value) (n : Nat) : (Builtin.zeroCells z n).size = n * z.size := by simp [Builtin.zeroCells]

/-- A slice that grew where it lies: its row goes on under a new number. -/
theorem moved_sound (hr : Rel W ρ S) {l off len m sz b base cap' e : Nat} {cs ns : List AV} {us : List Value} {cur : Array Value} {n : Nat} (hn : n ≤ S.length) (hρ : ρ l = some (b, base)) (hS : S[l]? = some (.cells cs e)) (hcur : W.heap[b]? = some (.cells cur e (0, 0)))
    (hz : base + off + cap' * sz ≤ cur.size) (hle : off + len * sz ≤ cs.length) (hns : RVs W ρ (Mut ρ S) ns us) (hnl : ns.length = m * sz) (hroom : len + m ≤ cap') (h1 : ns.all AV.one = true) :
    let W' := W.setRow b (cur.toList.take (base + off + len * sz) ++ us ++ cur.toList.drop (base + off + len * sz + us.length)).toArray
    let S' := (S.set l .dead) ++ [.cells ((cs.drop off).take (len * sz) ++ ns) e]
    ∃ ρ', RV W' ρ' (Mut ρ' S') (.sl S.length 0 (len + m) (len + m) sz) (.slice (some ⟨b, base + off, none⟩) (len + m) cap') ∧ Rel W' ρ' S' ∧ Ext n ρ S W ρ' S' W' := by
  intro W' S'
  have hul : us.length = m * sz := by rw [← hns.1, hnl]
  have hmul : (len + m) * sz ≤ cap' * sz := Nat.mul_le_mul_right _ hroom
  rw [Nat.add_mul] at hmul
  have hl := (hr.dom l b base hρ).1
  have hnone : ρ S.length = none := by
    cases h : ρ S.length with
    | none => rfl
    | some x => obtain ⟨b, base⟩ := x; have := (hr.dom _ _ _ h).1; omega
  have hsz' : (cur.toList.take (base + off + len * sz) ++ us ++ cur.toList.drop (base + off + len * sz + us.length)).toArray.size = cur.size := by simp; omega
  have hb : Mut ρ S b := ⟨l, base, _, hS, rfl, hρ⟩
  have hset : ∀ k x, (ρ.set S.length (b, base + off)) k = some x → (k = S.length ∧ x = (b, base + off)) ∨ (k ≠ S.length ∧ ρ k = some x) := by
    intro k x h
    unfold Rho.set at h
    split at h
    · rename_i hk; exact .inl ⟨hk, by simpa using h.symm⟩
    · rename_i hk; exact .inr ⟨hk, h⟩
  have hget : ∀ (k : Nat) (r : Row), S'[k]? = some r → r.live = true → (k = S.length ∧ r = .cells ((cs.drop off).take (len * sz) ++ ns) e) ∨ (k ≠ l ∧ k < S.length ∧ S[k]? = some r) := by
    intro k r h hlv
    simp only [S', List.getElem?_append, List.length_set] at h
    split at h
    · rename_i hk
      rw [List.getElem?_set] at h
      split at h
      · rename_i hkl
        subst hkl
        simp [hl] at h
        subst h
        simp [Row.live] at hlv
      · rename_i hkl; exact .inr ⟨fun e => hkl e.symm, hk, h⟩
    · rename_i hk
      have hk0 : k - S.length = 0 := by
        by_cases h0 : k - S.length = 0
        · exact h0
        · rw [List.getElem?_eq_none (by simp; omega)] at h; cases h
      rw [hk0] at h
      simp at h
      exact .inl ⟨by omega, h.symm⟩
  have hext : Ext n ρ S W (ρ.set S.length (b, base + off)) S' W' := by
    refine ⟨rfl, rfl, rfl, by simp [W'], fun x hx hM => setRow_other W b x _ (fun e => hM (e ▸ hb)), fun k x hk => ?_, ?_, fun x c t' fr hc => ?_, fun k x hk h0 => ?_, by simp [S']⟩
    · have : k ≠ S.length := by rintro rfl; rw [hnone] at hk; cases hk
      simp [Rho.set, this, hk]
    · rintro x hx ⟨k, bs, r, g1, g2, g3⟩
      rcases hset _ _ g3 with ⟨rfl, he⟩ | ⟨hk, h⟩
      · simp at he; rw [he.1]; exact hb
      · rcases hget k r g1 g2 with ⟨rfl, _⟩ | ⟨_, _, g⟩
        · exact absurd rfl hk
        · exact ⟨k, bs, r, g, g2, h⟩
    · by_cases hx : x = b
      · subst hx
        rw [hcur] at hc
        simp at hc
        obtain ⟨rfl, rfl, rfl⟩ := hc
        exact ⟨_, setRow_heap W x cur _ e (0, 0) hcur, hsz'⟩
      · exact ⟨c, (setRow_other W b x _ hx).trans hc, rfl⟩
    · rcases hset _ _ hk with ⟨rfl, _⟩ | ⟨_, h⟩
      · exact hn
      · rw [h0] at h; cases h
  have hheap : W'.heap[b]? = some (.cells (cur.toList.take (base + off + len * sz) ++ us ++ cur.toList.drop (base + off + len * sz + us.length)).toArray e (0, 0)) := setRow_heap W b cur _ e (0, 0) hcur
  refine ⟨ρ.set S.length (b, base + off), ?_, ⟨fun k x bs hk => ?_, fun k r x bs g1 g2 => ?_, fun k k' r r' x bs bs' g1 g2 g3 g4 g5 g6 => ?_⟩, hext⟩
  · have := RV.sl (W := W') (ρ := ρ.set S.length (b, base + off)) (M := Mut (ρ.set S.length (b, base + off)) S') (l := S.length) (off := 0) (len := len + m) (cap := len + m) (sz := sz) (base := base + off) (by simp [Rho.set]) (Nat.le_refl _) hroom hheap (by rw [hsz']; omega)
    simpa using this
  · rcases hset _ _ hk with ⟨rfl, he⟩ | ⟨_, h⟩
    · simp at he
      obtain ⟨rfl, rfl⟩ := he
      exact ⟨by simp [S'], by simp [W']; exact heap_lt hcur⟩
    · have := hr.dom _ _ _ h
      exact ⟨by simp [S']; omega, by simp [W']; exact this.2⟩
  · cases hd : r.live with
    | false => cases r <;> simp [Row.live] at hd; trivial
    | true =>
      rcases hget k r g1 hd with ⟨rfl, rfl⟩ | ⟨hkl, hklt, hSk⟩
      · rcases hset _ _ g2 with ⟨_, he⟩ | ⟨hk, _⟩
        · simp at he
          obtain ⟨rfl, rfl⟩ := he
          have hlen1 : ((cs.drop off).take (len * sz)).length = len * sz := by rw [List.length_take, List.length_drop]; omega
          refine ⟨_, hheap, by rw [hsz', List.length_append, hlen1, hnl]; omega, fun j a hj => ?_⟩
          rw [List.getElem?_append] at hj
          split at hj
          · rename_i hj1
            rw [hlen1] at hj1
            have hj' : cs[off + j]? = some a := by
              rw [List.getElem?_take, if_pos hj1, List.getElem?_drop] at hj
              exact hj
            obtain ⟨cur', hcur', _, hcells⟩ := hr.rows l _ _ base hS hρ
            rw [hcur] at hcur'
            simp at hcur'
            subst hcur'
            obtain ⟨q1, v, q2, q3⟩ := hcells (off + j) a hj'
            refine ⟨q1, v, ?_, q3.step hext⟩
            rw [← q2]
            simp only [List.getElem?_toArray, List.getElem?_append, List.length_append, List.length_take, Array.length_toList, List.getElem?_take]
            have hmin : min (base + off + len * sz) cur.size = base + off + len * sz := by omega
            rw [hmin, if_pos (by omega), if_pos (by omega), if_pos (by omega), Nat.add_assoc]
            simp
          · rename_i hj1
            rw [hlen1] at hj1 hj
            have hlt : j - len * sz < us.length := by rw [← hns.1]; exact (List.getElem?_eq_some_iff.1 hj).1
            refine ⟨List.all_eq_true.1 h1 a (List.mem_of_getElem? hj), us[j - len * sz], ?_, (hns.2 _ a _ hj (List.getElem?_eq_getElem hlt)).step hext⟩
            simp only [List.getElem?_toArray, List.getElem?_append, List.length_append, List.length_take, Array.length_toList, List.getElem?_take]
            have hmin : min (base + off + len * sz) cur.size = base + off + len * sz := by omega
            rw [hmin, if_pos (by omega), if_neg (by omega)]
            have : base + off + j - (base + off + len * sz) = j - len * sz := by omega
            rw [this, List.getElem?_eq_getElem hlt]
        · exact absurd rfl hk
      · rcases hset _ _ g2 with ⟨rfl, _⟩ | ⟨_, h⟩
        · omega
        · have hx : x ≠ b := fun e' => hkl (hr.inj k l r _ b bs base hSk hS hd rfl (e' ▸ h) hρ)
          exact RowRel.step (setRow_other W b x _ hx) (fun c v => RV.step hext) (hr.rows k r x bs hSk h)
  · rcases hget k r g1 g3 with ⟨rfl, rfl⟩ | ⟨hkl, hklt, hSk⟩ <;> rcases hget k' r' g2 g4 with ⟨rfl, rfl⟩ | ⟨hkl', hklt', hSk'⟩
    · rfl
    · rcases hset _ _ g5 with ⟨_, he⟩ | ⟨hk, _⟩
      · simp at he
        rcases hset _ _ g6 with ⟨rfl, _⟩ | ⟨_, h⟩
        · omega
        · rw [he.1] at h
          exact absurd (hr.inj k' l r' _ b bs' base hSk' hS g4 rfl h hρ) hkl'
      · exact absurd rfl hk
    · rcases hset _ _ g6 with ⟨_, he⟩ | ⟨hk, _⟩
      · simp at he
        rcases hset _ _ g5 with ⟨rfl, _⟩ | ⟨_, h⟩
        · omega
        · rw [he.1] at h
          exact absurd (hr.inj k l r _ b bs base hSk hS g3 rfl h hρ) hkl
      · exact absurd rfl hk
    · rcases hset _ _ g5 with ⟨rfl, _⟩ | ⟨_, h⟩
      · omega
      · rcases hset _ _ g6 with ⟨rfl, _⟩ | ⟨_, h'⟩
        · omega
        · exact hr.inj k k' r r' x bs bs' hSk hSk' g3 g4 h h'

theorem append_sound (hT : TabOK P T) (hr : Rel W ρ S) {ty ty' : Nat} {s x c : AV} {v u : Value} {S' : Store} (hv : RV W ρ (Mut ρ S) s v) (hu : RV W ρ (Mut ρ S) x u) (h : appendA T S ty s x = some (c, S')) :
    ∃ y W' ρ', (Builtin.append_ #[ty, ty] ty' #[v, u]).run P W = .ok y W' ∧ RV W' ρ' (Mut ρ' S') c y ∧ Rel W' ρ' S' ∧ Ext S.length ρ S W ρ' S' W' := by
  unfold appendA at h
  split at h
  · cases h
  rename_i e he
  split at h
  case h_2 => cases h
  rename_i sz by_ z hsz hby hz
  split at h
  case isFalse => cases h
  rename_i hpos
  obtain ⟨hzl, hsz0, hby0⟩ := hpos
  split at h
  · cases h
  rename_i new hnew
  obtain ⟨hall, A, cu, us, rfl, hus, hul, huc⟩ := elsOf_sound hr hsz0 hu hnew
  have ht := hT.sle _ _ he
  obtain ⟨i, hi, hie⟩ := hT.sz _ _ hsz
  obtain ⟨i2, hi2, hib⟩ := hT.bytes _ _ hby
  obtain rfl : i = i2 := by rw [hi] at hi2; simpa using hi2
  obtain ⟨i3, zv, hi3, hzv, hzc, _⟩ := hT.zero _ _ hz
  obtain rfl : i = i3 := by rw [hi] at hi3; simpa using hi3
  have hzs : zv.cells.size = i.size := by rw [hie, ← hzl, hzc]; simp
  subst hie hib
  have huc' : new.length ≠ 0 → ∃ a, A = some a ∧ ∀ j u, us[j]? = some u → W.cell? (a.add j) = some u := fun hn => huc (fun e => hn (by rw [e]; rfl))
  split at h
  · -- onto nil
    cases hv
    split at h
    · simp only [Option.some.injEq, Prod.mk.injEq] at h
      obtain ⟨rfl, rfl⟩ := h
      exact ⟨_, W, ρ, run_append_zero ht hi (Nat.le_refl _), .nilsl, hr, Ext.refl _ _ _ _⟩
    · rename_i n0 ns
      split at h
      · rename_i hc
        simp only [Option.some.injEq, Prod.mk.injEq] at h
        obtain ⟨rfl, rfl⟩ := h
        obtain ⟨hroom, hone⟩ := hc
        obtain ⟨a, rfl, hcells⟩ := huc (by simp)
        have hle : (n0 :: ns).length ≤ room := Nat.le_trans (Nat.le_mul_of_pos_right _ hby0) hroom
        unfold room at hle hroom
        have hrun := run_append_nil (P := P) W ty ty' e i zv ht hi hzv a (n0 :: ns).length cu us hul hcells (by simp) (by omega) (by omega)
        have hst := Still.drew W
        obtain ⟨ρ', g1, g2, g3⟩ := grown_sound (S := S) (e := e) (n := S.length) (cap := grownCap W (n0 :: ns).length 0 e) (hst.rel hr) (Builtin.zeroCells zv.cells (grownCap W (n0 :: ns).length 0 e - (n0 :: ns).length)) (Nat.le_refl _)
          (flat_length _ hall) (hst.rvs hus) hone (grownCap_ge W _ _ _) (by
            have hge := grownCap_ge W (n0 :: ns).length 0 e
            rw [Array.size_append, zeroCells_size, hzs, List.size_toArray, hul, ← Nat.add_mul]; congr 1; omega)
        exact ⟨_, _, ρ', hrun, g1, g2, (hst.ext _ _ _).trans g3⟩
      · cases h
  · -- onto what is finished
    rename_i xx els
    split at h
    · simp only [Option.some.injEq, Prod.mk.injEq] at h
      obtain ⟨rfl, rfl⟩ := h
      cases hv with
      | fsl0 A' cap hx => exact ⟨_, W, ρ, run_append_zero ht hi (Nat.zero_le _), .fsl0 A' cap hx, hr, Ext.refl _ _ _ _⟩
      | fsl vs hs hM hB hc hx h1 h2 => exact ⟨_, W, ρ, run_append_zero ht hi hc, .fsl vs hs hM hB hc hx h1 h2, hr, Ext.refl _ _ _ _⟩
    · rename_i n0 ns
      split at h
      · rename_i hc
        simp only [Option.some.injEq, Prod.mk.injEq] at h
        obtain ⟨rfl, rfl⟩ := h
        obtain ⟨rfl, hels, hroom, hone1, hone2⟩ := hc
        obtain ⟨a, rfl, hcells⟩ := huc (by simp)
        have hle : els.length + (n0 :: ns).length ≤ room := Nat.le_trans (Nat.le_mul_of_pos_right _ hby0) hroom
        unfold room at hle hroom
        have hpos : 0 < (n0 :: ns).length := by simp
        have holdE : elsOf S i.size (.fsl true els) = some els := by simp only [elsOf]; rw [if_pos hels]
        obtain ⟨hall0, A0, c0, os, hv0, hos, hol, hoc⟩ := elsOf_sound hr hsz0 hv holdE
        have hcap0 : c0 = els.length ∧ (A0 = none → c0 = 0) := by
          cases hv with
          | fsl0 A' cap hx => cases hv0; exact ⟨hx rfl, fun _ => hx rfl⟩
          | fsl vs hs hM hB hc hx h1 h2 => cases hv0; exact ⟨hx rfl, fun h => by cases h⟩
        obtain ⟨rfl, hA0⟩ := hcap0
        subst hv0
        have hst := Still.drew W
        have hfl : (flatA els ++ flatA (n0 :: ns)).length = (els.length + (n0 :: ns).length) * i.size := by rw [List.length_append, flat_length _ hall0, flat_length _ hall, Nat.add_mul]
        have hrel := RVs.append hos hus
        have hone : (flatA els ++ flatA (n0 :: ns)).all AV.one = true := by rw [List.all_append, hone1, hone2]; rfl
        cases A0 with
        | none =>
          have h0 := hA0 rfl
          obtain rfl : els = [] := List.eq_nil_of_length_eq_zero h0
          obtain rfl : os = [] := List.eq_nil_of_length_eq_zero (by simpa using hol)
          simp only [List.length_nil, Nat.zero_add, flatA, List.nil_append] at *
          have hrun := run_append_nil (P := P) W ty ty' e i zv ht hi hzv a (n0 :: ns).length cu us hul hcells (by simp) (by omega) (by omega)
          obtain ⟨ρ', g1, g2, g3⟩ := grown_sound (S := S) (e := e) (n := S.length) (cap := grownCap W (n0 :: ns).length 0 e) (hst.rel hr) (Builtin.zeroCells zv.cells (grownCap W (n0 :: ns).length 0 e - (n0 :: ns).length)) (Nat.le_refl _)
            (flat_length _ hall) (hst.rvs hus) hone2 (grownCap_ge W _ _ _) (by
              have hge := grownCap_ge W (n0 :: ns).length 0 e
              rw [Array.size_append, zeroCells_size, hzs, List.size_toArray, hul, ← Nat.add_mul]; congr 1; omega)
          exact ⟨_, _, ρ', hrun, g1, g2, (hst.ext _ _ _).trans g3⟩
        | some a0 =>
          have hcells0 : ∀ j u, os[j]? = some u → W.cell? (a0.add j) = some u := by
            by_cases hel : els = []
            · subst hel
              obtain rfl : os = [] := List.eq_nil_of_length_eq_zero (by simpa using hol)
              intro j u h; simp at h
            · obtain ⟨a', h, h'⟩ := hoc hel
              cases h
              exact h'
          have hrun := run_append_grow (P := P) W ty ty' e i zv ht hi hzv a0 els.length els.length os hol hcells0 a (n0 :: ns).length cu us hul hcells (by omega) (by omega) (growslice_fits (by omega) hroom)
          obtain ⟨ρ', g1, g2, g3⟩ := grown_sound (S := S) (e := e) (n := S.length) (m := els.length + (n0 :: ns).length) (cap := grownCap W (els.length + (n0 :: ns).length) els.length e) (vs := os ++ us) (hst.rel hr) (Builtin.zeroCells zv.cells (grownCap W (els.length + (n0 :: ns).length) els.length e - (els.length + (n0 :: ns).length))) (Nat.le_refl _)
            hfl (hst.rvs hrel) hone (grownCap_ge W _ _ _) (by
              have hge := grownCap_ge W (els.length + (n0 :: ns).length) els.length e
              rw [Array.size_append, zeroCells_size, hzs, List.size_toArray, List.length_append, hol, hul, ← Nat.add_mul, ← Nat.add_mul]; congr 1; omega)
          refine ⟨_, _, ρ', hrun, ?_, ?_, (hst.ext _ _ _).trans ?_⟩
          · simpa using g1
          · simpa using g2
          · simpa using g3
      · cases h
  · -- onto a row of one's own
    rename_i l off len cap sz'
    split at h
    case isFalse => cases h
    rename_i he'
    subst he'
    cases hv with
    | @sl _ _ _ _ _ b base cap' tyb cur hρ hlen hcap hb hzb =>
      have hflen := flat_length new hall
      split at h
      · rename_i hroom
        obtain ⟨S1, hw, hSe⟩ := Option.map_eq_some_iff.1 h
        simp only [Prod.mk.injEq] at hSe
        obtain ⟨rfl, rfl⟩ := hSe
        obtain ⟨W', hst, hr', hext⟩ := write_sound (P := P) hr hρ hus hw
        rw [← Nat.add_assoc] at hst
        have hrun := run_append_in (c := cu) (A := A) (ty := ty') ht hi hul huc' (Nat.le_trans hroom hcap) hst
        refine ⟨_, W', ρ, hrun, ?_, hr', hext _⟩
        obtain ⟨c', hc', hce⟩ := (hext 0).shape _ _ _ _ hb
        exact .sl hρ hroom hcap hc' (by rw [hce]; exact hzb)
      · rename_i hnroom
        split at h
        · rename_i cs t hS
          split at h
          · rename_i hc
            simp only [Option.some.injEq, Prod.mk.injEq] at h
            obtain ⟨rfl, rfl⟩ := h
            obtain ⟨rfl, hle, hroom, hone1, hone2⟩ := hc
            have hm0 : new ≠ [] := by rintro rfl; simp at hnroom; omega
            obtain ⟨a, rfl, hcells⟩ := huc hm0
            have hmpos : 0 < new.length := List.length_pos_iff.2 hm0
            have hle' : len + new.length ≤ room := Nat.le_trans (Nat.le_mul_of_pos_right _ hby0) hroom
            unfold room at hle' hroom
            obtain ⟨cur', hcur', hcl, hcr⟩ := hr.rows l _ b base hS hρ
            rw [hb] at hcur'
            simp at hcur'
            obtain ⟨rfl, rfl⟩ := hcur'
            by_cases hr2 : len + new.length ≤ cap'
            · -- there was room
              obtain ⟨ρ', g1, g2, g3⟩ := moved_sound (n := S.length) hr (Nat.le_refl _) hρ hS hb hzb hle hus hflen hr2 hone2
              refine ⟨_, _, ρ', ?_, g1, g2, g3⟩
              have hfit : base + off + len * i.size + us.length ≤ cur.size := by
                have : (len + new.length) * i.size ≤ cap' * i.size := Nat.mul_le_mul_right _ hr2
                rw [Nat.add_mul] at this
                omega
              have hst := run_storeCells_at P b (base + off + len * i.size) tyb us 0 cur W hb (by simpa using hfit) (ones_rel hus hone2)
              simp only [Nat.add_zero] at hst
              exact run_append_in (c := cu) (ty := ty') ht hi hul huc' hr2 hst
            · -- a new row
              have holdE : elsOf S i.size (.sl l off len cap i.size) = some (chunk i.size (cs.drop off) len) := by
                simp [elsOf, rowCells, hS, hle]
              obtain ⟨hall0, A0, c0, os, hv0, hos, hol, hoc⟩ := elsOf_sound hr hsz0 (RV.sl hρ hlen hcap hb hzb) holdE
              rw [length_chunk] at hv0 hol
              have hfc : flatA (chunk i.size (cs.drop off) len) = (cs.drop off).take (len * i.size) := flat_chunk _ _ _
              rw [hfc] at hos
              simp only [Value.slice.injEq, true_and] at hv0
              obtain ⟨rfl, rfl⟩ := hv0
              have hcells0 : ∀ j u, os[j]? = some u → W.cell? ((⟨b, base + off, none⟩ : Addr).add j) = some u := by
                by_cases hel : chunk i.size (cs.drop off) len = []
                · have hl0 : len = 0 := by have := congrArg List.length hel; rw [length_chunk] at this; simpa using this
                  subst hl0
                  obtain rfl : os = [] := List.eq_nil_of_length_eq_zero (by simpa using hol)
                  intro j u h; simp at h
                · obtain ⟨a', h, h'⟩ := hoc hel
                  cases h
                  exact h'
              have hst := Still.drew W
              have hkill := kill_sound (hst.rel hr) l
              have hlen1 : ((cs.drop off).take (len * i.size)).length = len * i.size := by rw [List.length_take, List.length_drop]; omega
              have hrun := run_append_grow (P := P) W ty ty' tyb i zv ht hi hzv ⟨b, base + off, none⟩ len cap' os hol hcells0 a new.length cu us hul hcells (by omega) (by omega) (growslice_fits (by omega) hroom)
              have hboth := ((hst.rvs hos).step (hkill.2 0)).append ((hst.rvs hus).step (hkill.2 0))
              obtain ⟨ρ', g1, g2, g3⟩ := grown_sound (S := S.set l .dead) (e := tyb) (n := S.length) (m := len + new.length) (cap := grownCap W (len + new.length) cap' tyb) (sz := i.size) (cs := (cs.drop off).take (len * i.size) ++ flatA new) (vs := os ++ us) hkill.1
                (Builtin.zeroCells zv.cells (grownCap W (len + new.length) cap' tyb - (len + new.length))) (by simp) (by rw [List.length_append, hlen1, hflen, Nat.add_mul]) hboth (by rw [List.all_append, hone1, hone2]; rfl) (grownCap_ge W _ _ _) (by
                  have hge := grownCap_ge W (len + new.length) cap' tyb
                  rw [Array.size_append, zeroCells_size, hzs, List.size_toArray, List.length_append, hol, hul, ← Nat.add_mul, ← Nat.add_mul]; congr 1; omega)
              simp only [List.length_set] at g1
              refine ⟨_, _, ρ', hrun, ?_, ?_, ((hst.ext _ _ _).trans (hkill.2 _)).trans ?_⟩
              · simpa using g1
              · simpa using g2
              · simpa using g3
          · cases h
        · cases h
  · cases h

end
end Go.Ev
