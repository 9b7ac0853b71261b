/- The evaluator Ev, part O: results are frozen, callee's rows are dropped; the whole program's evaluator, by fuel. -/
import Derived.Test.YtcgnilbilccohabEvN
import Derived.Test.YtcgnilbilccohabEvMa
namespace Go.Ev
open Go
set_option linter.unusedSimpArgs false
set_option linter.unusedVariables false

/-! ### Freezing -/
mutual
/-- Own memory in it lies below n. -/
def AV.old (n : Nat) : AV → Bool
  | .ptr l _ => decide (l < n)
  | .sl l _ _ _ _ => decide (l < n)
  | .map l => decide (l < n)
  | .fptr e _ _ => AV.oldLL n e
  | .fsl _ e => AV.oldLL n e
  | .func _ a b => AV.oldL n a && AV.oldL n b
  | .iface _ v => AV.old n v
  | .agg a => AV.oldL n a
  | .tuple a => AV.oldL n a
  | .yield l => decide (l < n)
  | .panicked v => AV.old n v
  | _ => true
def AV.oldL (n : Nat) : List AV → Bool
  | [] => true
  | a :: x => AV.old n a && AV.oldL n x
def AV.oldLL (n : Nat) : List (List AV) → Bool
  | [] => true
  | a :: x => AV.oldL n a && AV.oldLL n x
end

theorem AV.oldL_iff {n : Nat} : ∀ {l : List AV}, AV.oldL n l = true ↔ ∀ (i : Nat) (c : AV), l[i]? = some c → AV.old n c = true
  | [] => by simp [AV.oldL]
  | a :: x => by
    simp only [AV.oldL, Bool.and_eq_true, AV.oldL_iff (l := x)]
    constructor
    · rintro ⟨h1, h2⟩ i c hi
      cases i with
      | zero => simp at hi; subst hi; exact h1
      | succ i => exact h2 i c (by simpa using hi)
    · exact fun h => ⟨h 0 a rfl, fun i c hi => h (i + 1) c (by simpa using hi)⟩

theorem AV.oldLL_iff {n : Nat} : ∀ {l : List (List AV)}, AV.oldLL n l = true ↔ ∀ (i j : Nat) (e : List AV) (c : AV), l[i]? = some e → e[j]? = some c → AV.old n c = true
  | [] => by simp [AV.oldLL]
  | a :: x => by
    simp only [AV.oldLL, Bool.and_eq_true, AV.oldLL_iff (l := x), AV.oldL_iff]
    constructor
    · rintro ⟨h1, h2⟩ i j e c hi hj
      cases i with
      | zero => simp at hi; subst hi; exact h1 j c hj
      | succ i => exact h2 i j e c (by simpa using hi) hj
    · exact fun h => ⟨fun j c hj => h 0 j a c rfl hj, fun i j e c hi hj => h (i + 1) j e c (by simpa using hi) hj⟩

def omap {α β : Type} (f : α → Option β) : List α → Option (List β)
  | [] => some []
  | x :: xs => match f x, omap f xs with
    | some y, some ys => some (y :: ys)
    | _, _ => none

theorem omap_get {α β : Type} {f : α → Option β} : ∀ {l : List α} {l' : List β}, omap f l = some l' → l'.length = l.length ∧ ∀ (i : Nat) (y : β), l'[i]? = some y → ∃ x, l[i]? = some x ∧ f x = some y
  | [], l', h => by simp [omap] at h; subst h; simp
  | x :: xs, l', h => by
    simp only [omap] at h
    split at h
    · rename_i y ys hy hys
      simp only [Option.some.injEq] at h
      subst h
      obtain ⟨h1, h2⟩ := omap_get hys
      refine ⟨by simp [h1], fun i y' hi => ?_⟩
      cases i with
      | zero => simp at hi; subst hi; exact ⟨x, rfl, hy⟩
      | succ i => obtain ⟨z, hz, hf⟩ := h2 i y' (by simpa using hi); exact ⟨z, by simpa using hz, hf⟩
    · cases h

/-- Freezes what lies from n on. -/
def frz (S : Store) (n : Nat) : Nat → AV → Option AV
  | 0, _ => none
  | k + 1, v => if v.old n then some v else match v with
    | .ptr l o => if n ≤ l then match rowCells S l with
        | some cs => (omap (frz S n k) cs).map fun cs => .fptr [cs] 0 o
        | none => none
      else none
    | .sl l off len cap sz => if n ≤ l then match rowCells S l with
        | some cs => if off + len * sz ≤ cs.length then (omap (omap (frz S n k)) (chunk sz (cs.drop off) len)).map (.fsl false) else none
        | none => none
      else none
    | .fptr e i o => (omap (omap (frz S n k)) e).map fun e => .fptr e i o
    | .fsl x e => (omap (omap (frz S n k)) e).map (.fsl x)
    | .func f a b => match omap (frz S n k) a, omap (frz S n k) b with
      | some a, some b => some (.func f a b)
      | _, _ => none
    | .iface t v => (frz S n k v).map (.iface t)
    | .agg a => (omap (frz S n k) a).map .agg
    | .tuple a => (omap (frz S n k) a).map .tuple
    | .panicked v => (frz S n k v).map .panicked
    | _ => none

section
variable {W : World} {ρ ρ' : Rho} {S S' : Store} {M M' : Nat → Prop} {n : Nat}

theorem RV.old (hd : ∀ l x, ρ l = some x → l < n) {a : AV} {v : Value} (h : RV W ρ M a v) : a.old n = true := by
  induction h with
  | ptr o h => simp [AV.old, hd _ _ h]
  | sl h => simp [AV.old, hd _ _ h]
  | map h => simp [AV.old, hd _ _ h]
  | yield h => simp [AV.old, hd _ _ h]
  | fptr i o vs hs hM hB h1 h2 ih => simp only [AV.old]; exact AV.oldLL_iff.2 fun i j e c hi hj => ih i j e c hi hj
  | fsl vs hs hM hB hc hx h1 h2 ih => simp only [AV.old]; exact AV.oldLL_iff.2 fun i j e c hi hj => ih i j e c hi hj
  | @func f first caps vf vc hf hc h1 h2 ih1 ih2 =>
    simp only [AV.old, Bool.and_eq_true]
    refine ⟨AV.oldL_iff.2 fun i c hi => ?_, AV.oldL_iff.2 fun i c hi => ?_⟩
    · have : i < vf.length := by rw [← hf]; exact (List.getElem?_eq_some_iff.1 hi).1
      exact ih1 i c _ hi (List.getElem?_eq_getElem this)
    · have : i < vc.length := by rw [← hc]; exact (List.getElem?_eq_some_iff.1 hi).1
      exact ih2 i c _ hi (List.getElem?_eq_getElem this)
  | iface t h ih => simpa [AV.old] using ih
  | @agg cs vs hl h ih =>
    simp only [AV.old]
    refine AV.oldL_iff.2 fun i c hi => ?_
    have : i < vs.length := by rw [← hl]; exact (List.getElem?_eq_some_iff.1 hi).1
    exact ih i c _ hi (List.getElem?_eq_getElem this)
  | @tuple cs vs hl h ih =>
    simp only [AV.old]
    refine AV.oldL_iff.2 fun i c hi => ?_
    have : i < vs.length := by rw [← hl]; exact (List.getElem?_eq_some_iff.1 hi).1
    exact ih i c _ hi (List.getElem?_eq_getElem this)
  | _ => simp [AV.old, AV.oldLL]

theorem old_sound (hag : ∀ l x, l < n → ρ' l = some x → ρ l = some x) (hM : ∀ b, M b → M' b) {a : AV} {v : Value} (h : RV W ρ' M' a v) (ho : a.old n = true) : RV W ρ M a v := by
  induction h with
  | bool b => exact .bool b
  | int k n => exact .int k n
  | str s => exact .str s
  | ptr o h => exact .ptr o (hag _ _ (by simpa [AV.old] using ho) h)
  | nilptr => exact .nilptr
  | fptr i o vs hs hM' hB h1 h2 ih =>
    have ho := AV.oldLL_iff.1 (by simpa [AV.old] using ho)
    exact .fptr i o vs hs (fun hm => hM' (hM _ hm)) hB h1 fun i j e c a b => ih i j e c a b (ho i j e c a b)
  | sl h hl hc hb hz => exact .sl (hag _ _ (by simpa [AV.old] using ho) h) hl hc hb hz
  | nilsl => exact .nilsl
  | fsl0 A cap hx => exact .fsl0 A cap hx
  | fsl vs hs hM' hB hc hx h1 h2 ih =>
    have ho := AV.oldLL_iff.1 (by simpa [AV.old] using ho)
    exact .fsl vs hs (fun hm => hM' (hM _ hm)) hB hc hx h1 fun i j e c a b => ih i j e c a b (ho i j e c a b)
  | map h => exact .map (hag _ _ (by simpa [AV.old] using ho) h)
  | nilmap => exact .nilmap
  | func f hf hc h1 h2 ih1 ih2 =>
    simp only [AV.old, Bool.and_eq_true] at ho
    exact .func f hf hc (fun i c v a b => ih1 i c v a b (AV.oldL_iff.1 ho.1 i c a)) (fun i c v a b => ih2 i c v a b (AV.oldL_iff.1 ho.2 i c a))
  | nilfunc => exact .nilfunc
  | iface t h ih => exact .iface t (ih (by simpa [AV.old] using ho))
  | niliface => exact .niliface
  | agg hl h ih =>
    have ho := AV.oldL_iff.1 (by simpa [AV.old] using ho)
    exact .agg hl fun i c v a b => ih i c v a b (ho i c a)
  | tuple hl h ih =>
    have ho := AV.oldL_iff.1 (by simpa [AV.old] using ho)
    exact .tuple hl fun i c v a b => ih i c v a b (ho i c a)
  | yield h => exact .yield (hag _ _ (by simpa [AV.old] using ho) h)
  | junk v => exact .junk v

theorem omaps_get {α β : Type} {f : α → Option β} {l : List (List α)} {l' : List (List β)} (h : omap (omap f) l = some l') : l'.length = l.length ∧ ∀ (i : Nat) (y : List β), l'[i]? = some y → ∃ x, l[i]? = some x ∧ y.length = x.length ∧ ∀ (j : Nat) (b : β), y[j]? = some b → ∃ a, x[j]? = some a ∧ f a = some b := by
  obtain ⟨h1, h2⟩ := omap_get h
  refine ⟨h1, fun i y hi => ?_⟩
  obtain ⟨x, hx, hf⟩ := h2 i y hi
  obtain ⟨g1, g2⟩ := omap_get hf
  exact ⟨x, hx, g1, g2⟩


theorem chunk_at {sz : Nat} : ∀ (n : Nat) (cs : List AV) (i j : Nat) (e : List AV) (c : AV), (chunk sz cs n)[i]? = some e → e[j]? = some c → cs[i * sz + j]? = some c ∧ i < n ∧ j < sz
  | 0, cs, i, j, e, c, h, _ => by simp [chunk] at h
  | n + 1, cs, i, j, e, c, h, hj => by
    cases i with
    | zero =>
      simp [chunk] at h
      subst h
      rw [List.getElem?_take] at hj
      split at hj
      · rename_i hlt
        exact ⟨by simpa using hj, by omega, hlt⟩
      · cases hj
    | succ i =>
      simp [chunk] at h
      obtain ⟨g1, g2, g3⟩ := chunk_at n _ i j e c h hj
      rw [List.getElem?_drop] at g1
      refine ⟨?_, by omega, g3⟩
      rw [← g1]
      congr 1
      rw [Nat.add_mul]; omega

theorem chunk_len {sz : Nat} : ∀ (n : Nat) (cs : List AV), (chunk sz cs n).length = n
  | 0, _ => rfl
  | n + 1, cs => by simp [chunk, chunk_len n]

theorem frz_sound (hr : Rel W ρ' S') (hMe : M' = Mut ρ' S') (hag : ∀ l x, l < n → ρ' l = some x → ρ l = some x) (hM : ∀ b, M b → M' b) (hnew : ∀ l b base r, n ≤ l → S'[l]? = some r → r.live = true → ρ' l = some (b, base) → ¬ M b) :
    ∀ (k : Nat) (a a' : AV) (v : Value), frz S' n k a = some a' → RV W ρ' M' a v → RV W ρ M a' v := by
  intro k
  induction k with
  | zero => intro a a' v h; cases h
  | succ k ih =>
    intro a a' v h hv
    simp only [frz] at h
    split at h
    · rename_i ho
      simp only [Option.some.injEq] at h
      subst h
      exact old_sound hag hM hv ho
    · split at h
      · rename_i l o _
        split at h
        case isFalse => cases h
        rename_i hnl
        split at h
        case h_2 => cases h
        rename_i cs hcs
        obtain ⟨cs', hm, rfl⟩ := Option.map_eq_some_iff.1 h
        obtain ⟨g1, g2⟩ := omap_get hm
        unfold rowCells at hcs
        split at hcs
        case h_2 => cases hcs
        rename_i cs0 t hrow
        simp only [Option.some.injEq] at hcs
        subst hcs
        cases hv with
        | @ptr _ b base _ hρ =>
          have hR := hr.rows _ _ _ _ hrow hρ
          obtain ⟨c, hc1, hc2, hc3⟩ := hR
          have key : ∀ (j : Nat) (x : AV), cs'[j]? = some x → ∃ u, W.cell? ⟨b, base + j, none⟩ = some u ∧ RV W ρ M x u := by
            intro j x hj
            obtain ⟨x0, hx0, hf⟩ := g2 j x hj
            obtain ⟨_, u, hu, hru⟩ := hc3 j x0 hx0
            exact ⟨u, by simp [World.cell?, hc1, hu], ih _ _ _ hf (hMe ▸ hru)⟩
          have hp := RV.fptr (W := W) (ρ := ρ) (M := M) (els := [cs']) (b := b) (off := base) (sz := cs'.length) 0 o (fun _ j => (W.cell? ⟨b, base + j, none⟩).getD Go.undef)
            (fun i e hi => by
              cases i with
              | zero => simp at hi; subst hi; rfl
              | succ i => simp at hi)
            (hnew l b base _ hnl hrow rfl hρ) (hr.dom _ _ _ hρ).2
            (fun i j e c hi hj => by
              cases i with
              | zero =>
                simp at hi; subst hi
                obtain ⟨u, hu, _⟩ := key j c hj
                simp [hu]
              | succ i => simp at hi)
            (fun i j e c hi hj => by
              cases i with
              | zero =>
                simp at hi; subst hi
                obtain ⟨u, hu, hru⟩ := key j c hj
                simp [hu, hru]
              | succ i => simp at hi)
          simpa using hp
      · rename_i l off len cap sz _
        split at h
        case isFalse => cases h
        rename_i hnl
        split at h
        case h_2 => cases h
        rename_i cs hcs
        split at h
        case isFalse => cases h
        rename_i hfit
        obtain ⟨els', hm, rfl⟩ := Option.map_eq_some_iff.1 h
        obtain ⟨g1, g2⟩ := omaps_get hm
        unfold rowCells at hcs
        split at hcs
        case h_2 => cases hcs
        rename_i cs0 t hrow
        simp only [Option.some.injEq] at hcs
        subst hcs
        cases hv with
        | @sl _ _ _ _ _ b base cap' ty c0 hρ hl hc hb hz =>
          have hR := hr.rows _ _ _ _ hrow hρ
          obtain ⟨c, hc1, hc2, hc3⟩ := hR
          have key : ∀ (i j : Nat) (e : List AV) (x : AV), els'[i]? = some e → e[j]? = some x → ∃ u, W.cell? ⟨b, base + off + (i * sz + j), none⟩ = some u ∧ RV W ρ M x u := by
            intro i j e x hi hj
            obtain ⟨e0, he0, _, g3⟩ := g2 i e hi
            obtain ⟨x0, hx0, hf⟩ := g3 j x hj
            obtain ⟨q1, q2, q3⟩ := chunk_at _ _ _ _ _ _ he0 hx0
            rw [List.getElem?_drop] at q1
            obtain ⟨_, u, hu, hru⟩ := hc3 _ x0 q1
            exact ⟨u, by simp [World.cell?, hc1]; rw [← hu]; congr 1; omega, ih _ _ _ hf (hMe ▸ hru)⟩
          have hlen : els'.length = len := by rw [g1, chunk_len]
          by_cases h0 : els' = []
          · subst h0
            simp at hlen
            subst hlen
            exact RV.fsl0 _ _ (fun hx => by cases hx)
          · have hp := RV.fsl (W := W) (ρ := ρ) (M := M) (x := false) (els := els') (b := b) (off := base + off) (sz := sz) (cap := cap') (fun i j => (W.cell? ⟨b, base + off + (i * sz + j), none⟩).getD Go.undef)
              (fun i e hi => by
                obtain ⟨e0, he0, hle, _⟩ := g2 i e hi
                rw [hle]
                exact chunk_all len _ (by rw [List.length_drop]; omega) _ (List.mem_of_getElem? he0))
              (hnew l b base _ hnl hrow rfl hρ) (hr.dom _ _ _ hρ).2 (by omega) (fun hx => by cases hx)
              (fun i j e c hi hj => by obtain ⟨u, hu, _⟩ := key i j e c hi hj; simp [hu])
              (fun i j e c hi hj => by obtain ⟨u, hu, hru⟩ := key i j e c hi hj; simp [hu, hru])
            rw [hlen] at hp
            exact hp
      · rename_i e i o _
        obtain ⟨els', hm, rfl⟩ := Option.map_eq_some_iff.1 h
        obtain ⟨g1, g2⟩ := omaps_get hm
        cases hv with
        | fptr _ _ vs hs hM' hB h1 h2 =>
          refine RV.fptr i o vs (fun i e hi => ?_) (fun hm => hM' (hM _ hm)) hB (fun i j e c hi hj => ?_) (fun i j e c hi hj => ?_)
          · obtain ⟨e0, he0, hle, _⟩ := g2 i e hi
            rw [hle]; exact hs i e0 he0
          · obtain ⟨e0, he0, _, g3⟩ := g2 i e hi
            obtain ⟨x0, hx0, hf⟩ := g3 j c hj
            exact h1 i j e0 x0 he0 hx0
          · obtain ⟨e0, he0, _, g3⟩ := g2 i e hi
            obtain ⟨x0, hx0, hf⟩ := g3 j c hj
            exact ih _ _ _ hf (h2 i j e0 x0 he0 hx0)
      · rename_i x e _
        obtain ⟨els', hm, rfl⟩ := Option.map_eq_some_iff.1 h
        obtain ⟨g1, g2⟩ := omaps_get hm
        cases hv with
        | fsl0 A cap hx =>
          simp at g1
          subst g1
          exact RV.fsl0 A cap hx
        | @fsl _ _ _ _ sz _ vs hs hM' hB hc hx h1 h2 =>
          rw [← g1]
          refine RV.fsl (sz := sz) vs (fun i e hi => ?_) (fun hm => hM' (hM _ hm)) hB (by omega) (by rw [g1]; exact hx) (fun i j e c hi hj => ?_) (fun i j e c hi hj => ?_)
          · obtain ⟨e0, he0, hle, _⟩ := g2 i e hi
            rw [hle]; exact hs i e0 he0
          · obtain ⟨e0, he0, _, g3⟩ := g2 i e hi
            obtain ⟨x0, hx0, hf⟩ := g3 j c hj
            exact h1 i j e0 x0 he0 hx0
          · obtain ⟨e0, he0, _, g3⟩ := g2 i e hi
            obtain ⟨x0, hx0, hf⟩ := g3 j c hj
            exact ih _ _ _ hf (h2 i j e0 x0 he0 hx0)
      · rename_i f x y _
        split at h
        case h_2 => cases h
        rename_i x' y' hx hy
        simp only [Option.some.injEq] at h
        subst h
        obtain ⟨a1, a2⟩ := omap_get hx
        obtain ⟨b1, b2⟩ := omap_get hy
        cases hv with
        | func _ hf hc h1 h2 =>
          refine RV.func f (a1.trans hf) (b1.trans hc) (fun i c v hi hj => ?_) (fun i c v hi hj => ?_)
          · obtain ⟨x0, hx0, hf⟩ := a2 i c hi
            exact ih _ _ _ hf (h1 i x0 v hx0 hj)
          · obtain ⟨x0, hx0, hf⟩ := b2 i c hi
            exact ih _ _ _ hf (h2 i x0 v hx0 hj)
      · rename_i t x _
        obtain ⟨x', hm, rfl⟩ := Option.map_eq_some_iff.1 h
        cases hv with
        | iface _ hx => exact RV.iface t (ih _ _ _ hm hx)
      · rename_i x _
        obtain ⟨x', hm, rfl⟩ := Option.map_eq_some_iff.1 h
        obtain ⟨a1, a2⟩ := omap_get hm
        cases hv with
        | agg hl h1 =>
          refine RV.agg (a1.trans hl) (fun i c v hi hj => ?_)
          obtain ⟨x0, hx0, hf⟩ := a2 i c hi
          exact ih _ _ _ hf (h1 i x0 v hx0 hj)
      · rename_i x _
        obtain ⟨x', hm, rfl⟩ := Option.map_eq_some_iff.1 h
        obtain ⟨a1, a2⟩ := omap_get hm
        cases hv with
        | tuple hl h1 =>
          refine RV.tuple (a1.trans hl) (fun i c v hi hj => ?_)
          obtain ⟨x0, hx0, hf⟩ := a2 i c hi
          exact ih _ _ _ hf (h1 i x0 v hx0 hj)
      · cases hv
      · cases h

end

theorem frz_plain {S : Store} {n : Nat} : ∀ (k : Nat) {a b : AV}, a.isPanic = false → frz S n k a = some b → b.isPanic = false
  | 0, a, b, _, h => by cases h
  | k + 1, a, b, ha, h => by
    simp only [frz] at h
    split at h
    · simp only [Option.some.injEq] at h
      rw [← h]
      exact ha
    · split at h
      · split at h
        · split at h
          · obtain ⟨_, _, rfl⟩ := Option.map_eq_some_iff.1 h
            rfl
          · cases h
        · cases h
      · split at h
        · split at h
          · split at h
            · obtain ⟨_, _, rfl⟩ := Option.map_eq_some_iff.1 h
              rfl
            · cases h
          · cases h
        · cases h
      · obtain ⟨_, _, rfl⟩ := Option.map_eq_some_iff.1 h
        rfl
      · obtain ⟨_, _, rfl⟩ := Option.map_eq_some_iff.1 h
        rfl
      · split at h
        · simp only [Option.some.injEq] at h
          rw [← h]
          rfl
        · cases h
      · obtain ⟨_, _, rfl⟩ := Option.map_eq_some_iff.1 h
        rfl
      · obtain ⟨_, _, rfl⟩ := Option.map_eq_some_iff.1 h
        rfl
      · obtain ⟨_, _, rfl⟩ := Option.map_eq_some_iff.1 h
        rfl
      · simp [AV.isPanic] at ha
      · cases h

theorem frz_end {S : Store} {n : Nat} {x : Value} : ∀ (k : Nat) {a b : AV}, frz S n k a = some b → endOf b x = endOf a x ∧ ∃ k', frz S n k' (unpanic a) = some (unpanic b)
  | 0, a, b, h => by cases h
  | k + 1, a, b, h => by
    cases hp : a.isPanic with
    | false =>
      have hb := frz_plain (k + 1) hp h
      exact ⟨by rw [endOf_plain hb, endOf_plain hp], k + 1, by rw [unpanic_plain hb, unpanic_plain hp]; exact h⟩
    | true =>
      cases a with
      | panicked p =>
        simp only [frz] at h
        split at h
        · rename_i ho
          simp only [Option.some.injEq] at h
          subst h
          refine ⟨rfl, 1, ?_⟩
          have : AV.old n p = true := by simpa [AV.old] using ho
          simp [frz, unpanic, this]
        · obtain ⟨p', hp', rfl⟩ := Option.map_eq_some_iff.1 h
          exact ⟨rfl, k, hp'⟩
      | _ => simp [AV.isPanic] at hp

/-! ### The whole program -/
/-- Behind a call: what is told is frozen, the callee's rows are dropped. -/
def fin (mode : Bool) (S : Store) (r : AV × Store) : Option (AV × Store) :=
  if mode then (if sameS (r.2.take S.length) S then (frz r.2 S.length 64 r.1).map fun v => (v, S) else none) else some r

theorem fin_sound {P : Program} {f : Nat} {c : List AV → Store → Option (AV × Store)} (h : CallSound P f c) (mode : Bool) : CallSound P f (fun args S => (c args S).bind (fin mode S)) := by
  intro args S v S' ρ W vs hc hr hv
  obtain ⟨⟨v0, S0⟩, h0, hf⟩ := Option.bind_eq_some_iff.1 hc
  have := h args S v0 S0 ρ W vs h0 hr hv
  unfold fin at hf
  split at hf
  · split at hf
    case isFalse => cases hf
    rename_i hsame
    obtain ⟨v1, hfz, he⟩ := Option.map_eq_some_iff.1 hf
    simp only [Prod.mk.injEq] at he
    obtain ⟨rfl, rfl⟩ := he
    have hS := sameS_eq hsame
    refine this.mono ?_
    rintro e W' ⟨x, ρ', rfl, g1, g2, g3⟩
    have hend := frz_end (x := x) 64 hfz
    obtain ⟨hend, kz, hfz'⟩ := hend
    have hlt : ∀ l, l < S.length → S0[l]? = S[l]? := by
      intro l hl
      have : (S0.take S.length)[l]? = S[l]? := by rw [hS]
      rwa [List.getElem?_take, if_pos hl] at this
    have hag : ∀ l x, l < S.length → ρ' l = some x → ρ l = some x := by
      intro l x hl hx
      cases hρ : ρ l with
      | none => have := g3.fresh l x hx hρ; omega
      | some y => have := g3.agree l y hρ; rw [hx] at this; rw [this]
    have hM : ∀ b, Mut ρ S b → Mut ρ' S0 b := by
      rintro b ⟨l, base, r, h1, h2, h3⟩
      have hl : l < S.length := (List.getElem?_eq_some_iff.1 h1).1
      exact ⟨l, base, r, by rw [hlt l hl]; exact h1, h2, g3.agree _ _ h3⟩
    refine ⟨x, ρ, hend.symm, ?_, ?_, ?_⟩
    · refine frz_sound g2 rfl hag hM (fun l b base r hl hrow hlive hρ => ?_) kz _ _ x hfz' g1
      rintro ⟨l', base', r', h1, h2, h3⟩
      have hl' : l' < S.length := (List.getElem?_eq_some_iff.1 h1).1
      have := g2.inj l l' r r' b base base' hrow (by rw [hlt l' hl']; exact h1) hlive h2 hρ (g3.agree _ _ h3)
      omega
    · refine ⟨fun l b base hl => ⟨(hr.dom l b base hl).1, Nat.lt_of_lt_of_le (hr.dom l b base hl).2 g3.size⟩, fun l r b base h1 h2 => ?_, hr.inj⟩
      have hl : l < S.length := (List.getElem?_eq_some_iff.1 h1).1
      have hR := g2.rows l r b base (by rw [hlt l hl]; exact h1) (g3.agree _ _ h2)
      have hR0 := hr.rows l r b base h1 h2
      have hd : ∀ l x, ρ l = some x → l < S.length := fun l x hx => (hr.dom l x.1 x.2 hx).1
      cases r with
      | dead => trivial
      | cells cs t =>
        obtain ⟨c0, q1, q2, q3⟩ := hR0
        obtain ⟨c1, p1, p2, p3⟩ := hR
        refine ⟨c1, p1, p2, fun j a hj => ?_⟩
        obtain ⟨o1, u, hu, hru⟩ := p3 j a hj
        obtain ⟨_, u0, _, hru0⟩ := q3 j a hj
        exact ⟨o1, u, hu, old_sound hag hM hru (hru0.old hd)⟩
      | map es clk =>
        obtain ⟨z0, ms0, q1, q2, q3⟩ := hR0
        obtain ⟨z1, ms1, p1, p2, p3⟩ := hR
        refine ⟨z1, ms1, p1, p2, fun j e m hj hm => ?_⟩
        obtain ⟨a1, a2, a3⟩ := p3 j e m hj hm
        have hj0 : j < ms0.size := by rw [← q2]; exact (List.getElem?_eq_some_iff.1 hj).1
        obtain ⟨b1, b2, _⟩ := q3 j e ms0[j] hj (Array.getElem?_eq_getElem hj0)
        exact ⟨old_sound hag hM a1 (b1.old hd), old_sound hag hM a2 (b2.old hd), a3⟩
      | iter m since seen last =>
        obtain ⟨z0, mb0, q1, q2⟩ := hR0
        obtain ⟨z1, mb1, p1, p2⟩ := hR
        refine ⟨z1, mb1, p1, ?_⟩
        cases m with
        | none => exact p2
        | some l' =>
          obtain ⟨b0, _, e2⟩ := q2
          obtain ⟨b1, e3, e4⟩ := p2
          exact ⟨b1, e3, old_sound hag hM e4 (e2.old hd)⟩
      | loop f ps t st j =>
        obtain ⟨z0, r0, q1, q2, q3, q4, q5, q6⟩ := hR0
        obtain ⟨z1, r1, p1, p2, p3, p4, p5, p6⟩ := hR
        exact ⟨z1, r1, p1, p2, p3, p4, fun i => old_sound hag hM (p5 i) ((q5 i).old hd), p6⟩
    · exact ⟨g3.os, g3.tape, g3.output, g3.size, g3.frame, fun _ _ h => h, fun _ _ h => h, g3.shape, fun _ _ h h' => (by rw [h'] at h; cases h), Nat.le_refl _⟩
  · simp only [Option.some.injEq, Prod.mk.injEq] at hf
    obtain ⟨rfl, rfl⟩ := hf
    exact this

/-- A program's evaluator: functions (with their bodies), which are frozen, the plans of drawn regions, what stands for functions by hand. -/
structure Env where
  T : Tab
  fns : Nat → Option Func
  mode : Nat → Bool
  plans : Nat → Nat → List (Nat × Nat)
  alts : Nat → Nat → List (List Nat × List (Nat × Nat))
  hand : CallT → Nat → Option (List AV → Store → Option (AV × Store))

/-- The code of a range over a function. -/
def codeE (E : Env) (f : Nat) (ps : List Nat) : Option (Code × Code) := match E.fns f with
  | some fn => match fn.body with
    | some c => findRf ps (rfs c)
    | none => none
  | none => none

def callN (E : Env) : Nat → CallT
  | 0 => ⟨fun _ _ _ => none, fun _ _ _ => none⟩
  | k + 1 => ⟨fun f args S => match E.hand (callN E k) f with
    | some c => c args S
    | none => match E.fns f with
      | some fn => (evFun E.T (callN E k) (drawX E.T (callN E k) f none (E.plans f) (E.alts f)) (k + 1) fn args S).bind (fin (E.mode f) S)
      | none => none,
    fun l => yieldA (codeE E) (fun f => evCode E.T (callN E k) (drawX E.T (callN E k) f (some l) (E.plans f) (E.alts f)) (k + 1)) l⟩

/-- No two ranges over functions of a function have the same parameters. -/
def rfOK (c : Code) : Bool := (rfs c).all fun x => match findRf x.1 (rfs c) with
  | some _ => ((rfs c).filter fun y => y.1 == x.1).length == 1
  | none => false

theorem findRf_mem {ps : List Nat} : ∀ {l : List (List Nat × Code × Code)} {y : Code × Code}, findRf ps l = some y → (ps, y) ∈ l
  | [], _, h => by simp [findRf] at h
  | (q, a, c) :: rest, y, h => by
    simp only [findRf] at h
    split at h
    · rename_i hq
      simp only [Option.some.injEq] at h
      subst h; subst hq
      exact List.mem_cons_self
    · exact List.mem_cons_of_mem _ (findRf_mem h)

theorem rfOK_find {c : Code} (h : rfOK c = true) {x : List Nat × Code × Code} (hx : x ∈ rfs c) : findRf x.1 (rfs c) = some x.2 := by
  have h1 := List.all_eq_true.1 h x hx
  cases hf : findRf x.1 (rfs c) with
  | none => rw [hf] at h1; cases h1
  | some y =>
    rw [hf] at h1
    have hy := findRf_mem hf
    simp only [beq_iff_eq] at h1
    obtain ⟨z, hz⟩ := List.length_eq_one_iff.1 h1
    have m1 : x ∈ (rfs c).filter fun y => y.1 == x.1 := List.mem_filter.2 ⟨hx, by simp⟩
    have m2 : (x.1, y) ∈ (rfs c).filter fun y => y.1 == x.1 := List.mem_filter.2 ⟨hy, by simp⟩
    rw [hz, List.mem_singleton] at m1 m2
    rw [m1] at m2 ⊢
    rw [← m2]

theorem codeOK_rfs {okR : Nat → Array Oper → Bool} : ∀ {c : Code}, codeOK okR c = true → ∀ x ∈ rfs c, codeOK okR x.2.1 = true ∧ codeOK okR x.2.2 = true
  | .seq a b, h, x, hx => by
    simp only [codeOK, Bool.and_eq_true] at h
    simp only [rfs, List.mem_append] at hx
    exact hx.elim (codeOK_rfs h.1 x) (codeOK_rfs h.2 x)
  | .cond _ a b, h, x, hx => by
    simp only [codeOK, Bool.and_eq_true] at h
    simp only [rfs, List.mem_append] at hx
    exact hx.elim (codeOK_rfs h.1 x) (codeOK_rfs h.2 x)
  | .block _ c, h, x, hx => codeOK_rfs (c := c) h x hx
  | .loop c, h, x, hx => codeOK_rfs (c := c) h x hx
  | .rangeFunc _ ps a b, h, x, hx => by
    simp only [codeOK, Bool.and_eq_true] at h
    simp only [rfs, List.mem_cons, List.mem_append] at hx
    rcases hx with rfl | hx | hx
    · exact h
    · exact codeOK_rfs h.1 x hx
    · exact codeOK_rfs h.2 x hx
  | .skip, _, x, hx => by simp [rfs] at hx
  | .region _ _ _, _, x, hx => by simp [rfs] at hx
  | .exit _, _, x, hx => by simp [rfs] at hx
  | .scope _, _, x, hx => by simp [rfs] at hx
  | .label _, _, x, hx => by simp [rfs] at hx
  | .goto _, _, x, hx => by simp [rfs] at hx
  | .ret, _, x, hx => by simp [rfs] at hx
  | .refuse _, _, x, hx => by simp [rfs] at hx

/-- Ranges within a range's code are ranges of the whole. -/
theorem rfs_rfs : ∀ {c : Code} {x : List Nat × Code × Code}, x ∈ rfs c → (∀ y ∈ rfs x.2.1, y ∈ rfs c) ∧ ∀ y ∈ rfs x.2.2, y ∈ rfs c
  | .seq a b, x, hx => by
    simp only [rfs, List.mem_append] at hx ⊢
    rcases hx with hx | hx
    · exact ⟨fun y hy => .inl ((rfs_rfs hx).1 y hy), fun y hy => .inl ((rfs_rfs hx).2 y hy)⟩
    · exact ⟨fun y hy => .inr ((rfs_rfs hx).1 y hy), fun y hy => .inr ((rfs_rfs hx).2 y hy)⟩
  | .cond _ a b, x, hx => by
    simp only [rfs, List.mem_append] at hx ⊢
    rcases hx with hx | hx
    · exact ⟨fun y hy => .inl ((rfs_rfs hx).1 y hy), fun y hy => .inl ((rfs_rfs hx).2 y hy)⟩
    · exact ⟨fun y hy => .inr ((rfs_rfs hx).1 y hy), fun y hy => .inr ((rfs_rfs hx).2 y hy)⟩
  | .block _ c, x, hx => rfs_rfs (c := c) hx
  | .loop c, x, hx => rfs_rfs (c := c) hx
  | .rangeFunc _ ps a b, x, hx => by
    simp only [rfs, List.mem_cons, List.mem_append] at hx ⊢
    rcases hx with rfl | hx | hx
    · exact ⟨fun y hy => .inr (.inl hy), fun y hy => .inr (.inr hy)⟩
    · exact ⟨fun y hy => .inr (.inl ((rfs_rfs hx).1 y hy)), fun y hy => .inr (.inl ((rfs_rfs hx).2 y hy))⟩
    · exact ⟨fun y hy => .inr (.inr ((rfs_rfs hx).1 y hy)), fun y hy => .inr (.inr ((rfs_rfs hx).2 y hy))⟩
  | .skip, x, hx => by simp [rfs] at hx
  | .region _ _ _, x, hx => by simp [rfs] at hx
  | .exit _, x, hx => by simp [rfs] at hx
  | .scope _, x, hx => by simp [rfs] at hx
  | .label _, x, hx => by simp [rfs] at hx
  | .goto _, x, hx => by simp [rfs] at hx
  | .ret, x, hx => by simp [rfs] at hx
  | .refuse _, x, hx => by simp [rfs] at hx

structure EnvOK (P : Program) (E : Env) : Prop where
  mixed : P.follows .mixedOrders = true
  tab : TabOK P E.T
  fns : ∀ f fn, E.fns f = some fn → P.funcs[f]? = some fn ∧ (fn.body.map (codeOK (regOK (E.plans f) (E.alts f)))).getD true = true
  codes : ∀ f fn c, E.fns f = some fn → fn.body = some c → rfOK c = true ∧ ∀ ps, codesOf f ps = findRf ps (rfs c)
  hand : ∀ call, CallsSound P call → ∀ f c, E.hand call f = some c → CallSound P f c

theorem callN_sound {P : Program} {E : Env} (h : EnvOK P E) : ∀ (k : Nat), CallsSound P (callN E k)
  | 0 => ⟨fun f => CallSound.none P f, fun l args S v S' ρ W vs b h => by cases h⟩
  | k + 1 => by
    have ih := callN_sound h k
    refine ⟨fun f => ?_, ?_⟩
    · cases hh : E.hand (callN E k) f with
      | some c => exact (h.hand _ ih f c hh).mono fun args S r hr => by simpa [callN, hh] using hr
      | none =>
        cases hf : E.fns f with
        | none => exact (CallSound.none P f).mono fun args S r hr => by simp [callN, hh, hf] at hr
        | some fn =>
          obtain ⟨h1, h2⟩ := h.fns f fn hf
          have := fin_sound (evFun_sound h.tab ih (drawX_sound h.mixed h.tab ih f none (E.plans f) (E.alts f)) rfl (k + 1) f fn h1 h2 (fun c hc x hx => by
            obtain ⟨g1, g2⟩ := h.codes f fn c hf hc
            exact (g2 x.1).trans (rfOK_find g1 hx))) (E.mode f)
          exact this.mono fun args S r hr => by simpa [callN, hh, hf] using hr
    · refine yield_sound (ev := fun l f => evCode E.T (callN E k) (drawX E.T (callN E k) f (some l) (E.plans f) (E.alts f)) (k + 1)) (codeE E) (fun f ps x hx => ?_) (fun l f ps a c X hx hX => ?_)
      · unfold codeE at hx
        cases hf : E.fns f with
        | none => rw [hf] at hx; cases hx
        | some fn =>
          rw [hf] at hx
          cases hb : fn.body with
          | none => simp [hb] at hx
          | some cb =>
            simp only [hb] at hx
            rw [(h.codes f fn cb hf hb).2 ps]
            exact hx
      · unfold codeE at hx
        cases hf : E.fns f with
        | none => rw [hf] at hx; cases hx
        | some fn =>
          rw [hf] at hx
          cases hb : fn.body with
          | none => simp [hb] at hx
          | some cb =>
            simp only [hb] at hx
            obtain ⟨h1, h2⟩ := h.fns f fn hf
            obtain ⟨g1, g2⟩ := h.codes f fn cb hf hb
            rw [hb] at h2
            replace h2 : codeOK (regOK (E.plans f) (E.alts f)) cb = true := h2
            have hm := findRf_mem hx
            obtain ⟨k1, k2⟩ := codeOK_rfs h2 _ hm
            obtain ⟨m1, m2⟩ := rfs_rfs hm
            have hdr := drawX_sound h.mixed h.tab ih f (some l) (E.plans f) (E.alts f)
            exact ⟨evCode_sound h.tab ih hdr hX.symm (k + 1) a k1 (fun y hy => (g2 y.1).trans (rfOK_find g1 (m1 y hy))), evCode_sound h.tab ih hdr hX.symm (k + 1) c k2 (fun y hy => (g2 y.1).trans (rfOK_find g1 (m2 y hy)))⟩

end Go.Ev
