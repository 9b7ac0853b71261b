/- Terms: their order is one (plain laws, no program in sight). -/
import Derived.Test.YtcgnilbilccohabEvX3
namespace Go.Ev.Z
open Go Go.Ev Go.Proofs
set_option linter.unusedVariables false
set_option maxRecDepth 8000
set_option linter.unusedSimpArgs false

/-! ### Strings -/
theorem bytesLt_asymm : ∀ {a b : List UInt8}, bytesLt a b = true → bytesLt b a = false
  | _, [], h => by simp [bytesLt] at h
  | [], b :: bs, _ => by simp [bytesLt]
  | a :: ar, b :: bs, h => by
    simp only [bytesLt, Bool.or_eq_true, Bool.and_eq_true, decide_eq_true_eq, beq_iff_eq] at h
    simp only [bytesLt, Bool.or_eq_false_iff, Bool.and_eq_false_iff, decide_eq_false_iff_not, beq_eq_false_iff_ne]
    rcases h with h | ⟨rfl, h⟩
    · exact ⟨fun h' => absurd (UInt8.lt_trans h h') (UInt8.lt_irrefl a), .inl (fun e => UInt8.lt_irrefl b (e ▸ h))⟩
    · exact ⟨UInt8.lt_irrefl a, .inr (bytesLt_asymm h)⟩

theorem bytesLt_total : ∀ (a b : List UInt8), bytesLt a b = true ∨ a = b ∨ bytesLt b a = true
  | [], [] => .inr (.inl rfl)
  | [], b :: bs => .inl (by simp [bytesLt])
  | a :: ar, [] => .inr (.inr (by simp [bytesLt]))
  | a :: ar, b :: bs => by
    simp only [bytesLt, Bool.or_eq_true, Bool.and_eq_true, decide_eq_true_eq, beq_iff_eq]
    by_cases h : a = b
    · subst h
      rcases bytesLt_total ar bs with h | rfl | h
      · exact .inl (.inr ⟨rfl, h⟩)
      · exact .inr (.inl rfl)
      · exact .inr (.inr (.inr ⟨rfl, h⟩))
    · rcases Nat.lt_or_gt_of_ne (fun e => h (UInt8.toNat_inj.1 e)) with h' | h'
      · exact .inl (.inl (UInt8.lt_iff_toNat_lt.2 h'))
      · exact .inr (.inr (.inl (UInt8.lt_iff_toNat_lt.2 h')))

theorem bytesLt_trans : ∀ {a b c : List UInt8}, bytesLt a b = true → bytesLt b c = true → bytesLt a c = true
  | _, [], _, h, _ => by simp [bytesLt] at h
  | _, _ :: _, [], _, h => by simp [bytesLt] at h
  | [], b :: bs, c :: cs, _, _ => by simp [bytesLt]
  | a :: ar, b :: bs, c :: cs, h, h' => by
    simp only [bytesLt, Bool.or_eq_true, Bool.and_eq_true, decide_eq_true_eq, beq_iff_eq] at h h' ⊢
    rcases h with h | ⟨rfl, h⟩ <;> rcases h' with h' | ⟨rfl, h'⟩
    · exact .inl (UInt8.lt_trans h h')
    · exact .inl h
    · exact .inl h'
    · exact .inr ⟨rfl, bytesLt_trans h h'⟩

theorem strLt_total (a b : ByteArray) : strLt a b = true ∨ a = b ∨ strLt b a = true := by
  rcases bytesLt_total a.data.toList b.data.toList with h | h | h
  · exact .inl h
  · refine .inr (.inl ?_)
    cases a; cases b
    congr 1
    exact Array.toList_inj.1 h
  · exact .inr (.inr h)

theorem strLt_asymm {a b : ByteArray} (h : strLt a b = true) : strLt b a = false := bytesLt_asymm h
theorem strLt_trans {a b c : ByteArray} (h : strLt a b = true) (h' : strLt b c = true) : strLt a c = true := bytesLt_trans h h'
theorem strLt_ne {a b : ByteArray} (h : strLt a b = true) : strEq a b = false := by
  cases he : strEq a b with
  | false => rfl
  | true => rw [strEq_iff.1 he, strLt_irrefl] at h; cases h

theorem strEq_comm (a b : ByteArray) : strEq a b = strEq b a := by
  cases h : strEq b a with
  | true => rw [strEq_iff.1 h, strEq_refl]
  | false =>
    cases h' : strEq a b with
    | false => rfl
    | true => rw [strEq_iff.1 h', strEq_refl] at h; cases h

/-! ### What such a comparison is: three-valued, turned round by its sides, through a third one -/
structure IsCmp {α : Type} (c : α → α → Int) : Prop where
  neg : ∀ x y, c y x = - c x y
  trans : ∀ x y z, c x y ≤ 0 → c y z ≤ 0 → c x z ≤ 0 ∧ (c x y < 0 ∨ c y z < 0 → c x z < 0)

theorem cmpI_neg (a b : Int) : cmpI b a = - cmpI a b := by
  unfold cmpI
  split <;> split <;> omega

theorem cmpI_trans {a b c : Int} (h : cmpI a b ≤ 0) (h' : cmpI b c ≤ 0) : cmpI a c ≤ 0 ∧ (cmpI a b < 0 ∨ cmpI b c < 0 → cmpI a c < 0) := by
  unfold cmpI at *
  repeat' split at *
  all_goals first | (exfalso; omega) | omega | (constructor <;> intros <;> omega) | skip
  all_goals omega

theorem cmpI_zero {a b : Int} : cmpI a b = 0 ↔ a = b := by
  unfold cmpI
  repeat' split
  all_goals omega

theorem cmpS_cases (a b : ByteArray) : (cmpS a b = -1 ∧ strLt a b = true) ∨ (cmpS a b = 0 ∧ a = b) ∨ (cmpS a b = 1 ∧ strLt b a = true) := by
  unfold cmpS
  rcases strLt_total a b with h | rfl | h
  · exact .inl (by simp [h])
  · exact .inr (.inl (by simp [strLt_irrefl, strEq_refl]))
  · refine .inr (.inr ⟨?_, h⟩)
    have h1 := strLt_asymm h
    have h2 := strLt_ne h
    rw [strEq_comm] at h2
    simp [h1, h2]

theorem cmpS_neg (a b : ByteArray) : cmpS b a = - cmpS a b := by
  rcases cmpS_cases a b with ⟨h, g⟩ | ⟨h, e⟩ | ⟨h, g⟩
  · have g2 := strLt_asymm g
    rcases cmpS_cases b a with ⟨h', g'⟩ | ⟨h', e'⟩ | ⟨h', g'⟩
    · rw [g2] at g'; cases g'
    · rw [e', strLt_irrefl] at g; cases g
    · omega
  · rw [← e]
    rw [← e] at h
    omega
  · have g2 := strLt_asymm g
    rcases cmpS_cases b a with ⟨h', g'⟩ | ⟨h', e'⟩ | ⟨h', g'⟩
    · omega
    · rw [e', strLt_irrefl] at g; cases g
    · rw [g2] at g'; cases g'

theorem cmpS_trans {a b c : ByteArray} (h : cmpS a b ≤ 0) (h' : cmpS b c ≤ 0) : cmpS a c ≤ 0 ∧ (cmpS a b < 0 ∨ cmpS b c < 0 → cmpS a c < 0) := by
  rcases cmpS_cases a b with ⟨h1, g1⟩ | ⟨h1, rfl⟩ | ⟨h1, g1⟩
  · rcases cmpS_cases b c with ⟨h2, g2⟩ | ⟨h2, rfl⟩ | ⟨h2, g2⟩
    · have := strLt_trans g1 g2
      rcases cmpS_cases a c with ⟨h3, g3⟩ | ⟨h3, rfl⟩ | ⟨h3, g3⟩
      · omega
      · rw [strLt_irrefl] at this; cases this
      · rw [strLt_asymm this] at g3; cases g3
    · omega
    · omega
  · omega
  · omega

theorem cmpS_zero {a b : ByteArray} : cmpS a b = 0 ↔ a = b := by
  rcases cmpS_cases a b with ⟨h, g⟩ | ⟨h, e⟩ | ⟨h, g⟩
  · constructor
    · intro h'; omega
    · rintro rfl; rw [strLt_irrefl] at g; cases g
  · exact ⟨fun _ => e, fun _ => h⟩
  · constructor
    · intro h'; omega
    · rintro rfl; rw [strLt_irrefl] at g; cases g

/-! ### Terms -/
def nm (f : ByteArray) : Bool := strEq f { data := #[] }

theorem nm_iff {f : ByteArray} : nm f = true ↔ f = { data := #[] } := strEq_iff

/-- The comparison, way by way. -/
theorem cmpT_eq (v v' : Int) (f f' : ByteArray) (k k' : Option Bool) (a b : List Tm) :
    cmpT (.mk v f k a) (.mk v' f' k' b) = if cmpS f f' = 0 then (if nm f = true then cmpI v v' else if cmpI a.length b.length = 0 then cmpL a b else cmpI a.length b.length) else cmpS f f' := by
  simp only [cmpT]
  by_cases he : f = f'
  · subst he
    rw [if_pos (cmpS_zero.2 rfl)]
    cases h : nm f
    · have h' : strEq f { data := #[] } = false := h
      simp only [h', strEq_refl, Bool.false_eq_true, if_false, false_and, reduceCtorEq]
      by_cases hl : a.length = b.length
      · have : cmpI a.length b.length = 0 := cmpI_zero.2 (by omega)
        simp [hl, this, cmpI_zero]
      · have : ¬ cmpI a.length b.length = 0 := fun h => hl (by have := cmpI_zero.1 h; omega)
        simp [hl, this]
    · have h' : strEq f { data := #[] } = true := h
      simp [h']
  · have h0 : ¬ cmpS f f' = 0 := fun h => he (cmpS_zero.1 h)
    have h1 : strEq f f' = false := by
      cases h : strEq f f' with
      | false => rfl
      | true => exact absurd (strEq_iff.1 h) he
    rw [if_neg h0]
    have h2 : ¬ (strEq f { data := #[] } = true ∧ strEq f' { data := #[] } = true) := fun h => he ((strEq_iff.1 h.1).trans (strEq_iff.1 h.2).symm)
    simp [h1, h2]

mutual
theorem cmpT_neg : ∀ (x y : Tm), cmpT y x = - cmpT x y
  | .mk v f k a, .mk v' f' k' b => by
    rw [cmpT_eq, cmpT_eq]
    have h1 := cmpS_neg f f'
    have h2 := cmpI_neg v v'
    have h3 := cmpI_neg a.length b.length
    have h4 := cmpL_neg a b
    by_cases h0 : cmpS f f' = 0
    · have h0' : cmpS f' f = 0 := by omega
      obtain rfl := cmpS_zero.1 h0
      simp only [h0, if_true]
      cases nm f
      · by_cases hl : cmpI a.length b.length = 0
        · have hl' : cmpI b.length a.length = 0 := by omega
          simp [hl, hl', h4]
        · have hl' : ¬ cmpI b.length a.length = 0 := by omega
          simp [hl, hl', h3]
      · simp [h2]
    · have h0' : ¬ cmpS f' f = 0 := by omega
      simp [h0, h0', h1]
theorem cmpL_neg : ∀ (x y : List Tm), cmpL y x = - cmpL x y
  | [], [] => rfl
  | [], y :: ys => rfl
  | x :: xs, [] => rfl
  | x :: xs, y :: ys => by
    simp only [cmpL]
    have h1 := cmpT_neg x y
    have h2 := cmpL_neg xs ys
    by_cases h : cmpT x y = 0
    · have h' : cmpT y x = 0 := by omega
      simp [h, h', h2]
    · have h' : ¬ cmpT y x = 0 := by omega
      simp [h, h', h1]
end

mutual
theorem cmpT_trans : ∀ (x y z : Tm), cmpT x y ≤ 0 → cmpT y z ≤ 0 → cmpT x z ≤ 0 ∧ (cmpT x y < 0 ∨ cmpT y z < 0 → cmpT x z < 0)
  | .mk v f k a, .mk v' f' k' b, .mk v'' f'' k'' c => by
    rw [cmpT_eq, cmpT_eq, cmpT_eq]
    intro h h'
    by_cases e1 : cmpS f f' = 0
    · obtain rfl := cmpS_zero.1 e1
      by_cases e2 : cmpS f f'' = 0
      · obtain rfl := cmpS_zero.1 e2
        simp only [e1, if_true] at h h' ⊢
        cases hn : nm f
        · simp only [hn, Bool.false_eq_true, if_false] at h h' ⊢
          by_cases l1 : cmpI a.length b.length = 0
          · have q1 := cmpI_zero.1 l1
            by_cases l2 : cmpI b.length c.length = 0
            · have q2 := cmpI_zero.1 l2
              have l3 : cmpI a.length c.length = 0 := cmpI_zero.2 (by omega)
              rw [if_pos l1] at h ⊢
              rw [if_pos l2] at h' ⊢
              rw [if_pos l3]
              exact cmpL_trans a b c (by omega) (by omega) h h'
            · have l3 : ¬ cmpI a.length c.length = 0 := fun h => l2 (cmpI_zero.2 (by have := cmpI_zero.1 h; omega))
              rw [if_pos l1] at h ⊢
              rw [if_neg l2] at h' ⊢
              rw [if_neg l3]
              have := cmpI_trans (a := a.length) (b := b.length) (c := c.length) (by omega) h'
              exact ⟨this.1, fun _ => this.2 (.inr (by omega))⟩
          · by_cases l2 : cmpI b.length c.length = 0
            · have q2 := cmpI_zero.1 l2
              have l3 : ¬ cmpI a.length c.length = 0 := fun h => l1 (cmpI_zero.2 (by have := cmpI_zero.1 h; omega))
              rw [if_neg l1] at h ⊢
              rw [if_pos l2] at h' ⊢
              rw [if_neg l3]
              have := cmpI_trans (a := a.length) (b := b.length) (c := c.length) h (by omega)
              exact ⟨this.1, fun _ => this.2 (.inl (by omega))⟩
            · rw [if_neg l1] at h ⊢
              rw [if_neg l2] at h' ⊢
              have := cmpI_trans (a := a.length) (b := b.length) (c := c.length) h h'
              have l3 : ¬ cmpI a.length c.length = 0 := by have := this.2 (.inl (by omega)); omega
              rw [if_neg l3]
              exact this
        · simp only [hn, if_true] at h h' ⊢
          exact cmpI_trans h h'
      · simp only [e1, e2, if_true, if_false] at h h' ⊢
        exact ⟨h', fun _ => by omega⟩
    · by_cases e2 : cmpS f' f'' = 0
      · obtain rfl := cmpS_zero.1 e2
        simp only [e1, if_false] at h ⊢
        exact ⟨h, fun _ => by omega⟩
      · simp only [e1, e2, if_false] at h h' ⊢
        have := cmpS_trans h h'
        have e3 : ¬ cmpS f f'' = 0 := by have := this.2 (.inl (by omega)); omega
        rw [if_neg e3]
        exact this
theorem cmpL_trans : ∀ (x y z : List Tm), x.length = y.length → y.length = z.length → cmpL x y ≤ 0 → cmpL y z ≤ 0 → cmpL x z ≤ 0 ∧ (cmpL x y < 0 ∨ cmpL y z < 0 → cmpL x z < 0)
  | [], [], [], _, _, _, _ => by simp [cmpL]
  | x :: xs, y :: ys, z :: zs, hl, hl', h, h' => by
    simp only [cmpL] at h h' ⊢
    by_cases e1 : cmpT x y = 0
    · by_cases e2 : cmpT y z = 0
      · have e3 : cmpT x z = 0 := by
          have a1 := cmpT_trans x y z (by omega) (by omega)
          have a2 := cmpT_trans z y x (by rw [cmpT_neg]; omega) (by rw [cmpT_neg]; omega)
          rw [cmpT_neg x z] at a2
          omega
        simp only [e1, e2, e3, if_true] at h h' ⊢
        exact cmpL_trans xs ys zs (by simpa using hl) (by simpa using hl') h h'
      · simp only [e1, e2, if_true, if_false] at h h' ⊢
        have a1 := (cmpT_trans x y z (by omega) h').2 (.inr (by omega))
        have e3 : ¬ cmpT x z = 0 := by omega
        rw [if_neg e3]
        omega
    · by_cases e2 : cmpT y z = 0
      · simp only [e1, e2, if_true, if_false] at h h' ⊢
        have a1 := (cmpT_trans x y z h (by omega)).2 (.inl (by omega))
        have e3 : ¬ cmpT x z = 0 := by omega
        rw [if_neg e3]
        omega
      · simp only [e1, e2, if_false] at h h' ⊢
        have a1 := (cmpT_trans x y z h h').2 (.inl (by omega))
        have e3 : ¬ cmpT x z = 0 := by omega
        rw [if_neg e3]
        omega
end

mutual
theorem cmpT_zero : ∀ (x y : Tm), shapeB x = true → shapeB y = true → (cmpT x y = 0 ↔ same x y = true)
  | .mk v f k a, .mk v' f' k' b, hx, hy => by
    rw [cmpT_eq]
    simp only [same, shapeB] at hx hy ⊢
    by_cases e : f = f'
    · subst e
      rw [if_pos (cmpS_zero.2 rfl), strEq_refl]
      cases hn : nm f
      · have hn' : strEq f { data := #[] } = false := hn
        simp only [hn', cond_false, Bool.and_eq_true, decide_eq_true_eq] at hx hy
        obtain ⟨rfl, _, _, ha⟩ := hx
        obtain ⟨rfl, _, _, hb⟩ := hy
        simp only [Bool.false_eq_true, if_false, Bool.true_and]
        by_cases hl : cmpI a.length b.length = 0
        · rw [if_pos hl, cmpL_zero a b (by have := cmpI_zero.1 hl; omega) ha hb]
          simp
        · rw [if_neg hl]
          have hl' : ¬ a.length = b.length := fun h => hl (cmpI_zero.2 (by omega))
          simp [hl, sameL_ne hl']
      · have hn' : strEq f { data := #[] } = true := hn
        simp only [hn', cond_true, Bool.and_eq_true, decide_eq_true_eq, beq_iff_eq] at hx hy
        have ha : a = [] := List.eq_nil_of_length_eq_zero (by omega)
        have hb : b = [] := List.eq_nil_of_length_eq_zero (by omega)
        subst ha hb
        simp [cmpI_zero, sameL]
    · have h0 : ¬ cmpS f f' = 0 := fun h => e (cmpS_zero.1 h)
      have h1 : strEq f f' = false := by
        cases h : strEq f f' with
        | false => rfl
        | true => exact absurd (strEq_iff.1 h) e
      simp [h0, h1]
theorem cmpL_zero : ∀ (x y : List Tm), x.length = y.length → shapeAll x = true → shapeAll y = true → (cmpL x y = 0 ↔ sameL x y = true)
  | [], [], _, _, _ => by simp [cmpL, sameL]
  | x :: xs, y :: ys, hl, hx, hy => by
    simp only [shapeAll, Bool.and_eq_true] at hx hy
    have h1 := cmpT_zero x y hx.1 hy.1
    have h2 := cmpL_zero xs ys (by simpa using hl) hx.2 hy.2
    simp only [cmpL, sameL, Bool.and_eq_true]
    by_cases e : cmpT x y = 0
    · simp [e, h1.1 e, h2]
    · simp only [e, if_false]
      constructor
      · intro h; exact h.elim
      · intro h; exact absurd (h1.2 h.1) e
end

theorem cmpI_abs (a b : Int) : -1 ≤ cmpI a b ∧ cmpI a b ≤ 1 := by
  unfold cmpI; repeat' split
  all_goals omega
theorem cmpS_abs (a b : ByteArray) : -1 ≤ cmpS a b ∧ cmpS a b ≤ 1 := by
  rcases cmpS_cases a b with h | h | h <;> omega

mutual
theorem cmpT_abs : ∀ (x y : Tm), -1 ≤ cmpT x y ∧ cmpT x y ≤ 1
  | .mk v f k a, .mk v' f' k' b => by
    rw [cmpT_eq]
    have h1 := cmpS_abs f f'
    have h2 := cmpI_abs v v'
    have h3 := cmpI_abs a.length b.length
    have h4 := cmpL_abs a b
    repeat' split
    all_goals assumption
theorem cmpL_abs : ∀ (x y : List Tm), -1 ≤ cmpL x y ∧ cmpL x y ≤ 1
  | [], [] => by simp [cmpL]
  | [], _ :: _ => by simp [cmpL]
  | _ :: _, [] => by simp [cmpL]
  | x :: xs, y :: ys => by
    simp only [cmpL]
    have h1 := cmpT_abs x y
    have h2 := cmpL_abs xs ys
    split <;> assumption
end

theorem rightW_shape {t : Tm} (h : rightW t = 0) : shapeB t = true := by
  unfold rightW at h
  cases hs : shapeB t with
  | true => rfl
  | false => rw [hs] at h; simp at h

end Go.Ev.Z
