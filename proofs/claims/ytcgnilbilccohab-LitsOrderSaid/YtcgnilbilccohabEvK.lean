/- The evaluator Ev, part K: a region whose order is drawn tells the same in whatever order. -/
import Derived.Test.YtcgnilbilccohabEvJ
namespace Go.Ev
open Go
set_option linter.unusedSimpArgs false
set_option linter.unusedVariables false

/-! ### An operation hangs on its operands alone -/
theorem partsA_congr {t t' : Tmps} {ps : Array (Nat × Operand)} (h : ∀ p ∈ ps.toList, opd t p.2 = opd t' p.2) : partsA t ps = partsA t' ps := by
  unfold partsA
  exact List.map_congr_left fun p hp => by rw [h p hp]

theorem map_opd_congr {t t' : Tmps} {xs : Array Operand} (h : ∀ x ∈ xs.toList, opd t x = opd t' x) : xs.toList.map (opd t) = xs.toList.map (opd t') := List.map_congr_left h

theorem evP_congr {T : Tab} {t t' : Tmps} {S : Store} {op : Op} (h : ∀ x ∈ op.operands.toList, opd t x = opd t' x) : evP T t S op = evP T t' S op := by
  unfold evP
  split
  · rw [h _ (by simp [Op.operands])]
  · rw [h _ (by simp [Op.operands])]
  · rename_i c x y
    rw [h c (by simp [Op.operands]), h x (by simp [Op.operands]), h y (by simp [Op.operands])]
  · rw [partsA_congr fun p hp => h _ (by simp [Op.operands]; exact ⟨p.1, by simpa using hp⟩)]
  · rw [partsA_congr fun p hp => h _ (by simp [Op.operands]; exact ⟨p.1, by simpa using hp⟩)]
  · rw [h _ (by simp [Op.operands])]
  · rw [h _ (by simp [Op.operands])]
  · rename_i op ty x y yt
    rw [h x (by simp [Op.operands]), h y (by simp [Op.operands])]
  · rw [h _ (by simp [Op.operands])]
  · rename_i f first caps
    rw [map_opd_congr (xs := first) fun x hx => h x (by simp [Op.operands]; exact .inl (by simpa using hx)), map_opd_congr (xs := caps) fun x hx => h x (by simp [Op.operands]; exact .inr (by simpa using hx))]
  · rename_i ty x lo hi
    have hlo : lo.map (opd t) = lo.map (opd t') := by cases lo with | none => rfl | some y => simp [h y (by simp [Op.operands])]
    have hhi : hi.map (opd t) = hi.map (opd t') := by cases hi with | none => rfl | some y => simp [h y (by simp [Op.operands])]
    rw [h x (by simp [Op.operands]), hlo, hhi]
  · rename_i s x f
    rw [h x (by simp [Op.operands])]
  · rename_i ty x i
    rw [h x (by simp [Op.operands]), h i (by simp [Op.operands])]
  · rename_i x i
    rw [h x (by simp [Op.operands])]
  · rename_i src dst x
    rw [h x (by simp [Op.operands])]
  · rename_i ty x i
    rw [h x (by simp [Op.operands]), h i (by simp [Op.operands])]
  · rename_i ty x f
    rw [h x (by simp [Op.operands])]
  · rename_i ty x k ok
    rw [h x (by simp [Op.operands]), h k (by simp [Op.operands])]
  · rename_i xs tys
    split
    · rename_i x ty hx hty
      rw [h x (by simp [Op.operands, Call.operands]; simpa using (by rw [hx]; simp : x ∈ xs.toList))]
    · rfl
  · rename_i xs tys
    split
    · rename_i x y hx
      rw [h x (by simp [Op.operands, Call.operands]; simpa using (by rw [hx]; simp : x ∈ xs.toList)), h y (by simp [Op.operands, Call.operands]; simpa using (by rw [hx]; simp : y ∈ xs.toList))]
    · rfl
  · rename_i xs tys
    split
    · rename_i x y hx
      rw [h x (by simp [Op.operands, Call.operands]; simpa using (by rw [hx]; simp : x ∈ xs.toList)), h y (by simp [Op.operands, Call.operands]; simpa using (by rw [hx]; simp : y ∈ xs.toList))]
    · rfl
  · rfl

theorem evA_congr {T : Tab} {t t' : Tmps} {S S' : Store} {op : Op} (h : ∀ x ∈ op.operands.toList, opd t x = opd t' x) : evA T t S op = evA T t' S' op := by
  unfold evA
  split
  · rfl
  · rw [h _ (by simp [Op.operands])]
  · rename_i ty x y
    rw [h x (by simp [Op.operands]), h y (by simp [Op.operands])]
  · rfl
  · rfl

theorem evC_congr {T : Tab} {call : CallT} {t t' : Tmps} {S : Store} {op : Op} (h : ∀ x ∈ op.operands.toList, opd t x = opd t' x) : evC T call t S op = evC T call t' S op := by
  unfold evC
  split
  · rename_i ty x y
    rw [h x (by simp [Op.operands]), h y (by simp [Op.operands])]
  · rename_i x args tys
    rw [h x (by simp [Op.operands, Call.operands]), map_opd_congr (xs := args) fun y hy => h y (by simp [Op.operands, Call.operands]; exact .inr (by simpa using hy))]
  · rename_i xs tys
    split
    · rename_i x y ty ty' hx hty
      rw [h x (by simp [Op.operands, Call.operands]; simpa using (by rw [hx]; simp : x ∈ xs.toList)), h y (by simp [Op.operands, Call.operands]; simpa using (by rw [hx]; simp : y ∈ xs.toList))]
    · rfl
  · rename_i xs tys
    split
    · rename_i x y ty ty' hx hty
      rw [h x (by simp [Op.operands, Call.operands]; simpa using (by rw [hx]; simp : x ∈ xs.toList)), h y (by simp [Op.operands, Call.operands]; simpa using (by rw [hx]; simp : y ∈ xs.toList))]
    · rfl
  · rename_i xs tys
    split
    · rename_i x ty hx hty
      rw [h x (by simp [Op.operands, Call.operands]; simpa using (by rw [hx]; simp : x ∈ xs.toList))]
    · rfl
  · rename_i xs tys
    split
    · rename_i x y ty ty' hx hty
      rw [h x (by simp [Op.operands, Call.operands]; simpa using (by rw [hx]; simp : x ∈ xs.toList)), h y (by simp [Op.operands, Call.operands]; simpa using (by rw [hx]; simp : y ∈ xs.toList))]
    · rfl
  · rename_i ty m k x
    rw [h m (by simp [Op.operands]), h k (by simp [Op.operands]), h x (by simp [Op.operands])]
  · rename_i ty m k
    rw [h m (by simp [Op.operands]), h k (by simp [Op.operands])]
  · rename_i ty m s x
    rw [h m (by simp [Op.operands]), h s (by simp [Op.operands]), h x (by simp [Op.operands])]
  · rename_i ty x
    rw [h x (by simp [Op.operands])]
  · rename_i x
    rw [h x (by simp [Op.operands])]
  · rename_i x
    rw [h x (by simp [Op.operands])]
  · rename_i x
    rw [h x (by simp [Op.operands])]
  · rfl

/-- What reads no memory tells the same at every store. -/
theorem evP_still {T : Tab} {t : Tmps} {S S' : Store} {op : Op} (h : reads op = false) : evP T t S op = evP T t S' op := by
  unfold evP
  split <;> first | rfl | (simp [reads] at h; done)

theorem opd_of_slots {t t' : Tmps} (x : Operand) (h : ∀ d, x = .tmp d → t.getD d undefA = t'.getD d undefA) : opd t x = opd t' x := by
  cases x with
  | tmp d => exact h d rfl
  | _ => rfl

theorem operands_congr {ops : Array Oper} {o : Oper} {t t' : Tmps} (h : ∀ d ∈ o.looksAt ops, t.getD d undefA = t'.getD d undefA) : ∀ x ∈ o.op.operands.toList, opd t x = opd t' x := by
  intro x hx
  refine opd_of_slots x (fun d hd => h d ?_)
  subst hd
  unfold Oper.looksAt
  exact List.mem_append_left _ (List.mem_filterMap.2 ⟨_, hx, rfl⟩)

theorem wanted_congr {ops : Array Oper} {o : Oper} {t t' : Tmps} (hl : t.length = t'.length) (h : ∀ d ∈ o.looksAt ops, t.getD d undefA = t'.getD d undefA) : wantedA ops t o = wantedA ops t' o := by
  unfold wantedA
  split
  · rfl
  · rename_i j want hg
    split
    · rename_i d hd
      have hd' := h d (by unfold Oper.looksAt; rw [hg]; exact List.mem_append_right _ (by simp only [hd]; simp))
      rw [hd']
    · rfl

end Go.Ev
