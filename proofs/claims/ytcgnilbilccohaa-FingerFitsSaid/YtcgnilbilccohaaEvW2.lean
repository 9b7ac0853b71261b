/- Slices of one's own that grow. -/
import Derived.Test.YtcgnilbilccohaaEvW
namespace Go.Ev
open Go
set_option linter.unusedVariables false
set_option linter.unusedSimpArgs false

theorem flatA_append : ∀ (a b : List (List AV)), flatA (a ++ b) = flatA a ++ flatA b
  | [], b => rfl
  | x :: a, b => by simp [flatA, flatA_append a b]

theorem flatA_len {sz : Nat} : ∀ (a : List (List AV)), (∀ e ∈ a, e.length = sz) → (flatA a).length = a.length * sz
  | [], _ => by simp [flatA]
  | x :: a, h => by
    simp only [flatA, List.length_append, List.length_cons]
    rw [h x List.mem_cons_self, flatA_len a (fun e he => h e (List.mem_cons_of_mem _ he)), Nat.succ_mul]
    omega

theorem chunk_flat {sz : Nat} : ∀ (a : List (List AV)), (∀ e ∈ a, e.length = sz) → chunk sz (flatA a) a.length = a
  | [], _ => rfl
  | x :: a, h => by
    have hx := h x List.mem_cons_self
    simp only [flatA, List.length_cons, chunk]
    rw [List.take_append_of_le_length (by omega), List.drop_append_of_le_length (by omega), List.take_of_length_le (by omega), List.drop_eq_nil_of_le (by omega), List.nil_append, chunk_flat a (fun e he => h e (List.mem_cons_of_mem _ he))]

/-- A slice of one's own: nil as long as it is empty; else a row that lies from n on. -/
def OwnSl (n sz e : Nat) (els : List (List AV)) (v : AV) (S : Store) : Prop :=
  (∀ x ∈ els, x.length = sz ∧ x.all AV.one = true) ∧ ((els = [] ∧ v = .nilsl) ∨ (els ≠ [] ∧ ∃ l, v = .sl l 0 els.length els.length sz ∧ n ≤ l ∧ S[l]? = some (.cells (flatA els) e)))

theorem OwnSl.nil (n sz e : Nat) (S : Store) : OwnSl n sz e [] .nilsl S := ⟨by simp, .inl ⟨rfl, rfl⟩⟩

theorem flat_one {els : List (List AV)} (h : ∀ x ∈ els, x.all AV.one = true) : (flatA els).all AV.one = true := by
  induction els with
  | nil => rfl
  | cons x els ih =>
    rw [flatA, List.all_append, h x List.mem_cons_self, ih (fun y hy => h y (List.mem_cons_of_mem _ hy))]
    rfl

/-- One more. -/
theorem OwnSl.append {T : Tab} {n sz e ty by_ : Nat} {z : List AV} {els new : List (List AV)} {v x : AV} {S0 L : Store} (h : OwnSl n sz e els v (S0 ++ L)) (hs : T.sle ty = some e) (hz : T.sz e = some sz) (hy : T.bytes e = some by_) (hz0 : T.zero e = some z) (hzl : z.length = sz) (hsz : 0 < sz) (hby : 0 < by_)
    (hx : elsOf (S0 ++ L) sz x = some new) (hnew : new ≠ []) (hn1 : ∀ y ∈ new, y.length = sz ∧ y.all AV.one = true) (hb : (els.length + new.length) * by_ ≤ room) (hn : n = S0.length) :
    ∃ v' L', appendA T (S0 ++ L) ty v x = some (v', S0 ++ L') ∧ OwnSl n sz e (els ++ new) v' (S0 ++ L') := by
  obtain ⟨h1, h2⟩ := h
  have hall : ∀ y ∈ els ++ new, y.length = sz ∧ y.all AV.one = true := fun y hy => (List.mem_append.1 hy).elim (h1 y) (hn1 y)
  have ho := flat_one (fun y hy => (hn1 y hy).2)
  obtain ⟨y0, new', rfl⟩ := List.exists_cons_of_ne_nil hnew
  rcases h2 with ⟨rfl, rfl⟩ | ⟨hne, l, rfl, hl, hrow⟩
  · refine ⟨.sl (S0 ++ L).length 0 (y0 :: new').length (y0 :: new').length sz, L ++ [.cells (flatA (y0 :: new')) e], ?_, hall, .inr ⟨by simp, (S0 ++ L).length, by simp, by rw [hn]; simp, by simp⟩⟩
    simp only [List.length_nil, Nat.zero_add] at hb
    simp only [appendA, hs, hz, hy, hz0, hx]
    rw [if_pos ⟨hzl, hsz, hby⟩]
    rw [if_pos ⟨hb, ho⟩, List.append_assoc]
  · have hfl := flatA_len els (fun y hy => (h1 y hy).1)
    have htk : ((flatA els).drop 0).take (els.length * sz) = flatA els := by rw [List.drop_zero, List.take_of_length_le (by omega)]
    have hnl : ¬ els.length + (y0 :: new').length ≤ els.length := by simp
    have hlL : S0.length ≤ l := by omega
    refine ⟨.sl (S0 ++ L).length 0 (els ++ y0 :: new').length (els ++ y0 :: new').length sz, L.set (l - S0.length) .dead ++ [.cells (flatA (els ++ y0 :: new')) e], ?_, hall, .inr ⟨by simp, (S0 ++ L).length, rfl, by rw [hn]; simp, ?_⟩⟩
    · have hone : (flatA els).all AV.one = true := flat_one (fun y hy => (h1 y hy).2)
      simp only [appendA, hs, hz, hy, hz0, hx]
      rw [if_pos ⟨hzl, hsz, hby⟩]
      simp only [if_true]
      rw [if_neg hnl]
      simp only [hrow]
      rw [if_pos ⟨trivial, by omega, hb, by rw [htk]; exact hone, ho⟩, htk, List.set_append_right _ _ hlL, List.append_assoc, flatA_append, List.length_append, List.length_append]
    · rw [← List.append_assoc]
      have : (S0 ++ L).length = (S0 ++ L.set (l - S0.length) .dead).length := by simp
      rw [this, List.getElem?_append_right (Nat.le_refl _), Nat.sub_self]
      rfl

/-- Cells that need no freezing. -/
def OldEls (n : Nat) (els : List (List AV)) : Prop := ∀ e ∈ els, ∀ c ∈ e, c.old n = true

theorem omap_old {S : Store} {n k : Nat} : ∀ {l : List AV}, (∀ c ∈ l, c.old n = true) → omap (frz S n (k + 1)) l = some l
  | [], _ => rfl
  | a :: l, h => by
    have h1 : frz S n (k + 1) a = some a := by simp only [frz, h a List.mem_cons_self, if_true]
    simp only [omap, h1, omap_old (fun c hc => h c (List.mem_cons_of_mem _ hc))]

theorem omaps_old {S : Store} {n k : Nat} : ∀ {l : List (List AV)}, OldEls n l → omap (omap (frz S n (k + 1))) l = some l
  | [], _ => rfl
  | a :: l, h => by
    simp only [omap, omap_old (h a List.mem_cons_self), omaps_old (fun c hc => h c (List.mem_cons_of_mem _ hc))]

theorem oldLL_of {n : Nat} : ∀ {els : List (List AV)}, OldEls n els → AV.oldLL n els = true
  | [], _ => rfl
  | a :: l, h => by
    have h1 : AV.oldL n a = true := AV.oldL_iff.2 fun i c hi => h a List.mem_cons_self c (List.mem_of_getElem? hi)
    simp only [AV.oldLL, h1, oldLL_of (els := l) (fun c hc => h c (List.mem_cons_of_mem _ hc)), Bool.and_self]

/-- Told, it is frozen. -/
theorem OwnSl.frz {n sz e k : Nat} {els : List (List AV)} {v : AV} {S : Store} (h : OwnSl n sz e els v S) (ho : OldEls n els) : frz S n (k + 2) v = some (slA none els) := by
  obtain ⟨h1, ⟨rfl, rfl⟩ | ⟨hne, l, rfl, hl, hrow⟩⟩ := h
  · simp [Ev.frz, AV.old, slA]
  · have h2 : AV.old n (.sl l 0 els.length els.length sz) = false := by simp [AV.old]; omega
    have hf := flatA_len els (fun x hx => (h1 x hx).1)
    have hr : rowCells S l = some (flatA els) := by simp [rowCells, hrow]
    have hc := chunk_flat els (fun x hx => (h1 x hx).1)
    unfold Ev.frz
    rw [h2, if_neg (by simp)]
    simp only [if_pos hl, hr]
    rw [if_pos (by omega), List.drop_zero, hc, omaps_old ho]
    obtain ⟨a, l', rfl⟩ := List.exists_cons_of_ne_nil hne
    rfl

theorem OwnSl.fz {n sz e : Nat} {els : List (List AV)} {v : AV} {S : Store} (h : OwnSl n sz e els v S) (ho : OldEls n els) : Ev.fz S n v = some (slA none els) := h.frz (k := 62) ho

theorem OwnSl.len {T : Tab} {n sz e ty : Nat} {els : List (List AV)} {v : AV} {S S' : Store} (h : OwnSl n sz e els v S) (hk : T.kind ty = some 2) : lenB T S' ty v = some (.int .i64 els.length) := by
  obtain ⟨h1, ⟨rfl, rfl⟩ | ⟨hne, l, rfl, hl, hrow⟩⟩ := h
  · simp [hk]
  · simp [hk]

theorem OwnSl.panic {n sz e : Nat} {els : List (List AV)} {v : AV} {S : Store} (h : OwnSl n sz e els v S) : v.isPanic = false := by
  obtain ⟨h1, ⟨rfl, rfl⟩ | ⟨hne, l, rfl, hl, hrow⟩⟩ := h <;> rfl

end Go.Ev
