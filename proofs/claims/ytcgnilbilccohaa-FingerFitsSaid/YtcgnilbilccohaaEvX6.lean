/- Fingerprints: what the reference says of them. -/
import Derived.Test.YtcgnilbilccohaaEvX1
namespace Go.Ev.Z
open Go Go.Ev Go.Proofs
set_option linter.unusedVariables false
set_option maxRecDepth 8000
set_option linter.unusedSimpArgs false

set_option maxHeartbeats 8000000 in
theorem loop42 (xs ys : List Ft) (kx ky : Option Bool) (k K : Nat) (hb : xs.length = 4) (hxy : ys.length = 4) :
    ∀ (rest rest' : List Ft) (i n : Nat) (t : Tmps) (S : Store), xs.drop i = rest → ys.drop i = rest' → i ≤ 4 → rest.length < n → t.length = 89 → tg t 0 = slA kx (xs.map Ft.cells) → tg t 1 = slA ky (ys.map Ft.cells) → tg t 5 = .int .i64 i →
      Out (fun e t' S' => (e = .exit 0 ∧ allP uni rest rest' = true ∨ e = .ret ∧ allP uni rest rest' = false ∧ tg t' 4 = .bool false) ∧ t'.length = 89 ∧ ∃ L, S' = S ++ L) (loopC T (callN E (k + 1)) (drawF T (callN E (k + 1)) 42 none (planOf 42)) K (lp 0 Try.f42) n t S) := by
  intro rest
  induction rest with
  | nil =>
    intro rest' i n t S hd hd' hi4 hn hlen h0 h1 h5
    obtain ⟨n, rfl⟩ : ∃ n', n = n' + 1 := ⟨n - 1, by omega⟩
    have hi : xs.length ≤ i := List.drop_eq_nil_iff.1 hd
    obtain rfl : rest' = [] := by rw [← hd']; exact List.drop_eq_nil_of_le (by omega)
    obtain rfl : i = 4 := by omega
    simp [loop_step, Try.f42, h0, h1, h5, hlen, allP]
  | cons a rest ihr =>
    intro rest' i n t S hd hd' hi4 hn hlen h0 h1 h5
    obtain ⟨n, rfl⟩ : ∃ n', n = n' + 1 := ⟨n - 1, by omega⟩
    obtain ⟨hi, ha, hdx⟩ := drop_cons hd
    obtain ⟨b, rest', rfl⟩ : ∃ b r, rest' = b :: r := by
      cases rest' with
      | nil => have := List.drop_eq_nil_iff.1 hd'; omega
      | cons b r => exact ⟨b, r, rfl⟩
    obtain ⟨hi', hb', hdy⟩ := drop_cons hd'
    have e3 : (xs.map Ft.cells)[i]? = some a.cells := by simp [ha]
    have e2 := indexA_slA (T := T) (ty := 65) (e := 132) (sz := 3) (k := kx) (els := xs.map Ft.cells) (i := i) (el := a.cells) rfl rfl e3 rfl
    have e4 := readN_el e3 (show a.cells.length = 3 from rfl)
    have f3 : (ys.map Ft.cells)[i]? = some b.cells := by simp [hb']
    have f2 := indexA_slA (T := T) (ty := 65) (e := 132) (sz := 3) (k := ky) (els := ys.map Ft.cells) (i := i) (el := b.cells) rfl rfl f3 rfl
    have f4 := readN_el f3 (show b.cells.length = 3 from rfl)
    have hw : IntKind.i64.wrap ((i : Int) + 1) = ((i + 1 : Nat) : Int) := wrapN (by omega) (by omega)
    have i4 : (i : Int) < 4 := by omega
    have k1 := fun S => t112 k a S
    have k2 := fun S => t112 k b S
    have ihn := fun t S => ihr rest' (i + 1) n t S hdx hdy (by omega) (by simp at hn; omega)
    clear hn hd hd' ihr e3 f3 hb' ha hi hi' hdx hdy
    obtain ⟨w, u, c⟩ := a
    obtain ⟨w', u', c'⟩ := b
    simp only [Ft.cells] at e4 f4 k1 k2 e2 f2
    by_cases g1 : 1 ≤ w ∧ w ≤ 4
    · by_cases g2 : 1 ≤ w' ∧ w' ≤ 4
      · have q : ∀ (r : Bool), uni ⟨w, u, c⟩ ⟨w', u', c'⟩ = r → allP uni (⟨w, u, c⟩ :: rest) (⟨w', u', c'⟩ :: rest') = (r && allP uni rest rest') := by
          intro r hr
          simp only [allP, okP, kn, hr]
          simp [g1, g2]
        have a1 : w = 1 ∨ w = 2 ∨ w = 3 ∨ w = 4 := by omega
        have a2 : w' = 1 ∨ w' = 2 ∨ w' = 3 ∨ w' = 4 := by omega
        have fin : ∀ t2 S2, t2.length = 89 → tg t2 0 = slA kx (xs.map Ft.cells) → tg t2 1 = slA ky (ys.map Ft.cells) → tg t2 5 = .int .i64 ((i : Int) + 1) → (∃ L, S2 = S ++ L) →
            Out (fun e t' S' => (e = .exit 0 ∧ allP uni rest rest' = true ∨ e = .ret ∧ allP uni rest rest' = false ∧ tg t' 4 = .bool false) ∧ t'.length = 89 ∧ ∃ L, S' = S ++ L) (loopC T (callN E (k + 1)) (drawF T (callN E (k + 1)) 42 none (planOf 42)) K (lp 0 Try.f42) n t2 S2) := by
          intro t2 S2 z1 z2 z3 z4 z5
          obtain ⟨L, rfl⟩ := z5
          exact (ihn t2 (S ++ L) z1 z2 z3 (by rw [z4]; simp)).mono (fun e t' S' h => ⟨h.1, h.2.1, by obtain ⟨L', rfl⟩ := h.2.2; exact ⟨_, List.append_assoc _ _ _⟩⟩)
        clear ihn
        rcases a1 with rfl | rfl | rfl | rfl <;> rcases a2 with rfl | rfl | rfl | rfl
        · by_cases s1 : u = u'
          · subst s1
            cases s2 : strEq c c'
            · rw [q false (by simp [uni, uni1, Ft.eq, s2])]; simp [loop_step, Try.f42, h0, h1, h5, hlen, i4, e2, e4, f2, f4, k1, k2, hw, s2]
            · rw [q true (by simp [uni, uni1, Ft.eq, s2])]; simp [loop_step, Try.f42, h0, h1, h5, hlen, i4, e2, e4, f2, f4, k1, k2, hw, s2]; refine fin _ _ ?_ ?_ ?_ ?_ ⟨_, rfl⟩ <;> simp [hlen, h0, h1]
          · rw [q false (by simp [uni, uni1, Ft.eq, s1])]; simp [loop_step, Try.f42, h0, h1, h5, hlen, i4, e2, e4, f2, f4, k1, k2, hw, s1]
        all_goals first
          | (rw [q false (by simp [uni, uni1, Ft.eq])]; simp [loop_step, Try.f42, h0, h1, h5, hlen, i4, e2, e4, f2, f4, k1, k2, hw]; done)
          | (rw [q true (by simp [uni, uni1, Ft.eq])]; simp [loop_step, Try.f42, h0, h1, h5, hlen, i4, e2, e4, f2, f4, k1, k2, hw]; refine fin _ _ ?_ ?_ ?_ ?_ ⟨_, rfl⟩ <;> simp [hlen, h0, h1]; done)
      · have hk : (decide (1 ≤ w') && decide (w' ≤ 4)) = false := by simpa using g2
        simp [loop_step, Try.f42, h0, h1, h5, hlen, i4, e2, e4, f2, f4, k1, k2, hw, g1, hk, allP, okP, kn]
    · have hk : (decide (1 ≤ w) && decide (w ≤ 4)) = false := by simpa using g1
      simp [loop_step, Try.f42, h0, h1, h5, hlen, i4, e2, e4, f2, f4, k1, k2, hw, hk, allP, okP, kn]

theorem t42 (xs ys : List Ft) (kx ky : Option Bool) (k : Nat) (hk : 4 ≤ k) (S : Store) : callN E (k + 2) 42 [slA kx (xs.map Ft.cells), slA ky (ys.map Ft.cells)] S = some (.bool (every uni xs ys), S) := by
  rw [run_fn (by decide) Try.func42 rfl]
  by_cases c1 : xs.length = 4
  · have d1 : (xs.length : Int) = 4 := by omega
    by_cases c2 : ys.length = 4
    · have d2 : (ys.length : Int) = 4 := by omega
      have L := fun t => loop42 xs ys kx ky k (k + 1 + 1) c1 c2 xs ys 0 (k + 1 + 1) t S rfl rfl (by omega) (by omega)
      simp only [lp, loops, Try.f42, List.nil_append, List.append_nil, List.getD_cons_zero] at L
      simp [Try.f42, keepl, c1, c2, d1, d2, every]
      generalize hr : loopC T (callN E (k + 1)) _ (k + 1 + 1) _ (k + 1 + 1) _ _ = r
      obtain ⟨e, t', S', rfl, h, g1, L', rfl⟩ := Out.at hr (L _ (by rfl) (by rfl) (by rfl) (by rfl))
      rcases h with ⟨rfl, h⟩ | ⟨rfl, h, h2⟩
      · simp [h, g1]
      · simp [h, g1, h2]
    · have d2 : ¬ (ys.length : Int) = 4 := by omega
      simp [Try.f42, keepl, c1, c2, d1, d2, every]
  · have d1 : ¬ (xs.length : Int) = 4 := by omega
    simp [Try.f42, keepl, c1, d1, every]

set_option maxHeartbeats 8000000 in
theorem loop44 (xs ys : List Ft) (kx ky : Option Bool) (k K : Nat) (hb : xs.length = 4) (hxy : ys.length = 4) :
    ∀ (rest rest' : List Ft) (i n : Nat) (t : Tmps) (S : Store), xs.drop i = rest → ys.drop i = rest' → i ≤ 4 → rest.length < n → t.length = 75 → tg t 0 = slA kx (xs.map Ft.cells) → tg t 1 = slA ky (ys.map Ft.cells) → tg t 5 = .int .i64 i →
      Out (fun e t' S' => (e = .exit 0 ∧ allP mat rest rest' = true ∨ e = .ret ∧ allP mat rest rest' = false ∧ tg t' 4 = .bool false) ∧ t'.length = 75 ∧ ∃ L, S' = S ++ L) (loopC T (callN E (k + 1)) (drawF T (callN E (k + 1)) 44 none (planOf 44)) K (lp 0 Try.f44) n t S) := by
  intro rest
  induction rest with
  | nil =>
    intro rest' i n t S hd hd' hi4 hn hlen h0 h1 h5
    obtain ⟨n, rfl⟩ : ∃ n', n = n' + 1 := ⟨n - 1, by omega⟩
    have hi : xs.length ≤ i := List.drop_eq_nil_iff.1 hd
    obtain rfl : rest' = [] := by rw [← hd']; exact List.drop_eq_nil_of_le (by omega)
    obtain rfl : i = 4 := by omega
    simp [loop_step, Try.f44, h0, h1, h5, hlen, allP]
  | cons a rest ihr =>
    intro rest' i n t S hd hd' hi4 hn hlen h0 h1 h5
    obtain ⟨n, rfl⟩ : ∃ n', n = n' + 1 := ⟨n - 1, by omega⟩
    obtain ⟨hi, ha, hdx⟩ := drop_cons hd
    obtain ⟨b, rest', rfl⟩ : ∃ b r, rest' = b :: r := by
      cases rest' with
      | nil => have := List.drop_eq_nil_iff.1 hd'; omega
      | cons b r => exact ⟨b, r, rfl⟩
    obtain ⟨hi', hb', hdy⟩ := drop_cons hd'
    have e3 : (xs.map Ft.cells)[i]? = some a.cells := by simp [ha]
    have e2 := indexA_slA (T := T) (ty := 65) (e := 132) (sz := 3) (k := kx) (els := xs.map Ft.cells) (i := i) (el := a.cells) rfl rfl e3 rfl
    have e4 := readN_el e3 (show a.cells.length = 3 from rfl)
    have f3 : (ys.map Ft.cells)[i]? = some b.cells := by simp [hb']
    have f2 := indexA_slA (T := T) (ty := 65) (e := 132) (sz := 3) (k := ky) (els := ys.map Ft.cells) (i := i) (el := b.cells) rfl rfl f3 rfl
    have f4 := readN_el f3 (show b.cells.length = 3 from rfl)
    have hw : IntKind.i64.wrap ((i : Int) + 1) = ((i + 1 : Nat) : Int) := wrapN (by omega) (by omega)
    have i4 : (i : Int) < 4 := by omega
    have k1 := fun S => t112 k a S
    have k2 := fun S => t112 k b S
    have ihn := fun t S => ihr rest' (i + 1) n t S hdx hdy (by omega) (by simp at hn; omega)
    clear hn hd hd' ihr e3 f3 hb' ha hi hi' hdx hdy
    obtain ⟨w, u, c⟩ := a
    obtain ⟨w', u', c'⟩ := b
    simp only [Ft.cells] at e4 f4 k1 k2 e2 f2
    by_cases g1 : 1 ≤ w ∧ w ≤ 4
    · by_cases g2 : 1 ≤ w' ∧ w' ≤ 4
      · have q : ∀ (r : Bool), mat ⟨w, u, c⟩ ⟨w', u', c'⟩ = r → allP mat (⟨w, u, c⟩ :: rest) (⟨w', u', c'⟩ :: rest') = (r && allP mat rest rest') := by
          intro r hr
          simp only [allP, okP, kn, hr]
          simp [g1, g2]
        have a1 : w = 1 ∨ w = 2 ∨ w = 3 ∨ w = 4 := by omega
        have a2 : w' = 1 ∨ w' = 2 ∨ w' = 3 ∨ w' = 4 := by omega
        have fin : ∀ t2 S2, t2.length = 75 → tg t2 0 = slA kx (xs.map Ft.cells) → tg t2 1 = slA ky (ys.map Ft.cells) → tg t2 5 = .int .i64 ((i : Int) + 1) → (∃ L, S2 = S ++ L) →
            Out (fun e t' S' => (e = .exit 0 ∧ allP mat rest rest' = true ∨ e = .ret ∧ allP mat rest rest' = false ∧ tg t' 4 = .bool false) ∧ t'.length = 75 ∧ ∃ L, S' = S ++ L) (loopC T (callN E (k + 1)) (drawF T (callN E (k + 1)) 44 none (planOf 44)) K (lp 0 Try.f44) n t2 S2) := by
          intro t2 S2 z1 z2 z3 z4 z5
          obtain ⟨L, rfl⟩ := z5
          exact (ihn t2 (S ++ L) z1 z2 z3 (by rw [z4]; simp)).mono (fun e t' S' h => ⟨h.1, h.2.1, by obtain ⟨L', rfl⟩ := h.2.2; exact ⟨_, List.append_assoc _ _ _⟩⟩)
        clear ihn
        rcases a1 with rfl | rfl | rfl | rfl <;> rcases a2 with rfl | rfl | rfl | rfl
        · by_cases s1 : u = u'
          · subst s1
            cases s2 : strEq c c'
            · rw [q false (by simp [mat, Ft.eq, s2])]; simp [loop_step, Try.f44, h0, h1, h5, hlen, i4, e2, e4, f2, f4, k1, k2, hw, s2]
            · rw [q true (by simp [mat, Ft.eq, s2])]; simp [loop_step, Try.f44, h0, h1, h5, hlen, i4, e2, e4, f2, f4, k1, k2, hw, s2]; refine fin _ _ ?_ ?_ ?_ ?_ ⟨_, rfl⟩ <;> simp [hlen, h0, h1]
          · rw [q false (by simp [mat, Ft.eq, s1])]; simp [loop_step, Try.f44, h0, h1, h5, hlen, i4, e2, e4, f2, f4, k1, k2, hw, s1]
        all_goals first
          | (rw [q false (by simp [mat, Ft.eq])]; simp [loop_step, Try.f44, h0, h1, h5, hlen, i4, e2, e4, f2, f4, k1, k2, hw]; done)
          | (rw [q true (by simp [mat, Ft.eq])]; simp [loop_step, Try.f44, h0, h1, h5, hlen, i4, e2, e4, f2, f4, k1, k2, hw]; refine fin _ _ ?_ ?_ ?_ ?_ ⟨_, rfl⟩ <;> simp [hlen, h0, h1]; done)
      · have hk : (decide (1 ≤ w') && decide (w' ≤ 4)) = false := by simpa using g2
        simp [loop_step, Try.f44, h0, h1, h5, hlen, i4, e2, e4, f2, f4, k1, k2, hw, g1, hk, allP, okP, kn]
    · have hk : (decide (1 ≤ w) && decide (w ≤ 4)) = false := by simpa using g1
      simp [loop_step, Try.f44, h0, h1, h5, hlen, i4, e2, e4, f2, f4, k1, k2, hw, hk, allP, okP, kn]

theorem t44 (xs ys : List Ft) (kx ky : Option Bool) (k : Nat) (hk : 4 ≤ k) (S : Store) : callN E (k + 2) 44 [slA kx (xs.map Ft.cells), slA ky (ys.map Ft.cells)] S = some (.bool (every mat xs ys), S) := by
  rw [run_fn (by decide) Try.func44 rfl]
  by_cases c1 : xs.length = 4
  · have d1 : (xs.length : Int) = 4 := by omega
    by_cases c2 : ys.length = 4
    · have d2 : (ys.length : Int) = 4 := by omega
      have L := fun t => loop44 xs ys kx ky k (k + 1 + 1) c1 c2 xs ys 0 (k + 1 + 1) t S rfl rfl (by omega) (by omega)
      simp only [lp, loops, Try.f44, List.nil_append, List.append_nil, List.getD_cons_zero] at L
      simp [Try.f44, keepl, c1, c2, d1, d2, every]
      generalize hr : loopC T (callN E (k + 1)) _ (k + 1 + 1) _ (k + 1 + 1) _ _ = r
      obtain ⟨e, t', S', rfl, h, g1, L', rfl⟩ := Out.at hr (L _ (by rfl) (by rfl) (by rfl) (by rfl))
      rcases h with ⟨rfl, h⟩ | ⟨rfl, h, h2⟩
      · simp [h, g1]
      · simp [h, g1, h2]
    · have d2 : ¬ (ys.length : Int) = 4 := by omega
      simp [Try.f44, keepl, c1, c2, d1, d2, every]
  · have d1 : ¬ (xs.length : Int) = 4 := by omega
    simp [Try.f44, keepl, c1, d1, every]

theorem t40 (xs ys : List Ft) (kx ky : Option Bool) (k : Nat) (hk : 4 ≤ k) (S : Store) : callN E (k + 2) 40 [slA kx (xs.map Ft.cells), slA ky (ys.map Ft.cells)] S = some (.bool (every uni xs ys), S) := by
  have h := fun S => t110 uni xs ys kx ky 111 k hk rfl (fun x y S => by obtain ⟨k, rfl⟩ : ∃ k', k = k' + 1 := ⟨k - 1, by omega⟩; exact t111 k x y S) S
  rw [run_fn (by decide) Try.func40 rfl]
  simp [Try.f40, keepl, h]

theorem t43 (xs ys : List Ft) (kx ky : Option Bool) (k : Nat) (hk : 4 ≤ k) (S : Store) : callN E (k + 2) 43 [slA kx (xs.map Ft.cells), slA ky (ys.map Ft.cells)] S = some (.bool (every mat xs ys), S) := by
  have h := fun S => t110 mat xs ys kx ky 113 k hk rfl (fun x y S => by obtain ⟨k, rfl⟩ : ∃ k', k = k' + 1 := ⟨k - 1, by omega⟩; exact t113 k x y S) S
  rw [run_fn (by decide) Try.func43 rfl]
  simp [Try.f43, keepl, h]

theorem t45 (k : Nat) (S : Store) : callN E (k + 1) 45 [] S = some (.bool true, S) := by
  rw [call_hand (c := closedB true) (by simp [handZ])]
  rfl

theorem law11 (xs ys : List Ft) (kx ky : Option Bool) (k : Nat) (hk : xs.length + ys.length + 4 ≤ k) (hx : xs.length * 32 ≤ room) (hy : ys.length * 32 ≤ room) (S : Store) : callN E (k + 3) 11 [slA kx (xs.map Ft.cells), slA ky (ys.map Ft.cells)] S = some (.bool true, S) := by
  have h41 := fun S => t41 xs kx (k + 1) (by omega) hx S
  have h41' := fun S => t41 ys ky (k + 1) (by omega) hy S
  have h40 := fun S => t40 xs ys none none k (by omega) S
  have h43 := fun S => t43 xs ys none none k (by omega) S
  have h42 := fun S => t42 xs ys kx ky k (by omega) S
  have h44 := fun S => t44 xs ys kx ky k (by omega) S
  have h45 := t45 (k + 1)
  rw [run_fn (by decide) Try.func11 rfl]
  simp [Try.f11, keepl, h40, h41, h41', h42, h43, h44, h45]

end Go.Ev.Z

