/- Terms: which are the same, which comes first. -/
import Derived.Test.YtcgnilbilccohabEvX2
namespace Go.Ev.Z
open Go Go.Ev Go.Proofs
set_option linter.unusedVariables false
set_option maxRecDepth 8000
set_option linter.unusedSimpArgs false

theorem readN_box {S : Store} {l : Nat} {t : Tm} (h : rowCells S l = some t.cells) : readN S 3 (.ptr l 0) = some t.cells := by
  simp [h, List.take_of_length_le]

/-! ### Same -/
mutual
def same : Tm → Tm → Bool
  | .mk v f _ a, .mk v' f' _ b => (v == v') && (strEq f f' && sameL a b)
def sameL : List Tm → List Tm → Bool
  | [], [] => true
  | x :: xs, y :: ys => same x y && sameL xs ys
  | _, _ => false
end

theorem sameL_len : ∀ {a b : List Tm}, sameL a b = true → a.length = b.length
  | [], [], _ => rfl
  | x :: xs, y :: ys, h => by
    simp only [sameL, Bool.and_eq_true] at h
    simp [sameL_len h.2]
  | [], _ :: _, h => by simp [sameL] at h
  | _ :: _, [], h => by simp [sameL] at h

theorem sameL_ne {a b : List Tm} (h : ¬ a.length = b.length) : sameL a b = false := by
  cases hs : sameL a b with
  | false => rfl
  | true => exact absurd (sameL_len hs) h

/-- The library's EqualFunc over terms, whatever is asked. -/
def all2 (p : Tm → Tm → Bool) : List Tm → List Tm → Bool
  | [], [] => true
  | x :: xs, y :: ys => p x y && all2 p xs ys
  | _, _ => false

theorem all2_ne {p : Tm → Tm → Bool} : ∀ {a b : List Tm}, ¬ a.length = b.length → all2 p a b = false
  | [], [], h => absurd rfl h
  | x :: xs, y :: ys, h => by simp only [all2, all2_ne (a := xs) (b := ys) (by simpa using h), Bool.and_false]
  | [], _ :: _, _ => rfl
  | _ :: _, [], _ => rfl

theorem all2_same : ∀ (a b : List Tm), all2 same a b = sameL a b
  | [], [] => rfl
  | x :: xs, y :: ys => by simp only [all2, sameL, all2_same xs ys]
  | [], _ :: _ => rfl
  | _ :: _, [] => rfl

theorem loop138 (p : Tm → Tm → Bool) (xs ys : List Tm) (kx ky : Option Bool) (F k K : Nat) (hent : T.ent F = true) (hF : ∀ x ∈ xs, ∀ y ∈ ys, ∀ S, callN E k F [.agg x.cells, .agg y.cells] S = some (.bool (p x y), S)) (hb : xs.length < 9223372036854775807) (hxy : xs.length = ys.length) :
    ∀ (rest rest' : List Tm) (i n : Nat) (t : Tmps) (S : Store), xs.drop i = rest → ys.drop i = rest' → rest.length < n → t.length = 32 → tg t 1 = slA ky (cellsL ys) → tg t 2 = .func F [] [] → tg t 15 = slA kx (cellsL xs) → tg t 16 = .int .i64 xs.length → tg t 17 = .int .i64 i →
      Out (fun e t' S' => (e = .exit 0 ∧ all2 p rest rest' = true ∨ e = .ret ∧ all2 p rest rest' = false ∧ tg t' 6 = .bool false) ∧ t'.length = 32 ∧ ∃ L, S' = S ++ L) (loopC T (callN E k) (drawF T (callN E k) 138 none (planOf 138)) K (lp 0 Try.f138) n t S) := by
  intro rest
  induction rest with
  | nil =>
    intro rest' i n t S hd hd' hn hlen h1 h2 h15 h16 h17
    obtain ⟨n, rfl⟩ : ∃ n', n = n' + 1 := ⟨n - 1, by omega⟩
    have hi : xs.length ≤ i := List.drop_eq_nil_iff.1 hd
    obtain rfl : rest' = [] := by rw [← hd']; exact List.drop_eq_nil_of_le (by omega)
    have e1 : ¬ i < xs.length := by omega
    simp [loop_step, Try.f138, h1, h2, h15, h16, h17, hlen, e1, all2]
  | cons a rest ihr =>
    intro rest' i n t S hd hd' hn hlen h1 h2 h15 h16 h17
    obtain ⟨n, rfl⟩ : ∃ n', n = n' + 1 := ⟨n - 1, by omega⟩
    obtain ⟨hi, ha, hdx⟩ := drop_cons hd
    obtain ⟨b, rest', rfl⟩ : ∃ b r, rest' = b :: r := by
      cases rest' with
      | nil => have := List.drop_eq_nil_iff.1 hd'; omega
      | cons b r => exact ⟨b, r, rfl⟩
    obtain ⟨hi', hb', hdy⟩ := drop_cons hd'
    have hA := hF a (List.mem_of_getElem? ha) b (List.mem_of_getElem? hb')
    have e3 : (cellsL xs)[i]? = some a.cells := by simp [cellsL_get, ha]
    have e2 := indexA_slA (T := T) (ty := 22) (e := 24) (sz := 3) (k := kx) (els := cellsL xs) (i := i) (el := a.cells) rfl rfl e3 (by simp)
    have e4 := readN_el e3 (Tm.cells_len a)
    have f3 : (cellsL ys)[i]? = some b.cells := by simp [cellsL_get, hb']
    have f2 := indexA_slA (T := T) (ty := 22) (e := 24) (sz := 3) (k := ky) (els := cellsL ys) (i := i) (el := b.cells) rfl rfl f3 (by simp)
    have f4 := readN_el f3 (Tm.cells_len b)
    have hw : IntKind.i64.wrap ((i : Int) + 1) = ((i + 1 : Nat) : Int) := wrapN (by omega) (by omega)
    have hall : ∀ z : Tm, (∀ x ∈ z.cells, x.one = true) := fun z x hx => List.all_eq_true.1 (Tm.cells_one z) x hx
    have htk : ∀ z : Tm, List.take 3 z.cells = z.cells := fun z => List.take_of_length_le (by simp)
    have hdr : ∀ z : Tm, List.drop 3 z.cells = [] := fun z => List.drop_eq_nil_of_le (by simp)
    have hdr' : ∀ z y : Tm, List.drop z.cells.length y.cells = [] := fun z y => List.drop_eq_nil_of_le (by simp)
    cases hs : p a b
    · simp [loop_step, Try.f138, h1, h2, h15, h16, h17, hlen, hi, e2, e4, f2, f4, hA, hw, hs, all2, hent, htk, hdr]
    · simp [loop_step, Try.f138, h1, h2, h15, h16, h17, hlen, hi, e2, e4, f2, f4, hA, hw, hs, all2, hent, htk, hdr]
      refine (ihr rest' (i + 1) n _ _ hdx hdy (by simp at hn; omega) ?_ ?_ ?_ ?_ ?_ ?_).mono (fun e t' S' h => ⟨h.1, h.2.1, by obtain ⟨L, rfl⟩ := h.2.2; exact ⟨_, List.append_assoc _ _ _⟩⟩) <;> simp [hlen, h1, h2, h15, h16]

theorem t138 (p : Tm → Tm → Bool) (xs ys : List Tm) (kx ky : Option Bool) (F k : Nat) (hent : T.ent F = true) (hF : ∀ x ∈ xs, ∀ y ∈ ys, ∀ S, callN E k F [.agg x.cells, .agg y.cells] S = some (.bool (p x y), S)) (hb : xs.length < 9223372036854775807) (hk : xs.length ≤ k) (S : Store) :
    callN E (k + 1) 138 [slA kx (cellsL xs), slA ky (cellsL ys), .func F [] []] S = some (.bool (all2 p xs ys), S) := by
  rw [run_fn (by decide) Try.func138 rfl]
  by_cases hl : xs.length = ys.length
  · have hl' : ((xs.length : Int) = ys.length) := by omega
    have L := fun t => loop138 p xs ys kx ky F k (k + 1) hent hF hb hl xs ys 0 (k + 1) t S rfl rfl (by omega)
    simp only [lp, loops, Try.f138, List.nil_append, List.append_nil, List.getD_cons_zero] at L
    simp [Try.f138, keepl, hl]
    generalize hr : loopC T (callN E k) _ (k + 1) _ (k + 1) _ _ = r
    obtain ⟨e, t', S', rfl, h, g1, L', rfl⟩ := Out.at hr (L _ (by rfl) (by rfl) (by rfl) (by rfl) (by simp [hl]) (by rfl))
    rcases h with ⟨rfl, h⟩ | ⟨rfl, h, h2⟩
    · simp [h, g1]
    · simp [h, g1, h2]
  · have hl' : ¬ ((xs.length : Int) = ys.length) := by omega
    simp [Try.f138, keepl, hl, hl', all2_ne hl]

theorem t97 : ∀ (a b : Tm) (k : Nat) (S : Store), a.w ≤ k → a.ok → callN E k 97 [.agg a.cells, .agg b.cells] S = some (.bool (same a b), S)
  | .mk v f kx xs, .mk v' f' ky ys, k, S, hk, hb => by
    obtain ⟨k, rfl⟩ : ∃ k', k = k' + 1 := ⟨k - 1, by simp only [Tm.w] at hk; omega⟩
    simp only [Tm.w] at hk
    obtain ⟨hb, hbL⟩ := hb
    have hlen := wL_len xs
    have h64 : ∀ S, callN E k 138 [slA kx (cellsL xs), slA ky (cellsL ys), .func 97 [] []] S = some (.bool (sameL xs ys), S) := fun S => by
      obtain ⟨k, rfl⟩ : ∃ k', k = k' + 1 := ⟨k - 1, by omega⟩
      rw [← all2_same]
      exact t138 same xs ys kx ky 97 k rfl (fun x hx y _ S => t97 x y k S (by have := w_mem hx; omega) (okL_mem hbL x hx)) (by omega) (by omega) S
    rw [run_fn (by decide) Try.func97 rfl]
    by_cases h1 : v = v'
    · cases h2 : strEq f f'
      · simp [Try.f97, keepl, Tm.cells, h1, h2, same]
      · simp [Try.f97, keepl, Tm.cells, h1, h2, same, h64]
    · simp [Try.f97, keepl, Tm.cells, h1, same]
termination_by a => a.w
decreasing_by all_goals (simp only [Tm.w]; have := w_mem hx; omega)

theorem loop44 (v v' : Int) (f f' : ByteArray) (kx ky : Option Bool) (xs ys : List Tm) (l l' k K : Nat) (S : Store) (hF : ∀ x ∈ xs, ∀ y ∈ ys, ∀ S, callN E k 44 [.agg x.cells, .agg y.cells] S = some (.bool (same x y), S)) (hrow : rowCells S l = some (Tm.mk v f kx xs).cells) (hrow' : rowCells S l' = some (Tm.mk v' f' ky ys).cells) (hb : xs.length < 9223372036854775807) (hxy : xs.length = ys.length) :
    ∀ (rest rest' : List Tm) (i n : Nat) (t : Tmps), xs.drop i = rest → ys.drop i = rest' → rest.length < n → t.length = 46 → tg t 2 = .ptr l 0 → tg t 3 = .ptr l' 0 → tg t 5 = .int .i64 i →
      Out (fun e t' S' => (e = .exit 0 ∧ sameL rest rest' = true ∨ e = .ret ∧ sameL rest rest' = false ∧ tg t' 4 = .bool false) ∧ t'.length = 46 ∧ S' = S) (loopC T (callN E k) (drawF T (callN E k) 44 none (planOf 44)) K (lp 0 Try.f44) n t S) := by
  simp only [Tm.cells] at hrow hrow'
  intro rest
  induction rest with
  | nil =>
    intro rest' i n t hd hd' hn hlen h2 h3 h5
    obtain ⟨n, rfl⟩ : ∃ n', n = n' + 1 := ⟨n - 1, by omega⟩
    have hi : xs.length ≤ i := List.drop_eq_nil_iff.1 hd
    obtain rfl : rest' = [] := by rw [← hd']; exact List.drop_eq_nil_of_le (by omega)
    have e1 : ¬ i < xs.length := by omega
    simp [loop_step, Try.f44, h2, h3, h5, hlen, e1, hrow, hrow', sameL]
  | cons a rest ihr =>
    intro rest' i n t hd hd' hn hlen h2 h3 h5
    obtain ⟨n, rfl⟩ : ∃ n', n = n' + 1 := ⟨n - 1, by omega⟩
    obtain ⟨hi, ha, hdx⟩ := drop_cons hd
    obtain ⟨b, rest', rfl⟩ : ∃ b r, rest' = b :: r := by
      cases rest' with
      | nil => have := List.drop_eq_nil_iff.1 hd'; omega
      | cons b r => exact ⟨b, r, rfl⟩
    obtain ⟨hi', hb', hdy⟩ := drop_cons hd'
    have hA := hF a (List.mem_of_getElem? ha) b (List.mem_of_getElem? hb')
    have e3 : (cellsL xs)[i]? = some a.cells := by simp [cellsL_get, ha]
    have e2 := indexA_slA (T := T) (ty := 22) (e := 24) (sz := 3) (k := kx) (els := cellsL xs) (i := i) (el := a.cells) rfl rfl e3 (by simp)
    have e4 := readN_el e3 (Tm.cells_len a)
    have f3 : (cellsL ys)[i]? = some b.cells := by simp [cellsL_get, hb']
    have f2 := indexA_slA (T := T) (ty := 22) (e := 24) (sz := 3) (k := ky) (els := cellsL ys) (i := i) (el := b.cells) rfl rfl f3 (by simp)
    have f4 := readN_el f3 (Tm.cells_len b)
    have hw : IntKind.i64.wrap ((i : Int) + 1) = ((i + 1 : Nat) : Int) := wrapN (by omega) (by omega)
    cases hs : same a b
    · simp [loop_step, Try.f44, h2, h3, h5, hlen, hi, e2, e4, f2, f4, hA, hw, hs, sameL, hrow, hrow']
    · simp [loop_step, Try.f44, h2, h3, h5, hlen, hi, e2, e4, f2, f4, hA, hw, hs, sameL, hrow, hrow']
      refine ihr rest' (i + 1) n _ hdx hdy (by simp at hn; omega) ?_ ?_ ?_ ?_ <;> simp [hlen, h2, h3]

theorem t44 : ∀ (a b : Tm) (k : Nat) (S : Store), a.w ≤ k → a.ok → callN E k 44 [.agg a.cells, .agg b.cells] S = some (.bool (same a b), S)
  | .mk v f kx xs, .mk v' f' ky ys, k, S, hk, hb => by
    obtain ⟨k, rfl⟩ : ∃ k', k = k' + 1 := ⟨k - 1, by simp only [Tm.w] at hk; omega⟩
    simp only [Tm.w] at hk
    obtain ⟨hb, hbL⟩ := hb
    have hlen := wL_len xs
    have hF : ∀ x ∈ xs, ∀ y ∈ ys, ∀ S, callN E k 44 [.agg x.cells, .agg y.cells] S = some (.bool (same x y), S) := fun x hx y _ S => t44 x y k S (by have := w_mem hx; omega) (okL_mem hbL x hx)
    rw [run_fn (by decide) Try.func44 rfl]
    by_cases h1 : v = v'
    · subst h1
      cases h2 : strEq f f'
      · simp [Try.f44, keepl, Tm.cells, h2, same]
      · by_cases hl : xs.length = ys.length
        · have hl' : (xs.length : Int) = ys.length := by omega
          have L := fun t => loop44 v v f f' kx ky xs ys S.length (S.length + 1) k (k + 1) (S ++ [.cells [.int .i64 v, .str f, slA kx (cellsL xs)] 24, .cells [.int .i64 v, .str f', slA ky (cellsL ys)] 24]) hF (by simp [Tm.cells]) (by simp [Tm.cells]) (by omega) hl xs ys 0 (k + 1) t rfl rfl (by omega)
          simp only [lp, loops, Try.f44, List.nil_append, List.append_nil, List.getD_cons_zero] at L
          simp [Try.f44, keepl, Tm.cells, h2, same, hl, hl']
          generalize hr : loopC T (callN E k) _ (k + 1) _ (k + 1) _ _ = r
          obtain ⟨e, t', S', rfl, h, g1, rfl⟩ := Out.at hr (L _ (by rfl) (by rfl) (by rfl) (by rfl))
          rcases h with ⟨rfl, h⟩ | ⟨rfl, h, h2⟩
          · simp [h, g1]
          · simp [h, g1, h2]
        · have hl' : ¬ (xs.length : Int) = ys.length := by omega
          simp [Try.f44, keepl, Tm.cells, h2, same, hl, hl', sameL_ne hl]
    · simp [Try.f44, keepl, Tm.cells, h1, same]
termination_by a => a.w
decreasing_by all_goals (simp only [Tm.w]; have := w_mem hx; omega)

/-! ### Cmp -/
def cmpI (a b : Int) : Int := if a < b then -1 else if b < a then 1 else 0
def cmpS (a b : ByteArray) : Int := if strLt a b = true then -1 else if (!(strLt a b || strEq a b)) = true then 1 else 0

theorem t173 (a : Int) (k : Nat) (S : Store) : callN E (k + 1) 173 [.int .i64 a] S = some (.bool false, S) := by
  rw [run_fn (by decide) Try.func173 rfl]
  simp [Try.f173, keepl]

theorem t181 (a : ByteArray) (k : Nat) (S : Store) : callN E (k + 1) 181 [.str a] S = some (.bool false, S) := by
  rw [run_fn (by decide) Try.func181 rfl]
  simp [Try.f181, keepl]

theorem t122 (a b : Int) (k : Nat) (S : Store) : callN E (k + 2) 122 [.int .i64 a, .int .i64 b] S = some (.int .i64 (cmpI a b), S) := by
  rw [run_fn (by decide) Try.func122 rfl]
  simp [Try.f122, keepl, t173]
  repeat' (split <;> simp [*])
  all_goals simp [cmpI, *]

theorem t154 (a b : ByteArray) (k : Nat) (S : Store) : callN E (k + 2) 154 [.str a, .str b] S = some (.int .i64 (cmpS a b), S) := by
  rw [run_fn (by decide) Try.func154 rfl]
  cases h1 : strLt a b <;> cases h2 : strEq a b <;> simp [Try.f154, keepl, t181, h1, h2, cmpS]

theorem t156 (a b : Int) (k : Nat) (S : Store) : callN E (k + 1) 156 [.int .i64 a, .int .i64 b] S = some (.int .i64 (cmpI a b), S) := by
  rw [run_fn (by decide) Try.func156 rfl]
  simp [Try.f156, keepl]
  repeat' (split <;> simp [*])
  all_goals simp [cmpI, *]

mutual
def cmpT : Tm → Tm → Int
  | .mk v f _ a, .mk v' f' _ b => if strEq f { data := #[] } = true ∧ strEq f' { data := #[] } = true then cmpI v v' else if strEq f f' = false then cmpS f f' else if a.length = b.length then cmpL a b else cmpI a.length b.length
def cmpL : List Tm → List Tm → Int
  | [], [] => 0
  | x :: xs, y :: ys => if cmpT x y = 0 then cmpL xs ys else cmpT x y
  | [], _ :: _ => -1
  | _ :: _, [] => 1
end

/-- The library's CompareFunc over terms. -/
def comp2 (p : Tm → Tm → Int) : List Tm → List Tm → Int
  | [], [] => 0
  | x :: xs, y :: ys => if p x y = 0 then comp2 p xs ys else p x y
  | [], _ :: _ => -1
  | _ :: _, [] => 1

theorem comp2_cmp : ∀ (a b : List Tm), comp2 cmpT a b = cmpL a b
  | [], [] => rfl
  | x :: xs, y :: ys => by simp only [comp2, cmpL, comp2_cmp xs ys]
  | [], _ :: _ => rfl
  | _ :: _, [] => rfl

theorem loop155 (p : Tm → Tm → Int) (xs ys : List Tm) (kx ky : Option Bool) (F k K : Nat) (hent : T.ent F = true) (hF : ∀ x ∈ xs, ∀ y ∈ ys, ∀ S, callN E k F [.agg x.cells, .agg y.cells] S = some (.int .i64 (p x y), S)) (hb : xs.length < 9223372036854775807) :
    ∀ (rest rest' : List Tm) (i n : Nat) (t : Tmps) (S : Store), xs.drop i = rest → ys.drop i = rest' → i ≤ xs.length → rest.length < n → t.length = 39 → tg t 0 = slA kx (cellsL xs) → tg t 1 = slA ky (cellsL ys) → tg t 2 = .func F [] [] → tg t 11 = slA kx (cellsL xs) → tg t 12 = .int .i64 xs.length → tg t 13 = .int .i64 i →
      Out (fun e t' S' => (e = .exit 0 ∧ (comp2 p rest rest' = if xs.length < ys.length then -1 else 0) ∧ tg t' 0 = slA kx (cellsL xs) ∧ tg t' 1 = slA ky (cellsL ys) ∨ e = .ret ∧ tg t' 6 = .int .i64 (comp2 p rest rest')) ∧ t'.length = 39 ∧ ∃ L, S' = S ++ L) (loopC T (callN E k) (drawF T (callN E k) 155 none (planOf 155)) K (lp 0 Try.f155) n t S) := by
  intro rest
  induction rest with
  | nil =>
    intro rest' i n t S hd hd' hiy hn hlen h0 h1 h2 h11 h12 h13
    obtain ⟨n, rfl⟩ : ∃ n', n = n' + 1 := ⟨n - 1, by omega⟩
    have hi : xs.length ≤ i := List.drop_eq_nil_iff.1 hd
    have e1 : ¬ i < xs.length := by omega
    simp [loop_step, Try.f155, h0, h1, h2, h11, h12, h13, hlen, e1]
    cases rest' with
    | nil =>
      have := List.drop_eq_nil_iff.1 hd'
      have e2 : ¬ xs.length < ys.length := by omega
      simp [comp2, e2]
    | cons b r =>
      obtain ⟨hi', _, _⟩ := drop_cons hd'
      have e2 : xs.length < ys.length := by omega
      simp [comp2, e2]
  | cons a rest ihr =>
    intro rest' i n t S hd hd' hiy hn hlen h0 h1 h2 h11 h12 h13
    obtain ⟨n, rfl⟩ : ∃ n', n = n' + 1 := ⟨n - 1, by omega⟩
    obtain ⟨hi, ha, hdx⟩ := drop_cons hd
    have e3 : (cellsL xs)[i]? = some a.cells := by simp [cellsL_get, ha]
    have e2 := indexA_slA (T := T) (ty := 22) (e := 24) (sz := 3) (k := kx) (els := cellsL xs) (i := i) (el := a.cells) rfl rfl e3 (by simp)
    have e4 := readN_el e3 (Tm.cells_len a)
    have hw : IntKind.i64.wrap ((i : Int) + 1) = ((i + 1 : Nat) : Int) := wrapN (by omega) (by omega)
    have htk : ∀ z : Tm, List.take 3 z.cells = z.cells := fun z => List.take_of_length_le (by simp)
    have hdr : ∀ z : Tm, List.drop 3 z.cells = [] := fun z => List.drop_eq_nil_of_le (by simp)
    cases rest' with
    | nil =>
      have hy := List.drop_eq_nil_iff.1 hd'
      have e5 : ¬ i < ys.length := by omega
      have e6 : ys.length ≤ i := by omega
      simp [loop_step, Try.f155, h0, h1, h2, h11, h12, h13, hlen, hi, e2, e4, e6, htk, hdr, comp2]
    | cons b rest' =>
      obtain ⟨hi', hb', hdy⟩ := drop_cons hd'
      have hA := hF a (List.mem_of_getElem? ha) b (List.mem_of_getElem? hb')
      have f3 : (cellsL ys)[i]? = some b.cells := by simp [cellsL_get, hb']
      have f2 := indexA_slA (T := T) (ty := 22) (e := 24) (sz := 3) (k := ky) (els := cellsL ys) (i := i) (el := b.cells) rfl rfl f3 (by simp)
      have f4 := readN_el f3 (Tm.cells_len b)
      have e6 : ¬ ys.length ≤ i := by omega
      by_cases hs : p a b = 0
      · simp [loop_step, Try.f155, h0, h1, h2, h11, h12, h13, hlen, hi, e2, e4, f2, f4, hA, hw, hs, hent, htk, hdr, comp2, e6]
        refine (ihr rest' (i + 1) n _ _ hdx hdy (by omega) (by simp at hn; omega) ?_ ?_ ?_ ?_ ?_ ?_ ?_).mono (fun e t' S' h => ⟨h.1, h.2.1, by obtain ⟨L, rfl⟩ := h.2.2; exact ⟨_, List.append_assoc _ _ _⟩⟩) <;> simp [hlen, h0, h1, h2, h11, h12]
      · simp [loop_step, Try.f155, h0, h1, h2, h11, h12, h13, hlen, hi, e2, e4, f2, f4, hA, hw, hs, hent, htk, hdr, comp2, e6]

theorem t155 (p : Tm → Tm → Int) (xs ys : List Tm) (kx ky : Option Bool) (F k : Nat) (hent : T.ent F = true) (hF : ∀ x ∈ xs, ∀ y ∈ ys, ∀ S, callN E k F [.agg x.cells, .agg y.cells] S = some (.int .i64 (p x y), S)) (hb : xs.length < 9223372036854775807) (hk : xs.length ≤ k) (S : Store) :
    callN E (k + 1) 155 [slA kx (cellsL xs), slA ky (cellsL ys), .func F [] []] S = some (.int .i64 (comp2 p xs ys), S) := by
  rw [run_fn (by decide) Try.func155 rfl]
  have L := fun t => loop155 p xs ys kx ky F k (k + 1) hent hF hb xs ys 0 (k + 1) t S rfl rfl (by omega) (by omega)
  simp only [lp, loops, Try.f155, List.nil_append, List.append_nil, List.getD_cons_zero] at L
  simp [Try.f155, keepl]
  generalize hr : loopC T (callN E k) _ (k + 1) _ (k + 1) _ _ = r
  obtain ⟨e, t', S', rfl, h, g1, L', rfl⟩ := Out.at hr (L _ (by rfl) (by rfl) (by rfl) (by rfl) (by rfl) (by simp) (by rfl))
  rcases h with ⟨rfl, h, h2, h3⟩ | ⟨rfl, h⟩
  · by_cases hl : xs.length < ys.length
    · simp [h, g1, h2, h3, hl]
    · simp [h, g1, h2, h3, hl]
  · simp [h, g1]

theorem t103 : ∀ (a b : Tm) (k : Nat) (S : Store), a.w + 2 ≤ k → a.ok → callN E k 103 [.agg a.cells, .agg b.cells] S = some (.int .i64 (cmpT a b), S)
  | .mk v f kx xs, .mk v' f' ky ys, k, S, hk, hb => by
    obtain ⟨k, rfl⟩ : ∃ k', k = k' + 1 := ⟨k - 1, by omega⟩
    simp only [Tm.w] at hk
    obtain ⟨hb, hbL⟩ := hb
    have hlen := wL_len xs
    have h75 : ∀ S, callN E k 155 [slA kx (cellsL xs), slA ky (cellsL ys), .func 103 [] []] S = some (.int .i64 (cmpL xs ys), S) := fun S => by
      obtain ⟨k, rfl⟩ : ∃ k', k = k' + 1 := ⟨k - 1, by omega⟩
      rw [← comp2_cmp]
      exact t155 cmpT xs ys kx ky 103 k rfl (fun x hx y _ S => t103 x y k S (by have := w_mem hx; omega) (okL_mem hbL x hx)) (by omega) (by omega) S
    have h73 : ∀ a b S, callN E k 122 [.int .i64 a, .int .i64 b] S = some (.int .i64 (cmpI a b), S) := fun a b S => by
      obtain ⟨k, rfl⟩ : ∃ k', k = k' + 2 := ⟨k - 2, by omega⟩
      exact t122 a b k S
    have h74 : ∀ a b S, callN E k 154 [.str a, .str b] S = some (.int .i64 (cmpS a b), S) := fun a b S => by
      obtain ⟨k, rfl⟩ : ∃ k', k = k' + 2 := ⟨k - 2, by omega⟩
      exact t154 a b k S
    rw [run_fn (by decide) Try.func103 rfl]
    have hl' : xs.length = ys.length → (xs.length : Int) = ys.length := by omega
    have hl'' : ¬ xs.length = ys.length → ¬ (xs.length : Int) = ys.length := by omega
    cases h1 : strEq f { data := #[] } <;> cases h2 : strEq f' { data := #[] } <;> cases h3 : strEq f f' <;> by_cases hl : xs.length = ys.length <;>
      first | (have := hl' hl; simp [Try.f103, keepl, Tm.cells, h1, h2, h3, hl, h73, h74, h75, cmpT]; done) | (have hq := hl'' hl; simp [Try.f103, keepl, Tm.cells, h1, h2, h3, hl, hq, h73, h74, h75, cmpT]; done)
termination_by a => a.w
decreasing_by all_goals (simp only [Tm.w]; have := w_mem hx; omega)

theorem loop104 (v v' : Int) (f f' : ByteArray) (kx ky : Option Bool) (xs ys : List Tm) (l l' k K : Nat) (S : Store) (hF : ∀ x ∈ xs, ∀ y ∈ ys, ∀ S, callN E k 104 [.agg x.cells, .agg y.cells] S = some (.int .i64 (cmpT x y), S)) (hrow : rowCells S l = some (Tm.mk v f kx xs).cells) (hrow' : rowCells S l' = some (Tm.mk v' f' ky ys).cells) (hb : xs.length < 9223372036854775807) (hxy : xs.length = ys.length) :
    ∀ (rest rest' : List Tm) (i n : Nat) (t : Tmps), xs.drop i = rest → ys.drop i = rest' → rest.length < n → t.length = 76 → tg t 2 = .ptr l 0 → tg t 3 = .ptr l' 0 → tg t 5 = .int .i64 i →
      Out (fun e t' S' => (e = .exit 0 ∧ cmpL rest rest' = 0 ∨ e = .ret ∧ tg t' 4 = .int .i64 (cmpL rest rest')) ∧ t'.length = 76 ∧ S' = S) (loopC T (callN E k) (drawF T (callN E k) 104 none (planOf 104)) K (lp 0 Try.f104) n t S) := by
  simp only [Tm.cells] at hrow hrow'
  intro rest
  induction rest with
  | nil =>
    intro rest' i n t hd hd' hn hlen h2 h3 h5
    obtain ⟨n, rfl⟩ : ∃ n', n = n' + 1 := ⟨n - 1, by omega⟩
    have hi : xs.length ≤ i := List.drop_eq_nil_iff.1 hd
    obtain rfl : rest' = [] := by rw [← hd']; exact List.drop_eq_nil_of_le (by omega)
    have e1 : ¬ i < xs.length := by omega
    simp [loop_step, Try.f104, h2, h3, h5, hlen, e1, hrow, hrow', cmpL]
  | cons a rest ihr =>
    intro rest' i n t hd hd' hn hlen h2 h3 h5
    obtain ⟨n, rfl⟩ : ∃ n', n = n' + 1 := ⟨n - 1, by omega⟩
    obtain ⟨hi, ha, hdx⟩ := drop_cons hd
    obtain ⟨b, rest', rfl⟩ : ∃ b r, rest' = b :: r := by
      cases rest' with
      | nil => have := List.drop_eq_nil_iff.1 hd'; omega
      | cons b r => exact ⟨b, r, rfl⟩
    obtain ⟨hi', hb', hdy⟩ := drop_cons hd'
    have hA := hF a (List.mem_of_getElem? ha) b (List.mem_of_getElem? hb')
    have e3 : (cellsL xs)[i]? = some a.cells := by simp [cellsL_get, ha]
    have e2 := indexA_slA (T := T) (ty := 22) (e := 24) (sz := 3) (k := kx) (els := cellsL xs) (i := i) (el := a.cells) rfl rfl e3 (by simp)
    have e4 := readN_el e3 (Tm.cells_len a)
    have f3 : (cellsL ys)[i]? = some b.cells := by simp [cellsL_get, hb']
    have f2 := indexA_slA (T := T) (ty := 22) (e := 24) (sz := 3) (k := ky) (els := cellsL ys) (i := i) (el := b.cells) rfl rfl f3 (by simp)
    have f4 := readN_el f3 (Tm.cells_len b)
    have hw : IntKind.i64.wrap ((i : Int) + 1) = ((i + 1 : Nat) : Int) := wrapN (by omega) (by omega)
    by_cases hs : cmpT a b = 0
    · simp [loop_step, Try.f104, h2, h3, h5, hlen, hi, e2, e4, f2, f4, hA, hw, hs, cmpL, hrow, hrow']
      refine ihr rest' (i + 1) n _ hdx hdy (by simp at hn; omega) ?_ ?_ ?_ ?_ <;> simp [hlen, h2, h3]
    · simp [loop_step, Try.f104, h2, h3, h5, hlen, hi, e2, e4, f2, f4, hA, hw, hs, cmpL, hrow, hrow']

/-- What the reference tells: names first. -/
def cmpR (v v' : Int) (f f' : ByteArray) (a b : List Tm) : Int :=
  if strEq f { data := #[] } = true ∧ strEq f' { data := #[] } = true then cmpI v v' else if strEq f { data := #[] } = true then -1 else if strEq f' { data := #[] } = true then 1 else
  if strLt f f' = true then -1 else if (!(strLt f f' || strEq f f')) = true then 1 else if a.length = b.length then cmpL a b else cmpI a.length b.length

theorem strEq_iff {a b : ByteArray} : strEq a b = true ↔ a = b := ⟨strEq_eq, fun h => h ▸ strEq_refl a⟩

theorem bytesLt_irrefl : ∀ (l : List UInt8), bytesLt l l = false
  | [] => rfl
  | a :: l => by simp [bytesLt, bytesLt_irrefl l]

theorem strLt_irrefl (a : ByteArray) : strLt a a = false := bytesLt_irrefl _

theorem strLt_nil {f : ByteArray} (h : strEq f { data := #[] } = false) : strLt { data := #[] } f = true ∧ strLt f { data := #[] } = false := by
  obtain ⟨⟨l⟩⟩ := f
  cases l with
  | nil => simp [strEq] at h
  | cons a l => simp [strLt, bytesLt]

theorem cmpR_eq (v v' : Int) (f f' : ByteArray) (k k' : Option Bool) (a b : List Tm) : cmpR v v' f f' a b = cmpT (.mk v f k a) (.mk v' f' k' b) := by
  cases h1 : strEq f { data := #[] } <;> cases h2 : strEq f' { data := #[] }
  · cases h3 : strEq f f' <;> cases h4 : strLt f f' <;> simp [cmpR, cmpT, h1, h2, h3, h4, cmpS]
    rw [strEq_iff.1 h3, strLt_irrefl] at h4
    cases h4
  · obtain rfl := strEq_iff.1 h2
    obtain ⟨g1, g2⟩ := strLt_nil h1
    simp [cmpR, cmpT, h1, h2, g2, cmpS]
  · obtain rfl := strEq_iff.1 h1
    obtain ⟨g1, g2⟩ := strLt_nil h2
    have h3 : strEq { data := #[] } f' = false := by
      cases h : strEq { data := #[] } f' with
      | false => rfl
      | true => rw [← strEq_iff.1 h] at h2; rw [strEq_refl] at h2; cases h2
    simp [cmpR, cmpT, h1, h2, h3, g1, cmpS]
  · simp [cmpR, cmpT, h1, h2]

theorem t104 : ∀ (a b : Tm) (k : Nat) (S : Store), a.w + 2 ≤ k → a.ok → callN E k 104 [.agg a.cells, .agg b.cells] S = some (.int .i64 (cmpT a b), S)
  | .mk v f kx xs, .mk v' f' ky ys, k, S, hk, hb => by
    obtain ⟨k, rfl⟩ : ∃ k', k = k' + 1 := ⟨k - 1, by omega⟩
    simp only [Tm.w] at hk
    obtain ⟨hb, hbL⟩ := hb
    have hlen := wL_len xs
    have hF : ∀ x ∈ xs, ∀ y ∈ ys, ∀ S, callN E k 104 [.agg x.cells, .agg y.cells] S = some (.int .i64 (cmpT x y), S) := fun x hx y _ S => t104 x y k S (by have := w_mem hx; omega) (okL_mem hbL x hx)
    have h76 : ∀ a b S, callN E k 156 [.int .i64 a, .int .i64 b] S = some (.int .i64 (cmpI a b), S) := fun a b S => by
      obtain ⟨k, rfl⟩ : ∃ k', k = k' + 1 := ⟨k - 1, by omega⟩
      exact t156 a b k S
    rw [← cmpR_eq v v' f f' kx ky xs ys]
    rw [run_fn (by decide) Try.func104 rfl]
    cases h1 : strEq f { data := #[] } <;> cases h2 : strEq f' { data := #[] }
    · cases h4 : strLt f f'
      · cases h3 : strEq f f'
        · simp [Try.f104, keepl, Tm.cells, h1, h2, h3, h4, h76, cmpR]
        · by_cases hl : xs.length = ys.length
          · have hq : (xs.length : Int) = ys.length := by omega
            have L := fun t => loop104 v v' f f' kx ky xs ys S.length (S.length + 1) k (k + 1) (S ++ [.cells [.int .i64 v, .str f, slA kx (cellsL xs)] 24, .cells [.int .i64 v', .str f', slA ky (cellsL ys)] 24]) hF (by simp [Tm.cells]) (by simp [Tm.cells]) (by omega) hl xs ys 0 (k + 1) t rfl rfl (by omega)
            simp only [lp, loops, Try.f104, List.nil_append, List.append_nil, List.getD_cons_zero] at L
            simp [Try.f104, keepl, Tm.cells, h1, h2, h3, h4, h76, cmpR, hl, hq]
            generalize hr : loopC T (callN E k) _ (k + 1) _ (k + 1) _ _ = r
            obtain ⟨e, t', S', rfl, h, g1, rfl⟩ := Out.at hr (L _ (by rfl) (by rfl) (by rfl) (by rfl))
            rcases h with ⟨rfl, h⟩ | ⟨rfl, h⟩
            · simp [h, g1]
            · simp [h, g1]
          · have hq : ¬ (xs.length : Int) = ys.length := by omega
            simp [Try.f104, keepl, Tm.cells, h1, h2, h3, h4, h76, cmpR, hl, hq]
      · simp [Try.f104, keepl, Tm.cells, h1, h2, h4, h76, cmpR]
    · simp [Try.f104, keepl, Tm.cells, h1, h2, h76, cmpR]
    · simp [Try.f104, keepl, Tm.cells, h1, h2, h76, cmpR]
    · simp [Try.f104, keepl, Tm.cells, h1, h2, h76, cmpR]
termination_by a => a.w
decreasing_by all_goals (simp only [Tm.w]; have := w_mem hx; omega)

end Go.Ev.Z
