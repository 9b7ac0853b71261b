/- Fingerprints: which features fit. -/
import Derived.Test.YtcgnilbilccohaaEvQ
import Derived.Test.YtcgnilbilccohaaEvW2
import Derived.Test.YtcgnilbilccohaaEvT
import Derived.Test.YtcgnilbilccohaaEvX2
namespace Go.Ev.Z
open Go Go.Ev Go.Proofs
set_option linter.unusedVariables false
set_option maxRecDepth 8000
set_option linter.unusedSimpArgs false

/-- A feature. -/
structure Ft where
  w : Int
  n : Int
  s : ByteArray

def Ft.cells (f : Ft) : List AV := [.int .i64 f.w, .int .i64 f.n, .str f.s]

def Ft.eq (a b : Ft) : Bool := a.w == b.w && (a.n == b.n && strEq a.s b.s)

/-- What the program says of two features. -/
def uni1 (x y : Ft) : Bool := bif x.w == 1 then (x.eq y || (y.w == 2 || y.w == 3)) else bif x.w == 2 then y.w != 4 else true
def uni (a b : Ft) : Bool := bif decide (b.w < a.w) then uni1 b a else uni1 a b

def mat (a b : Ft) : Bool := bif a.w == 1 then a.eq b else bif a.w == 2 then decide (b.w ≤ 2) else (a.w == 3 || b.w == 4)

theorem t112 (k : Nat) (f : Ft) (S : Store) : callN E (k + 1) 112 [.agg f.cells] S = some (.bool (decide (1 ≤ f.w) && decide (f.w ≤ 4)), S) := by
  rw [run_fn (by decide) Try.func112 rfl]
  cases h1 : decide (1 ≤ f.w) <;> cases h2 : decide (f.w ≤ 4) <;> simp [Try.f112, Ft.cells, h1, h2, keepl]

theorem t113 (k : Nat) (a b : Ft) (S : Store) : callN E (k + 1) 113 [.agg a.cells, .agg b.cells] S = some (.bool (mat a b), S) := by
  rw [run_fn (by decide) Try.func113 rfl]
  cases h1 : a.w == 1
  · cases h2 : a.w == 2
    · cases h3 : a.w == 3 <;> simp [Try.f113, Ft.cells, keepl, mat, h1, h2, h3]
    · simp [Try.f113, Ft.cells, keepl, mat, h1, h2]
  · simp [Try.f113, Ft.cells, keepl, mat, Ft.eq, h1]

theorem t111 (k : Nat) (a b : Ft) (S : Store) : callN E (k + 1) 111 [.agg a.cells, .agg b.cells] S = some (.bool (uni a b), S) := by
  rw [run_fn (by decide) Try.func111 rfl]
  cases h0 : decide (b.w < a.w)
  · cases h1 : a.w == 1
    · cases h2 : a.w == 2 <;> simp [Try.f111, Ft.cells, keepl, uni, uni1, h0, h1, h2]
    · cases h2 : (a.w == b.w && (a.n == b.n && strEq a.s b.s))
      · cases h3 : b.w == 2 <;> simp [Try.f111, Ft.cells, keepl, uni, uni1, Ft.eq, h0, h1, h2, h3]
      · simp [Try.f111, Ft.cells, keepl, uni, uni1, Ft.eq, h0, h1, h2]
  · cases h1 : b.w == 1
    · cases h2 : b.w == 2 <;> simp [Try.f111, Ft.cells, keepl, uni, uni1, h0, h1, h2]
    · cases h2 : (b.w == a.w && (b.n == a.n && strEq b.s a.s))
      · cases h3 : a.w == 2 <;> simp [Try.f111, Ft.cells, keepl, uni, uni1, Ft.eq, h0, h1, h2, h3]
      · simp [Try.f111, Ft.cells, keepl, uni, uni1, Ft.eq, h0, h1, h2]


theorem read1_el {els : List (List AV)} {i o : Nat} {e : List AV} {c : AV} (h : els[i]? = some e) (hc : e[o]? = some c) (S : Store) : read1 S (.fptr els i o) = some c := by
  rw [read1_fptr, h]; exact hc

/-! ### Fingerprints handed on -/
theorem loop41 (xs : List Ft) (kx : Option Bool) (k K : Nat) (S0 : Store) (hb : xs.length * 32 ≤ room) :
    ∀ (rest : List Ft) (i n : Nat) (t : Tmps) (L : Store) (v : AV), xs.drop i = rest → rest.length < n → t.length = 31 → tg t 0 = slA kx (xs.map Ft.cells) → tg t 3 = v → OwnSl S0.length 3 133 ((xs.take i).map Ft.cells) v (S0 ++ L) → tg t 4 = .int .i64 i →
      Out (fun e t' S' => e = .exit 0 ∧ t'.length = 31 ∧ (∃ L, S' = S0 ++ L) ∧ OwnSl S0.length 3 133 (xs.map Ft.cells) (tg t' 3) S') (loopC T (callN E k) (drawF T (callN E k) 41 none (planOf 41)) K (lp 0 Try.f41) n t (S0 ++ L)) := by
  intro rest
  induction rest with
  | nil =>
    intro i n t L v hd hn hlen h0 h3 hv h4
    obtain ⟨n, rfl⟩ : ∃ n', n = n' + 1 := ⟨n - 1, by omega⟩
    have hi : xs.length ≤ i := List.drop_eq_nil_iff.1 hd
    have e1 : ¬ i < xs.length := by omega
    rw [List.take_of_length_le hi] at hv
    simp [loop_step, Try.f41, h0, h3, h4, hlen, e1]
    exact hv
  | cons a rest ihr =>
    intro i n t L v hd hn hlen h0 h3 hv h4
    obtain ⟨n, rfl⟩ : ∃ n', n = n' + 1 := ⟨n - 1, by omega⟩
    obtain ⟨hi, ha, hd'⟩ := drop_cons hd
    have e3 : (xs.map Ft.cells)[i]? = some a.cells := by simp [ha]
    have e2 := indexA_slA (T := T) (ty := 65) (e := 132) (sz := 3) (k := kx) (els := xs.map Ft.cells) (i := i) (el := a.cells) rfl rfl e3 rfl
    have r0 := read1_el (o := 0) (c := .int .i64 a.w) e3 rfl
    have r1 := read1_el (o := 1) (c := .int .i64 a.n) e3 rfl
    have r2 := read1_el (o := 2) (c := .str a.s) e3 rfl
    have hw : IntKind.i64.wrap ((i : Int) + 1) = ((i + 1 : Nat) : Int) := wrapN (by omega) (by unfold room at hb; omega)
    have hp := hv.panic
    have hlt : (List.take i xs).length = i := by rw [List.length_take]; omega
    obtain ⟨v', L', happ, hv'⟩ := hv.append (T := T) (ty := 67) (by_ := 32) (z := [.int .i64 0, .int .i64 0, .str ByteArray.empty]) (x := .fsl true [a.cells]) (new := [a.cells]) rfl rfl rfl rfl rfl (by omega) (by omega) (by simp [Ft.cells]) (by simp) (by simp [Ft.cells]) (by simp only [List.length_map, hlt, List.length_singleton]; omega) rfl
    have hp' := hv'.panic
    have hnx : (xs.take i).map Ft.cells ++ [a.cells] = (xs.take (i + 1)).map Ft.cells := by
      rw [List.take_add_one, ha]; simp
    rw [hnx] at hv'
    simp only [Ft.cells] at happ
    simp [loop_step, Try.f41, h0, h3, h4, hlen, hi, e2, r0, r1, r2, hw, happ, hp, hp']
    refine ihr (i + 1) n _ L' v' hd' (by simp at hn; omega) ?_ ?_ ?_ hv' ?_ <;> simp [hlen, h0]

theorem t41 (xs : List Ft) (kx : Option Bool) (k : Nat) (hk : xs.length ≤ k) (hb : xs.length * 32 ≤ room) (S : Store) : callN E (k + 1) 41 [slA kx (xs.map Ft.cells)] S = some (slA none (xs.map Ft.cells), S) := by
  rw [run_fn (by decide) Try.func41 rfl]
  have L := fun t => loop41 xs kx k (k + 1) S hb xs 0 (k + 1) t [] .nilsl rfl (by omega)
  simp only [lp, loops, Try.f41, List.nil_append, List.append_nil, List.getD_cons_zero] at L
  simp [Try.f41, keepl]
  generalize hr : loopC T (callN E k) _ (k + 1) _ (k + 1) _ _ = r
  obtain ⟨e, t', S', rfl, rfl, g1, ⟨L', rfl⟩, g2⟩ := Out.at hr (L _ (by rfl) (by rfl) (by rfl) (by simpa using OwnSl.nil _ _ _ _) (by rfl))
  have hf := g2.fz (fun e he c hc => by
    obtain ⟨a, _, rfl⟩ := List.mem_map.1 he
    simp only [Ft.cells, List.mem_cons, List.not_mem_nil, or_false] at hc
    rcases hc with rfl | rfl | rfl <;> rfl)
  simp [g1, g2.panic, hf]

/-! ### Place by place -/
def kn (f : Ft) : Bool := decide (1 ≤ f.w) && decide (f.w ≤ 4)

/-- Both of them known, and so on. -/
def okP (p : Ft → Ft → Bool) (x y : Ft) : Bool := kn x && (kn y && p x y)

def allP (p : Ft → Ft → Bool) : List Ft → List Ft → Bool
  | x :: xs, y :: ys => okP p x y && allP p xs ys
  | _, _ => true

def every (p : Ft → Ft → Bool) (xs ys : List Ft) : Bool := decide (xs.length = 4) && (decide (ys.length = 4) && allP p xs ys)

theorem okP_lo {p : Ft → Ft → Bool} {x y : Ft} (h : (if y.w < x.w then y.w else x.w) < 1) : okP p x y = false := by
  unfold okP kn
  split at h
  · have : ¬ 1 ≤ y.w := by omega
    simp [this]
  · have : ¬ 1 ≤ x.w := by omega
    simp [this]

theorem okP_hi {p : Ft → Ft → Bool} {x y : Ft} (h : 4 < (if x.w < y.w then y.w else x.w)) : okP p x y = false := by
  unfold okP kn
  split at h
  · have : ¬ y.w ≤ 4 := by omega
    simp [this]
  · have : ¬ x.w ≤ 4 := by omega
    simp [this]

theorem okP_in {p : Ft → Ft → Bool} {x y : Ft} (h : ¬ (if y.w < x.w then y.w else x.w) < 1) (h' : ¬ 4 < (if x.w < y.w then y.w else x.w)) : okP p x y = p x y := by
  unfold okP kn
  have h1 : 1 ≤ x.w ∧ 1 ≤ y.w := by split at h <;> omega
  have h2 : x.w ≤ 4 ∧ y.w ≤ 4 := by split at h' <;> omega
  simp [h1, h2]

theorem loop110 (p : Ft → Ft → Bool) (xs ys : List Ft) (kx ky : Option Bool) (F k K : Nat) (hent : T.ent F = true) (hF : ∀ x y S, callN E k F [.agg x.cells, .agg y.cells] S = some (.bool (p x y), S)) (hb : xs.length < 9223372036854775807) (hxy : xs.length = ys.length) :
    ∀ (rest rest' : List Ft) (i n : Nat) (t : Tmps) (S : Store), xs.drop i = rest → ys.drop i = rest' → rest.length < n → t.length = 55 → tg t 1 = slA ky (ys.map Ft.cells) → tg t 2 = .func F [] [] → tg t 17 = slA kx (xs.map Ft.cells) → tg t 18 = .int .i64 xs.length → tg t 19 = .int .i64 i →
      Out (fun e t' S' => (e = .exit 0 ∧ allP p rest rest' = true ∨ e = .ret ∧ allP p rest rest' = false ∧ tg t' 6 = .bool false) ∧ t'.length = 55 ∧ ∃ L, S' = S ++ L) (loopC T (callN E k) (drawF T (callN E k) 110 none (planOf 110)) K (lp 0 Try.f110) n t S) := by
  intro rest
  induction rest with
  | nil =>
    intro rest' i n t S hd hd' hn hlen h1 h2 h17 h18 h19
    obtain ⟨n, rfl⟩ : ∃ n', n = n' + 1 := ⟨n - 1, by omega⟩
    have hi : xs.length ≤ i := List.drop_eq_nil_iff.1 hd
    obtain rfl : rest' = [] := by rw [← hd']; exact List.drop_eq_nil_of_le (by omega)
    have e1 : ¬ i < xs.length := by omega
    simp [loop_step, Try.f110, h1, h2, h17, h18, h19, hlen, e1, allP]
  | cons a rest ihr =>
    intro rest' i n t S hd hd' hn hlen h1 h2 h17 h18 h19
    obtain ⟨n, rfl⟩ : ∃ n', n = n' + 1 := ⟨n - 1, by omega⟩
    obtain ⟨hi, ha, hdx⟩ := drop_cons hd
    obtain ⟨b, rest', rfl⟩ : ∃ b r, rest' = b :: r := by
      cases rest' with
      | nil => have := List.drop_eq_nil_iff.1 hd'; omega
      | cons b r => exact ⟨b, r, rfl⟩
    obtain ⟨hi', hb', hdy⟩ := drop_cons hd'
    have e3 : (xs.map Ft.cells)[i]? = some a.cells := by simp [ha]
    have e2 := indexA_slA (T := T) (ty := 67) (e := 133) (sz := 3) (k := kx) (els := xs.map Ft.cells) (i := i) (el := a.cells) rfl rfl e3 rfl
    have e4 := readN_el e3 (show a.cells.length = 3 from rfl)
    have f3 : (ys.map Ft.cells)[i]? = some b.cells := by simp [hb']
    have f2 := indexA_slA (T := T) (ty := 67) (e := 133) (sz := 3) (k := ky) (els := ys.map Ft.cells) (i := i) (el := b.cells) rfl rfl f3 rfl
    have f4 := readN_el f3 (show b.cells.length = 3 from rfl)
    have f5 := read1_el (o := 0) (c := .int .i64 b.w) f3 rfl
    have hw : IntKind.i64.wrap ((i : Int) + 1) = ((i + 1 : Nat) : Int) := wrapN (by omega) (by omega)
    have hA := hF a b
    simp only [Ft.cells] at e4 f4 hA
    by_cases c1 : (if b.w < a.w then b.w else a.w) < 1
    · simp [loop_step, Try.f110, h1, h2, h17, h18, h19, hlen, hi, e2, e4, f2, f4, f5, hA, hw, hent, c1, allP, okP_lo c1]
    · by_cases c2 : 4 < (if a.w < b.w then b.w else a.w)
      · simp [loop_step, Try.f110, h1, h2, h17, h18, h19, hlen, hi, e2, e4, f2, f4, f5, hA, hw, hent, c1, c2, allP, okP_hi c2]
      · cases hs : p a b
        · simp [loop_step, Try.f110, h1, h2, h17, h18, h19, hlen, hi, e2, e4, f2, f4, f5, hA, hw, hent, c1, c2, hs, allP, okP_in c1 c2]
        · simp [loop_step, Try.f110, h1, h2, h17, h18, h19, hlen, hi, e2, e4, f2, f4, f5, hA, hw, hent, c1, c2, hs, allP, okP_in c1 c2]
          refine (ihr rest' (i + 1) n _ _ hdx hdy (by simp at hn; omega) ?_ ?_ ?_ ?_ ?_ ?_).mono (fun e t' S' h => ⟨h.1, h.2.1, by obtain ⟨L, rfl⟩ := h.2.2; exact ⟨_, List.append_assoc _ _ _⟩⟩) <;> simp [hlen, h1, h2, h17, h18]

theorem t110 (p : Ft → Ft → Bool) (xs ys : List Ft) (kx ky : Option Bool) (F k : Nat) (hk : 4 ≤ k) (hent : T.ent F = true) (hF : ∀ x y S, callN E k F [.agg x.cells, .agg y.cells] S = some (.bool (p x y), S)) (S : Store) :
    callN E (k + 1) 110 [slA kx (xs.map Ft.cells), slA ky (ys.map Ft.cells), .func F [] []] S = some (.bool (every p xs ys), S) := by
  rw [run_fn (by decide) Try.func110 rfl]
  by_cases c1 : xs.length = 4
  · have d1 : (xs.length : Int) = 4 := by omega
    by_cases c2 : ys.length = 4
    · have d2 : (ys.length : Int) = 4 := by omega
      have L := fun t => loop110 p xs ys kx ky F k (k + 1) hent hF (by omega) (by omega) xs ys 0 (k + 1) t S rfl rfl (by omega)
      simp only [lp, loops, Try.f110, List.nil_append, List.append_nil, List.getD_cons_zero] at L
      simp [Try.f110, keepl, c1, c2, d1, d2, every]
      generalize hr : loopC T (callN E k) _ (k + 1) _ (k + 1) _ _ = r
      obtain ⟨e, t', S', rfl, h, g1, L', rfl⟩ := Out.at hr (L _ (by rfl) (by rfl) (by rfl) (by rfl) (by simp [c1]) (by rfl))
      rcases h with ⟨rfl, h⟩ | ⟨rfl, h, h2⟩
      · simp [h, g1]
      · simp [h, g1, h2]
    · have d2 : ¬ (ys.length : Int) = 4 := by omega
      simp [Try.f110, keepl, c1, c2, d1, d2, every]
  · have d1 : ¬ (xs.length : Int) = 4 := by omega
    simp [Try.f110, keepl, c1, d1, every]

end Go.Ev.Z
