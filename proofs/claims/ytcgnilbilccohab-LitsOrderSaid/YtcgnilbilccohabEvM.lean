/- The evaluator Ev, part M: whatever the order, a drawn region tells what the canonical run tells. -/
import Derived.Test.YtcgnilbilccohabEvL
namespace Go.Ev
open Go
set_option linter.unusedSimpArgs false
set_option linter.unusedVariables false

structure Inv (X : FX) (ops : Array Oper) (L : Nat → Tmps × Store) (segs : List Store) (ρ0 : Rho) (W0 : World) (listed : Array Bool) (j : Nat) (ts : Tmps) (ρ : Rho) (W : World) (a : Act) : Prop where
  size : listed.size = ops.size
  down : ∀ i p, listed.getD i false = true → Reach ops i p → listed.getD p false = true
  jm : j ≤ cidx ops ops.size
  jC : ∀ i o, ops[i]? = some o → isC o = true → (listed.getD i false = true ↔ cidx ops i < j)
  rel : Rel W ρ (seg segs j)
  tr : TR X W ρ (Mut ρ (seg segs j)) ts a
  ext : Ext (L 0).2.length ρ0 (L 0).2 W0 ρ (seg segs j) W
  tlen : ts.length = (L 0).1.length
  expW : ∀ i o d, ops[i]? = some o → o.dst = some d → ts.getD d undefA = if listed.getD i false = true then (L (i + 1)).1.getD d undefA else (L 0).1.getD d undefA
  expN : ∀ d, (∀ (i : Nat) (o : Oper), ops[i]? = some o → o.dst ≠ some d) → ts.getD d undefA = (L 0).1.getD d undefA
  newA : ∀ i o, ops[i]? = some o → isA o = true → wantedA ops (L i).1 o = some true → listed.getD i false = false → cidx ops i ≤ j → ρ (L i).2.length = none
  mono : ∀ k k', k ≤ k' → k' ≤ ops.size → cidx ops k' ≤ j → (L k).2.length ≤ (L k').2.length

theorem getD_set (listed : Array Bool) (i k : Nat) (hi : i < listed.size) : (listed.setIfInBounds i true).getD k false = if k = i then true else listed.getD k false := by
  by_cases h : k = i
  · subst h
    simp [hi]
  · rw [if_neg h, getD_set_ne false (fun e => h e.symm)]

section
variable {X : FX} {P : Program} {T : Tab} {call : CallT} {ops : Array Oper} {pl : List (Nat × Nat)} {L : Nat → Tmps × Store} {segs : List Store} {chks : List Chk} {ρ0 : Rho} {W0 : World} {listed : Array Bool} {j : Nat} {ts : Tmps} {ρ : Rho} {W : World} {a : Act}

/-- Ready: not listed yet, all that must come ahead is. -/
structure Ready (ops : Array Oper) (listed : Array Bool) (i : Nat) (o : Oper) : Prop where
  op : ops[i]? = some o
  not : listed.getD i false = false
  pre : ∀ p, Reach ops i p → listed.getD p false = true

theorem ready_of (hd : ∀ i p, listed.getD i false = true → Reach ops i p → listed.getD p false = true) {i : Nat} (h : i ∈ Region.ready .any ops listed) : ∃ o, Ready ops listed i o := by
  obtain ⟨h0, o, ho, hall⟩ := mem_ready.1 h
  have hpre : ∀ k ∈ Ev.pre o, listed.getD k false = true := by
    intro k hk
    unfold Ev.pre at hk
    obtain ⟨e, he, rfl⟩ := List.mem_map.1 hk
    obtain ⟨he1, he2⟩ := List.mem_filter.1 he
    exact hall e (Array.mem_toList_iff.1 he1) he2
  refine ⟨o, ho, ?_, fun p hp => ?_⟩
  · by_cases hlt : i < listed.size
    · simpa [Array.getD_eq_getD_getElem?, hlt] using h0
    · simp [Array.getD_eq_getD_getElem?, hlt] at h0
  · cases hp with
    | one ho' hj => rw [ho] at ho'; cases ho'; exact hpre p hj
    | step ho' hk hj => rw [ho] at ho'; cases ho'; exact hd _ p (hpre _ hk) hj

theorem looks_eq (hp : planOK ops pl = true) (ht : Trace T call ops pl L segs chks) (inv : Inv X ops L segs ρ0 W0 listed j ts ρ W a) {i : Nat} {o : Oper} (hr : Ready ops listed i o) {d : Nat} (hd : d ∈ o.looksAt ops) : ts.getD d undefA = (L i).1.getD d undefA := by
  have hi := (Array.getElem?_eq_some_iff.1 hr.op).1
  by_cases hw : ∃ (w : Nat) (x : Oper), ops[w]? = some x ∧ x.dst = some d
  · obtain ⟨w, x, hx, hxd⟩ := hw
    rw [inv.expW w x d hx hxd]
    by_cases hwi : w = i
    · subst hwi
      rw [if_neg (by rw [hr.not]; simp), trace_before hp ht hx hxd (Nat.le_refl _)]
    · rcases plan_looks hp hx hr.op hxd hd hwi with ⟨hlt, hre⟩ | ⟨hlt, hre⟩
      · rw [if_pos (hr.pre w hre), trace_behind hp ht hx hxd hlt (by omega)]
      · have hn : ¬ listed.getD w false = true := by
          intro hl
          have := inv.down w i hl hre
          rw [hr.not] at this
          cases this
        rw [if_neg hn]
        exact (trace_before hp ht hx hxd (by omega)).symm
  · rw [inv.expN d (fun k y hk hkd => hw ⟨k, y, hk, hkd⟩)]
    have := trace_none ht (d := d) (k := i) 0 (by omega) (fun k y _ _ hk hkd => hw ⟨k, y, hk, hkd⟩)
    rw [Nat.zero_add] at this
    exact this.symm

theorem Inv.next (hp : planOK ops pl = true) (ht : Trace T call ops pl L segs chks) (inv : Inv X ops L segs ρ0 W0 listed j ts ρ W a) {i : Nat} {o : Oper} (hr : Ready ops listed i o) {v : AV} {x : Value} {j' : Nat} {ρ' : Rho} {W' : World}
    (hv : (L (i + 1)).1 = putA (L i).1 o.dst v) (hx : RV W' ρ' (Mut ρ' (seg segs j')) v x) (hrel : Rel W' ρ' (seg segs j')) (hext : Ext (L 0).2.length ρ (seg segs j) W ρ' (seg segs j') W') (hj : j' ≤ cidx ops ops.size)
    (hjC : ∀ k y, ops[k]? = some y → isC y = true → ((k = i ∨ listed.getD k false = true) ↔ cidx ops k < j'))
    (hnew : ∀ k y, ops[k]? = some y → isA y = true → wantedA ops (L k).1 y = some true → k ≠ i → listed.getD k false = false → cidx ops k ≤ j' → ρ' (L k).2.length = none) (hbase : ∀ k k', k ≤ k' → k' ≤ ops.size → cidx ops k' ≤ j' → (L k).2.length ≤ (L k').2.length) :
    Inv X ops L segs ρ0 W0 (listed.setIfInBounds i true) j' (putA ts o.dst v) ρ' W' (a.put o.dst x) := by
  have hi := (Array.getElem?_eq_some_iff.1 hr.op).1
  have hil : i < listed.size := by rw [inv.size]; exact hi
  have hset := fun k => getD_set listed i k hil
  refine ⟨by simp [inv.size], fun k p hk hre => ?_, hj, fun k y hy hc => ?_, hrel, (inv.tr.step hext).put o.dst hx, inv.ext.trans hext, ?_, fun k y d hy hd => ?_, fun d hd => ?_, fun k y hy hA hw hn hc => ?_, hbase⟩
  · rw [hset] at hk ⊢
    split
    · rfl
    · split at hk
      · rename_i he; subst he; exact hr.pre p hre
      · exact inv.down k p hk hre
  · rw [hset, ← hjC k y hy hc]
    split
    · rename_i he; simp [he]
    · rename_i he; simp [he]
  · rw [← inv.tlen]
    cases o.dst <;> simp [putA]
  · rw [hset]
    by_cases hki : k = i
    · subst hki
      rw [if_pos rfl, if_pos rfl, hv]
      rw [hr.op] at hy
      cases hy
      rw [hd]
      by_cases hlt : d < ts.length
      · rw [putA_same hlt, putA_same (by rw [trace_len ht k (by omega), ← inv.tlen]; exact hlt)]
      · have h1 : ∀ t : Tmps, ¬ d < t.length → (putA t (some d) v).getD d undefA = undefA := by
          intro t h
          simp [putA, List.getD_eq_getElem?_getD, List.getElem?_set, h]
        rw [h1 _ hlt, h1 _ (by rw [trace_len ht k (by omega), ← inv.tlen]; exact hlt)]
    · rw [if_neg hki, putA_other (fun he => hki (plan_dst hp hy hr.op hd he)), inv.expW k y d hy hd]
  · rw [putA_other (hd i o hr.op), inv.expN d hd]
  · rw [hset] at hn
    split at hn
    · cases hn
    · rename_i hki; exact hnew k y hy hA hw hki hn hc

theorem loadA_pre {T : Tab} {S S' : Store} (h : Pre S S') {ty : Nat} {a v : AV} (hv : loadA T S ty a = some v) : loadA T S' ty a = some v := by
  have hrow : ∀ (l : Nat) (cs : List AV), rowCells S l = some cs → rowCells S' l = some cs := by
    intro l cs hl
    obtain ⟨t, ht⟩ := rowCells_some hl
    have hlt := (List.getElem?_eq_some_iff.1 ht).1
    unfold rowCells
    rw [h.2 l hlt, ht]
  have h1 : ∀ c, read1 S a = some c → read1 S' a = some c := by
    intro c hc
    unfold read1 at hc ⊢
    cases a with
    | ptr l o =>
      simp only at hc ⊢
      split at hc
      · rename_i cs hcs; rw [hrow _ _ hcs]; exact hc
      · cases hc
    | _ => exact hc
  have h2 : ∀ n c, readN S n a = some c → readN S' n a = some c := by
    intro n c hc
    unfold readN at hc ⊢
    cases a with
    | ptr l o =>
      simp only at hc ⊢
      split at hc
      · rename_i cs hcs; rw [hrow _ _ hcs]; exact hc
      · cases hc
    | _ => exact hc
  unfold loadA at hv ⊢
  split at hv
  · split at hv
    · obtain ⟨cs, hcs, rfl⟩ := Option.map_eq_some_iff.1 hv
      rename_i n hn
      rw [h2 _ _ hcs]
      rfl
    · cases hv
  · exact h1 _ hv
  · cases hv

theorem rowCells_pre {S S' : Store} (h : Pre S S') {l : Nat} {cs : List AV} (hl : rowCells S l = some cs) : rowCells S' l = some cs := by
  obtain ⟨t, ht⟩ := rowCells_some hl
  have hlt := (List.getElem?_eq_some_iff.1 ht).1
  unfold rowCells
  rw [h.2 l hlt, ht]

theorem mapRow_pre {S S' : Store} (h : Pre S S') {l : Nat} {r : List (AV × AV × Nat) × Nat} (hr : mapRow S l = some r) : mapRow S' l = some r := by
  obtain ⟨es, clk⟩ := r
  have := mapRow_some hr
  unfold mapRow
  rw [h.2 l (List.getElem?_eq_some_iff.1 this).1, this]

theorem mapRows_pre {S S' : Store} (h : Pre S S') {x : AV} {r : List (AV × AV × Nat)} (hr : mapRows S x = some r) : mapRows S' x = some r := by
  cases x <;> simp only [mapRows] at hr ⊢ <;> try exact hr
  obtain ⟨q, hq, rfl⟩ := Option.map_eq_some_iff.1 hr
  rw [mapRow_pre h hq]
  rfl

theorem evP_grow {T : Tab} {t : Tmps} {S S' : Store} (h : Pre S S') {op : Op} {v : AV} (hv : evP T t S op = some v) : evP T t S' op = some v := by
  cases hl : reads op with
  | false => rw [evP_still (S' := S) hl]; exact hv
  | true =>
    unfold reads at hl
    split at hl
    · simp only [evP] at hv ⊢
      exact loadA_pre h hv
    · simp only [evP, lookupA] at hv ⊢
      split at hv
      case h_2 => cases hv
      split at hv
      case h_2 => cases hv
      rename_i es z hrow hz
      rw [mapRows_pre h hrow, hz]
      exact hv
    · rename_i ty x lo hi mx
      cases mx with
      | some y => simp [evP] at hv
      | none =>
        simp only [evP, sliceB] at hv ⊢
        split at hv
        · simp only [slicePA] at hv ⊢
          split at hv
          case h_2 => cases hv
          split at hv
          case h_2 => cases hv
          rename_i sz cs hsz hrow
          rw [hsz, rowCells_pre h hrow]
          exact hv
        · exact hv
    · simp only [evP] at hv ⊢
      split at hv
      · simp only [lenB] at hv ⊢
        split at hv
        · exact hv
        · simp only [lenMap] at hv ⊢
          split at hv
          · obtain ⟨es, hrow, rfl⟩ := Option.map_eq_some_iff.1 hv
            rename_i hk
            rw [if_pos hk, mapRows_pre h hrow]
            rfl
          · cases hv
      · cases hv
    · cases hl

theorem evP_pre {T : Tab} {t : Tmps} {S S' : Store} (h : Pre S S') {op : Op} {v : AV} (hv : evP T t S op = some v) : evP T t S' op = some v := by
  cases hl : reads op with
  | false => rw [evP_still (S' := S) hl]; exact hv
  | true =>
    exact evP_grow h hv

/-- A reading operation tells at its turn what it told in the canonical run. -/
theorem load_turn (hp : planOK ops pl = true) (ht : Trace T call ops pl L segs chks) (hchk : ∀ c ∈ chks, chkOK T segs c = true) (inv : Inv X ops L segs ρ0 W0 listed j ts ρ W a) {i : Nat} {o : Oper} (hr : Ready ops listed i o)
    (hl : isLoad o = true) (hw : wantedA ops (L i).1 o = some true) {v : AV} (hv : evP T (L i).1 (L i).2 o.op = some v) : evP T (L i).1 (seg segs j) o.op = some v := by
  have hi := (Array.getElem?_eq_some_iff.1 hr.op).1
  obtain ⟨hlo, hhi⟩ := plan_load hp hr.op hl
  generalize hq : pl.getD i (0, 0) = q at hlo hhi
  have h1 : q.1 ≤ j ∧ q.1 ≤ cidx ops i := by
    rcases hlo with h | ⟨c, y, hy, hc, he, hre⟩
    · omega
    · have := (inv.jC c y hy hc).1 (hr.pre c hre)
      have hlt := reach_lt hp hre
      have := cidx_lt hy hc hlt
      omega
  have h2 : j ≤ q.2 ∧ cidx ops i ≤ q.2 := by
    rcases hhi with h | ⟨c, y, hy, hc, he, hre⟩
    · have := inv.jm
      have := cidx_mono (ops := ops) (show i ≤ ops.size by omega)
      omega
    · have hlt := reach_lt hp hre
      have h3 := cidx_mono (ops := ops) (show i ≤ c by omega)
      have : ¬ cidx ops c < j := by
        intro h
        have := inv.down c i ((inv.jC c y hy hc).2 h) hre
        rw [hr.not] at this
        cases this
      omega
  by_cases hlt : q.1 < q.2
  · have hmem := ht.chk i o hr.op (.rd q.1 q.2 o.op (L i).1 v) (by
      unfold chkOf
      rw [hw, hq]
      simp [hlt, hl, hv])
    have hc := hchk _ hmem
    simp only [chkOK] at hc
    have hjseg : j < segs.length := by
      have := (List.getElem?_eq_some_iff.1 ht.segN).1
      have := inv.jm
      omega
    have hs : seg segs j ∈ (segs.drop q.1).take (q.2 + 1 - q.1) := by
      refine List.mem_of_getElem? (i := j - q.1) ?_
      rw [List.getElem?_take, if_pos (by omega), List.getElem?_drop]
      have : q.1 + (j - q.1) = j := by omega
      rw [this, List.getElem?_eq_getElem hjseg]
      simp [seg, List.getD_eq_getElem?_getD, hjseg]
    have := List.all_eq_true.1 hc _ hs
    split at this
    · rename_i v' hv'
      rw [hv', AV.eq_of_eqb _ _ this]
    · cases this
  · have : j = cidx ops i := by omega
    rw [this]
    exact evP_pre (seg_pre ht (by omega)) hv

/-- A row's block is free and the row is as it was laid, when it is laid. -/
theorem row_turn (hp : planOK ops pl = true) (ht : Trace T call ops pl L segs chks) (hchk : ∀ c ∈ chks, chkOK T segs c = true) (inv : Inv X ops L segs ρ0 W0 listed j ts ρ W a) {i : Nat} {o : Oper} (hr : Ready ops listed i o)
    (hA : isA o = true) (hw : wantedA ops (L i).1 o = some true) (hij : cidx ops i ≤ j) {r : (Nat → AV) × Row} (hv : evA T (L i).1 (L i).2 o.op = some r) (hL : (L (i + 1)).2 = (L i).2 ++ [r.2]) : (seg segs j)[(L i).2.length]? = some r.2 := by
  have hi := (Array.getElem?_eq_some_iff.1 hr.op).1
  have hnc : isC o = false := by
    simp only [isA, isC, beq_iff_eq] at hA ⊢
    simp [hA]
  obtain ⟨hlo, hhi⟩ := plan_A hp hr.op hA
  generalize hq : pl.getD i (0, 0) = q at hlo hhi
  have h2 : j ≤ q.2 := by
    rcases hhi with h | ⟨c, y, hy, hc, he, hre⟩
    · have := inv.jm
      omega
    · have : ¬ cidx ops c < j := by
        intro h
        have := inv.down c i ((inv.jC c y hy hc).2 h) hre
        rw [hr.not] at this
        cases this
      omega
  by_cases hlt : q.1 < q.2
  · have hnl : isLoad o = false := by
      cases hl : isLoad o with
      | false => rfl
      | true =>
        simp only [isLoad] at hl
        simp only [isA, beq_iff_eq] at hA
        generalize o.op = op at hl hA
        unfold reads at hl
        split at hl
        · simp [cls] at hA
        · simp [cls] at hA
        · simp [cls] at hA
        · simp [cls] at hA
        · cases hl
    have hmem := ht.chk i o hr.op (.row q.1 q.2 (L i).2.length r.2) (by
      unfold chkOf
      rw [hw, hq]
      simp [hlt, hnl, hA, hv])
    have hc := hchk _ hmem
    simp only [chkOK] at hc
    have hjseg : j < segs.length := by
      have := (List.getElem?_eq_some_iff.1 ht.segN).1
      have := inv.jm
      omega
    have hs : seg segs j ∈ (segs.drop q.1).take (q.2 + 1 - q.1) := by
      refine List.mem_of_getElem? (i := j - q.1) ?_
      rw [List.getElem?_take, if_pos (by omega), List.getElem?_drop]
      have : q.1 + (j - q.1) = j := by omega
      rw [this, List.getElem?_eq_getElem hjseg]
      simp [seg, List.getD_eq_getElem?_getD, hjseg]
    have := List.all_eq_true.1 hc _ hs
    split at this
    · rename_i r' hr'
      rw [hr', Row.same_eq this]
    · cases this
  · have hj : j = cidx ops i := by omega
    have hpr : Pre (L (i + 1)).2 (seg segs j) := by
      have := seg_pre ht (i := i + 1) (by omega)
      rw [cidx_succ hr.op, hnc] at this
      simpa [hj] using this
    rw [hpr.2 _ (by rw [hL]; simp), hL]
    simp

theorem stepD_true {i : Nat} {o : Oper} (ht : Trace T call ops pl L segs chks) (ho : ops[i]? = some o) (hw : wantedA ops (L i).1 o = some true) : ∃ v S', evOp T call (L i).1 (L i).2 o.op = some (v, S') ∧ L (i + 1) = (putA (L i).1 o.dst v, S') ∧ (mayPanic o.op && v.isPanic) = false := by
  have hs := ht.step i o ho
  unfold stepD at hs
  rw [hw] at hs
  obtain ⟨r, hr, he⟩ := Option.map_eq_some_iff.1 hs
  exact ⟨r.1, r.2, (evOpD_some hr).1, he.symm, (evOpD_some hr).2⟩

theorem A_len (ht : Trace T call ops pl L segs chks) {i : Nat} {o : Oper} (ho : ops[i]? = some o) (hA : isA o = true) (hw : wantedA ops (L i).1 o = some true) : (L (i + 1)).2.length = (L i).2.length + 1 := by
  obtain ⟨v, S', hv, he, _⟩ := stepD_true ht ho hw
  have hcl : cls o.op = 1 := by simpa [isA] using hA
  simp only [evOp, hcl] at hv
  obtain ⟨r, hr, hre⟩ := Option.map_eq_some_iff.1 hv
  simp only [Prod.mk.injEq] at hre
  rw [he, ← hre.2]
  simp

theorem A_ne (ht : Trace T call ops pl L segs chks) (inv : Inv X ops L segs ρ0 W0 listed j ts ρ W a) {i k : Nat} {o y : Oper} (ho : ops[i]? = some o) (hy : ops[k]? = some y) (hA : isA o = true) (hw : wantedA ops (L i).1 o = some true) (hc : cidx ops k ≤ j) (hlt : i < k) : (L i).2.length < (L k).2.length := by
  have hk := (Array.getElem?_eq_some_iff.1 hy).1
  have := inv.mono (i + 1) k (by omega) (by omega) hc
  have h3 := A_len ht ho hA hw
  omega

theorem turn (hT : TabOK P T) (hcall : CallsSound P call) (hp : planOK ops pl = true) (ht : Trace T call ops pl L segs chks) (hchk : ∀ c ∈ chks, chkOK T segs c = true) (inv : Inv X ops L segs ρ0 W0 listed j ts ρ W a) {i : Nat} {o : Oper} (hr : Ready ops listed i o)
    {Q : Exit → Act → World → Prop} {K : Act → World → Prop} (hK : ∀ j' ts' ρ' W' a', Inv X ops L segs ρ0 W0 (listed.setIfInBounds i true) j' ts' ρ' W' a' → K a' W') : wpOpIn (FR X.R) 0 P ops Q i K a W := by
  have hi := (Array.getElem?_eq_some_iff.1 hr.op).1
  have hlen : ts.length = (L i).1.length := by rw [inv.tlen, trace_len ht i (by omega)]
  have hlooks : ∀ d ∈ o.looksAt ops, ts.getD d undefA = (L i).1.getD d undefA := fun d hd => looks_eq hp ht inv hr hd
  have hopd := operands_congr hlooks
  have hwc := wanted_congr hlen hlooks
  have hsegl : (L 0).2.length ≤ (seg segs j).length := inv.ext.slen
  -- where the count stands
  have hjC : isC o = true → cidx ops i = j := by
    intro hc
    have h1 : ¬ cidx ops i < j := fun h => by have := (inv.jC i o hr.op hc).2 h; rw [hr.not] at this; cases this
    by_cases h2 : j < cidx ops i
    · obtain ⟨k, y, hk, hy, hyc, he⟩ := cidx_find i (by omega) h2
      have := (inv.jC k y hy hyc).1 (hr.pre k (plan_C hp hy hr.op hk ⟨hyc, .inl hc⟩))
      omega
    · omega
  have hjA : isA o = true → cidx ops i ≤ j := by
    intro hA
    by_cases h2 : j < cidx ops i
    · obtain ⟨k, y, hk, hy, hyc, he⟩ := cidx_find i (by omega) h2
      have := (inv.jC k y hy hyc).1 (hr.pre k (plan_C hp hy hr.op hk ⟨hyc, .inr hA⟩))
      omega
    · omega
  have hjm1 : isC o = true → j + 1 ≤ cidx ops ops.size := by
    intro hc
    have := cidx_lt hr.op hc hi
    have := hjC hc
    omega
  have hjCn : isC o = false → ∀ k y, ops[k]? = some y → isC y = true → ((k = i ∨ listed.getD k false = true) ↔ cidx ops k < j) := by
    intro hc k y hy hyc
    have hki : k ≠ i := by rintro rfl; rw [hr.op] at hy; cases hy; rw [hc] at hyc; cases hyc
    exact ⟨fun h => (inv.jC k y hy hyc).1 (h.resolve_left hki), fun h => .inr ((inv.jC k y hy hyc).2 h)⟩
  have hjCc : isC o = true → ∀ k y, ops[k]? = some y → isC y = true → ((k = i ∨ listed.getD k false = true) ↔ cidx ops k < j + 1) := by
    intro hc k y hy hyc
    rw [inv.jC k y hy hyc]
    have hj := hjC hc
    constructor
    · rintro (rfl | h) <;> omega
    · intro h
      by_cases h1 : cidx ops k < j
      · exact .inr h1
      · refine .inl ?_
        rcases Nat.lt_trichotomy k i with h2 | h2 | h2
        · have := cidx_lt hy hyc h2; omega
        · exact h2
        · have := cidx_lt hr.op hc h2; omega
  have hseg1 : isC o = true → seg segs j = (L i).2 := by
    intro hc
    rw [← hjC hc]
    exact seg_C ht hr.op hc
  have hseg2 : isC o = true → Pre (L (i + 1)).2 (seg segs (j + 1)) := by
    intro hc
    have := seg_pre ht (i := i + 1) (by omega)
    rw [cidx_succ hr.op, if_pos hc, hjC hc] at this
    exact this
  have hnewC : isC o = true → ∀ {ρ' : Rho} {W' : World}, Rel W' ρ' (L (i + 1)).2 → (∀ l x, ρ' l = some x → ρ l = none → (seg segs j).length ≤ l) → ∀ k y, ops[k]? = some y → isA y = true → wantedA ops (L k).1 y = some true → k ≠ i → listed.getD k false = false → cidx ops k ≤ j + 1 → ρ' (L k).2.length = none := by
    intro hc ρ' W' hrel hfr k y hy hyA hyw hki hyl hkj
    have hk := (Array.getElem?_eq_some_iff.1 hy).1
    have hji := hjC hc
    by_cases hik : i < k
    · have := cidx_lt hr.op hc hik
      obtain ⟨d, rfl⟩ := Nat.exists_eq_add_of_le (show i + 1 ≤ k by omega)
      have hpr := trace_pre ht (i := i + 1) d (by omega) (by rw [cidx_succ hr.op, if_pos hc, hji]; omega)
      exact rho_none hrel hpr.1
    · have hk0 := cidx_mono (ops := ops) (show k ≤ i by omega)
      have h0 := inv.newA k y hy hyA hyw hyl (by omega)
      cases hρ' : ρ' (L k).2.length with
      | none => rfl
      | some x =>
        have h1 := hfr _ x hρ' h0
        have h2 := inv.mono (k + 1) i (by omega) (by omega) (by omega)
        have h3 := A_len ht hy hyA hyw
        rw [hseg1 hc] at h1
        omega
  have hbaseC : isC o = true → (L i).2.length ≤ (L (i + 1)).2.length → ∀ k k', k ≤ k' → k' ≤ ops.size → cidx ops k' ≤ j + 1 → (L k).2.length ≤ (L k').2.length := by
    intro hc hle k k' hkk hk hkj
    have hji := hjC hc
    by_cases hc' : cidx ops k' ≤ j
    · exact inv.mono k k' hkk hk hc'
    · have hik : i < k' := by
        by_cases h : i < k'
        · exact h
        · have := cidx_mono (ops := ops) (show k' ≤ i by omega)
          omega
      by_cases hik2 : i < k
      · obtain ⟨d, rfl⟩ := Nat.exists_eq_add_of_le hkk
        have := cidx_lt hr.op hc hik2
        have := cidx_mono (ops := ops) (show k ≤ k + d by omega)
        exact (trace_pre ht (i := k) d (by omega) (by omega)).1
      · have h1 := inv.mono k i (by omega) (by omega) (by omega)
        obtain ⟨d, rfl⟩ := Nat.exists_eq_add_of_le (show i + 1 ≤ k' by omega)
        have hpr := trace_pre ht (i := i + 1) d (by omega) (by rw [cidx_succ hr.op, if_pos hc, hji]; omega)
        exact Nat.le_trans h1 (Nat.le_trans hle hpr.1)
  have hst := ht.step i o hr.op
  unfold wpOpIn
  rw [hr.op]
  simp only
  unfold stepD at hst
  split at hst
  · -- it is carried out
    rename_i hw
    rw [wanted_sound inv.tr (hwc.trans hw), if_pos rfl]
    obtain ⟨v, S', hv, hL, hnp⟩ := stepD_true ht hr.op hw
    rcases cls_cases o with ⟨hcl, hnc, hna⟩ | ⟨hcl, hnc, hA⟩ | ⟨hc, hna, hev⟩
    · -- it reads
      simp only [evOp, hcl] at hv
      obtain ⟨v', hv', he⟩ := Option.map_eq_some_iff.1 hv
      simp only [Prod.mk.injEq] at he
      obtain ⟨rfl, rfl⟩ := he
      have hvj : evP T ts (seg segs j) o.op = some v' := by
        rw [evP_congr hopd]
        cases hl : isLoad o with
        | true => exact load_turn hp ht hchk inv hr hl hw hv'
        | false =>
          rw [evP_still (S' := (L i).2) hl]
          exact hv'
      obtain ⟨x, W', h1, h2, h3⟩ := evP_sound hT inv.rel inv.tr hvj
      refine wpIn_run (fun c e => by rw [e] at hcl; simp [cls] at hcl) h1 ?_
      exact hK j _ ρ W' _ (inv.next hp ht hr (by rw [hL]) h3 (h2.rel inv.rel) (h2.ext _ _ _) inv.jm (hjCn hnc) (fun k y hy hyA hyw hki hyl hyj => inv.newA k y hy hyA hyw hyl hyj) inv.mono)
    · -- it lays a row
      simp only [evOp, hcl] at hv
      obtain ⟨r, hrr, he⟩ := Option.map_eq_some_iff.1 hv
      simp only [Prod.mk.injEq] at he
      obtain ⟨rfl, rfl⟩ := he
      have hj := hjA hA
      have hS : (seg segs j)[(L i).2.length]? = some r.2 := row_turn hp ht hchk inv hr hA hw hj hrr (by rw [hL])
      have hnone := inv.newA i o hr.op hA hw hr.not hj
      have hn : (L 0).2.length ≤ (L i).2.length := inv.mono 0 i (by omega) (by omega) hj
      obtain ⟨z, W', b, h1, h2, h3, h4⟩ := evA_sound (n := (L 0).2.length) (S0 := (L i).2) hT inv.rel inv.tr hS hnone hn ((evA_congr hopd).trans hrr)
      refine wpIn_run (fun c e => by rw [e] at hcl; simp [cls] at hcl) h1 ?_
      refine hK j _ _ W' _ (inv.next hp ht hr (by rw [hL]) h2 h3 h4 inv.jm (hjCn hnc) (fun k y hy hyA hyw hki hyl hyj => ?_) inv.mono)
      have := inv.newA k y hy hyA hyw hyl hyj
      unfold Rho.set
      rw [if_neg]
      · exact this
      · intro he
        rcases Nat.lt_trichotomy i k with h | h | h
        · have := A_ne ht inv hr.op hy hA hw (by omega) h; omega
        · exact hki h.symm
        · have := A_ne ht inv hy hr.op hyA hyw (by omega) h; omega
    · -- it does more
      rw [hev] at hv
      have hvj : evC T call ts (seg segs j) o.op = some (v, S') := by
        rw [evC_congr hopd, hseg1 hc]
        exact hv
      refine evC_sound hT hcall inv.rel inv.tr hvj (fun _ x W' ρ' g1 g2 g3 => ?_) (fun hp => by rw [hnp] at hp; cases hp)
      have hL2 : (L (i + 1)).2 = S' := by rw [hL]
      have hpre := hseg2 hc
      rw [hL2] at hpre
      have hmore := g2.more hpre.2 hpre.1
      exact hK (j + 1) _ ρ' W' _ (inv.next hp ht hr (by rw [hL]) (g1.step (hmore.2 0)) hmore.1 ((g3.weaken hsegl).trans (hmore.2 _)) (hjm1 hc) (hjCc hc) (hnewC hc (by rw [hL2]; exact g2) g3.fresh) (hbaseC hc (by rw [hL2, ← hseg1 hc]; exact g3.slen)))
  · -- it is passed over
    rename_i hw
    rw [wanted_sound inv.tr (hwc.trans hw), if_neg (by simp)]
    refine ⟨fun _ _ => trivial, ?_⟩
    simp only [Option.some.injEq] at hst
    cases hc : isC o with
    | false => exact hK j _ ρ W _ (inv.next hp ht hr (by rw [← hst]) (RV.undef _ _ _) inv.rel (Ext.refl _ _ _ _) inv.jm (hjCn hc) (fun k y hy hyA hyw hki hyl hyj => inv.newA k y hy hyA hyw hyl hyj) inv.mono)
    | true =>
      have hL2 : (L (i + 1)).2 = seg segs j := by rw [← hst, hseg1 hc]
      have hpre := hseg2 hc
      rw [hL2] at hpre
      have hmore := inv.rel.more hpre.2 hpre.1
      exact hK (j + 1) _ ρ W _ (inv.next hp ht hr (by rw [← hst]) (RV.undef _ _ _) hmore.1 (hmore.2 _) (hjm1 hc) (hjCc hc) (hnewC hc (by rw [hL2]; exact inv.rel) (fun l x h h' => by rw [h'] at h; cases h)) (hbaseC hc (by rw [hL2, hseg1 hc]; exact Nat.le_refl _)))
  · cases hst

/-- How many are not listed yet. -/
def left (listed : Array Bool) (n : Nat) : Nat := ((List.range n).filter fun i => !listed.getD i false).length

theorem left_set {listed : Array Bool} {i : Nat} (hi : i < listed.size) (h : listed.getD i false = false) : ∀ n, left (listed.setIfInBounds i true) n + (if i < n then 1 else 0) = left listed n := by
  intro n
  induction n with
  | zero => simp [left]
  | succ n ih =>
    have h1 : ∀ l : Array Bool, left l (n + 1) = left l n + (if l.getD n false = true then 0 else 1) := by
      intro l
      have h0 : List.filter (fun i => !l.getD i false) [n] = if l.getD n false = true then [] else [n] := by
        simp only [List.filter_cons, List.filter_nil]
        cases l.getD n false <;> rfl
      simp only [left, List.range_succ, List.filter_append, List.length_append, h0]
      cases l.getD n false <;> rfl
    rw [h1, h1, getD_set listed i n hi]
    by_cases hn : n = i
    · subst hn
      simp only [if_true, h, Bool.false_eq_true, if_false] at ih ⊢
      have h2 : ¬ n < n := by omega
      have h3 : n < n + 1 := by omega
      rw [if_neg h2] at ih
      rw [if_pos h3]
      omega
    · rw [if_neg hn]
      by_cases hlt : i < n
      · rw [if_pos hlt] at ih
        rw [if_pos (show i < n + 1 by omega)]
        omega
      · rw [if_neg hlt] at ih
        rw [if_neg (show ¬ i < n + 1 by omega)]
        omega

theorem left_zero {listed : Array Bool} {n : Nat} (h : left listed n = 0) {i : Nat} (hi : i < n) : listed.getD i false = true := by
  unfold left at h
  have := List.filter_eq_nil_iff.1 (List.eq_nil_of_length_eq_zero h) i (List.mem_range.2 hi)
  simpa using this

theorem all_listed (hp : planOK ops pl = true) (hd : ∀ i p, listed.getD i false = true → Reach ops i p → listed.getD p false = true) (hs : listed.size = ops.size) (h : Region.ready .any ops listed = []) : ∀ i, i < ops.size → listed.getD i false = true := by
  intro i
  induction i using Nat.strongRecOn with
  | _ i ih =>
    intro hi
    cases hl : listed.getD i false with
    | true => rfl
    | false =>
      have ho := Array.getElem?_eq_getElem hi
      have hm : i ∈ Region.ready .any ops listed := by
        rw [mem_ready]
        refine ⟨?_, _, ho, fun e he hb => ?_⟩
        · have hlt : i < listed.size := by omega
          simpa [Array.getD_eq_getD_getElem?, hlt] using hl
        · have hmem : e.on ∈ Ev.pre ops[i] := by
            unfold Ev.pre
            exact List.mem_map.2 ⟨e, List.mem_filter.2 ⟨Array.mem_toList_iff.2 he, hb⟩, rfl⟩
          have hlt := plan_down hp ho hmem
          exact ih _ hlt (by omega)
      rw [h] at hm
      cases hm

theorem wpAny_of (hT : TabOK P T) (hcall : CallsSound P call) (hp : planOK ops pl = true) (ht : Trace T call ops pl L segs chks) (hchk : ∀ c ∈ chks, chkOK T segs c = true) {Q : Exit → Act → World → Prop}
    (hQ : ∀ a' W' ρ', Rel W' ρ' (L ops.size).2 → TR X W' ρ' (Mut ρ' (L ops.size).2) (L ops.size).1 a' → Ext (L 0).2.length ρ0 (L 0).2 W0 ρ' (L ops.size).2 W' → Q .normal a' W') :
    ∀ (fuel : Nat) (listed : Array Bool) (j : Nat) (ts : Tmps) (ρ : Rho) (W : World) (a : Act), Inv X ops L segs ρ0 W0 listed j ts ρ W a → left listed ops.size ≤ fuel → wpAnyIn (FR X.R) 0 P .any ops Q fuel listed a W := by
  have fin : ∀ (listed : Array Bool) (j : Nat) (ts : Tmps) (ρ : Rho) (W : World) (a : Act), Inv X ops L segs ρ0 W0 listed j ts ρ W a → (∀ i, i < ops.size → listed.getD i false = true) → Q .normal a W := by
    intro listed j ts ρ W a inv hall
    have hj : j = cidx ops ops.size := by
      have := inv.jm
      by_cases h : j < cidx ops ops.size
      · obtain ⟨i, o, hi, ho, hc, he⟩ := cidx_find ops.size (Nat.le_refl _) h
        have := (inv.jC i o ho hc).1 (hall i hi)
        omega
      · omega
    have hseg : seg segs j = (L ops.size).2 := by
      rw [hj]
      unfold seg
      rw [List.getD_eq_getElem?_getD, ht.segN]
      rfl
    have hts : ts = (L ops.size).1 := by
      apply List.ext_getElem?
      intro d
      have hlen : ts.length = (L ops.size).1.length := by rw [inv.tlen, trace_len ht ops.size (Nat.le_refl _)]
      by_cases hd : d < ts.length
      · have hget : ts.getD d undefA = (L ops.size).1.getD d undefA := by
          by_cases hw : ∃ (w : Nat) (x : Oper), ops[w]? = some x ∧ x.dst = some d
          · obtain ⟨w, x, hx, hxd⟩ := hw
            have hwl := (Array.getElem?_eq_some_iff.1 hx).1
            rw [inv.expW w x d hx hxd, if_pos (hall w hwl), trace_behind hp ht hx hxd hwl (Nat.le_refl _)]
          · rw [inv.expN d (fun k y hk hkd => hw ⟨k, y, hk, hkd⟩)]
            have := trace_none ht (d := d) (k := ops.size) 0 (by omega) (fun k y _ _ hk hkd => hw ⟨k, y, hk, hkd⟩)
            rw [Nat.zero_add] at this
            exact this.symm
        rw [List.getD_eq_getElem?_getD, List.getD_eq_getElem?_getD, List.getElem?_eq_getElem hd, List.getElem?_eq_getElem (hlen ▸ hd)] at hget
        rw [List.getElem?_eq_getElem hd, List.getElem?_eq_getElem (hlen ▸ hd)]
        simpa using hget
      · rw [List.getElem?_eq_none (Nat.le_of_not_lt hd), List.getElem?_eq_none (hlen ▸ Nat.le_of_not_lt hd)]
    have h1 := inv.rel
    have h2 := inv.tr
    have h3 := inv.ext
    rw [hseg] at h1 h2 h3
    rw [hts] at h2
    exact hQ a W ρ h1 h2 h3
  intro fuel
  induction fuel with
  | zero =>
    intro listed j ts ρ W a inv hl
    have hall : ∀ i, i < ops.size → listed.getD i false = true := fun i hi => left_zero (by omega) hi
    refine ⟨?_, fin listed j ts ρ W a inv hall⟩
    by_cases h : Region.ready .any ops listed = []
    · exact h
    · obtain ⟨i, hi⟩ := List.exists_mem_of_ne_nil _ h
      obtain ⟨o, hr⟩ := ready_of inv.down hi
      have := hall i (Array.getElem?_eq_some_iff.1 hr.op).1
      rw [hr.not] at this
      cases this
  | succ fuel ih =>
    intro listed j ts ρ W a inv hl
    refine ⟨fun h => fin listed j ts ρ W a inv (all_listed hp inv.down inv.size h), fun i hi => ?_⟩
    obtain ⟨o, hr⟩ := ready_of inv.down hi
    refine turn hT hcall hp ht hchk inv hr (fun j' ts' ρ' W' a' inv' => ih _ j' ts' ρ' W' a' inv' ?_)
    have hi' := (Array.getElem?_eq_some_iff.1 hr.op).1
    have := left_set (listed := listed) (i := i) (by rw [inv.size]; exact hi') hr.not ops.size
    rw [if_pos hi'] at this
    omega

theorem left_new (n : Nat) : ∀ m, m ≤ n → left (Array.replicate n false) m ≤ m := by
  intro m _
  unfold left
  have := List.length_filter_le (fun i => !(Array.replicate n false).getD i false) (List.range m)
  simpa using this

/-- What the evaluator tells of drawn regions is so. -/
theorem drawEv_sound (hm : P.follows .mixedOrders = true) (hT : TabOK P T) (hcall : CallsSound P call) (f : Nat) (rnd : Option Nat) (plans : Nat → List (Nat × Nat)) : DrawSound P (fun id ops => planOK ops (plans id)) (drawF T call f rnd plans) := by
  intro X ops t S t' S' ρ W a id Q hok h hr ht hQ
  replace h : drawEv T call plans id ops t S = some (t', S') := h
  unfold drawEv at h
  split at h
  · cases h
  rename_i t1 S1 segs chks hgo
  split at h
  case isFalse => cases h
  rename_i hchk
  simp only [Option.some.injEq, Prod.mk.injEq] at h
  obtain ⟨rfl, rfl⟩ := h
  obtain ⟨L, h0, hn, hs, hc, hsn, hk⟩ := drawGo_trace ops.toList (plans id) t S _ _ segs chks hgo
  rw [Array.length_toList] at hn hsn
  have hcnt : ∀ i, cnt ops.toList i = cidx ops i := fun i => rfl
  have htr : Trace T call ops (plans id) L segs chks := ⟨fun i o ho => hs i o (by simpa using ho), fun i o ho hC => by have := hc i o (by simpa using ho) hC; rwa [hcnt] at this, by rw [← hcnt, hsn, hn], fun i o ho => hk i o (by simpa using ho)⟩
  have hst := Still.drew W
  refine wpIn_region_any hm (wpAny_of (ρ0 := ρ) (W0 := W) hT hcall hok htr (fun c hcm => List.all_eq_true.1 hchk c hcm) ?_ ops.size _ 0 t ρ W.drew a ?_ (left_new _ _ (Nat.le_refl _)))
  · intro a' W' ρ' g1 g2 g3
    rw [hn] at g1 g2 g3
    rw [h0] at g3
    exact hQ a' W' ρ' g1 g2 g3
  · have hf : ∀ i, (Array.replicate ops.size false).getD i false = false := by
      intro i
      simp [Array.getD_eq_getD_getElem?, Array.getElem?_replicate]
      split <;> rfl
    have hpre := seg_pre htr (i := 0) (Nat.zero_le _)
    rw [cidx_zero, h0] at hpre
    have hmore := (hst.rel hr).more hpre.2 hpre.1
    refine ⟨by simp, fun i p hi => ?_, Nat.zero_le _, fun i o ho hC => ?_, hmore.1, (hst.tr ht).step (hmore.2 0), ?_, by rw [h0], fun i o d ho hd => ?_, fun d _ => by rw [h0], fun i o ho hA hw _ hci => ?_, fun k k' hkk hk0 hci => ?_⟩
    · rw [hf] at hi; cases hi
    · rw [hf]; simp
    · rw [h0]; exact (hst.ext _ _ _).trans (hmore.2 _)
    · rw [hf, if_neg (by simp), h0]
    · have hi := (Array.getElem?_eq_some_iff.1 ho).1
      have := trace_pre htr (i := 0) i (by omega) (by rw [cidx_zero, Nat.zero_add]; omega)
      rw [Nat.zero_add, h0] at this
      exact rho_none hr this.1
    · obtain ⟨d, rfl⟩ := Nat.exists_eq_add_of_le hkk
      have := cidx_mono (ops := ops) (show k ≤ k + d by omega)
      exact (trace_pre htr (i := k) d (by omega) (by omega)).1

end
end Go.Ev
