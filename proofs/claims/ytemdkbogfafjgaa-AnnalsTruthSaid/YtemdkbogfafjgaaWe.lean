/- Parts UjQ, UjL, UjM, UjN, UjO, VwG of the proof, one behind the other. No statement is proved here. -/
import Derived.Test.YtemdkbogfafjgaaW8
import Derived.Test.YtemdkbogfafjgaaW9
import Derived.Test.YtemdkbogfafjgaaW4
import Derived.Test.YtemdkbogfafjgaaW6
import Derived.Test.YtemdkbogfafjgaaWa
/- Contracts of the annals functions: annals whose reports the caller may change. -/
namespace Go.Am
open Go.RowKit Go.Proofs
attribute [local irreducible] AWP CallS Kt goK CallK stepK evOps SemF SemY Imp
set_option maxRecDepth 4000
set_option linter.unusedSimpArgs false
set_option linter.unusedVariables false
set_option maxHeartbeats 1600000
theorem annals_o (t : Ann) (hb : annOK t) : SemF Try.prog 19 [.agg (annC t)] [] (.agg [.osl 3 t.reports.length 0 t.reports.length, slC t.claims, .int .i64 t.rest]) [none, none, none, some (.cells 58 3 t.reports.length (recs rptC t.reports))] := by
  obtain ⟨hb1, hb2⟩ := hb
  (refine semF_of_awp (ys := [.agg [.osl 3 t.reports.length 0 t.reports.length, slC t.claims, .int .i64 t.rest]]) (fun w args => Try.call19 ..) Try.func19 rfl (fun w0 m0 wz => ?_); simp only [Try.ntmps19, Try.results19, initT, junks, rptC, clmC, slR, slC, annC, sl, List.toList_toArray, List.cons_append, List.nil_append, List.length_cons, List.length_nil, Nat.reduceAdd, Nat.reduceSub])
  (repeat' (first
    | (refine awp_seqK ?_)
    | (refine kt ?_)
    | (refine And.intro ?_ ?_)
    | ((first | refine awp_region ?_ | refine awp_draw (by kernel_rfl) (by kernel_rfl) ?_ | refine Imp.le2 ?_ | refine awp_label ?_ | refine awp_skip ?_ | refine awp_exit ?_ | refine awp_cd ?_ | refine awp_ret ?_ | refine go_split (fun _h => ?_) (fun _h => ?_)) <;> try simp (maxSteps := 4000000) only [go_sem, seval])
    | (intro _h)
    | (refine awp_block ?_)
    | (refine awp_scope ?_)
    | (refine cond_b (fun _h => ?_) (fun _h => ?_))
    | (show heapOK _ _ = true; kernel_rfl)
    | (show heapOK2 _ _ = true; kernel_rfl)
    | (omega)))
  refine awp_adH 2 0 58 3 rfl rfl ?_
  simp only [adH, hget, hset, lset, List.length_cons, List.length_nil, Nat.reduceAdd]
  refine awp_adH 2 1 73 3 rfl rfl ?_
  simp only [adH, hget, hset, lset, List.length_cons, List.length_nil, Nat.reduceAdd]
  refine awp_loopN t.reports.length (fun k => ⟨mkT 69 [(1, .ptr 0 0 0), (2, .ptr 1 0 0), (3, .ptr 2 0 0), (4, .int .i64 k)], [some (.cells 25 1 0 (annC t)), some (.cells 35 1 0 [.nils, .nils, .int .i64 0]), some (.cells 35 1 0 [.osl 3 k 0 k, .osl 4 0 0 0, .int .i64 t.rest]), some (.cells 58 3 k (recs rptC (t.reports.take k))), some (.cells 73 3 0 [])], []⟩) (.le2 ?_) ?_
  · simp only [annC, slR, slC]; simp (maxSteps := 4000000) only [go_sem, seval]
    rfl
  · intro k hk
    rcases Nat.lt_or_eq_of_le hk with hk1 | hk1
    · have hlt : (t.reports.take k).length = k := by simp; omega
      have hsn := recs_take (enc := rptC) (d := default) hk1
      simp only [rptC] at hsn
      simp only [annC, slR, slC]; simp (maxSteps := 4000000) only [go_sem, seval]
      (repeat' (first
    | ((omega))
    | (refine awp_seqK ?_)
    | (refine kt ?_)
    | (refine And.intro ?_ ?_)
    | ((first | refine awp_region ?_ | refine awp_draw (by kernel_rfl) (by kernel_rfl) ?_ | refine Imp.le2 ?_ | refine awp_label ?_ | refine awp_skip ?_ | refine awp_exit ?_ | refine awp_cd ?_ | refine awp_ret ?_ | refine go_split (fun _h => ?_) (fun _h => ?_)) <;> try simp (maxSteps := 4000000) only [go_sem, seval, hlt, hsn])
    | (intro _h)
    | (refine awp_block ?_)
    | (refine awp_scope ?_)
    | (refine cond_b (fun _h => ?_) (fun _h => ?_))
    | (show heapOK _ _ = true; kernel_rfl)
    | (show heapOK2 _ _ = true; kernel_rfl)
    | (omega)))
      all_goals trace_state
    · subst hk1
      have hlt : (t.reports.take t.reports.length) = t.reports := by simp
      simp only [annC, slR, slC]; simp (maxSteps := 4000000) only [go_sem, seval, hlt]
      (repeat' (first
    | ((exfalso; omega))
    | (refine awp_seqK ?_)
    | (refine kt ?_)
    | (refine And.intro ?_ ?_)
    | ((first | refine awp_region ?_ | refine awp_draw (by kernel_rfl) (by kernel_rfl) ?_ | refine Imp.le2 ?_ | refine awp_label ?_ | refine awp_skip ?_ | refine awp_exit ?_ | refine awp_cd ?_ | refine awp_ret ?_ | refine go_split (fun _h => ?_) (fun _h => ?_)) <;> try simp (maxSteps := 4000000) only [go_sem, seval, hlt])
    | (intro _h)
    | (refine awp_block ?_)
    | (refine awp_scope ?_)
    | (refine cond_b (fun _h => ?_) (fun _h => ?_))
    | (show heapOK _ _ = true; kernel_rfl)
    | (show heapOK2 _ _ = true; kernel_rfl)
    | (omega)))
      refine awp_loopN t.claims.length (fun k => ⟨mkT 69 [(1, .ptr 0 0 0), (2, .ptr 1 0 0), (3, .ptr 2 0 0), (6, .int .i64 k)], [some (.cells 25 1 0 (annC t)), some (.cells 35 1 0 [.nils, .nils, .int .i64 0]), some (.cells 35 1 0 [.osl 3 t.reports.length 0 t.reports.length, .osl 4 k 0 k, .int .i64 t.rest]), some (.cells 58 3 t.reports.length (recs rptC t.reports)), some (.cells 73 3 k (recs clmC (t.claims.take k)))], []⟩) (.le2 ?_) ?_
      · simp only [annC, slR, slC]; simp (maxSteps := 4000000) only [go_sem, seval]
        rfl
      · intro k hk
        rcases Nat.lt_or_eq_of_le hk with hk1 | hk1
        · have hlt : (t.claims.take k).length = k := by simp; omega
          have hsn := recs_take (enc := clmC) (d := default) hk1
          simp only [clmC] at hsn
          simp only [annC, slR, slC]; simp (maxSteps := 4000000) only [go_sem, seval]
          (repeat' (first
    | ((omega))
    | (refine awp_seqK ?_)
    | (refine kt ?_)
    | (refine And.intro ?_ ?_)
    | ((first | refine awp_region ?_ | refine awp_draw (by kernel_rfl) (by kernel_rfl) ?_ | refine Imp.le2 ?_ | refine awp_label ?_ | refine awp_skip ?_ | refine awp_exit ?_ | refine awp_cd ?_ | refine awp_ret ?_ | refine go_split (fun _h => ?_) (fun _h => ?_)) <;> try simp (maxSteps := 4000000) only [go_sem, seval, hlt, hsn])
    | (intro _h)
    | (refine awp_block ?_)
    | (refine awp_scope ?_)
    | (refine cond_b (fun _h => ?_) (fun _h => ?_))
    | (show heapOK _ _ = true; kernel_rfl)
    | (show heapOK2 _ _ = true; kernel_rfl)
    | (omega)))
          all_goals trace_state
        · subst hk1
          have hlt : (t.claims.take t.claims.length) = t.claims := by simp
          simp only [annC, slR, slC]; simp (maxSteps := 4000000) only [go_sem, seval, hlt]
          (repeat' (first
    | (refine awp_frz (c := .region 11 _ _) 4 rfl (by simp (maxSteps := 4000000) only [go_sem, seval, hlt]) (fun _ => rfl) ?_; simp only [frz, fq_pure, fzB_c, fzB_m, fzB_d, fzB_l, fzO, fzH, fzHs, fzl, fz2, fz1, fz0, List.map_cons, List.map_nil, if_true, if_false, reduceIte, Nat.reduceEqDiff, Nat.reduceAdd, Nat.succ_ne_self, Nat.zero_ne_one, Nat.one_ne_zero, reduceCtorEq, and_self])
    | ((exfalso; omega))
    | (refine awp_seqK ?_)
    | (refine kt ?_)
    | (refine And.intro ?_ ?_)
    | ((first | refine awp_region ?_ | refine awp_draw (by kernel_rfl) (by kernel_rfl) ?_ | refine Imp.le2 ?_ | refine awp_label ?_ | refine awp_skip ?_ | refine awp_exit ?_ | refine awp_cd ?_ | refine awp_ret ?_ | refine go_split (fun _h => ?_) (fun _h => ?_)) <;> try simp (maxSteps := 4000000) only [go_sem, seval, hlt])
    | (intro _h)
    | (refine awp_block ?_)
    | (refine awp_scope ?_)
    | (refine cond_b (fun _h => ?_) (fun _h => ?_))
    | (show heapOK _ _ = true; kernel_rfl)
    | (show heapOK2 _ _ = true; kernel_rfl)
    | (omega)))
          all_goals trace_state
theorem sp_when {l : List Rpt} {k : Nat} {a b : Int} (h : k < l.length) : splice (recs rptC l) (k * 3 + 1) [.int .i64 a, .int .i64 b] = recs rptC (isp l k ⟨(l.getD k default).slope, a, b⟩) := by
  have e : l = l.take k ++ l.getD k default :: l.drop (k + 1) := by
    have h1 : l.getD k default = l[k] := by simp [List.getD_eq_getElem?_getD, h]
    rw [h1, ← List.drop_eq_getElem_cons h, List.take_append_drop]
  have hr : ∀ x y : List Rpt, recs rptC (x ++ y) = recs rptC x ++ recs rptC y := fun x y => by simp [recs]
  have hc : ∀ (x : Rpt) (y : List Rpt), recs rptC (x :: y) = .int .i64 x.slope :: .int .i64 x.lo :: .int .i64 x.hi :: recs rptC y := fun x y => by simp [recs, rptC]
  have hl : (recs rptC (l.take k)).length = k * 3 := by rw [len_R, List.length_take, Nat.min_eq_left (by omega)]
  have e2 : recs rptC l = recs rptC (l.take k) ++ (.int .i64 (l.getD k default).slope :: .int .i64 (l.getD k default).lo :: .int .i64 (l.getD k default).hi :: recs rptC (l.drop (k + 1))) := by
    conv => lhs; rw [e, hr, hc]
  rw [e2]
  simp only [splice, isp, hr, hc, List.length_cons, List.length_nil]
  rw [← hl, List.take_length_add_append, show (recs rptC (l.take k)).length + 1 + (0 + 1 + 1) = (recs rptC (l.take k)).length + 3 by omega, List.drop_length_add_append]
  simp
end Go.Am

/- Plain words for the law AnnalsTruth: slides that there truly were are a right chronicle. No program is in sight. -/
namespace Go.Am
open Go.RowKit Go.Proofs
set_option linter.unusedSimpArgs false
set_option linter.unusedVariables false
/-- How far slides of one slope are apart. -/
def gapA (t : Ann) : Int := max 1 t.rest
def slp (t : Ann) (i : Nat) : Int := (rp t i).slope
def wordA (ws : List Int) (i : Nat) : Int := if ws.length = 0 then 0 else ws.getD (i % ws.length) 0
def cfl (t : Ann) (i : Nat) (D : List Int) (d : Int) (n : Nat) : Prop := slp t n = slp t i ∧ max (d - D.getD n 0) (D.getD n 0 - d) < gapA t
instance {t : Ann} {i : Nat} {D : List Int} {d : Int} {n : Nat} : Decidable (cfl t i D d n) := by unfold cfl; infer_instance
def dayIn (t : Ann) (i : Nat) (D : List Int) (d : Int) : Nat → Int
  | 0 => d
  | n + 1 => if cfl t i D (dayIn t i D d n) n then D.getD n 0 + gapA t else dayIn t i D d n
def dayOut (t : Ann) (i : Nat) (D : List Int) (d : Int) : Nat → Int
  | 0 => d
  | k + 1 => dayIn t i D (dayOut t i D d k) D.length
/-- Slides, days, and the next number. -/
structure Hap where
  C : List Int
  D : List Int
  nx : Int
def hapS (t : Ann) (ws : List Int) (i : Nat) (h : Hap) : Hap :=
  if wordA ws i % 3 = 0 ∧ 0 < i ∧ slp t (((wordA ws i) / 3).toNat % i) = slp t i then ⟨h.C ++ [h.C.getD ((wordA ws i / 3).toNat % i) 0], h.D ++ [h.D.getD ((wordA ws i / 3).toNat % i) 0], h.nx⟩
  else ⟨h.C ++ [h.nx], h.D ++ [dayOut t i h.D (wordA ws i % 1000) h.D.length], h.nx + 1⟩
def hapK (t : Ann) (ws : List Int) : Nat → Hap
  | 0 => ⟨[], [], 0⟩
  | i + 1 => hapS t ws i (hapK t ws i)
section
variable {t : Ann} {i : Nat} {D : List Int}
theorem dayIn_ge {d : Int} : ∀ n, d ≤ dayIn t i D d n
  | 0 => Int.le_refl _
  | n + 1 => by
    have ih := dayIn_ge (d := d) n
    simp only [dayIn]
    split
    · rename_i h; unfold cfl at h; omega
    · exact ih
theorem dayIn_eq {d : Int} : ∀ n, dayIn t i D d n = d → ∀ m, m < n → ¬ cfl t i D d m
  | 0, _, m, hm => by omega
  | n + 1, h, m, hm => by
    have hg := dayIn_ge (t := t) (i := i) (D := D) (d := d) n
    simp only [dayIn] at h
    split at h
    · rename_i hc; unfold cfl at hc; omega
    · rename_i hc
      by_cases e : m = n
      · subst e; rw [h] at hc; exact hc
      · exact dayIn_eq n h m (by omega)
theorem dayIn_fix {d : Int} : ∀ n, (∀ m, m < n → ¬ cfl t i D d m) → dayIn t i D d n = d
  | 0, _ => rfl
  | n + 1, h => by
    have ih := dayIn_fix n fun m hm => h m (by omega)
    simp only [dayIn]
    rw [ih, if_neg (h n (by omega))]
theorem dayIn_ne {d : Int} : ∀ n, dayIn t i D d n ≠ d → ∃ m, m < n ∧ d < D.getD m 0 + gapA t ∧ D.getD m 0 + gapA t ≤ dayIn t i D d n
  | 0, h => absurd rfl h
  | n + 1, h => by
    have hg := dayIn_ge (t := t) (i := i) (D := D) (d := d) n
    simp only [dayIn] at h ⊢
    split at h
    · rename_i hc
      rw [if_pos hc]
      unfold cfl at hc
      exact ⟨n, by omega, by omega, Int.le_refl _⟩
    · rename_i hc
      rw [if_neg hc]
      obtain ⟨m, hm, h1⟩ := dayIn_ne n h
      exact ⟨m, by omega, h1⟩
theorem dayIn_le {d B : Int} (hd : d ≤ B) : ∀ n, (∀ m, m < n → D.getD m 0 + gapA t ≤ B) → dayIn t i D d n ≤ B
  | 0, _ => hd
  | n + 1, h => by
    have ih := dayIn_le hd n fun m hm => h m (by omega)
    simp only [dayIn]
    split
    · exact h n (by omega)
    · exact ih
def cntD (t : Ann) (D : List Int) (d : Int) : Nat → Nat
  | 0 => 0
  | n + 1 => cntD t D d n + (if D.getD n 0 + gapA t ≤ d then 1 else 0)
theorem cntD_mono {d e : Int} (h : d ≤ e) : ∀ n, cntD t D d n ≤ cntD t D e n
  | 0 => Nat.le_refl _
  | n + 1 => by
    have ih := cntD_mono h n
    simp only [cntD]
    split <;> split <;> omega
theorem cntD_le {d : Int} : ∀ n, cntD t D d n ≤ n
  | 0 => Nat.le_refl _
  | n + 1 => by
    have ih := cntD_le (d := d) n
    simp only [cntD]
    split <;> omega
theorem cntD_lt {d e : Int} (h : d ≤ e) {m : Nat} (h1 : d < D.getD m 0 + gapA t) (h2 : D.getD m 0 + gapA t ≤ e) : ∀ n, m < n → cntD t D d n < cntD t D e n
  | 0, hm => by omega
  | n + 1, hm => by
    have hmo := cntD_mono (t := t) (D := D) h n
    simp only [cntD]
    by_cases e2 : m = n
    · subst e2
      rw [if_neg (by omega), if_pos h2]; omega
    · have ih := cntD_lt h h1 h2 n (by omega)
      split <;> split <;> omega
theorem cntD_all {d : Int} : ∀ n, n ≤ cntD t D d n → ∀ m, m < n → D.getD m 0 + gapA t ≤ d
  | 0, _, m, hm => by omega
  | n + 1, h, m, hm => by
    have hl := cntD_le (t := t) (D := D) (d := d) n
    simp only [cntD] at h
    split at h
    · rename_i hc
      by_cases e : m = n
      · subst e; exact hc
      · exact cntD_all n (by omega) m (by omega)
    · omega
theorem dayOut_ge {d : Int} : ∀ k, d ≤ dayOut t i D d k
  | 0 => Int.le_refl _
  | k + 1 => Int.le_trans (dayOut_ge k) (dayIn_ge _)
theorem dayOut_le {d B : Int} (hd : d ≤ B) (h : ∀ m, m < D.length → D.getD m 0 + gapA t ≤ B) : ∀ k, dayOut t i D d k ≤ B
  | 0 => hd
  | k + 1 => dayIn_le (dayOut_le hd h k) _ h
theorem dayOut_pass {d : Int} : ∀ k, (∀ m, m < D.length → ¬ cfl t i D (dayOut t i D d k) m) ∨ k ≤ cntD t D (dayOut t i D d k) D.length
  | 0 => .inr (Nat.zero_le _)
  | k + 1 => by
    rcases dayOut_pass (d := d) k with h | h
    · left
      simp only [dayOut]
      rw [dayIn_fix D.length h]; exact h
    · simp only [dayOut]
      by_cases e : dayIn t i D (dayOut t i D d k) D.length = dayOut t i D d k
      · left; rw [e]; exact dayIn_eq D.length e
      · right
        obtain ⟨m, hm, h1, h2⟩ := dayIn_ne D.length e
        have := cntD_lt (t := t) (D := D) (dayIn_ge (t := t) (i := i) (D := D) (d := dayOut t i D d k) D.length) h1 h2 D.length hm
        omega
theorem dayOut_far {d : Int} {m : Nat} (hm : m < D.length) : ¬ cfl t i D (dayOut t i D d D.length) m := by
  rcases dayOut_pass (t := t) (i := i) (D := D) (d := d) D.length with h | h
  · exact h m hm
  · have := cntD_all D.length h m hm
    unfold cfl
    omega
end
structure HapP (t : Ann) (i : Nat) (h : Hap) : Prop where
  lc : h.C.length = i
  ld : h.D.length = i
  num : NumP h.C i
  nx : nxK h.C i = h.nx
  bd : ∀ j, j < i → 0 ≤ h.D.getD j 0 ∧ h.D.getD j 0 ≤ 1000 + 10000 * (j : Int)
  lt : ∀ j, j < i → h.C.getD j 0 < h.nx
  same : ∀ j k, j < i → k < i → h.C.getD j 0 = h.C.getD k 0 → slp t j = slp t k ∧ h.D.getD j 0 = h.D.getD k 0
  gap : ∀ j k, j < i → k < i → h.C.getD j 0 ≠ h.C.getD k 0 → slp t j = slp t k → gapA t ≤ max (h.D.getD j 0 - h.D.getD k 0) (h.D.getD k 0 - h.D.getD j 0)
theorem sn_get {l : List Int} {v : Int} {i j : Nat} (hl : l.length = i) : (l ++ [v]).getD j 0 = if j < i then l.getD j 0 else if j = i then v else 0 := by
  simp only [List.getD_eq_getElem?_getD]
  by_cases h : j < i
  · rw [if_pos h, List.getElem?_append_left (by omega)]
  · rw [if_neg h, List.getElem?_append_right (by omega), hl]
    by_cases e : j = i
    · rw [if_pos e, e, Nat.sub_self]; rfl
    · rw [if_neg e]
      obtain ⟨d, hd⟩ : ∃ d, j - i = d + 1 := ⟨j - i - 1, by omega⟩
      rw [hd]; rfl
theorem nxK_cong {s s' : List Int} : ∀ k, (∀ i, i < k → s.getD i 0 = s'.getD i 0) → nxK s k = nxK s' k
  | 0, _ => rfl
  | k + 1, h => by
    have ih := nxK_cong k fun i hi => h i (by omega)
    simp only [nxK]; rw [ih, h k (by omega)]
theorem HapP.step {t : Ann} {i : Nat} {h : Hap} (hp : HapP t i h) {c d : Int} {nx' : Int} (hc : 0 ≤ c ∧ c ≤ h.nx) (hnx : nx' = if c = h.nx then h.nx + 1 else h.nx) (hd : 0 ≤ d ∧ d ≤ 1000 + 10000 * (i : Int))
    (hs : ∀ k, k < i → c = h.C.getD k 0 → slp t i = slp t k ∧ d = h.D.getD k 0) (hg : ∀ k, k < i → c ≠ h.C.getD k 0 → slp t i = slp t k → gapA t ≤ max (d - h.D.getD k 0) (h.D.getD k 0 - d)) : HapP t (i + 1) ⟨h.C ++ [c], h.D ++ [d], nx'⟩ := by
  have gc := fun j => sn_get (l := h.C) (v := c) (j := j) hp.lc
  have gd := fun j => sn_get (l := h.D) (v := d) (j := j) hp.ld
  have gl : ∀ j, j < i → (h.C ++ [c]).getD j 0 = h.C.getD j 0 := fun j hj => by rw [gc, if_pos hj]
  have gm : ∀ j, j < i → (h.D ++ [d]).getD j 0 = h.D.getD j 0 := fun j hj => by rw [gd, if_pos hj]
  have gci : (h.C ++ [c]).getD i 0 = c := by rw [gc, if_neg (Nat.lt_irrefl _), if_pos rfl]
  have gdi : (h.D ++ [d]).getD i 0 = d := by rw [gd, if_neg (Nat.lt_irrefl _), if_pos rfl]
  have hnk : ∀ k, k ≤ i → nxK (h.C ++ [c]) k = nxK h.C k := fun k hk => nxK_cong k fun j hj => gl j (by omega)
  have sp : ∀ j, j < i + 1 → j < i ∨ j = i := fun j hj => by omega
  refine ⟨by simp [hp.lc], by simp [hp.ld], fun j hj => ?_, ?_, fun j hj => ?_, fun j hj => ?_, fun j k hj hk he => ?_, fun j k hj hk hne he => ?_⟩
  · simp only
    rcases sp j hj with hj | rfl
    · rw [gl j hj, hnk j (by omega)]; exact hp.num j hj
    · rw [gci, hnk _ (Nat.le_refl _), hp.nx]; exact hc
  · simp only [nxK]; rw [hnk i (Nat.le_refl _), gci, hp.nx, hnx]
  · simp only
    rcases sp j hj with hj | rfl
    · rw [gm j hj]; exact hp.bd j hj
    · rw [gdi]; exact hd
  · simp only
    rcases sp j hj with hj | rfl
    · rw [gl j hj]; have := hp.lt j hj; rw [hnx]; split <;> omega
    · rw [gci, hnx]; split <;> omega
  · simp only at he ⊢
    rcases sp j hj with hj | rfl <;> rcases sp k hk with hk | rfl
    · rw [gl j hj, gl k hk] at he; rw [gm j hj, gm k hk]; exact hp.same j k hj hk he
    · rw [gl j hj, gci] at he; rw [gm j hj, gdi]
      have := hs j hj he.symm
      exact ⟨this.1.symm, this.2.symm⟩
    · rw [gl k hk, gci] at he; rw [gm k hk, gdi]; exact hs k hk he
    · exact ⟨rfl, rfl⟩
  · simp only at hne ⊢
    rcases sp j hj with hj | rfl <;> rcases sp k hk with hk | rfl
    · rw [gl j hj, gl k hk] at hne; rw [gm j hj, gm k hk]; exact hp.gap j k hj hk hne he
    · rw [gl j hj, gci] at hne; rw [gm j hj, gdi]
      have := hg j hj (fun e => hne e.symm) he.symm
      omega
    · rw [gl k hk, gci] at hne; rw [gm k hk, gdi]; exact hg k hk hne he
    · exact absurd rfl hne
theorem wordA_bd {ws : List Int} (hw : ∀ x ∈ ws, 0 ≤ x ∧ x ≤ 65535) (i : Nat) : 0 ≤ wordA ws i ∧ wordA ws i ≤ 65535 := by
  unfold wordA
  split
  · omega
  · rename_i h
    have hlt := Nat.mod_lt i (show 0 < ws.length by omega)
    refine hw _ ?_
    rw [List.getD_eq_getElem?_getD, List.getElem?_eq_getElem hlt]; exact List.getElem_mem hlt
theorem hapK_ok {t : Ann} {ws : List Int} (hw : ∀ x ∈ ws, 0 ≤ x ∧ x ≤ 65535) (hr : 0 ≤ t.rest ∧ t.rest ≤ 10000) : ∀ i, HapP t i (hapK t ws i)
  | 0 => ⟨rfl, rfl, fun j hj => by omega, rfl, fun j hj => by omega, fun j hj => by omega, fun j k hj => by omega, fun j k hj => by omega⟩
  | i + 1 => by
    have ih := hapK_ok (ws := ws) hw hr i
    have hwb := wordA_bd hw i
    have hg : 1 ≤ gapA t ∧ gapA t ≤ 10000 := by unfold gapA; omega
    simp only [hapK, hapS]
    generalize hapK t ws i = h at *
    have hnx := nxK_bd (s := h.C) i
    rw [ih.nx] at hnx
    split
    · rename_i hc
      have hk := Nat.mod_lt ((wordA ws i / 3).toNat) hc.2.1
      generalize (wordA ws i / 3).toNat % i = k at *
      have hl := ih.lt k hk
      have hn := ih.num k hk
      have hb := ih.bd k hk
      refine ih.step (by omega) (by rw [if_neg (by omega)]) (by omega) (fun j hj e => ?_) (fun j hj hne he => ?_)
      · have := ih.same k j hk hj e
        exact ⟨hc.2.2.symm.trans this.1, this.2⟩
      · exact ih.gap k j hk hj hne (hc.2.2.trans he)
    · have hd1 : 0 ≤ wordA ws i % 1000 ∧ wordA ws i % 1000 ≤ 999 := by omega
      have hge := dayOut_ge (t := t) (i := i) (D := h.D) (d := wordA ws i % 1000) h.D.length
      have hle := dayOut_le (t := t) (i := i) (D := h.D) (d := wordA ws i % 1000) (B := 1000 + 10000 * (i : Int)) (by omega) (fun m hm => by
        rw [ih.ld] at hm
        have := ih.bd m hm
        omega) h.D.length
      refine ih.step ⟨hnx.1, Int.le_refl _⟩ (by rw [if_pos rfl]) (by omega) (fun j hj e => ?_) (fun j hj hne he => ?_)
      · have := ih.lt j hj; omega
      · have := dayOut_far (t := t) (i := i) (D := h.D) (d := wordA ws i % 1000) (m := j) (by rw [ih.ld]; exact hj)
        unfold cfl at this
        have h3 : ¬ max (dayOut t i h.D (wordA ws i % 1000) h.D.length - h.D.getD j 0) (h.D.getD j 0 - dayOut t i h.D (wordA ws i % 1000) h.D.length) < gapA t := fun h4 => this ⟨he.symm, h4⟩
        omega
def word2 (ws : List Int) (i : Nat) : Int := if ws.length = 0 then 7 * (i : Int) else ws.getD ((i + 3) % ws.length) 0
def truR (ws : List Int) (D : List Int) (t : Ann) (i : Nat) : Rpt := ⟨slp t i, max 0 (D.getD i 0 - word2 ws i % 50), min 100000 (D.getD i 0 + word2 ws i / 50 % 50)⟩
def truB (h : Hap) (c : Clm) : Bool := (decide (c.kind = 0) && decide (h.D.getD c.a.toNat 0 < h.D.getD c.b.toNat 0)) || (decide (c.kind = 1) && decide (h.C.getD c.a.toNat 0 = h.C.getD c.b.toNat 0)) || (decide (c.kind = 2) && !decide (h.C.getD c.a.toNat 0 = h.C.getD c.b.toNat 0))
def truC (h : Hap) (t : Ann) : Nat → List Clm
  | 0 => []
  | k + 1 => if truB h (t.claims.getD k default) = true then truC h t k ++ [t.claims.getD k default] else truC h t k
def truA (ws : List Int) (h : Hap) (t : Ann) : Ann := ⟨tab t.reports.length (truR ws h.D t), truC h t t.claims.length, t.rest⟩
theorem truC_len {h : Hap} {t : Ann} : ∀ k, (truC h t k).length ≤ k
  | 0 => Nat.le_refl _
  | k + 1 => by
    have ih := truC_len (h := h) (t := t) k
    simp only [truC]; split <;> simp <;> omega
theorem truC_mem {h : Hap} {t : Ann} {c : Clm} : ∀ {k}, c ∈ truC h t k → k ≤ t.claims.length → c ∈ t.claims ∧ truB h c = true
  | 0, hc, _ => by cases hc
  | k + 1, hc, hk => by
    simp only [truC] at hc
    split at hc
    · rename_i hb
      rcases List.mem_append.1 hc with hc | hc
      · exact truC_mem hc (by omega)
      · have : c = t.claims.getD k default := by simpa using hc
        subst this
        refine ⟨?_, hb⟩
        rw [List.getD_eq_getElem?_getD, List.getElem?_eq_getElem (by omega)]; exact List.getElem_mem _
    · exact truC_mem hc (by omega)
theorem tab_getR {n : Nat} {f : Nat → Rpt} {i : Nat} (h : i < n) : (tab n f).getD i default = f i := by
  simp [tab, List.getD_eq_getElem?_getD, h]
section
variable {t : Ann} {ws : List Int} {h : Hap}
theorem tru_len : (truA ws h t).reports.length = t.reports.length := tab_length
theorem tru_rp {i : Nat} (hi : i < t.reports.length) : rp (truA ws h t) i = truR ws h.D t i := tab_getR hi
theorem word2_bd (hw : ∀ x ∈ ws, 0 ≤ x ∧ x ≤ 65535) (i : Nat) : 0 ≤ word2 ws i ∧ (i ≤ 10 → word2 ws i ≤ 65535) := by
  unfold word2
  split
  · omega
  · rename_i h
    have hlt := Nat.mod_lt (i + 3) (show 0 < ws.length by omega)
    have : ws.getD ((i + 3) % ws.length) 0 ∈ ws := by rw [List.getD_eq_getElem?_getD, List.getElem?_eq_getElem hlt]; exact List.getElem_mem hlt
    have := hw _ this
    exact ⟨this.1, fun _ => this.2⟩
theorem tru_fault (hw : ∀ x ∈ ws, 0 ≤ x ∧ x ≤ 65535) (h0 : faultA t = 0) (hb : ∀ i, i < t.reports.length → 0 ≤ h.D.getD i 0 ∧ h.D.getD i 0 ≤ 100000) : faultA (truA ws h t) = 0 := by
  unfold faultA at h0 ⊢
  have hre : (truA ws h t).rest = t.rest := rfl
  have hcl : (truA ws h t).claims = truC h t t.claims.length := rfl
  have hl := truC_len (h := h) (t := t) t.claims.length
  rw [hre, tru_len, hcl]
  split at h0
  · omega
  · rename_i h1
    rw [if_neg (by omega)]
    split at h0
    · omega
    · rename_i h2
      have hR : t.reports.all rptB = true := by
        cases hr : t.reports.all rptB with
        | true => rfl
        | false => exact absurd (.inr (.inl hr)) h2
      have hC : t.claims.all (clmB t) = true := by
        cases hr : t.claims.all (clmB t) with
        | true => rfl
        | false => exact absurd (.inr (.inr hr)) h2
      rw [if_neg]
      rintro (h4 | h4 | h4)
      · exact h2 (.inl h4)
      · have : (truA ws h t).reports.all rptB = true := by
          rw [List.all_eq_true]
          intro x hx
          obtain ⟨i, hi, rfl⟩ := List.mem_iff_getElem.1 hx
          have e : (truA ws h t).reports[i] = rp (truA ws h t) i := by unfold rp; rw [List.getD_eq_getElem?_getD, List.getElem?_eq_getElem hi]; rfl
          rw [tru_len] at hi
          rw [e, tru_rp hi]
          have h5 : rptB (t.reports.getD i default) = true := List.all_eq_true.1 hR _ (by rw [List.getD_eq_getElem?_getD, List.getElem?_eq_getElem hi]; exact List.getElem_mem hi)
          unfold rptB at h5 ⊢
          have h6 := of_decide_eq_true h5
          have h7 := hb i hi
          have h8 := word2_bd hw i
          apply decide_eq_true
          simp only [truR, slp, rp]
          omega
        rw [this] at h4; cases h4
      · have : (truC h t t.claims.length).all (clmB (truA ws h t)) = true := by
          rw [List.all_eq_true]
          intro c hc
          have := List.all_eq_true.1 hC c (truC_mem hc (Nat.le_refl _)).1
          unfold clmB inxB at this ⊢
          rw [tru_len]; exact this
        rw [this] at h4; cases h4
theorem tru_kd (hkd : ∀ c ∈ t.claims, 0 ≤ c.kind) : ∀ c ∈ (truA ws h t).claims, 0 ≤ c.kind := fun c hc => hkd c (truC_mem hc (Nat.le_refl _)).1
theorem tru_chr (hw : ∀ x ∈ ws, 0 ≤ x ∧ x ≤ 65535) (ht : AnnOK t) (hp : HapP t t.reports.length h) (hb : ∀ i, i < t.reports.length → h.D.getD i 0 ≤ 100000) : Chr (truA ws h t) (fun i => h.C.getD i 0) (fun i => h.D.getD i 0) := by
  have hg : gapA t = max t.rest 1 := by unfold gapA; omega
  have hcm : ∀ j, j < (truA ws h t).claims.length → cl (truA ws h t) j ∈ t.claims ∧ truB h (cl (truA ws h t) j) = true := fun j hj => by
    have : cl (truA ws h t) j ∈ truC h t t.claims.length := cl_mem hj
    exact truC_mem this (Nat.le_refl _)
  have hkb : ∀ c ∈ t.claims, 0 ≤ c.kind ∧ c.kind ≤ 2 := fun c hc => by
    obtain ⟨j, hj, rfl⟩ := List.mem_iff_getElem.1 hc
    have := (ht.clm j hj).1
    rw [List.getD_eq_getElem?_getD, List.getElem?_eq_getElem hj] at this
    exact this
  refine ⟨fun i hi => ?_, fun i k hi hk he => ?_, fun i k hi hk hne he => ?_, fun j hj hk => ?_, fun j hj hk => ?_, fun j hj hk hk2 => ?_⟩
  · rw [tru_len] at hi
    rw [tru_rp hi]
    have h8 := word2_bd hw i
    have := hp.bd i hi
    have := hb i hi
    simp only [truR]
    omega
  · rw [tru_len] at hi hk
    rw [tru_rp hi, tru_rp hk]
    exact hp.same i k hi hk he
  · rw [tru_len] at hi hk
    rw [tru_rp hi, tru_rp hk] at he
    have := hp.gap i k hi hk hne he
    rw [hg] at this
    show _ + max t.rest 1 ≤ _ ∨ _ + max t.rest 1 ≤ _
    omega
  · obtain ⟨h1, h2⟩ := hcm j hj
    unfold truB at h2
    rw [hk] at h2
    simpa using h2
  · obtain ⟨h1, h2⟩ := hcm j hj
    unfold truB at h2
    rw [hk] at h2
    simpa using h2
  · obtain ⟨h1, h2⟩ := hcm j hj
    have h3 := hkb _ h1
    unfold truB at h2
    have hk3 : (cl (truA ws h t) j).kind = 2 := by omega
    rw [hk3] at h2
    simpa using h2
end
end Go.Am

/- Contracts of the annals functions: happened. -/
namespace Go.Am
open Go.RowKit Go.Proofs
attribute [local irreducible] AWP CallS Kt goK CallK stepK evOps SemF SemY Imp
set_option maxRecDepth 4000
set_option linter.unusedSimpArgs false
set_option linter.unusedVariables false
set_option maxHeartbeats 1600000
def u16s (l : List Int) : List AV := l.map fun n => .int .u16 n
def slU (l : List Int) : AV := .psl false l.length (u16s l)
theorem u16s_length {l : List Int} : (u16s l).length = l.length := by simp [u16s]
theorem u16s_nth {l : List Int} {i : Nat} (h : i < l.length) {K : AV → Prop} : optK (nth (u16s l) i) K = K (.int .u16 (l.getD i 0)) := by
  rw [← nth_is]
  simp [u16s, h, optK, List.getD_eq_getElem?_getD]
theorem happened_c (t : Ann) (ws : List Int) (ht : AnnOK t) (hrest : t.rest ≤ 10000) (hw : ∀ x ∈ ws, 0 ≤ x ∧ x ≤ 65535) (hwl : ws.length ≤ 9223372036854775807) : CallS Try.prog 42 [.agg (annC t), slU ws] (.agg [.psl false t.reports.length (ints (hapK t ws t.reports.length).C), .psl false t.reports.length (ints (hapK t ws t.reports.length).D)]) := by
  have hr := ht.reports
  simp only [annC, slR, slC, slU]
  (refine callS_of_awp (fun w args => Try.call42 ..) Try.func42 rfl (fun w0 m0 wz => ?_); simp only [Try.ntmps42, Try.results42, initT, junks, rptC, clmC, slR, slC, annC, sl, List.toList_toArray, List.cons_append, List.nil_append, List.length_cons, List.length_nil, Nat.reduceAdd, Nat.reduceSub])
  (repeat' (first
    | ((omega))
    | ((exfalso; omega))
    | (refine awp_seqK ?_)
    | (refine kt ?_)
    | (refine And.intro ?_ ?_)
    | ((first | refine awp_region ?_ | refine awp_draw (by kernel_rfl) (by kernel_rfl) ?_ | refine Imp.le2 ?_ | refine awp_label ?_ | refine awp_skip ?_ | refine awp_exit ?_ | refine awp_cd ?_ | refine awp_ret ?_ | refine go_split (fun _h => ?_) (fun _h => ?_)) <;> try simp (maxSteps := 4000000) only [go_sem, seval])
    | (intro _h)
    | (refine awp_block ?_)
    | (refine awp_scope ?_)
    | (refine cond_b (fun _h => ?_) (fun _h => ?_))
    | (show heapOK _ _ = true; kernel_rfl)
    | (show heapOK2 _ _ = true; kernel_rfl)
    | (omega)))
  refine awp_adH 2 0 3 1 rfl rfl ?_
  simp only [adH, hget, hset, lset, List.length_cons, List.length_nil, Nat.reduceAdd]
  refine awp_adH 2 1 3 1 rfl rfl ?_
  simp only [adH, hget, hset, lset, List.length_cons, List.length_nil, Nat.reduceAdd]
  refine awp_loopN t.reports.length (fun i => ⟨mkT 146 [(1, .psl false ws.length (u16s ws)), (2, .ptr 0 0 0), (4, .ptr 1 0 0), (5, .ptr 2 0 0), (6, .int .i64 (hapK t ws i).nx), (7, .int .i64 i)], [some (.cells 25 1 0 [.psl false t.reports.length (recs rptC t.reports), .psl false t.claims.length (recs clmC t.claims), .int .i64 t.rest]), some (.cells 85 1 0 [.nils, .nils]), some (.cells 85 1 0 [.osl 3 i 0 i, .osl 4 i 0 i]), some (.cells 3 1 i (ints (hapK t ws i).C)), some (.cells 3 1 i (ints (hapK t ws i).D))], []⟩) (.le2 ?_) ?_
  · simp only [hapK]
    simp (maxSteps := 4000000) only [go_sem, seval]
    all_goals first | rfl | trace_state
  · intro i hi
    have hp := hapK_ok hw ⟨ht.rest.1, hrest⟩ i
    have hlc := hp.lc
    have hld := hp.ld
    have hnx := nxK_bd (s := (hapK t ws i).C) i
    rw [hp.nx] at hnx
    rcases Nat.lt_or_eq_of_le hi with hi1 | hi1
    · have hwb := wordA_bd hw i
      have hst : hapK t ws (i + 1) = hapS t ws i (hapK t ws i) := rfl
      rw [hst]
      clear hst
      have hbd := hp.bd
      have hlt := hp.lt
      clear hp
      generalize hapK t ws i = h at *
      obtain ⟨C, D, nx⟩ := h
      simp only at hlc hld hnx hbd hlt
      have n1 := fun (k : Nat) (hk : k < i) K => show optK (nth (ints C) k) K = K (.int .i64 (C.getD k 0)) by rw [ints_nth (by omega)]; rfl
      have n2 := fun (k : Nat) (hk : k < i) K => show optK (nth (ints D) k) K = K (.int .i64 (D.getD k 0)) by rw [ints_nth (by omega)]; rfl
      simp (maxSteps := 4000000) only [go_sem, seval]
      (repeat' (first
    | ((omega))
    | ((exfalso; omega))
    | (refine awp_seqK ?_)
    | (refine kt ?_)
    | (refine And.intro ?_ ?_)
    | ((first | refine awp_region ?_ | refine awp_draw (by kernel_rfl) (by kernel_rfl) ?_ | refine Imp.le2 ?_ | refine awp_label ?_ | refine awp_skip ?_ | refine awp_exit ?_ | refine awp_ret ?_ | refine go_split (fun _h => ?_) (fun _h => ?_)) <;> try simp (maxSteps := 4000000) only [go_sem, seval])
    | (intro _h)
    | (refine awp_block ?_)
    | (refine awp_scope ?_)
    | (refine cond_b (fun _h => ?_) (fun _h => ?_))
    | (show heapOK _ _ = true; kernel_rfl)
    | (show heapOK2 _ _ = true; kernel_rfl)
    | (omega)))
      refine awp_cd ?_
      simp (maxSteps := 4000000) only [go_sem, seval]
      repeat (first | refine awp_seqK ?_ | refine kt ?_ | refine awp_block ?_ | refine awp_scope ?_ | refine awp_skip ?_)
      refine awp_region ?_
      simp (maxSteps := 4000000) only [go_sem, seval]
      refine kt ?_
      refine awp_seqK ?_
      refine awp_mid ⟨mkT 146 [(1, .psl false ws.length (u16s ws)), (2, .ptr 0 0 0), (4, .ptr 1 0 0), (5, .ptr 2 0 0), (6, .int .i64 nx), (7, .int .i64 i), (8, .int .i64 (wordA ws i))], [some (.cells 25 1 0 [.psl false t.reports.length (recs rptC t.reports), .psl false t.claims.length (recs clmC t.claims), .int .i64 t.rest]), some (.cells 85 1 0 [.nils, .nils]), some (.cells 85 1 0 [.osl 3 i 0 i, .osl 4 i 0 i]), some (.cells 3 1 i (ints C)), some (.cells 3 1 i (ints D))], []⟩ ?_ ?_
      · have hw1 : wordA ws i = if ws.length = 0 then 0 else ws.getD (i % ws.length) 0 := rfl
        by_cases hz : ws.length = 0
        · rw [hw1, if_pos hz]
          (repeat' (first
    | ((omega))
    | ((exfalso; omega))
    | (refine awp_seqK ?_)
    | (refine kt ?_)
    | (refine And.intro ?_ ?_)
    | ((first | refine awp_region ?_ | refine awp_draw (by kernel_rfl) (by kernel_rfl) ?_ | refine Imp.le2 ?_ | refine awp_label ?_ | refine awp_skip ?_ | refine awp_exit ?_ | refine awp_cd ?_ | refine awp_ret ?_ | refine go_split (fun _h => ?_) (fun _h => ?_)) <;> try simp (maxSteps := 4000000) only [go_sem, seval])
    | (intro _h)
    | (refine awp_block ?_)
    | (refine awp_scope ?_)
    | (refine cond_b (fun _h => ?_) (fun _h => ?_))
    | (show heapOK _ _ = true; kernel_rfl)
    | (show heapOK2 _ _ = true; kernel_rfl)
    | (omega)))
          all_goals trace_state
        · rw [if_neg hz] at hw1
          have hm := Nat.mod_lt i (show 0 < ws.length by omega)
          have hrm := rem_c (x := (i : Int)) (n := ws.length) (by omega)
          rw [Int.toNat_natCast] at hrm
          have hnw := fun K => u16s_nth hm (K := K)
          rw [hw1] at hwb ⊢
          generalize i % ws.length = q at *
          generalize ws.getD q 0 = v at *
          have hul := u16s_length (l := ws)
          (repeat' (first
    | ((omega))
    | ((exfalso; omega))
    | (refine awp_seqK ?_)
    | (refine kt ?_)
    | (refine And.intro ?_ ?_)
    | ((first | refine awp_region ?_ | refine awp_draw (by kernel_rfl) (by kernel_rfl) ?_ | refine Imp.le2 ?_ | refine awp_label ?_ | refine awp_skip ?_ | refine awp_exit ?_ | refine awp_cd ?_ | refine awp_ret ?_ | refine go_split (fun _h => ?_) (fun _h => ?_)) <;> try simp (maxSteps := 4000000) only [go_sem, seval, hrm, hnw, hul])
    | (intro _h)
    | (refine awp_block ?_)
    | (refine awp_scope ?_)
    | (refine cond_b (fun _h => ?_) (fun _h => ?_))
    | (show heapOK _ _ = true; kernel_rfl)
    | (show heapOK2 _ _ = true; kernel_rfl)
    | (omega)))
          all_goals trace_state
      · have hSe : hapS t ws i ⟨C, D, nx⟩ = if wordA ws i % 3 = 0 ∧ 0 < i ∧ slp t (((wordA ws i) / 3).toNat % i) = slp t i then ⟨C ++ [C.getD ((wordA ws i / 3).toNat % i) 0], D ++ [D.getD ((wordA ws i / 3).toNat % i) 0], nx⟩
          else ⟨C ++ [nx], D ++ [dayOut t i D (wordA ws i % 1000) D.length], nx + 1⟩ := rfl
        rw [hSe]
        clear hSe
        generalize wordA ws i = W at *
        have hw3 : W.tmod 3 = W % 3 := Int.tmod_eq_emod_of_nonneg hwb.1
        have hw4 : W.tmod 1000 = W % 1000 := Int.tmod_eq_emod_of_nonneg hwb.1
        have hwd : W.tdiv 3 = W / 3 := Int.tdiv_eq_ediv_of_nonneg hwb.1
        have hrk := rem_c (x := W / 3) (n := i) (by omega)
        have hkl : 0 < i → (W / 3).toNat % i < i := fun h => Nat.mod_lt _ h
        generalize (W / 3).toNat % i = k at *
        have snC := fun v : Int => show ints C ++ [.int .i64 v] = ints (C ++ [v]) by simp [ints]
        have snD := fun v : Int => show ints D ++ [.int .i64 v] = ints (D ++ [v]) by simp [ints]
        by_cases hc : W % 3 = 0 ∧ 0 < i ∧ slp t k = slp t i
        · rw [if_pos hc]
          obtain ⟨c1, c2, c3⟩ := hc
          have hk := hkl c2
          have c3 : (t.reports.getD k default).slope = (t.reports.getD i default).slope := c3
          have n1k := n1 k hk
          have n2k := n2 k hk
          have hltk := hlt k hk
          have lC : (C ++ [C.getD k 0]).length = i + 1 := by simp [hlc]
          have lD : (D ++ [D.getD k 0]).length = i + 1 := by simp [hld]
          simp (maxSteps := 4000000) only [go_sem, seval]
          (repeat' (first
    | ((omega))
    | ((exfalso; omega))
    | (refine awp_seqK ?_)
    | (refine kt ?_)
    | (refine And.intro ?_ ?_)
    | ((first | refine awp_region ?_ | refine awp_draw (by kernel_rfl) (by kernel_rfl) ?_ | refine Imp.le2 ?_ | refine awp_label ?_ | refine awp_skip ?_ | refine awp_exit ?_ | refine awp_cd ?_ | refine awp_ret ?_ | refine go_split (fun _h => ?_) (fun _h => ?_)) <;> try simp (maxSteps := 4000000) only [go_sem, seval, hw3, hwd, hrk, n1k, n2k, snC, snD, lC, lD, hlc, hld])
    | (intro _h)
    | (refine awp_block ?_)
    | (refine awp_scope ?_)
    | (refine cond_b (fun _h => ?_) (fun _h => ?_))
    | (show heapOK _ _ = true; kernel_rfl)
    | (show heapOK2 _ _ = true; kernel_rfl)
    | (omega)))
          all_goals trace_state
        · rw [if_neg hc]
          refine kt ?_
          refine awp_seqK ?_
          refine awp_region ?_
          simp (maxSteps := 4000000) only [go_sem, seval]
          refine kt ?_
          refine awp_seqK ?_
          refine awp_mid ⟨mkT 146 [(1, .psl false ws.length (u16s ws)), (2, .ptr 0 0 0), (4, .ptr 1 0 0), (5, .ptr 2 0 0), (6, .int .i64 nx), (7, .int .i64 i), (8, .int .i64 W), (9, .int .i64 nx), (10, .int .i64 0)], [some (.cells 25 1 0 [.psl false t.reports.length (recs rptC t.reports), .psl false t.claims.length (recs clmC t.claims), .int .i64 t.rest]), some (.cells 85 1 0 [.nils, .nils]), some (.cells 85 1 0 [.osl 3 i 0 i, .osl 4 i 0 i]), some (.cells 3 1 i (ints C)), some (.cells 3 1 i (ints D))], []⟩ ?_ ?_
          · by_cases h3 : W % 3 = 0
            · by_cases h0 : 0 < i
              · have hns : ¬ (t.reports.getD k default).slope = (t.reports.getD i default).slope := fun e => hc ⟨h3, h0, e⟩
                have hk := hkl h0
                (repeat' (first
    | ((omega))
    | ((exfalso; omega))
    | (refine awp_seqK ?_)
    | (refine kt ?_)
    | (refine And.intro ?_ ?_)
    | ((first | refine awp_region ?_ | refine awp_draw (by kernel_rfl) (by kernel_rfl) ?_ | refine Imp.le2 ?_ | refine awp_label ?_ | refine awp_skip ?_ | refine awp_exit ?_ | refine awp_cd ?_ | refine awp_ret ?_ | refine go_split (fun _h => ?_) (fun _h => ?_)) <;> try simp (maxSteps := 4000000) only [go_sem, seval, hw3, hwd, hrk])
    | (intro _h)
    | (refine awp_block ?_)
    | (refine awp_scope ?_)
    | (refine cond_b (fun _h => ?_) (fun _h => ?_))
    | (show heapOK _ _ = true; kernel_rfl)
    | (show heapOK2 _ _ = true; kernel_rfl)
    | (omega)))
                all_goals trace_state
              · have hi0 : i = 0 := by omega
                (repeat' (first
    | ((omega))
    | ((exfalso; omega))
    | (refine awp_seqK ?_)
    | (refine kt ?_)
    | (refine And.intro ?_ ?_)
    | ((first | refine awp_region ?_ | refine awp_draw (by kernel_rfl) (by kernel_rfl) ?_ | refine Imp.le2 ?_ | refine awp_label ?_ | refine awp_skip ?_ | refine awp_exit ?_ | refine awp_cd ?_ | refine awp_ret ?_ | refine go_split (fun _h => ?_) (fun _h => ?_)) <;> try simp (maxSteps := 4000000) only [go_sem, seval, hw3])
    | (intro _h)
    | (refine awp_block ?_)
    | (refine awp_scope ?_)
    | (refine cond_b (fun _h => ?_) (fun _h => ?_))
    | (show heapOK _ _ = true; kernel_rfl)
    | (show heapOK2 _ _ = true; kernel_rfl)
    | (omega)))
                all_goals trace_state
            · (repeat' (first
    | ((omega))
    | ((exfalso; omega))
    | (refine awp_seqK ?_)
    | (refine kt ?_)
    | (refine And.intro ?_ ?_)
    | ((first | refine awp_region ?_ | refine awp_draw (by kernel_rfl) (by kernel_rfl) ?_ | refine Imp.le2 ?_ | refine awp_label ?_ | refine awp_skip ?_ | refine awp_exit ?_ | refine awp_cd ?_ | refine awp_ret ?_ | refine go_split (fun _h => ?_) (fun _h => ?_)) <;> try simp (maxSteps := 4000000) only [go_sem, seval, hw3])
    | (intro _h)
    | (refine awp_block ?_)
    | (refine awp_scope ?_)
    | (refine cond_b (fun _h => ?_) (fun _h => ?_))
    | (show heapOK _ _ = true; kernel_rfl)
    | (show heapOK2 _ _ = true; kernel_rfl)
    | (omega)))
              all_goals trace_state
          · clear hc hrk hkl hwd hw3 n1
            have hd1 : 0 ≤ W % 1000 ∧ W % 1000 ≤ 999 := by omega
            have hgp : 1 ≤ gapA t ∧ gapA t ≤ 10000 := by unfold gapA; have := ht.rest; omega
            have hmx : ∀ m, m < D.length → D.getD m 0 + gapA t ≤ 1000 + 10000 * (i : Int) := fun m hm => by
              have := hbd m (by omega)
              omega
            have lC : (C ++ [nx]).length = i + 1 := by simp [hlc]
            have lD := fun v : Int => show (D ++ [v]).length = i + 1 by simp [hld]
            have hdo := fun q => dayOut_le (t := t) (i := i) (D := D) (d := W % 1000) (B := 1000 + 10000 * (i : Int)) (by omega) hmx q
            have hdg := fun q => dayOut_ge (t := t) (i := i) (D := D) (d := W % 1000) q
            generalize W % 1000 = d0 at *
            (repeat' (first
    | ((omega))
    | ((exfalso; omega))
    | (refine awp_seqK ?_)
    | (refine kt ?_)
    | (refine And.intro ?_ ?_)
    | ((first | refine awp_region ?_ | refine awp_draw (by kernel_rfl) (by kernel_rfl) ?_ | refine Imp.le2 ?_ | refine awp_label ?_ | refine awp_skip ?_ | refine awp_exit ?_ | refine awp_cd ?_ | refine awp_ret ?_ | refine go_split (fun _h => ?_) (fun _h => ?_)) <;> try simp (maxSteps := 4000000) only [go_sem, seval, hw4, hld])
    | (intro _h)
    | (refine awp_block ?_)
    | (refine awp_scope ?_)
    | (refine cond_b (fun _h => ?_) (fun _h => ?_))
    | (show heapOK _ _ = true; kernel_rfl)
    | (show heapOK2 _ _ = true; kernel_rfl)
    | (omega)))
            refine awp_loopN i (fun q => ⟨mkT 146 [(1, .psl false ws.length (u16s ws)), (2, .ptr 0 0 0), (4, .ptr 1 0 0), (5, .ptr 2 0 0), (6, .int .i64 nx), (7, .int .i64 i), (9, .int .i64 nx), (10, .int .i64 (dayOut t i D d0 q)), (12, .int .i64 q)], [some (.cells 25 1 0 [.psl false t.reports.length (recs rptC t.reports), .psl false t.claims.length (recs clmC t.claims), .int .i64 t.rest]), some (.cells 85 1 0 [.nils, .nils]), some (.cells 85 1 0 [.osl 3 i 0 i, .osl 4 i 0 i]), some (.cells 3 1 i (ints C)), some (.cells 3 1 i (ints D))], []⟩) (.le2 ?_) ?_
            · simp only [dayOut]
              simp (maxSteps := 4000000) only [go_sem, seval]
              all_goals first | rfl | trace_state
            · intro q hq
              have hdo1 := hdo q
              have hdg1 := hdg q
              rcases Nat.lt_or_eq_of_le hq with hq1 | hq1
              · have hst : dayOut t i D d0 (q + 1) = dayIn t i D (dayOut t i D d0 q) i := by simp only [dayOut]; rw [hld]
                rw [hst]
                clear hst
                generalize dayOut t i D d0 q = dq at *
                have hdi := fun n => dayIn_le (t := t) (i := i) (D := D) (d := dq) (B := 1000 + 10000 * (i : Int)) (by omega) n
                have hdj := fun n => dayIn_ge (t := t) (i := i) (D := D) (d := dq) n
                simp (maxSteps := 4000000) only [go_sem, seval]
                (repeat' (first
    | ((omega))
    | ((exfalso; omega))
    | (refine awp_seqK ?_)
    | (refine kt ?_)
    | (refine And.intro ?_ ?_)
    | ((first | refine awp_region ?_ | refine awp_draw (by kernel_rfl) (by kernel_rfl) ?_ | refine Imp.le2 ?_ | refine awp_label ?_ | refine awp_skip ?_ | refine awp_exit ?_ | refine awp_cd ?_ | refine awp_ret ?_ | refine go_split (fun _h => ?_) (fun _h => ?_)) <;> try simp (maxSteps := 4000000) only [go_sem, seval, hld])
    | (intro _h)
    | (refine awp_block ?_)
    | (refine awp_scope ?_)
    | (refine cond_b (fun _h => ?_) (fun _h => ?_))
    | (show heapOK _ _ = true; kernel_rfl)
    | (show heapOK2 _ _ = true; kernel_rfl)
    | (omega)))
                refine awp_loopN i (fun n => ⟨mkT 146 [(1, .psl false ws.length (u16s ws)), (2, .ptr 0 0 0), (4, .ptr 1 0 0), (5, .ptr 2 0 0), (6, .int .i64 nx), (7, .int .i64 i), (9, .int .i64 nx), (10, .int .i64 (dayIn t i D dq n)), (12, .int .i64 q), (13, .int .i64 n)], [some (.cells 25 1 0 [.psl false t.reports.length (recs rptC t.reports), .psl false t.claims.length (recs clmC t.claims), .int .i64 t.rest]), some (.cells 85 1 0 [.nils, .nils]), some (.cells 85 1 0 [.osl 3 i 0 i, .osl 4 i 0 i]), some (.cells 3 1 i (ints C)), some (.cells 3 1 i (ints D))], []⟩) (.le2 ?_) ?_
                · simp only [dayIn]
                  simp (maxSteps := 4000000) only [go_sem, seval]
                  all_goals first | rfl | trace_state
                · intro n hn
                  rcases Nat.lt_or_eq_of_le hn with hn1 | hn1
                  · have hst : dayIn t i D dq (n + 1) = if cfl t i D (dayIn t i D dq n) n then D.getD n 0 + gapA t else dayIn t i D dq n := rfl
                    rw [hst]
                    clear hst
                    have hdi1 := hdi n (fun m hm => hmx m (by omega))
                    have hdj1 := hdj n
                    have hbn := hbd n (by omega)
                    generalize dayIn t i D dq n = dn at *
                    have n2n := n2 n (by omega)
                    have hcf : cfl t i D dn n ↔ (t.reports.getD n default).slope = (t.reports.getD i default).slope ∧ max (dn - D.getD n 0) (D.getD n 0 - dn) < max 1 t.rest := Iff.rfl
                    by_cases hc : cfl t i D dn n
                    · rw [if_pos hc]
                      have hc := hcf.1 hc
                      unfold gapA at *
                      generalize D.getD n 0 = v at *
                      simp (maxSteps := 4000000) only [go_sem, seval]
                      (repeat' (first
    | ((omega))
    | ((exfalso; omega))
    | (refine awp_seqK ?_)
    | (refine kt ?_)
    | (refine And.intro ?_ ?_)
    | ((first | refine awp_region ?_ | refine awp_draw (by kernel_rfl) (by kernel_rfl) ?_ | refine Imp.le2 ?_ | refine awp_label ?_ | refine awp_skip ?_ | refine awp_exit ?_ | refine awp_cd ?_ | refine awp_ret ?_ | refine go_split (fun _h => ?_) (fun _h => ?_)) <;> try simp (maxSteps := 4000000) only [go_sem, seval, hld, n2n])
    | (intro _h)
    | (refine awp_block ?_)
    | (refine awp_scope ?_)
    | (refine cond_b (fun _h => ?_) (fun _h => ?_))
    | (show heapOK _ _ = true; kernel_rfl)
    | (show heapOK2 _ _ = true; kernel_rfl)
    | (omega)))
                      all_goals trace_state
                    · rw [if_neg hc]
                      rw [hcf] at hc
                      unfold gapA at *
                      generalize D.getD n 0 = v at *
                      simp (maxSteps := 4000000) only [go_sem, seval]
                      (repeat' (first
    | ((omega))
    | ((exfalso; omega))
    | (refine awp_seqK ?_)
    | (refine kt ?_)
    | (refine And.intro ?_ ?_)
    | ((first | refine awp_region ?_ | refine awp_draw (by kernel_rfl) (by kernel_rfl) ?_ | refine Imp.le2 ?_ | refine awp_label ?_ | refine awp_skip ?_ | refine awp_exit ?_ | refine awp_cd ?_ | refine awp_ret ?_ | refine go_split (fun _h => ?_) (fun _h => ?_)) <;> try simp (maxSteps := 4000000) only [go_sem, seval, hld, n2n])
    | (intro _h)
    | (refine awp_block ?_)
    | (refine awp_scope ?_)
    | (refine cond_b (fun _h => ?_) (fun _h => ?_))
    | (show heapOK _ _ = true; kernel_rfl)
    | (show heapOK2 _ _ = true; kernel_rfl)
    | (omega)))
                      all_goals trace_state
                  · subst hn1
                    simp (maxSteps := 4000000) only [go_sem, seval]
                    (repeat' (first
    | ((omega))
    | ((exfalso; omega))
    | (refine awp_seqK ?_)
    | (refine kt ?_)
    | (refine And.intro ?_ ?_)
    | ((first | refine awp_region ?_ | refine awp_draw (by kernel_rfl) (by kernel_rfl) ?_ | refine Imp.le2 ?_ | refine awp_label ?_ | refine awp_skip ?_ | refine awp_exit ?_ | refine awp_cd ?_ | refine awp_ret ?_ | refine go_split (fun _h => ?_) (fun _h => ?_)) <;> try simp (maxSteps := 4000000) only [go_sem, seval, hld])
    | (intro _h)
    | (refine awp_block ?_)
    | (refine awp_scope ?_)
    | (refine cond_b (fun _h => ?_) (fun _h => ?_))
    | (show heapOK _ _ = true; kernel_rfl)
    | (show heapOK2 _ _ = true; kernel_rfl)
    | (omega)))
                    all_goals trace_state
              · subst hq1
                try rw [hld]
                generalize dayOut t q D d0 q = dq at *
                simp (maxSteps := 4000000) only [go_sem, seval]
                (repeat' (first
    | ((omega))
    | ((exfalso; omega))
    | (refine awp_seqK ?_)
    | (refine kt ?_)
    | (refine And.intro ?_ ?_)
    | ((first | refine awp_region ?_ | refine awp_draw (by kernel_rfl) (by kernel_rfl) ?_ | refine Imp.le2 ?_ | refine awp_label ?_ | refine awp_skip ?_ | refine awp_exit ?_ | refine awp_cd ?_ | refine awp_ret ?_ | refine go_split (fun _h => ?_) (fun _h => ?_)) <;> try simp (maxSteps := 4000000) only [go_sem, seval, hlc, hld, snC, snD, lC, lD])
    | (intro _h)
    | (refine awp_block ?_)
    | (refine awp_scope ?_)
    | (refine cond_b (fun _h => ?_) (fun _h => ?_))
    | (show heapOK _ _ = true; kernel_rfl)
    | (show heapOK2 _ _ = true; kernel_rfl)
    | (omega)))
                all_goals trace_state
    · subst hi1
      generalize hapK t ws t.reports.length = h at *
      obtain ⟨C, D, nx⟩ := h
      simp (maxSteps := 4000000) only [go_sem, seval]
      (repeat' (first
    | (refine awp_frz (c := .region 27 _ _) 3 rfl (by simp (maxSteps := 4000000) only [go_sem, seval]) (fun _ => rfl) ?_; simp only [frz, fq_pure, fzB_c, fzB_m, fzB_d, fzB_l, fzO, fzH, fzHs, fzl, fz2, fz1, fz0, List.map_cons, List.map_nil, if_true, if_false, reduceIte, Nat.reduceEqDiff, Nat.reduceAdd, Nat.succ_ne_self, Nat.zero_ne_one, Nat.one_ne_zero, reduceCtorEq, and_self])
    | (refine awp_frz (c := .region 27 _ _) 4 rfl (by simp (maxSteps := 4000000) only [go_sem, seval]) (fun _ => rfl) ?_; simp only [frz, fq_pure, fzB_c, fzB_m, fzB_d, fzB_l, fzO, fzH, fzHs, fzl, fz2, fz1, fz0, List.map_cons, List.map_nil, if_true, if_false, reduceIte, Nat.reduceEqDiff, Nat.reduceAdd, Nat.succ_ne_self, Nat.zero_ne_one, Nat.one_ne_zero, reduceCtorEq, and_self])
    | ((omega))
    | ((exfalso; omega))
    | (refine awp_seqK ?_)
    | (refine kt ?_)
    | (refine And.intro ?_ ?_)
    | ((first | refine awp_region ?_ | refine awp_draw (by kernel_rfl) (by kernel_rfl) ?_ | refine Imp.le2 ?_ | refine awp_label ?_ | refine awp_skip ?_ | refine awp_exit ?_ | refine awp_cd ?_ | refine awp_ret ?_ | refine go_split (fun _h => ?_) (fun _h => ?_)) <;> try simp (maxSteps := 4000000) only [go_sem, seval])
    | (intro _h)
    | (refine awp_block ?_)
    | (refine awp_scope ?_)
    | (refine cond_b (fun _h => ?_) (fun _h => ?_))
    | (show heapOK _ _ = true; kernel_rfl)
    | (show heapOK2 _ _ = true; kernel_rfl)
    | (omega)))
      all_goals trace_state
end Go.Am

/- Contracts of the annals functions: numbered, the claims of a chronicle, ProveChronicle. -/
namespace Go.Am
open Go.RowKit Go.Proofs
attribute [local irreducible] AWP CallS Kt goK CallK stepK evOps SemF SemY Imp
set_option maxRecDepth 4000
set_option linter.unusedSimpArgs false
set_option linter.unusedVariables false
set_option maxHeartbeats 1600000
def numU : Int → List Int → Nat × Int
  | v, [] => (0, v)
  | v, x :: xs => if 0 ≤ x ∧ x ≤ v then ((numU (max v (x + 1)) xs).1 + 1, (numU (max v (x + 1)) xs).2) else (0, max v (x + 1))
def N0 (v : Int) : Option ABlk := some (.cells 3 1 0 [.int .i64 v])
def N1 : Option ABlk := some (.cells 119 1 0 [.fn (.func 99) [] [.ptr 0 0 0]])
theorem numU_le : ∀ {l : List Int} {v : Int}, (numU v l).1 ≤ l.length
  | [], _ => Nat.le_refl _
  | x :: xs, v => by
    simp only [numU]
    split
    · have := numU_le (l := xs) (v := max v (x + 1)); simp; omega
    · simp
theorem num1_c (v x : Int) (hv : 0 ≤ v ∧ v ≤ 2000000) (hx : x ≤ 9223372036854775806) (hx2 : -9223372036854775808 ≤ x) : SemF Try.prog 99 [.int .i64 x, .ptr 0 0 0] [N0 v] (.bool (decide (0 ≤ x ∧ x ≤ v))) [N0 (max v (x + 1))] := by
  simp only [N0]
  (refine semF_of_awp (ys := [.bool (decide (0 ≤ x ∧ x ≤ v))]) (fun w args => Try.call99 ..) Try.func99 rfl (fun w0 m0 wz => ?_); simp only [Try.ntmps99, Try.results99, initT, junks, rptC, clmC, slR, slC, annC, sl, List.toList_toArray, List.cons_append, List.nil_append, List.length_cons, List.length_nil, Nat.reduceAdd, Nat.reduceSub])
  (repeat' (first
    | ((omega))
    | ((exfalso; omega))
    | (refine awp_seqK ?_)
    | (refine kt ?_)
    | (refine And.intro ?_ ?_)
    | ((first | refine awp_region ?_ | refine awp_draw (by kernel_rfl) (by kernel_rfl) ?_ | refine Imp.le2 ?_ | refine awp_label ?_ | refine awp_skip ?_ | refine awp_exit ?_ | refine awp_cd ?_ | refine awp_ret ?_ | refine callK_of (within_c _ _ _) ?_ | refine callK_of (latest_c _ _ _) ?_ | refine go_split (fun _h => ?_) (fun _h => ?_)) <;> try simp (maxSteps := 4000000) only [go_sem, seval])
    | (intro _h)
    | (refine awp_block ?_)
    | (refine awp_scope ?_)
    | (refine cond_b (fun _h => ?_) (fun _h => ?_))
    | (show heapOK _ _ = true; kernel_rfl)
    | (show heapOK2 _ _ = true; kernel_rfl)
    | (omega)))
  all_goals first | exact (decide_eq_true ‹_›).symm | exact (decide_eq_false ‹_›).symm | trace_state
theorem num2_c (v x : Int) (hv : 0 ≤ v ∧ v ≤ 2000000) (hx : x ≤ 9223372036854775806) (hx2 : -9223372036854775808 ≤ x) : SemF Try.prog 97 [.int .i64 x, .ptr 1 0 0] [N0 v, N1] (.bool (!decide (0 ≤ x ∧ x ≤ v))) [N0 (max v (x + 1)), N1] := by
  have h1 := num1_c v x hv hx hx2
  simp only [N0, N1] at h1 ⊢
  generalize decide (0 ≤ x ∧ x ≤ v) = q at *
  (refine semF_of_awp (ys := [.bool (!q)]) (fun w args => Try.call97 ..) Try.func97 rfl (fun w0 m0 wz => ?_); simp only [Try.ntmps97, Try.results97, initT, junks, rptC, clmC, slR, slC, annC, sl, List.toList_toArray, List.cons_append, List.nil_append, List.length_cons, List.length_nil, Nat.reduceAdd, Nat.reduceSub])
  (repeat' (first
    | (refine awp_ownN 2 rfl ?_; simp (maxSteps := 4000000) only [go_sem, seval, List.take_succ_cons, List.take_zero]; (repeat refine And.intro (by omega) ?_); refine own_go (h1) [0] rfl ?_ ?_ rfl ?_ <;> try simp (maxSteps := 4000000) only [go_sem, seval, Nat.lt_irrefl] <;> try decide)
    | (refine awp_seqK ?_)
    | (refine kt ?_)
    | (refine And.intro ?_ ?_)
    | ((first | refine awp_region ?_ | refine awp_draw (by kernel_rfl) (by kernel_rfl) ?_ | refine Imp.le2 ?_ | refine awp_label ?_ | refine awp_skip ?_ | refine awp_exit ?_ | refine awp_cd ?_ | refine awp_ret ?_ | refine go_split (fun _h => ?_) (fun _h => ?_)) <;> try simp (maxSteps := 4000000) only [go_sem, seval])
    | (intro _h)
    | (refine awp_block ?_)
    | (refine awp_scope ?_)
    | (refine cond_b (fun _h => ?_) (fun _h => ?_))
    | (show heapOK _ _ = true; kernel_rfl)
    | (show heapOK2 _ _ = true; kernel_rfl)
    | (omega))) <;> simp [*]
theorem numI_c (l : List Int) (hl : l.length ≤ 1000000) (hx : ∀ x ∈ l, -9223372036854775808 ≤ x ∧ x ≤ 9223372036854775806) : SemF Try.prog 111 [sl l, .fn (.func 97) [] [.ptr 1 0 0]] [N0 0, N1] (.int .i64 (if (numU 0 l).1 = l.length then -1 else (numU 0 l).1)) [N0 (numU 0 l).2, N1] := by
  have hq := fun v i hv (hi : i < l.length) => num2_c v (l.getD i 0) hv (hx _ (by rw [List.getD_eq_getElem?_getD, List.getElem?_eq_getElem hi]; exact List.getElem_mem hi)).2 (hx _ (by rw [List.getD_eq_getElem?_getD, List.getElem?_eq_getElem hi]; exact List.getElem_mem hi)).1
  have hd : ∀ i, i < l.length → l.drop i = l.getD i 0 :: l.drop (i + 1) := fun i hi => by
    rw [List.drop_eq_getElem_cons hi]; simp [List.getD_eq_getElem?_getD, hi]
  obtain ⟨R, hR⟩ : ∃ R, numU 0 l = R := ⟨_, rfl⟩
  rw [hR]
  simp only [N0, N1] at hq ⊢
  (refine semF_of_awp (ys := [.int .i64 (if R.1 = l.length then -1 else R.1)]) (fun w args => Try.call111 ..) Try.func111 rfl (fun w0 m0 wz => ?_); simp only [Try.ntmps111, Try.results111, initT, junks, rptC, clmC, slR, slC, annC, sl, List.toList_toArray, List.cons_append, List.nil_append, List.length_cons, List.length_nil, Nat.reduceAdd, Nat.reduceSub])
  (repeat' (first
    | (refine awp_seqK ?_)
    | (refine kt ?_)
    | (refine And.intro ?_ ?_)
    | ((first | refine awp_region ?_ | refine awp_draw (by kernel_rfl) (by kernel_rfl) ?_ | refine Imp.le2 ?_ | refine awp_label ?_ | refine awp_skip ?_ | refine awp_exit ?_ | refine awp_cd ?_ | refine awp_ret ?_ | refine go_split (fun _h => ?_) (fun _h => ?_)) <;> try simp (maxSteps := 4000000) only [go_sem, seval])
    | (intro _h)
    | (refine awp_block ?_)
    | (refine awp_scope ?_)
    | (refine cond_b (fun _h => ?_) (fun _h => ?_))
    | (show heapOK _ _ = true; kernel_rfl)
    | (show heapOK2 _ _ = true; kernel_rfl)
    | (omega)))
  refine awp_loopJ (fun y : Nat × Int => y.1 ≤ l.length ∧ (0 ≤ y.2 ∧ y.2 ≤ y.1) ∧ R = (y.1 + (numU y.2 (l.drop y.1)).1, (numU y.2 (l.drop y.1)).2)) (fun y => ⟨mkT 19 [(0, sl l), (1, .fn (.func 97) [] [.ptr 1 0 0]), (6, sl l), (7, .int .i64 l.length), (8, .int .i64 y.1)], [N0 y.2, N1], []⟩) (fun y => l.length - y.1) (0, 0) ⟨Nat.zero_le _, by simp, by simp [hR]⟩ (.le2 ?_) ?_
  · simp only [N0, N1]; simp (maxSteps := 4000000) only [go_sem, seval]
    all_goals first | rfl | exact ⟨rfl, rfl⟩ | exact ⟨rfl, rfl, rfl⟩
  · rintro ⟨i, v⟩ ⟨hi, hv, hj⟩
    clear hR
    simp only at hi hv hj
    rcases Nat.lt_or_eq_of_le hi with hi1 | hi1
    · have hqi := hq v i (by omega) hi1
      rw [hd i hi1] at hj
      simp only [numU] at hj
      obtain ⟨q, hqe⟩ : ∃ q, decide (0 ≤ l.getD i 0 ∧ l.getD i 0 ≤ v) = q := ⟨_, rfl⟩
      rw [hqe] at hqi
      cases q with
      | true =>
        have hqt := of_decide_eq_true hqe
        rw [if_pos hqt] at hj
        simp only [N0, N1]; simp (maxSteps := 4000000) only [go_sem, seval]
        (repeat' (first
    | (refine awp_ownN 5 rfl ?_; simp (maxSteps := 4000000) only [go_sem, seval, List.take_succ_cons, List.take_zero]; (repeat refine And.intro (by omega) ?_); refine own_go (hqi) [0, 1] rfl ?_ ?_ rfl ?_ <;> try simp (maxSteps := 4000000) only [go_sem, seval, Nat.lt_irrefl] <;> try decide)
    | ((omega))
    | ((exfalso; omega))
    | (refine awp_seqK ?_)
    | (refine kt ?_)
    | (refine And.intro ?_ ?_)
    | ((first | refine awp_region ?_ | refine awp_draw (by kernel_rfl) (by kernel_rfl) ?_ | refine Imp.le2 ?_ | refine awp_label ?_ | refine awp_skip ?_ | refine awp_exit ?_ | refine awp_cd ?_ | refine awp_ret ?_ | refine go_split (fun _h => ?_) (fun _h => ?_)) <;> try simp (maxSteps := 4000000) only [go_sem, seval])
    | (intro _h)
    | (refine awp_block ?_)
    | (refine awp_scope ?_)
    | (refine cond_b (fun _h => ?_) (fun _h => ?_))
    | (show heapOK _ _ = true; kernel_rfl)
    | (show heapOK2 _ _ = true; kernel_rfl)
    | (omega)))
        refine ⟨(i + 1, max v (l.getD i 0 + 1)), ⟨by show i + 1 ≤ l.length; omega, ?_, ?_⟩, by show l.length - (i + 1) < l.length - i; omega, .le2 ?_⟩
        · show 0 ≤ max v (l.getD i 0 + 1) ∧ max v (l.getD i 0 + 1) ≤ ((i + 1 : Nat) : Int)
          omega
        · rw [hj]
          simp only [Prod.mk.injEq, and_true]
          omega
        · simp (maxSteps := 4000000) only [go_sem, seval]
          all_goals first | rfl | exact ⟨rfl, rfl⟩ | trace_state
      | false =>
        rw [if_neg (of_decide_eq_false hqe)] at hj
        subst hj
        simp only [N0, N1]; simp (maxSteps := 4000000) only [go_sem, seval]
        (repeat' (first
    | (refine awp_ownN 5 rfl ?_; simp (maxSteps := 4000000) only [go_sem, seval, List.take_succ_cons, List.take_zero]; (repeat refine And.intro (by omega) ?_); refine own_go (hqi) [0, 1] rfl ?_ ?_ rfl ?_ <;> try simp (maxSteps := 4000000) only [go_sem, seval, Nat.lt_irrefl] <;> try decide)
    | ((omega))
    | ((exfalso; omega))
    | (refine awp_seqK ?_)
    | (refine kt ?_)
    | (refine And.intro ?_ ?_)
    | ((first | refine awp_region ?_ | refine awp_draw (by kernel_rfl) (by kernel_rfl) ?_ | refine Imp.le2 ?_ | refine awp_label ?_ | refine awp_skip ?_ | refine awp_exit ?_ | refine awp_cd ?_ | refine awp_ret ?_ | refine go_split (fun _h => ?_) (fun _h => ?_)) <;> try simp (maxSteps := 4000000) only [go_sem, seval])
    | (intro _h)
    | (refine awp_block ?_)
    | (refine awp_scope ?_)
    | (refine cond_b (fun _h => ?_) (fun _h => ?_))
    | (show heapOK _ _ = true; kernel_rfl)
    | (show heapOK2 _ _ = true; kernel_rfl)
    | (omega)))
        all_goals first | (rw [if_neg (by omega)]; rfl) | trace_state
    · subst hi1
      simp only [List.drop_length, numU] at hj
      subst hj
      simp only [N0, N1]; simp (maxSteps := 4000000) only [go_sem, seval]
      (repeat' (first
    | ((exfalso; omega))
    | (refine awp_seqK ?_)
    | (refine kt ?_)
    | (refine And.intro ?_ ?_)
    | ((first | refine awp_region ?_ | refine awp_draw (by kernel_rfl) (by kernel_rfl) ?_ | refine Imp.le2 ?_ | refine awp_label ?_ | refine awp_skip ?_ | refine awp_exit ?_ | refine awp_cd ?_ | refine awp_ret ?_ | refine go_split (fun _h => ?_) (fun _h => ?_)) <;> try simp (maxSteps := 4000000) only [go_sem, seval])
    | (intro _h)
    | (refine awp_block ?_)
    | (refine awp_scope ?_)
    | (refine cond_b (fun _h => ?_) (fun _h => ?_))
    | (show heapOK _ _ = true; kernel_rfl)
    | (show heapOK2 _ _ = true; kernel_rfl)
    | (omega)))
theorem numU_num {s : List Int} : ∀ (f i : Nat), s.length - i = f → i ≤ s.length → NumP s i → ((numU (nxK s i) (s.drop i)).1 = s.length - i ↔ NumP s s.length)
  | 0, i, hf, hi, hn => by
    have : i = s.length := by omega
    subst this
    simp [numU, hn]
  | f + 1, i, hf, hi, hn => by
    have hi1 : i < s.length := by omega
    have hd : s.drop i = s.getD i 0 :: s.drop (i + 1) := by
      rw [List.drop_eq_getElem_cons hi1]; simp [List.getD_eq_getElem?_getD, hi1]
    rw [hd]
    simp only [numU]
    by_cases hc : 0 ≤ s.getD i 0 ∧ s.getD i 0 ≤ nxK s i
    · rw [if_pos hc]
      have hn2 : NumP s (i + 1) := fun j hj => by
        by_cases e : j = i
        · subst e; exact hc
        · exact hn j (by omega)
      have hx : max (nxK s i) (s.getD i 0 + 1) = nxK s (i + 1) := by
        simp only [nxK]; split <;> omega
      rw [hx, ← numU_num f (i + 1) (by omega) (by omega) hn2]
      simp only
      omega
    · rw [if_neg hc]
      simp only
      constructor
      · intro h; omega
      · intro h; exact absurd (h i hi1) hc
theorem numbered_c (l : List Int) (hl : l.length ≤ 1000000) (hx : ∀ x ∈ l, -9223372036854775808 ≤ x ∧ x ≤ 9223372036854775806) : CallS Try.prog 71 [sl l] (.bool (numB l)) := by
  have h := numI_c l hl hx
  have hb : numB l = decide ((numU 0 l).1 = l.length) := by
    have := numU_num (s := l) l.length 0 rfl (Nat.zero_le _) (fun j hj => by omega)
    unfold numB
    simp only [nxK, List.drop_zero, Nat.sub_zero] at this
    by_cases hc : (numU 0 l).1 = l.length
    · rw [decide_eq_true hc, decide_eq_true (this.1 hc)]
    · rw [decide_eq_false hc, decide_eq_false (fun h => hc (this.2 h))]
  have hle := numU_le (l := l) (v := 0)
  have he : decide (0 ≤ (if (numU 0 l).1 = l.length then (-1 : Int) else (numU 0 l).1)) = !numB l := by
    rw [hb]
    by_cases hc : (numU 0 l).1 = l.length
    · rw [if_pos hc, decide_eq_true hc]; rfl
    · rw [if_neg hc, decide_eq_false hc]; simp
  generalize (if (numU 0 l).1 = l.length then (-1 : Int) else (numU 0 l).1) = r at *
  generalize (numU 0 l).2 = v2 at *
  generalize numB l = q at *
  clear hb hle
  have h2 : SemF Try.prog 96 [sl l, .fn (.func 97) [] [.ptr 1 0 0]] [N0 0, N1] (.bool (!q)) [N0 v2, N1] := by
    rw [← he]
    clear he
    simp only [N0, N1, sl] at h ⊢
    (refine semF_of_awp (ys := [.bool (decide (0 ≤ r))]) (fun w args => Try.call96 ..) Try.func96 rfl (fun w0 m0 wz => ?_); simp only [Try.ntmps96, Try.results96, initT, junks, rptC, clmC, slR, slC, annC, sl, List.toList_toArray, List.cons_append, List.nil_append, List.length_cons, List.length_nil, Nat.reduceAdd, Nat.reduceSub])
    (repeat' (first
    | (refine awp_ownN 2 rfl ?_; simp (maxSteps := 4000000) only [go_sem, seval, List.take_succ_cons, List.take_zero]; (repeat refine And.intro (by omega) ?_); refine own_go (h) [0, 1] rfl ?_ ?_ rfl ?_ <;> try simp (maxSteps := 4000000) only [go_sem, seval, Nat.lt_irrefl] <;> try decide)
    | (refine awp_seqK ?_)
    | (refine kt ?_)
    | (refine And.intro ?_ ?_)
    | ((first | refine awp_region ?_ | refine awp_draw (by kernel_rfl) (by kernel_rfl) ?_ | refine Imp.le2 ?_ | refine awp_label ?_ | refine awp_skip ?_ | refine awp_exit ?_ | refine awp_cd ?_ | refine awp_ret ?_ | refine go_split (fun _h => ?_) (fun _h => ?_)) <;> try simp (maxSteps := 4000000) only [go_sem, seval])
    | (intro _h)
    | (refine awp_block ?_)
    | (refine awp_scope ?_)
    | (refine cond_b (fun _h => ?_) (fun _h => ?_))
    | (show heapOK _ _ = true; kernel_rfl)
    | (show heapOK2 _ _ = true; kernel_rfl)
    | (omega))) <;> simp [*]
  have h3 : SemF Try.prog 68 [sl l, .fn (.func 99) [] [.ptr 0 0 0]] [N0 0] (.bool q) [N0 v2] := by
    simp only [N0, N1, sl] at h2 ⊢
    (refine semF_of_awp (ys := [.bool q]) (fun w args => Try.call68 ..) Try.func68 rfl (fun w0 m0 wz => ?_); simp only [Try.ntmps68, Try.results68, initT, junks, rptC, clmC, slR, slC, annC, sl, List.toList_toArray, List.cons_append, List.nil_append, List.length_cons, List.length_nil, Nat.reduceAdd, Nat.reduceSub])
    (repeat' (first
    | (refine awp_ownN 2 rfl ?_; simp (maxSteps := 4000000) only [go_sem, seval, List.take_succ_cons, List.take_zero]; (repeat refine And.intro (by omega) ?_); refine own_go (h2) [0, 1] rfl ?_ ?_ rfl ?_ <;> try simp (maxSteps := 4000000) only [go_sem, seval, Nat.lt_irrefl] <;> try decide)
    | (refine awp_seqK ?_)
    | (refine kt ?_)
    | (refine And.intro ?_ ?_)
    | ((first | refine awp_region ?_ | refine awp_draw (by kernel_rfl) (by kernel_rfl) ?_ | refine Imp.le2 ?_ | refine awp_label ?_ | refine awp_skip ?_ | refine awp_exit ?_ | refine awp_cd ?_ | refine awp_ret ?_ | refine go_split (fun _h => ?_) (fun _h => ?_)) <;> try simp (maxSteps := 4000000) only [go_sem, seval])
    | (intro _h)
    | (refine awp_block ?_)
    | (refine awp_scope ?_)
    | (refine cond_b (fun _h => ?_) (fun _h => ?_))
    | (show heapOK _ _ = true; kernel_rfl)
    | (show heapOK2 _ _ = true; kernel_rfl)
    | (omega)))
    all_goals first | (rw [Bool.not_not] at _h; exact _h.symm) | trace_state
  simp only [N0, sl] at h3 ⊢
  (refine callS_of_awp (fun w args => Try.call71 ..) Try.func71 rfl (fun w0 m0 wz => ?_); simp only [Try.ntmps71, Try.results71, initT, junks, rptC, clmC, slR, slC, annC, sl, List.toList_toArray, List.cons_append, List.nil_append, List.length_cons, List.length_nil, Nat.reduceAdd, Nat.reduceSub])
  (repeat' (first
    | (refine awp_ownN 2 rfl ?_; simp (maxSteps := 4000000) only [go_sem, seval, List.take_succ_cons, List.take_zero]; (repeat refine And.intro (by omega) ?_); refine own_go (h3) [0] rfl ?_ ?_ rfl ?_ <;> try simp (maxSteps := 4000000) only [go_sem, seval, Nat.lt_irrefl] <;> try decide)
    | (refine awp_seqK ?_)
    | (refine kt ?_)
    | (refine And.intro ?_ ?_)
    | ((first | refine awp_region ?_ | refine awp_draw (by kernel_rfl) (by kernel_rfl) ?_ | refine Imp.le2 ?_ | refine awp_label ?_ | refine awp_skip ?_ | refine awp_exit ?_ | refine awp_cd ?_ | refine awp_ret ?_ | refine go_split (fun _h => ?_) (fun _h => ?_)) <;> try simp (maxSteps := 4000000) only [go_sem, seval])
    | (intro _h)
    | (refine awp_block ?_)
    | (refine awp_scope ?_)
    | (refine cond_b (fun _h => ?_) (fun _h => ?_))
    | (show heapOK _ _ = true; kernel_rfl)
    | (show heapOK2 _ _ = true; kernel_rfl)
    | (omega)))
  all_goals first | (exact _h.symm) | trace_state
def hldB (C D : List Int) (c : Clm) : Bool := if c.kind = 0 then decide (D.getD c.a.toNat 0 < D.getD c.b.toNat 0) else if c.kind = 1 then decide (C.getD c.a.toNat 0 = C.getD c.b.toNat 0) else !decide (C.getD c.a.toNat 0 = C.getD c.b.toNat 0)
theorem hold_c (C D : List Int) (c : Clm) (hk : 0 ≤ c.kind ∧ c.kind ≤ 2) (ha : 0 ≤ c.a ∧ c.a < C.length) (hb : 0 ≤ c.b ∧ c.b < C.length) (hl : C.length = D.length) (hn : C.length ≤ 1000000) : CallS Try.prog 76 [.agg [sl C, sl D], .agg (clmC c)] (.bool (hldB C D c)) := by
  obtain ⟨k, a, b⟩ := c
  simp only at hk ha hb ⊢
  unfold hldB
  simp only
  obtain ⟨x, rfl⟩ := Int.eq_ofNat_of_zero_le ha.1
  obtain ⟨y, rfl⟩ := Int.eq_ofNat_of_zero_le hb.1
  simp only [Int.toNat_natCast]
  have n1 := fun K => show optK (nth (ints C) x) K = K (.int .i64 (C.getD x 0)) by rw [ints_nth (by omega)]; rfl
  have n2 := fun K => show optK (nth (ints C) y) K = K (.int .i64 (C.getD y 0)) by rw [ints_nth (by omega)]; rfl
  have n3 := fun K => show optK (nth (ints D) x) K = K (.int .i64 (D.getD x 0)) by rw [ints_nth (by omega)]; rfl
  have n4 := fun K => show optK (nth (ints D) y) K = K (.int .i64 (D.getD y 0)) by rw [ints_nth (by omega)]; rfl
  simp only [sl, clmC]
  by_cases h0 : k = 0
  · rw [if_pos h0]
    subst h0
    (refine callS_of_awp (fun w args => Try.call76 ..) Try.func76 rfl (fun w0 m0 wz => ?_); simp only [Try.ntmps76, Try.results76, initT, junks, rptC, clmC, slR, slC, annC, sl, List.toList_toArray, List.cons_append, List.nil_append, List.length_cons, List.length_nil, Nat.reduceAdd, Nat.reduceSub])
    (repeat' (first
    | ((omega))
    | ((exfalso; omega))
    | (refine awp_seqK ?_)
    | (refine kt ?_)
    | (refine And.intro ?_ ?_)
    | ((first | refine awp_region ?_ | refine awp_draw (by kernel_rfl) (by kernel_rfl) ?_ | refine Imp.le2 ?_ | refine awp_label ?_ | refine awp_skip ?_ | refine awp_exit ?_ | refine awp_cd ?_ | refine awp_ret ?_ | refine go_split (fun _h => ?_) (fun _h => ?_)) <;> try simp (maxSteps := 4000000) only [go_sem, seval, n1, n2, n3, n4])
    | (intro _h)
    | (refine awp_block ?_)
    | (refine awp_scope ?_)
    | (refine cond_b (fun _h => ?_) (fun _h => ?_))
    | (show heapOK _ _ = true; kernel_rfl)
    | (show heapOK2 _ _ = true; kernel_rfl)
    | (omega)))
    all_goals first | exact (decide_eq_true ‹_›).symm | exact (decide_eq_false ‹_›).symm | trace_state
  · rw [if_neg h0]
    by_cases h1 : k = 1
    · rw [if_pos h1]
      subst h1
      (refine callS_of_awp (fun w args => Try.call76 ..) Try.func76 rfl (fun w0 m0 wz => ?_); simp only [Try.ntmps76, Try.results76, initT, junks, rptC, clmC, slR, slC, annC, sl, List.toList_toArray, List.cons_append, List.nil_append, List.length_cons, List.length_nil, Nat.reduceAdd, Nat.reduceSub])
      (repeat' (first
    | ((omega))
    | ((exfalso; omega))
    | (refine awp_seqK ?_)
    | (refine kt ?_)
    | (refine And.intro ?_ ?_)
    | ((first | refine awp_region ?_ | refine awp_draw (by kernel_rfl) (by kernel_rfl) ?_ | refine Imp.le2 ?_ | refine awp_label ?_ | refine awp_skip ?_ | refine awp_exit ?_ | refine awp_cd ?_ | refine awp_ret ?_ | refine go_split (fun _h => ?_) (fun _h => ?_)) <;> try simp (maxSteps := 4000000) only [go_sem, seval, n1, n2, n3, n4])
    | (intro _h)
    | (refine awp_block ?_)
    | (refine awp_scope ?_)
    | (refine cond_b (fun _h => ?_) (fun _h => ?_))
    | (show heapOK _ _ = true; kernel_rfl)
    | (show heapOK2 _ _ = true; kernel_rfl)
    | (omega)))
      all_goals first | exact (decide_eq_true ‹_›).symm | exact (decide_eq_false ‹_›).symm | trace_state
    · rw [if_neg h1]
      (refine callS_of_awp (fun w args => Try.call76 ..) Try.func76 rfl (fun w0 m0 wz => ?_); simp only [Try.ntmps76, Try.results76, initT, junks, rptC, clmC, slR, slC, annC, sl, List.toList_toArray, List.cons_append, List.nil_append, List.length_cons, List.length_nil, Nat.reduceAdd, Nat.reduceSub])
      (repeat' (first
    | ((omega))
    | ((exfalso; omega))
    | (refine awp_seqK ?_)
    | (refine kt ?_)
    | (refine And.intro ?_ ?_)
    | ((first | refine awp_region ?_ | refine awp_draw (by kernel_rfl) (by kernel_rfl) ?_ | refine Imp.le2 ?_ | refine awp_label ?_ | refine awp_skip ?_ | refine awp_exit ?_ | refine awp_cd ?_ | refine awp_ret ?_ | refine go_split (fun _h => ?_) (fun _h => ?_)) <;> try simp (maxSteps := 4000000) only [go_sem, seval, n1, n2, n3, n4])
    | (intro _h)
    | (refine awp_block ?_)
    | (refine awp_scope ?_)
    | (refine cond_b (fun _h => ?_) (fun _h => ?_))
    | (show heapOK _ _ = true; kernel_rfl)
    | (show heapOK2 _ _ = true; kernel_rfl)
    | (omega)))
      all_goals first | (rw [decide_eq_true (p := C.getD x 0 = C.getD y 0) ‹_›]; rfl) | (rw [decide_eq_false (p := C.getD x 0 = C.getD y 0) ‹_›]; rfl) | trace_state
def fnH (C D : List Int) : AV := .fn (.func 76) [.agg [sl C, sl D]] []
theorem holds_c (C D : List Int) (l : List Clm) (q : Clm → Bool) (hl : l.length ≤ 1000000) (hq : ∀ i, i < l.length → CallS Try.prog 76 [.agg [sl C, sl D], .agg (clmC (l.getD i default))] (.bool (q (l.getD i default)))) :
    SemF Try.prog 75 [slC l, fnH C D] [] (.bool (l.all q)) [] := by
  have hany : l.all q = !l.any (fun x => !q x) := by simp [List.all_eq_not_any_not]
  have h1 : ∀ i, i < l.length → SemF Try.prog 102 [.agg (clmC (l.getD i default)), .ptr 0 0 0] [some (.cells 125 1 0 [fnH C D])] (.bool (!q (l.getD i default))) [some (.cells 125 1 0 [fnH C D])] := fun i hi => by
    have h := hq i hi
    simp only [fnH, sl, clmC] at h ⊢
    generalize q (l.getD i default) = b at *
    (refine semF_of_awp (ys := [.bool (!b)]) (fun w args => Try.call102 ..) Try.func102 rfl (fun w0 m0 wz => ?_); simp only [Try.ntmps102, Try.results102, initT, junks, rptC, clmC, slR, slC, annC, sl, List.toList_toArray, List.cons_append, List.nil_append, List.length_cons, List.length_nil, Nat.reduceAdd, Nat.reduceSub])
    (repeat' (first
    | (refine awp_seqK ?_)
    | (refine kt ?_)
    | (refine And.intro ?_ ?_)
    | ((first | refine awp_region ?_ | refine awp_draw (by kernel_rfl) (by kernel_rfl) ?_ | refine Imp.le2 ?_ | refine awp_label ?_ | refine awp_skip ?_ | refine awp_exit ?_ | refine awp_cd ?_ | refine awp_ret ?_ | refine callK_of (h) ?_ | refine go_split (fun _h => ?_) (fun _h => ?_)) <;> try simp (maxSteps := 4000000) only [go_sem, seval])
    | (intro _h)
    | (refine awp_block ?_)
    | (refine awp_scope ?_)
    | (refine cond_b (fun _h => ?_) (fun _h => ?_))
    | (show heapOK _ _ = true; kernel_rfl)
    | (show heapOK2 _ _ = true; kernel_rfl)
    | (omega))) <;> simp [*]
  have h2 : SemF Try.prog 113 [slC l, .fn (.func 102) [] [.ptr 0 0 0]] [some (.cells 125 1 0 [fnH C D])] (.int .i64 (idxOf (fun c => !q c) l)) [some (.cells 125 1 0 [fnH C D])] := by
    simp only [fnH, sl, slC, clmC] at h1 ⊢
    (refine semF_of_awp (ys := [.int .i64 (idxOf (fun c => !q c) l)]) (fun w args => Try.call113 ..) Try.func113 rfl (fun w0 m0 wz => ?_); simp only [Try.ntmps113, Try.results113, initT, junks, rptC, clmC, slR, slC, annC, sl, List.toList_toArray, List.cons_append, List.nil_append, List.length_cons, List.length_nil, Nat.reduceAdd, Nat.reduceSub])
    (repeat' (first
    | (refine awp_seqK ?_)
    | (refine kt ?_)
    | (refine And.intro ?_ ?_)
    | ((first | refine awp_region ?_ | refine awp_draw (by kernel_rfl) (by kernel_rfl) ?_ | refine Imp.le2 ?_ | refine awp_label ?_ | refine awp_skip ?_ | refine awp_exit ?_ | refine awp_cd ?_ | refine awp_ret ?_ | refine go_split (fun _h => ?_) (fun _h => ?_)) <;> try simp (maxSteps := 4000000) only [go_sem, seval])
    | (intro _h)
    | (refine awp_block ?_)
    | (refine awp_scope ?_)
    | (refine cond_b (fun _h => ?_) (fun _h => ?_))
    | (show heapOK _ _ = true; kernel_rfl)
    | (show heapOK2 _ _ = true; kernel_rfl)
    | (omega)))
    refine awp_loopJ (fun i : Nat => i ≤ l.length ∧ ∀ j, j < i → (!q (l.getD j default)) = false) (fun i => ⟨mkT 19 [(0, slC l), (1, .fn (.func 102) [] [.ptr 0 0 0]), (6, slC l), (7, .int .i64 l.length), (8, .int .i64 i)], [some (.cells 125 1 0 [.fn (.func 76) [.agg [.psl false C.length (ints C), .psl false D.length (ints D)]] []])], []⟩) (fun i => l.length - i) 0 ⟨Nat.zero_le _, by simp⟩ (.le2 ?_) ?_
    · simp only [slC]; simp (maxSteps := 4000000) only [go_sem, seval]
      all_goals first | rfl | exact ⟨rfl, rfl⟩ | exact ⟨rfl, rfl, rfl⟩ | trace_state
    · rintro i ⟨hi, hj⟩
      rcases Nat.lt_or_eq_of_le hi with hi1 | hi1
      · have hqi := h1 i hi1
        simp only [slC]; simp (maxSteps := 4000000) only [go_sem, seval]
        (repeat' (first
    | (refine awp_ownN 5 rfl ?_; simp (maxSteps := 4000000) only [go_sem, seval, List.take_succ_cons, List.take_zero]; (repeat refine And.intro (by omega) ?_); refine own_go (hqi) [0] rfl ?_ ?_ rfl ?_ <;> try simp (maxSteps := 4000000) only [go_sem, seval, Nat.lt_irrefl] <;> try decide)
    | (refine awp_seqK ?_)
    | (refine kt ?_)
    | (refine And.intro ?_ ?_)
    | ((first | refine awp_region ?_ | refine awp_draw (by kernel_rfl) (by kernel_rfl) ?_ | refine Imp.le2 ?_ | refine awp_label ?_ | refine awp_skip ?_ | refine awp_exit ?_ | refine awp_cd ?_ | refine awp_ret ?_ | refine go_split (fun _h => ?_) (fun _h => ?_)) <;> try simp (maxSteps := 4000000) only [go_sem, seval])
    | (intro _h)
    | (refine awp_block ?_)
    | (refine awp_scope ?_)
    | (refine cond_b (fun _h => ?_) (fun _h => ?_))
    | (show heapOK _ _ = true; kernel_rfl)
    | (show heapOK2 _ _ = true; kernel_rfl)
    | (omega)))
        · exact idxOf_some (d := default) (by omega) ‹_› hj
        · refine ⟨i + 1, ⟨by omega, fun j hji => ?_⟩, by omega, .le2 ?_⟩
          · rcases Nat.lt_succ_iff_lt_or_eq.1 hji with h | rfl
            · exact hj j h
            · assumption
          · simp (maxSteps := 4000000) only [go_sem, seval]
            omega
      · subst hi1
        simp only [slC]; simp (maxSteps := 4000000) only [go_sem, seval]
        (repeat' (first
    | ((exfalso; omega))
    | (refine awp_seqK ?_)
    | (refine kt ?_)
    | (refine And.intro ?_ ?_)
    | ((first | refine awp_region ?_ | refine awp_draw (by kernel_rfl) (by kernel_rfl) ?_ | refine Imp.le2 ?_ | refine awp_label ?_ | refine awp_skip ?_ | refine awp_exit ?_ | refine awp_cd ?_ | refine awp_ret ?_ | refine go_split (fun _h => ?_) (fun _h => ?_)) <;> try simp (maxSteps := 4000000) only [go_sem, seval])
    | (intro _h)
    | (refine awp_block ?_)
    | (refine awp_scope ?_)
    | (refine cond_b (fun _h => ?_) (fun _h => ?_))
    | (show heapOK _ _ = true; kernel_rfl)
    | (show heapOK2 _ _ = true; kernel_rfl)
    | (omega)))
        all_goals first | exact idxOf_none (d := default) (fun j hjl => hj j (by omega)) | trace_state
  have h3 : SemF Try.prog 101 [slC l, .fn (.func 102) [] [.ptr 0 0 0]] [some (.cells 125 1 0 [fnH C D])] (.bool (l.any fun c => !q c)) [some (.cells 125 1 0 [fnH C D])] := by
    rw [← idxOf_ge]
    simp only [fnH, sl, slC] at h2 ⊢
    (refine semF_of_awp (ys := [.bool (decide (0 ≤ idxOf (fun c => !q c) l))]) (fun w args => Try.call101 ..) Try.func101 rfl (fun w0 m0 wz => ?_); simp only [Try.ntmps101, Try.results101, initT, junks, rptC, clmC, slR, slC, annC, sl, List.toList_toArray, List.cons_append, List.nil_append, List.length_cons, List.length_nil, Nat.reduceAdd, Nat.reduceSub])
    (repeat' (first
    | (refine awp_ownN 2 rfl ?_; simp (maxSteps := 4000000) only [go_sem, seval, List.take_succ_cons, List.take_zero]; (repeat refine And.intro (by omega) ?_); refine own_go (h2) [0] rfl ?_ ?_ rfl ?_ <;> try simp (maxSteps := 4000000) only [go_sem, seval, Nat.lt_irrefl] <;> try decide)
    | (refine awp_seqK ?_)
    | (refine kt ?_)
    | (refine And.intro ?_ ?_)
    | ((first | refine awp_region ?_ | refine awp_draw (by kernel_rfl) (by kernel_rfl) ?_ | refine Imp.le2 ?_ | refine awp_label ?_ | refine awp_skip ?_ | refine awp_exit ?_ | refine awp_cd ?_ | refine awp_ret ?_ | refine go_split (fun _h => ?_) (fun _h => ?_)) <;> try simp (maxSteps := 4000000) only [go_sem, seval])
    | (intro _h)
    | (refine awp_block ?_)
    | (refine awp_scope ?_)
    | (refine cond_b (fun _h => ?_) (fun _h => ?_))
    | (show heapOK _ _ = true; kernel_rfl)
    | (show heapOK2 _ _ = true; kernel_rfl)
    | (omega))) <;> simp [*]
  rw [hany]
  generalize (l.any fun c => !q c) = b at *
  simp only [fnH, sl, slC] at h3 ⊢
  (refine semF_of_awp (ys := [.bool (!b)]) (fun w args => Try.call75 ..) Try.func75 rfl (fun w0 m0 wz => ?_); simp only [Try.ntmps75, Try.results75, initT, junks, rptC, clmC, slR, slC, annC, sl, List.toList_toArray, List.cons_append, List.nil_append, List.length_cons, List.length_nil, Nat.reduceAdd, Nat.reduceSub])
  (repeat' (first
    | (refine awp_ownN 2 rfl ?_; simp (maxSteps := 4000000) only [go_sem, seval, List.take_succ_cons, List.take_zero]; (repeat refine And.intro (by omega) ?_); refine own_go (h3) [0] rfl ?_ ?_ rfl ?_ <;> try simp (maxSteps := 4000000) only [go_sem, seval, Nat.lt_irrefl] <;> try decide)
    | (refine awp_seqK ?_)
    | (refine kt ?_)
    | (refine And.intro ?_ ?_)
    | ((first | refine awp_region ?_ | refine awp_draw (by kernel_rfl) (by kernel_rfl) ?_ | refine Imp.le2 ?_ | refine awp_label ?_ | refine awp_skip ?_ | refine awp_exit ?_ | refine awp_cd ?_ | refine awp_ret ?_ | refine go_split (fun _h => ?_) (fun _h => ?_)) <;> try simp (maxSteps := 4000000) only [go_sem, seval])
    | (intro _h)
    | (refine awp_block ?_)
    | (refine awp_scope ?_)
    | (refine cond_b (fun _h => ?_) (fun _h => ?_))
    | (show heapOK _ _ = true; kernel_rfl)
    | (show heapOK2 _ _ = true; kernel_rfl)
    | (omega))) <;> simp [*]
def inR (t : Ann) (D : List Int) (j : Nat) : Prop := (rp t j).lo ≤ D.getD j 0 ∧ D.getD j 0 ≤ (rp t j).hi
def badP (t : Ann) (C D : List Int) (j k : Nat) : Prop := (C.getD j 0 = C.getD k 0 ∧ ((rp t j).slope ≠ (rp t k).slope ∨ 0 < max (D.getD j 0 - D.getD k 0) (D.getD k 0 - D.getD j 0))) ∨ (C.getD j 0 ≠ C.getD k 0 ∧ (rp t j).slope = (rp t k).slope ∧ max (D.getD j 0 - D.getD k 0) (D.getD k 0 - D.getD j 0) < max t.rest 1)
def RgP (t : Ann) (C D : List Int) (i : Nat) : Prop := ∀ j, j < i → inR t D j ∧ ∀ k, k < j → ¬ badP t C D j k
structure RightP (t : Ann) (C D : List Int) : Prop where
  fault : faultA t = 0
  lc : C.length = t.reports.length
  ld : D.length = t.reports.length
  num : numB C = true
  rg : RgP t C D t.reports.length
  hold : t.claims.all (hldB C D) = true
open Classical in
noncomputable def proveB (t : Ann) (C D : List Int) : Bool := decide (RightP t C D)
open Classical in
theorem proveB_iff {t : Ann} {C D : List Int} : proveB t C D = true ↔ RightP t C D := by unfold proveB; exact decide_eq_true_iff
theorem prove_c (t : Ann) (C D : List Int) (hb : annOK t) (ht : faultA t = 0 → AnnOK t) (hC : C.length ≤ 1000000) (hD : D.length ≤ 1000000) (hx : ∀ x ∈ C, -9223372036854775808 ≤ x ∧ x ≤ 9223372036854775806) : CallS Try.prog 43 [.agg (annC t), .agg [sl C, sl D]] (.bool (proveB t C D)) := by
  have hno : ¬ RightP t C D → false = proveB t C D := fun h => by
    have h1 : ¬ proveB t C D = true := fun h2 => h (proveB_iff.1 h2)
    simpa using h1
  have hyes : RightP t C D → true = proveB t C D := fun h => (proveB_iff.2 h).symm
  generalize proveB t C D = r at *
  have hch := check_c t hb
  have hnu := numbered_c C hC hx
  by_cases hA : faultA t = 0 ∧ C.length = t.reports.length ∧ D.length = t.reports.length ∧ numB C = true
  · obtain ⟨h0, h1, h2, h3⟩ := hA
    have hok := ht h0
    have hr := hok.reports
    have hap := apart_c t
    rw [h0] at hch
    rw [h3] at hnu
    have hno1 : ∀ j, j < t.reports.length → ¬ inR t D j → false = r := fun j hj h => hno fun hp => h (hp.rg j hj).1
    have hno2 : ∀ j k, j < t.reports.length → k < j → badP t C D j k → false = r := fun j k hj hk h => hno fun hp => (hp.rg j hj).2 k hk h
    have hall : RgP t C D t.reports.length → t.claims.all (hldB C D) = r := fun h => by
      cases hc : t.claims.all (hldB C D) with
      | true => exact hyes ⟨h0, h1, h2, h3, h, hc⟩
      | false => exact hno fun hp => by rw [hp.hold] at hc; cases hc
    have hho := holds_c C D t.claims (hldB C D) hb.2 (fun i hi => by
      have := hok.clm i hi
      exact hold_c C D _ this.1 (by rw [h1]; exact this.2.1) (by rw [h1]; exact this.2.2) (by omega) hC)
    clear hno hyes
    generalize t.claims.all (hldB C D) = cb at *
    simp only [annC, slR, slC, sl, fnH, h1, h2] at hch hnu hap hho ⊢
    (refine callS_of_awp (fun w args => Try.call43 ..) Try.func43 rfl (fun w0 m0 wz => ?_); simp only [Try.ntmps43, Try.results43, initT, junks, rptC, clmC, slR, slC, annC, sl, List.toList_toArray, List.cons_append, List.nil_append, List.length_cons, List.length_nil, Nat.reduceAdd, Nat.reduceSub])
    (repeat' (first
    | ((omega))
    | ((exfalso; omega))
    | (refine awp_seqK ?_)
    | (refine kt ?_)
    | (refine And.intro ?_ ?_)
    | ((first | refine awp_region ?_ | refine awp_draw (by kernel_rfl) (by kernel_rfl) ?_ | refine Imp.le2 ?_ | refine awp_label ?_ | refine awp_skip ?_ | refine awp_exit ?_ | refine awp_cd ?_ | refine awp_ret ?_ | refine callK_of (hch) ?_ | refine callK_of (hnu) ?_ | refine go_split (fun _h => ?_) (fun _h => ?_)) <;> try simp (maxSteps := 4000000) only [go_sem, seval])
    | (intro _h)
    | (refine awp_block ?_)
    | (refine awp_scope ?_)
    | (refine cond_b (fun _h => ?_) (fun _h => ?_))
    | (show heapOK _ _ = true; kernel_rfl)
    | (show heapOK2 _ _ = true; kernel_rfl)
    | (omega)))
    refine awp_loopJ (fun i : Nat => i ≤ t.reports.length ∧ RgP t C D i) (fun i => ⟨mkT 135 [(2, .ptr 0 0 0), (3, .ptr 1 0 0), (5, .int .i64 t.reports.length), (40, .psl false t.reports.length (recs rptC t.reports)), (41, .int .i64 t.reports.length), (42, .int .i64 i)], [some (.cells 35 1 0 [.psl false t.reports.length (recs rptC t.reports), .psl false t.claims.length (recs clmC t.claims), .int .i64 t.rest]), some (.cells 61 1 0 [.psl false t.reports.length (ints C), .psl false t.reports.length (ints D)])], []⟩) (fun i => t.reports.length - i) 0 ⟨Nat.zero_le _, fun j hj => by omega⟩ (.le2 ?_) ?_
    · simp (maxSteps := 4000000) only [go_sem, seval]
      all_goals first | rfl | trace_state
    · rintro i ⟨hi, hI⟩
      rcases Nat.lt_or_eq_of_le hi with hi1 | hi1
      · have n1 := fun (k : Nat) (hk : k < t.reports.length) K => show optK (nth (ints C) k) K = K (.int .i64 (C.getD k 0)) by rw [ints_nth (by omega)]; rfl
        have n2 := fun (k : Nat) (hk : k < t.reports.length) K => show optK (nth (ints D) k) K = K (.int .i64 (D.getD k 0)) by rw [ints_nth (by omega)]; rfl
        have n2i := n2 i hi1
        have hwin : window (recs rptC t.reports) 0 (i * 3) = recs rptC (t.reports.take i) := by
          have e : recs rptC t.reports = recs rptC (t.reports.take i) ++ recs rptC (t.reports.drop i) := by
            have : recs rptC (t.reports.take i ++ t.reports.drop i) = recs rptC (t.reports.take i) ++ recs rptC (t.reports.drop i) := by simp only [recs, List.flatMap_append]
            rw [← this, List.take_append_drop]
          simp only [window, List.drop_zero]
          rw [e]
          apply List.take_left'
          rw [len_R, List.length_take, Nat.min_eq_left (Nat.le_of_lt hi1)]
        have hha := has_c (t.reports.getD i default).lo (t.reports.getD i default).hi (D.getD i 0)
        by_cases hin : inR t D i
        · have hin' : (t.reports.getD i default).lo ≤ D.getD i 0 ∧ D.getD i 0 ≤ (t.reports.getD i default).hi := hin
          rw [decide_eq_true hin'] at hha
          simp (maxSteps := 4000000) only [go_sem, seval]
          (repeat' (first
    | ((omega))
    | ((exfalso; omega))
    | (refine awp_seqK ?_)
    | (refine kt ?_)
    | (refine And.intro ?_ ?_)
    | ((first | refine awp_region ?_ | refine awp_draw (by kernel_rfl) (by kernel_rfl) ?_ | refine Imp.le2 ?_ | refine awp_label ?_ | refine awp_skip ?_ | refine awp_exit ?_ | refine awp_cd ?_ | refine awp_ret ?_ | refine callK_of (hha) ?_ | refine go_split (fun _h => ?_) (fun _h => ?_)) <;> try simp (maxSteps := 4000000) only [go_sem, seval, n2i, hwin])
    | (intro _h)
    | (refine awp_block ?_)
    | (refine awp_scope ?_)
    | (refine cond_b (fun _h => ?_) (fun _h => ?_))
    | (show heapOK _ _ = true; kernel_rfl)
    | (show heapOK2 _ _ = true; kernel_rfl)
    | (omega)))
          have hbi := hok.rpt i hi1
          refine awp_loopJ (fun k : Nat => k ≤ i ∧ ∀ m, m < k → ¬ badP t C D i m) (fun k => ⟨mkT 135 [(2, .ptr 0 0 0), (3, .ptr 1 0 0), (5, .int .i64 t.reports.length), (6, .int .i64 i), (7, .ptr 2 0 0), (40, .psl false t.reports.length (recs rptC t.reports)), (41, .int .i64 t.reports.length), (42, .int .i64 i), (59, .psl false i (recs rptC (t.reports.take i))), (60, .int .i64 i), (61, .int .i64 k)], [some (.cells 35 1 0 [.psl false t.reports.length (recs rptC t.reports), .psl false t.claims.length (recs clmC t.claims), .int .i64 t.rest]), some (.cells 61 1 0 [.psl false t.reports.length (ints C), .psl false t.reports.length (ints D)]), some (.cells 58 1 0 [.int .i64 (t.reports.getD i default).slope, .int .i64 (t.reports.getD i default).lo, .int .i64 (t.reports.getD i default).hi])], []⟩) (fun k => i - k) 0 ⟨Nat.zero_le _, fun m hm => by omega⟩ (.le2 ?_) ?_
          · simp (maxSteps := 4000000) only [go_sem, seval]
            all_goals first | rfl | trace_state
          · rintro k ⟨hk, hK⟩
            rcases Nat.lt_or_eq_of_le hk with hk1 | hk1
            · have n1i := n1 i hi1
              have n1k := n1 k (by omega)
              have n2k := n2 k (by omega)
              have hik : (rp t k).lo ≤ D.getD k 0 ∧ D.getD k 0 ≤ (rp t k).hi := (hI k hk1).1
              have hbk : _ ∧ 0 ≤ (rp t k).lo ∧ _ ≤ _ ∧ (rp t k).hi ≤ 100000 := hok.rpt k (by omega)
              have hdk : 0 ≤ D.getD k 0 ∧ D.getD k 0 ≤ 100000 := by omega
              have hdi : 0 ≤ D.getD i 0 ∧ D.getD i 0 ≤ 100000 := by omega
              have htk : (t.reports.take i).getD k default = t.reports.getD k default := by
                simp only [List.getD_eq_getElem?_getD, List.getElem?_take, if_pos hk1]
              have hlt : (t.reports.take i).length = i := by rw [List.length_take]; omega
              have hbad : badP t C D i k ↔ (C.getD i 0 = C.getD k 0 ∧ ((t.reports.getD i default).slope ≠ (t.reports.getD k default).slope ∨ 0 < max (D.getD i 0 - D.getD k 0) (D.getD k 0 - D.getD i 0))) ∨ (C.getD i 0 ≠ C.getD k 0 ∧ (t.reports.getD i default).slope = (t.reports.getD k default).slope ∧ max (D.getD i 0 - D.getD k 0) (D.getD k 0 - D.getD i 0) < max t.rest 1) := Iff.rfl
              have hno := hno2 i k hi1 hk1
              have hstep : ¬ badP t C D i k → ∀ m, m < k + 1 → ¬ badP t C D i m := fun h m hm => by
                by_cases e : m = k
                · subst e; exact h
                · exact hK m (by omega)
              clear hik hbk hha hin hin' hK hall hno1 hno2
              simp (maxSteps := 4000000) only [go_sem, seval]
              (repeat' (first
    | ((omega))
    | ((exfalso; omega))
    | (refine awp_seqK ?_)
    | (refine kt ?_)
    | (refine And.intro ?_ ?_)
    | ((first | refine awp_region ?_ | refine awp_draw (by kernel_rfl) (by kernel_rfl) ?_ | refine Imp.le2 ?_ | refine awp_label ?_ | refine awp_skip ?_ | refine awp_exit ?_ | refine awp_cd ?_ | refine awp_ret ?_ | refine callK_of (hap) ?_ | refine callK_of (latest_c _ _ _) ?_ | refine go_split (fun _h => ?_) (fun _h => ?_)) <;> try simp (maxSteps := 4000000) only [go_sem, seval, n1i, n1k, n2i, n2k, htk, hlt])
    | (intro _h)
    | (refine awp_block ?_)
    | (refine awp_scope ?_)
    | (refine cond_b (fun _h => ?_) (fun _h => ?_))
    | (show heapOK _ _ = true; kernel_rfl)
    | (show heapOK2 _ _ = true; kernel_rfl)
    | (omega)))
              all_goals first
                | exact hno (hbad.2 (by omega))
                | exact (hno (hbad.2 (by omega))).symm
                | (refine ⟨k + 1, ⟨by omega, hstep (fun h => by have := hbad.1 h; omega)⟩, by omega, .le2 ?_⟩
                   simp (maxSteps := 4000000) only [go_sem, seval]
                   all_goals first | rfl | trace_state)
                | trace_state
            · subst hk1
              simp (maxSteps := 4000000) only [go_sem, seval]
              (repeat' (first
    | ((omega))
    | ((exfalso; omega))
    | (refine awp_seqK ?_)
    | (refine kt ?_)
    | (refine And.intro ?_ ?_)
    | ((first | refine awp_region ?_ | refine awp_draw (by kernel_rfl) (by kernel_rfl) ?_ | refine Imp.le2 ?_ | refine awp_label ?_ | refine awp_skip ?_ | refine awp_exit ?_ | refine awp_cd ?_ | refine awp_ret ?_ | refine go_split (fun _h => ?_) (fun _h => ?_)) <;> try simp (maxSteps := 4000000) only [go_sem, seval])
    | (intro _h)
    | (refine awp_block ?_)
    | (refine awp_scope ?_)
    | (refine cond_b (fun _h => ?_) (fun _h => ?_))
    | (show heapOK _ _ = true; kernel_rfl)
    | (show heapOK2 _ _ = true; kernel_rfl)
    | (omega)))
              all_goals first
                | (refine ⟨k + 1, ⟨by omega, fun j hj => ?_⟩, by omega, .le2 ?_⟩
                   · by_cases e : j = k
                     · subst e; exact ⟨hin, hK⟩
                     · exact hI j (by omega)
                   · simp (maxSteps := 4000000) only [go_sem, seval]
                     all_goals first | rfl | trace_state)
                | trace_state
        · have hno := hno1 i hi1 hin
          have hin' : ¬ ((t.reports.getD i default).lo ≤ D.getD i 0 ∧ D.getD i 0 ≤ (t.reports.getD i default).hi) := hin
          rw [decide_eq_false hin'] at hha
          simp (maxSteps := 4000000) only [go_sem, seval]
          (repeat' (first
    | ((exact hno))
    | ((exact hno.symm))
    | ((omega))
    | ((exfalso; omega))
    | (refine awp_seqK ?_)
    | (refine kt ?_)
    | (refine And.intro ?_ ?_)
    | ((first | refine awp_region ?_ | refine awp_draw (by kernel_rfl) (by kernel_rfl) ?_ | refine Imp.le2 ?_ | refine awp_label ?_ | refine awp_skip ?_ | refine awp_exit ?_ | refine awp_cd ?_ | refine awp_ret ?_ | refine callK_of (hha) ?_ | refine go_split (fun _h => ?_) (fun _h => ?_)) <;> try simp (maxSteps := 4000000) only [go_sem, seval, n2i, hwin])
    | (intro _h)
    | (refine awp_block ?_)
    | (refine awp_scope ?_)
    | (refine cond_b (fun _h => ?_) (fun _h => ?_))
    | (show heapOK _ _ = true; kernel_rfl)
    | (show heapOK2 _ _ = true; kernel_rfl)
    | (omega)))
          all_goals trace_state
      · subst hi1
        have hall := hall hI
        subst hall
        simp (maxSteps := 4000000) only [go_sem, seval]
        (repeat' (first
    | (refine awp_ownN 4 rfl ?_; simp (maxSteps := 4000000) only [go_sem, seval, List.take_succ_cons, List.take_zero]; (repeat refine And.intro (by omega) ?_); refine own_go (hho) [] rfl ?_ ?_ rfl ?_ <;> try simp (maxSteps := 4000000) only [go_sem, seval, Nat.lt_irrefl] <;> try decide)
    | ((omega))
    | ((exfalso; omega))
    | (refine awp_seqK ?_)
    | (refine kt ?_)
    | (refine And.intro ?_ ?_)
    | ((first | refine awp_region ?_ | refine awp_draw (by kernel_rfl) (by kernel_rfl) ?_ | refine Imp.le2 ?_ | refine awp_label ?_ | refine awp_skip ?_ | refine awp_exit ?_ | refine awp_cd ?_ | refine awp_ret ?_ | refine go_split (fun _h => ?_) (fun _h => ?_)) <;> try simp (maxSteps := 4000000) only [go_sem, seval])
    | (intro _h)
    | (refine awp_block ?_)
    | (refine awp_scope ?_)
    | (refine cond_b (fun _h => ?_) (fun _h => ?_))
    | (show heapOK _ _ = true; kernel_rfl)
    | (show heapOK2 _ _ = true; kernel_rfl)
    | (omega)))
        all_goals trace_state
  · have hno := hno fun hp => hA ⟨hp.fault, hp.lc, hp.ld, hp.num⟩
    clear ht
    generalize numB C = q at *
    generalize faultA t = e at *
    simp only [annC, slR, slC, sl] at hch hnu ⊢
    cases q
    all_goals
      simp only [and_true, Bool.false_eq_true, and_false, not_false_eq_true] at hA
      (refine callS_of_awp (fun w args => Try.call43 ..) Try.func43 rfl (fun w0 m0 wz => ?_); simp only [Try.ntmps43, Try.results43, initT, junks, rptC, clmC, slR, slC, annC, sl, List.toList_toArray, List.cons_append, List.nil_append, List.length_cons, List.length_nil, Nat.reduceAdd, Nat.reduceSub])
      (repeat' (first
    | ((exact hno))
    | ((exact hno.symm))
    | ((omega))
    | ((exfalso; omega))
    | (refine awp_seqK ?_)
    | (refine kt ?_)
    | (refine And.intro ?_ ?_)
    | ((first | refine awp_region ?_ | refine awp_draw (by kernel_rfl) (by kernel_rfl) ?_ | refine Imp.le2 ?_ | refine awp_label ?_ | refine awp_skip ?_ | refine awp_exit ?_ | refine awp_cd ?_ | refine awp_ret ?_ | refine callK_of (hch) ?_ | refine callK_of (hnu) ?_ | refine go_split (fun _h => ?_) (fun _h => ?_)) <;> try simp (maxSteps := 4000000) only [go_sem, seval])
    | (intro _h)
    | (refine awp_block ?_)
    | (refine awp_scope ?_)
    | (refine cond_b (fun _h => ?_) (fun _h => ?_))
    | (show heapOK _ _ = true; kernel_rfl)
    | (show heapOK2 _ _ = true; kernel_rfl)
    | (omega)))
      all_goals trace_state
end Go.Am

/- The law AnnalsTruth, as a contract: it returns true, if awake does. -/
namespace Go.Am
open Go.RowKit Go.Proofs
attribute [local irreducible] AWP CallS Kt goK CallK stepK evOps SemF SemY Imp
set_option maxRecDepth 4000
set_option linter.unusedSimpArgs false
set_option linter.unusedVariables false
set_option maxHeartbeats 32000000
/-- What Days, Ways, Surely and ProveChronicle say of annals of which no statement is wrong. -/
structure TruP (u : Ann) (C D : List Int) (i k : Nat) : Prop where
  prove : proveB u C D = true
  fd : (fiV u).1 = true
  low : ∀ j, j < u.reports.length → (fiV u).2.getD j 0 ≤ D.getD j 0
  high : ∀ j, j < u.reports.length → D.getD j 0 ≤ 100000 - (fiV (mirA u)).2.getD j 0
  way : (waV u).1.length ≠ 0
  mem : (waV u).1.length ≤ 100 → C ∈ (waV u).1
  len : ∀ s ∈ (waV u).1, s.length = u.reports.length
  su : C.getD i 0 = C.getD k 0 → (suV u ⟨i, k⟩).1 = true
  so : C.getD i 0 ≠ C.getD k 0 → (suV u ⟨i, k⟩).2 = true
theorem tru_p {u : Ann} {C D : List Int} (hu : AnnOK u) (h0 : faultA u = 0) (hc : Chr u (fun i => C.getD i 0) (fun i => D.getD i 0)) (hn : numB C = true) (hlc : C.length = u.reports.length) (hld : D.length = u.reports.length) {i k : Nat} (hi : i < u.reports.length) (hk : k < u.reports.length) : TruP u C D i k := by
  have hf := fiV_spec hu
  have hm := fiV_spec (mirA_ok hu)
  have hw := (waV_spec hu).2
  have hs := suV_spec hu (p := ⟨i, k⟩) ⟨⟨by simp, by simpa using hi⟩, by simp, by simpa using hk⟩
  simp only [Int.toNat_natCast] at hs
  have hmem : (waV u).1.length ≤ 100 → C ∈ (waV u).1 := fun hl => by
    have := hw.all hl _ _ hc
    have e : SL u.reports.length (fun i => C.getD i 0) = C := by rw [← hlc]; exact num_SL hn
    rw [e] at this; exact this
  have hfd : (fiV u).1 = true := hf.fd.2 ⟨_, _, hc⟩
  refine ⟨proveB_iff.2 ⟨h0, hlc, hld, hn, fun j hj => ⟨hc.day j hj, fun k hk hb => ?_⟩, ?_⟩, hfd, fun j hj => hf.le _ _ hc j hj, fun j hj => ?_, (way_fd hu).1 hfd, hmem, fun s hs => ?_, fun e => hs.one.2 ⟨_, _, hc, e⟩, fun e => hs.other.2 ⟨_, _, hc, e⟩⟩
  · unfold badP at hb
    rcases hb with ⟨h1, h2⟩ | ⟨h1, h2, h3⟩
    · have h4 : _ ∧ D.getD j 0 = D.getD k 0 := hc.same j k hj (by omega) h1
      rcases h2 with h2 | h2
      · exact h2 h4.1
      · have := h4.2
        omega
    · have h4 : D.getD j 0 + max u.rest 1 ≤ D.getD k 0 ∨ D.getD k 0 + max u.rest 1 ≤ D.getD j 0 := hc.gap j k hj (by omega) h1 h2
      omega
  · rw [List.all_eq_true]
    intro c hcm
    obtain ⟨j, hj, rfl⟩ := List.mem_iff_getElem.1 hcm
    have e : cl u j = u.claims[j] := by unfold cl; rw [List.getD_eq_getElem?_getD, List.getElem?_eq_getElem hj]; rfl
    have h1 := hc.before j hj
    have h2 := hc.one j hj
    have h3 := hc.other j hj
    rw [e] at h1 h2 h3
    unfold hldB
    by_cases k0 : u.claims[j].kind = 0
    · rw [if_pos k0]; exact decide_eq_true (h1 k0)
    · rw [if_neg k0]
      by_cases k1 : u.claims[j].kind = 1
      · rw [if_pos k1]; exact decide_eq_true (h2 k1)
      · rw [if_neg k1, decide_eq_false (h3 k0 k1)]; rfl
  · have h1 : (fiV (mirA u)).2.getD j 0 ≤ 100000 - D.getD j 0 := hm.le _ _ (chr_mir hc) j (by rw [mirA_len]; exact hj)
    omega
  · obtain ⟨C', D', _, rfl⟩ := hw.mem s hs
    exact SL_len
theorem nth_G0 {l : List (Int × Int)} {i : Nat} {K : AV → Prop} : optK (nth (recs rngC l) (i * 2)) K = (i < l.length ∧ K (.int .i64 (l.getD i default).1)) := nth_recs (sz := 2) (o := 0) (fun _ => rfl) (by omega)
theorem nth_G1 {l : List (Int × Int)} {i : Nat} {K : AV → Prop} : optK (nth (recs rngC l) (i * 2 + 1)) K = (i < l.length ∧ K (.int .i64 (l.getD i default).2)) := nth_recs (sz := 2) (o := 1) (fun _ => rfl) (by omega)
theorem ren_R {σ : Nat → Nat} : ∀ {l : List Rpt}, renL σ (recs rptC l) = recs rptC l
  | [] => rfl
  | x :: l => by
    have ih := ren_R (σ := σ) (l := l)
    have hc : recs rptC (x :: l) = .int .i64 x.slope :: .int .i64 x.lo :: .int .i64 x.hi :: recs rptC l := by simp [recs, rptC]
    rw [hc]
    simp only [renL, ih, ren]
theorem refs_R {p : Nat → Prop} : ∀ {l : List Rpt}, refsL p (recs rptC l) = True
  | [] => rfl
  | x :: l => by
    have ih := refs_R (p := p) (l := l)
    have hc : recs rptC (x :: l) = .int .i64 x.slope :: .int .i64 x.lo :: .int .i64 x.hi :: recs rptC l := by simp [recs, rptC]
    rw [hc]
    simp only [refsL, ih, refs, and_true]
attribute [go_sem] nth_G0 nth_G1 ren_R refs_R
def mixR (ws D : List Int) (t : Ann) (j : Nat) : List Rpt := tab t.reports.length fun i => if i < j then truR ws D t i else t.reports.getD i default
theorem mix_0 {ws D : List Int} {t : Ann} : mixR ws D t 0 = t.reports := by
  apply List.ext_getElem
  · simp [mixR, tab]
  · intro i h1 h2
    simp [mixR, tab, List.getD_eq_getElem?_getD, h2]
theorem mix_n {ws D : List Int} {t : Ann} : mixR ws D t t.reports.length = tab t.reports.length (truR ws D t) := by
  simp only [mixR, tab]
  apply List.map_congr_left
  intro i hi
  rw [List.mem_range] at hi
  simp only [if_pos hi]
theorem mix_get {ws D : List Int} {t : Ann} {j : Nat} (h : j < t.reports.length) : (mixR ws D t j).getD j default = t.reports.getD j default := by
  unfold mixR
  rw [tab_getR h, if_neg (Nat.lt_irrefl _)]
theorem mix_len {ws D : List Int} {t : Ann} {j : Nat} : (mixR ws D t j).length = t.reports.length := tab_length
theorem mix_next {ws D : List Int} {t : Ann} {j : Nat} (h : j < t.reports.length) : isp (mixR ws D t j) j (truR ws D t j) = mixR ws D t (j + 1) := by
  unfold mixR
  rw [isp_tab h]
  simp only [tab]
  apply List.map_congr_left
  intro i hi
  by_cases e : i = j
  · subst e; rw [if_pos rfl, if_pos (by omega)]
  · rw [if_neg e]
    by_cases e2 : i < j
    · rw [if_pos e2, if_pos (by omega)]
    · rw [if_neg e2, if_neg (by omega)]
theorem take_anyT {l : List (List Int)} {s : List Int} {k : Nat} (h : k < l.length) : (l.take (k + 1)).any (fun x => decide (x = s)) = ((l.take k).any (fun x => decide (x = s)) || decide (l.getD k [] = s)) := by
  rw [List.take_succ_eq_append_getElem h, List.any_append]
  simp [List.getD_eq_getElem?_getD, h]
theorem recs_snT {l : List Clm} {k a b : Int} : recs clmC l ++ [.int .u8 k, .int .i64 a, .int .i64 b] = recs clmC (l ++ [⟨k, a, b⟩]) := by rw [recs_snoc]; rfl
theorem tru_c (ws : List Int) (h : Hap) (t : Ann) : annC (truA ws h t) = [.psl false t.reports.length (recs rptC (tab t.reports.length (truR ws h.D t))), .psl false (truC h t t.claims.length).length (recs clmC (truC h t t.claims.length)), .int .i64 t.rest] := by
  simp only [annC, slR, slC, truA, tab_length]
theorem truthLaw (hA : CallS Try.prog 17 [] (.bool true)) (t : Ann) (hkd : ∀ c ∈ t.claims, 0 ≤ c.kind) (ws : List Int) (hw : ∀ x ∈ ws, 0 ≤ x ∧ x ≤ 65535) (hwl : ws.length ≤ 9223372036854775807) (x y : Int) (hx : 0 ≤ x ∧ x ≤ 255) (hy : 0 ≤ y ∧ y ≤ 255) : CallS Try.prog 11 [.agg (annC t), slU ws, .int .u8 x, .int .u8 y] (.bool true) := by
  have hre := ready_c t
  cases hR : readyB t with
  | false =>
    rw [hR] at hre
    simp only [annC, slR, slC, slU] at hre ⊢
    (refine callS_of_awp (fun w args => Try.call11 ..) Try.func11 rfl (fun w0 m0 wz => ?_); simp only [Try.ntmps11, Try.results11, initT, junks, rptC, clmC, slR, slC, annC, sl, List.toList_toArray, List.cons_append, List.nil_append, List.length_cons, List.length_nil, Nat.reduceAdd, Nat.reduceSub])
    (repeat' (first
    | (refine awp_seqK ?_)
    | (refine kt ?_)
    | (refine And.intro ?_ ?_)
    | ((first | refine awp_region ?_ | refine awp_draw (by kernel_rfl) (by kernel_rfl) ?_ | refine Imp.le2 ?_ | refine awp_label ?_ | refine awp_skip ?_ | refine awp_exit ?_ | refine awp_cd ?_ | refine awp_ret ?_ | refine callK_of (hre) ?_ | refine callK_of (hA) ?_ | refine go_split (fun _h => ?_) (fun _h => ?_)) <;> try simp (maxSteps := 4000000) only [go_sem, seval])
    | (intro _h)
    | (refine awp_block ?_)
    | (refine awp_scope ?_)
    | (refine cond_b (fun _h => ?_) (fun _h => ?_))
    | (show heapOK _ _ = true; kernel_rfl)
    | (show heapOK2 _ _ = true; kernel_rfl)
    | (omega)))
    all_goals trace_state
  | true =>
    rw [hR] at hre
    have hb : annOK t := thinB_ok (by simp only [readyB, Bool.and_eq_true] at hR; exact hR.1)
    have h0 : faultA t = 0 := by simp only [readyB, Bool.and_eq_true, decide_eq_true_eq] at hR; exact hR.2
    have ht := faultA_ok hkd h0
    have hr := ht.reports
    have hcl := ht.claims
    by_cases hrest : t.rest ≤ 10000
    · have hhap := happened_c t ws ht hrest hw hwl
      have hp := hapK_ok (t := t) hw ⟨ht.rest.1, hrest⟩ t.reports.length
      generalize hapK t ws t.reports.length = h at *
      have hbd := hp.bd
      have hlc := hp.lc
      have hld := hp.ld
      have hb1 : ∀ i, i < t.reports.length → 0 ≤ h.D.getD i 0 ∧ h.D.getD i 0 ≤ 100000 := fun i hi => by have := hbd i hi; omega
      have hf0 := tru_fault (h := h) hw h0 hb1
      have hchr := tru_chr (h := h) hw ht hp (fun i hi => (hb1 i hi).2)
      have hu := faultA_ok (tru_kd (ws := ws) (h := h) hkd) hf0
      have hao := annals_o t hb
      have hx1 := rem_c (x := x) (n := t.reports.length) hx.1
      have hy1 := rem_c (x := y) (n := t.reports.length) hy.1
      have hi := Nat.mod_lt x.toNat (show 0 < t.reports.length by omega)
      have hk := Nat.mod_lt y.toNat (show 0 < t.reports.length by omega)
      generalize x.toNat % t.reports.length = i at *
      generalize y.toNat % t.reports.length = k at *
      have hT := tru_p hu hf0 hchr (by have := hp.num; unfold numB; rw [hlc]; exact decide_eq_true this) (by rw [tru_len]; exact hlc) (by rw [tru_len]; exact hld) (i := i) (k := k) (by rw [tru_len]; exact hi) (by rw [tru_len]; exact hk)
      obtain ⟨C, D, nx⟩ := h
      simp only at hlc hld hb1 hhap hT
      simp only [annC, slR, slC, slU] at hre hao hhap ⊢
      (refine callS_of_awp (fun w args => Try.call11 ..) Try.func11 rfl (fun w0 m0 wz => ?_); simp only [Try.ntmps11, Try.results11, initT, junks, rptC, clmC, slR, slC, annC, sl, List.toList_toArray, List.cons_append, List.nil_append, List.length_cons, List.length_nil, Nat.reduceAdd, Nat.reduceSub])
      (repeat' (first
    | (refine awp_ownN 1 rfl ?_; simp (maxSteps := 4000000) only [go_sem, seval, List.take_succ_cons, List.take_zero]; (repeat refine And.intro (by omega) ?_); refine own_go (hao) [] rfl ?_ ?_ rfl ?_ <;> try simp (maxSteps := 4000000) only [go_sem, seval, Nat.lt_irrefl] <;> try decide)
    | ((omega))
    | ((exfalso; omega))
    | (refine awp_seqK ?_)
    | (refine kt ?_)
    | (refine And.intro ?_ ?_)
    | ((first | refine awp_region ?_ | refine awp_draw (by kernel_rfl) (by kernel_rfl) ?_ | refine Imp.le2 ?_ | refine awp_label ?_ | refine awp_skip ?_ | refine awp_exit ?_ | refine awp_cd ?_ | refine awp_ret ?_ | refine callK_of (hre) ?_ | refine callK_of (hA) ?_ | refine callK_of (hhap) ?_ | refine go_split (fun _h => ?_) (fun _h => ?_)) <;> try simp (maxSteps := 4000000) only [go_sem, seval])
    | (intro _h)
    | (refine awp_block ?_)
    | (refine awp_scope ?_)
    | (refine cond_b (fun _h => ?_) (fun _h => ?_))
    | (show heapOK _ _ = true; kernel_rfl)
    | (show heapOK2 _ _ = true; kernel_rfl)
    | (omega)))
      refine awp_adH 6 1 73 3 rfl rfl ?_
      simp only [adH, hget, hset, lset, List.length_cons, List.length_nil, Nat.reduceAdd]
      have n1 := fun (q : Nat) (hq : q < t.reports.length) K => show optK (nth (ints C) q) K = K (.int .i64 (C.getD q 0)) by rw [ints_nth (by omega)]; rfl
      have n2 := fun (q : Nat) (hq : q < t.reports.length) K => show optK (nth (ints D) q) K = K (.int .i64 (D.getD q 0)) by rw [ints_nth (by omega)]; rfl
      clear hhap hao hre
      refine awp_loopN t.reports.length (fun j => ⟨mkT 300 [(1, .psl false ws.length (u16s ws)), (2, .int .u8 x), (3, .int .u8 y), (4, .ptr 0 0 0), (9, .ptr 1 0 0), (10, .ptr 6 0 0), (11, .int .i64 t.reports.length), (12, .int .i64 j)], [some (.cells 25 1 0 [.psl false t.reports.length (recs rptC t.reports), .psl false t.claims.length (recs clmC t.claims), .int .i64 t.rest]), some (.cells 85 1 0 [.psl false t.reports.length (ints C), .psl false t.reports.length (ints D)]), none, none, none, some (.cells 58 3 t.reports.length (recs rptC (mixR ws D t j))), some (.cells 35 1 0 [.osl 5 t.reports.length 0 t.reports.length, .osl 7 0 0 0, .int .i64 t.rest]), some (.cells 73 3 0 [])], []⟩) (.le2 ?_) ?_
      · rw [mix_0]
        simp (maxSteps := 4000000) only [go_sem, seval]
        all_goals first | rfl | trace_state
      · intro j hj
        rcases Nat.lt_or_eq_of_le hj with hj1 | hj1
        · have n2j := n2 j hj1
          have hbj := hb1 j hj1
          have hml := mix_len (ws := ws) (D := D) (t := t) (j := j)
          have hwb := word2_bd hw j
          have hwb2 := hwb.2 (by omega)
          have hsp := sp_when (l := mixR ws D t j) (k := j) (a := max 0 (D.getD j 0 - word2 ws j % 50)) (b := min 100000 (D.getD j 0 + word2 ws j / 50 % 50)) (by rw [mix_len]; exact hj1)
          rw [mix_get hj1] at hsp
          have hsp2 : _ = recs rptC (mixR ws D t (j + 1)) := hsp.trans (by rw [← mix_next hj1]; rfl)
          have hw2 : word2 ws j = if ws.length = 0 then 7 * (j : Int) else ws.getD ((j + 3) % ws.length) 0 := rfl
          clear hsp hT hchr hf0 hu hp hbd n1
          by_cases hz : ws.length = 0
          · rw [if_pos hz] at hw2
            generalize word2 ws j = W at *
            subst hw2
            have q1 : (7 * (j : Int)).tmod 50 = 7 * (j : Int) % 50 := Int.tmod_eq_emod_of_nonneg (by omega)
            have q2 : (7 * (j : Int)).tdiv 50 = 7 * (j : Int) / 50 := Int.tdiv_eq_ediv_of_nonneg (by omega)
            have q3 : (7 * (j : Int) / 50).tmod 50 = 7 * (j : Int) / 50 % 50 := Int.tmod_eq_emod_of_nonneg (by omega)
            simp (maxSteps := 4000000) only [go_sem, seval]
            (repeat' (first
    | ((omega))
    | ((exfalso; omega))
    | (refine awp_seqK ?_)
    | (refine kt ?_)
    | (refine And.intro ?_ ?_)
    | ((first | refine awp_region ?_ | refine awp_draw (by kernel_rfl) (by kernel_rfl) ?_ | refine Imp.le2 ?_ | refine awp_label ?_ | refine awp_skip ?_ | refine awp_exit ?_ | refine awp_cd ?_ | refine awp_ret ?_ | refine callK_of (span_c _ _) ?_ | refine callK_of (hA) ?_ | refine go_split (fun _h => ?_) (fun _h => ?_)) <;> try simp (maxSteps := 4000000) only [go_sem, seval, n2j, q1, q2, q3, hml, hsp2])
    | (intro _h)
    | (refine awp_block ?_)
    | (refine awp_scope ?_)
    | (refine cond_b (fun _h => ?_) (fun _h => ?_))
    | (show heapOK _ _ = true; kernel_rfl)
    | (show heapOK2 _ _ = true; kernel_rfl)
    | (omega)))
            all_goals trace_state
          · rw [if_neg hz] at hw2
            have hm := Nat.mod_lt (j + 3) (show 0 < ws.length by omega)
            have hrm := rem_c (x := (j : Int) + 3) (n := ws.length) (by omega)
            have hjt : ((j : Int) + 3).toNat = j + 3 := by omega
            rw [hjt] at hrm
            have hnw := fun K => u16s_nth hm (K := K)
            have hul := u16s_length (l := ws)
            rw [← hw2] at hnw
            clear hw2
            generalize word2 ws j = W at *
            generalize (j + 3) % ws.length = q at *
            have q1 : W.tmod 50 = W % 50 := Int.tmod_eq_emod_of_nonneg (by omega)
            have q2 : W.tdiv 50 = W / 50 := Int.tdiv_eq_ediv_of_nonneg (by omega)
            have q3 : (W / 50).tmod 50 = W / 50 % 50 := Int.tmod_eq_emod_of_nonneg (by omega)
            simp (maxSteps := 4000000) only [go_sem, seval]
            (repeat' (first
    | ((omega))
    | ((exfalso; omega))
    | (refine awp_seqK ?_)
    | (refine kt ?_)
    | (refine And.intro ?_ ?_)
    | ((first | refine awp_region ?_ | refine awp_draw (by kernel_rfl) (by kernel_rfl) ?_ | refine Imp.le2 ?_ | refine awp_label ?_ | refine awp_skip ?_ | refine awp_exit ?_ | refine awp_cd ?_ | refine awp_ret ?_ | refine callK_of (span_c _ _) ?_ | refine callK_of (hA) ?_ | refine go_split (fun _h => ?_) (fun _h => ?_)) <;> try simp (maxSteps := 4000000) only [go_sem, seval, n2j, hrm, hnw, hul, q1, q2, q3, hml, hsp2])
    | (intro _h)
    | (refine awp_block ?_)
    | (refine awp_scope ?_)
    | (refine cond_b (fun _h => ?_) (fun _h => ?_))
    | (show heapOK _ _ = true; kernel_rfl)
    | (show heapOK2 _ _ = true; kernel_rfl)
    | (omega)))
            all_goals trace_state
        · subst hj1
          rw [mix_n]
          have hTl : (tab t.reports.length (truR ws D t)).length = t.reports.length := tab_length
          have hAu := tru_c ws ⟨C, D, nx⟩ t
          simp only at hAu
          have hTC := fun q => truC_len (h := ⟨C, D, nx⟩) (t := t) q
          have htl : (truA ws ⟨C, D, nx⟩ t).reports.length = t.reports.length := tru_len
          have hbu : annOK (truA ws ⟨C, D, nx⟩ t) := ⟨by rw [htl]; exact hb.1, by have := hTC t.claims.length; show (truC _ t t.claims.length).length ≤ _; omega⟩
          have hda := Days_c _ hbu (fun _ => hu) (fun _ h => fiV_mir hu (mirA_ok hu) h)
          have hwa := Ways_c _ hbu (fun _ => hu)
          have hsu := Surely_c _ i k hbu (fun _ => hu)
          have hpr := prove_c _ C D hbu (fun _ => hu) (by omega) (by omega) (fun x hx => by
            obtain ⟨q, hq, rfl⟩ := List.mem_iff_getElem.1 hx
            have h1 := hp.num q (by omega)
            have h2 := nxK_bd (s := C) q
            simp only [List.getD_eq_getElem?_getD, List.getElem?_eq_getElem hq, Option.getD_some] at h1
            omega)
          obtain ⟨p1, p2, p3, p4, p5, p6, p7, p8, p9⟩ := hT
          have e1 : dayE (truA ws ⟨C, D, nx⟩ t) = 0 := by unfold dayE; rw [if_pos hf0, if_pos p2]
          have e2 : dayV (truA ws ⟨C, D, nx⟩ t) = slG (tab t.reports.length (dayF (fiV (truA ws ⟨C, D, nx⟩ t)).2 (fiV (mirA (truA ws ⟨C, D, nx⟩ t))).2)) := by unfold dayV; rw [if_pos e1, htl]
          have e3 : i ≠ k → sureE (truA ws ⟨C, D, nx⟩ t) i k = 0 := fun hik => by
            unfold sureE
            have c1 : ((0 : Int) ≤ i ∧ (i : Int) < (truA ws ⟨C, D, nx⟩ t).reports.length) ∧ ((0 : Int) ≤ k ∧ (k : Int) < (truA ws ⟨C, D, nx⟩ t).reports.length) ∧ (i : Int) ≠ k := by rw [htl]; omega
            rw [if_pos hf0, if_pos c1, if_neg]
            intro h
            by_cases hCC : C.getD i 0 = C.getD k 0
            · have := p8 hCC; rw [h] at this; cases this
            · have := p9 hCC; rw [h] at this; cases this
          have e4 : sureE (truA ws ⟨C, D, nx⟩ t) i k = 0 → sureV (truA ws ⟨C, D, nx⟩ t) i k = if (suV (truA ws ⟨C, D, nx⟩ t) ⟨i, k⟩).1 = true then (if (suV (truA ws ⟨C, D, nx⟩ t) ⟨i, k⟩).2 = true then 3 else 1) else 2 := fun h => by
            unfold sureV; rw [if_pos h]
          have e5 : wayE (truA ws ⟨C, D, nx⟩ t) = if 100 < (waV (truA ws ⟨C, D, nx⟩ t)).1.length then 3 else 0 := by unfold wayE; rw [if_pos hf0, if_neg p5]
          have e6 : wayV (truA ws ⟨C, D, nx⟩ t) = if wayE (truA ws ⟨C, D, nx⟩ t) = 0 then slW (waV (truA ws ⟨C, D, nx⟩ t)).1 else .nils := rfl
          have htb : ∀ j, j < t.reports.length → (tab t.reports.length (dayF (fiV (truA ws ⟨C, D, nx⟩ t)).2 (fiV (mirA (truA ws ⟨C, D, nx⟩ t))).2)).getD j default = ((fiV (truA ws ⟨C, D, nx⟩ t)).2.getD j 0, 100000 - (fiV (mirA (truA ws ⟨C, D, nx⟩ t))).2.getD j 0) := fun j hj => by
            simp [tab, dayF, List.getD_eq_getElem?_getD, hj]
          have htd : ∀ j, j < t.reports.length → ((tab t.reports.length (dayF (fiV (truA ws ⟨C, D, nx⟩ t)).2 (fiV (mirA (truA ws ⟨C, D, nx⟩ t))).2)).getD j default).1 ≤ D.getD j 0 ∧ D.getD j 0 ≤ ((tab t.reports.length (dayF (fiV (truA ws ⟨C, D, nx⟩ t)).2 (fiV (mirA (truA ws ⟨C, D, nx⟩ t))).2)).getD j default).2 := fun j hj => by
            rw [htb j hj]; exact ⟨p3 j (by rw [htl]; exact hj), p4 j (by rw [htl]; exact hj)⟩
          have hla : (tab t.reports.length (dayF (fiV (truA ws ⟨C, D, nx⟩ t)).2 (fiV (mirA (truA ws ⟨C, D, nx⟩ t))).2)).length = t.reports.length := tab_length
          rw [p1] at hpr
          rw [e1, e2] at hda
          rw [e6, e5] at hwa
          rw [hAu] at hda hwa hsu hpr
          have hb2 : ∀ j, j < t.reports.length → 0 ≤ D.getD j 0 ∧ D.getD j 0 ≤ 100000 := hb1
          clear htb e1 e2 e5 e6 hAu p1 p2 p3 p4 p5 hchr hf0 hbd hp hb1
          have hTk : ∀ q, truC ⟨C, D, nx⟩ t (q + 1) = if truB ⟨C, D, nx⟩ (t.claims.getD q default) = true then truC ⟨C, D, nx⟩ t q ++ [t.claims.getD q default] else truC ⟨C, D, nx⟩ t q := fun q => rfl
          have hTB : ∀ c, truB ⟨C, D, nx⟩ c = ((decide (c.kind = 0) && decide (D.getD c.a.toNat 0 < D.getD c.b.toNat 0)) || (decide (c.kind = 1) && decide (C.getD c.a.toNat 0 = C.getD c.b.toNat 0)) || (decide (c.kind = 2) && !decide (C.getD c.a.toNat 0 = C.getD c.b.toNat 0))) := fun c => rfl
          have hT0 : truC ⟨C, D, nx⟩ t 0 = [] := rfl
          generalize tab t.reports.length (dayF (fiV (truA ws ⟨C, D, nx⟩ t)).2 (fiV (mirA (truA ws ⟨C, D, nx⟩ t))).2) = T1 at *
          generalize (waV (truA ws ⟨C, D, nx⟩ t)).1 = L at *
          generalize sureE (truA ws ⟨C, D, nx⟩ t) i k = E1 at *
          generalize sureV (truA ws ⟨C, D, nx⟩ t) i k = V1 at *
          generalize suV (truA ws ⟨C, D, nx⟩ t) ⟨i, k⟩ = SV at *
          clear hu hbu
          rw [htl] at p7
          clear htl
          obtain ⟨x1, y1⟩ := SV
          simp only at p8 p9 e4
          generalize tab t.reports.length (truR ws D t) = RU at *
          generalize truC ⟨C, D, nx⟩ t = tc at *
          generalize truB ⟨C, D, nx⟩ = tb at *
          simp (maxSteps := 4000000) only [go_sem, seval]
          (repeat' (first
    | ((omega))
    | ((exfalso; omega))
    | (refine awp_seqK ?_)
    | (refine kt ?_)
    | (refine And.intro ?_ ?_)
    | ((first | refine awp_region ?_ | refine awp_draw (by kernel_rfl) (by kernel_rfl) ?_ | refine Imp.le2 ?_ | refine awp_label ?_ | refine awp_skip ?_ | refine awp_exit ?_ | refine awp_cd ?_ | refine awp_ret ?_ | refine go_split (fun _h => ?_) (fun _h => ?_)) <;> try simp (maxSteps := 4000000) only [go_sem, seval])
    | (intro _h)
    | (refine awp_block ?_)
    | (refine awp_scope ?_)
    | (refine cond_b (fun _h => ?_) (fun _h => ?_))
    | (show heapOK _ _ = true; kernel_rfl)
    | (show heapOK2 _ _ = true; kernel_rfl)
    | (omega)))
          refine awp_loopN t.claims.length (fun q => ⟨mkT 300 [(2, .int .u8 x), (3, .int .u8 y), (4, .ptr 0 0 0), (9, .ptr 1 0 0), (10, .ptr 6 0 0), (11, .int .i64 t.reports.length), (14, .int .i64 q)], [some (.cells 25 1 0 [.psl false t.reports.length (recs rptC t.reports), .psl false t.claims.length (recs clmC t.claims), .int .i64 t.rest]), some (.cells 85 1 0 [.psl false t.reports.length (ints C), .psl false t.reports.length (ints D)]), none, none, none, some (.cells 58 3 t.reports.length (recs rptC RU)), some (.cells 35 1 0 [.osl 5 t.reports.length 0 t.reports.length, .osl 7 (tc q).length 0 (tc q).length, .int .i64 t.rest]), some (.cells 73 3 (tc q).length (recs clmC (tc q)))], []⟩) (.le2 ?_) ?_
          · rw [hT0]
            simp (maxSteps := 4000000) only [go_sem, seval]
            all_goals first | rfl | trace_state
          · intro q hq
            rcases Nat.lt_or_eq_of_le hq with hq1 | hq1
            · have hcv := ht.clm q hq1
              have hTk := hTk q
              have hTC := hTC q
              have hTB := hTB (t.claims.getD q default)
              rw [hTk]
              clear hTk hda hwa hsu hpr htd e3 e4
              obtain ⟨kd, a, b, hcd⟩ : ∃ kd a b, t.claims.getD q default = ⟨kd, a, b⟩ := ⟨_, _, _, rfl⟩
              rw [hcd] at hcv hTB ⊢
              simp only at hcv hTB
              obtain ⟨a, rfl⟩ := Int.eq_ofNat_of_zero_le hcv.2.1.1
              obtain ⟨b, rfl⟩ := Int.eq_ofNat_of_zero_le hcv.2.2.1
              simp only [Int.toNat_natCast] at hTB
              have nCa := n1 a (by omega)
              have nCb := n1 b (by omega)
              have nDa := n2 a (by omega)
              have nDb := n2 b (by omega)
              generalize tc q = M at *
              have hsn := recs_snT (l := M) (k := kd) (a := (a : Int)) (b := (b : Int))
              have hsl : (M ++ [(⟨kd, (a : Int), (b : Int)⟩ : Clm)]).length = M.length + 1 := by simp
              generalize tb ⟨kd, (a : Int), (b : Int)⟩ = tbv at *
              have hkc : kd = 0 ∨ kd = 1 ∨ kd = 2 := by omega
              rcases hkc with rfl | rfl | rfl
              · by_cases hv : D.getD a 0 < D.getD b 0
                · have ht1 : tbv = true := by rw [hTB]; first | (rw [decide_eq_true hv]; simp; done) | (rw [decide_eq_false hv]; simp; done)
                  rw [if_pos ht1]
                  simp (maxSteps := 4000000) only [go_sem, seval]
                  (repeat' (first
    | ((omega))
    | ((exfalso; omega))
    | (refine awp_seqK ?_)
    | (refine kt ?_)
    | (refine And.intro ?_ ?_)
    | ((first | refine awp_region ?_ | refine awp_draw (by kernel_rfl) (by kernel_rfl) ?_ | refine Imp.le2 ?_ | refine awp_label ?_ | refine awp_skip ?_ | refine awp_exit ?_ | refine awp_cd ?_ | refine awp_ret ?_ | refine go_split (fun _h => ?_) (fun _h => ?_)) <;> try simp (maxSteps := 4000000) only [go_sem, seval, hcd, nCa, nCb, nDa, nDb, hsn, hsl])
    | (intro _h)
    | (refine awp_block ?_)
    | (refine awp_scope ?_)
    | (refine cond_b (fun _h => ?_) (fun _h => ?_))
    | (show heapOK _ _ = true; kernel_rfl)
    | (show heapOK2 _ _ = true; kernel_rfl)
    | (omega)))
                  all_goals first | (exfalso; simp at _h; done) | trace_state
                · have ht1 : ¬ tbv = true := by rw [hTB]; first | (rw [decide_eq_true hv]; simp; done) | (rw [decide_eq_false hv]; simp; done)
                  rw [if_neg ht1]
                  simp (maxSteps := 4000000) only [go_sem, seval]
                  (repeat' (first
    | ((omega))
    | ((exfalso; omega))
    | (refine awp_seqK ?_)
    | (refine kt ?_)
    | (refine And.intro ?_ ?_)
    | ((first | refine awp_region ?_ | refine awp_draw (by kernel_rfl) (by kernel_rfl) ?_ | refine Imp.le2 ?_ | refine awp_label ?_ | refine awp_skip ?_ | refine awp_exit ?_ | refine awp_cd ?_ | refine awp_ret ?_ | refine go_split (fun _h => ?_) (fun _h => ?_)) <;> try simp (maxSteps := 4000000) only [go_sem, seval, hcd, nCa, nCb, nDa, nDb, hsn, hsl])
    | (intro _h)
    | (refine awp_block ?_)
    | (refine awp_scope ?_)
    | (refine cond_b (fun _h => ?_) (fun _h => ?_))
    | (show heapOK _ _ = true; kernel_rfl)
    | (show heapOK2 _ _ = true; kernel_rfl)
    | (omega)))
                  all_goals first | (exfalso; simp at _h; done) | trace_state
              · by_cases hv : C.getD a 0 = C.getD b 0
                · have ht1 : tbv = true := by rw [hTB]; first | (rw [decide_eq_true hv]; simp; done) | (rw [decide_eq_false hv]; simp; done)
                  rw [if_pos ht1]
                  simp (maxSteps := 4000000) only [go_sem, seval]
                  (repeat' (first
    | ((omega))
    | ((exfalso; omega))
    | (refine awp_seqK ?_)
    | (refine kt ?_)
    | (refine And.intro ?_ ?_)
    | ((first | refine awp_region ?_ | refine awp_draw (by kernel_rfl) (by kernel_rfl) ?_ | refine Imp.le2 ?_ | refine awp_label ?_ | refine awp_skip ?_ | refine awp_exit ?_ | refine awp_cd ?_ | refine awp_ret ?_ | refine go_split (fun _h => ?_) (fun _h => ?_)) <;> try simp (maxSteps := 4000000) only [go_sem, seval, hcd, nCa, nCb, nDa, nDb, hsn, hsl])
    | (intro _h)
    | (refine awp_block ?_)
    | (refine awp_scope ?_)
    | (refine cond_b (fun _h => ?_) (fun _h => ?_))
    | (show heapOK _ _ = true; kernel_rfl)
    | (show heapOK2 _ _ = true; kernel_rfl)
    | (omega)))
                  all_goals first | (exfalso; simp at _h; done) | trace_state
                · have ht1 : ¬ tbv = true := by rw [hTB]; first | (rw [decide_eq_true hv]; simp; done) | (rw [decide_eq_false hv]; simp; done)
                  rw [if_neg ht1]
                  simp (maxSteps := 4000000) only [go_sem, seval]
                  (repeat' (first
    | ((omega))
    | ((exfalso; omega))
    | (refine awp_seqK ?_)
    | (refine kt ?_)
    | (refine And.intro ?_ ?_)
    | ((first | refine awp_region ?_ | refine awp_draw (by kernel_rfl) (by kernel_rfl) ?_ | refine Imp.le2 ?_ | refine awp_label ?_ | refine awp_skip ?_ | refine awp_exit ?_ | refine awp_cd ?_ | refine awp_ret ?_ | refine go_split (fun _h => ?_) (fun _h => ?_)) <;> try simp (maxSteps := 4000000) only [go_sem, seval, hcd, nCa, nCb, nDa, nDb, hsn, hsl])
    | (intro _h)
    | (refine awp_block ?_)
    | (refine awp_scope ?_)
    | (refine cond_b (fun _h => ?_) (fun _h => ?_))
    | (show heapOK _ _ = true; kernel_rfl)
    | (show heapOK2 _ _ = true; kernel_rfl)
    | (omega)))
                  all_goals first | (exfalso; simp at _h; done) | trace_state
              · by_cases hv : C.getD a 0 = C.getD b 0
                · have ht1 : ¬ tbv = true := by rw [hTB]; first | (rw [decide_eq_true hv]; simp; done) | (rw [decide_eq_false hv]; simp; done)
                  rw [if_neg ht1]
                  simp (maxSteps := 4000000) only [go_sem, seval]
                  (repeat' (first
    | ((omega))
    | ((exfalso; omega))
    | (refine awp_seqK ?_)
    | (refine kt ?_)
    | (refine And.intro ?_ ?_)
    | ((first | refine awp_region ?_ | refine awp_draw (by kernel_rfl) (by kernel_rfl) ?_ | refine Imp.le2 ?_ | refine awp_label ?_ | refine awp_skip ?_ | refine awp_exit ?_ | refine awp_cd ?_ | refine awp_ret ?_ | refine go_split (fun _h => ?_) (fun _h => ?_)) <;> try simp (maxSteps := 4000000) only [go_sem, seval, hcd, nCa, nCb, nDa, nDb, hsn, hsl])
    | (intro _h)
    | (refine awp_block ?_)
    | (refine awp_scope ?_)
    | (refine cond_b (fun _h => ?_) (fun _h => ?_))
    | (show heapOK _ _ = true; kernel_rfl)
    | (show heapOK2 _ _ = true; kernel_rfl)
    | (omega)))
                  all_goals first | (exfalso; simp at _h; done) | trace_state
                · have ht1 : tbv = true := by rw [hTB]; first | (rw [decide_eq_true hv]; simp; done) | (rw [decide_eq_false hv]; simp; done)
                  rw [if_pos ht1]
                  simp (maxSteps := 4000000) only [go_sem, seval]
                  (repeat' (first
    | ((omega))
    | ((exfalso; omega))
    | (refine awp_seqK ?_)
    | (refine kt ?_)
    | (refine And.intro ?_ ?_)
    | ((first | refine awp_region ?_ | refine awp_draw (by kernel_rfl) (by kernel_rfl) ?_ | refine Imp.le2 ?_ | refine awp_label ?_ | refine awp_skip ?_ | refine awp_exit ?_ | refine awp_cd ?_ | refine awp_ret ?_ | refine go_split (fun _h => ?_) (fun _h => ?_)) <;> try simp (maxSteps := 4000000) only [go_sem, seval, hcd, nCa, nCb, nDa, nDb, hsn, hsl])
    | (intro _h)
    | (refine awp_block ?_)
    | (refine awp_scope ?_)
    | (refine cond_b (fun _h => ?_) (fun _h => ?_))
    | (show heapOK _ _ = true; kernel_rfl)
    | (show heapOK2 _ _ = true; kernel_rfl)
    | (omega)))
                  all_goals first | (exfalso; simp at _h; done) | trace_state
            · subst hq1
              clear hTk hTB hT0
              have hTC := hTC t.claims.length
              generalize tc t.claims.length = TC at *
              have hlsC := list_c C (by omega)
              have hlsD := list_c D (by omega)
              simp only [sl, hlc, hld, slG, hla, slW] at hlsC hlsD hpr hda hwa
              have hloop : ∀ j : Nat, True := fun _ => trivial
              by_cases hL : 100 < L.length
              · rw [if_pos hL, if_neg (by omega)] at hwa
                simp (maxSteps := 4000000) only [go_sem, seval]
                (repeat' (first
    | (refine awp_frz (c := .region 23 _ _) 5 rfl (by simp (maxSteps := 4000000) only [go_sem, seval, hla]) (fun _ => rfl) ?_; simp only [frz, fq_pure, fzB_c, fzB_m, fzB_d, fzB_l, fzO, fzH, fzHs, fzl, fz2, fz1, fz0, List.map_cons, List.map_nil, if_true, if_false, reduceIte, Nat.reduceEqDiff, Nat.reduceAdd, Nat.succ_ne_self, Nat.zero_ne_one, Nat.one_ne_zero, reduceCtorEq, and_self])
    | (refine awp_frz (c := .region 23 _ _) 7 rfl (by simp (maxSteps := 4000000) only [go_sem, seval, hla]) (fun _ => rfl) ?_; simp only [frz, fzl, fz2, fz1, fz0, fzH, fzHs, fzO, fzB, List.map_cons, List.map_nil, if_true, if_false, reduceIte, Nat.reduceEqDiff, Nat.reduceAdd, Nat.succ_ne_self, Nat.zero_ne_one, Nat.one_ne_zero, reduceCtorEq, and_self])
    | ((exact (rfl : AV.agg _ = AV.agg _)))
    | ((omega))
    | ((exfalso; omega))
    | (refine awp_seqK ?_)
    | (refine kt ?_)
    | (refine And.intro ?_ ?_)
    | ((first | refine awp_region ?_ | refine awp_draw (by kernel_rfl) (by kernel_rfl) ?_ | refine Imp.le2 ?_ | refine awp_label ?_ | refine awp_skip ?_ | refine awp_exit ?_ | refine awp_cd ?_ | refine awp_ret ?_ | refine callK_of (hda) ?_ | refine callK_of (hwa) ?_ | refine callK_of (hlsC) ?_ | refine callK_of (hlsD) ?_ | refine callK_of (hpr) ?_ | refine go_split (fun _h => ?_) (fun _h => ?_)) <;> try simp (maxSteps := 4000000) only [go_sem, seval, hla])
    | (intro _h)
    | (refine awp_block ?_)
    | (refine awp_scope ?_)
    | (refine cond_b (fun _h => ?_) (fun _h => ?_))
    | (show heapOK _ _ = true; kernel_rfl)
    | (show heapOK2 _ _ = true; kernel_rfl)
    | (omega)))
                clear hda hwa hlsC hlsD hpr
                refine awp_loopN t.reports.length (fun j => ⟨mkT 300 [(2, .int .u8 x), (3, .int .u8 y), (9, .ptr 1 0 0), (10, .ptr 6 0 0), (11, .int .i64 t.reports.length), (17, .psl false t.reports.length (recs rngC T1)), (19, .nils), (20, .int .i64 3), (21, .int .i64 j)], [none, some (.cells 85 1 0 [.psl false t.reports.length (ints C), .psl false t.reports.length (ints D)]), none, none, none, none, some (.cells 35 1 0 [.psl false t.reports.length (recs rptC RU), .psl false TC.length (recs clmC TC), .int .i64 t.rest])], []⟩) (.le2 ?_) ?_
                · simp (maxSteps := 4000000) only [go_sem, seval]
                  all_goals first | rfl | trace_state
                · intro j hj
                  rcases Nat.lt_or_eq_of_le hj with hj1 | hj1
                  · have n2j := n2 j hj1
                    have htj := htd j hj1
                    simp (maxSteps := 4000000) only [go_sem, seval]
                    (repeat' (first
    | ((omega))
    | ((exfalso; omega))
    | (refine awp_seqK ?_)
    | (refine kt ?_)
    | (refine And.intro ?_ ?_)
    | ((first | refine awp_region ?_ | refine awp_draw (by kernel_rfl) (by kernel_rfl) ?_ | refine Imp.le2 ?_ | refine awp_label ?_ | refine awp_skip ?_ | refine awp_exit ?_ | refine awp_cd ?_ | refine awp_ret ?_ | refine go_split (fun _h => ?_) (fun _h => ?_)) <;> try simp (maxSteps := 4000000) only [go_sem, seval, hla, n2j])
    | (intro _h)
    | (refine awp_block ?_)
    | (refine awp_scope ?_)
    | (refine cond_b (fun _h => ?_) (fun _h => ?_))
    | (show heapOK _ _ = true; kernel_rfl)
    | (show heapOK2 _ _ = true; kernel_rfl)
    | (omega)))
                    all_goals trace_state
                  · subst hj1
                    by_cases hik : i = k
                    · subst hik
                      simp (maxSteps := 4000000) only [go_sem, seval]
                      (repeat' (first
    | ((omega))
    | ((exfalso; omega))
    | (refine awp_seqK ?_)
    | (refine kt ?_)
    | (refine And.intro ?_ ?_)
    | ((first | refine awp_region ?_ | refine awp_draw (by kernel_rfl) (by kernel_rfl) ?_ | refine Imp.le2 ?_ | refine awp_label ?_ | refine awp_skip ?_ | refine awp_exit ?_ | refine awp_cd ?_ | refine awp_ret ?_ | refine callK_of (hA) ?_ | refine go_split (fun _h => ?_) (fun _h => ?_)) <;> try simp (maxSteps := 4000000) only [go_sem, seval, hx1, hy1])
    | (intro _h)
    | (refine awp_block ?_)
    | (refine awp_scope ?_)
    | (refine cond_b (fun _h => ?_) (fun _h => ?_))
    | (show heapOK _ _ = true; kernel_rfl)
    | (show heapOK2 _ _ = true; kernel_rfl)
    | (omega)))
                      all_goals trace_state
                    · obtain rfl := e3 hik
                      have e4 := e4 rfl
                      have nCi := n1 i hi
                      have nCk := n1 k hk
                      by_cases hCC : C.getD i 0 = C.getD k 0
                      · have p8 := p8 hCC
                        cases y1 with
                        | true =>
                          rw [if_pos p8, if_pos rfl] at e4
                          subst e4
                          simp (maxSteps := 4000000) only [go_sem, seval]
                          (repeat' (first
    | ((exact Try.underlying4))
    | ((omega))
    | ((exfalso; omega))
    | (refine awp_seqK ?_)
    | (refine kt ?_)
    | (refine And.intro ?_ ?_)
    | ((first | refine awp_region ?_ | refine awp_draw (by kernel_rfl) (by kernel_rfl) ?_ | refine Imp.le2 ?_ | refine awp_label ?_ | refine awp_skip ?_ | refine awp_exit ?_ | refine awp_cd ?_ | refine awp_ret ?_ | refine callK_of (hsu) ?_ | refine callK_of (hA) ?_ | refine go_split (fun _h => ?_) (fun _h => ?_)) <;> try simp (maxSteps := 4000000) only [go_sem, seval, hx1, hy1, nCi, nCk])
    | (intro _h)
    | (refine awp_block ?_)
    | (refine awp_scope ?_)
    | (refine cond_b (fun _h => ?_) (fun _h => ?_))
    | (show heapOK _ _ = true; kernel_rfl)
    | (show heapOK2 _ _ = true; kernel_rfl)
    | (omega)))
                          all_goals first | (exfalso; simp at _h; done) | (exfalso; revert _h; simp; done) | trace_state
                        | false =>
                          rw [if_pos p8, if_neg (by simp)] at e4
                          subst e4
                          simp (maxSteps := 4000000) only [go_sem, seval]
                          (repeat' (first
    | ((exact Try.underlying4))
    | ((omega))
    | ((exfalso; omega))
    | (refine awp_seqK ?_)
    | (refine kt ?_)
    | (refine And.intro ?_ ?_)
    | ((first | refine awp_region ?_ | refine awp_draw (by kernel_rfl) (by kernel_rfl) ?_ | refine Imp.le2 ?_ | refine awp_label ?_ | refine awp_skip ?_ | refine awp_exit ?_ | refine awp_cd ?_ | refine awp_ret ?_ | refine callK_of (hsu) ?_ | refine callK_of (hA) ?_ | refine go_split (fun _h => ?_) (fun _h => ?_)) <;> try simp (maxSteps := 4000000) only [go_sem, seval, hx1, hy1, nCi, nCk])
    | (intro _h)
    | (refine awp_block ?_)
    | (refine awp_scope ?_)
    | (refine cond_b (fun _h => ?_) (fun _h => ?_))
    | (show heapOK _ _ = true; kernel_rfl)
    | (show heapOK2 _ _ = true; kernel_rfl)
    | (omega)))
                          all_goals first | (exfalso; simp at _h; done) | (exfalso; revert _h; simp [hCC]; done) | trace_state
                      · have p9 := p9 hCC
                        cases x1 with
                        | true =>
                          rw [if_pos rfl, if_pos p9] at e4
                          subst e4
                          simp (maxSteps := 4000000) only [go_sem, seval]
                          (repeat' (first
    | ((exact Try.underlying4))
    | ((omega))
    | ((exfalso; omega))
    | (refine awp_seqK ?_)
    | (refine kt ?_)
    | (refine And.intro ?_ ?_)
    | ((first | refine awp_region ?_ | refine awp_draw (by kernel_rfl) (by kernel_rfl) ?_ | refine Imp.le2 ?_ | refine awp_label ?_ | refine awp_skip ?_ | refine awp_exit ?_ | refine awp_cd ?_ | refine awp_ret ?_ | refine callK_of (hsu) ?_ | refine callK_of (hA) ?_ | refine go_split (fun _h => ?_) (fun _h => ?_)) <;> try simp (maxSteps := 4000000) only [go_sem, seval, hx1, hy1, nCi, nCk])
    | (intro _h)
    | (refine awp_block ?_)
    | (refine awp_scope ?_)
    | (refine cond_b (fun _h => ?_) (fun _h => ?_))
    | (show heapOK _ _ = true; kernel_rfl)
    | (show heapOK2 _ _ = true; kernel_rfl)
    | (omega)))
                          all_goals first | (exfalso; simp at _h; done) | (exfalso; revert _h; simp; done) | trace_state
                        | false =>
                          rw [if_neg (by simp)] at e4
                          subst e4
                          simp (maxSteps := 4000000) only [go_sem, seval]
                          (repeat' (first
    | ((exact Try.underlying4))
    | ((omega))
    | ((exfalso; omega))
    | (refine awp_seqK ?_)
    | (refine kt ?_)
    | (refine And.intro ?_ ?_)
    | ((first | refine awp_region ?_ | refine awp_draw (by kernel_rfl) (by kernel_rfl) ?_ | refine Imp.le2 ?_ | refine awp_label ?_ | refine awp_skip ?_ | refine awp_exit ?_ | refine awp_cd ?_ | refine awp_ret ?_ | refine callK_of (hsu) ?_ | refine callK_of (hA) ?_ | refine go_split (fun _h => ?_) (fun _h => ?_)) <;> try simp (maxSteps := 4000000) only [go_sem, seval, hx1, hy1, nCi, nCk])
    | (intro _h)
    | (refine awp_block ?_)
    | (refine awp_scope ?_)
    | (refine cond_b (fun _h => ?_) (fun _h => ?_))
    | (show heapOK _ _ = true; kernel_rfl)
    | (show heapOK2 _ _ = true; kernel_rfl)
    | (omega)))
                          all_goals first | (exfalso; simp at _h; done) | (exfalso; revert _h; simp [hCC]; done) | trace_state
              · rw [if_neg hL, if_pos rfl] at hwa
                simp (maxSteps := 4000000) only [go_sem, seval]
                (repeat' (first
    | (refine awp_frz (c := .region 23 _ _) 5 rfl (by simp (maxSteps := 4000000) only [go_sem, seval, hla]) (fun _ => rfl) ?_; simp only [frz, fq_pure, fzB_c, fzB_m, fzB_d, fzB_l, fzO, fzH, fzHs, fzl, fz2, fz1, fz0, List.map_cons, List.map_nil, if_true, if_false, reduceIte, Nat.reduceEqDiff, Nat.reduceAdd, Nat.succ_ne_self, Nat.zero_ne_one, Nat.one_ne_zero, reduceCtorEq, and_self])
    | (refine awp_frz (c := .region 23 _ _) 7 rfl (by simp (maxSteps := 4000000) only [go_sem, seval, hla]) (fun _ => rfl) ?_; simp only [frz, fzl, fz2, fz1, fz0, fzH, fzHs, fzO, fzB, List.map_cons, List.map_nil, if_true, if_false, reduceIte, Nat.reduceEqDiff, Nat.reduceAdd, Nat.succ_ne_self, Nat.zero_ne_one, Nat.one_ne_zero, reduceCtorEq, and_self])
    | ((exact (rfl : AV.agg _ = AV.agg _)))
    | ((omega))
    | ((exfalso; omega))
    | (refine awp_seqK ?_)
    | (refine kt ?_)
    | (refine And.intro ?_ ?_)
    | ((first | refine awp_region ?_ | refine awp_draw (by kernel_rfl) (by kernel_rfl) ?_ | refine Imp.le2 ?_ | refine awp_label ?_ | refine awp_skip ?_ | refine awp_exit ?_ | refine awp_cd ?_ | refine awp_ret ?_ | refine callK_of (hda) ?_ | refine callK_of (hwa) ?_ | refine callK_of (hlsC) ?_ | refine callK_of (hlsD) ?_ | refine callK_of (hpr) ?_ | refine go_split (fun _h => ?_) (fun _h => ?_)) <;> try simp (maxSteps := 4000000) only [go_sem, seval, hla])
    | (intro _h)
    | (refine awp_block ?_)
    | (refine awp_scope ?_)
    | (refine cond_b (fun _h => ?_) (fun _h => ?_))
    | (show heapOK _ _ = true; kernel_rfl)
    | (show heapOK2 _ _ = true; kernel_rfl)
    | (omega)))
                clear hda hwa hlsC hlsD hpr
                refine awp_loopN t.reports.length (fun j => ⟨mkT 300 [(2, .int .u8 x), (3, .int .u8 y), (9, .ptr 1 0 0), (10, .ptr 6 0 0), (11, .int .i64 t.reports.length), (17, .psl false t.reports.length (recs rngC T1)), (19, .psl false L.length (rowsC L)), (20, .int .i64 0), (21, .int .i64 j)], [none, some (.cells 85 1 0 [.psl false t.reports.length (ints C), .psl false t.reports.length (ints D)]), none, none, none, none, some (.cells 35 1 0 [.psl false t.reports.length (recs rptC RU), .psl false TC.length (recs clmC TC), .int .i64 t.rest])], []⟩) (.le2 ?_) ?_
                · simp (maxSteps := 4000000) only [go_sem, seval]
                  all_goals first | rfl | trace_state
                · intro j hj
                  rcases Nat.lt_or_eq_of_le hj with hj1 | hj1
                  · have n2j := n2 j hj1
                    have htj := htd j hj1
                    simp (maxSteps := 4000000) only [go_sem, seval]
                    (repeat' (first
    | ((omega))
    | ((exfalso; omega))
    | (refine awp_seqK ?_)
    | (refine kt ?_)
    | (refine And.intro ?_ ?_)
    | ((first | refine awp_region ?_ | refine awp_draw (by kernel_rfl) (by kernel_rfl) ?_ | refine Imp.le2 ?_ | refine awp_label ?_ | refine awp_skip ?_ | refine awp_exit ?_ | refine awp_cd ?_ | refine awp_ret ?_ | refine go_split (fun _h => ?_) (fun _h => ?_)) <;> try simp (maxSteps := 4000000) only [go_sem, seval, hla, n2j])
    | (intro _h)
    | (refine awp_block ?_)
    | (refine awp_scope ?_)
    | (refine cond_b (fun _h => ?_) (fun _h => ?_))
    | (show heapOK _ _ = true; kernel_rfl)
    | (show heapOK2 _ _ = true; kernel_rfl)
    | (omega)))
                    all_goals trace_state
                  · subst hj1
                    have hm := p6 (by omega)
                    simp (maxSteps := 4000000) only [go_sem, seval]
                    (repeat' (first
    | ((omega))
    | ((exfalso; omega))
    | (refine awp_seqK ?_)
    | (refine kt ?_)
    | (refine And.intro ?_ ?_)
    | ((first | refine awp_region ?_ | refine awp_draw (by kernel_rfl) (by kernel_rfl) ?_ | refine Imp.le2 ?_ | refine awp_label ?_ | refine awp_skip ?_ | refine awp_exit ?_ | refine awp_cd ?_ | refine awp_ret ?_ | refine go_split (fun _h => ?_) (fun _h => ?_)) <;> try simp (maxSteps := 4000000) only [go_sem, seval])
    | (intro _h)
    | (refine awp_block ?_)
    | (refine awp_scope ?_)
    | (refine cond_b (fun _h => ?_) (fun _h => ?_))
    | (show heapOK _ _ = true; kernel_rfl)
    | (show heapOK2 _ _ = true; kernel_rfl)
    | (omega)))
                    refine awp_loopN L.length (fun q => ⟨mkT 300 [(2, .int .u8 x), (3, .int .u8 y), (9, .ptr 1 0 0), (10, .ptr 6 0 0), (11, .int .i64 t.reports.length), (19, .psl false L.length (rowsC L)), (22, .bool ((L.take q).any fun x => decide (x = C))), (23, .int .i64 q)], [none, some (.cells 85 1 0 [.psl false t.reports.length (ints C), .psl false t.reports.length (ints D)]), none, none, none, none, some (.cells 35 1 0 [.psl false t.reports.length (recs rptC RU), .psl false TC.length (recs clmC TC), .int .i64 t.rest])], []⟩) (.le2 ?_) ?_
                    · simp (maxSteps := 4000000) only [go_sem, seval]
                      all_goals first | rfl | trace_state
                    · intro q hq
                      rcases Nat.lt_or_eq_of_le hq with hq1 | hq1
                      · have hn2 := fun K => rows_nth (l := L) hq1 (K := K)
                        have hq3 := p7 _ (mem_row.2 ⟨q, hq1, rfl⟩)
                        have hq2 := ints_c (L.getD q []) C (by omega)
                        have hta := take_anyT (s := C) hq1
                        generalize L.getD q [] = z at *
                        cases hb1 : (L.take q).any fun x => decide (x = C) with
                        | true =>
                          rw [hb1] at hta
                          simp only [Bool.true_or] at hta
                          simp (maxSteps := 4000000) only [go_sem, seval]
                          (repeat' (first
    | ((omega))
    | ((exfalso; omega))
    | (refine awp_seqK ?_)
    | (refine kt ?_)
    | (refine And.intro ?_ ?_)
    | ((first | refine awp_region ?_ | refine awp_draw (by kernel_rfl) (by kernel_rfl) ?_ | refine Imp.le2 ?_ | refine awp_label ?_ | refine awp_skip ?_ | refine awp_exit ?_ | refine awp_cd ?_ | refine awp_ret ?_ | refine go_split (fun _h => ?_) (fun _h => ?_)) <;> try simp (maxSteps := 4000000) only [go_sem, seval, hn2, hta])
    | (intro _h)
    | (refine awp_block ?_)
    | (refine awp_scope ?_)
    | (refine cond_b (fun _h => ?_) (fun _h => ?_))
    | (show heapOK _ _ = true; kernel_rfl)
    | (show heapOK2 _ _ = true; kernel_rfl)
    | (omega)))
                          all_goals trace_state
                        | false =>
                          rw [hb1] at hta
                          simp only [Bool.false_or] at hta
                          simp only [sl, hq3, hlc] at hq2
                          simp (maxSteps := 4000000) only [go_sem, seval]
                          (repeat' (first
    | ((omega))
    | ((exfalso; omega))
    | (refine awp_seqK ?_)
    | (refine kt ?_)
    | (refine And.intro ?_ ?_)
    | ((first | refine awp_region ?_ | refine awp_draw (by kernel_rfl) (by kernel_rfl) ?_ | refine Imp.le2 ?_ | refine awp_label ?_ | refine awp_skip ?_ | refine awp_exit ?_ | refine awp_cd ?_ | refine awp_ret ?_ | refine callK_of (hq2) ?_ | refine go_split (fun _h => ?_) (fun _h => ?_)) <;> try simp (maxSteps := 4000000) only [go_sem, seval, hn2, hq3, hta])
    | (intro _h)
    | (refine awp_block ?_)
    | (refine awp_scope ?_)
    | (refine cond_b (fun _h => ?_) (fun _h => ?_))
    | (show heapOK _ _ = true; kernel_rfl)
    | (show heapOK2 _ _ = true; kernel_rfl)
    | (omega)))
                          all_goals first | exact (decide_eq_true ‹_›).symm | exact (decide_eq_false ‹_›).symm | exact decide_eq_true ‹_› | exact decide_eq_false ‹_› | trace_state
                      · subst hq1
                        have hta : ((L.take L.length).any fun x => decide (x = C)) = true := by
                          rw [List.take_length, List.any_eq_true]; exact ⟨C, hm, by simp⟩
                        rw [hta]
                        by_cases hik : i = k
                        · subst hik
                          simp (maxSteps := 4000000) only [go_sem, seval]
                          (repeat' (first
    | ((omega))
    | ((exfalso; omega))
    | (refine awp_seqK ?_)
    | (refine kt ?_)
    | (refine And.intro ?_ ?_)
    | ((first | refine awp_region ?_ | refine awp_draw (by kernel_rfl) (by kernel_rfl) ?_ | refine Imp.le2 ?_ | refine awp_label ?_ | refine awp_skip ?_ | refine awp_exit ?_ | refine awp_cd ?_ | refine awp_ret ?_ | refine callK_of (hA) ?_ | refine go_split (fun _h => ?_) (fun _h => ?_)) <;> try simp (maxSteps := 4000000) only [go_sem, seval, hx1, hy1])
    | (intro _h)
    | (refine awp_block ?_)
    | (refine awp_scope ?_)
    | (refine cond_b (fun _h => ?_) (fun _h => ?_))
    | (show heapOK _ _ = true; kernel_rfl)
    | (show heapOK2 _ _ = true; kernel_rfl)
    | (omega)))
                          all_goals trace_state
                        · obtain rfl := e3 hik
                          have e4 := e4 rfl
                          have nCi := n1 i hi
                          have nCk := n1 k hk
                          by_cases hCC : C.getD i 0 = C.getD k 0
                          · have p8 := p8 hCC
                            cases y1 with
                            | true =>
                              rw [if_pos p8, if_pos rfl] at e4
                              subst e4
                              simp (maxSteps := 4000000) only [go_sem, seval]
                              (repeat' (first
    | ((exact Try.underlying4))
    | ((omega))
    | ((exfalso; omega))
    | (refine awp_seqK ?_)
    | (refine kt ?_)
    | (refine And.intro ?_ ?_)
    | ((first | refine awp_region ?_ | refine awp_draw (by kernel_rfl) (by kernel_rfl) ?_ | refine Imp.le2 ?_ | refine awp_label ?_ | refine awp_skip ?_ | refine awp_exit ?_ | refine awp_cd ?_ | refine awp_ret ?_ | refine callK_of (hsu) ?_ | refine callK_of (hA) ?_ | refine go_split (fun _h => ?_) (fun _h => ?_)) <;> try simp (maxSteps := 4000000) only [go_sem, seval, hx1, hy1, nCi, nCk])
    | (intro _h)
    | (refine awp_block ?_)
    | (refine awp_scope ?_)
    | (refine cond_b (fun _h => ?_) (fun _h => ?_))
    | (show heapOK _ _ = true; kernel_rfl)
    | (show heapOK2 _ _ = true; kernel_rfl)
    | (omega)))
                              all_goals first | (exfalso; simp at _h; done) | (exfalso; revert _h; simp; done) | trace_state
                            | false =>
                              rw [if_pos p8, if_neg (by simp)] at e4
                              subst e4
                              simp (maxSteps := 4000000) only [go_sem, seval]
                              (repeat' (first
    | ((exact Try.underlying4))
    | ((omega))
    | ((exfalso; omega))
    | (refine awp_seqK ?_)
    | (refine kt ?_)
    | (refine And.intro ?_ ?_)
    | ((first | refine awp_region ?_ | refine awp_draw (by kernel_rfl) (by kernel_rfl) ?_ | refine Imp.le2 ?_ | refine awp_label ?_ | refine awp_skip ?_ | refine awp_exit ?_ | refine awp_cd ?_ | refine awp_ret ?_ | refine callK_of (hsu) ?_ | refine callK_of (hA) ?_ | refine go_split (fun _h => ?_) (fun _h => ?_)) <;> try simp (maxSteps := 4000000) only [go_sem, seval, hx1, hy1, nCi, nCk])
    | (intro _h)
    | (refine awp_block ?_)
    | (refine awp_scope ?_)
    | (refine cond_b (fun _h => ?_) (fun _h => ?_))
    | (show heapOK _ _ = true; kernel_rfl)
    | (show heapOK2 _ _ = true; kernel_rfl)
    | (omega)))
                              all_goals first | (exfalso; simp at _h; done) | (exfalso; revert _h; simp [hCC]; done) | trace_state
                          · have p9 := p9 hCC
                            cases x1 with
                            | true =>
                              rw [if_pos rfl, if_pos p9] at e4
                              subst e4
                              simp (maxSteps := 4000000) only [go_sem, seval]
                              (repeat' (first
    | ((exact Try.underlying4))
    | ((omega))
    | ((exfalso; omega))
    | (refine awp_seqK ?_)
    | (refine kt ?_)
    | (refine And.intro ?_ ?_)
    | ((first | refine awp_region ?_ | refine awp_draw (by kernel_rfl) (by kernel_rfl) ?_ | refine Imp.le2 ?_ | refine awp_label ?_ | refine awp_skip ?_ | refine awp_exit ?_ | refine awp_cd ?_ | refine awp_ret ?_ | refine callK_of (hsu) ?_ | refine callK_of (hA) ?_ | refine go_split (fun _h => ?_) (fun _h => ?_)) <;> try simp (maxSteps := 4000000) only [go_sem, seval, hx1, hy1, nCi, nCk])
    | (intro _h)
    | (refine awp_block ?_)
    | (refine awp_scope ?_)
    | (refine cond_b (fun _h => ?_) (fun _h => ?_))
    | (show heapOK _ _ = true; kernel_rfl)
    | (show heapOK2 _ _ = true; kernel_rfl)
    | (omega)))
                              all_goals first | (exfalso; simp at _h; done) | (exfalso; revert _h; simp; done) | trace_state
                            | false =>
                              rw [if_neg (by simp)] at e4
                              subst e4
                              simp (maxSteps := 4000000) only [go_sem, seval]
                              (repeat' (first
    | ((exact Try.underlying4))
    | ((omega))
    | ((exfalso; omega))
    | (refine awp_seqK ?_)
    | (refine kt ?_)
    | (refine And.intro ?_ ?_)
    | ((first | refine awp_region ?_ | refine awp_draw (by kernel_rfl) (by kernel_rfl) ?_ | refine Imp.le2 ?_ | refine awp_label ?_ | refine awp_skip ?_ | refine awp_exit ?_ | refine awp_cd ?_ | refine awp_ret ?_ | refine callK_of (hsu) ?_ | refine callK_of (hA) ?_ | refine go_split (fun _h => ?_) (fun _h => ?_)) <;> try simp (maxSteps := 4000000) only [go_sem, seval, hx1, hy1, nCi, nCk])
    | (intro _h)
    | (refine awp_block ?_)
    | (refine awp_scope ?_)
    | (refine cond_b (fun _h => ?_) (fun _h => ?_))
    | (show heapOK _ _ = true; kernel_rfl)
    | (show heapOK2 _ _ = true; kernel_rfl)
    | (omega)))
                              all_goals first | (exfalso; simp at _h; done) | (exfalso; revert _h; simp [hCC]; done) | trace_state
    · simp only [annC, slR, slC, slU] at hre ⊢
      (refine callS_of_awp (fun w args => Try.call11 ..) Try.func11 rfl (fun w0 m0 wz => ?_); simp only [Try.ntmps11, Try.results11, initT, junks, rptC, clmC, slR, slC, annC, sl, List.toList_toArray, List.cons_append, List.nil_append, List.length_cons, List.length_nil, Nat.reduceAdd, Nat.reduceSub])
      (repeat' (first
    | ((omega))
    | ((exfalso; omega))
    | (refine awp_seqK ?_)
    | (refine kt ?_)
    | (refine And.intro ?_ ?_)
    | ((first | refine awp_region ?_ | refine awp_draw (by kernel_rfl) (by kernel_rfl) ?_ | refine Imp.le2 ?_ | refine awp_label ?_ | refine awp_skip ?_ | refine awp_exit ?_ | refine awp_cd ?_ | refine awp_ret ?_ | refine callK_of (hre) ?_ | refine callK_of (hA) ?_ | refine go_split (fun _h => ?_) (fun _h => ?_)) <;> try simp (maxSteps := 4000000) only [go_sem, seval])
    | (intro _h)
    | (refine awp_block ?_)
    | (refine awp_scope ?_)
    | (refine cond_b (fun _h => ?_) (fun _h => ?_))
    | (show heapOK _ _ = true; kernel_rfl)
    | (show heapOK2 _ _ = true; kernel_rfl)
    | (omega)))
      all_goals trace_state
end Go.Am

/- The law AnnalsTruth, as a contract: it returns true. -/
namespace Go.Am
open Go.RowKit Go.Proofs
theorem okI_u16 {n : Int} (h : okI .u16 n) : 0 ≤ n ∧ n ≤ 65535 := by
  unfold okI at h
  simpa [Lit.wf, IntKind.has, IntKind.min, IntKind.max, IntKind.signed, IntKind.bits] using h
theorem rd87 : Reads Try.prog 87 1 (fun n : Int => [.int .u16 n]) (okI .u16) := reads_int Try.underlying87 (by kernel_rfl)
theorem rd84 : Reads Try.prog 84 1 (fun l : List Int => [slU l]) (fun l => l.length ≤ 9223372036854775807 ∧ ∀ x ∈ l, 0 ≤ x ∧ x ≤ 65535) :=
  (reads_slice Try.underlying84 (by kernel_rfl) (by omega) rd87).conv id _ _ (fun _ => rfl) (fun l => by simp only [slU, u16s, id]; congr 2; induction l with | nil => rfl | cons a l ih => simp_all) (fun l h => ⟨h.1, fun a ha => okI_u16 (h.2 a ha)⟩)
theorem annalsTruth_c (t : Ann) (ws : List Int) (x y : Int) (ht : AnnR t) (hw : ws.length ≤ 9223372036854775807 ∧ ∀ x ∈ ws, 0 ≤ x ∧ x ≤ 65535) (hx : okI .u8 x) (hy : okI .u8 y) : CallS Try.prog 11 [.agg (annC t), slU ws, .int .u8 x, .int .u8 y] (.bool true) :=
  truthLaw awake_c t (fun c hc => (ht.claims c hc).1.1) ws hw.2 hw.1 x y (okI_u8 hx) (okI_u8 hy)
end Go.Am
