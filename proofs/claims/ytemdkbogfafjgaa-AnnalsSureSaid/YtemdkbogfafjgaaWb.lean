/- Parts UkJ, UkK, UkI, UkL of the proof, one behind the other. No statement is proved here. -/
import Derived.Test.YtemdkbogfafjgaaW9
import Derived.Test.YtemdkbogfafjgaaWa
import Derived.Test.YtemdkbogfafjgaaW8
set_option linter.unusedVariables false -- all
set_option linter.unusedSimpArgs false
/- Contracts of the annals functions: Slides, Surely (of the reference). -/
namespace Go.Am
open Go.RowKit Go.Proofs
attribute [local irreducible] AWP CallS Kt goK CallK stepK evOps SemF SemY Imp
set_option maxRecDepth 4000
set_option linter.unusedSimpArgs false
set_option linter.unusedVariables false
set_option maxHeartbeats 3200000
def senK (P : List Int) : Nat → List Int
  | 0 => []
  | k + 1 => if P.getD k 0 ∈ senK P k then senK P k else senK P k ++ [P.getD k 0]
def atK (S : List Int) (x : Int) : Nat → Int
  | 0 => -1
  | q + 1 => if S.getD q 0 = x then (q : Int) else atK S x q
structure SeI (P : List Int) (k : Nat) : Prop where
  len : (senK P k).length = (slK P k).1.length
  get : ∀ v, v < (senK P k).length → gmGet (slK P k).1 ((senK P k).getD v 0) = some (v : Int)
  non : ∀ x, x ∉ senK P k → gmGet (slK P k).1 x = none
theorem getD_memI {l : List Int} {x : Int} : x ∈ l ↔ ∃ v, v < l.length ∧ l.getD v 0 = x := by
  rw [List.mem_iff_getElem]
  constructor
  · rintro ⟨i, hi, e⟩; exact ⟨i, hi, by simp [List.getD_eq_getElem?_getD, hi, e]⟩
  · rintro ⟨i, hi, e⟩; exact ⟨i, hi, by simpa [List.getD_eq_getElem?_getD, hi] using e⟩
theorem sn_getS {l : List Int} {v : Int} {j : Nat} : (l ++ [v]).getD j 0 = if j < l.length then l.getD j 0 else if j = l.length then v else 0 := by
  simp only [List.getD_eq_getElem?_getD]
  by_cases h : j < l.length
  · rw [if_pos h, List.getElem?_append_left h]
  · rw [if_neg h, List.getElem?_append_right (by omega)]
    by_cases e : j = l.length
    · rw [if_pos e, e, Nat.sub_self]; rfl
    · rw [if_neg e]
      obtain ⟨d, hd⟩ : ∃ d, j - l.length = d + 1 := ⟨j - l.length - 1, by omega⟩
      rw [hd]; rfl
theorem sen_inv {P : List Int} : ∀ k, SeI P k
  | 0 => ⟨rfl, fun v hv => by simp [senK] at hv, fun x _ => rfl⟩
  | k + 1 => by
    obtain ⟨h1, h2, h3⟩ := sen_inv (P := P) k
    by_cases hm : P.getD k 0 ∈ senK P k
    · obtain ⟨v, hv, e⟩ := getD_memI.1 hm
      have hg : gmGet (slK P k).1 (P.getD k 0) = some (v : Int) := by rw [← e]; exact h2 v hv
      have e1 : senK P (k + 1) = senK P k := by simp only [senK]; rw [if_pos hm]
      have e2 : (slK P (k + 1)).1 = (slK P k).1 := by simp only [slK, hg]
      rw [e1.symm] at h1 h2 h3
      refine ⟨by rw [e2]; exact h1, fun v hv => by rw [e2]; exact h2 v hv, fun x hx => by rw [e2]; exact h3 x hx⟩
    · have hg := h3 _ hm
      have e1 : senK P (k + 1) = senK P k ++ [P.getD k 0] := by simp only [senK]; rw [if_neg hm]
      have e2 : (slK P (k + 1)).1 = gmPut (slK P k).1 (P.getD k 0) (slK P k).1.length := by simp only [slK, hg]
      refine ⟨?_, fun v hv => ?_, fun x hx => ?_⟩
      · rw [e1, e2, gmPut_len hg, List.length_append, h1]; rfl
      · rw [e1] at hv ⊢
        rw [List.length_append] at hv
        rw [e2, gmGet_put, sn_getS]
        by_cases hlt : v < (senK P k).length
        · rw [if_pos hlt, if_neg, h2 v hlt]
          intro e
          exact hm (by rw [e]; exact getD_memI.2 ⟨v, hlt, rfl⟩)
        · have : v = (senK P k).length := by simp at hv; omega
          rw [if_neg hlt, if_pos this, if_pos rfl, this, h1]
      · rw [e1] at hx
        have hx1 : x ∉ senK P k := fun h => hx (List.mem_append.2 (.inl h))
        have hx2 : ¬ P.getD k 0 = x := fun h => hx (List.mem_append.2 (.inr (by rw [← h]; simp)))
        rw [e2, gmGet_put, if_neg hx2]; exact h3 x hx1
theorem sen_len {P : List Int} : ∀ k, (senK P k).length ≤ k
  | 0 => Nat.le_refl _
  | k + 1 => by
    have := sen_len (P := P) k
    simp only [senK]; split <;> simp <;> omega
theorem atK_none {S : List Int} {x : Int} : ∀ q, (∀ v, v < q → S.getD v 0 ≠ x) → atK S x q = -1
  | 0, _ => rfl
  | q + 1, h => by
    have ih := atK_none q fun v hv => h v (by omega)
    simp only [atK]; rw [if_neg (h q (by omega)), ih]
theorem atK_some {S : List Int} {x : Int} {v : Nat} (hx : S.getD v 0 = x) : ∀ q, v < q → (∀ u, v < u → u < q → S.getD u 0 ≠ x) → atK S x q = v
  | 0, hv, _ => by omega
  | q + 1, hv, h => by
    simp only [atK]
    by_cases e : v = q
    · subst e; rw [if_pos hx]
    · rw [if_neg (h q (by omega) (by omega))]
      exact atK_some hx q (by omega) fun u h1 h2 => h u h1 (by omega)
/-- What the search for a number leaves. -/
theorem at_is {P : List Int} (k : Nat) : (P.getD k 0 ∈ senK P k → ∃ v : Nat, v < (senK P k).length ∧ atK (senK P k) (P.getD k 0) (senK P k).length = v ∧ (slK P (k + 1)).2 = (slK P k).2 ++ [(v : Int)]) ∧
    (P.getD k 0 ∉ senK P k → atK (senK P k) (P.getD k 0) (senK P k).length = -1 ∧ (slK P (k + 1)).2 = (slK P k).2 ++ [((senK P k).length : Int)]) := by
  obtain ⟨h1, h2, h3⟩ := sen_inv (P := P) k
  constructor
  · intro hm
    obtain ⟨v, hv, e⟩ := getD_memI.1 hm
    have hg : gmGet (slK P k).1 (P.getD k 0) = some (v : Int) := by rw [← e]; exact h2 v hv
    refine ⟨v, hv, atK_some e _ hv fun u h4 h5 h6 => ?_, by simp only [slK, hg]⟩
    have := h2 u h5
    rw [h6, hg] at this
    have := Option.some.inj this
    omega
  · intro hm
    have hg := h3 _ hm
    exact ⟨atK_none _ fun v hv e => hm (getD_memI.2 ⟨v, hv, e⟩), by simp only [slK, hg, h1]⟩
theorem Slides_c (P : List Int) (hP : P.length ≤ 100) : CallS Try.prog 62 [sl P] (sl (slK P P.length).2) := by
  have hlen : (slK P P.length).2.length = P.length := slK_length
  simp only [sl, hlen]
  (refine callS_of_awp (fun w args => Try.call62 ..) Try.func62 rfl (fun w0 m0 wz => ?_); simp only [Try.ntmps62, Try.results62, initT, junks, rptC, clmC, slR, slC, annC, sl, List.toList_toArray, List.cons_append, List.nil_append, List.length_cons, List.length_nil, Nat.reduceAdd, Nat.reduceSub])
  (repeat' (first
    | (refine awp_seqK ?_)
    | (refine kt ?_)
    | (refine And.intro ?_ ?_)
    | ((first | refine awp_region ?_ | refine awp_draw (by kernel_rfl) (by kernel_rfl) ?_ | refine Imp.le2 ?_ | refine awp_label ?_ | refine awp_skip ?_ | refine awp_exit ?_ | refine awp_cd ?_ | refine awp_ret ?_ | refine go_split (fun _h => ?_) (fun _h => ?_)) <;> try simp (maxSteps := 4000000) only [go_sem, seval])
    | (intro _h)
    | (refine awp_block ?_)
    | (refine awp_scope ?_)
    | (refine cond_b (fun _h => ?_) (fun _h => ?_))
    | (show heapOK _ _ = true; kernel_rfl)
    | (show heapOK2 _ _ = true; kernel_rfl)
    | (omega)))
  (refine awp_adT 3 3 1 rfl ?_; simp only [adT, lset, hset, List.length_cons, List.length_nil, Nat.reduceAdd])
  (refine awp_adT 4 3 1 rfl ?_; simp only [adT, lset, hset, List.length_cons, List.length_nil, Nat.reduceAdd])
  refine awp_loopN P.length (fun i => ⟨mkT 46 [(0, .psl false P.length (ints P)), (3, .osl 0 i 0 i), (4, .osl 1 (senK P i).length 0 (senK P i).length), (5, .int .i64 i)], [some (.cells 3 1 i (ints (slK P i).2)), some (.cells 3 1 (senK P i).length (ints (senK P i)))], []⟩) (.le2 ?_) ?_
  · simp only [slK, senK]
    simp (maxSteps := 4000000) only [go_sem, seval]
    all_goals first | rfl | exact ⟨rfl, rfl⟩ | trace_state
  · intro i hi
    have hsl := sen_len (P := P) i
    have hol := slK_length (pl := P) (k := i)
    rcases Nat.lt_or_eq_of_le hi with hi1 | hi1
    · have nI := fun K => show optK (nth (ints P) i) K = K (.int .i64 (P.getD i 0)) by rw [ints_nth hi1]; rfl
      obtain ⟨a1, a2⟩ := at_is (P := P) i
      have hst : senK P (i + 1) = if P.getD i 0 ∈ senK P i then senK P i else senK P i ++ [P.getD i 0] := rfl
      rw [hst]
      clear hst
      generalize (slK P (i + 1)).2 = O2 at *
      generalize (slK P i).2 = O at *
      generalize senK P i = S at *
      generalize P.getD i 0 = x at *
      have snO := fun v : Int => show ints O ++ [.int .i64 v] = ints (O ++ [v]) by simp [ints]
      have snS := fun v : Int => show ints S ++ [.int .i64 v] = ints (S ++ [v]) by simp [ints]
      have lnO := fun v : Int => show (O ++ [v]).length = i + 1 by simp [hol]
      have lnS := fun v : Int => show (S ++ [v]).length = S.length + 1 by simp
      simp (maxSteps := 4000000) only [go_sem, seval]
      (repeat' (first
    | ((omega))
    | ((exfalso; omega))
    | (refine awp_seqK ?_)
    | (refine kt ?_)
    | (refine And.intro ?_ ?_)
    | ((first | refine awp_region ?_ | refine awp_draw (by kernel_rfl) (by kernel_rfl) ?_ | refine Imp.le2 ?_ | refine awp_label ?_ | refine awp_skip ?_ | refine awp_exit ?_ | refine awp_cd ?_ | refine awp_ret ?_ | refine go_split (fun _h => ?_) (fun _h => ?_)) <;> try simp (maxSteps := 4000000) only [go_sem, seval])
    | (intro _h)
    | (refine awp_block ?_)
    | (refine awp_scope ?_)
    | (refine cond_b (fun _h => ?_) (fun _h => ?_))
    | (show heapOK _ _ = true; kernel_rfl)
    | (show heapOK2 _ _ = true; kernel_rfl)
    | (omega)))
      refine awp_loopN S.length (fun q => ⟨mkT 46 [(0, .psl false P.length (ints P)), (3, .osl 0 i 0 i), (4, .osl 1 S.length 0 S.length), (5, .int .i64 i), (6, .int .i64 (atK S x q)), (7, .int .i64 q)], [some (.cells 3 1 i (ints O)), some (.cells 3 1 S.length (ints S))], []⟩) (.le2 ?_) ?_
      · simp only [atK]
        simp (maxSteps := 4000000) only [go_sem, seval]
        all_goals first | rfl | trace_state
      · intro q hq
        rcases Nat.lt_or_eq_of_le hq with hq1 | hq1
        · have nQ := fun K => show optK (nth (ints S) q) K = K (.int .i64 (S.getD q 0)) by rw [ints_nth hq1]; rfl
          have hst : atK S x (q + 1) = if S.getD q 0 = x then (q : Int) else atK S x q := rfl
          rw [hst]
          clear hst
          generalize atK S x q = a at *
          generalize S.getD q 0 = y at *
          by_cases e : y = x
          · rw [if_pos e]
            simp (maxSteps := 4000000) only [go_sem, seval]
            (repeat' (first
    | ((omega))
    | ((exfalso; omega))
    | (refine awp_seqK ?_)
    | (refine kt ?_)
    | (refine And.intro ?_ ?_)
    | ((first | refine awp_region ?_ | refine awp_draw (by kernel_rfl) (by kernel_rfl) ?_ | refine Imp.le2 ?_ | refine awp_label ?_ | refine awp_skip ?_ | refine awp_exit ?_ | refine awp_cd ?_ | refine awp_ret ?_ | refine go_split (fun _h => ?_) (fun _h => ?_)) <;> try simp (maxSteps := 4000000) only [go_sem, seval, nI, nQ])
    | (intro _h)
    | (refine awp_block ?_)
    | (refine awp_scope ?_)
    | (refine cond_b (fun _h => ?_) (fun _h => ?_))
    | (show heapOK _ _ = true; kernel_rfl)
    | (show heapOK2 _ _ = true; kernel_rfl)
    | (omega)))
            all_goals trace_state
          · rw [if_neg e]
            simp (maxSteps := 4000000) only [go_sem, seval]
            (repeat' (first
    | ((omega))
    | ((exfalso; omega))
    | (refine awp_seqK ?_)
    | (refine kt ?_)
    | (refine And.intro ?_ ?_)
    | ((first | refine awp_region ?_ | refine awp_draw (by kernel_rfl) (by kernel_rfl) ?_ | refine Imp.le2 ?_ | refine awp_label ?_ | refine awp_skip ?_ | refine awp_exit ?_ | refine awp_cd ?_ | refine awp_ret ?_ | refine go_split (fun _h => ?_) (fun _h => ?_)) <;> try simp (maxSteps := 4000000) only [go_sem, seval, nI, nQ])
    | (intro _h)
    | (refine awp_block ?_)
    | (refine awp_scope ?_)
    | (refine cond_b (fun _h => ?_) (fun _h => ?_))
    | (show heapOK _ _ = true; kernel_rfl)
    | (show heapOK2 _ _ = true; kernel_rfl)
    | (omega)))
            all_goals trace_state
        · subst hq1
          by_cases hm : x ∈ S
          · rw [if_pos hm]
            obtain ⟨v, b1, b2, b3⟩ := a1 hm
            rw [b2, b3]
            simp (maxSteps := 4000000) only [go_sem, seval]
            (repeat' (first
    | ((omega))
    | ((exfalso; omega))
    | (refine awp_seqK ?_)
    | (refine kt ?_)
    | (refine And.intro ?_ ?_)
    | ((first | refine awp_region ?_ | refine awp_draw (by kernel_rfl) (by kernel_rfl) ?_ | refine Imp.le2 ?_ | refine awp_label ?_ | refine awp_skip ?_ | refine awp_exit ?_ | refine awp_cd ?_ | refine awp_ret ?_ | refine go_split (fun _h => ?_) (fun _h => ?_)) <;> try simp (maxSteps := 4000000) only [go_sem, seval, nI, snO, lnO])
    | (intro _h)
    | (refine awp_block ?_)
    | (refine awp_scope ?_)
    | (refine cond_b (fun _h => ?_) (fun _h => ?_))
    | (show heapOK _ _ = true; kernel_rfl)
    | (show heapOK2 _ _ = true; kernel_rfl)
    | (omega)))
            all_goals trace_state
          · rw [if_neg hm]
            obtain ⟨b2, b3⟩ := a2 hm
            rw [b2, b3]
            simp (maxSteps := 4000000) only [go_sem, seval]
            (repeat' (first
    | ((omega))
    | ((exfalso; omega))
    | (refine awp_seqK ?_)
    | (refine kt ?_)
    | (refine And.intro ?_ ?_)
    | ((first | refine awp_region ?_ | refine awp_draw (by kernel_rfl) (by kernel_rfl) ?_ | refine Imp.le2 ?_ | refine awp_label ?_ | refine awp_skip ?_ | refine awp_exit ?_ | refine awp_cd ?_ | refine awp_ret ?_ | refine go_split (fun _h => ?_) (fun _h => ?_)) <;> try simp (maxSteps := 4000000) only [go_sem, seval, nI, snO, snS, lnO, lnS])
    | (intro _h)
    | (refine awp_block ?_)
    | (refine awp_scope ?_)
    | (refine cond_b (fun _h => ?_) (fun _h => ?_))
    | (show heapOK _ _ = true; kernel_rfl)
    | (show heapOK2 _ _ = true; kernel_rfl)
    | (omega)))
            all_goals trace_state
    · subst hi1
      generalize (slK P P.length).2 = O at *
      simp (maxSteps := 4000000) only [go_sem, seval]
      (repeat' (first
    | (refine awp_frz (c := .region 15 _ _) 0 rfl (by simp (maxSteps := 4000000) only [go_sem, seval]) (fun _ => rfl) ?_; simp only [frz, fq_pure, fzB_c, fzB_m, fzB_d, fzB_l, fzO, fzH, fzHs, fzl, fz2, fz1, fz0, List.map_cons, List.map_nil, if_true, if_false, reduceIte, Nat.reduceEqDiff, Nat.reduceAdd, Nat.succ_ne_self, Nat.zero_ne_one, Nat.one_ne_zero, reduceCtorEq, and_self])
    | ((omega))
    | ((exfalso; omega))
    | (refine awp_seqK ?_)
    | (refine kt ?_)
    | (refine And.intro ?_ ?_)
    | ((first | refine awp_region ?_ | refine awp_draw (by kernel_rfl) (by kernel_rfl) ?_ | refine Imp.le2 ?_ | refine awp_label ?_ | refine awp_skip ?_ | refine awp_exit ?_ | refine awp_cd ?_ | refine awp_ret ?_ | refine go_split (fun _h => ?_) (fun _h => ?_)) <;> try simp (maxSteps := 4000000) only [go_sem, seval])
    | (intro _h)
    | (refine awp_block ?_)
    | (refine awp_scope ?_)
    | (refine cond_b (fun _h => ?_) (fun _h => ?_))
    | (show heapOK _ _ = true; kernel_rfl)
    | (show heapOK2 _ _ = true; kernel_rfl)
    | (omega)))
      all_goals trace_state
def alS (W : List (List Int)) (i k : Nat) : Nat → Bool
  | 0 => true
  | q + 1 => if (W.getD q []).getD i 0 = (W.getD q []).getD k 0 then alS W i k q else false
def noS (W : List (List Int)) (i k : Nat) : Nat → Bool
  | 0 => true
  | q + 1 => if (W.getD q []).getD i 0 = (W.getD q []).getD k 0 then false else noS W i k q
def sureR (W : List (List Int)) (i k : Nat) : Int := if alS W i k W.length = true then 1 else if noS W i k W.length = true then 2 else 3
theorem SurelyR_c (W : List (List Int)) (i k n : Nat) (hW : ∀ s ∈ W, s.length = n) (hi : i < n) (hk : k < n) (hl : W.length ≤ 1000000) : CallS Try.prog 29 [slW W, .int .i64 i, .int .i64 k] (.int .u8 (sureR W i k)) := by
  unfold sureR
  simp only [slW]
  (refine callS_of_awp (fun w args => Try.call29 ..) Try.func29 rfl (fun w0 m0 wz => ?_); simp only [Try.ntmps29, Try.results29, initT, junks, rptC, clmC, slR, slC, annC, sl, List.toList_toArray, List.cons_append, List.nil_append, List.length_cons, List.length_nil, Nat.reduceAdd, Nat.reduceSub])
  (repeat' (first
    | (refine awp_seqK ?_)
    | (refine kt ?_)
    | (refine And.intro ?_ ?_)
    | ((first | refine awp_region ?_ | refine awp_draw (by kernel_rfl) (by kernel_rfl) ?_ | refine Imp.le2 ?_ | refine awp_label ?_ | refine awp_skip ?_ | refine awp_exit ?_ | refine awp_cd ?_ | refine awp_ret ?_ | refine go_split (fun _h => ?_) (fun _h => ?_)) <;> try simp (maxSteps := 4000000) only [go_sem, seval])
    | (intro _h)
    | (refine awp_block ?_)
    | (refine awp_scope ?_)
    | (refine cond_b (fun _h => ?_) (fun _h => ?_))
    | (show heapOK _ _ = true; kernel_rfl)
    | (show heapOK2 _ _ = true; kernel_rfl)
    | (omega)))
  refine awp_loopN W.length (fun q => ⟨mkT 33 [(0, .psl false W.length (rowsC W)), (1, .int .i64 i), (2, .int .i64 k), (7, .bool (alS W i k q)), (8, .bool (noS W i k q)), (9, .int .i64 q)], [], []⟩) (.le2 ?_) ?_
  · simp only [alS, noS]
    simp (maxSteps := 4000000) only [go_sem, seval]
    all_goals first | rfl | trace_state
  · intro q hq
    rcases Nat.lt_or_eq_of_le hq with hq1 | hq1
    · have nR := fun K => rows_nth (l := W) hq1 (K := K)
      have hlr := hW _ (mem_row.2 ⟨q, hq1, rfl⟩)
      have e1 : alS W i k (q + 1) = if (W.getD q []).getD i 0 = (W.getD q []).getD k 0 then alS W i k q else false := rfl
      have e2 : noS W i k (q + 1) = if (W.getD q []).getD i 0 = (W.getD q []).getD k 0 then false else noS W i k q := rfl
      rw [e1, e2]
      clear e1 e2
      generalize W.getD q [] = s at *
      have nI := fun K => show optK (nth (ints s) i) K = K (.int .i64 (s.getD i 0)) by rw [ints_nth (by omega)]; rfl
      have nK := fun K => show optK (nth (ints s) k) K = K (.int .i64 (s.getD k 0)) by rw [ints_nth (by omega)]; rfl
      generalize s.getD i 0 = x at *
      generalize s.getD k 0 = y at *
      generalize alS W i k q = a at *
      generalize noS W i k q = b at *
      by_cases e : x = y
      · rw [if_pos e, if_pos e]
        simp (maxSteps := 4000000) only [go_sem, seval]
        (repeat' (first
    | ((omega))
    | ((exfalso; omega))
    | (refine awp_seqK ?_)
    | (refine kt ?_)
    | (refine And.intro ?_ ?_)
    | ((first | refine awp_region ?_ | refine awp_draw (by kernel_rfl) (by kernel_rfl) ?_ | refine Imp.le2 ?_ | refine awp_label ?_ | refine awp_skip ?_ | refine awp_exit ?_ | refine awp_cd ?_ | refine awp_ret ?_ | refine go_split (fun _h => ?_) (fun _h => ?_)) <;> try simp (maxSteps := 4000000) only [go_sem, seval, nR, nI, nK, hlr])
    | (intro _h)
    | (refine awp_block ?_)
    | (refine awp_scope ?_)
    | (refine cond_b (fun _h => ?_) (fun _h => ?_))
    | (show heapOK _ _ = true; kernel_rfl)
    | (show heapOK2 _ _ = true; kernel_rfl)
    | (omega)))
        all_goals trace_state
      · rw [if_neg e, if_neg e]
        simp (maxSteps := 4000000) only [go_sem, seval]
        (repeat' (first
    | ((omega))
    | ((exfalso; omega))
    | (refine awp_seqK ?_)
    | (refine kt ?_)
    | (refine And.intro ?_ ?_)
    | ((first | refine awp_region ?_ | refine awp_draw (by kernel_rfl) (by kernel_rfl) ?_ | refine Imp.le2 ?_ | refine awp_label ?_ | refine awp_skip ?_ | refine awp_exit ?_ | refine awp_cd ?_ | refine awp_ret ?_ | refine go_split (fun _h => ?_) (fun _h => ?_)) <;> try simp (maxSteps := 4000000) only [go_sem, seval, nR, nI, nK, hlr])
    | (intro _h)
    | (refine awp_block ?_)
    | (refine awp_scope ?_)
    | (refine cond_b (fun _h => ?_) (fun _h => ?_))
    | (show heapOK _ _ = true; kernel_rfl)
    | (show heapOK2 _ _ = true; kernel_rfl)
    | (omega)))
        all_goals trace_state
    · subst hq1
      generalize alS W i k W.length = a at *
      generalize noS W i k W.length = b at *
      cases a <;> cases b
      all_goals
        simp only [if_true, Bool.false_eq_true, if_false]
        simp (maxSteps := 4000000) only [go_sem, seval]
        (repeat' (first
    | ((omega))
    | ((exfalso; omega))
    | (refine awp_seqK ?_)
    | (refine kt ?_)
    | (refine And.intro ?_ ?_)
    | ((first | refine awp_region ?_ | refine awp_draw (by kernel_rfl) (by kernel_rfl) ?_ | refine Imp.le2 ?_ | refine awp_label ?_ | refine awp_skip ?_ | refine awp_exit ?_ | refine awp_cd ?_ | refine awp_ret ?_ | refine go_split (fun _h => ?_) (fun _h => ?_)) <;> try simp (maxSteps := 4000000) only [go_sem, seval])
    | (intro _h)
    | (refine awp_block ?_)
    | (refine awp_scope ?_)
    | (refine cond_b (fun _h => ?_) (fun _h => ?_))
    | (show heapOK _ _ = true; kernel_rfl)
    | (show heapOK2 _ _ = true; kernel_rfl)
    | (omega)))
        all_goals trace_state
end Go.Am

/- Contracts of the annals functions: Ways, Days (of the reference). -/
namespace Go.Am
open Go.RowKit Go.Proofs
attribute [local irreducible] AWP CallS Kt goK CallK stepK evOps SemF SemY Imp
set_option maxRecDepth 4000
set_option linter.unusedSimpArgs false
set_option linter.unusedVariables false
set_option maxHeartbeats 6400000
def dposK (W : List (List Int)) (s : List Int) : Nat → Nat
  | 0 => 0
  | k + 1 => if ltL s (W.getD k []) = true then dposK W s k else k + 1
def wyS (W : List (List Int)) (s : List Int) : List (List Int) := if s ∈ W then W else insL W (dposK W s W.length) s
def slP (r : RunT) : List Int := (slK r.place r.place.length).2
def wyK (rs : List RunT) : Nat → List (List Int)
  | 0 => []
  | i + 1 => wyS (wyK rs i) (slP (rs.getD i default))
def isK (W : List (List Int)) (s : List Int) : Nat → Bool
  | 0 => false
  | k + 1 => isK W s k || decide (W.getD k [] = s)
theorem isK_mem {W : List (List Int)} {s : List Int} : isK W s W.length = decide (s ∈ W) := by
  have key : ∀ k, isK W s k = true ↔ ∃ j, j < k ∧ W.getD j [] = s := fun k => by
    induction k with
    | zero => simp [isK]
    | succ k ih =>
      simp only [isK, Bool.or_eq_true, ih, decide_eq_true_eq]
      constructor
      · rintro (⟨j, hj, e⟩ | e)
        · exact ⟨j, by omega, e⟩
        · exact ⟨k, by omega, e⟩
      · rintro ⟨j, hj, e⟩
        by_cases e2 : j = k
        · subst e2; exact .inr e
        · exact .inl ⟨j, by omega, e⟩
  rw [Bool.eq_iff_iff, decide_eq_true_eq, key, mem_row]
theorem ltL_tri {a b : List Int} : (!ltL a b && !ltL b a) = decide (a = b) := by
  unfold ltL
  have h1 := cmpL_anti (a := a) (b := b)
  have h2 := cmpL_eq (a := a) (b := b)
  have h3 := cmpL_anti (a := b) (b := a)
  rw [Bool.eq_iff_iff]
  simp only [Bool.and_eq_true, Bool.not_eq_true', decide_eq_false_iff_not, decide_eq_true_eq]
  constructor
  · rintro ⟨g1, g2⟩
    apply h2.1; omega
  · rintro rfl
    have := h2.2 rfl
    exact ⟨by omega, by omega⟩
theorem dposK_le {W : List (List Int)} {s : List Int} : ∀ k, dposK W s k ≤ k
  | 0 => Nat.le_refl _
  | k + 1 => by
    have := dposK_le (W := W) (s := s) k
    simp only [dposK]; split <;> omega
theorem dposK_ge {W : List (List Int)} {s : List Int} : ∀ k x, dposK W s k ≤ x → x < k → cmpL s (W.getD x []) < 0
  | 0, x, _, hx => by omega
  | k + 1, x, h, hx => by
    simp only [dposK] at h
    split at h
    · rename_i hl
      by_cases e : x = k
      · subst e; exact of_decide_eq_true hl
      · exact dposK_ge k x h (by omega)
    · omega
theorem dposK_lt {W : List (List Int)} {s : List Int} : ∀ k, 0 < dposK W s k → ¬ cmpL s (W.getD (dposK W s k - 1) []) < 0
  | 0, h => by simp [dposK] at h
  | k + 1, h => by
    simp only [dposK] at h ⊢
    split
    · rename_i hl
      rw [if_pos hl] at h
      exact dposK_lt k h
    · rename_i hl
      intro h2
      exact hl (decide_eq_true h2)
theorem wyS_eq {W : List (List Int)} {s : List Int} (h : Srt W) : wyS W s = waI W s := by
  unfold wyS waI
  by_cases hm : s ∈ W
  · rw [if_pos hm, if_pos ((bsF_mem h).2 hm)]
  · rw [if_neg hm, if_neg (fun h2 => hm ((bsF_mem h).1 h2))]
    obtain ⟨h1, h2, h3⟩ := bs_spec (s := s) h
    have g1 := dposK_le (W := W) (s := s) W.length
    have g2 := dposK_ge (W := W) (s := s) W.length
    have g3 := dposK_lt (W := W) (s := s) W.length
    congr 1
    rcases Nat.lt_trichotomy (dposK W s W.length) (bsN W s) with hlt | heq | hgt
    · have a1 := h1 _ hlt
      have a2 := g2 _ (Nat.le_refl _) (by omega)
      rw [cmpL_anti] at a2
      omega
    · exact heq
    · have a1 := g3 (by omega)
      have a2 := h2 (dposK W s W.length - 1) (by omega) (by omega)
      exfalso
      apply hm
      rw [mem_row]
      refine ⟨dposK W s W.length - 1, by omega, ?_⟩
      rw [cmpL_anti] at a1
      apply cmpL_eq.1
      omega
theorem wyK_srt {rs : List RunT} : ∀ i, Srt (wyK rs i)
  | 0 => fun i j _ hj => by simp [wyK] at hj
  | i + 1 => by
    have ih := wyK_srt (rs := rs) i
    simp only [wyK]
    rw [wyS_eq ih]; exact waI_srt ih
theorem wyK_mem {rs : List RunT} {s : List Int} : ∀ i, s ∈ wyK rs i ↔ ∃ j, j < i ∧ slP (rs.getD j default) = s
  | 0 => by simp [wyK]
  | i + 1 => by
    have ih := wyK_mem (rs := rs) (s := s) i
    simp only [wyK]
    rw [wyS_eq (wyK_srt i), waI_mem (wyK_srt i), ih]
    constructor
    · rintro (e | ⟨j, hj, e⟩)
      · exact ⟨i, by omega, e.symm⟩
      · exact ⟨j, by omega, e⟩
    · rintro ⟨j, hj, e⟩
      by_cases e2 : j = i
      · subst e2; exact .inl e.symm
      · exact .inr ⟨j, by omega, e⟩
theorem wyK_len {rs : List RunT} : ∀ i, (wyK rs i).length ≤ i
  | 0 => Nat.le_refl _
  | i + 1 => by
    have ih := wyK_len (rs := rs) i
    simp only [wyK, wyS]
    split
    · omega
    · rw [insL_len]; omega
theorem insL_end {W : List (List Int)} {s : List Int} : insL W W.length s = W ++ [s] := by simp [insL]
theorem row_snoc {W : List (List Int)} {s : List Int} : rowsC W ++ [.psl false s.length (ints s)] = rowsC (W ++ [s]) := by simp [rowsC, sli]
/-- Two neighbours change places. -/
theorem row_swap {W : List (List Int)} {s : List Int} {k : Nat} (hk : k < W.length) : splice (splice (rowsC (insL W (k + 1) s)) (k + 1) [.psl false (W.getD k []).length (ints (W.getD k []))]) k [.psl false s.length (ints s)] = rowsC (insL W k s) := by
  have e0 : W.take (k + 1) = W.take k ++ [W.getD k []] := by
    rw [List.take_succ_eq_append_getElem hk]; simp [List.getD_eq_getElem?_getD, hk]
  have e1 : W.drop k = W.getD k [] :: W.drop (k + 1) := by
    rw [List.drop_eq_getElem_cons hk]; simp [List.getD_eq_getElem?_getD, hk]
  have hl : (rowsC (W.take k)).length = k := by rw [rows_length, List.length_take]; omega
  have hr : ∀ x y : List (List Int), rowsC (x ++ y) = rowsC x ++ rowsC y := fun x y => by simp [rowsC]
  have hc : ∀ (x : List Int) (y : List (List Int)), rowsC (x :: y) = sli x :: rowsC y := fun x y => rfl
  simp only [insL]
  rw [e0, e1]
  generalize W.getD k [] = z at *
  generalize W.drop (k + 1) = D at *
  generalize W.take k = A at *
  simp only [List.append_assoc, List.cons_append, List.nil_append, hr, hc, sli]
  generalize rowsC A = RA at *
  subst hl
  simp only [splice, List.length_cons, List.length_nil]
  rw [show RA.length + 1 + (0 + 1) = RA.length + 2 by omega, List.take_length_add_append, List.drop_length_add_append]
  simp only [List.take_succ_cons, List.take_zero, List.drop_succ_cons, List.drop_zero, List.append_assoc, List.cons_append, List.nil_append]
  rw [show (0 + 1) = 1 by omega, List.take_left, List.drop_length_add_append]
  simp
theorem insL_at {W : List (List Int)} {s : List Int} {k : Nat} (hk : k ≤ W.length) : (insL W k s).getD k [] = s := by
  rw [insL_get hk, if_neg (by omega), if_pos rfl]
theorem insL_bef {W : List (List Int)} {s : List Int} {k : Nat} (hk : k + 1 ≤ W.length) : (insL W (k + 1) s).getD k [] = W.getD k [] := by
  rw [insL_get hk, if_pos (by omega)]
theorem WaysR_c (rs : List RunT) (hl : rs.length ≤ 1000000) (hp : ∀ i, i < rs.length → (rs.getD i default).place.length ≤ 100) : CallS Try.prog 25 [Go.Am.slU rs] (slW (wyK rs rs.length)) := by
  have hrow : ∀ i, i ≤ rs.length → ∀ x ∈ wyK rs i, x.length ≤ 100 := fun i hi x hx => by
    obtain ⟨j, hj, rfl⟩ := (wyK_mem i).1 hx
    unfold slP
    rw [slK_length]; exact hp j (by omega)
  simp only [slW, Go.Am.slU]
  (refine callS_of_awp (fun w args => Try.call25 ..) Try.func25 rfl (fun w0 m0 wz => ?_); simp only [Try.ntmps25, Try.results25, initT, junks, rptC, clmC, slR, slC, annC, sl, List.toList_toArray, List.cons_append, List.nil_append, List.length_cons, List.length_nil, Nat.reduceAdd, Nat.reduceSub])
  (repeat' (first
    | (refine awp_seqK ?_)
    | (refine kt ?_)
    | (refine And.intro ?_ ?_)
    | ((first | refine awp_region ?_ | refine awp_draw (by kernel_rfl) (by kernel_rfl) ?_ | refine Imp.le2 ?_ | refine awp_label ?_ | refine awp_skip ?_ | refine awp_exit ?_ | refine awp_cd ?_ | refine awp_ret ?_ | refine go_split (fun _h => ?_) (fun _h => ?_)) <;> try simp (maxSteps := 4000000) only [go_sem, seval])
    | (intro _h)
    | (refine awp_block ?_)
    | (refine awp_scope ?_)
    | (refine cond_b (fun _h => ?_) (fun _h => ?_))
    | (show heapOK _ _ = true; kernel_rfl)
    | (show heapOK2 _ _ = true; kernel_rfl)
    | (omega)))
  (refine awp_adT 3 59 1 rfl ?_; simp only [adT, lset, hset, List.length_cons, List.length_nil, Nat.reduceAdd])
  refine awp_loopN rs.length (fun i => ⟨mkT 87 [(0, .psl false rs.length (recs runC rs)), (3, .osl 0 (wyK rs i).length 0 (wyK rs i).length), (4, .int .i64 i)], [some (.cells 59 1 (wyK rs i).length (rowsC (wyK rs i)))], []⟩) (.le2 ?_) ?_
  · simp only [wyK]
    simp (maxSteps := 4000000) only [go_sem, seval]
    all_goals first | rfl | exact ⟨rfl, rfl⟩ | trace_state
  · intro i hi
    have hro := hrow i hi
    have hle := wyK_len (rs := rs) i
    rcases Nat.lt_or_eq_of_le hi with hi1 | hi1
    · have hst : wyK rs (i + 1) = wyS (wyK rs i) (slP (rs.getD i default)) := rfl
      rw [hst]
      clear hst
      have hpi := hp i hi1
      have hsc := Slides_c (rs.getD i default).place hpi
      have hsl : (slP (rs.getD i default)).length ≤ 100 := by unfold slP; rw [slK_length]; exact hpi
      have hsd : (slK (rs.getD i default).place (rs.getD i default).place.length).2 = slP (rs.getD i default) := rfl
      rw [hsd] at hsc
      clear hsd
      generalize slP (rs.getD i default) = s at *
      generalize wyK rs i = W at *
      simp only [sl] at hsc
      simp (maxSteps := 4000000) only [go_sem, seval]
      (repeat' (first
    | ((omega))
    | ((exfalso; omega))
    | (refine awp_seqK ?_)
    | (refine kt ?_)
    | (refine And.intro ?_ ?_)
    | ((first | refine awp_region ?_ | refine awp_draw (by kernel_rfl) (by kernel_rfl) ?_ | refine Imp.le2 ?_ | refine awp_label ?_ | refine awp_skip ?_ | refine awp_exit ?_ | refine awp_cd ?_ | refine awp_ret ?_ | refine callK_of (hsc) ?_ | refine go_split (fun _h => ?_) (fun _h => ?_)) <;> try simp (maxSteps := 4000000) only [go_sem, seval])
    | (intro _h)
    | (refine awp_block ?_)
    | (refine awp_scope ?_)
    | (refine cond_b (fun _h => ?_) (fun _h => ?_))
    | (show heapOK _ _ = true; kernel_rfl)
    | (show heapOK2 _ _ = true; kernel_rfl)
    | (omega)))
      refine awp_loopN W.length (fun k => ⟨mkT 87 [(0, .psl false rs.length (recs runC rs)), (3, .osl 0 W.length 0 W.length), (4, .int .i64 i), (5, .psl false s.length (ints s)), (6, .bool (isK W s k)), (7, .int .i64 k)], [some (.cells 59 1 W.length (rowsC W))], []⟩) (.le2 ?_) ?_
      · simp only [isK]
        simp (maxSteps := 4000000) only [go_sem, seval]
        all_goals first | rfl | trace_state
      · intro k hk
        rcases Nat.lt_or_eq_of_le hk with hk1 | hk1
        · have nR := fun K => rows_nth (l := W) hk1 (K := K)
          have hlr := hro _ (mem_row.2 ⟨k, hk1, rfl⟩)
          have hl1 := lessR_c (W.getD k []) s (by omega) (by omega)
          have hl2 := lessR_c s (W.getD k []) (by omega) (by omega)
          have htr := ltL_tri (a := W.getD k []) (b := s)
          have hst : isK W s (k + 1) = (isK W s k || decide (W.getD k [] = s)) := rfl
          rw [hst, ← htr]
          clear hst htr
          generalize isK W s k = b at *
          generalize ltL (W.getD k []) s = x at *
          generalize ltL s (W.getD k []) = y at *
          generalize W.getD k [] = z at *
          simp only [sl] at hl1 hl2
          cases b <;> cases x <;> cases y
          all_goals
            simp only [Bool.not_true, Bool.not_false, Bool.and_true, Bool.and_false, Bool.or_true, Bool.or_false, Bool.false_and, Bool.true_and]
            simp (maxSteps := 4000000) only [go_sem, seval]
            (repeat' (first
    | ((omega))
    | ((exfalso; omega))
    | (refine awp_seqK ?_)
    | (refine kt ?_)
    | (refine And.intro ?_ ?_)
    | ((first | refine awp_region ?_ | refine awp_draw (by kernel_rfl) (by kernel_rfl) ?_ | refine Imp.le2 ?_ | refine awp_label ?_ | refine awp_skip ?_ | refine awp_exit ?_ | refine awp_cd ?_ | refine awp_ret ?_ | refine callK_of (hl1) ?_ | refine callK_of (hl2) ?_ | refine go_split (fun _h => ?_) (fun _h => ?_)) <;> try simp (maxSteps := 4000000) only [go_sem, seval, nR])
    | (intro _h)
    | (refine awp_block ?_)
    | (refine awp_scope ?_)
    | (refine cond_b (fun _h => ?_) (fun _h => ?_))
    | (show heapOK _ _ = true; kernel_rfl)
    | (show heapOK2 _ _ = true; kernel_rfl)
    | (omega)))
            all_goals trace_state
        · subst hk1
          rw [isK_mem]
          unfold wyS
          by_cases hm : s ∈ W
          · rw [decide_eq_true hm, if_pos hm]
            simp (maxSteps := 4000000) only [go_sem, seval]
            (repeat' (first
    | ((omega))
    | ((exfalso; omega))
    | (refine awp_seqK ?_)
    | (refine kt ?_)
    | (refine And.intro ?_ ?_)
    | ((first | refine awp_region ?_ | refine awp_draw (by kernel_rfl) (by kernel_rfl) ?_ | refine Imp.le2 ?_ | refine awp_label ?_ | refine awp_skip ?_ | refine awp_exit ?_ | refine awp_cd ?_ | refine awp_ret ?_ | refine go_split (fun _h => ?_) (fun _h => ?_)) <;> try simp (maxSteps := 4000000) only [go_sem, seval])
    | (intro _h)
    | (refine awp_block ?_)
    | (refine awp_scope ?_)
    | (refine cond_b (fun _h => ?_) (fun _h => ?_))
    | (show heapOK _ _ = true; kernel_rfl)
    | (show heapOK2 _ _ = true; kernel_rfl)
    | (omega)))
            all_goals trace_state
          · rw [decide_eq_false hm, if_neg hm]
            have rsn := row_snoc (W := W) (s := s)
            rw [← insL_end] at rsn
            have hli : ∀ k, (insL W k s).length = W.length + 1 := fun k => insL_len
            simp (maxSteps := 4000000) only [go_sem, seval]
            (repeat' (first
    | ((omega))
    | ((exfalso; omega))
    | (refine awp_seqK ?_)
    | (refine kt ?_)
    | (refine And.intro ?_ ?_)
    | ((first | refine awp_region ?_ | refine awp_draw (by kernel_rfl) (by kernel_rfl) ?_ | refine Imp.le2 ?_ | refine awp_label ?_ | refine awp_skip ?_ | refine awp_exit ?_ | refine awp_cd ?_ | refine awp_ret ?_ | refine go_split (fun _h => ?_) (fun _h => ?_)) <;> try simp (maxSteps := 4000000) only [go_sem, seval, rsn])
    | (intro _h)
    | (refine awp_block ?_)
    | (refine awp_scope ?_)
    | (refine cond_b (fun _h => ?_) (fun _h => ?_))
    | (show heapOK _ _ = true; kernel_rfl)
    | (show heapOK2 _ _ = true; kernel_rfl)
    | (omega)))
            refine awp_loopJ (fun k : Nat => k ≤ W.length ∧ dposK W s k = dposK W s W.length) (fun k => ⟨mkT 87 [(0, .psl false rs.length (recs runC rs)), (3, .osl 0 (W.length + 1) 0 (W.length + 1)), (4, .int .i64 i), (5, .psl false s.length (ints s)), (8, .int .i64 k)], [some (.cells 59 1 (W.length + 1) (rowsC (insL W k s)))], []⟩) (fun k => k) W.length ⟨Nat.le_refl _, rfl⟩ (.le2 ?_) ?_
            · simp (maxSteps := 4000000) only [go_sem, seval]
              all_goals first | rfl | omega | trace_state
            · rintro k ⟨hk, hK⟩
              rw [← hK]
              cases k with
              | zero =>
                simp only [dposK]
                simp (maxSteps := 4000000) only [go_sem, seval]
                (repeat' (first
    | ((omega))
    | ((exfalso; omega))
    | (refine awp_seqK ?_)
    | (refine kt ?_)
    | (refine And.intro ?_ ?_)
    | ((first | refine awp_region ?_ | refine awp_draw (by kernel_rfl) (by kernel_rfl) ?_ | refine Imp.le2 ?_ | refine awp_label ?_ | refine awp_skip ?_ | refine awp_exit ?_ | refine awp_cd ?_ | refine awp_ret ?_ | refine go_split (fun _h => ?_) (fun _h => ?_)) <;> try simp (maxSteps := 4000000) only [go_sem, seval])
    | (intro _h)
    | (refine awp_block ?_)
    | (refine awp_scope ?_)
    | (refine cond_b (fun _h => ?_) (fun _h => ?_))
    | (show heapOK _ _ = true; kernel_rfl)
    | (show heapOK2 _ _ = true; kernel_rfl)
    | (omega)))
                all_goals first | (rw [hli]; done) | trace_state
              | succ k =>
                have nR1 := fun K => rows_nth (l := insL W (k + 1) s) (i := k + 1) (by rw [hli]; omega) (K := K)
                have nR2 := fun K => rows_nth (l := insL W (k + 1) s) (i := k) (by rw [hli]; omega) (K := K)
                rw [insL_at hk] at nR1
                rw [insL_bef hk] at nR2
                have hsw := row_swap (W := W) (s := s) (k := k) (by omega)
                have hrl : (rowsC (insL W (k + 1) s)).length = W.length + 1 := by rw [rows_length, hli]
                have hrl2 : (splice (rowsC (insL W (k + 1) s)) (k + 1) [.psl false (W.getD k []).length (ints (W.getD k []))]).length = W.length + 1 := by
                  simp only [splice, List.length_append, List.length_take, List.length_drop, List.length_cons, List.length_nil, hrl]; omega
                have hlr := hro _ (mem_row.2 ⟨k, by omega, rfl⟩)
                have hl2 := lessR_c s (W.getD k []) (by omega) (by omega)
                have hkk : ((k + 1 : Nat) : Int) - 1 = (k : Int) := by omega
                have hK2 : dposK W s (k + 1) = if ltL s (W.getD k []) = true then dposK W s k else k + 1 := rfl
                rw [hK2] at hK ⊢
                clear hK2
                generalize W.getD k [] = z at *
                generalize ltL s z = x at *
                simp only [sl] at hl2
                cases x with
                | true =>
                  rw [if_pos rfl] at hK ⊢
                  simp (maxSteps := 4000000) only [go_sem, seval]
                  (repeat' (first
    | ((omega))
    | ((exfalso; omega))
    | (refine awp_seqK ?_)
    | (refine kt ?_)
    | (refine And.intro ?_ ?_)
    | ((first | refine awp_region ?_ | refine awp_draw (by kernel_rfl) (by kernel_rfl) ?_ | refine Imp.le2 ?_ | refine awp_label ?_ | refine awp_skip ?_ | refine awp_exit ?_ | refine awp_cd ?_ | refine awp_ret ?_ | refine callK_of (hl2) ?_ | refine go_split (fun _h => ?_) (fun _h => ?_)) <;> try simp (maxSteps := 4000000) only [go_sem, seval, nR1, nR2, hrl, hrl2, hkk, hsw])
    | (intro _h)
    | (refine awp_block ?_)
    | (refine awp_scope ?_)
    | (refine cond_b (fun _h => ?_) (fun _h => ?_))
    | (show heapOK _ _ = true; kernel_rfl)
    | (show heapOK2 _ _ = true; kernel_rfl)
    | (omega)))
                  all_goals first
                    | (refine ⟨k, ⟨by omega, rfl⟩, by omega, .le2 ?_⟩
                       simp (maxSteps := 4000000) only [go_sem, seval]
                       all_goals first | rfl | trace_state)
                    | trace_state
                | false =>
                  rw [if_neg (by simp)] at hK ⊢
                  simp (maxSteps := 4000000) only [go_sem, seval]
                  (repeat' (first
    | ((omega))
    | ((exfalso; omega))
    | (refine awp_seqK ?_)
    | (refine kt ?_)
    | (refine And.intro ?_ ?_)
    | ((first | refine awp_region ?_ | refine awp_draw (by kernel_rfl) (by kernel_rfl) ?_ | refine Imp.le2 ?_ | refine awp_label ?_ | refine awp_skip ?_ | refine awp_exit ?_ | refine awp_cd ?_ | refine awp_ret ?_ | refine callK_of (hl2) ?_ | refine go_split (fun _h => ?_) (fun _h => ?_)) <;> try simp (maxSteps := 4000000) only [go_sem, seval, nR1, nR2, hrl, hrl2, hkk])
    | (intro _h)
    | (refine awp_block ?_)
    | (refine awp_scope ?_)
    | (refine cond_b (fun _h => ?_) (fun _h => ?_))
    | (show heapOK _ _ = true; kernel_rfl)
    | (show heapOK2 _ _ = true; kernel_rfl)
    | (omega)))
                  all_goals first | (rw [hli]; done) | trace_state
    · subst hi1
      generalize wyK rs rs.length = W at *
      simp (maxSteps := 4000000) only [go_sem, seval]
      (repeat' (first
    | (refine awp_frz (c := .region 17 _ _) 0 rfl (by simp (maxSteps := 4000000) only [go_sem, seval]) (fun _ => rfl) ?_; simp only [frz, fq_pure, fzB_c, fzB_m, fzB_d, fzB_l, fzO, fzH, fzHs, fzl, fz2, fz1, fz0, List.map_cons, List.map_nil, if_true, if_false, reduceIte, Nat.reduceEqDiff, Nat.reduceAdd, Nat.succ_ne_self, Nat.zero_ne_one, Nat.one_ne_zero, reduceCtorEq, and_self])
    | ((omega))
    | ((exfalso; omega))
    | (refine awp_seqK ?_)
    | (refine kt ?_)
    | (refine And.intro ?_ ?_)
    | ((first | refine awp_region ?_ | refine awp_draw (by kernel_rfl) (by kernel_rfl) ?_ | refine Imp.le2 ?_ | refine awp_label ?_ | refine awp_skip ?_ | refine awp_exit ?_ | refine awp_cd ?_ | refine awp_ret ?_ | refine go_split (fun _h => ?_) (fun _h => ?_)) <;> try simp (maxSteps := 4000000) only [go_sem, seval])
    | (intro _h)
    | (refine awp_block ?_)
    | (refine awp_scope ?_)
    | (refine cond_b (fun _h => ?_) (fun _h => ?_))
    | (show heapOK _ _ = true; kernel_rfl)
    | (show heapOK2 _ _ = true; kernel_rfl)
    | (omega)))
      all_goals trace_state
def dyR (rs : List RunT) (i : Nat) : Nat → Int × Int
  | 0 => ((rs.getD 0 default).first.getD i 0, (rs.getD 0 default).last.getD i 0)
  | k + 1 => (min (dyR rs i k).1 ((rs.getD (k + 1) default).first.getD i 0), max (dyR rs i k).2 ((rs.getD (k + 1) default).last.getD i 0))
end Go.Am

/- Plain words: the reference's orders and right chronicles. No program is in sight. -/
namespace Go.Am
open Go.RowKit Go.Proofs
set_option linter.unusedSimpArgs false
set_option linter.unusedVariables false
noncomputable def mkR (t : Ann) (P : List Int) : RunT := ⟨P, lsL t P (mN t P), grL t P (mN t P)⟩
theorem mem_runR {t : Ann} {P : List Int} {r : RunT} : r ∈ runR t P ↔ RunOK t P ∧ r = mkR t P := by
  unfold runR
  split
  · rename_i h; simp [h, mkR]
  · rename_i h; simp [h]
theorem mem_runs {t : Ann} {r : RunT} : ∀ (f : Nat) (P : List Int), r ∈ runsF t f P ↔ ∃ Q : List Int, Q.length = f ∧ (∀ x ∈ Q, 0 ≤ x ∧ x < t.reports.length) ∧ RunOK t (P ++ Q) ∧ r = mkR t (P ++ Q)
  | 0, P => by
    simp only [runsF, mem_runR]
    constructor
    · rintro ⟨h1, h2⟩; exact ⟨[], rfl, fun x hx => (by cases hx), by simpa using h1, by simpa using h2⟩
    · rintro ⟨Q, hl, _, h1, h2⟩
      have : Q = [] := List.length_eq_zero_iff.1 hl
      subst this
      simp at h1 h2
      exact ⟨h1, h2⟩
  | f + 1, P => by
    simp only [runsF, List.mem_flatMap, List.mem_range]
    constructor
    · rintro ⟨p, hp, h⟩
      obtain ⟨Q, hl, hq, h1, h2⟩ := (mem_runs f (P ++ [(p : Int)])).1 h
      rw [List.append_assoc] at h1 h2
      refine ⟨[(p : Int)] ++ Q, by simp [hl], fun x hx => ?_, h1, h2⟩
      rcases List.mem_append.1 hx with hx | hx
      · have : x = (p : Int) := by simpa using hx
        omega
      · exact hq x hx
    · rintro ⟨Q, hl, hq, h1, h2⟩
      cases Q with
      | nil => simp at hl
      | cons x Q =>
        have hx := hq x (by simp)
        obtain ⟨p, rfl⟩ := Int.eq_ofNat_of_zero_le hx.1
        refine ⟨p, by omega, (mem_runs f (P ++ [(p : Int)])).2 ⟨Q, by simpa using hl, fun y hy => hq y (by simp [hy]), ?_, ?_⟩⟩
        · rw [List.append_assoc]; exact h1
        · rw [List.append_assoc]; exact h2
theorem mxK_ge {P : List Int} : ∀ {n i : Nat}, i < n → P.getD i 0 + 1 ≤ mxK P n
  | n + 1, i, hi => by
    simp only [mxK]
    by_cases e : i = n
    · subst e; omega
    · have := mxK_ge (P := P) (n := n) (i := i) (by omega)
      omega
theorem mxK_le {P : List Int} {B : Int} (hB : 0 ≤ B) : ∀ {n : Nat}, (∀ i, i < n → P.getD i 0 + 1 ≤ B) → mxK P n ≤ B
  | 0, _ => hB
  | n + 1, h => by
    have ih := mxK_le hB (n := n) fun i hi => h i (by omega)
    have := h n (by omega)
    simp only [mxK]; omega
theorem snK_iff {P : List Int} {p : Nat} : ∀ {n : Nat}, snK P p n = true ↔ ∃ i, i < n ∧ P.getD i 0 = (p : Int)
  | 0 => by simp [snK]
  | n + 1 => by
    have ih := snK_iff (P := P) (p := p) (n := n)
    simp only [snK, Bool.or_eq_true, ih, decide_eq_true_eq]
    constructor
    · rintro (⟨i, hi, e⟩ | e)
      · exact ⟨i, by omega, e⟩
      · exact ⟨n, by omega, e⟩
    · rintro ⟨i, hi, e⟩
      by_cases e2 : i = n
      · subst e2; exact .inr e
      · exact .inl ⟨i, by omega, e⟩
theorem fit_iff {t : Ann} {P : List Int} (ht : AnnOK t) {j : Nat} (hj : j < t.claims.length) (h : fitC P (cl t j)) : ((cl t j).kind = 0 → P.getD (cl t j).a.toNat 0 < P.getD (cl t j).b.toNat 0) ∧ ((cl t j).kind = 1 → P.getD (cl t j).a.toNat 0 = P.getD (cl t j).b.toNat 0) ∧ ((cl t j).kind ≠ 0 → (cl t j).kind ≠ 1 → P.getD (cl t j).a.toNat 0 ≠ P.getD (cl t j).b.toNat 0) := by
  have hc := (ht.clm j hj).1
  have hc2 : t.claims.getD j default = cl t j := rfl
  rw [hc2] at hc
  exact ⟨h.1, h.2.1, fun h0 h1 => h.2.2 (by omega)⟩
theorem ord_of {t : Ann} {P : List Int} (ht : AnnOK t) (hl : P.length = t.reports.length) (hP : ∀ x ∈ P, 0 ≤ x ∧ x < t.reports.length) (h : RunOK t P) : OrdP t P (mN t P) := by
  have hr := ht.reports
  have hg : ∀ i, i < t.reports.length → 0 ≤ P.getD i 0 := fun i hi => (hP _ (getD_memI.2 ⟨i, by omega, rfl⟩)).1
  have hm : 0 ≤ mxK P t.reports.length := by
    have := mxK_ge (P := P) (n := t.reports.length) (i := 0) (by omega)
    have := hg 0 (by omega); omega
  refine ⟨fun i hi => ⟨hg i hi, ?_⟩, fun p hp => snK_iff.1 (h.seen p hp), fun i k hi hk he => ?_, fun j hj => (fit_iff ht hj (h.fit.2 j hj)).1, fun j hj => (fit_iff ht hj (h.fit.2 j hj)).2.1, fun j hj => (fit_iff ht hj (h.fit.2 j hj)).2.2⟩
  · have := mxK_ge (P := P) hi
    unfold mN; omega
  · rcases Nat.lt_trichotomy i k with h1 | h1 | h1
    · exact (h.fit.1 k hk i h1 he.symm).symm
    · rw [h1]
    · exact h.fit.1 i hi k h1 he
theorem of_ord {t : Ann} {P : List Int} {m : Nat} (ht : AnnOK t) (ho : OrdP t P m) : mN t P = m ∧ (∀ p, p < mN t P → snK P p t.reports.length = true) ∧ FitP t P := by
  have hr := ht.reports
  have h1 : mN t P = m := by
    have hle := mxK_le (P := P) (B := (m : Int)) (by omega) (n := t.reports.length) fun i hi => by have := ho.rng i hi; omega
    have hge : (m : Int) ≤ mxK P t.reports.length := by
      cases m with
      | zero => have := ho.rng 0 (by omega); omega
      | succ m =>
        obtain ⟨i, hi, e⟩ := ho.on m (by omega)
        have := mxK_ge (P := P) hi
        rw [e] at this
        push_cast; omega
    unfold mN; omega
  refine ⟨h1, fun p hp => snK_iff.2 (ho.on p (by omega)), fun i hi k hk he => ho.slope i k hi (by omega) he, fun j hj => ?_⟩
  exact ⟨ho.before j hj, ho.one j hj, fun h2 => ho.other j hj (by omega) (by omega)⟩
/-- The reference's orders. -/
noncomputable def rsA (t : Ann) : List RunT := runsF t t.reports.length []
theorem runs_chr2 {t : Ann} (ht : AnnOK t) {r : RunT} (h : r ∈ rsA t) : r.place.length = t.reports.length ∧ r.first.length = t.reports.length ∧ r.last.length = t.reports.length ∧ Chr t (fun i => r.place.getD i 0) (fun i => r.first.getD i 0) ∧ Chr t (fun i => r.place.getD i 0) (fun i => r.last.getD i 0) := by
  obtain ⟨Q, hl, hq, hk, rfl⟩ := (mem_runs _ _).1 h
  rw [List.nil_append] at hk ⊢
  have ho := ord_of ht hl hq hk
  exact ⟨hl, lsK_len _, gsK_len _, lsL_chr ht ho hk.hi, grL_chr ht ho hk.hi⟩
theorem run_of {t : Ann} (ht : AnnOK t) {P : List Int} {m : Nat} (hl : P.length = t.reports.length) (hm : m ≤ t.reports.length) (ho : OrdP t P m) {e : Nat → Int} (hc : Chr t (fun i => P.getD i 0) e) (he : ∀ i k, i < t.reports.length → k < t.reports.length → P.getD i 0 < P.getD k 0 → e i ≤ e k) : ∃ r ∈ rsA t, r.place = P ∧ (∀ i, i < t.reports.length → r.first.getD i 0 ≤ e i ∧ e i ≤ r.last.getD i 0) := by
  obtain ⟨h1, h2, h3⟩ := of_ord ht ho
  have hmin := fun i hi => lsL_min ht ho hc (fun _ _ _ _ => Iff.rfl) he (i := i) hi
  have hmax := fun i hi => grL_max ht ho hc (fun _ _ _ _ => Iff.rfl) he (i := i) hi
  have hk : RunOK t P := ⟨h2, h3, fun i hi => by
    rw [h1]; exact Int.le_trans (hmin i hi) (hc.day i hi).2⟩
  refine ⟨mkR t P, (mem_runs _ _).2 ⟨P, hl, fun x hx => ?_, by simpa using hk, by simp⟩, rfl, fun i hi => ?_⟩
  · obtain ⟨i, hi, rfl⟩ := getD_memI.1 hx
    have := ho.rng i (by omega)
    omega
  · simp only [mkR]
    rw [h1]; exact ⟨hmin i hi, hmax i hi⟩
theorem chr_low {t : Ann} (ht : AnnOK t) {C d : Nat → Int} (hc : Chr t C d) : ∃ r ∈ rsA t, (∀ i k, i < t.reports.length → k < t.reports.length → (C i = C k ↔ r.place.getD i 0 = r.place.getD k 0)) ∧ ∀ i, i < t.reports.length → r.first.getD i 0 ≤ d i := by
  obtain ⟨m, P, e, hl, hm, ho, hC, hce, hme, hed⟩ := chr_ord ht hc
  obtain ⟨r, hr, rfl, hb⟩ := run_of ht hl hm ho hce hme
  exact ⟨r, hr, hC, fun i hi => Int.le_trans (hb i hi).1 (hed i hi)⟩
theorem chr_high {t : Ann} (ht : AnnOK t) {C d : Nat → Int} (hc : Chr t C d) : ∃ r ∈ rsA t, (∀ i k, i < t.reports.length → k < t.reports.length → (C i = C k ↔ r.place.getD i 0 = r.place.getD k 0)) ∧ ∀ i, i < t.reports.length → d i ≤ r.last.getD i 0 := by
  have hml : (mirA t).reports.length = t.reports.length := mirA_len
  obtain ⟨m, P, e, hl, hm, ho, hC, hce, hme, hed⟩ := chr_ord (mirA_ok ht) (chr_mir hc)
  rw [hml] at hl hm
  have hmm : mirA (mirA t) = t := mir_mir t
  have ho2 := ord_mir (mirA_ok ht) ho
  rw [hmm] at ho2
  have hrv : ∀ i, i < t.reports.length → (rvP (mirA t) P m).getD i 0 = (m : Int) - 1 - P.getD i 0 := fun i hi => rv_get (by rw [hml]; exact hi)
  have hce2 := chr_mir2 hce
  obtain ⟨r, hr, hpl, hb⟩ := run_of ht (P := rvP (mirA t) P m) (m := m) (e := fun i => 100000 - e i) (by show (tab _ _).length = _; rw [tab_length, hml]) hm ho2 ⟨hce2.day, fun i k hi hk he => hce2.same i k hi hk (by
      simp only [hrv i hi, hrv k hk] at he; omega), fun i k hi hk hne he => hce2.gap i k hi hk (by
      simp only [ne_eq, hrv i hi, hrv k hk] at hne; omega) he, hce2.before, fun j hj hk => ho2.one j hj hk, fun j hj hk hk2 => ho2.other j hj hk hk2⟩ (fun i k hi hk hlt => by
      rw [hrv i hi, hrv k hk] at hlt
      have := hme k i (by rw [hml]; exact hk) (by rw [hml]; exact hi) (by omega)
      show 100000 - e i ≤ 100000 - e k
      omega)
  refine ⟨r, hr, fun i k hi hk => ?_, fun i hi => ?_⟩
  · rw [hpl, hrv i hi, hrv k hk, hC i k (by rw [hml]; exact hi) (by rw [hml]; exact hk)]; omega
  · have h1 := (hb i hi).2
    have h2 : e i ≤ 100000 - d i := hed i (by rw [hml]; exact hi)
    have h1 : 100000 - e i ≤ r.last.getD i 0 := h1
    omega
theorem rs_nil {t : Ann} (ht : AnnOK t) : rsA t = [] ↔ (fiV t).1 = false := by
  have h := (fiV_spec ht).fd
  constructor
  · intro he
    cases hb : (fiV t).1 with
    | false => rfl
    | true =>
      obtain ⟨C, D, hc⟩ := h.1 hb
      obtain ⟨r, hr, _⟩ := chr_low ht hc
      rw [he] at hr; cases hr
  · intro hb
    cases hl : rsA t with
    | nil => rfl
    | cons r l =>
      have := runs_chr2 ht (r := r) (by rw [hl]; simp)
      have := h.2 ⟨_, _, this.2.2.2.1⟩
      rw [hb] at this; cases this
theorem srt_pair {l : List (List Int)} (h : Srt l) : l.Pairwise fun a b => cmpL a b < 0 := by
  rw [List.pairwise_iff_getElem]
  intro i j hi hj hij
  have h1 := h i j hij hj
  simpa [List.getD_eq_getElem?_getD, hi, hj] using h1
theorem srt_ext : ∀ {a b : List (List Int)}, a.Pairwise (fun x y => cmpL x y < 0) → b.Pairwise (fun x y => cmpL x y < 0) → (∀ s, s ∈ a ↔ s ∈ b) → a = b
  | [], [], _, _, _ => rfl
  | [], y :: b, _, _, h => absurd ((h y).2 (by simp)) (by simp)
  | x :: a, [], _, _, h => absurd ((h x).1 (by simp)) (by simp)
  | x :: a, y :: b, ha, hb, h => by
    obtain ⟨ha1, ha2⟩ := List.pairwise_cons.1 ha
    obtain ⟨hb1, hb2⟩ := List.pairwise_cons.1 hb
    have irr : ∀ z : List Int, ¬ cmpL z z < 0 := fun z => by have := cmpL_eq.2 (rfl : z = z); omega
    have hxy : x = y := by
      rcases List.mem_cons.1 ((h x).1 (by simp)) with e | hx
      · exact e
      · rcases List.mem_cons.1 ((h y).2 (by simp)) with e | hy
        · exact e.symm
        · have := cmpL_tr (ha1 y hy) (hb1 x hx)
          exact absurd this (irr x)
    subst hxy
    congr 1
    refine srt_ext ha2 hb2 fun s => ?_
    have hs := h s
    simp only [List.mem_cons] at hs
    constructor
    · intro hm
      rcases hs.1 (.inr hm) with e | h1
      · subst e; exact absurd (ha1 s hm) (irr s)
      · exact h1
    · intro hm
      rcases hs.2 (.inr hm) with e | h1
      · subst e; exact absurd (hb1 s hm) (irr s)
      · exact h1
theorem slP_SL {t : Ann} {r : RunT} (hl : r.place.length = t.reports.length) : slP r = SL t.reports.length (fun i => r.place.getD i 0) := by
  unfold slP SL
  rw [hl]
  refine congrArg Prod.snd (slK_cong fun i hi => ?_)
  rw [tabD hi]
theorem ways_eq {t : Ann} (ht : AnnOK t) (hw : (waV t).1.length ≤ 100) : wyK (rsA t) (rsA t).length = (waV t).1 := by
  have h := (waV_spec ht).2
  refine srt_ext (srt_pair (wyK_srt _)) (srt_pair h.srt) fun s => ?_
  rw [wyK_mem]
  constructor
  · rintro ⟨j, hj, rfl⟩
    have hm : (rsA t).getD j default ∈ rsA t := by rw [List.getD_eq_getElem?_getD, List.getElem?_eq_getElem hj]; exact List.getElem_mem hj
    have hc := runs_chr2 ht hm
    rw [slP_SL hc.1]
    exact h.all hw _ _ hc.2.2.2.1
  · intro hs
    obtain ⟨C, D, hc, rfl⟩ := h.mem s hs
    obtain ⟨r, hr, hC, _⟩ := chr_low ht hc
    obtain ⟨j, hj, rfl⟩ := List.mem_iff_getElem.1 hr
    refine ⟨j, hj, ?_⟩
    have e : (rsA t).getD j default = (rsA t)[j] := by rw [List.getD_eq_getElem?_getD, List.getElem?_eq_getElem hj]; rfl
    rw [e, slP_SL (runs_chr2 ht hr).1]
    exact SL_class fun i k hi hk => (hC i k hi hk).symm
/-- Few reports have few ways. -/
def allN : Nat → List (List Int)
  | 0 => [[]]
  | n + 1 => (allN n).flatMap fun s => (List.range (n + 1)).map fun (v : Nat) => s ++ [(v : Int)]
theorem allN_mem : ∀ (n : Nat) (s : List Int), s.length = n → (∀ i, i < n → 0 ≤ s.getD i 0 ∧ s.getD i 0 ≤ i) → s ∈ allN n
  | 0, s, hl, _ => by
    have : s = [] := List.length_eq_zero_iff.1 hl
    subst this; simp [allN]
  | n + 1, s, hl, h => by
    have e : s = s.take n ++ [s.getD n 0] := by
      have h1 : s.take (n + 1) = s.take n ++ [s.getD n 0] := by
        rw [List.take_succ_eq_append_getElem (by omega)]; simp [List.getD_eq_getElem?_getD, show n < s.length by omega]
      rw [← h1, List.take_of_length_le (by omega)]
    have hn := h n (by omega)
    obtain ⟨v, hv⟩ := Int.eq_ofNat_of_zero_le hn.1
    have hv : s.getD n 0 = (v : Int) := hv
    simp only [allN, List.mem_flatMap, List.mem_map, List.mem_range]
    refine ⟨s.take n, allN_mem n _ (by rw [List.length_take]; omega) (fun i hi => ?_), v, by omega, by rw [← hv]; exact e.symm⟩
    have := h i (by omega)
    simp only [List.getD_eq_getElem?_getD, List.getElem?_take, if_pos hi] at this ⊢
    exact this
theorem ways_few {t : Ann} (ht : AnnOK t) (hn : t.reports.length ≤ 4) : (waV t).1.length ≤ 100 := by
  have h := (waV_spec ht).2
  have h1 := len_sub (r := allN t.reports.length) (srt_pw h.srt) fun s hs => by
    obtain ⟨C, D, hc, rfl⟩ := h.mem s hs
    have hnum := of_decide_eq_true (SL_num (N := t.reports.length) (C := C))
    rw [SL_len] at hnum
    exact allN_mem _ _ SL_len fun i hi => by
      have h2 := hnum i hi
      have h3 := nxK_bd (s := SL t.reports.length C) i
      omega
  have h2 : ∀ n, n ≤ 4 → (allN n).length ≤ 100 := by decide +kernel
  have := h2 _ hn
  omega
theorem dyR_low {rs : List RunT} {i : Nat} : ∀ k, (∀ j, j ≤ k → (dyR rs i k).1 ≤ (rs.getD j default).first.getD i 0 ∧ (rs.getD j default).last.getD i 0 ≤ (dyR rs i k).2) ∧ (∃ j, j ≤ k ∧ (dyR rs i k).1 = (rs.getD j default).first.getD i 0) ∧ ∃ j, j ≤ k ∧ (dyR rs i k).2 = (rs.getD j default).last.getD i 0
  | 0 => ⟨fun j hj => by
      have : j = 0 := by omega
      subst this; exact ⟨Int.le_refl _, Int.le_refl _⟩, ⟨0, by omega, rfl⟩, ⟨0, by omega, rfl⟩⟩
  | k + 1 => by
    obtain ⟨h1, ⟨j1, hj1, e1⟩, ⟨j2, hj2, e2⟩⟩ := dyR_low (rs := rs) (i := i) k
    simp only [dyR]
    refine ⟨fun j hj => ?_, ?_, ?_⟩
    · by_cases e : j = k + 1
      · subst e; omega
      · have := h1 j (by omega); omega
    · by_cases e : (dyR rs i k).1 ≤ (rs.getD (k + 1) default).first.getD i 0
      · exact ⟨j1, by omega, by omega⟩
      · exact ⟨k + 1, by omega, by omega⟩
    · by_cases e : (rs.getD (k + 1) default).last.getD i 0 ≤ (dyR rs i k).2
      · exact ⟨j2, by omega, by omega⟩
      · exact ⟨k + 1, by omega, by omega⟩
theorem days_eq {t : Ann} (ht : AnnOK t) (hv : (fiV t).1 = true) {i : Nat} (hi : i < t.reports.length) : dyR (rsA t) i ((rsA t).length - 1) = dayF (fiV t).2 (fiV (mirA t)).2 i := by
  have hne : rsA t ≠ [] := fun e => by have := (rs_nil ht).1 e; rw [hv] at this; cases this
  have hpos : 0 < (rsA t).length := List.length_pos_iff.2 hne
  have hmem : ∀ j, j < (rsA t).length → (rsA t).getD j default ∈ rsA t := fun j hj => by
    rw [List.getD_eq_getElem?_getD, List.getElem?_eq_getElem hj]; exact List.getElem_mem hj
  have hidx : ∀ r ∈ rsA t, ∃ j, j ≤ (rsA t).length - 1 ∧ (rsA t).getD j default = r := fun r hr => by
    obtain ⟨j, hj, rfl⟩ := List.mem_iff_getElem.1 hr
    exact ⟨j, by omega, by rw [List.getD_eq_getElem?_getD, List.getElem?_eq_getElem hj]; rfl⟩
  obtain ⟨h1, ⟨j1, hj1, e1⟩, ⟨j2, hj2, e2⟩⟩ := dyR_low (rs := rsA t) (i := i) ((rsA t).length - 1)
  have hf := fiV_spec ht
  have hm := fiV_spec (mirA_ok ht)
  have hvm := fiV_mir ht (mirA_ok ht) hv
  have a1 : (dyR (rsA t) i ((rsA t).length - 1)).1 = (fiV t).2.getD i 0 := by
    apply Int.le_antisymm
    · obtain ⟨C, D, hc, he⟩ := hf.ex hv i hi
      obtain ⟨r, hr, _, hle⟩ := chr_low ht hc
      obtain ⟨j, hj, rfl⟩ := hidx r hr
      rw [he]
      exact Int.le_trans (h1 j hj).1 (hle i hi)
    · rw [e1]
      exact hf.le _ _ (runs_chr2 ht (hmem j1 (by omega))).2.2.2.1 i hi
  have a2 : (dyR (rsA t) i ((rsA t).length - 1)).2 = 100000 - (fiV (mirA t)).2.getD i 0 := by
    have hi2 : i < (mirA t).reports.length := by rw [mirA_len]; exact hi
    apply Int.le_antisymm
    · rw [e2]
      have := hm.le _ _ (chr_mir (runs_chr2 ht (hmem j2 (by omega))).2.2.2.2) i hi2
      have this : (fiV (mirA t)).2.getD i 0 ≤ 100000 - ((rsA t).getD j2 default).last.getD i 0 := this
      omega
    · obtain ⟨C, D, hc, he⟩ := hm.ex hvm i hi2
      obtain ⟨r, hr, _, hle⟩ := chr_high ht (chr_mir2 hc)
      obtain ⟨j, hj, rfl⟩ := hidx r hr
      have h3 : 100000 - D i ≤ ((rsA t).getD j default).last.getD i 0 := hle i hi
      have h4 := (h1 j hj).2
      rw [he]; omega
  exact Prod.ext a1 a2
theorem alS_iff {W : List (List Int)} {i k : Nat} : ∀ q, alS W i k q = true ↔ ∀ j, j < q → (W.getD j []).getD i 0 = (W.getD j []).getD k 0
  | 0 => by simp [alS]
  | q + 1 => by
    have ih := alS_iff (W := W) (i := i) (k := k) q
    simp only [alS]
    split
    · rename_i h
      rw [ih]
      constructor
      · intro h1 j hj
        by_cases e : j = q
        · subst e; exact h
        · exact h1 j (by omega)
      · intro h1 j hj; exact h1 j (by omega)
    · rename_i h
      constructor
      · intro h1; cases h1
      · intro h1; exact absurd (h1 q (by omega)) h
theorem noS_iff {W : List (List Int)} {i k : Nat} : ∀ q, noS W i k q = true ↔ ∀ j, j < q → (W.getD j []).getD i 0 ≠ (W.getD j []).getD k 0
  | 0 => by simp [noS]
  | q + 1 => by
    have ih := noS_iff (W := W) (i := i) (k := k) q
    simp only [noS]
    split
    · rename_i h
      constructor
      · intro h1; cases h1
      · intro h1; exact absurd h (h1 q (by omega))
    · rename_i h
      rw [ih]
      constructor
      · intro h1 j hj
        by_cases e : j = q
        · subst e; exact h
        · exact h1 j (by omega)
      · intro h1 j hj; exact h1 j (by omega)
theorem sure_eq {t : Ann} (ht : AnnOK t) (hw : (waV t).1.length ≤ 100) {i k : Nat} (hi : i < t.reports.length) (hk : k < t.reports.length) (hv : (fiV t).1 = true) : sureR (waV t).1 i k = if (suV t ⟨i, k⟩).1 = true then (if (suV t ⟨i, k⟩).2 = true then 3 else 1) else 2 := by
  have h := (waV_spec ht).2
  have hs := suV_spec ht (p := ⟨i, k⟩) ⟨⟨by simp, by simpa using hi⟩, by simp, by simpa using hk⟩
  simp only [Int.toNat_natCast] at hs
  have hfd := sure_fd ht hi hk
  rw [hv] at hfd
  have one : (suV t ⟨i, k⟩).1 = true ↔ ∃ j, j < (waV t).1.length ∧ ((waV t).1.getD j []).getD i 0 = ((waV t).1.getD j []).getD k 0 := by
    rw [hs.one]
    constructor
    · rintro ⟨C, D, hc, e⟩
      obtain ⟨j, hj, e2⟩ := mem_row.1 (h.all hw _ _ hc)
      exact ⟨j, hj, by rw [e2]; exact (SL_eq hi hk).2 e⟩
    · rintro ⟨j, hj, e⟩
      obtain ⟨C, D, hc, e2⟩ := h.mem _ (mem_row.2 ⟨j, hj, rfl⟩)
      rw [e2] at e
      exact ⟨C, D, hc, (SL_eq hi hk).1 e⟩
  have oth : (suV t ⟨i, k⟩).2 = true ↔ ∃ j, j < (waV t).1.length ∧ ((waV t).1.getD j []).getD i 0 ≠ ((waV t).1.getD j []).getD k 0 := by
    rw [hs.other]
    constructor
    · rintro ⟨C, D, hc, e⟩
      obtain ⟨j, hj, e2⟩ := mem_row.1 (h.all hw _ _ hc)
      exact ⟨j, hj, by rw [e2]; exact fun h9 => e ((SL_eq hi hk).1 h9)⟩
    · rintro ⟨j, hj, e⟩
      obtain ⟨C, D, hc, e2⟩ := h.mem _ (mem_row.2 ⟨j, hj, rfl⟩)
      rw [e2] at e
      exact ⟨C, D, hc, fun h9 => e ((SL_eq hi hk).2 h9)⟩
  unfold sureR
  by_cases hA : alS (waV t).1 i k (waV t).1.length = true
  · rw [if_pos hA]
    have hA2 := (alS_iff _).1 hA
    have h2 : ¬ (suV t ⟨i, k⟩).2 = true := fun h9 => by
      obtain ⟨j, hj, e⟩ := oth.1 h9
      exact e (hA2 j hj)
    have h1 : (suV t ⟨i, k⟩).1 = true := by
      cases hb : (suV t ⟨i, k⟩).1 with
      | true => rfl
      | false =>
        rw [hb, Bool.false_or] at hfd
        exact absurd hfd.symm h2
    rw [if_pos h1, if_neg h2]
  · rw [if_neg hA]
    have hA2 : (suV t ⟨i, k⟩).2 = true := by
      apply Classical.byContradiction
      intro h9
      apply hA
      rw [alS_iff]
      intro j hj
      apply Classical.byContradiction
      intro e
      exact h9 (oth.2 ⟨j, hj, e⟩)
    by_cases hN : noS (waV t).1 i k (waV t).1.length = true
    · rw [if_pos hN]
      have hN2 := (noS_iff _).1 hN
      have h1 : ¬ (suV t ⟨i, k⟩).1 = true := fun h9 => by
        obtain ⟨j, hj, e⟩ := one.1 h9
        exact hN2 j hj e
      rw [if_neg h1]
    · rw [if_neg hN]
      have h1 : (suV t ⟨i, k⟩).1 = true := by
        apply Classical.byContradiction
        intro h9
        apply hN
        rw [noS_iff]
        intro j hj e
        exact h9 (one.2 ⟨j, hj, e⟩)
      rw [if_pos h1, if_pos hA2]
end Go.Am

/- What the orders of the reference say of the laws. -/
namespace Go.Am
open Go.RowKit Go.Proofs
attribute [local irreducible] AWP CallS Kt goK CallK stepK evOps SemF SemY Imp
set_option maxRecDepth 4000
set_option linter.unusedSimpArgs false
set_option linter.unusedVariables false
set_option maxHeartbeats 6400000
theorem few_ok {t : Ann} (h : fewB t = true) : annOK t ∧ (faultA t = 0 → t.reports.length ≤ 4) := by
  unfold fewB at h
  simp only [Bool.and_eq_true, decide_eq_true_eq] at h
  exact ⟨thinB_ok h.1, fun h0 => by rcases h.2 with h2 | h2 <;> omega⟩
structure RunsP (t : Ann) (rs : List RunT) : Prop where
  call : CallS Try.prog 22 [.agg (annC t), .nils] (Go.Am.slU rs)
  len : rs.length ≤ 1000000
  nil : rs.length = 0 ↔ (fiV t).1 = false
  place : ∀ i, i < rs.length → (rs.getD i default).place.length ≤ 100
  fl : ∀ k, k < rs.length → (rs.getD k default).first.length = t.reports.length ∧ (rs.getD k default).last.length = t.reports.length
  way : (waV t).1.length ≤ 100 → wyK rs rs.length = (waV t).1
  day : (fiV t).1 = true → (tab t.reports.length fun i => dyR rs i (rs.length - 1)) = tab t.reports.length (dayF (fiV t).2 (fiV (mirA t)).2)
theorem runs_p {t : Ann} (ht : AnnOK t) : RunsP t (rsA t) := by
  have hr := ht.reports
  have hmem : ∀ j, j < (rsA t).length → (rsA t).getD j default ∈ rsA t := fun j hj => by
    rw [List.getD_eq_getElem?_getD, List.getElem?_eq_getElem hj]; exact List.getElem_mem hj
  refine ⟨?_, ?_, ?_, fun i hi => ?_, fun k hk => ?_, ways_eq ht, fun hv => ?_⟩
  · have h := Runs_c t ht t.reports.length [] (by simp) (fun i hi => by simp at hi)
    exact CallS.sub h (by simp [subL, avSub, sl, ints])
  · have h1 := runsF_len (t := t) t.reports.length []
    have h2 := pow_bd (n := t.reports.length) (f := t.reports.length) (by omega) (by omega)
    unfold rsA; omega
  · rw [List.length_eq_zero_iff]; exact rs_nil ht
  · have := (runs_chr2 ht (hmem i hi)).1; omega
  · have := runs_chr2 ht (hmem k hk); exact ⟨this.2.1, this.2.2.1⟩
  · simp only [tab]
    apply List.map_congr_left
    intro i hi
    rw [List.mem_range] at hi
    exact days_eq ht hv hi
end Go.Am
