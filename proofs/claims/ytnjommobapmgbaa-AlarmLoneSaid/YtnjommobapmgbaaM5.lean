/- Parts AlO, AlP, AlR, BlA, RdC, BlB, BlC, BlD, BlE, BlF of the proof, one behind the other: the machine of abstract values, contracts, plain words. No statement is proved here. -/
import Derived.Test.YtnjommobapmgbaaM4
/- Contracts of the alarm functions: the errors of posts with reads, levels. -/
namespace Go.Am
open Go.RowKit Go.Proofs
attribute [local irreducible] AWP CallS Kt goK CallK stepK evOps SemF SemY
set_option maxRecDepth 4000
set_option linter.unusedSimpArgs false
set_option linter.unusedVariables false
set_option maxHeartbeats 1600000

/-- Lists of lists of numbers. -/
def rowsC (l : List (List Int)) : List AV := l.map sl
def sll (l : List (List Int)) : AV := .psl false l.length (rowsC l)
theorem rowsC_length {l : List (List Int)} : (rowsC l).length = l.length := by simp [rowsC]
theorem rowsC_nil : rowsC [] = [] := rfl
theorem rowsC_snoc {l : List (List Int)} {r : List Int} : rowsC (l ++ [r]) = rowsC l ++ [sl r] := by simp [rowsC]
theorem pl_rows {l : List (List Int)} : pureL (rowsC l) = True := by
  simp only [pureL, rowsC, List.mem_map, eq_iff_iff, iff_true]
  rintro _ ⟨a, _, rfl⟩; rfl
theorem lv_rows {l : List (List Int)} {p : Nat → Bool} : (rowsC l).all (live2 p) = true := by
  simp only [rowsC, List.all_map, List.all_eq_true]
  intro z _; rfl
theorem nth_rows {l : List (List Int)} {j : Nat} {K : AV → Prop} : optK (nth (rowsC l) j) K = (j < l.length ∧ K (.psl false (l.getD j []).length (ints (l.getD j [])))) := by
  rw [← nth_is]
  simp only [rowsC, List.getElem?_map]
  by_cases h : j < l.length
  · simp [h, optK, List.getD_eq_getElem?_getD, sl]
  · simp [h, optK]
theorem rl_rows {l : List (List Int)} {σ : Nat → Nat} : renL σ (rowsC l) = rowsC l := by
  rw [renL_map]; simp only [rowsC, List.map_map]; apply List.map_congr_left; intro a _; simp [sl, ren]
theorem rfl_rows {l : List (List Int)} {p : Nat → Prop} : refsL p (rowsC l) = True := by
  rw [eq_iff_iff, iff_true]
  induction l with
  | nil => simp [rowsC, refsL]
  | cons a l ih => simp only [rowsC, List.map_cons, rfl_c] at ih ⊢; exact ⟨by simp [refs, sl], ih⟩
attribute [go_sem] rowsC_length rowsC_nil pl_rows lv_rows nth_rows rl_rows rfl_rows

def postB (p : Post) : Bool := decide ((1 ≤ p.errs.length ∧ p.errs.length ≤ 10) ∧ p.errs.all speedB = true ∧ (0 ≤ p.gain ∧ p.gain ≤ 200) ∧ (0 ≤ p.drop ∧ p.drop ≤ 200) ∧ (1 ≤ p.fall ∧ p.fall ≤ 1000) ∧ (0 ≤ p.out ∧ p.out ≤ 60) ∧ (0 ≤ p.ahead ∧ p.ahead ≤ 60))
def readB (n : Int) : Bool := decide (-1000 ≤ n ∧ n ≤ 2000)
def rowB (p : Post) (row : List Int) : Bool := decide (row.length = p.errs.length) && row.all readB
def faultP (p : Post) (reads : List (List Int)) : Int := if postB p = false then 1 else if 60 < reads.length then 3 else if reads.all (rowB p) = true then 0 else 2
theorem hours_c (n : Int) : CallS Try.prog 88 [.int .i64 n] (.bool (decide (0 ≤ n ∧ n ≤ 60))) := by
  (refine callS_of_awp (fun w args => Try.call88 ..) Try.func88 rfl (fun w0 m0 wz => ?_); simp only [Try.ntmps88, Try.results88, initT, junks, postC, watchC, sll, sl, List.toList_toArray, List.cons_append, List.nil_append, List.length_cons, List.length_nil, Nat.reduceAdd, Nat.reduceSub])
  (repeat' (first
    | (refine awp_seqK ?_)
    | (refine kt ?_)
    | (refine And.intro ?_ ?_)
    | ((first | refine awp_region ?_ | refine awp_draw (by kernel_rfl) (by kernel_rfl) ?_ | refine Imp.le2 ?_ | refine awp_label ?_ | refine awp_skip ?_ | refine awp_exit ?_ | refine awp_cd ?_ | refine awp_ret ?_); simp (maxSteps := 4000000) only [go_sem, List.append_eq, List.cons_append, List.nil_append, Nat.reduceAdd, Nat.reduceMul, Nat.reduceSub, Nat.reduceLeDiff, Nat.reduceLT, Int.reduceAdd, Int.reduceToNat, Int.reduceLE, Int.reduceLT, Int.reduceNeg, reduceIte, postC, watchC, sll])
    | (intro _h)
    | (refine awp_block ?_)
    | (refine awp_scope ?_)
    | ((first | refine callK_of (within_c _ _ _) ?_); try simp (maxSteps := 4000000) only [go_sem, List.append_eq, List.cons_append, List.nil_append, Nat.reduceAdd, Nat.reduceMul, Nat.reduceSub, Nat.reduceLeDiff, Nat.reduceLT, Int.reduceAdd, Int.reduceToNat, Int.reduceLE, Int.reduceLT, Int.reduceNeg, reduceIte, postC, watchC, sll])
    | (refine go_split (fun _h => ?_) (fun _h => ?_) <;> simp (maxSteps := 4000000) only [go_sem, List.append_eq, List.cons_append, List.nil_append, Nat.reduceAdd, Nat.reduceMul, Nat.reduceSub, Nat.reduceLeDiff, Nat.reduceLT, Int.reduceAdd, Int.reduceToNat, Int.reduceLE, Int.reduceLT, Int.reduceNeg, reduceIte, postC, watchC, sll])
    | (show heapOK _ _ = true; kernel_rfl)
    | (omega)))
theorem step_c (n : Int) : CallS Try.prog 89 [.int .i64 n] (.bool (decide (0 ≤ n ∧ n ≤ 200))) := by
  (refine callS_of_awp (fun w args => Try.call89 ..) Try.func89 rfl (fun w0 m0 wz => ?_); simp only [Try.ntmps89, Try.results89, initT, junks, postC, watchC, sll, sl, List.toList_toArray, List.cons_append, List.nil_append, List.length_cons, List.length_nil, Nat.reduceAdd, Nat.reduceSub])
  (repeat' (first
    | (refine awp_seqK ?_)
    | (refine kt ?_)
    | (refine And.intro ?_ ?_)
    | ((first | refine awp_region ?_ | refine awp_draw (by kernel_rfl) (by kernel_rfl) ?_ | refine Imp.le2 ?_ | refine awp_label ?_ | refine awp_skip ?_ | refine awp_exit ?_ | refine awp_cd ?_ | refine awp_ret ?_); simp (maxSteps := 4000000) only [go_sem, List.append_eq, List.cons_append, List.nil_append, Nat.reduceAdd, Nat.reduceMul, Nat.reduceSub, Nat.reduceLeDiff, Nat.reduceLT, Int.reduceAdd, Int.reduceToNat, Int.reduceLE, Int.reduceLT, Int.reduceNeg, reduceIte, postC, watchC, sll])
    | (intro _h)
    | (refine awp_block ?_)
    | (refine awp_scope ?_)
    | ((first | refine callK_of (within_c _ _ _) ?_); try simp (maxSteps := 4000000) only [go_sem, List.append_eq, List.cons_append, List.nil_append, Nat.reduceAdd, Nat.reduceMul, Nat.reduceSub, Nat.reduceLeDiff, Nat.reduceLT, Int.reduceAdd, Int.reduceToNat, Int.reduceLE, Int.reduceLT, Int.reduceNeg, reduceIte, postC, watchC, sll])
    | (refine go_split (fun _h => ?_) (fun _h => ?_) <;> simp (maxSteps := 4000000) only [go_sem, List.append_eq, List.cons_append, List.nil_append, Nat.reduceAdd, Nat.reduceMul, Nat.reduceSub, Nat.reduceLeDiff, Nat.reduceLT, Int.reduceAdd, Int.reduceToNat, Int.reduceLE, Int.reduceLT, Int.reduceNeg, reduceIte, postC, watchC, sll])
    | (show heapOK _ _ = true; kernel_rfl)
    | (omega)))
theorem read_c (n : Int) : CallS Try.prog 85 [.int .i64 n] (.bool (readB n)) := by
  unfold readB
  (refine callS_of_awp (fun w args => Try.call85 ..) Try.func85 rfl (fun w0 m0 wz => ?_); simp only [Try.ntmps85, Try.results85, initT, junks, postC, watchC, sll, sl, List.toList_toArray, List.cons_append, List.nil_append, List.length_cons, List.length_nil, Nat.reduceAdd, Nat.reduceSub])
  (repeat' (first
    | (refine awp_seqK ?_)
    | (refine kt ?_)
    | (refine And.intro ?_ ?_)
    | ((first | refine awp_region ?_ | refine awp_draw (by kernel_rfl) (by kernel_rfl) ?_ | refine Imp.le2 ?_ | refine awp_label ?_ | refine awp_skip ?_ | refine awp_exit ?_ | refine awp_cd ?_ | refine awp_ret ?_); simp (maxSteps := 4000000) only [go_sem, List.append_eq, List.cons_append, List.nil_append, Nat.reduceAdd, Nat.reduceMul, Nat.reduceSub, Nat.reduceLeDiff, Nat.reduceLT, Int.reduceAdd, Int.reduceToNat, Int.reduceLE, Int.reduceLT, Int.reduceNeg, reduceIte, postC, watchC, sll])
    | (intro _h)
    | (refine awp_block ?_)
    | (refine awp_scope ?_)
    | ((first | refine callK_of (within_c _ _ _) ?_); try simp (maxSteps := 4000000) only [go_sem, List.append_eq, List.cons_append, List.nil_append, Nat.reduceAdd, Nat.reduceMul, Nat.reduceSub, Nat.reduceLeDiff, Nat.reduceLT, Int.reduceAdd, Int.reduceToNat, Int.reduceLE, Int.reduceLT, Int.reduceNeg, reduceIte, postC, watchC, sll])
    | (refine go_split (fun _h => ?_) (fun _h => ?_) <;> simp (maxSteps := 4000000) only [go_sem, List.append_eq, List.cons_append, List.nil_append, Nat.reduceAdd, Nat.reduceMul, Nat.reduceSub, Nat.reduceLeDiff, Nat.reduceLT, Int.reduceAdd, Int.reduceToNat, Int.reduceLE, Int.reduceLT, Int.reduceNeg, reduceIte, postC, watchC, sll])
    | (show heapOK _ _ = true; kernel_rfl)
    | (omega)))
theorem valid_c (p : Post) (hb : p.errs.length ≤ 9223372036854775807) : CallS Try.prog 65 [.agg (postC p)] (.bool (postB p)) := by
  have ha := all_int p.errs 71 speedB hb (fun i _ => speed_c _)
  simp only [sl] at ha
  unfold postB
  generalize p.errs.all speedB = al at *
  (refine callS_of_awp (fun w args => Try.call65 ..) Try.func65 rfl (fun w0 m0 wz => ?_); simp only [Try.ntmps65, Try.results65, initT, junks, postC, watchC, sll, sl, List.toList_toArray, List.cons_append, List.nil_append, List.length_cons, List.length_nil, Nat.reduceAdd, Nat.reduceSub])
  (repeat' (first
    | (refine awp_seqK ?_)
    | (refine kt ?_)
    | (refine And.intro ?_ ?_)
    | ((first | refine awp_region ?_ | refine awp_draw (by kernel_rfl) (by kernel_rfl) ?_ | refine Imp.le2 ?_ | refine awp_label ?_ | refine awp_skip ?_ | refine awp_exit ?_ | refine awp_cd ?_ | refine awp_ret ?_); simp (maxSteps := 4000000) only [go_sem, List.append_eq, List.cons_append, List.nil_append, Nat.reduceAdd, Nat.reduceMul, Nat.reduceSub, Nat.reduceLeDiff, Nat.reduceLT, Int.reduceAdd, Int.reduceToNat, Int.reduceLE, Int.reduceLT, Int.reduceNeg, reduceIte, postC, watchC, sll])
    | (intro _h)
    | (refine awp_block ?_)
    | (refine awp_scope ?_)
    | ((first | refine callK_of (within_c _ _ _) ?_ | refine callK_of (ha) ?_ | refine callK_of (hours_c _) ?_ | refine callK_of (step_c _) ?_); try simp (maxSteps := 4000000) only [go_sem, List.append_eq, List.cons_append, List.nil_append, Nat.reduceAdd, Nat.reduceMul, Nat.reduceSub, Nat.reduceLeDiff, Nat.reduceLT, Int.reduceAdd, Int.reduceToNat, Int.reduceLE, Int.reduceLT, Int.reduceNeg, reduceIte, postC, watchC, sll])
    | (refine go_split (fun _h => ?_) (fun _h => ?_) <;> simp (maxSteps := 4000000) only [go_sem, List.append_eq, List.cons_append, List.nil_append, Nat.reduceAdd, Nat.reduceMul, Nat.reduceSub, Nat.reduceLeDiff, Nat.reduceLT, Int.reduceAdd, Int.reduceToNat, Int.reduceLE, Int.reduceLT, Int.reduceNeg, reduceIte, postC, watchC, sll])
    | (show heapOK _ _ = true; kernel_rfl)
    | (omega)))
  all_goals ((try simp only [decide_eq_true_eq, decide_eq_false_iff_not]); simp_all; try omega)
theorem checkPost_c (p : Post) (hb : p.errs.length ≤ 9223372036854775807) : CallS Try.prog 32 [.agg (postC p)] (.int .i64 (if postB p = true then 0 else 1)) := by
  have ha := valid_c p hb
  simp only [postC, sl] at ha
  (refine callS_of_awp (fun w args => Try.call32 ..) Try.func32 rfl (fun w0 m0 wz => ?_); simp only [Try.ntmps32, Try.results32, initT, junks, postC, watchC, sll, sl, List.toList_toArray, List.cons_append, List.nil_append, List.length_cons, List.length_nil, Nat.reduceAdd, Nat.reduceSub])
  cases hv : postB p <;> rw [hv] at ha
  · (repeat' (first
    | (refine awp_seqK ?_)
    | (refine kt ?_)
    | (refine And.intro ?_ ?_)
    | ((first | refine awp_region ?_ | refine awp_draw (by kernel_rfl) (by kernel_rfl) ?_ | refine Imp.le2 ?_ | refine awp_label ?_ | refine awp_skip ?_ | refine awp_exit ?_ | refine awp_cd ?_ | refine awp_ret ?_); simp (maxSteps := 4000000) only [go_sem, List.append_eq, List.cons_append, List.nil_append, Nat.reduceAdd, Nat.reduceMul, Nat.reduceSub, Nat.reduceLeDiff, Nat.reduceLT, Int.reduceAdd, Int.reduceToNat, Int.reduceLE, Int.reduceLT, Int.reduceNeg, reduceIte, postC, watchC, sll])
    | (intro _h)
    | (refine awp_block ?_)
    | (refine awp_scope ?_)
    | ((first | refine callK_of (ha) ?_); try simp (maxSteps := 4000000) only [go_sem, List.append_eq, List.cons_append, List.nil_append, Nat.reduceAdd, Nat.reduceMul, Nat.reduceSub, Nat.reduceLeDiff, Nat.reduceLT, Int.reduceAdd, Int.reduceToNat, Int.reduceLE, Int.reduceLT, Int.reduceNeg, reduceIte, postC, watchC, sll])
    | (refine go_split (fun _h => ?_) (fun _h => ?_) <;> simp (maxSteps := 4000000) only [go_sem, List.append_eq, List.cons_append, List.nil_append, Nat.reduceAdd, Nat.reduceMul, Nat.reduceSub, Nat.reduceLeDiff, Nat.reduceLT, Int.reduceAdd, Int.reduceToNat, Int.reduceLE, Int.reduceLT, Int.reduceNeg, reduceIte, postC, watchC, sll])
    | (show heapOK _ _ = true; kernel_rfl)
    | (omega)))
    all_goals (first | rfl | simp_all)
  · (repeat' (first
    | (refine awp_seqK ?_)
    | (refine kt ?_)
    | (refine And.intro ?_ ?_)
    | ((first | refine awp_region ?_ | refine awp_draw (by kernel_rfl) (by kernel_rfl) ?_ | refine Imp.le2 ?_ | refine awp_label ?_ | refine awp_skip ?_ | refine awp_exit ?_ | refine awp_cd ?_ | refine awp_ret ?_); simp (maxSteps := 4000000) only [go_sem, List.append_eq, List.cons_append, List.nil_append, Nat.reduceAdd, Nat.reduceMul, Nat.reduceSub, Nat.reduceLeDiff, Nat.reduceLT, Int.reduceAdd, Int.reduceToNat, Int.reduceLE, Int.reduceLT, Int.reduceNeg, reduceIte, postC, watchC, sll])
    | (intro _h)
    | (refine awp_block ?_)
    | (refine awp_scope ?_)
    | ((first | refine callK_of (ha) ?_); try simp (maxSteps := 4000000) only [go_sem, List.append_eq, List.cons_append, List.nil_append, Nat.reduceAdd, Nat.reduceMul, Nat.reduceSub, Nat.reduceLeDiff, Nat.reduceLT, Int.reduceAdd, Int.reduceToNat, Int.reduceLE, Int.reduceLT, Int.reduceNeg, reduceIte, postC, watchC, sll])
    | (refine go_split (fun _h => ?_) (fun _h => ?_) <;> simp (maxSteps := 4000000) only [go_sem, List.append_eq, List.cons_append, List.nil_append, Nat.reduceAdd, Nat.reduceMul, Nat.reduceSub, Nat.reduceLeDiff, Nat.reduceLT, Int.reduceAdd, Int.reduceToNat, Int.reduceLE, Int.reduceLT, Int.reduceNeg, reduceIte, postC, watchC, sll])
    | (show heapOK _ _ = true; kernel_rfl)
    | (omega)))
    all_goals (first | rfl | simp_all)
theorem allrows {p : Post} {reads : List (List Int)} {i : Nat} (hi : i < reads.length) (h : rowB p (reads.getD i []) = false) : reads.all (rowB p) = false := by
  rw [List.all_eq_false]
  refine ⟨reads[i], List.getElem_mem hi, ?_⟩
  rw [show reads.getD i [] = reads[i] by simp [List.getD_eq_getElem?_getD, hi]] at h
  simp [h]
theorem allrows' {p : Post} {reads : List (List Int)} (h : ∀ i, i < reads.length → rowB p (reads.getD i []) = true) : reads.all (rowB p) = true := by
  rw [List.all_eq_true]
  intro r hr
  obtain ⟨j, hj, rfl⟩ := List.mem_iff_getElem.1 hr
  have := h j hj
  rwa [show reads.getD j [] = reads[j] by simp [List.getD_eq_getElem?_getD, hj]] at this
theorem check_c (p : Post) (reads : List (List Int)) (hb : p.errs.length ≤ 9223372036854775807) (hr : reads.length ≤ 9223372036854775807) (hrr : ∀ i, i < reads.length → (reads.getD i []).length ≤ 9223372036854775807) : CallS Try.prog 62 [.agg (postC p), sll reads] (.int .i64 (faultP p reads)) := by
  have ha := valid_c p hb
  simp only [postC, sl] at ha
  unfold faultP
  (refine callS_of_awp (fun w args => Try.call62 ..) Try.func62 rfl (fun w0 m0 wz => ?_); simp only [Try.ntmps62, Try.results62, initT, junks, postC, watchC, sll, sl, List.toList_toArray, List.cons_append, List.nil_append, List.length_cons, List.length_nil, Nat.reduceAdd, Nat.reduceSub])
  (repeat' (first
    | (refine awp_seqK ?_)
    | (refine kt ?_)
    | (refine And.intro ?_ ?_)
    | ((first | refine awp_region ?_ | refine awp_draw (by kernel_rfl) (by kernel_rfl) ?_ | refine Imp.le2 ?_ | refine awp_label ?_ | refine awp_skip ?_ | refine awp_exit ?_ | refine awp_cd ?_ | refine awp_ret ?_); simp (maxSteps := 4000000) only [go_sem, List.append_eq, List.cons_append, List.nil_append, Nat.reduceAdd, Nat.reduceMul, Nat.reduceSub, Nat.reduceLeDiff, Nat.reduceLT, Int.reduceAdd, Int.reduceToNat, Int.reduceLE, Int.reduceLT, Int.reduceNeg, reduceIte, postC, watchC, sll])
    | (intro _h)
    | (refine awp_block ?_)
    | (refine awp_scope ?_)
    | ((first | refine callK_of (ha) ?_); try simp (maxSteps := 4000000) only [go_sem, List.append_eq, List.cons_append, List.nil_append, Nat.reduceAdd, Nat.reduceMul, Nat.reduceSub, Nat.reduceLeDiff, Nat.reduceLT, Int.reduceAdd, Int.reduceToNat, Int.reduceLE, Int.reduceLT, Int.reduceNeg, reduceIte, postC, watchC, sll])
    | (refine go_split (fun _h => ?_) (fun _h => ?_) <;> simp (maxSteps := 4000000) only [go_sem, List.append_eq, List.cons_append, List.nil_append, Nat.reduceAdd, Nat.reduceMul, Nat.reduceSub, Nat.reduceLeDiff, Nat.reduceLT, Int.reduceAdd, Int.reduceToNat, Int.reduceLE, Int.reduceLT, Int.reduceNeg, reduceIte, postC, watchC, sll])
    | (show heapOK _ _ = true; kernel_rfl)
    | (omega)))
  · simp [*]; omega
  · refine awp_loopJ (fun i : Nat => i ≤ reads.length ∧ ∀ j, j < i → rowB p (reads.getD j []) = true) (fun i => ⟨mkT 35 [(1, sll reads), (2, .ptr 0 0 0), (5, .int .i64 0), (16, sll reads), (17, .int .i64 reads.length), (18, .int .i64 i)], [some (.cells 51 1 0 (postC p))], []⟩) (fun i => reads.length - i) 0 ⟨Nat.zero_le _, by simp⟩ (.le2 ?_) ?_
    · simp only [postC]; simp (maxSteps := 4000000) only [go_sem, List.append_eq, List.cons_append, List.nil_append, Nat.reduceAdd, Nat.reduceMul, Nat.reduceSub, Nat.reduceLeDiff, Nat.reduceLT, Int.reduceAdd, Int.reduceToNat, Int.reduceLE, Int.reduceLT, Int.reduceNeg, reduceIte, postC, watchC, sll]
    · rintro i ⟨hi, hj⟩
      have hall := all_int (reads.getD i []) 85 readB
      simp only [sl] at hall
      simp only [postC]; simp (maxSteps := 4000000) only [go_sem, List.append_eq, List.cons_append, List.nil_append, Nat.reduceAdd, Nat.reduceMul, Nat.reduceSub, Nat.reduceLeDiff, Nat.reduceLT, Int.reduceAdd, Int.reduceToNat, Int.reduceLE, Int.reduceLT, Int.reduceNeg, reduceIte, postC, watchC, sll]
      (repeat' (first
    | (refine awp_seqK ?_)
    | (refine kt ?_)
    | (refine And.intro ?_ ?_)
    | ((first | refine awp_region ?_ | refine awp_draw (by kernel_rfl) (by kernel_rfl) ?_ | refine Imp.le2 ?_ | refine awp_label ?_ | refine awp_skip ?_ | refine awp_exit ?_ | refine awp_cd ?_ | refine awp_ret ?_); simp (maxSteps := 4000000) only [go_sem, List.append_eq, List.cons_append, List.nil_append, Nat.reduceAdd, Nat.reduceMul, Nat.reduceSub, Nat.reduceLeDiff, Nat.reduceLT, Int.reduceAdd, Int.reduceToNat, Int.reduceLE, Int.reduceLT, Int.reduceNeg, reduceIte, postC, watchC, sll])
    | (intro _h)
    | (refine awp_block ?_)
    | (refine awp_scope ?_)
    | ((first | refine callK_of (hall (hrr i (by omega)) (fun k _ => read_c _)) ?_); try simp (maxSteps := 4000000) only [go_sem, List.append_eq, List.cons_append, List.nil_append, Nat.reduceAdd, Nat.reduceMul, Nat.reduceSub, Nat.reduceLeDiff, Nat.reduceLT, Int.reduceAdd, Int.reduceToNat, Int.reduceLE, Int.reduceLT, Int.reduceNeg, reduceIte, postC, watchC, sll])
    | (refine go_split (fun _h => ?_) (fun _h => ?_) <;> simp (maxSteps := 4000000) only [go_sem, List.append_eq, List.cons_append, List.nil_append, Nat.reduceAdd, Nat.reduceMul, Nat.reduceSub, Nat.reduceLeDiff, Nat.reduceLT, Int.reduceAdd, Int.reduceToNat, Int.reduceLE, Int.reduceLT, Int.reduceNeg, reduceIte, postC, watchC, sll])
    | (show heapOK _ _ = true; kernel_rfl)
    | (omega)))
      · refine ⟨i + 1, ⟨by omega, fun j hji => ?_⟩, by omega, .le2 ?_⟩
        · rcases Nat.lt_succ_iff_lt_or_eq.1 hji with h | rfl
          · exact hj j h
          · simp only [rowB, Bool.and_eq_true, decide_eq_true_eq]; exact ⟨by omega, ‹_›⟩
        · simp (maxSteps := 4000000) only [go_sem, List.append_eq, List.cons_append, List.nil_append, Nat.reduceAdd, Nat.reduceMul, Nat.reduceSub, Nat.reduceLeDiff, Nat.reduceLT, Int.reduceAdd, Int.reduceToNat, Int.reduceLE, Int.reduceLT, Int.reduceNeg, reduceIte, postC, watchC, sll]
          omega
      · rw [if_neg (by simp [*]), if_neg (by omega), if_neg (by rw [allrows (i := i) (by omega) (by simp only [rowB, Bool.and_eq_false_iff]; exact .inr ‹_›)]; simp)]
      · rw [if_neg (by simp [*]), if_neg (by omega), if_neg (by rw [allrows (i := i) (by omega) (by simp only [rowB, Bool.and_eq_false_iff, decide_eq_false_iff_not]; exact .inl (by omega))]; simp)]
      · rw [if_neg (by simp [*]), if_neg (by omega), if_pos (allrows' fun j h => hj j (by omega))]
  · simp [*]

def leftOf (p : Post) (v : Int) : Int := if p.fall ≤ v then 0 else if p.gain = 0 then 1073741824 else (p.fall - v + p.gain - 1).tdiv p.gain
def levelOf (p : Post) (v : Int) : Int := if leftOf p v ≤ p.out then 3 else if leftOf p v ≤ p.out + p.ahead then 2 else if leftOf p v ≤ p.out + 2 * p.ahead then 1 else 0
theorem leftOf_bd {p : Post} {v : Int} (hp : PostOK p) (hv : -1000000 ≤ v) : 0 ≤ leftOf p v ∧ leftOf p v ≤ 1073741824 := by
  have h1 := hp.fall
  have h2 := hp.gain
  unfold leftOf
  split
  · omega
  · split
    · omega
    · have h3 : 0 ≤ p.fall - v + p.gain - 1 := by omega
      rw [Int.tdiv_eq_ediv_of_nonneg h3]
      refine ⟨Int.ediv_nonneg h3 h2.1, ?_⟩
      exact Int.le_trans (Int.ediv_le_self _ h3) (by omega)
theorem left_c (p : Post) (v : Int) (hp : PostOK p) (hv : -1000000 ≤ v ∧ v ≤ 1000000) : CallS Try.prog 104 [.agg (postC p), .int .i64 v] (.int .i64 (leftOf p v)) := by
  have h1 := hp.fall
  have h2 := hp.gain
  have hb := leftOf_bd hp hv.1
  unfold leftOf at *
  (refine callS_of_awp (fun w args => Try.call104 ..) Try.func104 rfl (fun w0 m0 wz => ?_); simp only [Try.ntmps104, Try.results104, initT, junks, postC, watchC, sll, sl, List.toList_toArray, List.cons_append, List.nil_append, List.length_cons, List.length_nil, Nat.reduceAdd, Nat.reduceSub])
  (repeat' (first
    | (refine awp_seqK ?_)
    | (refine kt ?_)
    | (refine And.intro ?_ ?_)
    | ((first | refine awp_region ?_ | refine awp_draw (by kernel_rfl) (by kernel_rfl) ?_ | refine Imp.le2 ?_ | refine awp_label ?_ | refine awp_skip ?_ | refine awp_exit ?_ | refine awp_cd ?_ | refine awp_ret ?_); simp (maxSteps := 4000000) only [go_sem, List.append_eq, List.cons_append, List.nil_append, Nat.reduceAdd, Nat.reduceMul, Nat.reduceSub, Nat.reduceLeDiff, Nat.reduceLT, Int.reduceAdd, Int.reduceToNat, Int.reduceLE, Int.reduceLT, Int.reduceNeg, reduceIte, postC, watchC, sll])
    | (intro _h)
    | (refine awp_block ?_)
    | (refine awp_scope ?_)
    | (refine go_split (fun _h => ?_) (fun _h => ?_) <;> simp (maxSteps := 4000000) only [go_sem, List.append_eq, List.cons_append, List.nil_append, Nat.reduceAdd, Nat.reduceMul, Nat.reduceSub, Nat.reduceLeDiff, Nat.reduceLT, Int.reduceAdd, Int.reduceToNat, Int.reduceLE, Int.reduceLT, Int.reduceNeg, reduceIte, postC, watchC, sll])
    | (show heapOK _ _ = true; kernel_rfl)
    | (omega)))
theorem lev1_c (p : Post) : CallS Try.prog 105 [.agg (postC p)] (.int .i64 p.out) := by
  (refine callS_of_awp (fun w args => Try.call105 ..) Try.func105 rfl (fun w0 m0 wz => ?_); simp only [Try.ntmps105, Try.results105, initT, junks, postC, watchC, sll, sl, List.toList_toArray, List.cons_append, List.nil_append, List.length_cons, List.length_nil, Nat.reduceAdd, Nat.reduceSub])
  (repeat' (first
    | (refine awp_seqK ?_)
    | (refine kt ?_)
    | (refine And.intro ?_ ?_)
    | ((first | refine awp_region ?_ | refine awp_draw (by kernel_rfl) (by kernel_rfl) ?_ | refine Imp.le2 ?_ | refine awp_label ?_ | refine awp_skip ?_ | refine awp_exit ?_ | refine awp_cd ?_ | refine awp_ret ?_); simp (maxSteps := 4000000) only [go_sem, List.append_eq, List.cons_append, List.nil_append, Nat.reduceAdd, Nat.reduceMul, Nat.reduceSub, Nat.reduceLeDiff, Nat.reduceLT, Int.reduceAdd, Int.reduceToNat, Int.reduceLE, Int.reduceLT, Int.reduceNeg, reduceIte, postC, watchC, sll])
    | (intro _h)
    | (refine awp_block ?_)
    | (refine awp_scope ?_)
    | (refine go_split (fun _h => ?_) (fun _h => ?_) <;> simp (maxSteps := 4000000) only [go_sem, List.append_eq, List.cons_append, List.nil_append, Nat.reduceAdd, Nat.reduceMul, Nat.reduceSub, Nat.reduceLeDiff, Nat.reduceLT, Int.reduceAdd, Int.reduceToNat, Int.reduceLE, Int.reduceLT, Int.reduceNeg, reduceIte, postC, watchC, sll])
    | (show heapOK _ _ = true; kernel_rfl)
    | (omega)))
theorem lev2_c (p : Post) (hp : PostOK p) : CallS Try.prog 106 [.agg (postC p)] (.int .i64 (p.out + p.ahead)) := by
  have := hp.out
  have := hp.ahead
  (refine callS_of_awp (fun w args => Try.call106 ..) Try.func106 rfl (fun w0 m0 wz => ?_); simp only [Try.ntmps106, Try.results106, initT, junks, postC, watchC, sll, sl, List.toList_toArray, List.cons_append, List.nil_append, List.length_cons, List.length_nil, Nat.reduceAdd, Nat.reduceSub])
  (repeat' (first
    | (refine awp_seqK ?_)
    | (refine kt ?_)
    | (refine And.intro ?_ ?_)
    | ((first | refine awp_region ?_ | refine awp_draw (by kernel_rfl) (by kernel_rfl) ?_ | refine Imp.le2 ?_ | refine awp_label ?_ | refine awp_skip ?_ | refine awp_exit ?_ | refine awp_cd ?_ | refine awp_ret ?_); simp (maxSteps := 4000000) only [go_sem, List.append_eq, List.cons_append, List.nil_append, Nat.reduceAdd, Nat.reduceMul, Nat.reduceSub, Nat.reduceLeDiff, Nat.reduceLT, Int.reduceAdd, Int.reduceToNat, Int.reduceLE, Int.reduceLT, Int.reduceNeg, reduceIte, postC, watchC, sll])
    | (intro _h)
    | (refine awp_block ?_)
    | (refine awp_scope ?_)
    | (refine go_split (fun _h => ?_) (fun _h => ?_) <;> simp (maxSteps := 4000000) only [go_sem, List.append_eq, List.cons_append, List.nil_append, Nat.reduceAdd, Nat.reduceMul, Nat.reduceSub, Nat.reduceLeDiff, Nat.reduceLT, Int.reduceAdd, Int.reduceToNat, Int.reduceLE, Int.reduceLT, Int.reduceNeg, reduceIte, postC, watchC, sll])
    | (show heapOK _ _ = true; kernel_rfl)
    | (omega)))
theorem lev3_c (p : Post) (hp : PostOK p) : CallS Try.prog 107 [.agg (postC p)] (.int .i64 (p.out + 2 * p.ahead)) := by
  have := hp.out
  have := hp.ahead
  (refine callS_of_awp (fun w args => Try.call107 ..) Try.func107 rfl (fun w0 m0 wz => ?_); simp only [Try.ntmps107, Try.results107, initT, junks, postC, watchC, sll, sl, List.toList_toArray, List.cons_append, List.nil_append, List.length_cons, List.length_nil, Nat.reduceAdd, Nat.reduceSub])
  (repeat' (first
    | (refine awp_seqK ?_)
    | (refine kt ?_)
    | (refine And.intro ?_ ?_)
    | ((first | refine awp_region ?_ | refine awp_draw (by kernel_rfl) (by kernel_rfl) ?_ | refine Imp.le2 ?_ | refine awp_label ?_ | refine awp_skip ?_ | refine awp_exit ?_ | refine awp_cd ?_ | refine awp_ret ?_); simp (maxSteps := 4000000) only [go_sem, List.append_eq, List.cons_append, List.nil_append, Nat.reduceAdd, Nat.reduceMul, Nat.reduceSub, Nat.reduceLeDiff, Nat.reduceLT, Int.reduceAdd, Int.reduceToNat, Int.reduceLE, Int.reduceLT, Int.reduceNeg, reduceIte, postC, watchC, sll])
    | (intro _h)
    | (refine awp_block ?_)
    | (refine awp_scope ?_)
    | (refine go_split (fun _h => ?_) (fun _h => ?_) <;> simp (maxSteps := 4000000) only [go_sem, List.append_eq, List.cons_append, List.nil_append, Nat.reduceAdd, Nat.reduceMul, Nat.reduceSub, Nat.reduceLeDiff, Nat.reduceLT, Int.reduceAdd, Int.reduceToNat, Int.reduceLE, Int.reduceLT, Int.reduceNeg, reduceIte, postC, watchC, sll])
    | (show heapOK _ _ = true; kernel_rfl)
    | (omega)))
theorem level_c (p : Post) (v : Int) (hp : PostOK p) (hv : -1000000 ≤ v ∧ v ≤ 1000000) : CallS Try.prog 100 [.agg (postC p), .int .i64 v] (.int .u8 (levelOf p v)) := by
  have k0 := left_c p v hp hv
  have k1 := lev1_c p
  have k2 := lev2_c p hp
  have k3 := lev3_c p hp
  simp only [postC, sl] at k0 k1 k2 k3
  unfold levelOf
  generalize leftOf p v = n at *
  (refine callS_of_awp (fun w args => Try.call100 ..) Try.func100 rfl (fun w0 m0 wz => ?_); simp only [Try.ntmps100, Try.results100, initT, junks, postC, watchC, sll, sl, List.toList_toArray, List.cons_append, List.nil_append, List.length_cons, List.length_nil, Nat.reduceAdd, Nat.reduceSub])
  (repeat' (first
    | (refine awp_seqK ?_)
    | (refine kt ?_)
    | (refine And.intro ?_ ?_)
    | ((first | refine awp_region ?_ | refine awp_draw (by kernel_rfl) (by kernel_rfl) ?_ | refine Imp.le2 ?_ | refine awp_label ?_ | refine awp_skip ?_ | refine awp_exit ?_ | refine awp_cd ?_ | refine awp_ret ?_); simp (maxSteps := 4000000) only [go_sem, List.append_eq, List.cons_append, List.nil_append, Nat.reduceAdd, Nat.reduceMul, Nat.reduceSub, Nat.reduceLeDiff, Nat.reduceLT, Int.reduceAdd, Int.reduceToNat, Int.reduceLE, Int.reduceLT, Int.reduceNeg, reduceIte, postC, watchC, sll])
    | (intro _h)
    | (refine awp_block ?_)
    | (refine awp_scope ?_)
    | ((first | refine callK_of (k0) ?_ | refine callK_of (k1) ?_ | refine callK_of (k2) ?_ | refine callK_of (k3) ?_); try simp (maxSteps := 4000000) only [go_sem, List.append_eq, List.cons_append, List.nil_append, Nat.reduceAdd, Nat.reduceMul, Nat.reduceSub, Nat.reduceLeDiff, Nat.reduceLT, Int.reduceAdd, Int.reduceToNat, Int.reduceLE, Int.reduceLT, Int.reduceNeg, reduceIte, postC, watchC, sll])
    | (refine go_split (fun _h => ?_) (fun _h => ?_) <;> simp (maxSteps := 4000000) only [go_sem, List.append_eq, List.cons_append, List.nil_append, Nat.reduceAdd, Nat.reduceMul, Nat.reduceSub, Nat.reduceLeDiff, Nat.reduceLT, Int.reduceAdd, Int.reduceToNat, Int.reduceLE, Int.reduceLT, Int.reduceNeg, reduceIte, postC, watchC, sll])
    | (show heapOK _ _ = true; kernel_rfl)
    | (omega)))
  (refine awp_rounds 4 ?_; rw [ar_s])
  (repeat' (first
    | ((rw [ar_s]))
    | (refine awp_seqK ?_)
    | (refine kt ?_)
    | (refine And.intro ?_ ?_)
    | ((first | refine awp_region ?_ | refine awp_draw (by kernel_rfl) (by kernel_rfl) ?_ | refine Imp.le2 ?_ | refine awp_label ?_ | refine awp_skip ?_ | refine awp_exit ?_ | refine awp_cd ?_ | refine awp_ret ?_); simp (maxSteps := 4000000) only [go_sem, List.append_eq, List.cons_append, List.nil_append, Nat.reduceAdd, Nat.reduceMul, Nat.reduceSub, Nat.reduceLeDiff, Nat.reduceLT, Int.reduceAdd, Int.reduceToNat, Int.reduceLE, Int.reduceLT, Int.reduceNeg, reduceIte, postC, watchC, sll])
    | (intro _h)
    | (refine awp_block ?_)
    | (refine awp_scope ?_)
    | ((first | refine callK_of (k0) ?_ | refine callK_of (k1) ?_ | refine callK_of (k2) ?_ | refine callK_of (k3) ?_); try simp (maxSteps := 4000000) only [go_sem, List.append_eq, List.cons_append, List.nil_append, Nat.reduceAdd, Nat.reduceMul, Nat.reduceSub, Nat.reduceLeDiff, Nat.reduceLT, Int.reduceAdd, Int.reduceToNat, Int.reduceLE, Int.reduceLT, Int.reduceNeg, reduceIte, postC, watchC, sll])
    | (refine go_split (fun _h => ?_) (fun _h => ?_) <;> simp (maxSteps := 4000000) only [go_sem, List.append_eq, List.cons_append, List.nil_append, Nat.reduceAdd, Nat.reduceMul, Nat.reduceSub, Nat.reduceLeDiff, Nat.reduceLT, Int.reduceAdd, Int.reduceToNat, Int.reduceLE, Int.reduceLT, Int.reduceNeg, reduceIte, postC, watchC, sll])
    | (show heapOK _ _ = true; kernel_rfl)
    | (omega)))
end Go.Am

/- Contracts of the alarm functions: what may be now. -/
namespace Go.Am
open Go.RowKit Go.Proofs
attribute [local irreducible] AWP CallS Kt goK CallK stepK evOps SemF SemY
set_option maxRecDepth 4000
set_option linter.unusedSimpArgs false
set_option linter.unusedVariables false
set_option maxHeartbeats 1600000

/-- The least and the greatest speed of some gauges' ends. -/
def joinE (s : Option (Int × Int)) (x : Int × Int) : Int × Int := match s with | none => x | some s => (min s.1 x.1, max s.2 x.2)
def hull (g : Int → Option (Int × Int)) : Nat → Option (Int × Int)
  | 0 => none
  | i + 1 => match g ((i : Int) - 1) with | none => hull g i | some x => some (joinE (hull g i) x)
def hLo (s : Option (Int × Int)) : Int := match s with | none => 0 | some s => s.1
def hHi (s : Option (Int × Int)) : Int := match s with | none => 0 | some s => s.2
theorem hull_bd {g : Int → Option (Int × Int)} (hg : GOK g) : ∀ i, (0 ≤ hLo (hull g i) ∧ hLo (hull g i) ≤ 1000) ∧ 0 ≤ hHi (hull g i) ∧ hHi (hull g i) ≤ 1000
  | 0 => by simp [hull, hLo, hHi]
  | i + 1 => by
    have ih := hull_bd hg i
    simp only [hull]
    cases hx : g ((i : Int) - 1) with
    | none => exact ih
    | some x =>
      have := hg _ _ hx
      simp only
      cases hh : hull g i with
      | none => simp only [joinE, hLo, hHi]; omega
      | some s => rw [hh] at ih; simp only [joinE, hLo, hHi] at ih ⊢; omega
def stH (p : Post) (g : Int → Option (Int × Int)) (i : Nat) : List (Option ABlk) :=
  [some (.cells 142 1 0 (watchC p 1)), some (.map (mpC (canon p.errs.length g))), some (.cells 58 1 0 [.int .i64 0, .int .i64 0, .int .u8 0]), some (.cells 58 1 0 [.int .i64 (hLo (hull g i)), .int .i64 (hHi (hull g i)), .int .u8 0]), some (.cells 4 1 0 [.bool (hull g i).isNone]), some (.cells 115 1 0 [.ptr 0 0 0])]
def stT : List AV := mkT 44 [(0, .ptr 0 0 0), (2, .ptr 2 0 0), (3, .bool false), (4, .ptr 3 0 0), (5, .ptr 4 0 0), (10, .fn (.func 87) [] [.ptr 5 0 0])]
theorem state_c (p : Post) (g : Int → Option (Int × Int)) (hp : PostOK p) (hg : GOK g) : SemF Try.prog 86 [.ptr 0 0 0] [some (.cells 142 1 0 (watchC p 1)), some (.map (mpC (canon p.errs.length g)))]
    (.tup [.agg [.int .i64 (hLo (hull g (p.errs.length + 1))), .int .i64 (hHi (hull g (p.errs.length + 1))), .int .u8 (levelOf p (hHi (hull g (p.errs.length + 1))))], .bool (hull g (p.errs.length + 1)).isSome]) [some (.cells 142 1 0 (watchC p 1)), some (.map (mpC (canon p.errs.length g)))] := by
  obtain ⟨hl1, hl2⟩ := hp.len
  (refine semF_of_awp (ys := [.agg [.int .i64 (hLo (hull g (p.errs.length + 1))), .int .i64 (hHi (hull g (p.errs.length + 1))), .int .u8 (levelOf p (hHi (hull g (p.errs.length + 1))))], .bool (hull g (p.errs.length + 1)).isSome]) (fun w args => Try.call86 ..) Try.func86 rfl (fun w0 m0 wz => ?_); simp only [Try.ntmps86, Try.results86, initT, junks, postC, watchC, sll, sl, List.toList_toArray, List.cons_append, List.nil_append, List.length_cons, List.length_nil, Nat.reduceAdd, Nat.reduceSub])
  ((repeat refine awp_seqK ?_); refine awp_region ?_; simp (maxSteps := 4000000) only [go_sem, List.append_eq, List.cons_append, List.nil_append, Nat.reduceAdd, Nat.reduceMul, Nat.reduceSub, Nat.reduceLeDiff, Nat.reduceLT, Int.reduceAdd, Int.reduceToNat, Int.reduceLE, Int.reduceLT, Int.reduceNeg, reduceIte, postC, watchC, sll]; refine kt ?_)
  ((repeat refine awp_seqK ?_); refine awp_region ?_; simp (maxSteps := 4000000) only [go_sem, List.append_eq, List.cons_append, List.nil_append, Nat.reduceAdd, Nat.reduceMul, Nat.reduceSub, Nat.reduceLeDiff, Nat.reduceLT, Int.reduceAdd, Int.reduceToNat, Int.reduceLE, Int.reduceLT, Int.reduceNeg, reduceIte, postC, watchC, sll]; refine kt ?_)
  ((repeat refine awp_seqK ?_); refine awp_ownN 1 rfl ?_; simp (maxSteps := 4000000) only [go_sem, List.append_eq, List.cons_append, List.nil_append, Nat.reduceAdd, Nat.reduceMul, Nat.reduceSub, Nat.reduceLeDiff, Nat.reduceLT, Int.reduceAdd, Int.reduceToNat, Int.reduceLE, Int.reduceLT, Int.reduceNeg, reduceIte, postC, watchC, sll, List.take_succ_cons, List.take_zero]; refine own_go (failing_c p (canon p.errs.length g)) [0, 1] rfl (by simp (maxSteps := 4000000) only [go_sem, List.append_eq, List.cons_append, List.nil_append, Nat.reduceAdd, Nat.reduceMul, Nat.reduceSub, Nat.reduceLeDiff, Nat.reduceLT, Int.reduceAdd, Int.reduceToNat, Int.reduceLE, Int.reduceLT, Int.reduceNeg, reduceIte, postC, watchC, sll]) (by simp (maxSteps := 4000000) only [go_sem, List.append_eq, List.cons_append, List.nil_append, Nat.reduceAdd, Nat.reduceMul, Nat.reduceSub, Nat.reduceLeDiff, Nat.reduceLT, Int.reduceAdd, Int.reduceToNat, Int.reduceLE, Int.reduceLT, Int.reduceNeg, reduceIte, postC, watchC, sll, Nat.lt_irrefl] <;> decide) rfl ?_; simp (maxSteps := 4000000) only [go_sem, List.append_eq, List.cons_append, List.nil_append, Nat.reduceAdd, Nat.reduceMul, Nat.reduceSub, Nat.reduceLeDiff, Nat.reduceLT, Int.reduceAdd, Int.reduceToNat, Int.reduceLE, Int.reduceLT, Int.reduceNeg, reduceIte, postC, watchC, sll]; refine kt ?_)
  (repeat refine awp_seqK ?_)
  refine awp_block ?_
  refine AWP.le2 (s' := ⟨stT, stH p g 0, []⟩) (by simp only [stT, stH, hull, hLo, hHi, Option.isNone, postC, watchC]; simp (maxSteps := 4000000) only [go_sem, List.append_eq, List.cons_append, List.nil_append, Nat.reduceAdd, Nat.reduceMul, Nat.reduceSub, Nat.reduceLeDiff, Nat.reduceLT, Int.reduceAdd, Int.reduceToNat, Int.reduceLE, Int.reduceLT, Int.reduceNeg, reduceIte, postC, watchC, sll]) ?_
  refine awp_rangeZ (gf := 87) (first := []) (caps := [.ptr 5 0 0]) (by simp only [stT]; simp (maxSteps := 4000000) only [go_sem, List.append_eq, List.cons_append, List.nil_append, Nat.reduceAdd, Nat.reduceMul, Nat.reduceSub, Nat.reduceLeDiff, Nat.reduceLT, Int.reduceAdd, Int.reduceToNat, Int.reduceLE, Int.reduceLT, Int.reduceNeg, reduceIte, postC, watchC, sll]) 6 rfl ?_
  intro ca cb hca hcb
  refine ⟨.tup [], stH p g (p.errs.length + 1) ++ [some (.dfr true), some (.loop .ready none 0 stT #[11, 12] ca cb 6)], .ready, none, .normal, ?_, ?_, by simp, rfl, ?_⟩
  · simp only [stH, stT, postC, watchC]
    simp (maxSteps := 4000000) only [go_sem, List.append_eq, List.cons_append, List.nil_append, Nat.reduceAdd, Nat.reduceMul, Nat.reduceSub, Nat.reduceLeDiff, Nat.reduceLT, Int.reduceAdd, Int.reduceToNat, Int.reduceLE, Int.reduceLT, Int.reduceNeg, reduceIte, postC, watchC, sll]
    (refine semF_of_awp (ys := []) (fun w args => Try.call87 ..) Try.func87 rfl (fun w0 m0 wz => ?_); simp only [Try.ntmps87, Try.results87, initT, junks, postC, watchC, sll, sl, List.toList_toArray, List.cons_append, List.nil_append, List.length_cons, List.length_nil, Nat.reduceAdd, Nat.reduceSub])
    (repeat' (first
    | (refine awp_seqK ?_)
    | (refine kt ?_)
    | (refine And.intro ?_ ?_)
    | ((first | refine awp_region ?_ | refine awp_draw (by kernel_rfl) (by kernel_rfl) ?_ | refine Imp.le2 ?_ | refine awp_label ?_ | refine awp_skip ?_ | refine awp_exit ?_ | refine awp_cd ?_ | refine awp_ret ?_); simp (maxSteps := 4000000) only [go_sem, List.append_eq, List.cons_append, List.nil_append, Nat.reduceAdd, Nat.reduceMul, Nat.reduceSub, Nat.reduceLeDiff, Nat.reduceLT, Int.reduceAdd, Int.reduceToNat, Int.reduceLE, Int.reduceLT, Int.reduceNeg, reduceIte, postC, watchC, sll])
    | (intro _h)
    | (refine awp_block ?_)
    | (refine awp_scope ?_)
    | (refine go_split (fun _h => ?_) (fun _h => ?_) <;> simp (maxSteps := 4000000) only [go_sem, List.append_eq, List.cons_append, List.nil_append, Nat.reduceAdd, Nat.reduceMul, Nat.reduceSub, Nat.reduceLeDiff, Nat.reduceLT, Int.reduceAdd, Int.reduceToNat, Int.reduceLE, Int.reduceLT, Int.reduceNeg, reduceIte, postC, watchC, sll])
    | (show heapOK _ _ = true; kernel_rfl)
    | (omega)))
    refine awp_loopN (p.errs.length + 1) (fun i => ⟨mkT 33 [(0, .fn (.yield 7) [] []), (1, .ptr 5 0 0), (3, .int .i64 ((i : Int) - 1))], stH p g i ++ [some (.dfr true), some (.loop .ready none 0 stT #[11, 12] ca cb 6)], []⟩) (.le2 ?_) ?_
    · simp only [stH, stT, postC, watchC]; simp (maxSteps := 4000000) only [go_sem, List.append_eq, List.cons_append, List.nil_append, Nat.reduceAdd, Nat.reduceMul, Nat.reduceSub, Nat.reduceLeDiff, Nat.reduceLT, Int.reduceAdd, Int.reduceToNat, Int.reduceLE, Int.reduceLT, Int.reduceNeg, reduceIte, postC, watchC, sll]
      rfl
    · intro i hi
      have hgi := canon_get (n := p.errs.length) (g := g) (j := (i : Int) - 1) (by omega)
      have hbd := hull_bd hg i
      cases hx : g ((i : Int) - 1) with
      | none =>
        simp only [stH, stT, postC, watchC]; simp (maxSteps := 4000000) only [go_sem, List.append_eq, List.cons_append, List.nil_append, Nat.reduceAdd, Nat.reduceMul, Nat.reduceSub, Nat.reduceLeDiff, Nat.reduceLT, Int.reduceAdd, Int.reduceToNat, Int.reduceLE, Int.reduceLT, Int.reduceNeg, reduceIte, postC, watchC, sll]
        (repeat' (first
    | ((rw [mget_none ((hgi (by omega)).trans hx)]; simp (maxSteps := 4000000) only [go_sem, List.append_eq, List.cons_append, List.nil_append, Nat.reduceAdd, Nat.reduceMul, Nat.reduceSub, Nat.reduceLeDiff, Nat.reduceLT, Int.reduceAdd, Int.reduceToNat, Int.reduceLE, Int.reduceLT, Int.reduceNeg, reduceIte, postC, watchC, sll]))
    | ((show zeroOK _ = true; rfl))
    | (refine awp_seqK ?_)
    | (refine kt ?_)
    | (refine And.intro ?_ ?_)
    | ((first | refine awp_region ?_ | refine awp_draw (by kernel_rfl) (by kernel_rfl) ?_ | refine Imp.le2 ?_ | refine awp_label ?_ | refine awp_skip ?_ | refine awp_exit ?_ | refine awp_cd ?_ | refine awp_ret ?_); simp (maxSteps := 4000000) only [go_sem, List.append_eq, List.cons_append, List.nil_append, Nat.reduceAdd, Nat.reduceMul, Nat.reduceSub, Nat.reduceLeDiff, Nat.reduceLT, Int.reduceAdd, Int.reduceToNat, Int.reduceLE, Int.reduceLT, Int.reduceNeg, reduceIte, postC, watchC, sll])
    | (intro _h)
    | (refine awp_block ?_)
    | (refine awp_scope ?_)
    | (refine go_split (fun _h => ?_) (fun _h => ?_) <;> simp (maxSteps := 4000000) only [go_sem, List.append_eq, List.cons_append, List.nil_append, Nat.reduceAdd, Nat.reduceMul, Nat.reduceSub, Nat.reduceLeDiff, Nat.reduceLT, Int.reduceAdd, Int.reduceToNat, Int.reduceLE, Int.reduceLT, Int.reduceNeg, reduceIte, postC, watchC, sll])
    | (show heapOK _ _ = true; kernel_rfl)
    | (omega)))
        all_goals first
          | (simp only [hull, hx]; done)
          | (have e : i = p.errs.length + 1 := by omega
             subst e; rfl)
      | some x =>
        simp only [stH, stT, postC, watchC]; simp (maxSteps := 4000000) only [go_sem, List.append_eq, List.cons_append, List.nil_append, Nat.reduceAdd, Nat.reduceMul, Nat.reduceSub, Nat.reduceLeDiff, Nat.reduceLT, Int.reduceAdd, Int.reduceToNat, Int.reduceLE, Int.reduceLT, Int.reduceNeg, reduceIte, postC, watchC, sll]
        (repeat' (first
    | ((rw [mget_some ((hgi (by omega)).trans hx)]; simp (maxSteps := 4000000) only [go_sem, List.append_eq, List.cons_append, List.nil_append, Nat.reduceAdd, Nat.reduceMul, Nat.reduceSub, Nat.reduceLeDiff, Nat.reduceLT, Int.reduceAdd, Int.reduceToNat, Int.reduceLE, Int.reduceLT, Int.reduceNeg, reduceIte, postC, watchC, sll]))
    | ((show zeroOK _ = true; rfl))
    | ((refine awp_ownN 5 rfl ?_; simp (maxSteps := 4000000) only [go_sem, List.append_eq, List.cons_append, List.nil_append, Nat.reduceAdd, Nat.reduceMul, Nat.reduceSub, Nat.reduceLeDiff, Nat.reduceLT, Int.reduceAdd, Int.reduceToNat, Int.reduceLE, Int.reduceLT, Int.reduceNeg, reduceIte, postC, watchC, sll, List.take_succ_cons, List.take_zero]; refine callH_yield true (stH p g (i + 1) ++ [some (.dfr true), some (.loop .ready none 0 stT #[11, 12] ca cb 6), some (.cells 122 1 0 [.int .i64 x.1, .int .i64 x.2])]) ?_ ?_ <;> simp only [stH, stT, postC, watchC] <;> (try simp (maxSteps := 4000000) only [go_sem, List.append_eq, List.cons_append, List.nil_append, Nat.reduceAdd, Nat.reduceMul, Nat.reduceSub, Nat.reduceLeDiff, Nat.reduceLT, Int.reduceAdd, Int.reduceToNat, Int.reduceLE, Int.reduceLT, Int.reduceNeg, reduceIte, postC, watchC, sll])))
    | (refine awp_seqK ?_)
    | (refine kt ?_)
    | (refine And.intro ?_ ?_)
    | ((first | refine awp_region ?_ | refine awp_draw (by kernel_rfl) (by kernel_rfl) ?_ | refine Imp.le2 ?_ | refine awp_label ?_ | refine awp_skip ?_ | refine awp_exit ?_ | refine awp_cd ?_ | refine awp_ret ?_); simp (maxSteps := 4000000) only [go_sem, List.append_eq, List.cons_append, List.nil_append, Nat.reduceAdd, Nat.reduceMul, Nat.reduceSub, Nat.reduceLeDiff, Nat.reduceLT, Int.reduceAdd, Int.reduceToNat, Int.reduceLE, Int.reduceLT, Int.reduceNeg, reduceIte, postC, watchC, sll])
    | (intro _h)
    | (refine awp_block ?_)
    | (refine awp_scope ?_)
    | (refine go_split (fun _h => ?_) (fun _h => ?_) <;> simp (maxSteps := 4000000) only [go_sem, List.append_eq, List.cons_append, List.nil_append, Nat.reduceAdd, Nat.reduceMul, Nat.reduceSub, Nat.reduceLeDiff, Nat.reduceLT, Int.reduceAdd, Int.reduceToNat, Int.reduceLE, Int.reduceLT, Int.reduceNeg, reduceIte, postC, watchC, sll])
    | (show heapOK _ _ = true; kernel_rfl)
    | (omega)))
        · refine semY_of_awpZ rfl rfl ?_
          intro B w0 l m w
          refine awp_code hca ?_
          (repeat' (first
    | (refine awp_seqK ?_)
    | (refine kt ?_)
    | (refine And.intro ?_ ?_)
    | ((first | refine awp_region ?_ | refine awp_draw (by kernel_rfl) (by kernel_rfl) ?_ | refine Imp.le2 ?_ | refine awp_label ?_ | refine awp_skip ?_ | refine awp_exit ?_ | refine awp_cd ?_ | refine awp_ret ?_); simp (maxSteps := 4000000) only [go_sem, List.append_eq, List.cons_append, List.nil_append, Nat.reduceAdd, Nat.reduceMul, Nat.reduceSub, Nat.reduceLeDiff, Nat.reduceLT, Int.reduceAdd, Int.reduceToNat, Int.reduceLE, Int.reduceLT, Int.reduceNeg, reduceIte, postC, watchC, sll])
    | (intro _h)
    | (refine awp_block ?_)
    | (refine awp_scope ?_)
    | (refine go_split (fun _h => ?_) (fun _h => ?_) <;> simp (maxSteps := 4000000) only [go_sem, List.append_eq, List.cons_append, List.nil_append, Nat.reduceAdd, Nat.reduceMul, Nat.reduceSub, Nat.reduceLeDiff, Nat.reduceLT, Int.reduceAdd, Int.reduceToNat, Int.reduceLE, Int.reduceLT, Int.reduceNeg, reduceIte, postC, watchC, sll])
    | (show heapOK _ _ = true; kernel_rfl)
    | (omega)))
          refine awp_code hcb ?_
          simp only [hull, hx]
          generalize hull g i = s at *
          cases s
          · simp only [Option.isNone, Option.isSome, hLo, hHi, joinE] at *
            (repeat' (first
    | (refine awp_seqK ?_)
    | (refine kt ?_)
    | (refine And.intro ?_ ?_)
    | ((first | refine awp_region ?_ | refine awp_draw (by kernel_rfl) (by kernel_rfl) ?_ | refine Imp.le2 ?_ | refine awp_label ?_ | refine awp_skip ?_ | refine awp_exit ?_ | refine awp_cd ?_ | refine awp_ret ?_); simp (maxSteps := 4000000) only [go_sem, List.append_eq, List.cons_append, List.nil_append, Nat.reduceAdd, Nat.reduceMul, Nat.reduceSub, Nat.reduceLeDiff, Nat.reduceLT, Int.reduceAdd, Int.reduceToNat, Int.reduceLE, Int.reduceLT, Int.reduceNeg, reduceIte, postC, watchC, sll])
    | (intro _h)
    | (refine awp_block ?_)
    | (refine awp_scope ?_)
    | ((first | refine callK_of (greatest_c _ _ _) ?_ | refine callK_of (least_c _ _ _) ?_); try simp (maxSteps := 4000000) only [go_sem, List.append_eq, List.cons_append, List.nil_append, Nat.reduceAdd, Nat.reduceMul, Nat.reduceSub, Nat.reduceLeDiff, Nat.reduceLT, Int.reduceAdd, Int.reduceToNat, Int.reduceLE, Int.reduceLT, Int.reduceNeg, reduceIte, postC, watchC, sll])
    | (refine go_split (fun _h => ?_) (fun _h => ?_) <;> simp (maxSteps := 4000000) only [go_sem, List.append_eq, List.cons_append, List.nil_append, Nat.reduceAdd, Nat.reduceMul, Nat.reduceSub, Nat.reduceLeDiff, Nat.reduceLT, Int.reduceAdd, Int.reduceToNat, Int.reduceLE, Int.reduceLT, Int.reduceNeg, reduceIte, postC, watchC, sll])
    | (show heapOK _ _ = true; kernel_rfl)
    | (omega)))
            all_goals simp
          · simp only [Option.isNone, Option.isSome, hLo, hHi, joinE] at *
            (repeat' (first
    | (refine awp_seqK ?_)
    | (refine kt ?_)
    | (refine And.intro ?_ ?_)
    | ((first | refine awp_region ?_ | refine awp_draw (by kernel_rfl) (by kernel_rfl) ?_ | refine Imp.le2 ?_ | refine awp_label ?_ | refine awp_skip ?_ | refine awp_exit ?_ | refine awp_cd ?_ | refine awp_ret ?_); simp (maxSteps := 4000000) only [go_sem, List.append_eq, List.cons_append, List.nil_append, Nat.reduceAdd, Nat.reduceMul, Nat.reduceSub, Nat.reduceLeDiff, Nat.reduceLT, Int.reduceAdd, Int.reduceToNat, Int.reduceLE, Int.reduceLT, Int.reduceNeg, reduceIte, postC, watchC, sll])
    | (intro _h)
    | (refine awp_block ?_)
    | (refine awp_scope ?_)
    | ((first | refine callK_of (greatest_c _ _ _) ?_ | refine callK_of (least_c _ _ _) ?_); try simp (maxSteps := 4000000) only [go_sem, List.append_eq, List.cons_append, List.nil_append, Nat.reduceAdd, Nat.reduceMul, Nat.reduceSub, Nat.reduceLeDiff, Nat.reduceLT, Int.reduceAdd, Int.reduceToNat, Int.reduceLE, Int.reduceLT, Int.reduceNeg, reduceIte, postC, watchC, sll])
    | (refine go_split (fun _h => ?_) (fun _h => ?_) <;> simp (maxSteps := 4000000) only [go_sem, List.append_eq, List.cons_append, List.nil_append, Nat.reduceAdd, Nat.reduceMul, Nat.reduceSub, Nat.reduceLeDiff, Nat.reduceLT, Int.reduceAdd, Int.reduceToNat, Int.reduceLE, Int.reduceLT, Int.reduceNeg, reduceIte, postC, watchC, sll])
    | (show heapOK _ _ = true; kernel_rfl)
    | (omega)))
        all_goals
          (have e : i = p.errs.length + 1 := by omega
           subst e; rfl)
  · rfl
  · have hbd := hull_bd hg (p.errs.length + 1)
    have hlv := level_c p (hHi (hull g (p.errs.length + 1))) hp (by omega)
    simp only [postC, sl] at hlv
    simp only [stH, stT, postC, watchC]
    simp (maxSteps := 4000000) only [go_sem, List.append_eq, List.cons_append, List.nil_append, Nat.reduceAdd, Nat.reduceMul, Nat.reduceSub, Nat.reduceLeDiff, Nat.reduceLT, Int.reduceAdd, Int.reduceToNat, Int.reduceLE, Int.reduceLT, Int.reduceNeg, reduceIte, postC, watchC, sll]
    (repeat' (first
    | (refine awp_seqK ?_)
    | (refine kt ?_)
    | (refine And.intro ?_ ?_)
    | ((first | refine awp_region ?_ | refine awp_draw (by kernel_rfl) (by kernel_rfl) ?_ | refine Imp.le2 ?_ | refine awp_label ?_ | refine awp_skip ?_ | refine awp_exit ?_ | refine awp_cd ?_ | refine awp_ret ?_); simp (maxSteps := 4000000) only [go_sem, List.append_eq, List.cons_append, List.nil_append, Nat.reduceAdd, Nat.reduceMul, Nat.reduceSub, Nat.reduceLeDiff, Nat.reduceLT, Int.reduceAdd, Int.reduceToNat, Int.reduceLE, Int.reduceLT, Int.reduceNeg, reduceIte, postC, watchC, sll])
    | (intro _h)
    | (refine awp_block ?_)
    | (refine awp_scope ?_)
    | ((first | refine callK_of (hlv) ?_); try simp (maxSteps := 4000000) only [go_sem, List.append_eq, List.cons_append, List.nil_append, Nat.reduceAdd, Nat.reduceMul, Nat.reduceSub, Nat.reduceLeDiff, Nat.reduceLT, Int.reduceAdd, Int.reduceToNat, Int.reduceLE, Int.reduceLT, Int.reduceNeg, reduceIte, postC, watchC, sll])
    | (refine go_split (fun _h => ?_) (fun _h => ?_) <;> simp (maxSteps := 4000000) only [go_sem, List.append_eq, List.cons_append, List.nil_append, Nat.reduceAdd, Nat.reduceMul, Nat.reduceSub, Nat.reduceLeDiff, Nat.reduceLT, Int.reduceAdd, Int.reduceToNat, Int.reduceLE, Int.reduceLT, Int.reduceNeg, reduceIte, postC, watchC, sll])
    | (show heapOK _ _ = true; kernel_rfl)
    | (omega)))
    all_goals (clear hlv hbd; cases hh : hull g (p.errs.length + 1) <;> simp_all)
end Go.Am

/- Contracts of the alarm functions: all rows of a post. -/
namespace Go.Am
open Go.RowKit Go.Proofs
attribute [local irreducible] AWP CallS Kt goK CallK stepK evOps SemF SemY
set_option maxRecDepth 4000
set_option linter.unusedSimpArgs false
set_option linter.unusedVariables false
set_option maxHeartbeats 1600000

theorem agLo_ge {errs row : List Int} {f : Int} : ∀ i, 0 ≤ agLo errs row f i
  | 0 => by simp [agLo]
  | i + 1 => by have := agLo_ge (errs := errs) (row := row) (f := f) i; simp only [agLo]; split <;> omega
theorem agHi_le {errs row : List Int} {f : Int} : ∀ i, agHi errs row f i ≤ 1000
  | 0 => by simp [agHi]
  | i + 1 => by have := agHi_le (errs := errs) (row := row) (f := f) i; simp only [agHi]; split <;> omega
theorem stepX_bd {p : Post} {row : List Int} {first : Bool} {f : Int} {x z : Int × Int} (h : stepX p row first f x = some z) : 0 ≤ z.1 ∧ z.1 ≤ z.2 ∧ z.2 ≤ 1000 := by
  have h3' : stepX p row first f x = (if agreedEnds p.errs row f = (1, 0) ∨ min (if first = true then x.2 else x.2 + p.gain) (agreedEnds p.errs row f).2 < max (if first = true then x.1 else x.1 - p.drop) (agreedEnds p.errs row f).1 then none
  else some (max (if first = true then x.1 else x.1 - p.drop) (agreedEnds p.errs row f).1, min (if first = true then x.2 else x.2 + p.gain) (agreedEnds p.errs row f).2)) := rfl
  rw [h3'] at h
  generalize (if first = true then x.2 else x.2 + p.gain) = b at *
  generalize (if first = true then x.1 else x.1 - p.drop) = a at *
  split at h
  · cases h
  · rename_i hc
    cases h
    simp only [not_or] at hc
    obtain ⟨h1, h2⟩ := hc
    have h3 : 0 ≤ (agreedEnds p.errs row f).1 ∧ (agreedEnds p.errs row f).2 ≤ 1000 := by
      unfold agreedEnds
      split
      · simp
      · exact ⟨agLo_ge _, agHi_le _⟩
    simp only
    omega
theorem stepG_ok {p : Post} {row : List Int} {first : Bool} {g : Int → Option (Int × Int)} : GOK (stepG p row first g) := by
  intro f z hz
  simp only [stepG, Option.bind_eq_some_iff] at hz
  obtain ⟨x, _, h⟩ := hz
  exact stepX_bd h
/-- What may be after so many rows. -/
def gAt (p : Post) (reads : List (List Int)) : Nat → Int → Option (Int × Int)
  | 0 => fun _ => some (0, 1000)
  | k + 1 => stepG p (reads.getD k []) (decide (k = 0)) (gAt p reads k)
theorem gAt_ok {p : Post} {reads : List (List Int)} : ∀ k, GOK (gAt p reads k)
  | 0 => fun f x h => by simp only [gAt, Option.some.injEq] at h; subst h; simp
  | k + 1 => stepG_ok
/-- What may be in an hour, and the state. -/
def stAt (p : Post) (reads : List (List Int)) (k : Nat) : Option (Int × Int) := hull (gAt p reads (k + 1)) (p.errs.length + 1)
def stRec (p : Post) (s : Option (Int × Int)) : Int × Int × Int := (hLo s, hHi s, levelOf p (hHi s))
def states (p : Post) (reads : List (List Int)) (k : Nat) : List (Int × Int × Int) := (List.range k).map fun j => stRec p (stAt p reads j)
theorem states_succ {p : Post} {reads : List (List Int)} {k : Nat} : states p reads (k + 1) = states p reads k ++ [stRec p (stAt p reads k)] := by simp [states, List.range_succ]
theorem states_length {p : Post} {reads : List (List Int)} {k : Nat} : (states p reads k).length = k := by simp [states]
def stC (s : Int × Int × Int) : List AV := [.int .i64 s.1, .int .i64 s.2.1, .int .u8 s.2.2]
theorem pl_st {l : List (Int × Int × Int)} : pureL (recs stC l) = True := eq_true (recs_pure fun s => by simp [pureL, stC, cellPure])
theorem lv_st {l : List (Int × Int × Int)} {p : Nat → Bool} : (recs stC l).all (live2 p) = true := recs_live fun s => by simp [pureL, stC, cellPure]
theorem len_st {l : List (Int × Int × Int)} : (recs stC l).length = l.length * 3 := recs_length fun _ => rfl
theorem rl_st {l : List (Int × Int × Int)} {σ : Nat → Nat} : renL σ (recs stC l) = recs stC l := rl_recs fun a => by simp [stC, renL, ren]
attribute [go_sem] pl_st lv_st len_st rl_st states_length
structure ReadsOK (p : Post) (reads : List (List Int)) : Prop where
  len : reads.length ≤ 60
  rows : ∀ i, i < reads.length → RowOK p (reads.getD i [])
def ruH (p : Post) (reads : List (List Int)) (k : Nat) : List (Option ABlk) :=
  [none, none, some (.map (mpC (canon p.errs.length (gAt p reads k)))), some (.cells 142 1 0 (watchC p 2))]

theorem run_ok (p : Post) (reads : List (List Int)) (hp : PostOK p) (hr : ReadsOK p reads) (hall : ∀ j, j < reads.length → (stAt p reads j).isSome = true) : SemF Try.prog 63 [.agg (postC p), sll reads] []
    (.tup [.osl 4 reads.length 0 reads.length, .ptr 3 0 0, .int .i64 (-1)]) (ruH p reads reads.length ++ [some (.cells 58 3 reads.length (recs stC (states p reads reads.length)))]) := by
  obtain ⟨hl1, hl2⟩ := hp.len
  have hl3 := hr.len
  have hbg := begin_c p (by omega)
  simp only [postC, sl, watchC] at hbg
  (refine semF_of_awp (ys := [.osl 4 reads.length 0 reads.length, .ptr 3 0 0, .int .i64 (-1)]) (fun w args => Try.call63 ..) Try.func63 rfl (fun w0 m0 wz => ?_); simp only [Try.ntmps63, Try.results63, initT, junks, postC, watchC, sll, sl, List.toList_toArray, List.cons_append, List.nil_append, List.length_cons, List.length_nil, Nat.reduceAdd, Nat.reduceSub])
  ((repeat refine awp_seqK ?_); refine awp_region ?_; simp (maxSteps := 4000000) only [go_sem, List.append_eq, List.cons_append, List.nil_append, Nat.reduceAdd, Nat.reduceMul, Nat.reduceSub, Nat.reduceLeDiff, Nat.reduceLT, Int.reduceAdd, Int.reduceToNat, Int.reduceLE, Int.reduceLT, Int.reduceNeg, reduceIte, postC, watchC, sll]; refine kt ?_)
  ((repeat refine awp_seqK ?_); refine awp_ownN 1 rfl ?_; simp (maxSteps := 4000000) only [go_sem, List.append_eq, List.cons_append, List.nil_append, Nat.reduceAdd, Nat.reduceMul, Nat.reduceSub, Nat.reduceLeDiff, Nat.reduceLT, Int.reduceAdd, Int.reduceToNat, Int.reduceLE, Int.reduceLT, Int.reduceNeg, reduceIte, postC, watchC, sll, List.take_succ_cons, List.take_zero]; refine own_go (hbg) [] rfl (by simp (maxSteps := 4000000) only [go_sem, List.append_eq, List.cons_append, List.nil_append, Nat.reduceAdd, Nat.reduceMul, Nat.reduceSub, Nat.reduceLeDiff, Nat.reduceLT, Int.reduceAdd, Int.reduceToNat, Int.reduceLE, Int.reduceLT, Int.reduceNeg, reduceIte, postC, watchC, sll]) (by simp (maxSteps := 4000000) only [go_sem, List.append_eq, List.cons_append, List.nil_append, Nat.reduceAdd, Nat.reduceMul, Nat.reduceSub, Nat.reduceLeDiff, Nat.reduceLT, Int.reduceAdd, Int.reduceToNat, Int.reduceLE, Int.reduceLT, Int.reduceNeg, reduceIte, postC, watchC, sll, Nat.lt_irrefl] <;> decide) rfl ?_; simp (maxSteps := 4000000) only [go_sem, List.append_eq, List.cons_append, List.nil_append, Nat.reduceAdd, Nat.reduceMul, Nat.reduceSub, Nat.reduceLeDiff, Nat.reduceLT, Int.reduceAdd, Int.reduceToNat, Int.reduceLE, Int.reduceLT, Int.reduceNeg, reduceIte, postC, watchC, sll]; refine kt ?_)
  (repeat' (first
    | (refine awp_seqK ?_)
    | (refine kt ?_)
    | (refine And.intro ?_ ?_)
    | ((first | refine awp_region ?_ | refine awp_draw (by kernel_rfl) (by kernel_rfl) ?_ | refine Imp.le2 ?_ | refine awp_label ?_ | refine awp_skip ?_ | refine awp_exit ?_ | refine awp_cd ?_ | refine awp_ret ?_); simp (maxSteps := 4000000) only [go_sem, List.append_eq, List.cons_append, List.nil_append, Nat.reduceAdd, Nat.reduceMul, Nat.reduceSub, Nat.reduceLeDiff, Nat.reduceLT, Int.reduceAdd, Int.reduceToNat, Int.reduceLE, Int.reduceLT, Int.reduceNeg, reduceIte, postC, watchC, sll])
    | (intro _h)
    | (refine awp_block ?_)
    | (refine awp_scope ?_)
    | (refine go_split (fun _h => ?_) (fun _h => ?_) <;> simp (maxSteps := 4000000) only [go_sem, List.append_eq, List.cons_append, List.nil_append, Nat.reduceAdd, Nat.reduceMul, Nat.reduceSub, Nat.reduceLeDiff, Nat.reduceLT, Int.reduceAdd, Int.reduceToNat, Int.reduceLE, Int.reduceLT, Int.reduceNeg, reduceIte, postC, watchC, sll])
    | (show heapOK _ _ = true; kernel_rfl)
    | (omega)))
  (refine awp_adT 4 58 3 rfl ?_; simp only [adT, lset, hset, List.length_cons, List.length_nil, Nat.reduceAdd])
  refine awp_loopN reads.length (fun k => ⟨mkT 41 [(4, .osl 4 k 0 k), (5, .ptr 3 0 0), (13, sll reads), (14, .int .i64 reads.length), (15, .int .i64 k)], ruH p reads k ++ [some (.cells 58 3 k (recs stC (states p reads k)))], []⟩) (.le2 ?_) ?_
  · simp only [ruH, postC, watchC]; simp (maxSteps := 4000000) only [go_sem, List.append_eq, List.cons_append, List.nil_append, Nat.reduceAdd, Nat.reduceMul, Nat.reduceSub, Nat.reduceLeDiff, Nat.reduceLT, Int.reduceAdd, Int.reduceToNat, Int.reduceLE, Int.reduceLT, Int.reduceNeg, reduceIte, postC, watchC, sll]
    exact ⟨rfl, rfl⟩
  · intro k hk
    have hnx := fun h : k < reads.length => next_c p (gAt p reads k) (reads.getD k []) (decide (k = 0)) hp (hr.rows k h) (gAt_ok k)
    have hg1 : stepG p (reads.getD k []) (decide (k = 0)) (gAt p reads k) = gAt p reads (k + 1) := rfl
    have hst := state_c p (gAt p reads (k + 1)) hp (gAt_ok _)
    rw [hg1] at hnx
    have hal := hall k
    have hsu := states_succ (p := p) (reads := reads) (k := k)
    simp only [sl, postC, watchC, stAt, stRec] at hnx hst hal hsu
    generalize hh : hull (gAt p reads (k + 1)) (p.errs.length + 1) = s at *
    simp only [ruH, postC, watchC]; simp (maxSteps := 4000000) only [go_sem, List.append_eq, List.cons_append, List.nil_append, Nat.reduceAdd, Nat.reduceMul, Nat.reduceSub, Nat.reduceLeDiff, Nat.reduceLT, Int.reduceAdd, Int.reduceToNat, Int.reduceLE, Int.reduceLT, Int.reduceNeg, reduceIte, postC, watchC, sll]
    by_cases h0 : k = 0
    · have e0 : ((k : Int) = 0) = True := eq_true (by omega)
      have e1 : decide (k = 0) = true := by simp [h0]
      rw [e1] at hnx
      (repeat' (first
    | (refine awp_ownN 4 rfl ?_; simp (maxSteps := 4000000) only [go_sem, List.append_eq, List.cons_append, List.nil_append, Nat.reduceAdd, Nat.reduceMul, Nat.reduceSub, Nat.reduceLeDiff, Nat.reduceLT, Int.reduceAdd, Int.reduceToNat, Int.reduceLE, Int.reduceLT, Int.reduceNeg, reduceIte, postC, watchC, sll, List.take_succ_cons, List.take_zero, e0, decide_true]; refine own_go (hnx (by omega)) [3, 2] rfl (by simp (maxSteps := 4000000) only [go_sem, List.append_eq, List.cons_append, List.nil_append, Nat.reduceAdd, Nat.reduceMul, Nat.reduceSub, Nat.reduceLeDiff, Nat.reduceLT, Int.reduceAdd, Int.reduceToNat, Int.reduceLE, Int.reduceLT, Int.reduceNeg, reduceIte, postC, watchC, sll, e0, decide_true]) (by simp (maxSteps := 4000000) only [go_sem, List.append_eq, List.cons_append, List.nil_append, Nat.reduceAdd, Nat.reduceMul, Nat.reduceSub, Nat.reduceLeDiff, Nat.reduceLT, Int.reduceAdd, Int.reduceToNat, Int.reduceLE, Int.reduceLT, Int.reduceNeg, reduceIte, postC, watchC, sll, Nat.lt_irrefl, e0, decide_true] <;> decide) rfl ?_; simp (maxSteps := 4000000) only [go_sem, List.append_eq, List.cons_append, List.nil_append, Nat.reduceAdd, Nat.reduceMul, Nat.reduceSub, Nat.reduceLeDiff, Nat.reduceLT, Int.reduceAdd, Int.reduceToNat, Int.reduceLE, Int.reduceLT, Int.reduceNeg, reduceIte, postC, watchC, sll, e0, decide_true])
    | (refine awp_ownN 1 rfl ?_; simp (maxSteps := 4000000) only [go_sem, List.append_eq, List.cons_append, List.nil_append, Nat.reduceAdd, Nat.reduceMul, Nat.reduceSub, Nat.reduceLeDiff, Nat.reduceLT, Int.reduceAdd, Int.reduceToNat, Int.reduceLE, Int.reduceLT, Int.reduceNeg, reduceIte, postC, watchC, sll, List.take_succ_cons, List.take_zero, e0, decide_true]; refine own_go (hst) [3, 2] rfl (by simp (maxSteps := 4000000) only [go_sem, List.append_eq, List.cons_append, List.nil_append, Nat.reduceAdd, Nat.reduceMul, Nat.reduceSub, Nat.reduceLeDiff, Nat.reduceLT, Int.reduceAdd, Int.reduceToNat, Int.reduceLE, Int.reduceLT, Int.reduceNeg, reduceIte, postC, watchC, sll, e0, decide_true]) (by simp (maxSteps := 4000000) only [go_sem, List.append_eq, List.cons_append, List.nil_append, Nat.reduceAdd, Nat.reduceMul, Nat.reduceSub, Nat.reduceLeDiff, Nat.reduceLT, Int.reduceAdd, Int.reduceToNat, Int.reduceLE, Int.reduceLT, Int.reduceNeg, reduceIte, postC, watchC, sll, Nat.lt_irrefl, e0, decide_true] <;> decide) rfl ?_; simp (maxSteps := 4000000) only [go_sem, List.append_eq, List.cons_append, List.nil_append, Nat.reduceAdd, Nat.reduceMul, Nat.reduceSub, Nat.reduceLeDiff, Nat.reduceLT, Int.reduceAdd, Int.reduceToNat, Int.reduceLE, Int.reduceLT, Int.reduceNeg, reduceIte, postC, watchC, sll, e0, decide_true])
    | (refine awp_seqK ?_)
    | (refine kt ?_)
    | (refine And.intro ?_ ?_)
    | ((first | refine awp_region ?_ | refine awp_draw (by kernel_rfl) (by kernel_rfl) ?_ | refine Imp.le2 ?_ | refine awp_label ?_ | refine awp_skip ?_ | refine awp_exit ?_ | refine awp_cd ?_ | refine awp_ret ?_); simp (maxSteps := 4000000) only [go_sem, List.append_eq, List.cons_append, List.nil_append, Nat.reduceAdd, Nat.reduceMul, Nat.reduceSub, Nat.reduceLeDiff, Nat.reduceLT, Int.reduceAdd, Int.reduceToNat, Int.reduceLE, Int.reduceLT, Int.reduceNeg, reduceIte, postC, watchC, sll, e0, decide_true])
    | (intro _h)
    | (refine awp_block ?_)
    | (refine awp_scope ?_)
    | (refine go_split (fun _h => ?_) (fun _h => ?_) <;> simp (maxSteps := 4000000) only [go_sem, List.append_eq, List.cons_append, List.nil_append, Nat.reduceAdd, Nat.reduceMul, Nat.reduceSub, Nat.reduceLeDiff, Nat.reduceLT, Int.reduceAdd, Int.reduceToNat, Int.reduceLE, Int.reduceLT, Int.reduceNeg, reduceIte, postC, watchC, sll, e0, decide_true])
    | (show heapOK _ _ = true; kernel_rfl)
    | (omega)))
      all_goals first
        | (rw [hsu, recs_snoc]; rfl)
        | (have e : k = reads.length := by omega
           subst e; rfl)
        | (exfalso; have h1 := hal (by omega); simp only [Option.isSome] at *; simp_all; done)
    · have e0 : ((k : Int) = 0) = False := eq_false (by omega)
      have e1 : decide (k = 0) = false := by simp [h0]
      rw [e1] at hnx
      (repeat' (first
    | (refine awp_ownN 4 rfl ?_; simp (maxSteps := 4000000) only [go_sem, List.append_eq, List.cons_append, List.nil_append, Nat.reduceAdd, Nat.reduceMul, Nat.reduceSub, Nat.reduceLeDiff, Nat.reduceLT, Int.reduceAdd, Int.reduceToNat, Int.reduceLE, Int.reduceLT, Int.reduceNeg, reduceIte, postC, watchC, sll, List.take_succ_cons, List.take_zero, e0, decide_false]; refine own_go (hnx (by omega)) [3, 2] rfl (by simp (maxSteps := 4000000) only [go_sem, List.append_eq, List.cons_append, List.nil_append, Nat.reduceAdd, Nat.reduceMul, Nat.reduceSub, Nat.reduceLeDiff, Nat.reduceLT, Int.reduceAdd, Int.reduceToNat, Int.reduceLE, Int.reduceLT, Int.reduceNeg, reduceIte, postC, watchC, sll, e0, decide_false]) (by simp (maxSteps := 4000000) only [go_sem, List.append_eq, List.cons_append, List.nil_append, Nat.reduceAdd, Nat.reduceMul, Nat.reduceSub, Nat.reduceLeDiff, Nat.reduceLT, Int.reduceAdd, Int.reduceToNat, Int.reduceLE, Int.reduceLT, Int.reduceNeg, reduceIte, postC, watchC, sll, Nat.lt_irrefl, e0, decide_false] <;> decide) rfl ?_; simp (maxSteps := 4000000) only [go_sem, List.append_eq, List.cons_append, List.nil_append, Nat.reduceAdd, Nat.reduceMul, Nat.reduceSub, Nat.reduceLeDiff, Nat.reduceLT, Int.reduceAdd, Int.reduceToNat, Int.reduceLE, Int.reduceLT, Int.reduceNeg, reduceIte, postC, watchC, sll, e0, decide_false])
    | (refine awp_ownN 1 rfl ?_; simp (maxSteps := 4000000) only [go_sem, List.append_eq, List.cons_append, List.nil_append, Nat.reduceAdd, Nat.reduceMul, Nat.reduceSub, Nat.reduceLeDiff, Nat.reduceLT, Int.reduceAdd, Int.reduceToNat, Int.reduceLE, Int.reduceLT, Int.reduceNeg, reduceIte, postC, watchC, sll, List.take_succ_cons, List.take_zero, e0, decide_false]; refine own_go (hst) [3, 2] rfl (by simp (maxSteps := 4000000) only [go_sem, List.append_eq, List.cons_append, List.nil_append, Nat.reduceAdd, Nat.reduceMul, Nat.reduceSub, Nat.reduceLeDiff, Nat.reduceLT, Int.reduceAdd, Int.reduceToNat, Int.reduceLE, Int.reduceLT, Int.reduceNeg, reduceIte, postC, watchC, sll, e0, decide_false]) (by simp (maxSteps := 4000000) only [go_sem, List.append_eq, List.cons_append, List.nil_append, Nat.reduceAdd, Nat.reduceMul, Nat.reduceSub, Nat.reduceLeDiff, Nat.reduceLT, Int.reduceAdd, Int.reduceToNat, Int.reduceLE, Int.reduceLT, Int.reduceNeg, reduceIte, postC, watchC, sll, Nat.lt_irrefl, e0, decide_false] <;> decide) rfl ?_; simp (maxSteps := 4000000) only [go_sem, List.append_eq, List.cons_append, List.nil_append, Nat.reduceAdd, Nat.reduceMul, Nat.reduceSub, Nat.reduceLeDiff, Nat.reduceLT, Int.reduceAdd, Int.reduceToNat, Int.reduceLE, Int.reduceLT, Int.reduceNeg, reduceIte, postC, watchC, sll, e0, decide_false])
    | (refine awp_seqK ?_)
    | (refine kt ?_)
    | (refine And.intro ?_ ?_)
    | ((first | refine awp_region ?_ | refine awp_draw (by kernel_rfl) (by kernel_rfl) ?_ | refine Imp.le2 ?_ | refine awp_label ?_ | refine awp_skip ?_ | refine awp_exit ?_ | refine awp_cd ?_ | refine awp_ret ?_); simp (maxSteps := 4000000) only [go_sem, List.append_eq, List.cons_append, List.nil_append, Nat.reduceAdd, Nat.reduceMul, Nat.reduceSub, Nat.reduceLeDiff, Nat.reduceLT, Int.reduceAdd, Int.reduceToNat, Int.reduceLE, Int.reduceLT, Int.reduceNeg, reduceIte, postC, watchC, sll, e0, decide_false])
    | (intro _h)
    | (refine awp_block ?_)
    | (refine awp_scope ?_)
    | (refine go_split (fun _h => ?_) (fun _h => ?_) <;> simp (maxSteps := 4000000) only [go_sem, List.append_eq, List.cons_append, List.nil_append, Nat.reduceAdd, Nat.reduceMul, Nat.reduceSub, Nat.reduceLeDiff, Nat.reduceLT, Int.reduceAdd, Int.reduceToNat, Int.reduceLE, Int.reduceLT, Int.reduceNeg, reduceIte, postC, watchC, sll, e0, decide_false])
    | (show heapOK _ _ = true; kernel_rfl)
    | (omega)))
      all_goals first
        | (rw [hsu, recs_snoc]; rfl)
        | (have e : k = reads.length := by omega
           subst e; rfl)
        | (exfalso; have h1 := hal (by omega); simp only [Option.isSome] at *; simp_all; done)
theorem run_broken (p : Post) (reads : List (List Int)) (h : Nat) (hp : PostOK p) (hr : ReadsOK p reads) (hh0 : h < reads.length) (hno : stAt p reads h = none) (hall : ∀ j, j < h → (stAt p reads j).isSome = true) : SemF Try.prog 63 [.agg (postC p), sll reads] []
    (.tup [.nils, .ptr 3 0 0, .int .i64 h]) (ruH p reads (h + 1)) := by
  obtain ⟨hl1, hl2⟩ := hp.len
  have hl3 := hr.len
  have hbg := begin_c p (by omega)
  simp only [postC, sl, watchC] at hbg
  (refine semF_of_awp (ys := [.nils, .ptr 3 0 0, .int .i64 h]) (fun w args => Try.call63 ..) Try.func63 rfl (fun w0 m0 wz => ?_); simp only [Try.ntmps63, Try.results63, initT, junks, postC, watchC, sll, sl, List.toList_toArray, List.cons_append, List.nil_append, List.length_cons, List.length_nil, Nat.reduceAdd, Nat.reduceSub])
  ((repeat refine awp_seqK ?_); refine awp_region ?_; simp (maxSteps := 4000000) only [go_sem, List.append_eq, List.cons_append, List.nil_append, Nat.reduceAdd, Nat.reduceMul, Nat.reduceSub, Nat.reduceLeDiff, Nat.reduceLT, Int.reduceAdd, Int.reduceToNat, Int.reduceLE, Int.reduceLT, Int.reduceNeg, reduceIte, postC, watchC, sll]; refine kt ?_)
  ((repeat refine awp_seqK ?_); refine awp_ownN 1 rfl ?_; simp (maxSteps := 4000000) only [go_sem, List.append_eq, List.cons_append, List.nil_append, Nat.reduceAdd, Nat.reduceMul, Nat.reduceSub, Nat.reduceLeDiff, Nat.reduceLT, Int.reduceAdd, Int.reduceToNat, Int.reduceLE, Int.reduceLT, Int.reduceNeg, reduceIte, postC, watchC, sll, List.take_succ_cons, List.take_zero]; refine own_go (hbg) [] rfl (by simp (maxSteps := 4000000) only [go_sem, List.append_eq, List.cons_append, List.nil_append, Nat.reduceAdd, Nat.reduceMul, Nat.reduceSub, Nat.reduceLeDiff, Nat.reduceLT, Int.reduceAdd, Int.reduceToNat, Int.reduceLE, Int.reduceLT, Int.reduceNeg, reduceIte, postC, watchC, sll]) (by simp (maxSteps := 4000000) only [go_sem, List.append_eq, List.cons_append, List.nil_append, Nat.reduceAdd, Nat.reduceMul, Nat.reduceSub, Nat.reduceLeDiff, Nat.reduceLT, Int.reduceAdd, Int.reduceToNat, Int.reduceLE, Int.reduceLT, Int.reduceNeg, reduceIte, postC, watchC, sll, Nat.lt_irrefl] <;> decide) rfl ?_; simp (maxSteps := 4000000) only [go_sem, List.append_eq, List.cons_append, List.nil_append, Nat.reduceAdd, Nat.reduceMul, Nat.reduceSub, Nat.reduceLeDiff, Nat.reduceLT, Int.reduceAdd, Int.reduceToNat, Int.reduceLE, Int.reduceLT, Int.reduceNeg, reduceIte, postC, watchC, sll]; refine kt ?_)
  (repeat' (first
    | (refine awp_seqK ?_)
    | (refine kt ?_)
    | (refine And.intro ?_ ?_)
    | ((first | refine awp_region ?_ | refine awp_draw (by kernel_rfl) (by kernel_rfl) ?_ | refine Imp.le2 ?_ | refine awp_label ?_ | refine awp_skip ?_ | refine awp_exit ?_ | refine awp_cd ?_ | refine awp_ret ?_); simp (maxSteps := 4000000) only [go_sem, List.append_eq, List.cons_append, List.nil_append, Nat.reduceAdd, Nat.reduceMul, Nat.reduceSub, Nat.reduceLeDiff, Nat.reduceLT, Int.reduceAdd, Int.reduceToNat, Int.reduceLE, Int.reduceLT, Int.reduceNeg, reduceIte, postC, watchC, sll])
    | (intro _h)
    | (refine awp_block ?_)
    | (refine awp_scope ?_)
    | (refine go_split (fun _h => ?_) (fun _h => ?_) <;> simp (maxSteps := 4000000) only [go_sem, List.append_eq, List.cons_append, List.nil_append, Nat.reduceAdd, Nat.reduceMul, Nat.reduceSub, Nat.reduceLeDiff, Nat.reduceLT, Int.reduceAdd, Int.reduceToNat, Int.reduceLE, Int.reduceLT, Int.reduceNeg, reduceIte, postC, watchC, sll])
    | (show heapOK _ _ = true; kernel_rfl)
    | (omega)))
  (refine awp_adT 4 58 3 rfl ?_; simp only [adT, lset, hset, List.length_cons, List.length_nil, Nat.reduceAdd])
  refine awp_loopN h (fun k => ⟨mkT 41 [(4, .osl 4 k 0 k), (5, .ptr 3 0 0), (13, sll reads), (14, .int .i64 reads.length), (15, .int .i64 k)], ruH p reads k ++ [some (.cells 58 3 k (recs stC (states p reads k)))], []⟩) (.le2 ?_) ?_
  · simp only [ruH, postC, watchC]; simp (maxSteps := 4000000) only [go_sem, List.append_eq, List.cons_append, List.nil_append, Nat.reduceAdd, Nat.reduceMul, Nat.reduceSub, Nat.reduceLeDiff, Nat.reduceLT, Int.reduceAdd, Int.reduceToNat, Int.reduceLE, Int.reduceLT, Int.reduceNeg, reduceIte, postC, watchC, sll]
    exact ⟨rfl, rfl⟩
  · intro k hk
    have hnx := next_c p (gAt p reads k) (reads.getD k []) (decide (k = 0)) hp (hr.rows k (by omega)) (gAt_ok k)
    have hg1 : stepG p (reads.getD k []) (decide (k = 0)) (gAt p reads k) = gAt p reads (k + 1) := rfl
    have hst := state_c p (gAt p reads (k + 1)) hp (gAt_ok _)
    rw [hg1] at hnx
    have hal := hall k
    have hno' : k = h → hull (gAt p reads (k + 1)) (p.errs.length + 1) = none := fun e => by rw [e]; exact hno
    have hsu := states_succ (p := p) (reads := reads) (k := k)
    simp only [sl, postC, watchC, stAt, stRec] at hnx hst hal hsu
    generalize hh : hull (gAt p reads (k + 1)) (p.errs.length + 1) = s at *
    simp only [ruH, postC, watchC]; simp (maxSteps := 4000000) only [go_sem, List.append_eq, List.cons_append, List.nil_append, Nat.reduceAdd, Nat.reduceMul, Nat.reduceSub, Nat.reduceLeDiff, Nat.reduceLT, Int.reduceAdd, Int.reduceToNat, Int.reduceLE, Int.reduceLT, Int.reduceNeg, reduceIte, postC, watchC, sll]
    by_cases h0 : k = 0
    · have e0 : ((k : Int) = 0) = True := eq_true (by omega)
      have e1 : decide (k = 0) = true := by simp [h0]
      rw [e1] at hnx
      (repeat' (first
    | (refine awp_ownN 4 rfl ?_; simp (maxSteps := 4000000) only [go_sem, List.append_eq, List.cons_append, List.nil_append, Nat.reduceAdd, Nat.reduceMul, Nat.reduceSub, Nat.reduceLeDiff, Nat.reduceLT, Int.reduceAdd, Int.reduceToNat, Int.reduceLE, Int.reduceLT, Int.reduceNeg, reduceIte, postC, watchC, sll, List.take_succ_cons, List.take_zero, e0, decide_true]; refine own_go (hnx) [3, 2] rfl (by simp (maxSteps := 4000000) only [go_sem, List.append_eq, List.cons_append, List.nil_append, Nat.reduceAdd, Nat.reduceMul, Nat.reduceSub, Nat.reduceLeDiff, Nat.reduceLT, Int.reduceAdd, Int.reduceToNat, Int.reduceLE, Int.reduceLT, Int.reduceNeg, reduceIte, postC, watchC, sll, e0, decide_true]) (by simp (maxSteps := 4000000) only [go_sem, List.append_eq, List.cons_append, List.nil_append, Nat.reduceAdd, Nat.reduceMul, Nat.reduceSub, Nat.reduceLeDiff, Nat.reduceLT, Int.reduceAdd, Int.reduceToNat, Int.reduceLE, Int.reduceLT, Int.reduceNeg, reduceIte, postC, watchC, sll, Nat.lt_irrefl, e0, decide_true] <;> decide) rfl ?_; simp (maxSteps := 4000000) only [go_sem, List.append_eq, List.cons_append, List.nil_append, Nat.reduceAdd, Nat.reduceMul, Nat.reduceSub, Nat.reduceLeDiff, Nat.reduceLT, Int.reduceAdd, Int.reduceToNat, Int.reduceLE, Int.reduceLT, Int.reduceNeg, reduceIte, postC, watchC, sll, e0, decide_true])
    | (refine awp_ownN 1 rfl ?_; simp (maxSteps := 4000000) only [go_sem, List.append_eq, List.cons_append, List.nil_append, Nat.reduceAdd, Nat.reduceMul, Nat.reduceSub, Nat.reduceLeDiff, Nat.reduceLT, Int.reduceAdd, Int.reduceToNat, Int.reduceLE, Int.reduceLT, Int.reduceNeg, reduceIte, postC, watchC, sll, List.take_succ_cons, List.take_zero, e0, decide_true]; refine own_go (hst) [3, 2] rfl (by simp (maxSteps := 4000000) only [go_sem, List.append_eq, List.cons_append, List.nil_append, Nat.reduceAdd, Nat.reduceMul, Nat.reduceSub, Nat.reduceLeDiff, Nat.reduceLT, Int.reduceAdd, Int.reduceToNat, Int.reduceLE, Int.reduceLT, Int.reduceNeg, reduceIte, postC, watchC, sll, e0, decide_true]) (by simp (maxSteps := 4000000) only [go_sem, List.append_eq, List.cons_append, List.nil_append, Nat.reduceAdd, Nat.reduceMul, Nat.reduceSub, Nat.reduceLeDiff, Nat.reduceLT, Int.reduceAdd, Int.reduceToNat, Int.reduceLE, Int.reduceLT, Int.reduceNeg, reduceIte, postC, watchC, sll, Nat.lt_irrefl, e0, decide_true] <;> decide) rfl ?_; simp (maxSteps := 4000000) only [go_sem, List.append_eq, List.cons_append, List.nil_append, Nat.reduceAdd, Nat.reduceMul, Nat.reduceSub, Nat.reduceLeDiff, Nat.reduceLT, Int.reduceAdd, Int.reduceToNat, Int.reduceLE, Int.reduceLT, Int.reduceNeg, reduceIte, postC, watchC, sll, e0, decide_true])
    | (refine awp_seqK ?_)
    | (refine kt ?_)
    | (refine And.intro ?_ ?_)
    | ((first | refine awp_region ?_ | refine awp_draw (by kernel_rfl) (by kernel_rfl) ?_ | refine Imp.le2 ?_ | refine awp_label ?_ | refine awp_skip ?_ | refine awp_exit ?_ | refine awp_cd ?_ | refine awp_ret ?_); simp (maxSteps := 4000000) only [go_sem, List.append_eq, List.cons_append, List.nil_append, Nat.reduceAdd, Nat.reduceMul, Nat.reduceSub, Nat.reduceLeDiff, Nat.reduceLT, Int.reduceAdd, Int.reduceToNat, Int.reduceLE, Int.reduceLT, Int.reduceNeg, reduceIte, postC, watchC, sll, e0, decide_true])
    | (intro _h)
    | (refine awp_block ?_)
    | (refine awp_scope ?_)
    | (refine go_split (fun _h => ?_) (fun _h => ?_) <;> simp (maxSteps := 4000000) only [go_sem, List.append_eq, List.cons_append, List.nil_append, Nat.reduceAdd, Nat.reduceMul, Nat.reduceSub, Nat.reduceLeDiff, Nat.reduceLT, Int.reduceAdd, Int.reduceToNat, Int.reduceLE, Int.reduceLT, Int.reduceNeg, reduceIte, postC, watchC, sll, e0, decide_true])
    | (show heapOK _ _ = true; kernel_rfl)
    | (omega)))
      all_goals first
        | (rw [hsu, recs_snoc]; rfl)
        | omega
        | (rcases Nat.lt_or_eq_of_le hk with h1 | rfl
           · have h2 := hal h1
             simp_all
           · first | rfl | (simp_all; done))
        | (rcases Nat.lt_or_eq_of_le hk with h1 | h1
           · exact h1
           · exfalso; have h2 := hno' h1; rw [h2] at *; simp_all)
        | (rcases Nat.lt_or_eq_of_le hk with h1 | h1
           · exfalso; have h2 := hal h1; simp_all
           · subst h1; rfl)
    · have e0 : ((k : Int) = 0) = False := eq_false (by omega)
      have e1 : decide (k = 0) = false := by simp [h0]
      rw [e1] at hnx
      (repeat' (first
    | (refine awp_ownN 4 rfl ?_; simp (maxSteps := 4000000) only [go_sem, List.append_eq, List.cons_append, List.nil_append, Nat.reduceAdd, Nat.reduceMul, Nat.reduceSub, Nat.reduceLeDiff, Nat.reduceLT, Int.reduceAdd, Int.reduceToNat, Int.reduceLE, Int.reduceLT, Int.reduceNeg, reduceIte, postC, watchC, sll, List.take_succ_cons, List.take_zero, e0, decide_false]; refine own_go (hnx) [3, 2] rfl (by simp (maxSteps := 4000000) only [go_sem, List.append_eq, List.cons_append, List.nil_append, Nat.reduceAdd, Nat.reduceMul, Nat.reduceSub, Nat.reduceLeDiff, Nat.reduceLT, Int.reduceAdd, Int.reduceToNat, Int.reduceLE, Int.reduceLT, Int.reduceNeg, reduceIte, postC, watchC, sll, e0, decide_false]) (by simp (maxSteps := 4000000) only [go_sem, List.append_eq, List.cons_append, List.nil_append, Nat.reduceAdd, Nat.reduceMul, Nat.reduceSub, Nat.reduceLeDiff, Nat.reduceLT, Int.reduceAdd, Int.reduceToNat, Int.reduceLE, Int.reduceLT, Int.reduceNeg, reduceIte, postC, watchC, sll, Nat.lt_irrefl, e0, decide_false] <;> decide) rfl ?_; simp (maxSteps := 4000000) only [go_sem, List.append_eq, List.cons_append, List.nil_append, Nat.reduceAdd, Nat.reduceMul, Nat.reduceSub, Nat.reduceLeDiff, Nat.reduceLT, Int.reduceAdd, Int.reduceToNat, Int.reduceLE, Int.reduceLT, Int.reduceNeg, reduceIte, postC, watchC, sll, e0, decide_false])
    | (refine awp_ownN 1 rfl ?_; simp (maxSteps := 4000000) only [go_sem, List.append_eq, List.cons_append, List.nil_append, Nat.reduceAdd, Nat.reduceMul, Nat.reduceSub, Nat.reduceLeDiff, Nat.reduceLT, Int.reduceAdd, Int.reduceToNat, Int.reduceLE, Int.reduceLT, Int.reduceNeg, reduceIte, postC, watchC, sll, List.take_succ_cons, List.take_zero, e0, decide_false]; refine own_go (hst) [3, 2] rfl (by simp (maxSteps := 4000000) only [go_sem, List.append_eq, List.cons_append, List.nil_append, Nat.reduceAdd, Nat.reduceMul, Nat.reduceSub, Nat.reduceLeDiff, Nat.reduceLT, Int.reduceAdd, Int.reduceToNat, Int.reduceLE, Int.reduceLT, Int.reduceNeg, reduceIte, postC, watchC, sll, e0, decide_false]) (by simp (maxSteps := 4000000) only [go_sem, List.append_eq, List.cons_append, List.nil_append, Nat.reduceAdd, Nat.reduceMul, Nat.reduceSub, Nat.reduceLeDiff, Nat.reduceLT, Int.reduceAdd, Int.reduceToNat, Int.reduceLE, Int.reduceLT, Int.reduceNeg, reduceIte, postC, watchC, sll, Nat.lt_irrefl, e0, decide_false] <;> decide) rfl ?_; simp (maxSteps := 4000000) only [go_sem, List.append_eq, List.cons_append, List.nil_append, Nat.reduceAdd, Nat.reduceMul, Nat.reduceSub, Nat.reduceLeDiff, Nat.reduceLT, Int.reduceAdd, Int.reduceToNat, Int.reduceLE, Int.reduceLT, Int.reduceNeg, reduceIte, postC, watchC, sll, e0, decide_false])
    | (refine awp_seqK ?_)
    | (refine kt ?_)
    | (refine And.intro ?_ ?_)
    | ((first | refine awp_region ?_ | refine awp_draw (by kernel_rfl) (by kernel_rfl) ?_ | refine Imp.le2 ?_ | refine awp_label ?_ | refine awp_skip ?_ | refine awp_exit ?_ | refine awp_cd ?_ | refine awp_ret ?_); simp (maxSteps := 4000000) only [go_sem, List.append_eq, List.cons_append, List.nil_append, Nat.reduceAdd, Nat.reduceMul, Nat.reduceSub, Nat.reduceLeDiff, Nat.reduceLT, Int.reduceAdd, Int.reduceToNat, Int.reduceLE, Int.reduceLT, Int.reduceNeg, reduceIte, postC, watchC, sll, e0, decide_false])
    | (intro _h)
    | (refine awp_block ?_)
    | (refine awp_scope ?_)
    | (refine go_split (fun _h => ?_) (fun _h => ?_) <;> simp (maxSteps := 4000000) only [go_sem, List.append_eq, List.cons_append, List.nil_append, Nat.reduceAdd, Nat.reduceMul, Nat.reduceSub, Nat.reduceLeDiff, Nat.reduceLT, Int.reduceAdd, Int.reduceToNat, Int.reduceLE, Int.reduceLT, Int.reduceNeg, reduceIte, postC, watchC, sll, e0, decide_false])
    | (show heapOK _ _ = true; kernel_rfl)
    | (omega)))
      all_goals first
        | (rw [hsu, recs_snoc]; rfl)
        | omega
        | (rcases Nat.lt_or_eq_of_le hk with h1 | rfl
           · have h2 := hal h1
             simp_all
           · first | rfl | (simp_all; done))
        | (rcases Nat.lt_or_eq_of_le hk with h1 | h1
           · exact h1
           · exfalso; have h2 := hno' h1; rw [h2] at *; simp_all)
        | (rcases Nat.lt_or_eq_of_le hk with h1 | h1
           · exfalso; have h2 := hal h1; simp_all
           · subst h1; rfl)
end Go.Am

/- Contracts of the alarm functions: levels, breaks, those that may have failed. -/
namespace Go.Am
open Go.RowKit Go.Proofs
attribute [local irreducible] AWP CallS Kt goK CallK stepK evOps SemF SemY
set_option maxRecDepth 4000
set_option linter.unusedSimpArgs false
set_option linter.unusedVariables false
set_option maxHeartbeats 1600000

theorem all_getD {l : List Int} {q : Int → Bool} (h : l.all q = true) (i : Nat) (hi : i < l.length) : q (l.getD i 0) = true := by
  rw [List.all_eq_true] at h
  have := h _ (List.getElem_mem hi)
  rwa [show l.getD i 0 = l[i] by simp [List.getD_eq_getElem?_getD, hi]]
theorem postB_ok {p : Post} (h : postB p = true) : PostOK p := by
  obtain ⟨h1, h2, h3, h4, h5, h6, h7⟩ := of_decide_eq_true h
  exact ⟨h1, fun i hi => of_decide_eq_true (all_getD h2 i hi), h3, h4, h5, h6, h7⟩
theorem faultP_zero {p : Post} {reads : List (List Int)} (h : faultP p reads = 0) : PostOK p ∧ ReadsOK p reads := by
  unfold faultP at h
  split at h
  · omega
  · rename_i h1
    split at h
    · omega
    · split at h
      · rename_i h2 h3
        refine ⟨postB_ok (by simpa using h1), by omega, fun i hi => ?_⟩
        rw [List.all_eq_true] at h3
        have := h3 _ (List.getElem_mem hi)
        rw [show reads.getD i [] = reads[i] by simp [List.getD_eq_getElem?_getD, hi]]
        simp only [rowB, Bool.and_eq_true, decide_eq_true_eq] at this
        exact ⟨this.1, fun j hj => of_decide_eq_true (all_getD this.2 j hj)⟩
      · omega
theorem faultP_cases (p : Post) (reads : List (List Int)) : faultP p reads = 0 ∨ faultP p reads = 1 ∨ faultP p reads = 2 ∨ faultP p reads = 3 := by
  unfold faultP
  split
  · simp
  · split
    · simp
    · split <;> simp
/-- The hour in which a post breaks. -/
def brk (p : Post) (reads : List (List Int)) : Option Nat := (List.range reads.length).find? fun k => (stAt p reads k).isNone
theorem brk_none {p : Post} {reads : List (List Int)} (h : brk p reads = none) : ∀ j, j < reads.length → (stAt p reads j).isSome = true := by
  intro j hj
  unfold brk at h
  rw [List.find?_eq_none] at h
  have := h j (by simpa using hj)
  cases hs : stAt p reads j with
  | none => simp [hs] at this
  | some x => rfl
theorem brk_some {p : Post} {reads : List (List Int)} {k : Nat} (h : brk p reads = some k) : k < reads.length ∧ stAt p reads k = none ∧ ∀ j, j < k → (stAt p reads j).isSome = true := by
  unfold brk at h
  rw [List.find?_range_eq_some] at h
  obtain ⟨h1, h2, h3⟩ := h
  refine ⟨by simpa using h2, by simpa using h1, fun j hj => ?_⟩
  have := h3 j hj
  cases hs : stAt p reads j with
  | none => simp [hs] at this
  | some x => rfl
def slSt (l : List (Int × Int × Int)) : AV := .psl false l.length (recs stC l)
/-- What Levels, Breaks, Failed hand back. -/
def levelsL (p : Post) (reads : List (List Int)) : List (Int × Int × Int) := if faultP p reads = 0 then (match brk p reads with | none => states p reads reads.length | some _ => []) else []
def levelsE (p : Post) (reads : List (List Int)) : Int := if faultP p reads = 0 then (match brk p reads with | none => 0 | some _ => 9) else faultP p reads
def breaksN (p : Post) (reads : List (List Int)) : Int := if faultP p reads = 0 then (match brk p reads with | none => 0 | some k => k) else 0
def breaksE (p : Post) (reads : List (List Int)) : Int := if faultP p reads = 0 then (match brk p reads with | none => 7 | some _ => 0) else faultP p reads
structure InB (p : Post) (reads : List (List Int)) : Prop where
  e : p.errs.length ≤ 9223372036854775807
  n : reads.length ≤ 9223372036854775807
  rows : ∀ i, i < reads.length → (reads.getD i []).length ≤ 9223372036854775807

theorem levels_c (p : Post) (reads : List (List Int)) (hb : InB p reads) : CallS Try.prog 27 [.agg (postC p), sll reads] (.tup [slSt (levelsL p reads), .int .i64 (levelsE p reads)]) := by
  have hch := check_c p reads hb.e hb.n hb.rows
  have hfc := faultP_cases p reads
  unfold levelsL levelsE slSt
  by_cases hf : faultP p reads = 0
  · rw [if_pos hf, if_pos hf]
    obtain ⟨hp, hr⟩ := faultP_zero hf
    rw [hf] at hch
    cases hbk : brk p reads with
    | none =>
      have hru := run_ok p reads hp hr (brk_none hbk)
      have hlen := states_length (p := p) (reads := reads) (k := reads.length)
      simp only [ruH, postC, sl, watchC, sll] at hru hch
      generalize states p reads reads.length = L at *
      (refine callS_of_awp (fun w args => Try.call27 ..) Try.func27 rfl (fun w0 m0 wz => ?_); simp only [Try.ntmps27, Try.results27, initT, junks, postC, watchC, sll, sl, List.toList_toArray, List.cons_append, List.nil_append, List.length_cons, List.length_nil, Nat.reduceAdd, Nat.reduceSub])
      (repeat' (first
    | (refine awp_ownN 2 rfl ?_; simp (maxSteps := 4000000) only [go_sem, List.append_eq, List.cons_append, List.nil_append, Nat.reduceAdd, Nat.reduceMul, Nat.reduceSub, Nat.reduceLeDiff, Nat.reduceLT, Int.reduceAdd, Int.reduceToNat, Int.reduceLE, Int.reduceLT, Int.reduceNeg, reduceIte, postC, watchC, sll, List.take_succ_cons, List.take_zero]; refine own_go (hru) [] rfl (by simp (maxSteps := 4000000) only [go_sem, List.append_eq, List.cons_append, List.nil_append, Nat.reduceAdd, Nat.reduceMul, Nat.reduceSub, Nat.reduceLeDiff, Nat.reduceLT, Int.reduceAdd, Int.reduceToNat, Int.reduceLE, Int.reduceLT, Int.reduceNeg, reduceIte, postC, watchC, sll]) (by simp (maxSteps := 4000000) only [go_sem, List.append_eq, List.cons_append, List.nil_append, Nat.reduceAdd, Nat.reduceMul, Nat.reduceSub, Nat.reduceLeDiff, Nat.reduceLT, Int.reduceAdd, Int.reduceToNat, Int.reduceLE, Int.reduceLT, Int.reduceNeg, reduceIte, postC, watchC, sll, Nat.lt_irrefl] <;> decide) rfl ?_; simp (maxSteps := 4000000) only [go_sem, List.append_eq, List.cons_append, List.nil_append, Nat.reduceAdd, Nat.reduceMul, Nat.reduceSub, Nat.reduceLeDiff, Nat.reduceLT, Int.reduceAdd, Int.reduceToNat, Int.reduceLE, Int.reduceLT, Int.reduceNeg, reduceIte, postC, watchC, sll])
    | (refine awp_seqK ?_)
    | (refine kt ?_)
    | (refine And.intro ?_ ?_)
    | ((first | refine awp_region ?_ | refine awp_draw (by kernel_rfl) (by kernel_rfl) ?_ | refine Imp.le2 ?_ | refine awp_label ?_ | refine awp_skip ?_ | refine awp_exit ?_ | refine awp_cd ?_ | refine awp_ret ?_); simp (maxSteps := 4000000) only [go_sem, List.append_eq, List.cons_append, List.nil_append, Nat.reduceAdd, Nat.reduceMul, Nat.reduceSub, Nat.reduceLeDiff, Nat.reduceLT, Int.reduceAdd, Int.reduceToNat, Int.reduceLE, Int.reduceLT, Int.reduceNeg, reduceIte, postC, watchC, sll])
    | (intro _h)
    | (refine awp_block ?_)
    | (refine awp_scope ?_)
    | ((first | refine callK_of (hch) ?_); try simp (maxSteps := 4000000) only [go_sem, List.append_eq, List.cons_append, List.nil_append, Nat.reduceAdd, Nat.reduceMul, Nat.reduceSub, Nat.reduceLeDiff, Nat.reduceLT, Int.reduceAdd, Int.reduceToNat, Int.reduceLE, Int.reduceLT, Int.reduceNeg, reduceIte, postC, watchC, sll])
    | (refine go_split (fun _h => ?_) (fun _h => ?_) <;> simp (maxSteps := 4000000) only [go_sem, List.append_eq, List.cons_append, List.nil_append, Nat.reduceAdd, Nat.reduceMul, Nat.reduceSub, Nat.reduceLeDiff, Nat.reduceLT, Int.reduceAdd, Int.reduceToNat, Int.reduceLE, Int.reduceLT, Int.reduceNeg, reduceIte, postC, watchC, sll])
    | (show heapOK _ _ = true; kernel_rfl)
    | (omega)))
      all_goals (simp only [recs_nil]; omega)
    | some k =>
      obtain ⟨b1, b2, b3⟩ := brk_some hbk
      have hru := run_broken p reads k hp hr b1 b2 b3
      simp only [ruH, postC, sl, watchC, sll] at hru hch
      (refine callS_of_awp (fun w args => Try.call27 ..) Try.func27 rfl (fun w0 m0 wz => ?_); simp only [Try.ntmps27, Try.results27, initT, junks, postC, watchC, sll, sl, List.toList_toArray, List.cons_append, List.nil_append, List.length_cons, List.length_nil, Nat.reduceAdd, Nat.reduceSub])
      (repeat' (first
    | (refine awp_ownN 2 rfl ?_; simp (maxSteps := 4000000) only [go_sem, List.append_eq, List.cons_append, List.nil_append, Nat.reduceAdd, Nat.reduceMul, Nat.reduceSub, Nat.reduceLeDiff, Nat.reduceLT, Int.reduceAdd, Int.reduceToNat, Int.reduceLE, Int.reduceLT, Int.reduceNeg, reduceIte, postC, watchC, sll, List.take_succ_cons, List.take_zero]; refine own_go (hru) [] rfl (by simp (maxSteps := 4000000) only [go_sem, List.append_eq, List.cons_append, List.nil_append, Nat.reduceAdd, Nat.reduceMul, Nat.reduceSub, Nat.reduceLeDiff, Nat.reduceLT, Int.reduceAdd, Int.reduceToNat, Int.reduceLE, Int.reduceLT, Int.reduceNeg, reduceIte, postC, watchC, sll]) (by simp (maxSteps := 4000000) only [go_sem, List.append_eq, List.cons_append, List.nil_append, Nat.reduceAdd, Nat.reduceMul, Nat.reduceSub, Nat.reduceLeDiff, Nat.reduceLT, Int.reduceAdd, Int.reduceToNat, Int.reduceLE, Int.reduceLT, Int.reduceNeg, reduceIte, postC, watchC, sll, Nat.lt_irrefl] <;> decide) rfl ?_; simp (maxSteps := 4000000) only [go_sem, List.append_eq, List.cons_append, List.nil_append, Nat.reduceAdd, Nat.reduceMul, Nat.reduceSub, Nat.reduceLeDiff, Nat.reduceLT, Int.reduceAdd, Int.reduceToNat, Int.reduceLE, Int.reduceLT, Int.reduceNeg, reduceIte, postC, watchC, sll])
    | (refine awp_seqK ?_)
    | (refine kt ?_)
    | (refine And.intro ?_ ?_)
    | ((first | refine awp_region ?_ | refine awp_draw (by kernel_rfl) (by kernel_rfl) ?_ | refine Imp.le2 ?_ | refine awp_label ?_ | refine awp_skip ?_ | refine awp_exit ?_ | refine awp_cd ?_ | refine awp_ret ?_); simp (maxSteps := 4000000) only [go_sem, List.append_eq, List.cons_append, List.nil_append, Nat.reduceAdd, Nat.reduceMul, Nat.reduceSub, Nat.reduceLeDiff, Nat.reduceLT, Int.reduceAdd, Int.reduceToNat, Int.reduceLE, Int.reduceLT, Int.reduceNeg, reduceIte, postC, watchC, sll])
    | (intro _h)
    | (refine awp_block ?_)
    | (refine awp_scope ?_)
    | ((first | refine callK_of (hch) ?_); try simp (maxSteps := 4000000) only [go_sem, List.append_eq, List.cons_append, List.nil_append, Nat.reduceAdd, Nat.reduceMul, Nat.reduceSub, Nat.reduceLeDiff, Nat.reduceLT, Int.reduceAdd, Int.reduceToNat, Int.reduceLE, Int.reduceLT, Int.reduceNeg, reduceIte, postC, watchC, sll])
    | (refine go_split (fun _h => ?_) (fun _h => ?_) <;> simp (maxSteps := 4000000) only [go_sem, List.append_eq, List.cons_append, List.nil_append, Nat.reduceAdd, Nat.reduceMul, Nat.reduceSub, Nat.reduceLeDiff, Nat.reduceLT, Int.reduceAdd, Int.reduceToNat, Int.reduceLE, Int.reduceLT, Int.reduceNeg, reduceIte, postC, watchC, sll])
    | (show heapOK _ _ = true; kernel_rfl)
    | (omega)))
      all_goals rfl
  · rw [if_neg hf, if_neg hf]
    simp only [ruH, postC, sl, watchC, sll] at hch
    generalize faultP p reads = e at *
    (refine callS_of_awp (fun w args => Try.call27 ..) Try.func27 rfl (fun w0 m0 wz => ?_); simp only [Try.ntmps27, Try.results27, initT, junks, postC, watchC, sll, sl, List.toList_toArray, List.cons_append, List.nil_append, List.length_cons, List.length_nil, Nat.reduceAdd, Nat.reduceSub])
    (repeat' (first
    | (refine awp_seqK ?_)
    | (refine kt ?_)
    | (refine And.intro ?_ ?_)
    | ((first | refine awp_region ?_ | refine awp_draw (by kernel_rfl) (by kernel_rfl) ?_ | refine Imp.le2 ?_ | refine awp_label ?_ | refine awp_skip ?_ | refine awp_exit ?_ | refine awp_cd ?_ | refine awp_ret ?_); simp (maxSteps := 4000000) only [go_sem, List.append_eq, List.cons_append, List.nil_append, Nat.reduceAdd, Nat.reduceMul, Nat.reduceSub, Nat.reduceLeDiff, Nat.reduceLT, Int.reduceAdd, Int.reduceToNat, Int.reduceLE, Int.reduceLT, Int.reduceNeg, reduceIte, postC, watchC, sll])
    | (intro _h)
    | (refine awp_block ?_)
    | (refine awp_scope ?_)
    | ((first | refine callK_of (hch) ?_); try simp (maxSteps := 4000000) only [go_sem, List.append_eq, List.cons_append, List.nil_append, Nat.reduceAdd, Nat.reduceMul, Nat.reduceSub, Nat.reduceLeDiff, Nat.reduceLT, Int.reduceAdd, Int.reduceToNat, Int.reduceLE, Int.reduceLT, Int.reduceNeg, reduceIte, postC, watchC, sll])
    | (refine go_split (fun _h => ?_) (fun _h => ?_) <;> simp (maxSteps := 4000000) only [go_sem, List.append_eq, List.cons_append, List.nil_append, Nat.reduceAdd, Nat.reduceMul, Nat.reduceSub, Nat.reduceLeDiff, Nat.reduceLT, Int.reduceAdd, Int.reduceToNat, Int.reduceLE, Int.reduceLT, Int.reduceNeg, reduceIte, postC, watchC, sll])
    | (show heapOK _ _ = true; kernel_rfl)
    | (omega)))
    all_goals rfl
theorem breaks_c (p : Post) (reads : List (List Int)) (hb : InB p reads) : CallS Try.prog 33 [.agg (postC p), sll reads] (.tup [.int .i64 (breaksN p reads), .int .i64 (breaksE p reads)]) := by
  have hch := check_c p reads hb.e hb.n hb.rows
  have hfc := faultP_cases p reads
  unfold breaksN breaksE
  by_cases hf : faultP p reads = 0
  · rw [if_pos hf, if_pos hf]
    obtain ⟨hp, hr⟩ := faultP_zero hf
    rw [hf] at hch
    cases hbk : brk p reads with
    | none =>
      have hru := run_ok p reads hp hr (brk_none hbk)
      simp only [ruH, postC, sl, watchC, sll] at hru hch
      (refine callS_of_awp (fun w args => Try.call33 ..) Try.func33 rfl (fun w0 m0 wz => ?_); simp only [Try.ntmps33, Try.results33, initT, junks, postC, watchC, sll, sl, List.toList_toArray, List.cons_append, List.nil_append, List.length_cons, List.length_nil, Nat.reduceAdd, Nat.reduceSub])
      (repeat' (first
    | (refine awp_ownN 2 rfl ?_; simp (maxSteps := 4000000) only [go_sem, List.append_eq, List.cons_append, List.nil_append, Nat.reduceAdd, Nat.reduceMul, Nat.reduceSub, Nat.reduceLeDiff, Nat.reduceLT, Int.reduceAdd, Int.reduceToNat, Int.reduceLE, Int.reduceLT, Int.reduceNeg, reduceIte, postC, watchC, sll, List.take_succ_cons, List.take_zero]; refine own_go (hru) [] rfl (by simp (maxSteps := 4000000) only [go_sem, List.append_eq, List.cons_append, List.nil_append, Nat.reduceAdd, Nat.reduceMul, Nat.reduceSub, Nat.reduceLeDiff, Nat.reduceLT, Int.reduceAdd, Int.reduceToNat, Int.reduceLE, Int.reduceLT, Int.reduceNeg, reduceIte, postC, watchC, sll]) (by simp (maxSteps := 4000000) only [go_sem, List.append_eq, List.cons_append, List.nil_append, Nat.reduceAdd, Nat.reduceMul, Nat.reduceSub, Nat.reduceLeDiff, Nat.reduceLT, Int.reduceAdd, Int.reduceToNat, Int.reduceLE, Int.reduceLT, Int.reduceNeg, reduceIte, postC, watchC, sll, Nat.lt_irrefl] <;> decide) rfl ?_; simp (maxSteps := 4000000) only [go_sem, List.append_eq, List.cons_append, List.nil_append, Nat.reduceAdd, Nat.reduceMul, Nat.reduceSub, Nat.reduceLeDiff, Nat.reduceLT, Int.reduceAdd, Int.reduceToNat, Int.reduceLE, Int.reduceLT, Int.reduceNeg, reduceIte, postC, watchC, sll])
    | (refine awp_seqK ?_)
    | (refine kt ?_)
    | (refine And.intro ?_ ?_)
    | ((first | refine awp_region ?_ | refine awp_draw (by kernel_rfl) (by kernel_rfl) ?_ | refine Imp.le2 ?_ | refine awp_label ?_ | refine awp_skip ?_ | refine awp_exit ?_ | refine awp_cd ?_ | refine awp_ret ?_); simp (maxSteps := 4000000) only [go_sem, List.append_eq, List.cons_append, List.nil_append, Nat.reduceAdd, Nat.reduceMul, Nat.reduceSub, Nat.reduceLeDiff, Nat.reduceLT, Int.reduceAdd, Int.reduceToNat, Int.reduceLE, Int.reduceLT, Int.reduceNeg, reduceIte, postC, watchC, sll])
    | (intro _h)
    | (refine awp_block ?_)
    | (refine awp_scope ?_)
    | ((first | refine callK_of (hch) ?_); try simp (maxSteps := 4000000) only [go_sem, List.append_eq, List.cons_append, List.nil_append, Nat.reduceAdd, Nat.reduceMul, Nat.reduceSub, Nat.reduceLeDiff, Nat.reduceLT, Int.reduceAdd, Int.reduceToNat, Int.reduceLE, Int.reduceLT, Int.reduceNeg, reduceIte, postC, watchC, sll])
    | (refine go_split (fun _h => ?_) (fun _h => ?_) <;> simp (maxSteps := 4000000) only [go_sem, List.append_eq, List.cons_append, List.nil_append, Nat.reduceAdd, Nat.reduceMul, Nat.reduceSub, Nat.reduceLeDiff, Nat.reduceLT, Int.reduceAdd, Int.reduceToNat, Int.reduceLE, Int.reduceLT, Int.reduceNeg, reduceIte, postC, watchC, sll])
    | (show heapOK _ _ = true; kernel_rfl)
    | (omega)))
    | some k =>
      obtain ⟨b1, b2, b3⟩ := brk_some hbk
      have hru := run_broken p reads k hp hr b1 b2 b3
      simp only [ruH, postC, sl, watchC, sll] at hru hch
      (refine callS_of_awp (fun w args => Try.call33 ..) Try.func33 rfl (fun w0 m0 wz => ?_); simp only [Try.ntmps33, Try.results33, initT, junks, postC, watchC, sll, sl, List.toList_toArray, List.cons_append, List.nil_append, List.length_cons, List.length_nil, Nat.reduceAdd, Nat.reduceSub])
      (repeat' (first
    | (refine awp_ownN 2 rfl ?_; simp (maxSteps := 4000000) only [go_sem, List.append_eq, List.cons_append, List.nil_append, Nat.reduceAdd, Nat.reduceMul, Nat.reduceSub, Nat.reduceLeDiff, Nat.reduceLT, Int.reduceAdd, Int.reduceToNat, Int.reduceLE, Int.reduceLT, Int.reduceNeg, reduceIte, postC, watchC, sll, List.take_succ_cons, List.take_zero]; refine own_go (hru) [] rfl (by simp (maxSteps := 4000000) only [go_sem, List.append_eq, List.cons_append, List.nil_append, Nat.reduceAdd, Nat.reduceMul, Nat.reduceSub, Nat.reduceLeDiff, Nat.reduceLT, Int.reduceAdd, Int.reduceToNat, Int.reduceLE, Int.reduceLT, Int.reduceNeg, reduceIte, postC, watchC, sll]) (by simp (maxSteps := 4000000) only [go_sem, List.append_eq, List.cons_append, List.nil_append, Nat.reduceAdd, Nat.reduceMul, Nat.reduceSub, Nat.reduceLeDiff, Nat.reduceLT, Int.reduceAdd, Int.reduceToNat, Int.reduceLE, Int.reduceLT, Int.reduceNeg, reduceIte, postC, watchC, sll, Nat.lt_irrefl] <;> decide) rfl ?_; simp (maxSteps := 4000000) only [go_sem, List.append_eq, List.cons_append, List.nil_append, Nat.reduceAdd, Nat.reduceMul, Nat.reduceSub, Nat.reduceLeDiff, Nat.reduceLT, Int.reduceAdd, Int.reduceToNat, Int.reduceLE, Int.reduceLT, Int.reduceNeg, reduceIte, postC, watchC, sll])
    | (refine awp_seqK ?_)
    | (refine kt ?_)
    | (refine And.intro ?_ ?_)
    | ((first | refine awp_region ?_ | refine awp_draw (by kernel_rfl) (by kernel_rfl) ?_ | refine Imp.le2 ?_ | refine awp_label ?_ | refine awp_skip ?_ | refine awp_exit ?_ | refine awp_cd ?_ | refine awp_ret ?_); simp (maxSteps := 4000000) only [go_sem, List.append_eq, List.cons_append, List.nil_append, Nat.reduceAdd, Nat.reduceMul, Nat.reduceSub, Nat.reduceLeDiff, Nat.reduceLT, Int.reduceAdd, Int.reduceToNat, Int.reduceLE, Int.reduceLT, Int.reduceNeg, reduceIte, postC, watchC, sll])
    | (intro _h)
    | (refine awp_block ?_)
    | (refine awp_scope ?_)
    | ((first | refine callK_of (hch) ?_); try simp (maxSteps := 4000000) only [go_sem, List.append_eq, List.cons_append, List.nil_append, Nat.reduceAdd, Nat.reduceMul, Nat.reduceSub, Nat.reduceLeDiff, Nat.reduceLT, Int.reduceAdd, Int.reduceToNat, Int.reduceLE, Int.reduceLT, Int.reduceNeg, reduceIte, postC, watchC, sll])
    | (refine go_split (fun _h => ?_) (fun _h => ?_) <;> simp (maxSteps := 4000000) only [go_sem, List.append_eq, List.cons_append, List.nil_append, Nat.reduceAdd, Nat.reduceMul, Nat.reduceSub, Nat.reduceLeDiff, Nat.reduceLT, Int.reduceAdd, Int.reduceToNat, Int.reduceLE, Int.reduceLT, Int.reduceNeg, reduceIte, postC, watchC, sll])
    | (show heapOK _ _ = true; kernel_rfl)
    | (omega)))
  · rw [if_neg hf, if_neg hf]
    simp only [ruH, postC, sl, watchC, sll] at hch
    generalize faultP p reads = e at *
    (refine callS_of_awp (fun w args => Try.call33 ..) Try.func33 rfl (fun w0 m0 wz => ?_); simp only [Try.ntmps33, Try.results33, initT, junks, postC, watchC, sll, sl, List.toList_toArray, List.cons_append, List.nil_append, List.length_cons, List.length_nil, Nat.reduceAdd, Nat.reduceSub])
    (repeat' (first
    | (refine awp_seqK ?_)
    | (refine kt ?_)
    | (refine And.intro ?_ ?_)
    | ((first | refine awp_region ?_ | refine awp_draw (by kernel_rfl) (by kernel_rfl) ?_ | refine Imp.le2 ?_ | refine awp_label ?_ | refine awp_skip ?_ | refine awp_exit ?_ | refine awp_cd ?_ | refine awp_ret ?_); simp (maxSteps := 4000000) only [go_sem, List.append_eq, List.cons_append, List.nil_append, Nat.reduceAdd, Nat.reduceMul, Nat.reduceSub, Nat.reduceLeDiff, Nat.reduceLT, Int.reduceAdd, Int.reduceToNat, Int.reduceLE, Int.reduceLT, Int.reduceNeg, reduceIte, postC, watchC, sll])
    | (intro _h)
    | (refine awp_block ?_)
    | (refine awp_scope ?_)
    | ((first | refine callK_of (hch) ?_); try simp (maxSteps := 4000000) only [go_sem, List.append_eq, List.cons_append, List.nil_append, Nat.reduceAdd, Nat.reduceMul, Nat.reduceSub, Nat.reduceLeDiff, Nat.reduceLT, Int.reduceAdd, Int.reduceToNat, Int.reduceLE, Int.reduceLT, Int.reduceNeg, reduceIte, postC, watchC, sll])
    | (refine go_split (fun _h => ?_) (fun _h => ?_) <;> simp (maxSteps := 4000000) only [go_sem, List.append_eq, List.cons_append, List.nil_append, Nat.reduceAdd, Nat.reduceMul, Nat.reduceSub, Nat.reduceLeDiff, Nat.reduceLT, Int.reduceAdd, Int.reduceToNat, Int.reduceLE, Int.reduceLT, Int.reduceNeg, reduceIte, postC, watchC, sll])
    | (show heapOK _ _ = true; kernel_rfl)
    | (omega)))
end Go.Am

/- What the arguments of the alarm laws can be read as: posts, rows of reads, words. -/
namespace Go.Am
open Go.RowKit Go.Proofs
theorem rd46 : Reads Try.prog 46 6 postC (fun p => p.errs.length ≤ 9223372036854775807) :=
  (reads_struct Try.underlying46 (by kernel_rfl) (readsF_cons rfl rd22 (readsF_cons rfl rd3 (readsF_cons rfl rd3 (readsF_cons rfl rd3 (readsF_cons rfl rd3 (readsF_cons rfl rd3 readsF_nil))))))).conv (fun p => ⟨p.1, p.2.1, p.2.2.1, p.2.2.2.1, p.2.2.2.2.1, p.2.2.2.2.2.1⟩) _ _ (fun _ => rfl) (fun _ => rfl) (fun _ h => h.1.1)
def rowsOK (l : List (List Int)) : Prop := l.length ≤ 9223372036854775807 ∧ ∀ i, i < l.length → (l.getD i []).length ≤ 9223372036854775807
theorem rd47 : Reads Try.prog 47 1 (fun l : List (List Int) => [sll l]) rowsOK :=
  (reads_slice Try.underlying47 (by kernel_rfl) (by omega) rd22).conv id _ _ (fun _ => rfl) (fun l => by simp only [sll, rowsC, id]; congr 2; induction l with | nil => rfl | cons a l ih => simp_all) (fun l h => ⟨h.1, fun i hi => by
    rw [show (id l).getD i [] = l[i] by simp [List.getD_eq_getElem?_getD, show i < l.length from hi]]
    exact (h.2 _ (List.getElem_mem hi)).1⟩)
theorem rd49 : Reads Try.prog 49 1 (fun l : List Int => [.psl false l.length (l.map (.int .u16))]) (fun l => l.length ≤ 9223372036854775807 ∧ ∀ a ∈ l, okI .u16 a) :=
  (reads_slice Try.underlying49 (by kernel_rfl) (by omega) rd48).conv id _ _ (fun _ => rfl) (fun l => by simp only [id]; congr 2; induction l with | nil => rfl | cons a l ih => simp_all) (fun _ h => h)
theorem rd5 : Reads Try.prog 5 1 (fun n : Int => [.int .u8 n]) (okI .u8) := reads_int Try.underlying5 (by kernel_rfl)
theorem rd80 : Reads Try.prog 80 1 (fun n : Int => [.int .i8 n]) (okI .i8) := reads_int Try.underlying80 (by kernel_rfl)
theorem okI_u8 {n : Int} (h : okI .u8 n) : 0 ≤ n ∧ n ≤ 255 := by
  unfold okI at h
  simpa [Lit.wf, IntKind.has, IntKind.min, IntKind.max, IntKind.signed, IntKind.bits] using h
theorem okI_i8 {n : Int} (h : okI .i8 n) : -128 ≤ n ∧ n ≤ 127 := by
  unfold okI at h
  simpa [Lit.wf, IntKind.has, IntKind.min, IntKind.max, IntKind.signed, IntKind.bits] using h
theorem okI_i64 {n : Int} (h : okI .i64 n) : -9223372036854775808 ≤ n ∧ n ≤ 9223372036854775807 := by
  unfold okI at h
  simpa [Lit.wf, IntKind.has, IntKind.min, IntKind.max, IntKind.signed, IntKind.bits] using h
theorem inB_of {p : Post} {reads : List (List Int)} (h : p.errs.length ≤ 9223372036854775807) (h' : rowsOK reads) : InB p reads := ⟨h, h'.1, h'.2⟩
end Go.Am

/- Contracts of the alarm functions: those that may have failed. -/
namespace Go.Am
open Go.RowKit Go.Proofs
attribute [local irreducible] AWP CallS Kt goK CallK stepK evOps SemF SemY
set_option maxRecDepth 4000
set_option linter.unusedSimpArgs false
set_option linter.unusedVariables false
set_option maxHeartbeats 1600000

/-- The gauges that may have failed. -/
def flist (g : Int → Option (Int × Int)) : Nat → List Int
  | 0 => []
  | i + 1 => match g ((i : Int) - 1) with | none => flist g i | some _ => flist g i ++ [(i : Int) - 1]
theorem flist_le {g : Int → Option (Int × Int)} : ∀ i, (flist g i).length ≤ i
  | 0 => by simp [flist]
  | i + 1 => by
    have := flist_le (g := g) i
    simp only [flist]
    split <;> simp <;> omega
def failedL (p : Post) (reads : List (List Int)) : List Int := if faultP p reads = 0 then (match brk p reads with | none => flist (gAt p reads reads.length) (p.errs.length + 1) | some _ => []) else []
def faH (p : Post) (g : Int → Option (Int × Int)) (i : Nat) : List (Option ABlk) :=
  [none, some (.cells 22 1 0 [.osl 8 (flist g i).length 0 (flist g i).length]), none, none, some (.map (mpC (canon p.errs.length g))), some (.cells 142 1 0 (watchC p 4)), none, some (.cells 115 1 0 [.ptr 5 0 0]), some (.cells 3 1 (flist g i).length (ints (flist g i)))]
def faT : List AV := mkT 35 [(4, .ptr 1 0 0), (5, .int .i64 0), (27, .fn (.func 87) [] [.ptr 7 0 0])]
theorem failed_c (p : Post) (reads : List (List Int)) (hb : InB p reads) : CallS Try.prog 29 [.agg (postC p), sll reads] (.tup [sl (failedL p reads), .int .i64 (levelsE p reads)]) := by
  have hch := check_c p reads hb.e hb.n hb.rows
  have hfc := faultP_cases p reads
  unfold failedL levelsE
  by_cases hf : faultP p reads = 0
  · rw [if_pos hf, if_pos hf]
    obtain ⟨hp, hr⟩ := faultP_zero hf
    obtain ⟨hl1, hl2⟩ := hp.len
    rw [hf] at hch
    cases hbk : brk p reads with
    | none =>
      have hru := run_ok p reads hp hr (brk_none hbk)
      have hfa := failing_c p (canon p.errs.length (gAt p reads reads.length))
      simp only [ruH, postC, sl, watchC, sll] at hru hch hfa
      generalize gAt p reads reads.length = g at *
      (refine callS_of_awp (fun w args => Try.call29 ..) Try.func29 rfl (fun w0 m0 wz => ?_); simp only [Try.ntmps29, Try.results29, initT, junks, postC, watchC, sll, sl, List.toList_toArray, List.cons_append, List.nil_append, List.length_cons, List.length_nil, Nat.reduceAdd, Nat.reduceSub])
      (repeat' (first
    | (refine awp_ownN 2 rfl ?_; simp (maxSteps := 4000000) only [go_sem, List.append_eq, List.cons_append, List.nil_append, Nat.reduceAdd, Nat.reduceMul, Nat.reduceSub, Nat.reduceLeDiff, Nat.reduceLT, Int.reduceAdd, Int.reduceToNat, Int.reduceLE, Int.reduceLT, Int.reduceNeg, reduceIte, postC, watchC, sll, List.take_succ_cons, List.take_zero]; refine own_go (hru) [] rfl (by simp (maxSteps := 4000000) only [go_sem, List.append_eq, List.cons_append, List.nil_append, Nat.reduceAdd, Nat.reduceMul, Nat.reduceSub, Nat.reduceLeDiff, Nat.reduceLT, Int.reduceAdd, Int.reduceToNat, Int.reduceLE, Int.reduceLT, Int.reduceNeg, reduceIte, postC, watchC, sll]) (by simp (maxSteps := 4000000) only [go_sem, List.append_eq, List.cons_append, List.nil_append, Nat.reduceAdd, Nat.reduceMul, Nat.reduceSub, Nat.reduceLeDiff, Nat.reduceLT, Int.reduceAdd, Int.reduceToNat, Int.reduceLE, Int.reduceLT, Int.reduceNeg, reduceIte, postC, watchC, sll, Nat.lt_irrefl] <;> decide) rfl ?_; simp (maxSteps := 4000000) only [go_sem, List.append_eq, List.cons_append, List.nil_append, Nat.reduceAdd, Nat.reduceMul, Nat.reduceSub, Nat.reduceLeDiff, Nat.reduceLT, Int.reduceAdd, Int.reduceToNat, Int.reduceLE, Int.reduceLT, Int.reduceNeg, reduceIte, postC, watchC, sll])
    | (refine awp_ownN 1 rfl ?_; simp (maxSteps := 4000000) only [go_sem, List.append_eq, List.cons_append, List.nil_append, Nat.reduceAdd, Nat.reduceMul, Nat.reduceSub, Nat.reduceLeDiff, Nat.reduceLT, Int.reduceAdd, Int.reduceToNat, Int.reduceLE, Int.reduceLT, Int.reduceNeg, reduceIte, postC, watchC, sll, List.take_succ_cons, List.take_zero]; refine own_go (hfa) [5, 4] rfl (by simp (maxSteps := 4000000) only [go_sem, List.append_eq, List.cons_append, List.nil_append, Nat.reduceAdd, Nat.reduceMul, Nat.reduceSub, Nat.reduceLeDiff, Nat.reduceLT, Int.reduceAdd, Int.reduceToNat, Int.reduceLE, Int.reduceLT, Int.reduceNeg, reduceIte, postC, watchC, sll]) (by simp (maxSteps := 4000000) only [go_sem, List.append_eq, List.cons_append, List.nil_append, Nat.reduceAdd, Nat.reduceMul, Nat.reduceSub, Nat.reduceLeDiff, Nat.reduceLT, Int.reduceAdd, Int.reduceToNat, Int.reduceLE, Int.reduceLT, Int.reduceNeg, reduceIte, postC, watchC, sll, Nat.lt_irrefl] <;> decide) rfl ?_; simp (maxSteps := 4000000) only [go_sem, List.append_eq, List.cons_append, List.nil_append, Nat.reduceAdd, Nat.reduceMul, Nat.reduceSub, Nat.reduceLeDiff, Nat.reduceLT, Int.reduceAdd, Int.reduceToNat, Int.reduceLE, Int.reduceLT, Int.reduceNeg, reduceIte, postC, watchC, sll])
    | (refine awp_seqK ?_)
    | (refine kt ?_)
    | (refine And.intro ?_ ?_)
    | ((first | refine awp_region ?_ | refine awp_draw (by kernel_rfl) (by kernel_rfl) ?_ | refine Imp.le2 ?_ | refine awp_label ?_ | refine awp_skip ?_ | refine awp_exit ?_ | refine awp_cd ?_ | refine awp_ret ?_); simp (maxSteps := 4000000) only [go_sem, List.append_eq, List.cons_append, List.nil_append, Nat.reduceAdd, Nat.reduceMul, Nat.reduceSub, Nat.reduceLeDiff, Nat.reduceLT, Int.reduceAdd, Int.reduceToNat, Int.reduceLE, Int.reduceLT, Int.reduceNeg, reduceIte, postC, watchC, sll])
    | (intro _h)
    | (refine awp_block ?_)
    | (refine awp_scope ?_)
    | ((first | refine callK_of (hch) ?_); try simp (maxSteps := 4000000) only [go_sem, List.append_eq, List.cons_append, List.nil_append, Nat.reduceAdd, Nat.reduceMul, Nat.reduceSub, Nat.reduceLeDiff, Nat.reduceLT, Int.reduceAdd, Int.reduceToNat, Int.reduceLE, Int.reduceLT, Int.reduceNeg, reduceIte, postC, watchC, sll])
    | (refine go_split (fun _h => ?_) (fun _h => ?_) <;> simp (maxSteps := 4000000) only [go_sem, List.append_eq, List.cons_append, List.nil_append, Nat.reduceAdd, Nat.reduceMul, Nat.reduceSub, Nat.reduceLeDiff, Nat.reduceLT, Int.reduceAdd, Int.reduceToNat, Int.reduceLE, Int.reduceLT, Int.reduceNeg, reduceIte, postC, watchC, sll])
    | (show heapOK _ _ = true; kernel_rfl)
    | (omega)))
      refine awp_adH 1 0 3 1 rfl rfl ?_
      refine AWP.le2 (s' := ⟨faT, faH p g 0, []⟩) (by simp only [faT, faH, flist, adH, postC, watchC]; simp (maxSteps := 4000000) only [go_sem, List.append_eq, List.cons_append, List.nil_append, Nat.reduceAdd, Nat.reduceMul, Nat.reduceSub, Nat.reduceLeDiff, Nat.reduceLT, Int.reduceAdd, Int.reduceToNat, Int.reduceLE, Int.reduceLT, Int.reduceNeg, reduceIte, postC, watchC, sll]) ?_
      refine awp_rangeZ (gf := 87) (first := []) (caps := [.ptr 7 0 0]) (by simp only [faT]; simp (maxSteps := 4000000) only [go_sem, List.append_eq, List.cons_append, List.nil_append, Nat.reduceAdd, Nat.reduceMul, Nat.reduceSub, Nat.reduceLeDiff, Nat.reduceLT, Int.reduceAdd, Int.reduceToNat, Int.reduceLE, Int.reduceLT, Int.reduceNeg, reduceIte, postC, watchC, sll]) 9 rfl ?_
      intro ca cb hca hcb
      refine ⟨.tup [], faH p g (p.errs.length + 1) ++ [some (.dfr true), some (.loop .ready none 0 faT #[28, 29] ca cb 9)], .ready, none, .normal, ?_, ?_, by simp, rfl, ?_⟩
      · simp only [faH, faT, postC, watchC]
        simp (maxSteps := 4000000) only [go_sem, List.append_eq, List.cons_append, List.nil_append, Nat.reduceAdd, Nat.reduceMul, Nat.reduceSub, Nat.reduceLeDiff, Nat.reduceLT, Int.reduceAdd, Int.reduceToNat, Int.reduceLE, Int.reduceLT, Int.reduceNeg, reduceIte, postC, watchC, sll]
        (refine semF_of_awp (ys := []) (fun w args => Try.call87 ..) Try.func87 rfl (fun w0 m0 wz => ?_); simp only [Try.ntmps87, Try.results87, initT, junks, postC, watchC, sll, sl, List.toList_toArray, List.cons_append, List.nil_append, List.length_cons, List.length_nil, Nat.reduceAdd, Nat.reduceSub])
        (repeat' (first
    | (refine awp_seqK ?_)
    | (refine kt ?_)
    | (refine And.intro ?_ ?_)
    | ((first | refine awp_region ?_ | refine awp_draw (by kernel_rfl) (by kernel_rfl) ?_ | refine Imp.le2 ?_ | refine awp_label ?_ | refine awp_skip ?_ | refine awp_exit ?_ | refine awp_cd ?_ | refine awp_ret ?_); simp (maxSteps := 4000000) only [go_sem, List.append_eq, List.cons_append, List.nil_append, Nat.reduceAdd, Nat.reduceMul, Nat.reduceSub, Nat.reduceLeDiff, Nat.reduceLT, Int.reduceAdd, Int.reduceToNat, Int.reduceLE, Int.reduceLT, Int.reduceNeg, reduceIte, postC, watchC, sll])
    | (intro _h)
    | (refine awp_block ?_)
    | (refine awp_scope ?_)
    | (refine go_split (fun _h => ?_) (fun _h => ?_) <;> simp (maxSteps := 4000000) only [go_sem, List.append_eq, List.cons_append, List.nil_append, Nat.reduceAdd, Nat.reduceMul, Nat.reduceSub, Nat.reduceLeDiff, Nat.reduceLT, Int.reduceAdd, Int.reduceToNat, Int.reduceLE, Int.reduceLT, Int.reduceNeg, reduceIte, postC, watchC, sll])
    | (show heapOK _ _ = true; kernel_rfl)
    | (omega)))
        refine awp_loopN (p.errs.length + 1) (fun i => ⟨mkT 33 [(0, .fn (.yield 10) [] []), (1, .ptr 7 0 0), (3, .int .i64 ((i : Int) - 1))], faH p g i ++ [some (.dfr true), some (.loop .ready none 0 faT #[28, 29] ca cb 9)], []⟩) (.le2 ?_) ?_
        · simp only [faH, faT, postC, watchC]; simp (maxSteps := 4000000) only [go_sem, List.append_eq, List.cons_append, List.nil_append, Nat.reduceAdd, Nat.reduceMul, Nat.reduceSub, Nat.reduceLeDiff, Nat.reduceLT, Int.reduceAdd, Int.reduceToNat, Int.reduceLE, Int.reduceLT, Int.reduceNeg, reduceIte, postC, watchC, sll]
          rfl
        · intro i hi
          have hgi := canon_get (n := p.errs.length) (g := g) (j := (i : Int) - 1) (by omega)
          have hfl := flist_le (g := g) i
          cases hx : g ((i : Int) - 1) with
          | none =>
            simp only [faH, faT, postC, watchC]; simp (maxSteps := 4000000) only [go_sem, List.append_eq, List.cons_append, List.nil_append, Nat.reduceAdd, Nat.reduceMul, Nat.reduceSub, Nat.reduceLeDiff, Nat.reduceLT, Int.reduceAdd, Int.reduceToNat, Int.reduceLE, Int.reduceLT, Int.reduceNeg, reduceIte, postC, watchC, sll]
            (repeat' (first
    | ((rw [mget_none ((hgi (by omega)).trans hx)]; simp (maxSteps := 4000000) only [go_sem, List.append_eq, List.cons_append, List.nil_append, Nat.reduceAdd, Nat.reduceMul, Nat.reduceSub, Nat.reduceLeDiff, Nat.reduceLT, Int.reduceAdd, Int.reduceToNat, Int.reduceLE, Int.reduceLT, Int.reduceNeg, reduceIte, postC, watchC, sll]))
    | ((show zeroOK _ = true; rfl))
    | (refine awp_seqK ?_)
    | (refine kt ?_)
    | (refine And.intro ?_ ?_)
    | ((first | refine awp_region ?_ | refine awp_draw (by kernel_rfl) (by kernel_rfl) ?_ | refine Imp.le2 ?_ | refine awp_label ?_ | refine awp_skip ?_ | refine awp_exit ?_ | refine awp_cd ?_ | refine awp_ret ?_); simp (maxSteps := 4000000) only [go_sem, List.append_eq, List.cons_append, List.nil_append, Nat.reduceAdd, Nat.reduceMul, Nat.reduceSub, Nat.reduceLeDiff, Nat.reduceLT, Int.reduceAdd, Int.reduceToNat, Int.reduceLE, Int.reduceLT, Int.reduceNeg, reduceIte, postC, watchC, sll])
    | (intro _h)
    | (refine awp_block ?_)
    | (refine awp_scope ?_)
    | (refine go_split (fun _h => ?_) (fun _h => ?_) <;> simp (maxSteps := 4000000) only [go_sem, List.append_eq, List.cons_append, List.nil_append, Nat.reduceAdd, Nat.reduceMul, Nat.reduceSub, Nat.reduceLeDiff, Nat.reduceLT, Int.reduceAdd, Int.reduceToNat, Int.reduceLE, Int.reduceLT, Int.reduceNeg, reduceIte, postC, watchC, sll])
    | (show heapOK _ _ = true; kernel_rfl)
    | (omega)))
            all_goals first
              | (simp only [flist, hx]; done)
              | (simp only [flist, hx]; exact ⟨rfl, rfl⟩)
              | (have e : i = p.errs.length + 1 := by omega
                 subst e; first | rfl | exact ⟨rfl, rfl⟩)
          | some x =>
            have hfs : flist g (i + 1) = flist g i ++ [(i : Int) - 1] := by simp only [flist, hx]
            simp only [faH, faT, postC, watchC]; simp (maxSteps := 4000000) only [go_sem, List.append_eq, List.cons_append, List.nil_append, Nat.reduceAdd, Nat.reduceMul, Nat.reduceSub, Nat.reduceLeDiff, Nat.reduceLT, Int.reduceAdd, Int.reduceToNat, Int.reduceLE, Int.reduceLT, Int.reduceNeg, reduceIte, postC, watchC, sll]
            (repeat' (first
    | ((rw [mget_some ((hgi (by omega)).trans hx)]; simp (maxSteps := 4000000) only [go_sem, List.append_eq, List.cons_append, List.nil_append, Nat.reduceAdd, Nat.reduceMul, Nat.reduceSub, Nat.reduceLeDiff, Nat.reduceLT, Int.reduceAdd, Int.reduceToNat, Int.reduceLE, Int.reduceLT, Int.reduceNeg, reduceIte, postC, watchC, sll]))
    | ((show zeroOK _ = true; rfl))
    | ((refine awp_ownN 5 rfl ?_; simp (maxSteps := 4000000) only [go_sem, List.append_eq, List.cons_append, List.nil_append, Nat.reduceAdd, Nat.reduceMul, Nat.reduceSub, Nat.reduceLeDiff, Nat.reduceLT, Int.reduceAdd, Int.reduceToNat, Int.reduceLE, Int.reduceLT, Int.reduceNeg, reduceIte, postC, watchC, sll, List.take_succ_cons, List.take_zero]; refine callH_yield true (faH p g (i + 1) ++ [some (.dfr true), some (.loop .ready none 0 faT #[28, 29] ca cb 9), some (.cells 122 1 0 [.int .i64 x.1, .int .i64 x.2])]) ?_ ?_ <;> simp only [faH, faT, postC, watchC] <;> (try simp (maxSteps := 4000000) only [go_sem, List.append_eq, List.cons_append, List.nil_append, Nat.reduceAdd, Nat.reduceMul, Nat.reduceSub, Nat.reduceLeDiff, Nat.reduceLT, Int.reduceAdd, Int.reduceToNat, Int.reduceLE, Int.reduceLT, Int.reduceNeg, reduceIte, postC, watchC, sll])))
    | (refine awp_seqK ?_)
    | (refine kt ?_)
    | (refine And.intro ?_ ?_)
    | ((first | refine awp_region ?_ | refine awp_draw (by kernel_rfl) (by kernel_rfl) ?_ | refine Imp.le2 ?_ | refine awp_label ?_ | refine awp_skip ?_ | refine awp_exit ?_ | refine awp_cd ?_ | refine awp_ret ?_); simp (maxSteps := 4000000) only [go_sem, List.append_eq, List.cons_append, List.nil_append, Nat.reduceAdd, Nat.reduceMul, Nat.reduceSub, Nat.reduceLeDiff, Nat.reduceLT, Int.reduceAdd, Int.reduceToNat, Int.reduceLE, Int.reduceLT, Int.reduceNeg, reduceIte, postC, watchC, sll])
    | (intro _h)
    | (refine awp_block ?_)
    | (refine awp_scope ?_)
    | (refine go_split (fun _h => ?_) (fun _h => ?_) <;> simp (maxSteps := 4000000) only [go_sem, List.append_eq, List.cons_append, List.nil_append, Nat.reduceAdd, Nat.reduceMul, Nat.reduceSub, Nat.reduceLeDiff, Nat.reduceLT, Int.reduceAdd, Int.reduceToNat, Int.reduceLE, Int.reduceLT, Int.reduceNeg, reduceIte, postC, watchC, sll])
    | (show heapOK _ _ = true; kernel_rfl)
    | (omega)))
            · rw [hfs]
              generalize flist g i = fl at *
              refine semY_of_awpZ rfl rfl ?_
              intro B w0 l m w
              refine awp_code hca ?_
              (repeat' (first
    | (refine awp_seqK ?_)
    | (refine kt ?_)
    | (refine And.intro ?_ ?_)
    | ((first | refine awp_region ?_ | refine awp_draw (by kernel_rfl) (by kernel_rfl) ?_ | refine Imp.le2 ?_ | refine awp_label ?_ | refine awp_skip ?_ | refine awp_exit ?_ | refine awp_cd ?_ | refine awp_ret ?_); simp (maxSteps := 4000000) only [go_sem, List.append_eq, List.cons_append, List.nil_append, Nat.reduceAdd, Nat.reduceMul, Nat.reduceSub, Nat.reduceLeDiff, Nat.reduceLT, Int.reduceAdd, Int.reduceToNat, Int.reduceLE, Int.reduceLT, Int.reduceNeg, reduceIte, postC, watchC, sll])
    | (intro _h)
    | (refine awp_block ?_)
    | (refine awp_scope ?_)
    | (refine go_split (fun _h => ?_) (fun _h => ?_) <;> simp (maxSteps := 4000000) only [go_sem, List.append_eq, List.cons_append, List.nil_append, Nat.reduceAdd, Nat.reduceMul, Nat.reduceSub, Nat.reduceLeDiff, Nat.reduceLT, Int.reduceAdd, Int.reduceToNat, Int.reduceLE, Int.reduceLT, Int.reduceNeg, reduceIte, postC, watchC, sll])
    | (show heapOK _ _ = true; kernel_rfl)
    | (omega)))
              refine awp_code hcb ?_
              (repeat' (first
    | (refine awp_seqK ?_)
    | (refine kt ?_)
    | (refine And.intro ?_ ?_)
    | ((first | refine awp_region ?_ | refine awp_draw (by kernel_rfl) (by kernel_rfl) ?_ | refine Imp.le2 ?_ | refine awp_label ?_ | refine awp_skip ?_ | refine awp_exit ?_ | refine awp_cd ?_ | refine awp_ret ?_); simp (maxSteps := 4000000) only [go_sem, List.append_eq, List.cons_append, List.nil_append, Nat.reduceAdd, Nat.reduceMul, Nat.reduceSub, Nat.reduceLeDiff, Nat.reduceLT, Int.reduceAdd, Int.reduceToNat, Int.reduceLE, Int.reduceLT, Int.reduceNeg, reduceIte, postC, watchC, sll])
    | (intro _h)
    | (refine awp_block ?_)
    | (refine awp_scope ?_)
    | (refine go_split (fun _h => ?_) (fun _h => ?_) <;> simp (maxSteps := 4000000) only [go_sem, List.append_eq, List.cons_append, List.nil_append, Nat.reduceAdd, Nat.reduceMul, Nat.reduceSub, Nat.reduceLeDiff, Nat.reduceLT, Int.reduceAdd, Int.reduceToNat, Int.reduceLE, Int.reduceLT, Int.reduceNeg, reduceIte, postC, watchC, sll])
    | (show heapOK _ _ = true; kernel_rfl)
    | (omega)))
              all_goals (simp [ints_append, ints_cons, ints_nil])
            all_goals
              (have e : i = p.errs.length + 1 := by omega
               subst e; first | rfl | exact ⟨rfl, rfl⟩)
      · rfl
      · simp only [faH, faT, postC, watchC]
        simp (maxSteps := 4000000) only [go_sem, List.append_eq, List.cons_append, List.nil_append, Nat.reduceAdd, Nat.reduceMul, Nat.reduceSub, Nat.reduceLeDiff, Nat.reduceLT, Int.reduceAdd, Int.reduceToNat, Int.reduceLE, Int.reduceLT, Int.reduceNeg, reduceIte, postC, watchC, sll]
        (repeat' (first
    | (refine awp_seqK ?_)
    | (refine kt ?_)
    | (refine And.intro ?_ ?_)
    | ((first | refine awp_region ?_ | refine awp_draw (by kernel_rfl) (by kernel_rfl) ?_ | refine Imp.le2 ?_ | refine awp_label ?_ | refine awp_skip ?_ | refine awp_exit ?_ | refine awp_cd ?_ | refine awp_ret ?_); simp (maxSteps := 4000000) only [go_sem, List.append_eq, List.cons_append, List.nil_append, Nat.reduceAdd, Nat.reduceMul, Nat.reduceSub, Nat.reduceLeDiff, Nat.reduceLT, Int.reduceAdd, Int.reduceToNat, Int.reduceLE, Int.reduceLT, Int.reduceNeg, reduceIte, postC, watchC, sll])
    | (intro _h)
    | (refine awp_block ?_)
    | (refine awp_scope ?_)
    | (refine go_split (fun _h => ?_) (fun _h => ?_) <;> simp (maxSteps := 4000000) only [go_sem, List.append_eq, List.cons_append, List.nil_append, Nat.reduceAdd, Nat.reduceMul, Nat.reduceSub, Nat.reduceLeDiff, Nat.reduceLT, Int.reduceAdd, Int.reduceToNat, Int.reduceLE, Int.reduceLT, Int.reduceNeg, reduceIte, postC, watchC, sll])
    | (show heapOK _ _ = true; kernel_rfl)
    | (omega)))
    | some k =>
      obtain ⟨b1, b2, b3⟩ := brk_some hbk
      have hru := run_broken p reads k hp hr b1 b2 b3
      simp only [ruH, postC, sl, watchC, sll] at hru hch
      (refine callS_of_awp (fun w args => Try.call29 ..) Try.func29 rfl (fun w0 m0 wz => ?_); simp only [Try.ntmps29, Try.results29, initT, junks, postC, watchC, sll, sl, List.toList_toArray, List.cons_append, List.nil_append, List.length_cons, List.length_nil, Nat.reduceAdd, Nat.reduceSub])
      (repeat' (first
    | (refine awp_ownN 2 rfl ?_; simp (maxSteps := 4000000) only [go_sem, List.append_eq, List.cons_append, List.nil_append, Nat.reduceAdd, Nat.reduceMul, Nat.reduceSub, Nat.reduceLeDiff, Nat.reduceLT, Int.reduceAdd, Int.reduceToNat, Int.reduceLE, Int.reduceLT, Int.reduceNeg, reduceIte, postC, watchC, sll, List.take_succ_cons, List.take_zero]; refine own_go (hru) [] rfl (by simp (maxSteps := 4000000) only [go_sem, List.append_eq, List.cons_append, List.nil_append, Nat.reduceAdd, Nat.reduceMul, Nat.reduceSub, Nat.reduceLeDiff, Nat.reduceLT, Int.reduceAdd, Int.reduceToNat, Int.reduceLE, Int.reduceLT, Int.reduceNeg, reduceIte, postC, watchC, sll]) (by simp (maxSteps := 4000000) only [go_sem, List.append_eq, List.cons_append, List.nil_append, Nat.reduceAdd, Nat.reduceMul, Nat.reduceSub, Nat.reduceLeDiff, Nat.reduceLT, Int.reduceAdd, Int.reduceToNat, Int.reduceLE, Int.reduceLT, Int.reduceNeg, reduceIte, postC, watchC, sll, Nat.lt_irrefl] <;> decide) rfl ?_; simp (maxSteps := 4000000) only [go_sem, List.append_eq, List.cons_append, List.nil_append, Nat.reduceAdd, Nat.reduceMul, Nat.reduceSub, Nat.reduceLeDiff, Nat.reduceLT, Int.reduceAdd, Int.reduceToNat, Int.reduceLE, Int.reduceLT, Int.reduceNeg, reduceIte, postC, watchC, sll])
    | (refine awp_seqK ?_)
    | (refine kt ?_)
    | (refine And.intro ?_ ?_)
    | ((first | refine awp_region ?_ | refine awp_draw (by kernel_rfl) (by kernel_rfl) ?_ | refine Imp.le2 ?_ | refine awp_label ?_ | refine awp_skip ?_ | refine awp_exit ?_ | refine awp_cd ?_ | refine awp_ret ?_); simp (maxSteps := 4000000) only [go_sem, List.append_eq, List.cons_append, List.nil_append, Nat.reduceAdd, Nat.reduceMul, Nat.reduceSub, Nat.reduceLeDiff, Nat.reduceLT, Int.reduceAdd, Int.reduceToNat, Int.reduceLE, Int.reduceLT, Int.reduceNeg, reduceIte, postC, watchC, sll])
    | (intro _h)
    | (refine awp_block ?_)
    | (refine awp_scope ?_)
    | ((first | refine callK_of (hch) ?_); try simp (maxSteps := 4000000) only [go_sem, List.append_eq, List.cons_append, List.nil_append, Nat.reduceAdd, Nat.reduceMul, Nat.reduceSub, Nat.reduceLeDiff, Nat.reduceLT, Int.reduceAdd, Int.reduceToNat, Int.reduceLE, Int.reduceLT, Int.reduceNeg, reduceIte, postC, watchC, sll])
    | (refine go_split (fun _h => ?_) (fun _h => ?_) <;> simp (maxSteps := 4000000) only [go_sem, List.append_eq, List.cons_append, List.nil_append, Nat.reduceAdd, Nat.reduceMul, Nat.reduceSub, Nat.reduceLeDiff, Nat.reduceLT, Int.reduceAdd, Int.reduceToNat, Int.reduceLE, Int.reduceLT, Int.reduceNeg, reduceIte, postC, watchC, sll])
    | (show heapOK _ _ = true; kernel_rfl)
    | (omega)))
  · rw [if_neg hf, if_neg hf]
    simp only [ruH, postC, sl, watchC, sll] at hch
    generalize faultP p reads = e at *
    (refine callS_of_awp (fun w args => Try.call29 ..) Try.func29 rfl (fun w0 m0 wz => ?_); simp only [Try.ntmps29, Try.results29, initT, junks, postC, watchC, sll, sl, List.toList_toArray, List.cons_append, List.nil_append, List.length_cons, List.length_nil, Nat.reduceAdd, Nat.reduceSub])
    (repeat' (first
    | (refine awp_seqK ?_)
    | (refine kt ?_)
    | (refine And.intro ?_ ?_)
    | ((first | refine awp_region ?_ | refine awp_draw (by kernel_rfl) (by kernel_rfl) ?_ | refine Imp.le2 ?_ | refine awp_label ?_ | refine awp_skip ?_ | refine awp_exit ?_ | refine awp_cd ?_ | refine awp_ret ?_); simp (maxSteps := 4000000) only [go_sem, List.append_eq, List.cons_append, List.nil_append, Nat.reduceAdd, Nat.reduceMul, Nat.reduceSub, Nat.reduceLeDiff, Nat.reduceLT, Int.reduceAdd, Int.reduceToNat, Int.reduceLE, Int.reduceLT, Int.reduceNeg, reduceIte, postC, watchC, sll])
    | (intro _h)
    | (refine awp_block ?_)
    | (refine awp_scope ?_)
    | ((first | refine callK_of (hch) ?_); try simp (maxSteps := 4000000) only [go_sem, List.append_eq, List.cons_append, List.nil_append, Nat.reduceAdd, Nat.reduceMul, Nat.reduceSub, Nat.reduceLeDiff, Nat.reduceLT, Int.reduceAdd, Int.reduceToNat, Int.reduceLE, Int.reduceLT, Int.reduceNeg, reduceIte, postC, watchC, sll])
    | (refine go_split (fun _h => ?_) (fun _h => ?_) <;> simp (maxSteps := 4000000) only [go_sem, List.append_eq, List.cons_append, List.nil_append, Nat.reduceAdd, Nat.reduceMul, Nat.reduceSub, Nat.reduceLeDiff, Nat.reduceLT, Int.reduceAdd, Int.reduceToNat, Int.reduceLE, Int.reduceLT, Int.reduceNeg, reduceIte, postC, watchC, sll])
    | (show heapOK _ _ = true; kernel_rfl)
    | (omega)))
end Go.Am

/- Contracts of the alarm functions: whether speeds are a truth. -/
namespace Go.Am
open Go.RowKit Go.Proofs
attribute [local irreducible] AWP CallS Kt goK CallK stepK evOps SemF SemY
set_option maxRecDepth 4000
set_option linter.unusedSimpArgs false
set_option linter.unusedVariables false
set_option maxHeartbeats 1600000

/-- One hour of a truth. -/
def okT (p : Post) (reads : List (List Int)) (f : Int) (sp : List Int) (h : Nat) : Prop :=
  ((agreedEnds p.errs (reads.getD h []) f).1 ≤ sp.getD h 0 ∧ sp.getD h 0 ≤ (agreedEnds p.errs (reads.getD h []) f).2) ∧ (h = 0 ∨ (-p.drop ≤ sp.getD h 0 - sp.getD (h - 1) 0 ∧ sp.getD h 0 - sp.getD (h - 1) 0 ≤ p.gain))
instance {p : Post} {reads : List (List Int)} {f : Int} {sp : List Int} {h : Nat} : Decidable (okT p reads f sp h) := by unfold okT; exact inferInstance
theorem okT_iff {p : Post} {reads : List (List Int)} {f : Int} {sp : List Int} {h : Nat} : okT p reads f sp h ↔
  (((agreedEnds p.errs (reads.getD h []) f).1 ≤ sp.getD h 0 ∧ sp.getD h 0 ≤ (agreedEnds p.errs (reads.getD h []) f).2) ∧ (h = 0 ∨ (-p.drop ≤ sp.getD h 0 - sp.getD (h - 1) 0 ∧ sp.getD h 0 - sp.getD (h - 1) 0 ≤ p.gain))) := Iff.rfl
def proveB (p : Post) (reads : List (List Int)) (f : Int) (sp : List Int) : Bool :=
  decide (faultP p reads = 0 ∧ sp.length = reads.length ∧ (-1 ≤ f ∧ f ≤ (p.errs.length : Int) - 1) ∧ ∀ h, h < sp.length → okT p reads f sp h)
theorem agreed_bd {errs row : List Int} {f : Int} : 0 ≤ (agreedEnds errs row f).1 ∧ (agreedEnds errs row f).2 ≤ 1000 := by
  unfold agreedEnds
  split
  · simp
  · exact ⟨agLo_ge _, agHi_le _⟩
theorem okT_bd {p : Post} {reads : List (List Int)} {f : Int} {sp : List Int} {h : Nat} (k : okT p reads f sp h) : 0 ≤ sp.getD h 0 ∧ sp.getD h 0 ≤ 1000 := by
  have := agreed_bd (errs := p.errs) (row := reads.getD h []) (f := f)
  have := k.1
  omega
theorem prove_c (p : Post) (reads : List (List Int)) (f : Int) (sp : List Int) (hb : InB p reads) (hs : sp.length ≤ 9223372036854775807) : CallS Try.prog 38 [.agg (postC p), sll reads, .int .i64 f, sl sp] (.bool (proveB p reads f sp)) := by
  have hch := check_c p reads hb.e hb.n hb.rows
  have hfc := faultP_cases p reads
  have hbe := hb.e
  have hbn := hb.n
  by_cases hf : faultP p reads = 0
  · obtain ⟨hp, hr⟩ := faultP_zero hf
    obtain ⟨hl1, hl2⟩ := hp.len
    have hga := hp.gain
    have hdr := hp.drop
    have hl3 := hr.len
    rw [hf] at hch
    simp only [postC, sl, watchC, sll] at hch
    have hyes : sp.length = reads.length → (-1 ≤ f ∧ f ≤ (p.errs.length : Int) - 1) → (∀ h, h < sp.length → okT p reads f sp h) → true = proveB p reads f sp := fun a b c => (decide_eq_true ⟨hf, a, b, c⟩).symm
    have hno : (sp.length = reads.length → (-1 ≤ f ∧ f ≤ (p.errs.length : Int) - 1) → (∀ h, h < sp.length → okT p reads f sp h) → False) → false = proveB p reads f sp := fun a => (decide_eq_false fun ⟨_, b, c, d⟩ => a b c d).symm
    generalize proveB p reads f sp = r at *
    (refine callS_of_awp (fun w args => Try.call38 ..) Try.func38 rfl (fun w0 m0 wz => ?_); simp only [Try.ntmps38, Try.results38, initT, junks, postC, watchC, sll, sl, List.toList_toArray, List.cons_append, List.nil_append, List.length_cons, List.length_nil, Nat.reduceAdd, Nat.reduceSub])
    (repeat' (first
    | (refine awp_seqK ?_)
    | (refine kt ?_)
    | (refine And.intro ?_ ?_)
    | ((first | refine awp_region ?_ | refine awp_draw (by kernel_rfl) (by kernel_rfl) ?_ | refine Imp.le2 ?_ | refine awp_label ?_ | refine awp_skip ?_ | refine awp_exit ?_ | refine awp_cd ?_ | refine awp_ret ?_); simp (maxSteps := 4000000) only [go_sem, List.append_eq, List.cons_append, List.nil_append, Nat.reduceAdd, Nat.reduceMul, Nat.reduceSub, Nat.reduceLeDiff, Nat.reduceLT, Int.reduceAdd, Int.reduceToNat, Int.reduceLE, Int.reduceLT, Int.reduceNeg, reduceIte, postC, watchC, sll])
    | (intro _h)
    | (refine awp_block ?_)
    | (refine awp_scope ?_)
    | ((first | refine callK_of (hch) ?_ | refine callK_of (within_c _ _ _) ?_); try simp (maxSteps := 4000000) only [go_sem, List.append_eq, List.cons_append, List.nil_append, Nat.reduceAdd, Nat.reduceMul, Nat.reduceSub, Nat.reduceLeDiff, Nat.reduceLT, Int.reduceAdd, Int.reduceToNat, Int.reduceLE, Int.reduceLT, Int.reduceNeg, reduceIte, postC, watchC, sll])
    | (refine go_split (fun _h => ?_) (fun _h => ?_) <;> simp (maxSteps := 4000000) only [go_sem, List.append_eq, List.cons_append, List.nil_append, Nat.reduceAdd, Nat.reduceMul, Nat.reduceSub, Nat.reduceLeDiff, Nat.reduceLT, Int.reduceAdd, Int.reduceToNat, Int.reduceLE, Int.reduceLT, Int.reduceNeg, reduceIte, postC, watchC, sll])
    | (show heapOK _ _ = true; kernel_rfl)
    | (omega)))
    · refine awp_loopJ (fun h : Nat => h ≤ sp.length ∧ ∀ j, j < h → okT p reads f sp j) (fun h => ⟨mkT 74 [(1, sll reads), (2, .int .i64 f), (3, sl sp), (4, .ptr 0 0 0), (32, sl sp), (33, .int .i64 sp.length), (34, .int .i64 h)], [some (.cells 51 1 0 (postC p))], []⟩) (fun h => sp.length - h) 0 ⟨Nat.zero_le _, by simp⟩ (.le2 ?_) ?_
      · simp only [postC]; simp (maxSteps := 4000000) only [go_sem, List.append_eq, List.cons_append, List.nil_append, Nat.reduceAdd, Nat.reduceMul, Nat.reduceSub, Nat.reduceLeDiff, Nat.reduceLT, Int.reduceAdd, Int.reduceToNat, Int.reduceLE, Int.reduceLT, Int.reduceNeg, reduceIte, postC, watchC, sll]
      · rintro h ⟨hh, hj⟩
        have hag := fun k : h < reads.length => agreed_c p (reads.getD h []) f (hr.rows h k).len (by have := (hr.rows h k).len; omega) (hr.rows h k).reads hp.errs
        have hab := agreed_bd (errs := p.errs) (row := reads.getD h []) (f := f)
        have hok := okT_iff (p := p) (reads := reads) (f := f) (sp := sp) (h := h)
        have hpr := fun k : 0 < h => okT_bd (hj (h - 1) (by omega))
        simp only [postC, sl] at hag
        generalize agreedEnds p.errs (reads.getD h []) f = y at *
        obtain ⟨y1, y2⟩ := y
        simp only at hok hab
        simp only [postC]; simp (maxSteps := 4000000) only [go_sem, List.append_eq, List.cons_append, List.nil_append, Nat.reduceAdd, Nat.reduceMul, Nat.reduceSub, Nat.reduceLeDiff, Nat.reduceLT, Int.reduceAdd, Int.reduceToNat, Int.reduceLE, Int.reduceLT, Int.reduceNeg, reduceIte, postC, watchC, sll]
        have e1 : (((h : Int)) - 1).toNat = h - 1 := by omega
        (repeat' (first
    | ((rw [e1]))
    | (refine awp_seqK ?_)
    | (refine kt ?_)
    | (refine And.intro ?_ ?_)
    | ((first | refine awp_region ?_ | refine awp_draw (by kernel_rfl) (by kernel_rfl) ?_ | refine Imp.le2 ?_ | refine awp_label ?_ | refine awp_skip ?_ | refine awp_exit ?_ | refine awp_cd ?_ | refine awp_ret ?_); simp (maxSteps := 4000000) only [go_sem, List.append_eq, List.cons_append, List.nil_append, Nat.reduceAdd, Nat.reduceMul, Nat.reduceSub, Nat.reduceLeDiff, Nat.reduceLT, Int.reduceAdd, Int.reduceToNat, Int.reduceLE, Int.reduceLT, Int.reduceNeg, reduceIte, postC, watchC, sll])
    | (intro _h)
    | (refine awp_block ?_)
    | (refine awp_scope ?_)
    | ((first | refine callK_of (hag (by omega)) ?_ | refine callK_of (within_c _ _ _) ?_); try simp (maxSteps := 4000000) only [go_sem, List.append_eq, List.cons_append, List.nil_append, Nat.reduceAdd, Nat.reduceMul, Nat.reduceSub, Nat.reduceLeDiff, Nat.reduceLT, Int.reduceAdd, Int.reduceToNat, Int.reduceLE, Int.reduceLT, Int.reduceNeg, reduceIte, postC, watchC, sll])
    | (refine go_split (fun _h => ?_) (fun _h => ?_) <;> simp (maxSteps := 4000000) only [go_sem, List.append_eq, List.cons_append, List.nil_append, Nat.reduceAdd, Nat.reduceMul, Nat.reduceSub, Nat.reduceLeDiff, Nat.reduceLT, Int.reduceAdd, Int.reduceToNat, Int.reduceLE, Int.reduceLT, Int.reduceNeg, reduceIte, postC, watchC, sll])
    | (show heapOK _ _ = true; kernel_rfl)
    | (omega)))
        all_goals first
          | (refine ⟨h + 1, ⟨by omega, fun j hji => ?_⟩, by omega, .le2 ?_⟩
             · rcases Nat.lt_succ_iff_lt_or_eq.1 hji with h | rfl
               · exact hj j h
               · exact hok.2 (by omega)
             · simp (maxSteps := 4000000) only [go_sem, List.append_eq, List.cons_append, List.nil_append, Nat.reduceAdd, Nat.reduceMul, Nat.reduceSub, Nat.reduceLeDiff, Nat.reduceLT, Int.reduceAdd, Int.reduceToNat, Int.reduceLE, Int.reduceLT, Int.reduceNeg, reduceIte, postC, watchC, sll] <;> omega)
          | exact (hno (fun a b c => by have := hok.1 (c h (by omega)); omega)).symm
          | exact (hyes (by omega) ‹_› (fun j hjl => hj j (by omega))).symm
          | exact (hyes (by omega) ‹_› (fun j hjl => hj j (by omega)))
    all_goals first
      | exact (hno (fun a b c => by omega)).symm
      | exact (hno (fun a b c => by omega))
  · have : proveB p reads f sp = false := decide_eq_false fun h => hf h.1
    rw [this]
    simp only [postC, sl, watchC, sll] at hch
    generalize faultP p reads = e at *
    (refine callS_of_awp (fun w args => Try.call38 ..) Try.func38 rfl (fun w0 m0 wz => ?_); simp only [Try.ntmps38, Try.results38, initT, junks, postC, watchC, sll, sl, List.toList_toArray, List.cons_append, List.nil_append, List.length_cons, List.length_nil, Nat.reduceAdd, Nat.reduceSub])
    (repeat' (first
    | (refine awp_seqK ?_)
    | (refine kt ?_)
    | (refine And.intro ?_ ?_)
    | ((first | refine awp_region ?_ | refine awp_draw (by kernel_rfl) (by kernel_rfl) ?_ | refine Imp.le2 ?_ | refine awp_label ?_ | refine awp_skip ?_ | refine awp_exit ?_ | refine awp_cd ?_ | refine awp_ret ?_); simp (maxSteps := 4000000) only [go_sem, List.append_eq, List.cons_append, List.nil_append, Nat.reduceAdd, Nat.reduceMul, Nat.reduceSub, Nat.reduceLeDiff, Nat.reduceLT, Int.reduceAdd, Int.reduceToNat, Int.reduceLE, Int.reduceLT, Int.reduceNeg, reduceIte, postC, watchC, sll])
    | (intro _h)
    | (refine awp_block ?_)
    | (refine awp_scope ?_)
    | ((first | refine callK_of (hch) ?_); try simp (maxSteps := 4000000) only [go_sem, List.append_eq, List.cons_append, List.nil_append, Nat.reduceAdd, Nat.reduceMul, Nat.reduceSub, Nat.reduceLeDiff, Nat.reduceLT, Int.reduceAdd, Int.reduceToNat, Int.reduceLE, Int.reduceLT, Int.reduceNeg, reduceIte, postC, watchC, sll])
    | (refine go_split (fun _h => ?_) (fun _h => ?_) <;> simp (maxSteps := 4000000) only [go_sem, List.append_eq, List.cons_append, List.nil_append, Nat.reduceAdd, Nat.reduceMul, Nat.reduceSub, Nat.reduceLeDiff, Nat.reduceLT, Int.reduceAdd, Int.reduceToNat, Int.reduceLE, Int.reduceLT, Int.reduceNeg, reduceIte, postC, watchC, sll])
    | (show heapOK _ _ = true; kernel_rfl)
    | (omega)))
end Go.Am

/- Lists that are told by a function; lists of bools; counts. What may be, by the reference's words. -/
namespace Go.Am
open Go.RowKit Go.Proofs
set_option linter.unusedSimpArgs false
set_option linter.unusedVariables false

/-- A list of n elements, told by a function. -/
def tab {α : Type} (n : Nat) (f : Nat → α) : List α := (List.range n).map f
section
variable {α : Type} {n : Nat} {f g : Nat → α}
theorem tab_length : (tab n f).length = n := by simp [tab]
theorem tab_getD {j : Nat} {d : α} (h : j < n) : (tab n f).getD j d = f j := by simp [tab, List.getD_eq_getElem?_getD, h]
theorem tab_congr (h : ∀ j, j < n → f j = g j) : tab n f = tab n g := List.map_congr_left fun j hj => h j (by simpa using hj)
/-- One element in another's place. -/
def isp (l : List α) (j : Nat) (v : α) : List α := l.take j ++ v :: l.drop (j + 1)
theorem isp_set {l : List α} {j : Nat} {v : α} (h : j < l.length) : isp l j v = l.set j v := by rw [List.set_eq_take_append_cons_drop, if_pos h]; rfl
theorem isp_length {l : List α} {j : Nat} {v : α} (h : j < l.length) : (isp l j v).length = l.length := by rw [isp_set h, List.length_set]
theorem isp_getD {l : List α} {j k : Nat} {v d : α} (h : j < l.length) : (isp l j v).getD k d = if k = j then v else l.getD k d := by
  rw [isp_set h]
  simp only [List.getD_eq_getElem?_getD, List.getElem?_set]
  by_cases e : j = k
  · subst e; simp [h]
  · rw [if_neg e, if_neg (Ne.symm e)]
theorem isp_tab {j : Nat} {v : α} (h : j < n) : isp (tab n f) j v = tab n fun i => if i = j then v else f i := by
  rw [isp_set (by rw [tab_length]; exact h)]
  apply List.ext_getElem
  · simp [tab]
  · intro i a b
    simp only [tab, List.getElem_set, List.getElem_map, List.getElem_range]
    by_cases e : j = i
    · subst e; simp
    · rw [if_neg e, if_neg (Ne.symm e)]
theorem tab_fill {n v : Nat} {G : Nat → Bool} {b : Bool} (h : v < n) (hb : G v = b) : isp (tab n fun i => if i < v then G i else false) v b = tab n fun i => if i < v + 1 then G i else false := by
  rw [isp_tab h]
  refine tab_congr fun i _ => ?_
  rcases Nat.lt_trichotomy i v with h9 | h9 | h9
  · simp only [show ¬ i = v by omega, h9, show i < v + 1 by omega, if_true, if_false]
  · subst h9; simp [hb]
  · simp only [show ¬ i = v by omega, show ¬ i < v by omega, show ¬ i < v + 1 by omega, if_false]
theorem replicate_tab {a : α} : List.replicate n a = tab n fun _ => a := by
  apply List.ext_getElem
  · simp [tab]
  · intro i h1 h2; simp [tab]
end
/-- A list of bools, as cells. -/
def bools (l : List Bool) : List AV := l.map .bool
theorem bools_length {l : List Bool} : (bools l).length = l.length := by simp [bools]
theorem pl_bools {l : List Bool} : pureL (bools l) = True := by
  simp only [pureL, bools, List.mem_map, eq_iff_iff, iff_true]
  rintro _ ⟨a, _, rfl⟩; rfl
theorem al_bools {l : List Bool} {p : Nat → Bool} : (bools l).all (live2 p) = true := by
  simp only [bools, List.all_map, List.all_eq_true]
  intro z _; rfl
theorem nth_bools {l : List Bool} {j : Nat} {K : AV → Prop} : optK (nth (bools l) j) K = (j < l.length ∧ K (.bool (l.getD j false))) := by
  rw [← nth_is]
  simp only [bools, List.getElem?_map]
  by_cases h : j < l.length
  · simp [h, optK, List.getD_eq_getElem?_getD]
  · simp [h, optK]
theorem sp_bools {l : List Bool} {j : Nat} {b : Bool} : splice (bools l) j [.bool b] = bools (isp l j b) := by
  simp [splice, bools, isp, List.map_take, List.map_drop]
theorem sp_ints {l : List Int} {j : Nat} {v : Int} : splice (ints l) j [.int .i64 v] = ints (isp l j v) := by
  simp [splice, ints, isp, List.map_take, List.map_drop]
theorem rep_ints {n : Nat} {v : Int} : (List.replicate n [AV.int .i64 v]).flatten = ints (tab n fun _ => v) := by
  rw [← replicate_tab]
  induction n with
  | zero => rfl
  | succ n ih => rw [List.replicate_succ, List.flatten_cons, ih]; rfl
theorem rep_bools {n : Nat} {v : Bool} : (List.replicate n [AV.bool v]).flatten = bools (tab n fun _ => v) := by
  rw [← replicate_tab]
  induction n with
  | zero => rfl
  | succ n ih => rw [List.replicate_succ, List.flatten_cons, ih]; rfl
attribute [go_sem] bools_length pl_bools al_bools nth_bools sp_bools tab_length

/-- How many of the first ones are true. -/
def cnt (f : Nat → Bool) : Nat → Int
  | 0 => 0
  | i + 1 => if f i = true then cnt f i + 1 else cnt f i
theorem cnt_zero {f : Nat → Bool} : cnt f 0 = 0 := rfl
theorem cnt_succ {f : Nat → Bool} {i : Nat} : cnt f (i + 1) = if f i = true then cnt f i + 1 else cnt f i := rfl
theorem cnt_bd {f : Nat → Bool} : ∀ i, 0 ≤ cnt f i ∧ cnt f i ≤ i
  | 0 => by simp [cnt]
  | i + 1 => by have := cnt_bd (f := f) i; simp only [cnt]; split <;> omega
theorem cnt_lt {f : Nat → Bool} {a : Nat} : ∀ {b : Nat}, a ≤ b → (cnt f a ≤ cnt f b ∧ (cnt f a < cnt f b ↔ ∃ u, a ≤ u ∧ u < b ∧ f u = true))
  | 0, h => by
    have : a = 0 := by omega
    subst this
    refine ⟨by omega, ⟨fun h => by omega, fun ⟨u, _, h, _⟩ => by omega⟩⟩
  | b + 1, h => by
    rcases Nat.lt_or_eq_of_le h with h1 | h1
    · obtain ⟨k1, k2⟩ := cnt_lt (f := f) (a := a) (b := b) (by omega)
      by_cases hf : f b = true
      · have e : cnt f (b + 1) = cnt f b + 1 := by simp [cnt, hf]
        rw [e]
        exact ⟨by omega, ⟨fun _ => ⟨b, by omega, by omega, hf⟩, fun _ => by omega⟩⟩
      · have e : cnt f (b + 1) = cnt f b := by simp [cnt, hf]
        rw [e]
        refine ⟨k1, k2.trans ⟨fun ⟨u, x, y, z⟩ => ⟨u, x, by omega, z⟩, fun ⟨u, x, y, z⟩ => ⟨u, x, ?_, z⟩⟩⟩
        rcases Nat.lt_or_eq_of_le (Nat.le_of_lt_succ y) with h2 | h2
        · exact h2
        · subst h2; exact absurd z hf
    · subst h1
      refine ⟨by omega, ⟨fun h => by omega, fun ⟨u, x, y, _⟩ => by omega⟩⟩

/-- Is a speed among some ends? -/
def inE (x : Option (Int × Int)) (v : Nat) : Bool := match x with | none => false | some x => decide (x.1 ≤ v ∧ v ≤ x.2)
/-- Do all gauges but one agree with a speed? -/
def agreesB (errs row : List Int) (f : Int) (v : Int) : Bool := decide (∀ i : Nat, i < row.length → (i : Int) ≠ f → max (row.getD i 0 - v) (v - row.getD i 0) ≤ errs.getD i 0)
theorem agrees_to {errs row : List Int} {f v : Int} : ∀ n : Nat, (∀ i : Nat, i < n → (i : Int) ≠ f → max (row.getD i 0 - v) (v - row.getD i 0) ≤ errs.getD i 0) → 0 ≤ v → v ≤ 1000 → agLo errs row f n ≤ v ∧ v ≤ agHi errs row f n
  | 0, _, h1, h2 => by simp only [agLo, agHi]; omega
  | n + 1, h, h1, h2 => by
    have ih := agrees_to (errs := errs) (row := row) (f := f) (v := v) n (fun i hi => h i (by omega)) h1 h2
    have := h n (by omega)
    simp only [agLo, agHi]
    split
    · exact ih
    · rename_i e; have := this e; omega
theorem agrees_of {errs row : List Int} {f v : Int} : ∀ n : Nat, agLo errs row f n ≤ v → v ≤ agHi errs row f n → ∀ i : Nat, i < n → (i : Int) ≠ f → max (row.getD i 0 - v) (v - row.getD i 0) ≤ errs.getD i 0
  | 0, _, _, i, hi, _ => by omega
  | n + 1, h1, h2, i, hi, hne => by
    simp only [agLo, agHi] at h1 h2
    rcases Nat.lt_or_eq_of_le (Nat.le_of_lt_succ hi) with h3 | h3
    · refine agrees_of (f := f) n ?_ ?_ i h3 hne
      · split at h1 <;> omega
      · split at h2 <;> omega
    · subst h3
      rw [if_neg hne] at h1 h2
      omega
theorem agrees_iff {errs row : List Int} {f : Int} {v : Nat} (hv : v ≤ 1000) : agreesB errs row f v = decide (agLo errs row f row.length ≤ v ∧ (v : Int) ≤ agHi errs row f row.length) := by
  unfold agreesB
  rw [decide_eq_decide]
  exact ⟨fun h => agrees_to row.length h (by omega) (by omega), fun h => agrees_of row.length h.1 h.2⟩
/-- From where a speed comes. -/
def fromLo (p : Post) (v : Nat) : Nat := (max 0 ((v : Int) - p.gain)).toNat
def fromHi (p : Post) (v : Nat) : Nat := (min 1000 ((v : Int) + p.drop)).toNat + 1
def comesB (p : Post) (x : Option (Int × Int)) (v : Nat) : Bool := decide (cnt (fun u => inE x u) (fromLo p v) < cnt (fun u => inE x u) (fromHi p v))
/-- One hour by words: a speed may be if one may be from which it comes, and all gauges but one agree. -/
theorem step_in {p : Post} {row : List Int} {f : Int} {x : Option (Int × Int)} {v : Nat} (hp : PostOK p) (hv : v ≤ 1000) (hx : ∀ z, x = some z → 0 ≤ z.1 ∧ z.1 ≤ z.2 ∧ z.2 ≤ 1000) :
    inE (x.bind (stepX p row false f)) v = (comesB p x v && agreesB p.errs row f v) := by
  have hg := hp.gain
  have hd := hp.drop
  rw [agrees_iff hv]
  have hco := (cnt_lt (f := fun u => inE x u) (a := fromLo p v) (b := fromHi p v) (by unfold fromLo fromHi; omega)).2
  cases x with
  | none =>
    have : comesB p none v = false := decide_eq_false (fun h => by obtain ⟨u, _, _, h⟩ := hco.1 h; simp [inE] at h)
    rw [this]
    simp [inE]
  | some z =>
    have hz := hx z rfl
    have key : comesB p (some z) v = decide (z.1 - p.drop ≤ v ∧ (v : Int) ≤ z.2 + p.gain) := by
      unfold comesB
      rw [decide_eq_decide, hco]
      unfold fromLo fromHi
      constructor
      · rintro ⟨u, h1, h2, h3⟩
        have h4 : z.1 ≤ u ∧ (u : Int) ≤ z.2 := of_decide_eq_true h3
        omega
      · rintro ⟨h1, h2⟩
        refine ⟨(max z.1 (min v z.2)).toNat, by omega, by omega, ?_⟩
        exact decide_eq_true (by omega)
    rw [key]
    simp only [Option.bind_some, stepX, agreedEnds, Bool.false_eq_true, if_false]
    by_cases hc : agHi p.errs row f row.length < agLo p.errs row f row.length
    · rw [if_pos hc, if_pos (.inl rfl), ← Bool.decide_and]
      exact (decide_eq_false (by omega)).symm
    · rw [if_neg hc]
      have hne : ¬ ((agLo p.errs row f row.length, agHi p.errs row f row.length) = ((1, 0) : Int × Int)) := by
        intro e
        simp only [Prod.mk.injEq] at e
        omega
      simp only
      rw [← Bool.decide_and]
      by_cases hm : min (z.2 + p.gain) (agHi p.errs row f row.length) < max (z.1 - p.drop) (agLo p.errs row f row.length)
      · rw [if_pos (.inr hm)]
        exact (decide_eq_false (by omega)).symm
      · rw [if_neg (by rintro (h | h); exact hne h; exact hm h)]
        simp only [inE]
        rw [decide_eq_decide]
        omega
theorem first_in {p : Post} {row : List Int} {f : Int} {v : Nat} (hv : v ≤ 1000) : inE (stepX p row true f (0, 1000)) v = agreesB p.errs row f v := by
  rw [agrees_iff hv]
  simp only [stepX, agreedEnds, if_true]
  have hl := agLo_ge (errs := p.errs) (row := row) (f := f) row.length
  have hh := agHi_le (errs := p.errs) (row := row) (f := f) row.length
  by_cases hc : agHi p.errs row f row.length < agLo p.errs row f row.length
  · rw [if_pos hc, if_pos (.inl rfl)]
    exact (decide_eq_false (by omega)).symm
  · rw [if_neg hc]
    have hne : ¬ ((agLo p.errs row f row.length, agHi p.errs row f row.length) = ((1, 0) : Int × Int)) := by
      intro e
      simp only [Prod.mk.injEq] at e
      omega
    simp only
    rw [if_neg (by rintro (h | h); exact hne h; omega)]
    simp only [inE]
    rw [decide_eq_decide]
    omega
end Go.Am

/- Contracts of the reference: what may be. -/
namespace Go.Am
open Go.RowKit Go.Proofs
attribute [local irreducible] AWP CallS Kt goK CallK stepK evOps SemF SemY Imp tab isp cnt
set_option maxRecDepth 4000
set_option linter.unusedSimpArgs false
set_option linter.unusedVariables false
set_option maxHeartbeats 1600000

theorem agrees_c (p : Post) (row : List Int) (f v : Int) (hp : PostOK p) (hr : RowOK p row) (hv : 0 ≤ v ∧ v ≤ 1000) : CallS Try.prog 69 [.agg (postC p), sl row, .int .i64 f, .int .i64 v] (.bool (agreesB p.errs row f v)) := by
  have hl := hp.len
  have hrl := hr.len
  have hyes : (∀ i : Nat, i < row.length → (i : Int) ≠ f → max (row.getD i 0 - v) (v - row.getD i 0) ≤ p.errs.getD i 0) → true = agreesB p.errs row f v := fun h => (decide_eq_true h).symm
  have hno : (i : Nat) → i < row.length → (i : Int) ≠ f → ¬ max (row.getD i 0 - v) (v - row.getD i 0) ≤ p.errs.getD i 0 → false = agreesB p.errs row f v := fun i a b c => (decide_eq_false fun h => c (h i a b)).symm
  generalize agreesB p.errs row f v = r at *
  (refine callS_of_awp (fun w args => Try.call69 ..) Try.func69 rfl (fun w0 m0 wz => ?_); simp only [Try.ntmps69, Try.results69, initT, junks, postC, watchC, sll, sl, List.toList_toArray, List.cons_append, List.nil_append, List.length_cons, List.length_nil, Nat.reduceAdd, Nat.reduceSub])
  (repeat' (first
    | (refine awp_seqK ?_)
    | (refine kt ?_)
    | (refine And.intro ?_ ?_)
    | ((first | refine awp_region ?_ | refine awp_draw (by kernel_rfl) (by kernel_rfl) ?_ | refine Imp.le2 ?_ | refine awp_label ?_ | refine awp_skip ?_ | refine awp_exit ?_ | refine awp_cd ?_ | refine awp_ret ?_); simp (maxSteps := 4000000) only [go_sem, List.append_eq, List.cons_append, List.nil_append, Nat.reduceAdd, Nat.reduceMul, Nat.reduceSub, Nat.reduceLeDiff, Nat.reduceLT, Int.reduceAdd, Int.reduceToNat, Int.reduceLE, Int.reduceLT, Int.reduceNeg, reduceIte, postC, watchC, sll])
    | (intro _h)
    | (refine awp_block ?_)
    | (refine awp_scope ?_)
    | (refine go_split (fun _h => ?_) (fun _h => ?_) <;> simp (maxSteps := 4000000) only [go_sem, List.append_eq, List.cons_append, List.nil_append, Nat.reduceAdd, Nat.reduceMul, Nat.reduceSub, Nat.reduceLeDiff, Nat.reduceLT, Int.reduceAdd, Int.reduceToNat, Int.reduceLE, Int.reduceLT, Int.reduceNeg, reduceIte, postC, watchC, sll])
    | (show heapOK _ _ = true; kernel_rfl)
    | (omega)))
  refine awp_loopJ (fun i : Nat => i ≤ row.length ∧ ∀ j : Nat, j < i → (j : Int) ≠ f → max (row.getD j 0 - v) (v - row.getD j 0) ≤ p.errs.getD j 0) (fun i => ⟨mkT 40 [(1, sl row), (2, .int .i64 f), (3, .int .i64 v), (4, .ptr 0 0 0), (9, .int .i64 i)], [some (.cells 46 1 0 (postC p))], []⟩) (fun i => row.length - i) 0 ⟨Nat.zero_le _, by simp⟩ (.le2 ?_) ?_
  · simp only [postC]; simp (maxSteps := 4000000) only [go_sem, List.append_eq, List.cons_append, List.nil_append, Nat.reduceAdd, Nat.reduceMul, Nat.reduceSub, Nat.reduceLeDiff, Nat.reduceLT, Int.reduceAdd, Int.reduceToNat, Int.reduceLE, Int.reduceLT, Int.reduceNeg, reduceIte, postC, watchC, sll]
  · rintro i ⟨hi, hj⟩
    have hrr := hr.reads i
    have hee := hp.errs i
    have hn := hno i
    simp only [postC]; simp (maxSteps := 4000000) only [go_sem, List.append_eq, List.cons_append, List.nil_append, Nat.reduceAdd, Nat.reduceMul, Nat.reduceSub, Nat.reduceLeDiff, Nat.reduceLT, Int.reduceAdd, Int.reduceToNat, Int.reduceLE, Int.reduceLT, Int.reduceNeg, reduceIte, postC, watchC, sll]
    (repeat' (first
    | (refine awp_seqK ?_)
    | (refine kt ?_)
    | (refine And.intro ?_ ?_)
    | ((first | refine awp_region ?_ | refine awp_draw (by kernel_rfl) (by kernel_rfl) ?_ | refine Imp.le2 ?_ | refine awp_label ?_ | refine awp_skip ?_ | refine awp_exit ?_ | refine awp_cd ?_ | refine awp_ret ?_); simp (maxSteps := 4000000) only [go_sem, List.append_eq, List.cons_append, List.nil_append, Nat.reduceAdd, Nat.reduceMul, Nat.reduceSub, Nat.reduceLeDiff, Nat.reduceLT, Int.reduceAdd, Int.reduceToNat, Int.reduceLE, Int.reduceLT, Int.reduceNeg, reduceIte, postC, watchC, sll])
    | (intro _h)
    | (refine awp_block ?_)
    | (refine awp_scope ?_)
    | (refine go_split (fun _h => ?_) (fun _h => ?_) <;> simp (maxSteps := 4000000) only [go_sem, List.append_eq, List.cons_append, List.nil_append, Nat.reduceAdd, Nat.reduceMul, Nat.reduceSub, Nat.reduceLeDiff, Nat.reduceLT, Int.reduceAdd, Int.reduceToNat, Int.reduceLE, Int.reduceLT, Int.reduceNeg, reduceIte, postC, watchC, sll])
    | (show heapOK _ _ = true; kernel_rfl)
    | (omega)))
    all_goals first
      | (refine ⟨i + 1, ⟨by omega, fun j hji => ?_⟩, by omega, .le2 ?_⟩
         · rcases Nat.lt_succ_iff_lt_or_eq.1 hji with h | rfl
           · exact hj j h
           · intro hne; omega
         · simp (maxSteps := 4000000) only [go_sem, List.append_eq, List.cons_append, List.nil_append, Nat.reduceAdd, Nat.reduceMul, Nat.reduceSub, Nat.reduceLeDiff, Nat.reduceLT, Int.reduceAdd, Int.reduceToNat, Int.reduceLE, Int.reduceLT, Int.reduceNeg, reduceIte, postC, watchC, sll] <;> omega)
      | exact (hn (by omega) ‹_› (by omega)).symm
      | exact (hyes (fun j hjl => hj j (by omega))).symm
      | exact (hn (by omega) ‹_› (by omega))
      | exact (hyes (fun j hjl => hj j (by omega)))
theorem any_c (l : List Bool) (hl : l.length ≤ 100000) : CallS Try.prog 41 [.psl false l.length (bools l)] (.bool (l.any id)) := by
  have hyes : (i : Nat) → i < l.length → l.getD i false = true → true = l.any id := fun i a b => by
    rw [eq_comm, List.any_eq_true]
    refine ⟨l[i], List.getElem_mem a, ?_⟩
    rwa [show l.getD i false = l[i] by simp [List.getD_eq_getElem?_getD, a]] at b
  have hno : (∀ i, i < l.length → l.getD i false = false) → false = l.any id := fun h => by
    rw [eq_comm, List.any_eq_false]
    intro x hx
    obtain ⟨j, hj, rfl⟩ := List.mem_iff_getElem.1 hx
    have := h j hj
    rw [show l.getD j false = l[j] by simp [List.getD_eq_getElem?_getD, hj]] at this
    simp [this]
  generalize l.any id = r at *
  (refine callS_of_awp (fun w args => Try.call41 ..) Try.func41 rfl (fun w0 m0 wz => ?_); simp only [Try.ntmps41, Try.results41, initT, junks, postC, watchC, sll, sl, List.toList_toArray, List.cons_append, List.nil_append, List.length_cons, List.length_nil, Nat.reduceAdd, Nat.reduceSub])
  (repeat' (first
    | (refine awp_seqK ?_)
    | (refine kt ?_)
    | (refine And.intro ?_ ?_)
    | ((first | refine awp_region ?_ | refine awp_draw (by kernel_rfl) (by kernel_rfl) ?_ | refine Imp.le2 ?_ | refine awp_label ?_ | refine awp_skip ?_ | refine awp_exit ?_ | refine awp_cd ?_ | refine awp_ret ?_); simp (maxSteps := 4000000) only [go_sem, List.append_eq, List.cons_append, List.nil_append, Nat.reduceAdd, Nat.reduceMul, Nat.reduceSub, Nat.reduceLeDiff, Nat.reduceLT, Int.reduceAdd, Int.reduceToNat, Int.reduceLE, Int.reduceLT, Int.reduceNeg, reduceIte, postC, watchC, sll])
    | (intro _h)
    | (refine awp_block ?_)
    | (refine awp_scope ?_)
    | (refine go_split (fun _h => ?_) (fun _h => ?_) <;> simp (maxSteps := 4000000) only [go_sem, List.append_eq, List.cons_append, List.nil_append, Nat.reduceAdd, Nat.reduceMul, Nat.reduceSub, Nat.reduceLeDiff, Nat.reduceLT, Int.reduceAdd, Int.reduceToNat, Int.reduceLE, Int.reduceLT, Int.reduceNeg, reduceIte, postC, watchC, sll])
    | (show heapOK _ _ = true; kernel_rfl)
    | (omega)))
  refine awp_loopJ (fun i : Nat => i ≤ l.length ∧ ∀ j : Nat, j < i → l.getD j false = false) (fun i => ⟨mkT 14 [(0, .psl false l.length (bools l)), (3, .int .i64 i)], [], []⟩) (fun i => l.length - i) 0 ⟨Nat.zero_le _, by simp⟩ (.le2 ?_) ?_
  · simp (maxSteps := 4000000) only [go_sem, List.append_eq, List.cons_append, List.nil_append, Nat.reduceAdd, Nat.reduceMul, Nat.reduceSub, Nat.reduceLeDiff, Nat.reduceLT, Int.reduceAdd, Int.reduceToNat, Int.reduceLE, Int.reduceLT, Int.reduceNeg, reduceIte, postC, watchC, sll]
  · rintro i ⟨hi, hj⟩
    simp (maxSteps := 4000000) only [go_sem, List.append_eq, List.cons_append, List.nil_append, Nat.reduceAdd, Nat.reduceMul, Nat.reduceSub, Nat.reduceLeDiff, Nat.reduceLT, Int.reduceAdd, Int.reduceToNat, Int.reduceLE, Int.reduceLT, Int.reduceNeg, reduceIte, postC, watchC, sll]
    (repeat' (first
    | (refine awp_seqK ?_)
    | (refine kt ?_)
    | (refine And.intro ?_ ?_)
    | ((first | refine awp_region ?_ | refine awp_draw (by kernel_rfl) (by kernel_rfl) ?_ | refine Imp.le2 ?_ | refine awp_label ?_ | refine awp_skip ?_ | refine awp_exit ?_ | refine awp_cd ?_ | refine awp_ret ?_); simp (maxSteps := 4000000) only [go_sem, List.append_eq, List.cons_append, List.nil_append, Nat.reduceAdd, Nat.reduceMul, Nat.reduceSub, Nat.reduceLeDiff, Nat.reduceLT, Int.reduceAdd, Int.reduceToNat, Int.reduceLE, Int.reduceLT, Int.reduceNeg, reduceIte, postC, watchC, sll])
    | (intro _h)
    | (refine awp_block ?_)
    | (refine awp_scope ?_)
    | (refine go_split (fun _h => ?_) (fun _h => ?_) <;> simp (maxSteps := 4000000) only [go_sem, List.append_eq, List.cons_append, List.nil_append, Nat.reduceAdd, Nat.reduceMul, Nat.reduceSub, Nat.reduceLeDiff, Nat.reduceLT, Int.reduceAdd, Int.reduceToNat, Int.reduceLE, Int.reduceLT, Int.reduceNeg, reduceIte, postC, watchC, sll])
    | (show heapOK _ _ = true; kernel_rfl)
    | (omega)))
    all_goals first
      | (refine ⟨i + 1, ⟨by omega, fun j hji => ?_⟩, by omega, .le2 ?_⟩
         · rcases Nat.lt_succ_iff_lt_or_eq.1 hji with h | rfl
           · exact hj j h
           · assumption
         · simp (maxSteps := 4000000) only [go_sem, List.append_eq, List.cons_append, List.nil_append, Nat.reduceAdd, Nat.reduceMul, Nat.reduceSub, Nat.reduceLeDiff, Nat.reduceLT, Int.reduceAdd, Int.reduceToNat, Int.reduceLE, Int.reduceLT, Int.reduceNeg, reduceIte, postC, watchC, sll] <;> omega)
      | exact (hyes i (by omega) ‹_›).symm
      | exact (hno (fun j hjl => hj j (by omega))).symm
      | exact (hyes i (by omega) ‹_›)
      | exact (hno (fun j hjl => hj j (by omega)))
/-- What may be after k rows with a gauge failed, as a list. -/
def mayL (p : Post) (reads : List (List Int)) (f : Int) (k : Nat) : List Bool := tab 1001 fun v => inE (gAt p reads k f) v
theorem mayL_length {p : Post} {reads : List (List Int)} {f : Int} {k : Nat} : (mayL p reads f k).length = 1001 := tab_length
attribute [go_sem] mayL_length
theorem may_c (p : Post) (reads : List (List Int)) (f : Int) (hp : PostOK p) (hr : ReadsOK p reads) : CallS Try.prog 42 [.agg (postC p), sll reads, .int .i64 f] (.psl false 1001 (bools (mayL p reads f reads.length))) := by
  have hl := hr.len
  (refine callS_of_awp (fun w args => Try.call42 ..) Try.func42 rfl (fun w0 m0 wz => ?_); simp only [Try.ntmps42, Try.results42, initT, junks, postC, watchC, sll, sl, List.toList_toArray, List.cons_append, List.nil_append, List.length_cons, List.length_nil, Nat.reduceAdd, Nat.reduceSub])
  (repeat' (first
    | (refine awp_seqK ?_)
    | (refine kt ?_)
    | (refine And.intro ?_ ?_)
    | ((first | refine awp_region ?_ | refine awp_draw (by kernel_rfl) (by kernel_rfl) ?_ | refine Imp.le2 ?_ | refine awp_label ?_ | refine awp_skip ?_ | refine awp_exit ?_ | refine awp_cd ?_ | refine awp_ret ?_); simp (maxSteps := 4000000) only [go_sem, List.append_eq, List.cons_append, List.nil_append, Nat.reduceAdd, Nat.reduceMul, Nat.reduceSub, Nat.reduceLeDiff, Nat.reduceLT, Int.reduceAdd, Int.reduceToNat, Int.reduceLE, Int.reduceLT, Int.reduceNeg, reduceIte, postC, watchC, sll, ↓rep_bools, ↓rep_ints])
    | (intro _h)
    | (refine awp_block ?_)
    | (refine awp_scope ?_)
    | (refine go_split (fun _h => ?_) (fun _h => ?_) <;> simp (maxSteps := 4000000) only [go_sem, List.append_eq, List.cons_append, List.nil_append, Nat.reduceAdd, Nat.reduceMul, Nat.reduceSub, Nat.reduceLeDiff, Nat.reduceLT, Int.reduceAdd, Int.reduceToNat, Int.reduceLE, Int.reduceLT, Int.reduceNeg, reduceIte, postC, watchC, sll, ↓rep_bools, ↓rep_ints])
    | (show heapOK _ _ = true; kernel_rfl)
    | (omega)))
  refine awp_loopN 1001 (fun v => ⟨mkT 100 [(1, sll reads), (2, .int .i64 f), (3, .ptr 0 0 0), (7, .osl 1 0 0 1001), (8, .int .i64 v)], [some (.cells 46 1 0 (postC p)), some (.cells 4 1 0 (bools (tab 1001 fun i => decide (i < v))))], []⟩) (.le2 ?_) ?_
  · simp only [postC]; simp (maxSteps := 4000000) only [go_sem, List.append_eq, List.cons_append, List.nil_append, Nat.reduceAdd, Nat.reduceMul, Nat.reduceSub, Nat.reduceLeDiff, Nat.reduceLT, Int.reduceAdd, Int.reduceToNat, Int.reduceLE, Int.reduceLT, Int.reduceNeg, reduceIte, postC, watchC, sll]
    simp
  · intro v hv
    simp only [postC]; simp (maxSteps := 4000000) only [go_sem, List.append_eq, List.cons_append, List.nil_append, Nat.reduceAdd, Nat.reduceMul, Nat.reduceSub, Nat.reduceLeDiff, Nat.reduceLT, Int.reduceAdd, Int.reduceToNat, Int.reduceLE, Int.reduceLT, Int.reduceNeg, reduceIte, postC, watchC, sll]
    (repeat' (first
    | (refine awp_seqK ?_)
    | (refine kt ?_)
    | (refine And.intro ?_ ?_)
    | ((first | refine awp_region ?_ | refine awp_draw (by kernel_rfl) (by kernel_rfl) ?_ | refine Imp.le2 ?_ | refine awp_label ?_ | refine awp_skip ?_ | refine awp_exit ?_ | refine awp_cd ?_ | refine awp_ret ?_); simp (maxSteps := 4000000) only [go_sem, List.append_eq, List.cons_append, List.nil_append, Nat.reduceAdd, Nat.reduceMul, Nat.reduceSub, Nat.reduceLeDiff, Nat.reduceLT, Int.reduceAdd, Int.reduceToNat, Int.reduceLE, Int.reduceLT, Int.reduceNeg, reduceIte, postC, watchC, sll])
    | (intro _h)
    | (refine awp_block ?_)
    | (refine awp_scope ?_)
    | (refine go_split (fun _h => ?_) (fun _h => ?_) <;> simp (maxSteps := 4000000) only [go_sem, List.append_eq, List.cons_append, List.nil_append, Nat.reduceAdd, Nat.reduceMul, Nat.reduceSub, Nat.reduceLeDiff, Nat.reduceLT, Int.reduceAdd, Int.reduceToNat, Int.reduceLE, Int.reduceLT, Int.reduceNeg, reduceIte, postC, watchC, sll])
    | (show heapOK _ _ = true; kernel_rfl)
    | (omega)))
    · rw [isp_tab (by omega)]
      congr 1
      refine tab_congr fun j hj => ?_
      by_cases e : j = v
      · subst e; simp
      · rw [if_neg e, decide_eq_decide]; omega
    · have ev : v = 1001 := by omega
      (refine awp_frz 1 rfl (by simp (maxSteps := 4000000) only [go_sem, List.append_eq, List.cons_append, List.nil_append, Nat.reduceAdd, Nat.reduceMul, Nat.reduceSub, Nat.reduceLeDiff, Nat.reduceLT, Int.reduceAdd, Int.reduceToNat, Int.reduceLE, Int.reduceLT, Int.reduceNeg, reduceIte, postC, watchC, sll]) (fun _ => rfl) ?_; simp only [frz, fzl, fz2, fz1, fz0, fzH, fzHs, fzO, fzB, List.map_cons, List.map_nil, if_true, if_false, reduceIte, Nat.reduceEqDiff, Nat.reduceAdd, Nat.succ_ne_self, Nat.zero_ne_one, Nat.one_ne_zero, reduceCtorEq, and_self])
      refine awp_loopN reads.length (fun h => ⟨mkT 100 [(1, sll reads), (2, .int .i64 f), (3, .ptr 0 0 0), (7, .psl false 1001 (bools (mayL p reads f h))), (9, .int .i64 h)], [some (.cells 46 1 0 (postC p))], []⟩) (.le2 ?_) ?_
      · simp only [postC]; simp (maxSteps := 4000000) only [go_sem, List.append_eq, List.cons_append, List.nil_append, Nat.reduceAdd, Nat.reduceMul, Nat.reduceSub, Nat.reduceLeDiff, Nat.reduceLT, Int.reduceAdd, Int.reduceToNat, Int.reduceLE, Int.reduceLT, Int.reduceNeg, reduceIte, postC, watchC, sll]
        refine congrArg bools (tab_congr fun j hj => ?_)
        simp only [gAt, inE]
        rw [decide_eq_decide]; omega
      · clear ev hv
        intro h hh
        rcases Nat.lt_or_eq_of_le hh with hh1 | hh1
        · have hrow := hr.rows h hh1
          have hga := hp.gain
          have hdr := hp.drop
          have hgok := gAt_ok (p := p) (reads := reads) h
          have hnew : gAt p reads (h + 1) f = (gAt p reads h f).bind (stepX p (reads.getD h []) (decide (h = 0)) f) := rfl
          simp only [postC]; simp (maxSteps := 4000000) only [go_sem, List.append_eq, List.cons_append, List.nil_append, Nat.reduceAdd, Nat.reduceMul, Nat.reduceSub, Nat.reduceLeDiff, Nat.reduceLT, Int.reduceAdd, Int.reduceToNat, Int.reduceLE, Int.reduceLT, Int.reduceNeg, reduceIte, postC, watchC, sll]
          (repeat' (first
    | (refine awp_seqK ?_)
    | (refine kt ?_)
    | (refine And.intro ?_ ?_)
    | ((first | refine awp_region ?_ | refine awp_draw (by kernel_rfl) (by kernel_rfl) ?_ | refine Imp.le2 ?_ | refine awp_label ?_ | refine awp_skip ?_ | refine awp_exit ?_ | refine awp_cd ?_ | refine awp_ret ?_); simp (maxSteps := 4000000) only [go_sem, List.append_eq, List.cons_append, List.nil_append, Nat.reduceAdd, Nat.reduceMul, Nat.reduceSub, Nat.reduceLeDiff, Nat.reduceLT, Int.reduceAdd, Int.reduceToNat, Int.reduceLE, Int.reduceLT, Int.reduceNeg, reduceIte, postC, watchC, sll, ↓rep_bools, ↓rep_ints])
    | (intro _h)
    | (refine awp_block ?_)
    | (refine awp_scope ?_)
    | (refine go_split (fun _h => ?_) (fun _h => ?_) <;> simp (maxSteps := 4000000) only [go_sem, List.append_eq, List.cons_append, List.nil_append, Nat.reduceAdd, Nat.reduceMul, Nat.reduceSub, Nat.reduceLeDiff, Nat.reduceLT, Int.reduceAdd, Int.reduceToNat, Int.reduceLE, Int.reduceLT, Int.reduceNeg, reduceIte, postC, watchC, sll, ↓rep_bools, ↓rep_ints])
    | (show heapOK _ _ = true; kernel_rfl)
    | (omega)))
          refine awp_loopN 1001 (fun v => ⟨mkT 100 [(1, sll reads), (2, .int .i64 f), (3, .ptr 0 0 0), (7, .psl false 1001 (bools (mayL p reads f h))), (9, .int .i64 h), (10, .osl 1 0 0 1001), (11, .osl 2 0 0 1002), (12, .int .i64 v)],
            [some (.cells 46 1 0 (postC p)), some (.cells 4 1 0 (bools (tab 1001 fun _ => false))), some (.cells 3 1 0 (ints (tab 1002 fun i => if i ≤ v then cnt (fun u => inE (gAt p reads h f) u) i else 0)))], []⟩) (.le2 ?_) ?_
          · simp only [postC]; simp (maxSteps := 4000000) only [go_sem, List.append_eq, List.cons_append, List.nil_append, Nat.reduceAdd, Nat.reduceMul, Nat.reduceSub, Nat.reduceLeDiff, Nat.reduceLT, Int.reduceAdd, Int.reduceToNat, Int.reduceLE, Int.reduceLT, Int.reduceNeg, reduceIte, postC, watchC, sll]
            refine congrArg ints (tab_congr fun j hj => ?_)
            split
            · have : j = 0 := by omega
              subst this; exact cnt_zero.symm
            · rfl
          · intro v hv
            have e1 : (tab 1002 fun i => if i ≤ v then cnt (fun u => inE (gAt p reads h f) u) i else 0).getD v 0 = cnt (fun u => inE (gAt p reads h f) u) v := by
              rw [tab_getD (by omega), if_pos (Nat.le_refl _)]
            have e2 : v < 1001 → isp (tab 1002 fun i => if i ≤ v then cnt (fun u => inE (gAt p reads h f) u) i else 0) (v + 1) (cnt (fun u => inE (gAt p reads h f) u) v) = tab 1002 (fun i => if i = v + 1 then cnt (fun u => inE (gAt p reads h f) u) v else if i ≤ v then cnt (fun u => inE (gAt p reads h f) u) i else 0) := fun h => isp_tab (by omega)
            have e3 : v < 1001 → (mayL p reads f h).getD v false = inE (gAt p reads h f) v := fun h => tab_getD h
            have e4 : v < 1001 → (tab 1002 (fun i => if i = v + 1 then cnt (fun u => inE (gAt p reads h f) u) v else if i ≤ v then cnt (fun u => inE (gAt p reads h f) u) i else 0)).getD (v + 1) 0 = cnt (fun u => inE (gAt p reads h f) u) v := fun h => by
              rw [tab_getD (by omega), if_pos rfl]
            have e5 := cnt_bd (f := fun u => inE (gAt p reads h f) u) v
            have e0 : ((v : Int) + 1).toNat = v + 1 := by omega
            have ec : cnt (fun u => inE (gAt p reads h f) u) (v + 1) = if inE (gAt p reads h f) v = true then cnt (fun u => inE (gAt p reads h f) u) v + 1 else cnt (fun u => inE (gAt p reads h f) u) v := cnt_succ
            rcases Nat.lt_or_eq_of_le hv with hv1 | hv1
            · have e2 := e2 hv1
              have e3 := e3 hv1
              have e4 := e4 hv1
              simp only [postC]; simp (maxSteps := 4000000) only [go_sem, List.append_eq, List.cons_append, List.nil_append, Nat.reduceAdd, Nat.reduceMul, Nat.reduceSub, Nat.reduceLeDiff, Nat.reduceLT, Int.reduceAdd, Int.reduceToNat, Int.reduceLE, Int.reduceLT, Int.reduceNeg, reduceIte, postC, watchC, sll]
              cases hnw : inE (gAt p reads h f) v
              · rw [hnw] at e3 ec
                (repeat' (first
    | (refine awp_seqK ?_)
    | (refine kt ?_)
    | (refine And.intro ?_ ?_)
    | ((first | refine awp_region ?_ | refine awp_draw (by kernel_rfl) (by kernel_rfl) ?_ | refine Imp.le2 ?_ | refine awp_label ?_ | refine awp_skip ?_ | refine awp_exit ?_ | refine awp_cd ?_ | refine awp_ret ?_); simp (maxSteps := 4000000) only [go_sem, List.append_eq, List.cons_append, List.nil_append, Nat.reduceAdd, Nat.reduceMul, Nat.reduceSub, Nat.reduceLeDiff, Nat.reduceLT, Int.reduceAdd, Int.reduceToNat, Int.reduceLE, Int.reduceLT, Int.reduceNeg, reduceIte, postC, watchC, sll, e0, e1, e2, e3, e4, sp_ints])
    | (intro _h)
    | (refine awp_block ?_)
    | (refine awp_scope ?_)
    | (refine go_split (fun _h => ?_) (fun _h => ?_) <;> simp (maxSteps := 4000000) only [go_sem, List.append_eq, List.cons_append, List.nil_append, Nat.reduceAdd, Nat.reduceMul, Nat.reduceSub, Nat.reduceLeDiff, Nat.reduceLT, Int.reduceAdd, Int.reduceToNat, Int.reduceLE, Int.reduceLT, Int.reduceNeg, reduceIte, postC, watchC, sll, e0, e1, e2, e3, e4, sp_ints])
    | (show heapOK _ _ = true; kernel_rfl)
    | (omega)))
                all_goals first
                  | omega
                  | (refine congrArg ints ?_
                     try rw [isp_tab (by omega)]
                     refine tab_congr fun i hi => ?_
                     rcases Nat.lt_trichotomy i (v + 1) with h9 | h9 | h9
                     · simp only [show ¬ i = v + 1 by omega, show i ≤ v by omega, show i ≤ v + 1 by omega, if_true, if_false]
                     · subst h9
                       simp only [if_true, Nat.le_refl, ec, Bool.false_eq_true, if_false]
                     · simp only [show ¬ i = v + 1 by omega, show ¬ i ≤ v by omega, show ¬ i ≤ v + 1 by omega, if_false])
              · rw [hnw] at e3 ec
                (repeat' (first
    | (refine awp_seqK ?_)
    | (refine kt ?_)
    | (refine And.intro ?_ ?_)
    | ((first | refine awp_region ?_ | refine awp_draw (by kernel_rfl) (by kernel_rfl) ?_ | refine Imp.le2 ?_ | refine awp_label ?_ | refine awp_skip ?_ | refine awp_exit ?_ | refine awp_cd ?_ | refine awp_ret ?_); simp (maxSteps := 4000000) only [go_sem, List.append_eq, List.cons_append, List.nil_append, Nat.reduceAdd, Nat.reduceMul, Nat.reduceSub, Nat.reduceLeDiff, Nat.reduceLT, Int.reduceAdd, Int.reduceToNat, Int.reduceLE, Int.reduceLT, Int.reduceNeg, reduceIte, postC, watchC, sll, e0, e1, e2, e3, e4, sp_ints])
    | (intro _h)
    | (refine awp_block ?_)
    | (refine awp_scope ?_)
    | (refine go_split (fun _h => ?_) (fun _h => ?_) <;> simp (maxSteps := 4000000) only [go_sem, List.append_eq, List.cons_append, List.nil_append, Nat.reduceAdd, Nat.reduceMul, Nat.reduceSub, Nat.reduceLeDiff, Nat.reduceLT, Int.reduceAdd, Int.reduceToNat, Int.reduceLE, Int.reduceLT, Int.reduceNeg, reduceIte, postC, watchC, sll, e0, e1, e2, e3, e4, sp_ints])
    | (show heapOK _ _ = true; kernel_rfl)
    | (omega)))
                all_goals first
                  | omega
                  | (refine congrArg ints ?_
                     try rw [isp_tab (by omega)]
                     refine tab_congr fun i hi => ?_
                     rcases Nat.lt_trichotomy i (v + 1) with h9 | h9 | h9
                     · simp only [show ¬ i = v + 1 by omega, show i ≤ v by omega, show i ≤ v + 1 by omega, if_true, if_false]
                     · subst h9
                       simp only [if_true, Nat.le_refl, ec, Bool.false_eq_true, if_false]
                     · simp only [show ¬ i = v + 1 by omega, show ¬ i ≤ v by omega, show ¬ i ≤ v + 1 by omega, if_false])
            · simp only [postC]; simp (maxSteps := 4000000) only [go_sem, List.append_eq, List.cons_append, List.nil_append, Nat.reduceAdd, Nat.reduceMul, Nat.reduceSub, Nat.reduceLeDiff, Nat.reduceLT, Int.reduceAdd, Int.reduceToNat, Int.reduceLE, Int.reduceLT, Int.reduceNeg, reduceIte, postC, watchC, sll]
              (repeat' (first
    | ((exfalso; omega))
    | (refine awp_seqK ?_)
    | (refine kt ?_)
    | (refine And.intro ?_ ?_)
    | ((first | refine awp_region ?_ | refine awp_draw (by kernel_rfl) (by kernel_rfl) ?_ | refine Imp.le2 ?_ | refine awp_label ?_ | refine awp_skip ?_ | refine awp_exit ?_ | refine awp_cd ?_ | refine awp_ret ?_); simp (maxSteps := 4000000) only [go_sem, List.append_eq, List.cons_append, List.nil_append, Nat.reduceAdd, Nat.reduceMul, Nat.reduceSub, Nat.reduceLeDiff, Nat.reduceLT, Int.reduceAdd, Int.reduceToNat, Int.reduceLE, Int.reduceLT, Int.reduceNeg, reduceIte, postC, watchC, sll])
    | (intro _h)
    | (refine awp_block ?_)
    | (refine awp_scope ?_)
    | (refine go_split (fun _h => ?_) (fun _h => ?_) <;> simp (maxSteps := 4000000) only [go_sem, List.append_eq, List.cons_append, List.nil_append, Nat.reduceAdd, Nat.reduceMul, Nat.reduceSub, Nat.reduceLeDiff, Nat.reduceLT, Int.reduceAdd, Int.reduceToNat, Int.reduceLE, Int.reduceLT, Int.reduceNeg, reduceIte, postC, watchC, sll])
    | (show heapOK _ _ = true; kernel_rfl)
    | (omega)))
              refine awp_loopN 1001 (fun v => ⟨mkT 100 [(1, sll reads), (2, .int .i64 f), (3, .ptr 0 0 0), (7, .psl false 1001 (bools (mayL p reads f h))), (9, .int .i64 h), (10, .osl 1 0 0 1001), (11, .osl 2 0 0 1002), (13, .int .i64 v)],
                [some (.cells 46 1 0 (postC p)), some (.cells 4 1 0 (bools (tab 1001 fun i => if i < v then inE (gAt p reads (h + 1) f) i else false))), some (.cells 3 1 0 (ints (tab 1002 (cnt (fun u => inE (gAt p reads h f) u)))))], []⟩) (.le2 ?_) ?_
              · simp only [postC]; simp (maxSteps := 4000000) only [go_sem, List.append_eq, List.cons_append, List.nil_append, Nat.reduceAdd, Nat.reduceMul, Nat.reduceSub, Nat.reduceLeDiff, Nat.reduceLT, Int.reduceAdd, Int.reduceToNat, Int.reduceLE, Int.reduceLT, Int.reduceNeg, reduceIte, postC, watchC, sll]
                refine ⟨congrArg bools (tab_congr fun j hj => ?_), congrArg ints (tab_congr fun j hj => ?_)⟩
                · rw [if_neg (by omega)]
                · rw [if_pos (by omega)]
              · clear e1 e2 e3 e4 e5 e0 ec hv hv1
                intro v hv
                have e1 : ((min 1000 ((v : Int) + p.drop) + 1)).toNat = fromHi p v := by unfold fromHi; omega
                have e2 : (max 0 ((v : Int) - p.gain)).toNat = fromLo p v := rfl
                have e3 : v < 1001 → (tab 1002 (cnt (fun u => inE (gAt p reads h f) u))).getD (fromHi p v) 0 = cnt (fun u => inE (gAt p reads h f) u) (fromHi p v) := fun _ => tab_getD (by unfold fromHi; omega)
                have e4 : v < 1001 → (tab 1002 (cnt (fun u => inE (gAt p reads h f) u))).getD (fromLo p v) 0 = cnt (fun u => inE (gAt p reads h f) u) (fromLo p v) := fun _ => tab_getD (by unfold fromLo; omega)
                have hfh : v < 1001 → fromHi p v < 1002 := fun _ => by unfold fromHi; omega
                have hfl : v < 1001 → fromLo p v < 1002 := fun _ => by unfold fromLo; omega
                have hag := fun k : v < 1001 => agrees_c p (reads.getD h []) f v hp hrow ⟨by omega, by omega⟩
                simp only [postC, sl] at hag
                rcases Nat.lt_or_eq_of_le hv with hv1 | hv1
                · have e3 := e3 hv1
                  have e4 := e4 hv1
                  have hag := hag hv1
                  have hfh := hfh hv1
                  have hfl := hfl hv1
                  have hsi := step_in (p := p) (row := reads.getD h []) (f := f) (x := gAt p reads h f) (v := v) hp (by omega) (fun z hz => hgok f z hz)
                  by_cases h0 : h = 0
                  · have hin : inE (gAt p reads (h + 1) f) v = agreesB p.errs (reads.getD h []) f v := by
                      subst h0; exact first_in (by omega)
                    have e0 : ((h : Int) = 0) = True := eq_true (by omega)
                    generalize agreesB p.errs (reads.getD h []) f v = ab at *
                    simp only [postC]; simp (maxSteps := 4000000) only [go_sem, List.append_eq, List.cons_append, List.nil_append, Nat.reduceAdd, Nat.reduceMul, Nat.reduceSub, Nat.reduceLeDiff, Nat.reduceLT, Int.reduceAdd, Int.reduceToNat, Int.reduceLE, Int.reduceLT, Int.reduceNeg, reduceIte, postC, watchC, sll]
                    (repeat' (first
    | (refine awp_seqK ?_)
    | (refine kt ?_)
    | (refine And.intro ?_ ?_)
    | ((first | refine awp_region ?_ | refine awp_draw (by kernel_rfl) (by kernel_rfl) ?_ | refine Imp.le2 ?_ | refine awp_label ?_ | refine awp_skip ?_ | refine awp_exit ?_ | refine awp_cd ?_ | refine awp_ret ?_); simp (maxSteps := 4000000) only [go_sem, List.append_eq, List.cons_append, List.nil_append, Nat.reduceAdd, Nat.reduceMul, Nat.reduceSub, Nat.reduceLeDiff, Nat.reduceLT, Int.reduceAdd, Int.reduceToNat, Int.reduceLE, Int.reduceLT, Int.reduceNeg, reduceIte, postC, watchC, sll, e0, decide_true, e1, e2, e3, e4])
    | (intro _h)
    | (refine awp_block ?_)
    | (refine awp_scope ?_)
    | ((first | refine callK_of (hag) ?_); try simp (maxSteps := 4000000) only [go_sem, List.append_eq, List.cons_append, List.nil_append, Nat.reduceAdd, Nat.reduceMul, Nat.reduceSub, Nat.reduceLeDiff, Nat.reduceLT, Int.reduceAdd, Int.reduceToNat, Int.reduceLE, Int.reduceLT, Int.reduceNeg, reduceIte, postC, watchC, sll, e0, decide_true, e1, e2, e3, e4])
    | (refine go_split (fun _h => ?_) (fun _h => ?_) <;> simp (maxSteps := 4000000) only [go_sem, List.append_eq, List.cons_append, List.nil_append, Nat.reduceAdd, Nat.reduceMul, Nat.reduceSub, Nat.reduceLeDiff, Nat.reduceLT, Int.reduceAdd, Int.reduceToNat, Int.reduceLE, Int.reduceLT, Int.reduceNeg, reduceIte, postC, watchC, sll, e0, decide_true, e1, e2, e3, e4])
    | (show heapOK _ _ = true; kernel_rfl)
    | (omega)))
                    all_goals (refine congrArg bools (tab_fill hv1 ?_); rw [hin]; assumption)
                  · have hin : inE (gAt p reads (h + 1) f) v = (comesB p (gAt p reads h f) v && agreesB p.errs (reads.getD h []) f v) := by
                      rw [hnew, decide_eq_false h0]; exact hsi
                    have e0 : ((h : Int) = 0) = False := eq_false (by omega)
                    unfold comesB at hin
                    generalize agreesB p.errs (reads.getD h []) f v = ab at *
                    simp only [postC]; simp (maxSteps := 4000000) only [go_sem, List.append_eq, List.cons_append, List.nil_append, Nat.reduceAdd, Nat.reduceMul, Nat.reduceSub, Nat.reduceLeDiff, Nat.reduceLT, Int.reduceAdd, Int.reduceToNat, Int.reduceLE, Int.reduceLT, Int.reduceNeg, reduceIte, postC, watchC, sll]
                    (repeat' (first
    | (refine awp_seqK ?_)
    | (refine kt ?_)
    | (refine And.intro ?_ ?_)
    | ((first | refine awp_region ?_ | refine awp_draw (by kernel_rfl) (by kernel_rfl) ?_ | refine Imp.le2 ?_ | refine awp_label ?_ | refine awp_skip ?_ | refine awp_exit ?_ | refine awp_cd ?_ | refine awp_ret ?_); simp (maxSteps := 4000000) only [go_sem, List.append_eq, List.cons_append, List.nil_append, Nat.reduceAdd, Nat.reduceMul, Nat.reduceSub, Nat.reduceLeDiff, Nat.reduceLT, Int.reduceAdd, Int.reduceToNat, Int.reduceLE, Int.reduceLT, Int.reduceNeg, reduceIte, postC, watchC, sll, e0, decide_false, e1, e2, e3, e4])
    | (intro _h)
    | (refine awp_block ?_)
    | (refine awp_scope ?_)
    | ((first | refine callK_of (hag) ?_); try simp (maxSteps := 4000000) only [go_sem, List.append_eq, List.cons_append, List.nil_append, Nat.reduceAdd, Nat.reduceMul, Nat.reduceSub, Nat.reduceLeDiff, Nat.reduceLT, Int.reduceAdd, Int.reduceToNat, Int.reduceLE, Int.reduceLT, Int.reduceNeg, reduceIte, postC, watchC, sll, e0, decide_false, e1, e2, e3, e4])
    | (refine go_split (fun _h => ?_) (fun _h => ?_) <;> simp (maxSteps := 4000000) only [go_sem, List.append_eq, List.cons_append, List.nil_append, Nat.reduceAdd, Nat.reduceMul, Nat.reduceSub, Nat.reduceLeDiff, Nat.reduceLT, Int.reduceAdd, Int.reduceToNat, Int.reduceLE, Int.reduceLT, Int.reduceNeg, reduceIte, postC, watchC, sll, e0, decide_false, e1, e2, e3, e4])
    | (show heapOK _ _ = true; kernel_rfl)
    | (omega)))
                    all_goals (refine congrArg bools (tab_fill hv1 ?_); rw [hin])
                    all_goals first
                      | (rw [decide_eq_true ‹_›, Bool.true_and]; assumption)
                      | (rw [decide_eq_false ‹_›, Bool.false_and])
                · simp only [postC]; simp (maxSteps := 4000000) only [go_sem, List.append_eq, List.cons_append, List.nil_append, Nat.reduceAdd, Nat.reduceMul, Nat.reduceSub, Nat.reduceLeDiff, Nat.reduceLT, Int.reduceAdd, Int.reduceToNat, Int.reduceLE, Int.reduceLT, Int.reduceNeg, reduceIte, postC, watchC, sll]
                  (repeat' (first
    | ((exfalso; omega))
    | (refine awp_seqK ?_)
    | (refine kt ?_)
    | (refine And.intro ?_ ?_)
    | ((first | refine awp_region ?_ | refine awp_draw (by kernel_rfl) (by kernel_rfl) ?_ | refine awp_label ?_ | refine awp_skip ?_ | refine awp_exit ?_ | refine awp_cd ?_ | refine awp_ret ?_); simp (maxSteps := 4000000) only [go_sem, List.append_eq, List.cons_append, List.nil_append, Nat.reduceAdd, Nat.reduceMul, Nat.reduceSub, Nat.reduceLeDiff, Nat.reduceLT, Int.reduceAdd, Int.reduceToNat, Int.reduceLE, Int.reduceLT, Int.reduceNeg, reduceIte, postC, watchC, sll])
    | (intro _h)
    | (refine awp_block ?_)
    | (refine awp_scope ?_)
    | (refine go_split (fun _h => ?_) (fun _h => ?_) <;> simp (maxSteps := 4000000) only [go_sem, List.append_eq, List.cons_append, List.nil_append, Nat.reduceAdd, Nat.reduceMul, Nat.reduceSub, Nat.reduceLeDiff, Nat.reduceLT, Int.reduceAdd, Int.reduceToNat, Int.reduceLE, Int.reduceLT, Int.reduceNeg, reduceIte, postC, watchC, sll])
    | (show heapOK _ _ = true; kernel_rfl)
    | (omega)))
                  (refine Imp.trans (Imp.frz 1 rfl ?_ (fun _ => rfl)) (.le2 ?_); (focus (simp (maxSteps := 4000000) only [go_sem, List.append_eq, List.cons_append, List.nil_append, Nat.reduceAdd, Nat.reduceMul, Nat.reduceSub, Nat.reduceLeDiff, Nat.reduceLT, Int.reduceAdd, Int.reduceToNat, Int.reduceLE, Int.reduceLT, Int.reduceNeg, reduceIte, postC, watchC, sll])); simp only [frz, fzl, fz2, fz1, fz0, fzH, fzHs, fzO, fzB, List.map_cons, List.map_nil, if_true, if_false, reduceIte, Nat.reduceEqDiff, Nat.reduceAdd, Nat.succ_ne_self, Nat.zero_ne_one, Nat.one_ne_zero, reduceCtorEq, and_self]; simp (maxSteps := 4000000) only [go_sem, List.append_eq, List.cons_append, List.nil_append, Nat.reduceAdd, Nat.reduceMul, Nat.reduceSub, Nat.reduceLeDiff, Nat.reduceLT, Int.reduceAdd, Int.reduceToNat, Int.reduceLE, Int.reduceLT, Int.reduceNeg, reduceIte, postC, watchC, sll])
                  refine ⟨congrArg bools (tab_congr fun j hj => ?_), by omega⟩
                  rw [if_pos (by omega)]
        · simp only [postC]; simp (maxSteps := 4000000) only [go_sem, List.append_eq, List.cons_append, List.nil_append, Nat.reduceAdd, Nat.reduceMul, Nat.reduceSub, Nat.reduceLeDiff, Nat.reduceLT, Int.reduceAdd, Int.reduceToNat, Int.reduceLE, Int.reduceLT, Int.reduceNeg, reduceIte, postC, watchC, sll]
          (repeat' (first
    | ((exfalso; omega))
    | (refine awp_seqK ?_)
    | (refine kt ?_)
    | (refine And.intro ?_ ?_)
    | ((first | refine awp_region ?_ | refine awp_draw (by kernel_rfl) (by kernel_rfl) ?_ | refine Imp.le2 ?_ | refine awp_label ?_ | refine awp_skip ?_ | refine awp_exit ?_ | refine awp_cd ?_ | refine awp_ret ?_); simp (maxSteps := 4000000) only [go_sem, List.append_eq, List.cons_append, List.nil_append, Nat.reduceAdd, Nat.reduceMul, Nat.reduceSub, Nat.reduceLeDiff, Nat.reduceLT, Int.reduceAdd, Int.reduceToNat, Int.reduceLE, Int.reduceLT, Int.reduceNeg, reduceIte, postC, watchC, sll])
    | (intro _h)
    | (refine awp_block ?_)
    | (refine awp_scope ?_)
    | (refine go_split (fun _h => ?_) (fun _h => ?_) <;> simp (maxSteps := 4000000) only [go_sem, List.append_eq, List.cons_append, List.nil_append, Nat.reduceAdd, Nat.reduceMul, Nat.reduceSub, Nat.reduceLeDiff, Nat.reduceLT, Int.reduceAdd, Int.reduceToNat, Int.reduceLE, Int.reduceLT, Int.reduceNeg, reduceIte, postC, watchC, sll])
    | (show heapOK _ _ = true; kernel_rfl)
    | (omega)))
          all_goals first | omega | (rw [hh1])
end Go.Am

/- Contracts of the reference: levels, states, truths, errors. -/
namespace Go.Am
open Go.RowKit Go.Proofs
attribute [local irreducible] AWP CallS Kt goK CallK stepK evOps SemF SemY Imp
set_option maxRecDepth 4000
set_option linter.unusedSimpArgs false
set_option linter.unusedVariables false
set_option maxHeartbeats 1600000

def refLeft (p : Post) (v : Int) : Int := if p.fall ≤ v then 0 else if p.gain = 0 then -1 else leftOf p v
theorem left_lt {p : Post} {v : Int} (hv : v < p.fall) (hg : 0 < p.gain) (n : Int) : n < leftOf p v ↔ v + n * p.gain < p.fall := by
  have e : leftOf p v = (p.fall - v + p.gain - 1) / p.gain := by
    unfold leftOf
    rw [if_neg (by omega), if_neg (by omega), Int.tdiv_eq_ediv_of_nonneg (by omega)]
  rw [e]
  have := Int.le_ediv_iff_mul_le (a := n + 1) (b := p.fall - v + p.gain - 1) hg
  rw [Int.add_mul] at this
  omega
theorem refLeft_c (p : Post) (v : Int) (hp : PostOK p) (hv : 0 ≤ v ∧ v ≤ 1000) : CallS Try.prog 90 [.agg (postC p), .int .i64 v] (.int .i64 (refLeft p v)) := by
  have h1 := hp.fall
  have h2 := hp.gain
  have hlt := fun a b => left_lt (p := p) (v := v) a b
  have hb := leftOf_bd hp (show -1000000 ≤ v by omega)
  unfold refLeft
  generalize leftOf p v = L at *
  (refine callS_of_awp (fun w args => Try.call90 ..) Try.func90 rfl (fun w0 m0 wz => ?_); simp only [Try.ntmps90, Try.results90, initT, junks, postC, watchC, sll, sl, List.toList_toArray, List.cons_append, List.nil_append, List.length_cons, List.length_nil, Nat.reduceAdd, Nat.reduceSub])
  (repeat' (first
    | (refine awp_seqK ?_)
    | (refine kt ?_)
    | (refine And.intro ?_ ?_)
    | ((first | refine awp_region ?_ | refine awp_draw (by kernel_rfl) (by kernel_rfl) ?_ | refine Imp.le2 ?_ | refine awp_label ?_ | refine awp_skip ?_ | refine awp_exit ?_ | refine awp_cd ?_ | refine awp_ret ?_); simp (maxSteps := 4000000) only [go_sem, List.append_eq, List.cons_append, List.nil_append, Nat.reduceAdd, Nat.reduceMul, Nat.reduceSub, Nat.reduceLeDiff, Nat.reduceLT, Int.reduceAdd, Int.reduceToNat, Int.reduceLE, Int.reduceLT, Int.reduceNeg, reduceIte, postC, watchC, sll])
    | (intro _h)
    | (refine awp_block ?_)
    | (refine awp_scope ?_)
    | (refine go_split (fun _h => ?_) (fun _h => ?_) <;> simp (maxSteps := 4000000) only [go_sem, List.append_eq, List.cons_append, List.nil_append, Nat.reduceAdd, Nat.reduceMul, Nat.reduceSub, Nat.reduceLeDiff, Nat.reduceLT, Int.reduceAdd, Int.reduceToNat, Int.reduceLE, Int.reduceLT, Int.reduceNeg, reduceIte, postC, watchC, sll])
    | (show heapOK _ _ = true; kernel_rfl)
    | (omega)))
  all_goals first
    | (rw [if_pos (by omega)])
    | (rw [if_neg (by omega), if_pos (by omega)])
    | (refine awp_loopN L.toNat (fun n => ⟨mkT 25 [(1, .int .i64 v), (2, .ptr 0 0 0), (5, .int .i64 n)], [some (.cells 46 1 0 (postC p))], []⟩) (.le2 ?_) ?_
       · simp only [postC]; simp (maxSteps := 4000000) only [go_sem, List.append_eq, List.cons_append, List.nil_append, Nat.reduceAdd, Nat.reduceMul, Nat.reduceSub, Nat.reduceLeDiff, Nat.reduceLT, Int.reduceAdd, Int.reduceToNat, Int.reduceLE, Int.reduceLT, Int.reduceNeg, reduceIte, postC, watchC, sll]
       · intro n hn
         have hl0 := hlt (by omega) (by omega) n
         have hl1 := hlt (by omega) (by omega) ((n : Int) - 1)
         rw [Int.sub_mul] at hl1
         have hnn : 0 ≤ (n : Int) * p.gain := Int.mul_nonneg (by omega) (by omega)
         simp only [postC]; simp (maxSteps := 4000000) only [go_sem, List.append_eq, List.cons_append, List.nil_append, Nat.reduceAdd, Nat.reduceMul, Nat.reduceSub, Nat.reduceLeDiff, Nat.reduceLT, Int.reduceAdd, Int.reduceToNat, Int.reduceLE, Int.reduceLT, Int.reduceNeg, reduceIte, postC, watchC, sll]
         (repeat' (first
    | (refine awp_seqK ?_)
    | (refine kt ?_)
    | (refine And.intro ?_ ?_)
    | ((first | refine awp_region ?_ | refine awp_draw (by kernel_rfl) (by kernel_rfl) ?_ | refine Imp.le2 ?_ | refine awp_label ?_ | refine awp_skip ?_ | refine awp_exit ?_ | refine awp_cd ?_ | refine awp_ret ?_); simp (maxSteps := 4000000) only [go_sem, List.append_eq, List.cons_append, List.nil_append, Nat.reduceAdd, Nat.reduceMul, Nat.reduceSub, Nat.reduceLeDiff, Nat.reduceLT, Int.reduceAdd, Int.reduceToNat, Int.reduceLE, Int.reduceLT, Int.reduceNeg, reduceIte, postC, watchC, sll])
    | (intro _h)
    | (refine awp_block ?_)
    | (refine awp_scope ?_)
    | (refine go_split (fun _h => ?_) (fun _h => ?_) <;> simp (maxSteps := 4000000) only [go_sem, List.append_eq, List.cons_append, List.nil_append, Nat.reduceAdd, Nat.reduceMul, Nat.reduceSub, Nat.reduceLeDiff, Nat.reduceLT, Int.reduceAdd, Int.reduceToNat, Int.reduceLE, Int.reduceLT, Int.reduceNeg, reduceIte, postC, watchC, sll])
    | (show heapOK _ _ = true; kernel_rfl)
    | (omega)))
         all_goals first
           | omega
           | (rw [if_neg (by omega), if_neg (by omega)]; omega)
           | trace_state)
theorem refLevel_c (p : Post) (v : Int) (hp : PostOK p) (hv : 0 ≤ v ∧ v ≤ 1000) : CallS Try.prog 66 [.agg (postC p), .int .i64 v] (.int .u8 (levelOf p v)) := by
  have h1 := hp.fall
  have h2 := hp.gain
  have h3 := hp.out
  have h4 := hp.ahead
  have hc := refLeft_c p v hp hv
  have hL : refLeft p v = -1 ∧ leftOf p v = 1073741824 ∨ refLeft p v = leftOf p v := by
    unfold refLeft leftOf
    by_cases h : p.fall ≤ v
    · rw [if_pos h, if_pos h]; exact .inr rfl
    · rw [if_neg h, if_neg h]
      by_cases h : p.gain = 0
      · rw [if_pos h, if_pos h]; exact .inl ⟨rfl, rfl⟩
      · rw [if_neg h, if_neg h]; exact .inr rfl
  have hb := leftOf_bd hp (show -1000000 ≤ v by omega)
  unfold levelOf
  simp only [postC, sl] at hc
  generalize refLeft p v = R at *
  generalize leftOf p v = L at *
  (refine callS_of_awp (fun w args => Try.call66 ..) Try.func66 rfl (fun w0 m0 wz => ?_); simp only [Try.ntmps66, Try.results66, initT, junks, postC, watchC, sll, sl, List.toList_toArray, List.cons_append, List.nil_append, List.length_cons, List.length_nil, Nat.reduceAdd, Nat.reduceSub])
  (repeat' (first
    | (refine awp_seqK ?_)
    | (refine kt ?_)
    | (refine And.intro ?_ ?_)
    | ((first | refine awp_region ?_ | refine awp_draw (by kernel_rfl) (by kernel_rfl) ?_ | refine Imp.le2 ?_ | refine awp_label ?_ | refine awp_skip ?_ | refine awp_exit ?_ | refine awp_cd ?_ | refine awp_ret ?_); simp (maxSteps := 4000000) only [go_sem, List.append_eq, List.cons_append, List.nil_append, Nat.reduceAdd, Nat.reduceMul, Nat.reduceSub, Nat.reduceLeDiff, Nat.reduceLT, Int.reduceAdd, Int.reduceToNat, Int.reduceLE, Int.reduceLT, Int.reduceNeg, reduceIte, postC, watchC, sll])
    | (intro _h)
    | (refine awp_block ?_)
    | (refine awp_scope ?_)
    | ((first | refine callK_of (hc) ?_); try simp (maxSteps := 4000000) only [go_sem, List.append_eq, List.cons_append, List.nil_append, Nat.reduceAdd, Nat.reduceMul, Nat.reduceSub, Nat.reduceLeDiff, Nat.reduceLT, Int.reduceAdd, Int.reduceToNat, Int.reduceLE, Int.reduceLT, Int.reduceNeg, reduceIte, postC, watchC, sll])
    | (refine go_split (fun _h => ?_) (fun _h => ?_) <;> simp (maxSteps := 4000000) only [go_sem, List.append_eq, List.cons_append, List.nil_append, Nat.reduceAdd, Nat.reduceMul, Nat.reduceSub, Nat.reduceLeDiff, Nat.reduceLT, Int.reduceAdd, Int.reduceToNat, Int.reduceLE, Int.reduceLT, Int.reduceNeg, reduceIte, postC, watchC, sll])
    | (show heapOK _ _ = true; kernel_rfl)
    | (omega)))
  all_goals first
    | omega
    | (split <;> first | omega | (split <;> first | omega | (split <;> omega)))
    | trace_state
/-- The state by the reference. -/
def aLo (s : Option (Int × Int)) : Int := match s with | none => -1 | some s => s.1
def acLo (lo a v : Int) : Int := if v ≤ a then lo else if lo < 0 then a else min lo a
def acHi (hi a b v : Int) : Int := if v ≤ a then hi else max hi (min (v - 1) b)
theorem acLo_is (lo a v : Int) : (v ≤ a ∧ acLo lo a v = lo) ∨ (a < v ∧ lo < 0 ∧ acLo lo a v = a) ∨ (a < v ∧ 0 ≤ lo ∧ acLo lo a v = min lo a) := by
  unfold acLo
  split
  · omega
  · split <;> omega
theorem acHi_is (hi a b v : Int) : (v ≤ a ∧ acHi hi a b v = hi) ∨ (a < v ∧ acHi hi a b v = max hi (min (v - 1) b)) := by
  unfold acHi
  split <;> omega
theorem at_c (p : Post) (reads : List (List Int)) (hp : PostOK p) (hr : ReadsOK p reads) : CallS Try.prog 36 [.agg (postC p), sll reads]
    (.tup [.agg [.int .i64 (aLo (hull (gAt p reads reads.length) (p.errs.length + 1))), .int .i64 (hHi (hull (gAt p reads reads.length) (p.errs.length + 1))), .int .u8 (levelOf p (hHi (hull (gAt p reads reads.length) (p.errs.length + 1))))], .bool (hull (gAt p reads reads.length) (p.errs.length + 1)).isSome]) := by
  obtain ⟨hl1, hl2⟩ := hp.len
  have hl3 := hr.len
  have hgok := gAt_ok (p := p) (reads := reads) reads.length
  have hmc := fun f => may_c p reads f hp hr
  simp only [postC, sl, sll] at hmc
  (refine callS_of_awp (fun w args => Try.call36 ..) Try.func36 rfl (fun w0 m0 wz => ?_); simp only [Try.ntmps36, Try.results36, initT, junks, postC, watchC, sll, sl, List.toList_toArray, List.cons_append, List.nil_append, List.length_cons, List.length_nil, Nat.reduceAdd, Nat.reduceSub])
  (repeat' (first
    | (refine awp_seqK ?_)
    | (refine kt ?_)
    | (refine And.intro ?_ ?_)
    | ((first | refine awp_region ?_ | refine awp_draw (by kernel_rfl) (by kernel_rfl) ?_ | refine Imp.le2 ?_ | refine awp_label ?_ | refine awp_skip ?_ | refine awp_exit ?_ | refine awp_cd ?_ | refine awp_ret ?_); simp (maxSteps := 4000000) only [go_sem, List.append_eq, List.cons_append, List.nil_append, Nat.reduceAdd, Nat.reduceMul, Nat.reduceSub, Nat.reduceLeDiff, Nat.reduceLT, Int.reduceAdd, Int.reduceToNat, Int.reduceLE, Int.reduceLT, Int.reduceNeg, reduceIte, postC, watchC, sll])
    | (intro _h)
    | (refine awp_block ?_)
    | (refine awp_scope ?_)
    | (refine go_split (fun _h => ?_) (fun _h => ?_) <;> simp (maxSteps := 4000000) only [go_sem, List.append_eq, List.cons_append, List.nil_append, Nat.reduceAdd, Nat.reduceMul, Nat.reduceSub, Nat.reduceLeDiff, Nat.reduceLT, Int.reduceAdd, Int.reduceToNat, Int.reduceLE, Int.reduceLT, Int.reduceNeg, reduceIte, postC, watchC, sll])
    | (show heapOK _ _ = true; kernel_rfl)
    | (omega)))
  refine awp_loopN (p.errs.length + 1) (fun i => ⟨mkT 55 [(1, sll reads), (2, .ptr 0 0 0), (4, .ptr 1 0 0), (6, .ptr 2 0 0), (7, .int .i64 ((i : Int) - 1))], [some (.cells 46 1 0 (postC p)), some (.cells 70 1 0 [.int .i64 0, .int .i64 0, .int .u8 0]), some (.cells 70 1 0 [.int .i64 (aLo (hull (gAt p reads reads.length) i)), .int .i64 (hHi (hull (gAt p reads reads.length) i)), .int .u8 0])], []⟩) (.le2 ?_) ?_
  · simp only [postC]; simp (maxSteps := 4000000) only [go_sem, List.append_eq, List.cons_append, List.nil_append, Nat.reduceAdd, Nat.reduceMul, Nat.reduceSub, Nat.reduceLeDiff, Nat.reduceLT, Int.reduceAdd, Int.reduceToNat, Int.reduceLE, Int.reduceLT, Int.reduceNeg, reduceIte, postC, watchC, sll]
    exact ⟨rfl, rfl⟩
  · intro i hi
    have hbd := hull_bd hgok i
    rcases Nat.lt_or_eq_of_le hi with hi1 | hi1
    · have hm := hmc ((i : Int) - 1)
      have hln := mayL_length (p := p) (reads := reads) (f := (i : Int) - 1) (k := reads.length)
      have hget : ∀ v, v < 1001 → (mayL p reads ((i : Int) - 1) reads.length).getD v false = inE (gAt p reads reads.length ((i : Int) - 1)) v := fun v h => tab_getD h
      have hz := hgok ((i : Int) - 1)
      have hsu : hull (gAt p reads reads.length) (i + 1) = match gAt p reads reads.length ((i : Int) - 1) with | none => hull (gAt p reads reads.length) i | some x => some (joinE (hull (gAt p reads reads.length) i) x) := rfl
      generalize mayL p reads ((i : Int) - 1) reads.length = ml at *
      simp only [postC]; simp (maxSteps := 4000000) only [go_sem, List.append_eq, List.cons_append, List.nil_append, Nat.reduceAdd, Nat.reduceMul, Nat.reduceSub, Nat.reduceLeDiff, Nat.reduceLT, Int.reduceAdd, Int.reduceToNat, Int.reduceLE, Int.reduceLT, Int.reduceNeg, reduceIte, postC, watchC, sll]
      (repeat' (first
    | (refine awp_seqK ?_)
    | (refine kt ?_)
    | (refine And.intro ?_ ?_)
    | ((first | refine awp_region ?_ | refine awp_draw (by kernel_rfl) (by kernel_rfl) ?_ | refine Imp.le2 ?_ | refine awp_label ?_ | refine awp_skip ?_ | refine awp_exit ?_ | refine awp_cd ?_ | refine awp_ret ?_); simp (maxSteps := 4000000) only [go_sem, List.append_eq, List.cons_append, List.nil_append, Nat.reduceAdd, Nat.reduceMul, Nat.reduceSub, Nat.reduceLeDiff, Nat.reduceLT, Int.reduceAdd, Int.reduceToNat, Int.reduceLE, Int.reduceLT, Int.reduceNeg, reduceIte, postC, watchC, sll])
    | (intro _h)
    | (refine awp_block ?_)
    | (refine awp_scope ?_)
    | ((first | refine callK_of (hm) ?_); try simp (maxSteps := 4000000) only [go_sem, List.append_eq, List.cons_append, List.nil_append, Nat.reduceAdd, Nat.reduceMul, Nat.reduceSub, Nat.reduceLeDiff, Nat.reduceLT, Int.reduceAdd, Int.reduceToNat, Int.reduceLE, Int.reduceLT, Int.reduceNeg, reduceIte, postC, watchC, sll])
    | (refine go_split (fun _h => ?_) (fun _h => ?_) <;> simp (maxSteps := 4000000) only [go_sem, List.append_eq, List.cons_append, List.nil_append, Nat.reduceAdd, Nat.reduceMul, Nat.reduceSub, Nat.reduceLeDiff, Nat.reduceLT, Int.reduceAdd, Int.reduceToNat, Int.reduceLE, Int.reduceLT, Int.reduceNeg, reduceIte, postC, watchC, sll])
    | (show heapOK _ _ = true; kernel_rfl)
    | (omega)))
      generalize gAt p reads reads.length ((i : Int) - 1) = x at *
      rw [hsu]
      clear hm hmc hsu
      generalize hull (gAt p reads reads.length) i = s at *
      · cases x with
        | none =>
          refine awp_loopN 1001 (fun v => ⟨mkT 55 [(1, sll reads), (2, .ptr 0 0 0), (4, .ptr 1 0 0), (6, .ptr 2 0 0), (7, .int .i64 ((i : Int) - 1)), (8, .psl false 1001 (bools ml)), (9, .int .i64 v)], [some (.cells 46 1 0 (postC p)), some (.cells 70 1 0 [.int .i64 0, .int .i64 0, .int .u8 0]), some (.cells 70 1 0 [.int .i64 (aLo s), .int .i64 (hHi s), .int .u8 0])], []⟩) (.le2 ?_) ?_
          · simp only [postC]; simp (maxSteps := 4000000) only [go_sem, List.append_eq, List.cons_append, List.nil_append, Nat.reduceAdd, Nat.reduceMul, Nat.reduceSub, Nat.reduceLeDiff, Nat.reduceLT, Int.reduceAdd, Int.reduceToNat, Int.reduceLE, Int.reduceLT, Int.reduceNeg, reduceIte, postC, watchC, sll]
          · intro v hv
            have hgv := fun h : v < 1001 => (hget v h).trans (show inE none v = false from rfl)
            rcases Nat.lt_or_eq_of_le hv with hv1 | hv1
            · have hgv := hgv hv1
              simp only [postC]; simp (maxSteps := 4000000) only [go_sem, List.append_eq, List.cons_append, List.nil_append, Nat.reduceAdd, Nat.reduceMul, Nat.reduceSub, Nat.reduceLeDiff, Nat.reduceLT, Int.reduceAdd, Int.reduceToNat, Int.reduceLE, Int.reduceLT, Int.reduceNeg, reduceIte, postC, watchC, sll]
              (repeat' (first
    | (refine awp_seqK ?_)
    | (refine kt ?_)
    | (refine And.intro ?_ ?_)
    | ((first | refine awp_region ?_ | refine awp_draw (by kernel_rfl) (by kernel_rfl) ?_ | refine Imp.le2 ?_ | refine awp_label ?_ | refine awp_skip ?_ | refine awp_exit ?_ | refine awp_cd ?_ | refine awp_ret ?_); simp (maxSteps := 4000000) only [go_sem, List.append_eq, List.cons_append, List.nil_append, Nat.reduceAdd, Nat.reduceMul, Nat.reduceSub, Nat.reduceLeDiff, Nat.reduceLT, Int.reduceAdd, Int.reduceToNat, Int.reduceLE, Int.reduceLT, Int.reduceNeg, reduceIte, postC, watchC, sll, hgv, hln])
    | (intro _h)
    | (refine awp_block ?_)
    | (refine awp_scope ?_)
    | (refine go_split (fun _h => ?_) (fun _h => ?_) <;> simp (maxSteps := 4000000) only [go_sem, List.append_eq, List.cons_append, List.nil_append, Nat.reduceAdd, Nat.reduceMul, Nat.reduceSub, Nat.reduceLeDiff, Nat.reduceLT, Int.reduceAdd, Int.reduceToNat, Int.reduceLE, Int.reduceLT, Int.reduceNeg, reduceIte, postC, watchC, sll, hgv, hln])
    | (show heapOK _ _ = true; kernel_rfl)
    | (omega)))
              all_goals omega
            · simp only [postC]; simp (maxSteps := 4000000) only [go_sem, List.append_eq, List.cons_append, List.nil_append, Nat.reduceAdd, Nat.reduceMul, Nat.reduceSub, Nat.reduceLeDiff, Nat.reduceLT, Int.reduceAdd, Int.reduceToNat, Int.reduceLE, Int.reduceLT, Int.reduceNeg, reduceIte, postC, watchC, sll]
              (repeat' (first
    | ((exfalso; omega))
    | (refine awp_seqK ?_)
    | (refine kt ?_)
    | (refine And.intro ?_ ?_)
    | ((first | refine awp_region ?_ | refine awp_draw (by kernel_rfl) (by kernel_rfl) ?_ | refine Imp.le2 ?_ | refine awp_label ?_ | refine awp_skip ?_ | refine awp_exit ?_ | refine awp_cd ?_ | refine awp_ret ?_); simp (maxSteps := 4000000) only [go_sem, List.append_eq, List.cons_append, List.nil_append, Nat.reduceAdd, Nat.reduceMul, Nat.reduceSub, Nat.reduceLeDiff, Nat.reduceLT, Int.reduceAdd, Int.reduceToNat, Int.reduceLE, Int.reduceLT, Int.reduceNeg, reduceIte, postC, watchC, sll])
    | (intro _h)
    | (refine awp_block ?_)
    | (refine awp_scope ?_)
    | (refine go_split (fun _h => ?_) (fun _h => ?_) <;> simp (maxSteps := 4000000) only [go_sem, List.append_eq, List.cons_append, List.nil_append, Nat.reduceAdd, Nat.reduceMul, Nat.reduceSub, Nat.reduceLeDiff, Nat.reduceLT, Int.reduceAdd, Int.reduceToNat, Int.reduceLE, Int.reduceLT, Int.reduceNeg, reduceIte, postC, watchC, sll])
    | (show heapOK _ _ = true; kernel_rfl)
    | (omega)))
              all_goals omega
        | some x =>
          obtain ⟨a, b⟩ := x
          have hz := hz _ rfl
          simp only at hz
          have hj1 : aLo (some (joinE s (a, b))) = acLo (aLo s) a 1001 := by
            cases s <;> simp only [joinE, aLo, acLo, hLo, hHi] at * <;> (split <;> first | omega | (split <;> omega))
          have hj2 : hHi (some (joinE s (a, b))) = acHi (hHi s) a b 1001 := by
            cases s <;> simp only [joinE, aLo, acHi, hLo, hHi] at * <;> (split <;> omega)
          have hlo : -1 ≤ aLo s ∧ aLo s ≤ 1000 := by cases s <;> simp only [aLo, hLo] at * <;> omega
          simp only [hj1, hj2]
          generalize aLo s = lo at *
          generalize hHi s = hi0 at *
          refine awp_loopN 1001 (fun v => ⟨mkT 55 [(1, sll reads), (2, .ptr 0 0 0), (4, .ptr 1 0 0), (6, .ptr 2 0 0), (7, .int .i64 ((i : Int) - 1)), (8, .psl false 1001 (bools ml)), (9, .int .i64 v)], [some (.cells 46 1 0 (postC p)), some (.cells 70 1 0 [.int .i64 0, .int .i64 0, .int .u8 0]), some (.cells 70 1 0 [.int .i64 (acLo lo a v), .int .i64 (acHi hi0 a b v), .int .u8 0])], []⟩) (.le2 ?_) ?_
          · simp only [postC]; simp (maxSteps := 4000000) only [go_sem, List.append_eq, List.cons_append, List.nil_append, Nat.reduceAdd, Nat.reduceMul, Nat.reduceSub, Nat.reduceLeDiff, Nat.reduceLT, Int.reduceAdd, Int.reduceToNat, Int.reduceLE, Int.reduceLT, Int.reduceNeg, reduceIte, postC, watchC, sll]
            simp only [acLo, acHi]
            rw [if_pos (by omega), if_pos (by omega)]
            try exact ⟨rfl, rfl⟩
          · intro v hv
            have hgv := fun h : v < 1001 => (hget v h).trans (show inE (some (a, b)) v = decide (a ≤ v ∧ (v : Int) ≤ b) from rfl)
            have hc1 := acLo_is lo a v
            have hc2 := acLo_is lo a (v + 1 : Nat)
            have hc3 := acHi_is hi0 a b v
            have hc4 := acHi_is hi0 a b (v + 1 : Nat)
            rcases Nat.lt_or_eq_of_le hv with hv1 | hv1
            · have hgv := hgv hv1
              simp only [postC]; simp (maxSteps := 4000000) only [go_sem, List.append_eq, List.cons_append, List.nil_append, Nat.reduceAdd, Nat.reduceMul, Nat.reduceSub, Nat.reduceLeDiff, Nat.reduceLT, Int.reduceAdd, Int.reduceToNat, Int.reduceLE, Int.reduceLT, Int.reduceNeg, reduceIte, postC, watchC, sll]
              (repeat' (first
    | (refine awp_seqK ?_)
    | (refine kt ?_)
    | (refine And.intro ?_ ?_)
    | ((first | refine awp_region ?_ | refine awp_draw (by kernel_rfl) (by kernel_rfl) ?_ | refine Imp.le2 ?_ | refine awp_label ?_ | refine awp_skip ?_ | refine awp_exit ?_ | refine awp_cd ?_ | refine awp_ret ?_); simp (maxSteps := 4000000) only [go_sem, List.append_eq, List.cons_append, List.nil_append, Nat.reduceAdd, Nat.reduceMul, Nat.reduceSub, Nat.reduceLeDiff, Nat.reduceLT, Int.reduceAdd, Int.reduceToNat, Int.reduceLE, Int.reduceLT, Int.reduceNeg, reduceIte, postC, watchC, sll, hgv, hln])
    | (intro _h)
    | (refine awp_block ?_)
    | (refine awp_scope ?_)
    | (refine go_split (fun _h => ?_) (fun _h => ?_) <;> simp (maxSteps := 4000000) only [go_sem, List.append_eq, List.cons_append, List.nil_append, Nat.reduceAdd, Nat.reduceMul, Nat.reduceSub, Nat.reduceLeDiff, Nat.reduceLT, Int.reduceAdd, Int.reduceToNat, Int.reduceLE, Int.reduceLT, Int.reduceNeg, reduceIte, postC, watchC, sll, hgv, hln])
    | (show heapOK _ _ = true; kernel_rfl)
    | (omega)))
              all_goals first
                | omega
                | (simp only [List.cons.injEq, AV.int.injEq, and_true, true_and]; omega)
                | trace_state
            · subst hv1
              simp only [postC]; simp (maxSteps := 4000000) only [go_sem, List.append_eq, List.cons_append, List.nil_append, Nat.reduceAdd, Nat.reduceMul, Nat.reduceSub, Nat.reduceLeDiff, Nat.reduceLT, Int.reduceAdd, Int.reduceToNat, Int.reduceLE, Int.reduceLT, Int.reduceNeg, reduceIte, postC, watchC, sll]
              (repeat' (first
    | ((exfalso; omega))
    | (refine awp_seqK ?_)
    | (refine kt ?_)
    | (refine And.intro ?_ ?_)
    | ((first | refine awp_region ?_ | refine awp_draw (by kernel_rfl) (by kernel_rfl) ?_ | refine Imp.le2 ?_ | refine awp_label ?_ | refine awp_skip ?_ | refine awp_exit ?_ | refine awp_cd ?_ | refine awp_ret ?_); simp (maxSteps := 4000000) only [go_sem, List.append_eq, List.cons_append, List.nil_append, Nat.reduceAdd, Nat.reduceMul, Nat.reduceSub, Nat.reduceLeDiff, Nat.reduceLT, Int.reduceAdd, Int.reduceToNat, Int.reduceLE, Int.reduceLT, Int.reduceNeg, reduceIte, postC, watchC, sll])
    | (intro _h)
    | (refine awp_block ?_)
    | (refine awp_scope ?_)
    | (refine go_split (fun _h => ?_) (fun _h => ?_) <;> simp (maxSteps := 4000000) only [go_sem, List.append_eq, List.cons_append, List.nil_append, Nat.reduceAdd, Nat.reduceMul, Nat.reduceSub, Nat.reduceLeDiff, Nat.reduceLT, Int.reduceAdd, Int.reduceToNat, Int.reduceLE, Int.reduceLT, Int.reduceNeg, reduceIte, postC, watchC, sll])
    | (show heapOK _ _ = true; kernel_rfl)
    | (omega)))
              trace_state
              all_goals omega
    · have hlv := refLevel_c p (hHi (hull (gAt p reads reads.length) i)) hp (by omega)
      simp only [postC, sl, sll] at hlv
      rw [← hi1]
      generalize hull (gAt p reads reads.length) i = s at *
      simp only [postC]; simp (maxSteps := 4000000) only [go_sem, List.append_eq, List.cons_append, List.nil_append, Nat.reduceAdd, Nat.reduceMul, Nat.reduceSub, Nat.reduceLeDiff, Nat.reduceLT, Int.reduceAdd, Int.reduceToNat, Int.reduceLE, Int.reduceLT, Int.reduceNeg, reduceIte, postC, watchC, sll]
      (repeat' (first
    | (refine awp_seqK ?_)
    | (refine kt ?_)
    | (refine And.intro ?_ ?_)
    | ((first | refine awp_region ?_ | refine awp_draw (by kernel_rfl) (by kernel_rfl) ?_ | refine Imp.le2 ?_ | refine awp_label ?_ | refine awp_skip ?_ | refine awp_exit ?_ | refine awp_cd ?_ | refine awp_ret ?_); simp (maxSteps := 4000000) only [go_sem, List.append_eq, List.cons_append, List.nil_append, Nat.reduceAdd, Nat.reduceMul, Nat.reduceSub, Nat.reduceLeDiff, Nat.reduceLT, Int.reduceAdd, Int.reduceToNat, Int.reduceLE, Int.reduceLT, Int.reduceNeg, reduceIte, postC, watchC, sll])
    | (intro _h)
    | (refine awp_block ?_)
    | (refine awp_scope ?_)
    | ((first | refine callK_of (hlv) ?_); try simp (maxSteps := 4000000) only [go_sem, List.append_eq, List.cons_append, List.nil_append, Nat.reduceAdd, Nat.reduceMul, Nat.reduceSub, Nat.reduceLeDiff, Nat.reduceLT, Int.reduceAdd, Int.reduceToNat, Int.reduceLE, Int.reduceLT, Int.reduceNeg, reduceIte, postC, watchC, sll])
    | (refine go_split (fun _h => ?_) (fun _h => ?_) <;> simp (maxSteps := 4000000) only [go_sem, List.append_eq, List.cons_append, List.nil_append, Nat.reduceAdd, Nat.reduceMul, Nat.reduceSub, Nat.reduceLeDiff, Nat.reduceLT, Int.reduceAdd, Int.reduceToNat, Int.reduceLE, Int.reduceLT, Int.reduceNeg, reduceIte, postC, watchC, sll])
    | (show heapOK _ _ = true; kernel_rfl)
    | (omega)))
      all_goals clear hlv hmc
      all_goals (cases s <;> simp only [aLo, hLo, Option.isSome] at *)
      all_goals first | rfl | omega | contradiction
theorem ends_iff {p : Post} {row : List Int} {f v : Int} : ((agreedEnds p.errs row f).1 ≤ v ∧ v ≤ (agreedEnds p.errs row f).2) ↔ ((0 ≤ v ∧ v ≤ 1000) ∧ agreesB p.errs row f v = true) := by
  have hl := agLo_ge (errs := p.errs) (row := row) (f := f) row.length
  have hh := agHi_le (errs := p.errs) (row := row) (f := f) row.length
  constructor
  · intro h
    have hv : 0 ≤ v ∧ v ≤ 1000 := by
      have := agreed_bd (errs := p.errs) (row := row) (f := f)
      omega
    refine ⟨hv, ?_⟩
    obtain ⟨n, rfl⟩ : ∃ n : Nat, v = n := ⟨v.toNat, by omega⟩
    rw [agrees_iff (by omega)]
    refine decide_eq_true ?_
    unfold agreedEnds at h
    split at h
    · simp only at h; omega
    · exact h
  · rintro ⟨hv, h⟩
    obtain ⟨n, rfl⟩ : ∃ n : Nat, v = n := ⟨v.toNat, by omega⟩
    rw [agrees_iff (by omega)] at h
    have := of_decide_eq_true h
    unfold agreedEnds
    rw [if_neg (by omega)]
    exact this
theorem refTruth_c (p : Post) (reads : List (List Int)) (f : Int) (sp : List Int) (hf : faultP p reads = 0) (hs : sp.length ≤ 9223372036854775807) : CallS Try.prog 40 [.agg (postC p), sll reads, .int .i64 f, sl sp] (.bool (proveB p reads f sp)) := by
  obtain ⟨hp, hr⟩ := faultP_zero hf
  obtain ⟨hl1, hl2⟩ := hp.len
  have hga := hp.gain
  have hdr := hp.drop
  have hl3 := hr.len
  have hyes : sp.length = reads.length → (-1 ≤ f ∧ f ≤ (p.errs.length : Int) - 1) → (∀ h, h < sp.length → okT p reads f sp h) → true = proveB p reads f sp := fun a b c => (decide_eq_true ⟨hf, a, b, c⟩).symm
  have hno : (sp.length = reads.length → (-1 ≤ f ∧ f ≤ (p.errs.length : Int) - 1) → (∀ h, h < sp.length → okT p reads f sp h) → False) → false = proveB p reads f sp := fun a => (decide_eq_false fun ⟨_, b, c, d⟩ => a b c d).symm
  generalize proveB p reads f sp = r at *
  (refine callS_of_awp (fun w args => Try.call40 ..) Try.func40 rfl (fun w0 m0 wz => ?_); simp only [Try.ntmps40, Try.results40, initT, junks, postC, watchC, sll, sl, List.toList_toArray, List.cons_append, List.nil_append, List.length_cons, List.length_nil, Nat.reduceAdd, Nat.reduceSub])
  (repeat' (first
    | (refine awp_seqK ?_)
    | (refine kt ?_)
    | (refine And.intro ?_ ?_)
    | ((first | refine awp_region ?_ | refine awp_draw (by kernel_rfl) (by kernel_rfl) ?_ | refine Imp.le2 ?_ | refine awp_label ?_ | refine awp_skip ?_ | refine awp_exit ?_ | refine awp_cd ?_ | refine awp_ret ?_); simp (maxSteps := 4000000) only [go_sem, List.append_eq, List.cons_append, List.nil_append, Nat.reduceAdd, Nat.reduceMul, Nat.reduceSub, Nat.reduceLeDiff, Nat.reduceLT, Int.reduceAdd, Int.reduceToNat, Int.reduceLE, Int.reduceLT, Int.reduceNeg, reduceIte, postC, watchC, sll])
    | (intro _h)
    | (refine awp_block ?_)
    | (refine awp_scope ?_)
    | ((first | refine callK_of (in_c _ _ _) ?_); try simp (maxSteps := 4000000) only [go_sem, List.append_eq, List.cons_append, List.nil_append, Nat.reduceAdd, Nat.reduceMul, Nat.reduceSub, Nat.reduceLeDiff, Nat.reduceLT, Int.reduceAdd, Int.reduceToNat, Int.reduceLE, Int.reduceLT, Int.reduceNeg, reduceIte, postC, watchC, sll])
    | (refine go_split (fun _h => ?_) (fun _h => ?_) <;> simp (maxSteps := 4000000) only [go_sem, List.append_eq, List.cons_append, List.nil_append, Nat.reduceAdd, Nat.reduceMul, Nat.reduceSub, Nat.reduceLeDiff, Nat.reduceLT, Int.reduceAdd, Int.reduceToNat, Int.reduceLE, Int.reduceLT, Int.reduceNeg, reduceIte, postC, watchC, sll])
    | (show heapOK _ _ = true; kernel_rfl)
    | (omega)))
  · refine awp_loopJ (fun h : Nat => h ≤ sp.length ∧ ∀ j, j < h → okT p reads f sp j) (fun h => ⟨mkT 82 [(1, sll reads), (2, .int .i64 f), (3, sl sp), (4, .ptr 0 0 0), (9, .int .i64 h)], [some (.cells 46 1 0 (postC p))], []⟩) (fun h => sp.length - h) 0 ⟨Nat.zero_le _, by simp⟩ (.le2 ?_) ?_
    · simp only [postC]; simp (maxSteps := 4000000) only [go_sem, List.append_eq, List.cons_append, List.nil_append, Nat.reduceAdd, Nat.reduceMul, Nat.reduceSub, Nat.reduceLeDiff, Nat.reduceLT, Int.reduceAdd, Int.reduceToNat, Int.reduceLE, Int.reduceLT, Int.reduceNeg, reduceIte, postC, watchC, sll]
    · rintro h ⟨hh, hj⟩
      have hag := fun (k : h < reads.length) (k2 : 0 ≤ sp.getD h 0 ∧ sp.getD h 0 ≤ 1000) => agrees_c p (reads.getD h []) f (sp.getD h 0) hp (hr.rows h k) k2
      have hok := okT_iff (p := p) (reads := reads) (f := f) (sp := sp) (h := h)
      rw [ends_iff] at hok
      have hpr := fun k : 0 < h => okT_bd (hj (h - 1) (by omega))
      simp only [postC, sl] at hag
      generalize agreesB p.errs (reads.getD h []) f (sp.getD h 0) = y at *
      have e1 : (((h : Int)) - 1).toNat = h - 1 := by omega
      simp only [postC]; simp (maxSteps := 4000000) only [go_sem, List.append_eq, List.cons_append, List.nil_append, Nat.reduceAdd, Nat.reduceMul, Nat.reduceSub, Nat.reduceLeDiff, Nat.reduceLT, Int.reduceAdd, Int.reduceToNat, Int.reduceLE, Int.reduceLT, Int.reduceNeg, reduceIte, postC, watchC, sll]
      cases y
      all_goals simp only [Bool.false_eq_true, and_false, false_and, iff_false, and_true, true_and] at hok
      all_goals (repeat' (first
    | ((rw [e1]))
    | (refine awp_seqK ?_)
    | (refine kt ?_)
    | (refine And.intro ?_ ?_)
    | ((first | refine awp_region ?_ | refine awp_draw (by kernel_rfl) (by kernel_rfl) ?_ | refine Imp.le2 ?_ | refine awp_label ?_ | refine awp_skip ?_ | refine awp_exit ?_ | refine awp_cd ?_ | refine awp_ret ?_); simp (maxSteps := 4000000) only [go_sem, List.append_eq, List.cons_append, List.nil_append, Nat.reduceAdd, Nat.reduceMul, Nat.reduceSub, Nat.reduceLeDiff, Nat.reduceLT, Int.reduceAdd, Int.reduceToNat, Int.reduceLE, Int.reduceLT, Int.reduceNeg, reduceIte, postC, watchC, sll])
    | (intro _h)
    | (refine awp_block ?_)
    | (refine awp_scope ?_)
    | ((first | refine callK_of (in_c _ _ _) ?_ | refine callK_of (hag (by omega) ‹_›) ?_); try simp (maxSteps := 4000000) only [go_sem, List.append_eq, List.cons_append, List.nil_append, Nat.reduceAdd, Nat.reduceMul, Nat.reduceSub, Nat.reduceLeDiff, Nat.reduceLT, Int.reduceAdd, Int.reduceToNat, Int.reduceLE, Int.reduceLT, Int.reduceNeg, reduceIte, postC, watchC, sll])
    | (refine go_split (fun _h => ?_) (fun _h => ?_) <;> simp (maxSteps := 4000000) only [go_sem, List.append_eq, List.cons_append, List.nil_append, Nat.reduceAdd, Nat.reduceMul, Nat.reduceSub, Nat.reduceLeDiff, Nat.reduceLT, Int.reduceAdd, Int.reduceToNat, Int.reduceLE, Int.reduceLT, Int.reduceNeg, reduceIte, postC, watchC, sll])
    | (show heapOK _ _ = true; kernel_rfl)
    | (omega)))
      all_goals first
        | (refine ⟨h + 1, ⟨by omega, fun j hji => ?_⟩, by omega, .le2 ?_⟩
           · rcases Nat.lt_succ_iff_lt_or_eq.1 hji with h | rfl
             · exact hj j h
             · exact hok.2 (by omega)
           · simp (maxSteps := 4000000) only [go_sem, List.append_eq, List.cons_append, List.nil_append, Nat.reduceAdd, Nat.reduceMul, Nat.reduceSub, Nat.reduceLeDiff, Nat.reduceLT, Int.reduceAdd, Int.reduceToNat, Int.reduceLE, Int.reduceLT, Int.reduceNeg, reduceIte, postC, watchC, sll] <;> omega)
        | exact (hno (fun a b c => hok (c h (by omega))))
        | exact (hno (fun a b c => by have := hok.1 (c h (by omega)); omega))
        | exact (hyes (by omega) ‹_› (fun j hjl => hj j (by omega)))
        | exact (hno (fun a b c => hok (c h (by omega)))).symm
        | exact (hno (fun a b c => by have := hok.1 (c h (by omega)); omega)).symm
        | exact (hyes (by omega) ‹_› (fun j hjl => hj j (by omega))).symm
        | trace_state
  all_goals first
    | exact (hno (fun a b c => by omega)).symm
    | exact (hno (fun a b c => by omega))
end Go.Am
