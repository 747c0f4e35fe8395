/- Contracts of the alarm functions: the errors of seasons. -/
import Derived.Test.YtnjommobapmgbaaAlD
namespace Go.Am
open Go.RowKit Go.Proofs
attribute [local irreducible] AWP CallS Kt goK CallK stepK evOps
set_option maxRecDepth 4000
set_option linter.unusedSimpArgs false
set_option linter.unusedVariables false
set_option maxHeartbeats 400000

theorem idx_S (l : List Season) (g : FuncId) (fv : AV) (q : Season → Bool) (hl : l.length ≤ 9223372036854775807) (hq : ∀ i, i < l.length → CallS Try.prog g [.agg (seasonC (l.getD i default)), .pptr [fv] 0] (.bool (q (l.getD i default)))) :
    CallS Try.prog 102 [slS l, .fn (.func g) [] [.pptr [fv] 0]] (.int .i64 (idxOf q l)) := by
  simp only [seasonC, sl] at hq
  refine callS_of_awp (fun w args => Try.call102 ..) Try.func102 rfl (fun w0 => ?_)
  simp only [Try.ntmps102, Try.results102, initT, junks, ruleC, seasonC, slS, sl, List.toList_toArray, List.cons_append, List.nil_append, List.length_cons, List.length_nil, Nat.reduceAdd, Nat.reduceSub]
  (repeat' (first
    | (refine awp_seqK ?_)
    | (refine awp_region ?_; simp only [go_sem, Nat.reduceAdd, Nat.reduceMul, Nat.reduceSub, Nat.reduceLeDiff, Nat.reduceLT, Int.reduceToNat, Int.reduceLE, Int.reduceLT, Int.reduceNeg, reduceIte, ruleC, seasonC, slS])
    | (refine awp_draw (by kernel_rfl) (by kernel_rfl) ?_; simp only [go_sem, Nat.reduceAdd, Nat.reduceMul, Nat.reduceSub, Nat.reduceLeDiff, Nat.reduceLT, Int.reduceToNat, Int.reduceLE, Int.reduceLT, Int.reduceNeg, reduceIte, ruleC, seasonC, slS])
    | (refine kt ?_)
    | (refine And.intro ?_ ?_)
    | (refine Imp.le2 ?_; simp only [go_sem, Nat.reduceAdd, Nat.reduceMul, Nat.reduceSub, Nat.reduceLeDiff, Nat.reduceLT, Int.reduceToNat, Int.reduceLE, Int.reduceLT, Int.reduceNeg, reduceIte, ruleC, seasonC, slS])
    | (intro _h)
    | (refine awp_block ?_)
    | (refine awp_scope ?_)
    | (refine awp_label ?_; simp only [go_sem, Nat.reduceAdd, Nat.reduceMul, Nat.reduceSub, Nat.reduceLeDiff, Nat.reduceLT, Int.reduceToNat, Int.reduceLE, Int.reduceLT, Int.reduceNeg, reduceIte, ruleC, seasonC, slS])
    | (refine awp_skip ?_; simp only [go_sem, Nat.reduceAdd, Nat.reduceMul, Nat.reduceSub, Nat.reduceLeDiff, Nat.reduceLT, Int.reduceToNat, Int.reduceLE, Int.reduceLT, Int.reduceNeg, reduceIte, ruleC, seasonC, slS])
    | (refine awp_exit ?_; simp only [go_sem, Nat.reduceAdd, Nat.reduceMul, Nat.reduceSub, Nat.reduceLeDiff, Nat.reduceLT, Int.reduceToNat, Int.reduceLE, Int.reduceLT, Int.reduceNeg, reduceIte, ruleC, seasonC, slS])
    | (refine awp_cd ?_; simp only [go_sem, Nat.reduceAdd, Nat.reduceMul, Nat.reduceSub, Nat.reduceLeDiff, Nat.reduceLT, Int.reduceToNat, Int.reduceLE, Int.reduceLT, Int.reduceNeg, reduceIte, ruleC, seasonC, slS])
    | (refine awp_ret ?_; simp only [go_sem, Nat.reduceAdd, Nat.reduceMul, Nat.reduceSub, Nat.reduceLeDiff, Nat.reduceLT, Int.reduceToNat, Int.reduceLE, Int.reduceLT, Int.reduceNeg, reduceIte, ruleC, seasonC, slS])
    | (refine go_split (fun _h => ?_) (fun _h => ?_) <;> simp only [go_sem, Nat.reduceAdd, Nat.reduceMul, Nat.reduceSub, Nat.reduceLeDiff, Nat.reduceLT, Int.reduceToNat, Int.reduceLE, Int.reduceLT, Int.reduceNeg, reduceIte, ruleC, seasonC, slS])
    | (show heapOK _ _ = true; kernel_rfl)
    | (omega)))
  refine awp_loopJ (fun i : Nat => i ≤ l.length ∧ ∀ j, j < i → q (l.getD j default) = false) (fun i => ⟨mkT 19 [(0, slS l), (1, .fn (.func g) [] [.pptr [fv] 0]), (6, slS l), (7, .int .i64 l.length), (8, .int .i64 i)], [], []⟩) (fun i => l.length - i) 0 ⟨Nat.zero_le _, by simp⟩ (.le2 ?_) ?_
  · simp only [go_sem, Nat.reduceAdd, Nat.reduceMul, Nat.reduceSub, Nat.reduceLeDiff, Nat.reduceLT, Int.reduceToNat, Int.reduceLE, Int.reduceLT, Int.reduceNeg, reduceIte, ruleC, seasonC, slS]
  · rintro i ⟨hi, hj⟩
    simp only [go_sem, Nat.reduceAdd, Nat.reduceMul, Nat.reduceSub, Nat.reduceLeDiff, Nat.reduceLT, Int.reduceToNat, Int.reduceLE, Int.reduceLT, Int.reduceNeg, reduceIte, ruleC, seasonC, slS]
    (repeat' (first
    | (refine awp_seqK ?_)
    | (refine awp_region ?_; simp only [go_sem, Nat.reduceAdd, Nat.reduceMul, Nat.reduceSub, Nat.reduceLeDiff, Nat.reduceLT, Int.reduceToNat, Int.reduceLE, Int.reduceLT, Int.reduceNeg, reduceIte, ruleC, seasonC, slS])
    | (refine awp_draw (by kernel_rfl) (by kernel_rfl) ?_; simp only [go_sem, Nat.reduceAdd, Nat.reduceMul, Nat.reduceSub, Nat.reduceLeDiff, Nat.reduceLT, Int.reduceToNat, Int.reduceLE, Int.reduceLT, Int.reduceNeg, reduceIte, ruleC, seasonC, slS])
    | (refine kt ?_)
    | (refine And.intro ?_ ?_)
    | (refine Imp.le2 ?_; simp only [go_sem, Nat.reduceAdd, Nat.reduceMul, Nat.reduceSub, Nat.reduceLeDiff, Nat.reduceLT, Int.reduceToNat, Int.reduceLE, Int.reduceLT, Int.reduceNeg, reduceIte, ruleC, seasonC, slS])
    | (intro _h)
    | (refine awp_block ?_)
    | (refine awp_scope ?_)
    | (refine awp_label ?_; simp only [go_sem, Nat.reduceAdd, Nat.reduceMul, Nat.reduceSub, Nat.reduceLeDiff, Nat.reduceLT, Int.reduceToNat, Int.reduceLE, Int.reduceLT, Int.reduceNeg, reduceIte, ruleC, seasonC, slS])
    | (refine awp_skip ?_; simp only [go_sem, Nat.reduceAdd, Nat.reduceMul, Nat.reduceSub, Nat.reduceLeDiff, Nat.reduceLT, Int.reduceToNat, Int.reduceLE, Int.reduceLT, Int.reduceNeg, reduceIte, ruleC, seasonC, slS])
    | (refine awp_exit ?_; simp only [go_sem, Nat.reduceAdd, Nat.reduceMul, Nat.reduceSub, Nat.reduceLeDiff, Nat.reduceLT, Int.reduceToNat, Int.reduceLE, Int.reduceLT, Int.reduceNeg, reduceIte, ruleC, seasonC, slS])
    | (refine awp_cd ?_; simp only [go_sem, Nat.reduceAdd, Nat.reduceMul, Nat.reduceSub, Nat.reduceLeDiff, Nat.reduceLT, Int.reduceToNat, Int.reduceLE, Int.reduceLT, Int.reduceNeg, reduceIte, ruleC, seasonC, slS])
    | (refine awp_ret ?_; simp only [go_sem, Nat.reduceAdd, Nat.reduceMul, Nat.reduceSub, Nat.reduceLeDiff, Nat.reduceLT, Int.reduceToNat, Int.reduceLE, Int.reduceLT, Int.reduceNeg, reduceIte, ruleC, seasonC, slS])
    | (refine callK_of (hq i (by omega)) ?_; try simp only [go_sem, Nat.reduceAdd, Nat.reduceMul, Nat.reduceSub, Nat.reduceLeDiff, Nat.reduceLT, Int.reduceToNat, Int.reduceLE, Int.reduceLT, Int.reduceNeg, reduceIte, ruleC, seasonC, slS])
    | (refine go_split (fun _h => ?_) (fun _h => ?_) <;> simp only [go_sem, Nat.reduceAdd, Nat.reduceMul, Nat.reduceSub, Nat.reduceLeDiff, Nat.reduceLT, Int.reduceToNat, Int.reduceLE, Int.reduceLT, Int.reduceNeg, reduceIte, ruleC, seasonC, slS])
    | (show heapOK _ _ = true; kernel_rfl)
    | (omega)))
    · exact idxOf_some (by omega) ‹_› hj
    · refine ⟨i + 1, ⟨by omega, fun j hji => ?_⟩, by omega, .le2 ?_⟩
      · rcases Nat.lt_succ_iff_lt_or_eq.1 hji with h | rfl
        · exact hj j h
        · assumption
      · simp only [go_sem, Nat.reduceAdd, Nat.reduceMul, Nat.reduceSub, Nat.reduceLeDiff, Nat.reduceLT, Int.reduceToNat, Int.reduceLE, Int.reduceLT, Int.reduceNeg, reduceIte, ruleC, seasonC, slS]
        omega
    · exact idxOf_none (d := default) (fun j hjl => hj j (by omega))
theorem has_S (l : List Season) (g : FuncId) (fv : AV) (q : Season → Bool) (hl : l.length ≤ 9223372036854775807) (hq : ∀ i, i < l.length → CallS Try.prog g [.agg (seasonC (l.getD i default)), .pptr [fv] 0] (.bool (q (l.getD i default)))) :
    CallS Try.prog 95 [slS l, .fn (.func g) [] [.pptr [fv] 0]] (.bool (l.any q)) := by
  rw [← idxOf_ge]
  refine callS_of_awp (fun w args => Try.call95 ..) Try.func95 rfl (fun w0 => ?_)
  simp only [Try.ntmps95, Try.results95, initT, junks, ruleC, seasonC, slS, sl, List.toList_toArray, List.cons_append, List.nil_append, List.length_cons, List.length_nil, Nat.reduceAdd, Nat.reduceSub]
  (repeat' (first
    | (refine awp_seqK ?_)
    | (refine awp_region ?_; simp only [go_sem, Nat.reduceAdd, Nat.reduceMul, Nat.reduceSub, Nat.reduceLeDiff, Nat.reduceLT, Int.reduceToNat, Int.reduceLE, Int.reduceLT, Int.reduceNeg, reduceIte, ruleC, seasonC, slS])
    | (refine awp_draw (by kernel_rfl) (by kernel_rfl) ?_; simp only [go_sem, Nat.reduceAdd, Nat.reduceMul, Nat.reduceSub, Nat.reduceLeDiff, Nat.reduceLT, Int.reduceToNat, Int.reduceLE, Int.reduceLT, Int.reduceNeg, reduceIte, ruleC, seasonC, slS])
    | (refine kt ?_)
    | (refine And.intro ?_ ?_)
    | (refine Imp.le2 ?_; simp only [go_sem, Nat.reduceAdd, Nat.reduceMul, Nat.reduceSub, Nat.reduceLeDiff, Nat.reduceLT, Int.reduceToNat, Int.reduceLE, Int.reduceLT, Int.reduceNeg, reduceIte, ruleC, seasonC, slS])
    | (intro _h)
    | (refine awp_block ?_)
    | (refine awp_scope ?_)
    | (refine awp_label ?_; simp only [go_sem, Nat.reduceAdd, Nat.reduceMul, Nat.reduceSub, Nat.reduceLeDiff, Nat.reduceLT, Int.reduceToNat, Int.reduceLE, Int.reduceLT, Int.reduceNeg, reduceIte, ruleC, seasonC, slS])
    | (refine awp_skip ?_; simp only [go_sem, Nat.reduceAdd, Nat.reduceMul, Nat.reduceSub, Nat.reduceLeDiff, Nat.reduceLT, Int.reduceToNat, Int.reduceLE, Int.reduceLT, Int.reduceNeg, reduceIte, ruleC, seasonC, slS])
    | (refine awp_exit ?_; simp only [go_sem, Nat.reduceAdd, Nat.reduceMul, Nat.reduceSub, Nat.reduceLeDiff, Nat.reduceLT, Int.reduceToNat, Int.reduceLE, Int.reduceLT, Int.reduceNeg, reduceIte, ruleC, seasonC, slS])
    | (refine awp_cd ?_; simp only [go_sem, Nat.reduceAdd, Nat.reduceMul, Nat.reduceSub, Nat.reduceLeDiff, Nat.reduceLT, Int.reduceToNat, Int.reduceLE, Int.reduceLT, Int.reduceNeg, reduceIte, ruleC, seasonC, slS])
    | (refine awp_ret ?_; simp only [go_sem, Nat.reduceAdd, Nat.reduceMul, Nat.reduceSub, Nat.reduceLeDiff, Nat.reduceLT, Int.reduceToNat, Int.reduceLE, Int.reduceLT, Int.reduceNeg, reduceIte, ruleC, seasonC, slS])
    | (refine callK_of (idx_S l g fv q hl hq) ?_; try simp only [go_sem, Nat.reduceAdd, Nat.reduceMul, Nat.reduceSub, Nat.reduceLeDiff, Nat.reduceLT, Int.reduceToNat, Int.reduceLE, Int.reduceLT, Int.reduceNeg, reduceIte, ruleC, seasonC, slS])
    | (refine go_split (fun _h => ?_) (fun _h => ?_) <;> simp only [go_sem, Nat.reduceAdd, Nat.reduceMul, Nat.reduceSub, Nat.reduceLeDiff, Nat.reduceLT, Int.reduceToNat, Int.reduceLE, Int.reduceLT, Int.reduceNeg, reduceIte, ruleC, seasonC, slS])
    | (show heapOK _ _ = true; kernel_rfl)
    | (omega)))
theorem all1_S (s : Season) (f : FuncId) (q : Bool) (hq : CallS Try.prog f [.agg (seasonC s)] (.bool q)) : CallS Try.prog 96 [.agg (seasonC s), .pptr [.fn (.func f) [] []] 0] (.bool (!q)) := by
  simp only [seasonC, sl] at hq
  refine callS_of_awp (fun w args => Try.call96 ..) Try.func96 rfl (fun w0 => ?_)
  simp only [Try.ntmps96, Try.results96, initT, junks, ruleC, seasonC, slS, sl, List.toList_toArray, List.cons_append, List.nil_append, List.length_cons, List.length_nil, Nat.reduceAdd, Nat.reduceSub]
  (repeat' (first
    | (refine awp_seqK ?_)
    | (refine awp_region ?_; simp only [go_sem, Nat.reduceAdd, Nat.reduceMul, Nat.reduceSub, Nat.reduceLeDiff, Nat.reduceLT, Int.reduceToNat, Int.reduceLE, Int.reduceLT, Int.reduceNeg, reduceIte, ruleC, seasonC, slS])
    | (refine awp_draw (by kernel_rfl) (by kernel_rfl) ?_; simp only [go_sem, Nat.reduceAdd, Nat.reduceMul, Nat.reduceSub, Nat.reduceLeDiff, Nat.reduceLT, Int.reduceToNat, Int.reduceLE, Int.reduceLT, Int.reduceNeg, reduceIte, ruleC, seasonC, slS])
    | (refine kt ?_)
    | (refine And.intro ?_ ?_)
    | (refine Imp.le2 ?_; simp only [go_sem, Nat.reduceAdd, Nat.reduceMul, Nat.reduceSub, Nat.reduceLeDiff, Nat.reduceLT, Int.reduceToNat, Int.reduceLE, Int.reduceLT, Int.reduceNeg, reduceIte, ruleC, seasonC, slS])
    | (intro _h)
    | (refine awp_block ?_)
    | (refine awp_scope ?_)
    | (refine awp_label ?_; simp only [go_sem, Nat.reduceAdd, Nat.reduceMul, Nat.reduceSub, Nat.reduceLeDiff, Nat.reduceLT, Int.reduceToNat, Int.reduceLE, Int.reduceLT, Int.reduceNeg, reduceIte, ruleC, seasonC, slS])
    | (refine awp_skip ?_; simp only [go_sem, Nat.reduceAdd, Nat.reduceMul, Nat.reduceSub, Nat.reduceLeDiff, Nat.reduceLT, Int.reduceToNat, Int.reduceLE, Int.reduceLT, Int.reduceNeg, reduceIte, ruleC, seasonC, slS])
    | (refine awp_exit ?_; simp only [go_sem, Nat.reduceAdd, Nat.reduceMul, Nat.reduceSub, Nat.reduceLeDiff, Nat.reduceLT, Int.reduceToNat, Int.reduceLE, Int.reduceLT, Int.reduceNeg, reduceIte, ruleC, seasonC, slS])
    | (refine awp_cd ?_; simp only [go_sem, Nat.reduceAdd, Nat.reduceMul, Nat.reduceSub, Nat.reduceLeDiff, Nat.reduceLT, Int.reduceToNat, Int.reduceLE, Int.reduceLT, Int.reduceNeg, reduceIte, ruleC, seasonC, slS])
    | (refine awp_ret ?_; simp only [go_sem, Nat.reduceAdd, Nat.reduceMul, Nat.reduceSub, Nat.reduceLeDiff, Nat.reduceLT, Int.reduceToNat, Int.reduceLE, Int.reduceLT, Int.reduceNeg, reduceIte, ruleC, seasonC, slS])
    | (refine callK_of (hq) ?_; try simp only [go_sem, Nat.reduceAdd, Nat.reduceMul, Nat.reduceSub, Nat.reduceLeDiff, Nat.reduceLT, Int.reduceToNat, Int.reduceLE, Int.reduceLT, Int.reduceNeg, reduceIte, ruleC, seasonC, slS])
    | (refine go_split (fun _h => ?_) (fun _h => ?_) <;> simp only [go_sem, Nat.reduceAdd, Nat.reduceMul, Nat.reduceSub, Nat.reduceLeDiff, Nat.reduceLT, Int.reduceToNat, Int.reduceLE, Int.reduceLT, Int.reduceNeg, reduceIte, ruleC, seasonC, slS])
    | (show heapOK _ _ = true; kernel_rfl)
    | (omega))) <;> simp only [*, Bool.not_true, Bool.not_false]
theorem all_S (l : List Season) (f : FuncId) (q : Season → Bool) (hl : l.length ≤ 9223372036854775807) (hq : ∀ i, i < l.length → CallS Try.prog f [.agg (seasonC (l.getD i default))] (.bool (q (l.getD i default)))) :
    CallS Try.prog 79 [slS l, .fn (.func f) [] []] (.bool (l.all q)) := by
  have hany : l.all q = !l.any (fun x => !q x) := by simp [List.all_eq_not_any_not]
  rw [hany]
  refine callS_of_awp (fun w args => Try.call79 ..) Try.func79 rfl (fun w0 => ?_)
  simp only [Try.ntmps79, Try.results79, initT, junks, ruleC, seasonC, slS, sl, List.toList_toArray, List.cons_append, List.nil_append, List.length_cons, List.length_nil, Nat.reduceAdd, Nat.reduceSub]
  (refine awp_seqK ?_; refine awp_region ?_; simp only [go_sem, Nat.reduceAdd, Nat.reduceMul, Nat.reduceSub, Nat.reduceLeDiff, Nat.reduceLT, Int.reduceToNat, Int.reduceLE, Int.reduceLT, Int.reduceNeg, reduceIte, ruleC, seasonC, slS]; refine kt ?_)
  (refine awp_frz 0 rfl (by simp only [go_sem, Nat.reduceAdd, Nat.reduceMul, Nat.reduceSub, Nat.reduceLeDiff, Nat.reduceLT, Int.reduceToNat, Int.reduceLE, Int.reduceLT, Int.reduceNeg, reduceIte, ruleC, seasonC, slS]) (fun q hq => by cases hq) ?_; simp only [frz, fzl, fz2, fz1, fz0, fzH, fzHs, fzO, fzB, List.map_cons, List.map_nil, if_true, if_false, reduceIte, Nat.reduceEqDiff, Nat.reduceAdd, Nat.succ_ne_self, Nat.zero_ne_one, Nat.one_ne_zero, reduceCtorEq, and_self])
  (repeat' (first
    | (refine awp_seqK ?_)
    | (refine awp_region ?_; simp only [go_sem, Nat.reduceAdd, Nat.reduceMul, Nat.reduceSub, Nat.reduceLeDiff, Nat.reduceLT, Int.reduceToNat, Int.reduceLE, Int.reduceLT, Int.reduceNeg, reduceIte, ruleC, seasonC, slS])
    | (refine awp_draw (by kernel_rfl) (by kernel_rfl) ?_; simp only [go_sem, Nat.reduceAdd, Nat.reduceMul, Nat.reduceSub, Nat.reduceLeDiff, Nat.reduceLT, Int.reduceToNat, Int.reduceLE, Int.reduceLT, Int.reduceNeg, reduceIte, ruleC, seasonC, slS])
    | (refine kt ?_)
    | (refine And.intro ?_ ?_)
    | (refine Imp.le2 ?_; simp only [go_sem, Nat.reduceAdd, Nat.reduceMul, Nat.reduceSub, Nat.reduceLeDiff, Nat.reduceLT, Int.reduceToNat, Int.reduceLE, Int.reduceLT, Int.reduceNeg, reduceIte, ruleC, seasonC, slS])
    | (intro _h)
    | (refine awp_block ?_)
    | (refine awp_scope ?_)
    | (refine awp_label ?_; simp only [go_sem, Nat.reduceAdd, Nat.reduceMul, Nat.reduceSub, Nat.reduceLeDiff, Nat.reduceLT, Int.reduceToNat, Int.reduceLE, Int.reduceLT, Int.reduceNeg, reduceIte, ruleC, seasonC, slS])
    | (refine awp_skip ?_; simp only [go_sem, Nat.reduceAdd, Nat.reduceMul, Nat.reduceSub, Nat.reduceLeDiff, Nat.reduceLT, Int.reduceToNat, Int.reduceLE, Int.reduceLT, Int.reduceNeg, reduceIte, ruleC, seasonC, slS])
    | (refine awp_exit ?_; simp only [go_sem, Nat.reduceAdd, Nat.reduceMul, Nat.reduceSub, Nat.reduceLeDiff, Nat.reduceLT, Int.reduceToNat, Int.reduceLE, Int.reduceLT, Int.reduceNeg, reduceIte, ruleC, seasonC, slS])
    | (refine awp_cd ?_; simp only [go_sem, Nat.reduceAdd, Nat.reduceMul, Nat.reduceSub, Nat.reduceLeDiff, Nat.reduceLT, Int.reduceToNat, Int.reduceLE, Int.reduceLT, Int.reduceNeg, reduceIte, ruleC, seasonC, slS])
    | (refine awp_ret ?_; simp only [go_sem, Nat.reduceAdd, Nat.reduceMul, Nat.reduceSub, Nat.reduceLeDiff, Nat.reduceLT, Int.reduceToNat, Int.reduceLE, Int.reduceLT, Int.reduceNeg, reduceIte, ruleC, seasonC, slS])
    | (refine callK_of (has_S l 96 (.fn (.func f) [] []) (fun x => !q x) hl (fun i hi => all1_S _ _ _ (hq i hi))) ?_; try simp only [go_sem, Nat.reduceAdd, Nat.reduceMul, Nat.reduceSub, Nat.reduceLeDiff, Nat.reduceLT, Int.reduceToNat, Int.reduceLE, Int.reduceLT, Int.reduceNeg, reduceIte, ruleC, seasonC, slS])
    | (refine go_split (fun _h => ?_) (fun _h => ?_) <;> simp only [go_sem, Nat.reduceAdd, Nat.reduceMul, Nat.reduceSub, Nat.reduceLeDiff, Nat.reduceLT, Int.reduceToNat, Int.reduceLE, Int.reduceLT, Int.reduceNeg, reduceIte, ruleC, seasonC, slS])
    | (show heapOK _ _ = true; kernel_rfl)
    | (omega))) <;> simp only [*, Bool.not_true, Bool.not_false]
theorem seasons1_c (s : Season) : CallS Try.prog 80 [.agg (seasonC s)] (.bool (decide (s.speeds.length ≤ 60))) := by
  refine callS_of_awp (fun w args => Try.call80 ..) Try.func80 rfl (fun w0 => ?_)
  simp only [Try.ntmps80, Try.results80, initT, junks, ruleC, seasonC, slS, sl, List.toList_toArray, List.cons_append, List.nil_append, List.length_cons, List.length_nil, Nat.reduceAdd, Nat.reduceSub]
  (repeat' (first
    | (refine awp_seqK ?_)
    | (refine awp_region ?_; simp only [go_sem, Nat.reduceAdd, Nat.reduceMul, Nat.reduceSub, Nat.reduceLeDiff, Nat.reduceLT, Int.reduceToNat, Int.reduceLE, Int.reduceLT, Int.reduceNeg, reduceIte, ruleC, seasonC, slS])
    | (refine awp_draw (by kernel_rfl) (by kernel_rfl) ?_; simp only [go_sem, Nat.reduceAdd, Nat.reduceMul, Nat.reduceSub, Nat.reduceLeDiff, Nat.reduceLT, Int.reduceToNat, Int.reduceLE, Int.reduceLT, Int.reduceNeg, reduceIte, ruleC, seasonC, slS])
    | (refine kt ?_)
    | (refine And.intro ?_ ?_)
    | (refine Imp.le2 ?_; simp only [go_sem, Nat.reduceAdd, Nat.reduceMul, Nat.reduceSub, Nat.reduceLeDiff, Nat.reduceLT, Int.reduceToNat, Int.reduceLE, Int.reduceLT, Int.reduceNeg, reduceIte, ruleC, seasonC, slS])
    | (intro _h)
    | (refine awp_block ?_)
    | (refine awp_scope ?_)
    | (refine awp_label ?_; simp only [go_sem, Nat.reduceAdd, Nat.reduceMul, Nat.reduceSub, Nat.reduceLeDiff, Nat.reduceLT, Int.reduceToNat, Int.reduceLE, Int.reduceLT, Int.reduceNeg, reduceIte, ruleC, seasonC, slS])
    | (refine awp_skip ?_; simp only [go_sem, Nat.reduceAdd, Nat.reduceMul, Nat.reduceSub, Nat.reduceLeDiff, Nat.reduceLT, Int.reduceToNat, Int.reduceLE, Int.reduceLT, Int.reduceNeg, reduceIte, ruleC, seasonC, slS])
    | (refine awp_exit ?_; simp only [go_sem, Nat.reduceAdd, Nat.reduceMul, Nat.reduceSub, Nat.reduceLeDiff, Nat.reduceLT, Int.reduceToNat, Int.reduceLE, Int.reduceLT, Int.reduceNeg, reduceIte, ruleC, seasonC, slS])
    | (refine awp_cd ?_; simp only [go_sem, Nat.reduceAdd, Nat.reduceMul, Nat.reduceSub, Nat.reduceLeDiff, Nat.reduceLT, Int.reduceToNat, Int.reduceLE, Int.reduceLT, Int.reduceNeg, reduceIte, ruleC, seasonC, slS])
    | (refine awp_ret ?_; simp only [go_sem, Nat.reduceAdd, Nat.reduceMul, Nat.reduceSub, Nat.reduceLeDiff, Nat.reduceLT, Int.reduceToNat, Int.reduceLE, Int.reduceLT, Int.reduceNeg, reduceIte, ruleC, seasonC, slS])
    | (refine go_split (fun _h => ?_) (fun _h => ?_) <;> simp only [go_sem, Nat.reduceAdd, Nat.reduceMul, Nat.reduceSub, Nat.reduceLeDiff, Nat.reduceLT, Int.reduceToNat, Int.reduceLE, Int.reduceLT, Int.reduceNeg, reduceIte, ruleC, seasonC, slS])
    | (show heapOK _ _ = true; kernel_rfl)
    | (omega)))
theorem seasons2_c (s : Season) (hl : s.speeds.length ≤ 9223372036854775807) : CallS Try.prog 81 [.agg (seasonC s)] (.bool (s.speeds.all speedB)) := by
  refine callS_of_awp (fun w args => Try.call81 ..) Try.func81 rfl (fun w0 => ?_)
  simp only [Try.ntmps81, Try.results81, initT, junks, ruleC, seasonC, slS, sl, List.toList_toArray, List.cons_append, List.nil_append, List.length_cons, List.length_nil, Nat.reduceAdd, Nat.reduceSub]
  (repeat' (first
    | (refine awp_seqK ?_)
    | (refine awp_region ?_; simp only [go_sem, Nat.reduceAdd, Nat.reduceMul, Nat.reduceSub, Nat.reduceLeDiff, Nat.reduceLT, Int.reduceToNat, Int.reduceLE, Int.reduceLT, Int.reduceNeg, reduceIte, ruleC, seasonC, slS])
    | (refine awp_draw (by kernel_rfl) (by kernel_rfl) ?_; simp only [go_sem, Nat.reduceAdd, Nat.reduceMul, Nat.reduceSub, Nat.reduceLeDiff, Nat.reduceLT, Int.reduceToNat, Int.reduceLE, Int.reduceLT, Int.reduceNeg, reduceIte, ruleC, seasonC, slS])
    | (refine kt ?_)
    | (refine And.intro ?_ ?_)
    | (refine Imp.le2 ?_; simp only [go_sem, Nat.reduceAdd, Nat.reduceMul, Nat.reduceSub, Nat.reduceLeDiff, Nat.reduceLT, Int.reduceToNat, Int.reduceLE, Int.reduceLT, Int.reduceNeg, reduceIte, ruleC, seasonC, slS])
    | (intro _h)
    | (refine awp_block ?_)
    | (refine awp_scope ?_)
    | (refine awp_label ?_; simp only [go_sem, Nat.reduceAdd, Nat.reduceMul, Nat.reduceSub, Nat.reduceLeDiff, Nat.reduceLT, Int.reduceToNat, Int.reduceLE, Int.reduceLT, Int.reduceNeg, reduceIte, ruleC, seasonC, slS])
    | (refine awp_skip ?_; simp only [go_sem, Nat.reduceAdd, Nat.reduceMul, Nat.reduceSub, Nat.reduceLeDiff, Nat.reduceLT, Int.reduceToNat, Int.reduceLE, Int.reduceLT, Int.reduceNeg, reduceIte, ruleC, seasonC, slS])
    | (refine awp_exit ?_; simp only [go_sem, Nat.reduceAdd, Nat.reduceMul, Nat.reduceSub, Nat.reduceLeDiff, Nat.reduceLT, Int.reduceToNat, Int.reduceLE, Int.reduceLT, Int.reduceNeg, reduceIte, ruleC, seasonC, slS])
    | (refine awp_cd ?_; simp only [go_sem, Nat.reduceAdd, Nat.reduceMul, Nat.reduceSub, Nat.reduceLeDiff, Nat.reduceLT, Int.reduceToNat, Int.reduceLE, Int.reduceLT, Int.reduceNeg, reduceIte, ruleC, seasonC, slS])
    | (refine awp_ret ?_; simp only [go_sem, Nat.reduceAdd, Nat.reduceMul, Nat.reduceSub, Nat.reduceLeDiff, Nat.reduceLT, Int.reduceToNat, Int.reduceLE, Int.reduceLT, Int.reduceNeg, reduceIte, ruleC, seasonC, slS])
    | (refine callK_of (all_int _ 71 speedB hl (fun i _ => speedB_c _)) ?_; try simp only [go_sem, Nat.reduceAdd, Nat.reduceMul, Nat.reduceSub, Nat.reduceLeDiff, Nat.reduceLT, Int.reduceToNat, Int.reduceLE, Int.reduceLT, Int.reduceNeg, reduceIte, ruleC, seasonC, slS])
    | (refine go_split (fun _h => ?_) (fun _h => ?_) <;> simp only [go_sem, Nat.reduceAdd, Nat.reduceMul, Nat.reduceSub, Nat.reduceLeDiff, Nat.reduceLT, Int.reduceToNat, Int.reduceLE, Int.reduceLT, Int.reduceNeg, reduceIte, ruleC, seasonC, slS])
    | (show heapOK _ _ = true; kernel_rfl)
    | (omega))) <;> simp only [*]
/-- A list whose lengths are lengths. -/
def okS (l : List Season) : Prop := l.length ≤ 9223372036854775807 ∧ ∀ i, i < l.length → (l.getD i default).speeds.length ≤ 9223372036854775807
theorem seasons_c (l : List Season) (hl : okS l) : CallS Try.prog 58 [slS l] (.int .i64 (faultS l)) := by
  have h1 := all_S l 80 (fun s => decide (s.speeds.length ≤ 60)) hl.1 (fun i _ => seasons1_c _)
  have h2 := all_S l 81 (fun s => s.speeds.all speedB) hl.1 (fun i hi => seasons2_c _ (hl.2 i hi))
  unfold faultS
  simp only [slS] at h1 h2
  refine callS_of_awp (fun w args => Try.call58 ..) Try.func58 rfl (fun w0 => ?_)
  simp only [Try.ntmps58, Try.results58, initT, junks, ruleC, seasonC, slS, sl, List.toList_toArray, List.cons_append, List.nil_append, List.length_cons, List.length_nil, Nat.reduceAdd, Nat.reduceSub]
  (repeat' (first
    | (refine awp_seqK ?_)
    | (refine awp_region ?_; simp only [go_sem, Nat.reduceAdd, Nat.reduceMul, Nat.reduceSub, Nat.reduceLeDiff, Nat.reduceLT, Int.reduceToNat, Int.reduceLE, Int.reduceLT, Int.reduceNeg, reduceIte, ruleC, seasonC, slS])
    | (refine awp_draw (by kernel_rfl) (by kernel_rfl) ?_; simp only [go_sem, Nat.reduceAdd, Nat.reduceMul, Nat.reduceSub, Nat.reduceLeDiff, Nat.reduceLT, Int.reduceToNat, Int.reduceLE, Int.reduceLT, Int.reduceNeg, reduceIte, ruleC, seasonC, slS])
    | (refine kt ?_)
    | (refine And.intro ?_ ?_)
    | (refine Imp.le2 ?_; simp only [go_sem, Nat.reduceAdd, Nat.reduceMul, Nat.reduceSub, Nat.reduceLeDiff, Nat.reduceLT, Int.reduceToNat, Int.reduceLE, Int.reduceLT, Int.reduceNeg, reduceIte, ruleC, seasonC, slS])
    | (intro _h)
    | (refine awp_block ?_)
    | (refine awp_scope ?_)
    | (refine awp_label ?_; simp only [go_sem, Nat.reduceAdd, Nat.reduceMul, Nat.reduceSub, Nat.reduceLeDiff, Nat.reduceLT, Int.reduceToNat, Int.reduceLE, Int.reduceLT, Int.reduceNeg, reduceIte, ruleC, seasonC, slS])
    | (refine awp_skip ?_; simp only [go_sem, Nat.reduceAdd, Nat.reduceMul, Nat.reduceSub, Nat.reduceLeDiff, Nat.reduceLT, Int.reduceToNat, Int.reduceLE, Int.reduceLT, Int.reduceNeg, reduceIte, ruleC, seasonC, slS])
    | (refine awp_exit ?_; simp only [go_sem, Nat.reduceAdd, Nat.reduceMul, Nat.reduceSub, Nat.reduceLeDiff, Nat.reduceLT, Int.reduceToNat, Int.reduceLE, Int.reduceLT, Int.reduceNeg, reduceIte, ruleC, seasonC, slS])
    | (refine awp_cd ?_; simp only [go_sem, Nat.reduceAdd, Nat.reduceMul, Nat.reduceSub, Nat.reduceLeDiff, Nat.reduceLT, Int.reduceToNat, Int.reduceLE, Int.reduceLT, Int.reduceNeg, reduceIte, ruleC, seasonC, slS])
    | (refine awp_ret ?_; simp only [go_sem, Nat.reduceAdd, Nat.reduceMul, Nat.reduceSub, Nat.reduceLeDiff, Nat.reduceLT, Int.reduceToNat, Int.reduceLE, Int.reduceLT, Int.reduceNeg, reduceIte, ruleC, seasonC, slS])
    | (refine callK_of (h1) ?_; try simp only [go_sem, Nat.reduceAdd, Nat.reduceMul, Nat.reduceSub, Nat.reduceLeDiff, Nat.reduceLT, Int.reduceToNat, Int.reduceLE, Int.reduceLT, Int.reduceNeg, reduceIte, ruleC, seasonC, slS])
    | (refine callK_of (h2) ?_; try simp only [go_sem, Nat.reduceAdd, Nat.reduceMul, Nat.reduceSub, Nat.reduceLeDiff, Nat.reduceLT, Int.reduceToNat, Int.reduceLE, Int.reduceLT, Int.reduceNeg, reduceIte, ruleC, seasonC, slS])
    | (refine go_split (fun _h => ?_) (fun _h => ?_) <;> simp only [go_sem, Nat.reduceAdd, Nat.reduceMul, Nat.reduceSub, Nat.reduceLeDiff, Nat.reduceLT, Int.reduceToNat, Int.reduceLE, Int.reduceLT, Int.reduceNeg, reduceIte, ruleC, seasonC, slS])
    | (show heapOK _ _ = true; kernel_rfl)
    | (omega))) <;> (rw [if_neg (show ¬ 10 < l.length by omega)]; simp [*])
end Go.Am
