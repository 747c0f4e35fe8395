/- The law AlarmSpells, as a contract: it returns true. -/
import Derived.Test.YtnjommobapmgbaaAlH
import Derived.Test.YtnjommobapmgbaaAw
namespace Go.Am
open Go.RowKit Go.Proofs
attribute [local irreducible] AWP CallS Kt goK CallK stepK evOps
set_option maxRecDepth 4000
set_option linter.unusedSimpArgs false
set_option linter.unusedVariables false
set_option maxHeartbeats 800000

theorem alarmSpells_c (s : Season) (r : Rule) (hl : s.speeds.length ≤ 9223372036854775807) : CallS Try.prog 3 [.agg (seasonC s), .agg (ruleC r)] (.bool true) := by
  have h1 := seasonsFault_c [s] ⟨by simp, fun i hi => by simp at hi; subst hi; exact hl⟩
  simp only [slS, recs, List.flatMap_cons, List.flatMap_nil, seasonC, sl, ruleC, List.length_cons, List.length_nil, List.append_nil] at h1
  refine callS_of_awp (fun w args => Try.call3 ..) Try.func3 rfl (fun w0 => ?_)
  simp only [Try.ntmps3, Try.results3, initT, junks, ruleC, seasonC, slS, slX, sl, List.toList_toArray, List.cons_append, List.nil_append, List.length_cons, List.length_nil, Nat.reduceAdd, Nat.reduceSub]
  (repeat' (first
    | (refine awp_seqK ?_)
    | (refine awp_region ?_; simp only [go_sem, Nat.reduceAdd, Nat.reduceMul, Nat.reduceSub, Nat.reduceLeDiff, Nat.reduceLT, Int.reduceToNat, Int.reduceLE, Int.reduceLT, Int.reduceNeg, reduceIte, ruleC, seasonC, slS, slX])
    | (refine awp_draw (by kernel_rfl) (by kernel_rfl) ?_; simp only [go_sem, Nat.reduceAdd, Nat.reduceMul, Nat.reduceSub, Nat.reduceLeDiff, Nat.reduceLT, Int.reduceToNat, Int.reduceLE, Int.reduceLT, Int.reduceNeg, reduceIte, ruleC, seasonC, slS, slX])
    | (refine kt ?_)
    | (refine And.intro ?_ ?_)
    | (refine Imp.le2 ?_; simp only [go_sem, Nat.reduceAdd, Nat.reduceMul, Nat.reduceSub, Nat.reduceLeDiff, Nat.reduceLT, Int.reduceToNat, Int.reduceLE, Int.reduceLT, Int.reduceNeg, reduceIte, ruleC, seasonC, slS, slX])
    | (intro _h)
    | (refine awp_block ?_)
    | (refine awp_scope ?_)
    | (refine awp_label ?_; simp only [go_sem, Nat.reduceAdd, Nat.reduceMul, Nat.reduceSub, Nat.reduceLeDiff, Nat.reduceLT, Int.reduceToNat, Int.reduceLE, Int.reduceLT, Int.reduceNeg, reduceIte, ruleC, seasonC, slS, slX])
    | (refine awp_skip ?_; simp only [go_sem, Nat.reduceAdd, Nat.reduceMul, Nat.reduceSub, Nat.reduceLeDiff, Nat.reduceLT, Int.reduceToNat, Int.reduceLE, Int.reduceLT, Int.reduceNeg, reduceIte, ruleC, seasonC, slS, slX])
    | (refine awp_exit ?_; simp only [go_sem, Nat.reduceAdd, Nat.reduceMul, Nat.reduceSub, Nat.reduceLeDiff, Nat.reduceLT, Int.reduceToNat, Int.reduceLE, Int.reduceLT, Int.reduceNeg, reduceIte, ruleC, seasonC, slS, slX])
    | (refine awp_cd ?_; simp only [go_sem, Nat.reduceAdd, Nat.reduceMul, Nat.reduceSub, Nat.reduceLeDiff, Nat.reduceLT, Int.reduceToNat, Int.reduceLE, Int.reduceLT, Int.reduceNeg, reduceIte, ruleC, seasonC, slS, slX])
    | (refine awp_ret ?_; simp only [go_sem, Nat.reduceAdd, Nat.reduceMul, Nat.reduceSub, Nat.reduceLeDiff, Nat.reduceLT, Int.reduceToNat, Int.reduceLE, Int.reduceLT, Int.reduceNeg, reduceIte, ruleC, seasonC, slS, slX])
    | (refine callK_of (awake_c) ?_; try simp only [go_sem, Nat.reduceAdd, Nat.reduceMul, Nat.reduceSub, Nat.reduceLeDiff, Nat.reduceLT, Int.reduceToNat, Int.reduceLE, Int.reduceLT, Int.reduceNeg, reduceIte, ruleC, seasonC, slS, slX])
    | (refine callK_of (Season_c _ (by omega)) ?_; try simp only [go_sem, Nat.reduceAdd, Nat.reduceMul, Nat.reduceSub, Nat.reduceLeDiff, Nat.reduceLT, Int.reduceToNat, Int.reduceLE, Int.reduceLT, Int.reduceNeg, reduceIte, ruleC, seasonC, slS, slX])
    | (refine callK_of (Rule_c _) ?_; try simp only [go_sem, Nat.reduceAdd, Nat.reduceMul, Nat.reduceSub, Nat.reduceLeDiff, Nat.reduceLT, Int.reduceToNat, Int.reduceLE, Int.reduceLT, Int.reduceNeg, reduceIte, ruleC, seasonC, slS, slX])
    | (refine callK_of (Spells_c _ _ (by omega)) ?_; try simp only [go_sem, Nat.reduceAdd, Nat.reduceMul, Nat.reduceSub, Nat.reduceLeDiff, Nat.reduceLT, Int.reduceToNat, Int.reduceLE, Int.reduceLT, Int.reduceNeg, reduceIte, ruleC, seasonC, slS, slX])
    | (refine callK_of (CallS.sub (h1) (by simp [subL, avSub])) ?_; try simp only [go_sem, Nat.reduceAdd, Nat.reduceMul, Nat.reduceSub, Nat.reduceLeDiff, Nat.reduceLT, Int.reduceToNat, Int.reduceLE, Int.reduceLT, Int.reduceNeg, reduceIte, ruleC, seasonC, slS, slX])
    | (refine callK_of (rightRule_c _) ?_; try simp only [go_sem, Nat.reduceAdd, Nat.reduceMul, Nat.reduceSub, Nat.reduceLeDiff, Nat.reduceLT, Int.reduceToNat, Int.reduceLE, Int.reduceLT, Int.reduceNeg, reduceIte, ruleC, seasonC, slS, slX])
    | (refine callK_of (refSpells_c _ _ (by omega) (by have := ruleB_true ‹_›; omega)) ?_; try simp only [go_sem, Nat.reduceAdd, Nat.reduceMul, Nat.reduceSub, Nat.reduceLeDiff, Nat.reduceLT, Int.reduceToNat, Int.reduceLE, Int.reduceLT, Int.reduceNeg, reduceIte, ruleC, seasonC, slS, slX])
    | (refine go_split (fun _h => ?_) (fun _h => ?_) <;> simp only [go_sem, Nat.reduceAdd, Nat.reduceMul, Nat.reduceSub, Nat.reduceLeDiff, Nat.reduceLT, Int.reduceToNat, Int.reduceLE, Int.reduceLT, Int.reduceNeg, reduceIte, ruleC, seasonC, slS, slX])
    | (show heapOK _ _ = true; kernel_rfl)
    | (omega)))
  · have e : spellsOf s r = spells s.speeds r := by simp [spellsOf, *]
    rw [e]
    refine awp_loopN (spells s.speeds r).length (fun i => ⟨mkT 89 [(5, slX (spells s.speeds r)), (8, slX (spells s.speeds r)), (9, .int .i64 i)], [], []⟩) (.le2 ?_) ?_
    · simp only [go_sem, Nat.reduceAdd, Nat.reduceMul, Nat.reduceSub, Nat.reduceLeDiff, Nat.reduceLT, Int.reduceToNat, Int.reduceLE, Int.reduceLT, Int.reduceNeg, reduceIte, ruleC, seasonC, slS, slX]
    · intro i hi
      have hle := spells_le (sp := s.speeds) (r := r)
      simp only [go_sem, Nat.reduceAdd, Nat.reduceMul, Nat.reduceSub, Nat.reduceLeDiff, Nat.reduceLT, Int.reduceToNat, Int.reduceLE, Int.reduceLT, Int.reduceNeg, reduceIte, ruleC, seasonC, slS, slX]
      (repeat' (first
    | (refine awp_seqK ?_)
    | (refine awp_region ?_; simp only [go_sem, Nat.reduceAdd, Nat.reduceMul, Nat.reduceSub, Nat.reduceLeDiff, Nat.reduceLT, Int.reduceToNat, Int.reduceLE, Int.reduceLT, Int.reduceNeg, reduceIte, ruleC, seasonC, slS, slX])
    | (refine awp_draw (by kernel_rfl) (by kernel_rfl) ?_; simp only [go_sem, Nat.reduceAdd, Nat.reduceMul, Nat.reduceSub, Nat.reduceLeDiff, Nat.reduceLT, Int.reduceToNat, Int.reduceLE, Int.reduceLT, Int.reduceNeg, reduceIte, ruleC, seasonC, slS, slX])
    | (refine kt ?_)
    | (refine And.intro ?_ ?_)
    | (refine Imp.le2 ?_; simp only [go_sem, Nat.reduceAdd, Nat.reduceMul, Nat.reduceSub, Nat.reduceLeDiff, Nat.reduceLT, Int.reduceToNat, Int.reduceLE, Int.reduceLT, Int.reduceNeg, reduceIte, ruleC, seasonC, slS, slX])
    | (intro _h)
    | (refine awp_block ?_)
    | (refine awp_scope ?_)
    | (refine awp_label ?_; simp only [go_sem, Nat.reduceAdd, Nat.reduceMul, Nat.reduceSub, Nat.reduceLeDiff, Nat.reduceLT, Int.reduceToNat, Int.reduceLE, Int.reduceLT, Int.reduceNeg, reduceIte, ruleC, seasonC, slS, slX])
    | (refine awp_skip ?_; simp only [go_sem, Nat.reduceAdd, Nat.reduceMul, Nat.reduceSub, Nat.reduceLeDiff, Nat.reduceLT, Int.reduceToNat, Int.reduceLE, Int.reduceLT, Int.reduceNeg, reduceIte, ruleC, seasonC, slS, slX])
    | (refine awp_exit ?_; simp only [go_sem, Nat.reduceAdd, Nat.reduceMul, Nat.reduceSub, Nat.reduceLeDiff, Nat.reduceLT, Int.reduceToNat, Int.reduceLE, Int.reduceLT, Int.reduceNeg, reduceIte, ruleC, seasonC, slS, slX])
    | (refine awp_cd ?_; simp only [go_sem, Nat.reduceAdd, Nat.reduceMul, Nat.reduceSub, Nat.reduceLeDiff, Nat.reduceLT, Int.reduceToNat, Int.reduceLE, Int.reduceLT, Int.reduceNeg, reduceIte, ruleC, seasonC, slS, slX])
    | (refine awp_ret ?_; simp only [go_sem, Nat.reduceAdd, Nat.reduceMul, Nat.reduceSub, Nat.reduceLeDiff, Nat.reduceLT, Int.reduceToNat, Int.reduceLE, Int.reduceLT, Int.reduceNeg, reduceIte, ruleC, seasonC, slS, slX])
    | (refine callK_of (awake_c) ?_; try simp only [go_sem, Nat.reduceAdd, Nat.reduceMul, Nat.reduceSub, Nat.reduceLeDiff, Nat.reduceLT, Int.reduceToNat, Int.reduceLE, Int.reduceLT, Int.reduceNeg, reduceIte, ruleC, seasonC, slS, slX])
    | (refine go_split (fun _h => ?_) (fun _h => ?_) <;> simp only [go_sem, Nat.reduceAdd, Nat.reduceMul, Nat.reduceSub, Nat.reduceLeDiff, Nat.reduceLT, Int.reduceToNat, Int.reduceLE, Int.reduceLT, Int.reduceNeg, reduceIte, ruleC, seasonC, slS, slX])
    | (show heapOK _ _ = true; kernel_rfl)
    | (omega)))
  all_goals (exfalso; simp_all [errSp, spellsOf])
end Go.Am
