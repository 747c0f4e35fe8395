/- Contracts of the alarm functions: the price by the reference. -/
import Derived.Test.YtnjommobapmgbaaAlK
namespace Go.Am
open Go.RowKit Go.Proofs
attribute [local irreducible] AWP CallS Kt goK CallK stepK evOps
set_option maxRecDepth 4000
set_option linter.unusedSimpArgs false
set_option linter.unusedVariables false
set_option maxHeartbeats 1600000

theorem refPrice_c (l : List Season) (t : Terms) (r : Rule) (hl : fitS l) (ht : termsB t = true) (hr : 1 ≤ r.hold ∧ r.hold ≤ 60) : CallS Try.prog 51 [slS l, .agg (termsC t), .agg (ruleC r)] (.tup [.int .i64 (totalP l t r), .bool (totalI l t r)]) := by
  obtain ⟨hl1, hl2⟩ := hl
  unfold totalP totalI
  obtain ⟨tt1, tt2, tt3, tt4, tt5⟩ := termsB_true ht
  refine callS_of_awp (fun w args => Try.call51 ..) Try.func51 rfl (fun w0 => ?_)
  simp only [Try.ntmps51, Try.results51, initT, junks, ruleC, seasonC, slS, slX, termsC, spellC, sl, List.toList_toArray, List.cons_append, List.nil_append, List.length_cons, List.length_nil, Nat.reduceAdd, Nat.reduceSub]
  (repeat' (first
    | (refine awp_seqK ?_)
    | (refine awp_region ?_; simp only [go_sem, Nat.reduceAdd, Nat.reduceMul, Nat.reduceSub, Nat.reduceLeDiff, Nat.reduceLT, Int.reduceToNat, Int.reduceLE, Int.reduceLT, Int.reduceNeg, reduceIte, ruleC, seasonC, slS, slX, termsC, spellC])
    | (refine awp_draw (by kernel_rfl) (by kernel_rfl) ?_; simp only [go_sem, Nat.reduceAdd, Nat.reduceMul, Nat.reduceSub, Nat.reduceLeDiff, Nat.reduceLT, Int.reduceToNat, Int.reduceLE, Int.reduceLT, Int.reduceNeg, reduceIte, ruleC, seasonC, slS, slX, termsC, spellC])
    | (refine kt ?_)
    | (refine And.intro ?_ ?_)
    | (refine Imp.le2 ?_; simp only [go_sem, Nat.reduceAdd, Nat.reduceMul, Nat.reduceSub, Nat.reduceLeDiff, Nat.reduceLT, Int.reduceToNat, Int.reduceLE, Int.reduceLT, Int.reduceNeg, reduceIte, ruleC, seasonC, slS, slX, termsC, spellC])
    | (intro _h)
    | (refine awp_block ?_)
    | (refine awp_scope ?_)
    | (refine awp_label ?_; simp only [go_sem, Nat.reduceAdd, Nat.reduceMul, Nat.reduceSub, Nat.reduceLeDiff, Nat.reduceLT, Int.reduceToNat, Int.reduceLE, Int.reduceLT, Int.reduceNeg, reduceIte, ruleC, seasonC, slS, slX, termsC, spellC])
    | (refine awp_skip ?_; simp only [go_sem, Nat.reduceAdd, Nat.reduceMul, Nat.reduceSub, Nat.reduceLeDiff, Nat.reduceLT, Int.reduceToNat, Int.reduceLE, Int.reduceLT, Int.reduceNeg, reduceIte, ruleC, seasonC, slS, slX, termsC, spellC])
    | (refine awp_exit ?_; simp only [go_sem, Nat.reduceAdd, Nat.reduceMul, Nat.reduceSub, Nat.reduceLeDiff, Nat.reduceLT, Int.reduceToNat, Int.reduceLE, Int.reduceLT, Int.reduceNeg, reduceIte, ruleC, seasonC, slS, slX, termsC, spellC])
    | (refine awp_cd ?_; simp only [go_sem, Nat.reduceAdd, Nat.reduceMul, Nat.reduceSub, Nat.reduceLeDiff, Nat.reduceLT, Int.reduceToNat, Int.reduceLE, Int.reduceLT, Int.reduceNeg, reduceIte, ruleC, seasonC, slS, slX, termsC, spellC])
    | (refine awp_ret ?_; simp only [go_sem, Nat.reduceAdd, Nat.reduceMul, Nat.reduceSub, Nat.reduceLeDiff, Nat.reduceLT, Int.reduceToNat, Int.reduceLE, Int.reduceLT, Int.reduceNeg, reduceIte, ruleC, seasonC, slS, slX, termsC, spellC])
    | (refine go_split (fun _h => ?_) (fun _h => ?_) <;> simp only [go_sem, Nat.reduceAdd, Nat.reduceMul, Nat.reduceSub, Nat.reduceLeDiff, Nat.reduceLT, Int.reduceToNat, Int.reduceLE, Int.reduceLT, Int.reduceNeg, reduceIte, ruleC, seasonC, slS, slX, termsC, spellC])
    | (show heapOK _ _ = true; kernel_rfl)
    | (omega)))
  refine awp_loopN l.length (fun i => ⟨mkT 86 [(0, slS l), (4, .ptr 0 0 0), (5, .ptr 1 0 0), (8, .int .i64 (sumTo (priceS t r) l i)), (9, .bool (allTo (inTimeS t r) l i)), (10, .int .i64 i)], [some (.cells 90 1 0 (termsC t)), some (.cells 26 1 0 (ruleC r))], []⟩) (.le2 ?_) ?_
  · simp only [go_sem, Nat.reduceAdd, Nat.reduceMul, Nat.reduceSub, Nat.reduceLeDiff, Nat.reduceLT, Int.reduceToNat, Int.reduceLE, Int.reduceLT, Int.reduceNeg, reduceIte, ruleC, seasonC, slS, slX, termsC, spellC]
    simp [sumTo_zero, allTo_zero]
  · intro i hi
    have hbi := sumTo_bd (f := priceS t r) (l := l) 3660000 default (fun j hj => priceS_bd (hl2 j hj) ht hr.1) i hi
    have hsi : i < l.length → _ := fun h => sumTo_succ (f := priceS t r) (l := l) default h
    have hai : i < l.length → _ := fun h => allTo_succ (q := inTimeS t r) (l := l) default h
    have hle : i < l.length → _ := fun h => hl2 i h
    generalize hS : sumTo (priceS t r) l i = S at *
    simp only [go_sem, Nat.reduceAdd, Nat.reduceMul, Nat.reduceSub, Nat.reduceLeDiff, Nat.reduceLT, Int.reduceToNat, Int.reduceLE, Int.reduceLT, Int.reduceNeg, reduceIte, ruleC, seasonC, slS, slX, termsC, spellC]
    (repeat' (first
    | (refine awp_seqK ?_)
    | (refine awp_region ?_; simp only [go_sem, Nat.reduceAdd, Nat.reduceMul, Nat.reduceSub, Nat.reduceLeDiff, Nat.reduceLT, Int.reduceToNat, Int.reduceLE, Int.reduceLT, Int.reduceNeg, reduceIte, ruleC, seasonC, slS, slX, termsC, spellC])
    | (refine awp_draw (by kernel_rfl) (by kernel_rfl) ?_; simp only [go_sem, Nat.reduceAdd, Nat.reduceMul, Nat.reduceSub, Nat.reduceLeDiff, Nat.reduceLT, Int.reduceToNat, Int.reduceLE, Int.reduceLT, Int.reduceNeg, reduceIte, ruleC, seasonC, slS, slX, termsC, spellC])
    | (refine kt ?_)
    | (refine And.intro ?_ ?_)
    | (refine Imp.le2 ?_; simp only [go_sem, Nat.reduceAdd, Nat.reduceMul, Nat.reduceSub, Nat.reduceLeDiff, Nat.reduceLT, Int.reduceToNat, Int.reduceLE, Int.reduceLT, Int.reduceNeg, reduceIte, ruleC, seasonC, slS, slX, termsC, spellC])
    | (intro _h)
    | (refine awp_block ?_)
    | (refine awp_scope ?_)
    | (refine awp_label ?_; simp only [go_sem, Nat.reduceAdd, Nat.reduceMul, Nat.reduceSub, Nat.reduceLeDiff, Nat.reduceLT, Int.reduceToNat, Int.reduceLE, Int.reduceLT, Int.reduceNeg, reduceIte, ruleC, seasonC, slS, slX, termsC, spellC])
    | (refine awp_skip ?_; simp only [go_sem, Nat.reduceAdd, Nat.reduceMul, Nat.reduceSub, Nat.reduceLeDiff, Nat.reduceLT, Int.reduceToNat, Int.reduceLE, Int.reduceLT, Int.reduceNeg, reduceIte, ruleC, seasonC, slS, slX, termsC, spellC])
    | (refine awp_exit ?_; simp only [go_sem, Nat.reduceAdd, Nat.reduceMul, Nat.reduceSub, Nat.reduceLeDiff, Nat.reduceLT, Int.reduceToNat, Int.reduceLE, Int.reduceLT, Int.reduceNeg, reduceIte, ruleC, seasonC, slS, slX, termsC, spellC])
    | (refine awp_cd ?_; simp only [go_sem, Nat.reduceAdd, Nat.reduceMul, Nat.reduceSub, Nat.reduceLeDiff, Nat.reduceLT, Int.reduceToNat, Int.reduceLE, Int.reduceLT, Int.reduceNeg, reduceIte, ruleC, seasonC, slS, slX, termsC, spellC])
    | (refine awp_ret ?_; simp only [go_sem, Nat.reduceAdd, Nat.reduceMul, Nat.reduceSub, Nat.reduceLeDiff, Nat.reduceLT, Int.reduceToNat, Int.reduceLE, Int.reduceLT, Int.reduceNeg, reduceIte, ruleC, seasonC, slS, slX, termsC, spellC])
    | (refine callK_of (refSpells_c (l.getD i default) r (by have := hl2 i (by omega); omega) hr) ?_; try simp only [go_sem, Nat.reduceAdd, Nat.reduceMul, Nat.reduceSub, Nat.reduceLeDiff, Nat.reduceLT, Int.reduceToNat, Int.reduceLE, Int.reduceLT, Int.reduceNeg, reduceIte, ruleC, seasonC, slS, slX, termsC, spellC])
    | (refine go_split (fun _h => ?_) (fun _h => ?_) <;> simp only [go_sem, Nat.reduceAdd, Nat.reduceMul, Nat.reduceSub, Nat.reduceLeDiff, Nat.reduceLT, Int.reduceToNat, Int.reduceLE, Int.reduceLT, Int.reduceNeg, reduceIte, ruleC, seasonC, slS, slX, termsC, spellC])
    | (show heapOK _ _ = true; kernel_rfl)
    | (omega)))
    · have hle := hle (by omega)
      have hsi := hsi (by omega)
      have hai := hai (by omega)
      generalize l.getD i default = s at *
      obtain ⟨sp, fl⟩ := s
      simp only at hle
      have hch := spells_chain (sp := sp) hr.1
      have hle2 := spells_le (sp := sp) (r := r)
      simp only [priceS, inTimeS] at hsi hai
      simp only
      generalize spells sp r = xs at *
      refine awp_loopN xs.length (fun k => ⟨mkT 86 [(0, slS l), (4, .ptr 0 0 0), (5, .ptr 1 0 0), (8, .int .i64 (S + sumTo (spellCost t ⟨sp, fl⟩) xs k)), (9, .bool (allTo (inTimeS t r) l i)), (10, .int .i64 i), (11, .ptr 2 0 0), (12, slX xs), (13, .bool (fl && anyTo (savedB t ⟨sp, fl⟩) xs k)), (14, .int .i64 k)], [some (.cells 90 1 0 (termsC t)), some (.cells 26 1 0 (ruleC r)), some (.cells 24 1 0 (seasonC ⟨sp, fl⟩))], []⟩) (.le2 ?_) ?_
      · simp only [go_sem, Nat.reduceAdd, Nat.reduceMul, Nat.reduceSub, Nat.reduceLeDiff, Nat.reduceLT, Int.reduceToNat, Int.reduceLE, Int.reduceLT, Int.reduceNeg, reduceIte, ruleC, seasonC, slS, slX, termsC, spellC]
        simp [sumTo_zero, anyTo_zero]
      · intro k hk
        have hbd := sumTo_bd (f := spellCost t ⟨sp, fl⟩) (l := xs) 61000 (0, 0) (fun j hj => (cost_bd ht (hch.at j hj).2.1 (hch.at j hj).2.2 hle).2.2) k hk
        have hat := hch.at k
        have hcb : k < xs.length → _ := fun h => cost_bd (s := ⟨sp, fl⟩) ht (hat h).2.1 (hat h).2.2 hle
        have hsu : k < xs.length → _ := fun h => sumTo_succ (f := spellCost t ⟨sp, fl⟩) (l := xs) (0, 0) h
        have hau : k < xs.length → _ := fun h => anyTo_succ (q := savedB t ⟨sp, fl⟩) (l := xs) (0, 0) h
        simp only [go_sem, Nat.reduceAdd, Nat.reduceMul, Nat.reduceSub, Nat.reduceLeDiff, Nat.reduceLT, Int.reduceToNat, Int.reduceLE, Int.reduceLT, Int.reduceNeg, reduceIte, ruleC, seasonC, slS, slX, termsC, spellC]
        (repeat' (first
    | (refine awp_seqK ?_)
    | (refine awp_region ?_; simp only [go_sem, Nat.reduceAdd, Nat.reduceMul, Nat.reduceSub, Nat.reduceLeDiff, Nat.reduceLT, Int.reduceToNat, Int.reduceLE, Int.reduceLT, Int.reduceNeg, reduceIte, ruleC, seasonC, slS, slX, termsC, spellC])
    | (refine awp_draw (by kernel_rfl) (by kernel_rfl) ?_; simp only [go_sem, Nat.reduceAdd, Nat.reduceMul, Nat.reduceSub, Nat.reduceLeDiff, Nat.reduceLT, Int.reduceToNat, Int.reduceLE, Int.reduceLT, Int.reduceNeg, reduceIte, ruleC, seasonC, slS, slX, termsC, spellC])
    | (refine kt ?_)
    | (refine And.intro ?_ ?_)
    | (refine Imp.le2 ?_; simp only [go_sem, Nat.reduceAdd, Nat.reduceMul, Nat.reduceSub, Nat.reduceLeDiff, Nat.reduceLT, Int.reduceToNat, Int.reduceLE, Int.reduceLT, Int.reduceNeg, reduceIte, ruleC, seasonC, slS, slX, termsC, spellC])
    | (intro _h)
    | (refine awp_block ?_)
    | (refine awp_scope ?_)
    | (refine awp_label ?_; simp only [go_sem, Nat.reduceAdd, Nat.reduceMul, Nat.reduceSub, Nat.reduceLeDiff, Nat.reduceLT, Int.reduceToNat, Int.reduceLE, Int.reduceLT, Int.reduceNeg, reduceIte, ruleC, seasonC, slS, slX, termsC, spellC])
    | (refine awp_skip ?_; simp only [go_sem, Nat.reduceAdd, Nat.reduceMul, Nat.reduceSub, Nat.reduceLeDiff, Nat.reduceLT, Int.reduceToNat, Int.reduceLE, Int.reduceLT, Int.reduceNeg, reduceIte, ruleC, seasonC, slS, slX, termsC, spellC])
    | (refine awp_exit ?_; simp only [go_sem, Nat.reduceAdd, Nat.reduceMul, Nat.reduceSub, Nat.reduceLeDiff, Nat.reduceLT, Int.reduceToNat, Int.reduceLE, Int.reduceLT, Int.reduceNeg, reduceIte, ruleC, seasonC, slS, slX, termsC, spellC])
    | (refine awp_cd ?_; simp only [go_sem, Nat.reduceAdd, Nat.reduceMul, Nat.reduceSub, Nat.reduceLeDiff, Nat.reduceLT, Int.reduceToNat, Int.reduceLE, Int.reduceLT, Int.reduceNeg, reduceIte, ruleC, seasonC, slS, slX, termsC, spellC])
    | (refine awp_ret ?_; simp only [go_sem, Nat.reduceAdd, Nat.reduceMul, Nat.reduceSub, Nat.reduceLeDiff, Nat.reduceLT, Int.reduceToNat, Int.reduceLE, Int.reduceLT, Int.reduceNeg, reduceIte, ruleC, seasonC, slS, slX, termsC, spellC])
    | (refine go_split (fun _h => ?_) (fun _h => ?_) <;> simp only [go_sem, Nat.reduceAdd, Nat.reduceMul, Nat.reduceSub, Nat.reduceLeDiff, Nat.reduceLT, Int.reduceToNat, Int.reduceLE, Int.reduceLT, Int.reduceNeg, reduceIte, ruleC, seasonC, slS, slX, termsC, spellC])
    | (show heapOK _ _ = true; kernel_rfl)
    | (omega)))
        all_goals (try (have hcb := hcb (by omega)); try (have hat := hat (by omega)); try (have hsu := hsu (by omega)); try (have hau := hau (by omega)))
        all_goals (try simp only at hcb hat)
        all_goals (first
          | omega
          | (rw [hsu]; cases fl <;> first
              | contradiction
              | (rw [spellCost_pos (s := ⟨sp, _⟩) ⟨rfl, by simp only; omega⟩]; omega)
              | (rw [spellCost_neg (s := ⟨sp, _⟩) (by rintro ⟨h1, h2⟩; first | (cases h1; done) | (simp only at h2; omega))]; omega))
          | (rw [hau]; cases fl <;> first
              | contradiction
              | rfl
              | (rw [show savedB t ⟨sp, true⟩ (xs.getD k (0, 0)) = true from decide_eq_true ⟨by simp only; omega, by omega⟩]; simp; done)
              | (rw [show savedB t ⟨sp, true⟩ (xs.getD k (0, 0)) = false from decide_eq_false (by simp only; omega)]; simp; done))
          | (have : k = xs.length := by omega
             subst this; first | (rw [hsi]; done) | (rw [hai, ← anyTo_all (q := savedB t ⟨sp, fl⟩) (l := xs)]; simp_all; done))
          | trace "LEFT")
    all_goals (first
      | omega
      | (have : i = l.length := by omega
         subst this; first | (rw [hS]; done) | (rw [← hS]; done) | rfl | (rw [← allTo_all]; assumption) | (rw [← allTo_all]; done))
      | trace "LEFT")
end Go.Am
