/- Contracts of the alarm functions: the price by the reference, seasons for the program, guards. -/
import Derived.Test.YtnjommobapmgbaaAlJ
namespace Go.Am
open Go.RowKit Go.Proofs
attribute [local irreducible] AWP CallS Kt goK CallK stepK evOps
set_option maxRecDepth 4000
set_option linter.unusedSimpArgs false
set_option linter.unusedVariables false
set_option maxHeartbeats 1600000

theorem snoc_S {l : List Season} {s : Season} : recs seasonC l ++ [.psl false s.speeds.length (ints s.speeds), .bool s.fell] = recs seasonC (l ++ [s]) := by simp [recs, seasonC, sl]
theorem take_snoc {α : Type} {l : List α} {k : Nat} (d : α) (h : k < l.length) : l.take k ++ [l.getD k d] = l.take (k + 1) := by
  rw [List.take_succ_eq_append_getElem h]; simp [List.getD_eq_getElem?_getD, h]
theorem Seasons_c (l : List Season) (h1 : l.length ≤ 1000) (h2 : ∀ i, i < l.length → (l.getD i default).speeds.length ≤ 1000000) : CallS Try.prog 48 [slS l] (slS l) := by
  refine callS_of_awp (fun w args => Try.call48 ..) Try.func48 rfl (fun w0 => ?_)
  simp only [Try.ntmps48, Try.results48, initT, junks, ruleC, seasonC, slS, slX, termsC, spellC, sl, List.toList_toArray, List.cons_append, List.nil_append, List.length_cons, List.length_nil, Nat.reduceAdd, Nat.reduceSub]
  (repeat' (first
    | (refine awp_seqK ?_)
    | (refine awp_region ?_; simp only [go_sem, Nat.reduceAdd, Nat.reduceMul, Nat.reduceSub, Nat.reduceLeDiff, Nat.reduceLT, Int.reduceToNat, Int.reduceLE, Int.reduceLT, Int.reduceNeg, reduceIte, ruleC, seasonC, slS, slX, termsC, spellC])
    | (refine awp_draw (by kernel_rfl) (by kernel_rfl) ?_; simp only [go_sem, Nat.reduceAdd, Nat.reduceMul, Nat.reduceSub, Nat.reduceLeDiff, Nat.reduceLT, Int.reduceToNat, Int.reduceLE, Int.reduceLT, Int.reduceNeg, reduceIte, ruleC, seasonC, slS, slX, termsC, spellC])
    | (refine kt ?_)
    | (refine And.intro ?_ ?_)
    | (refine Imp.le2 ?_; simp only [go_sem, Nat.reduceAdd, Nat.reduceMul, Nat.reduceSub, Nat.reduceLeDiff, Nat.reduceLT, Int.reduceToNat, Int.reduceLE, Int.reduceLT, Int.reduceNeg, reduceIte, ruleC, seasonC, slS, slX, termsC, spellC])
    | (intro _h)
    | (refine awp_block ?_)
    | (refine awp_scope ?_)
    | (refine awp_label ?_; simp only [go_sem, Nat.reduceAdd, Nat.reduceMul, Nat.reduceSub, Nat.reduceLeDiff, Nat.reduceLT, Int.reduceToNat, Int.reduceLE, Int.reduceLT, Int.reduceNeg, reduceIte, ruleC, seasonC, slS, slX, termsC, spellC])
    | (refine awp_skip ?_; simp only [go_sem, Nat.reduceAdd, Nat.reduceMul, Nat.reduceSub, Nat.reduceLeDiff, Nat.reduceLT, Int.reduceToNat, Int.reduceLE, Int.reduceLT, Int.reduceNeg, reduceIte, ruleC, seasonC, slS, slX, termsC, spellC])
    | (refine awp_exit ?_; simp only [go_sem, Nat.reduceAdd, Nat.reduceMul, Nat.reduceSub, Nat.reduceLeDiff, Nat.reduceLT, Int.reduceToNat, Int.reduceLE, Int.reduceLT, Int.reduceNeg, reduceIte, ruleC, seasonC, slS, slX, termsC, spellC])
    | (refine awp_cd ?_; simp only [go_sem, Nat.reduceAdd, Nat.reduceMul, Nat.reduceSub, Nat.reduceLeDiff, Nat.reduceLT, Int.reduceToNat, Int.reduceLE, Int.reduceLT, Int.reduceNeg, reduceIte, ruleC, seasonC, slS, slX, termsC, spellC])
    | (refine awp_ret ?_; simp only [go_sem, Nat.reduceAdd, Nat.reduceMul, Nat.reduceSub, Nat.reduceLeDiff, Nat.reduceLT, Int.reduceToNat, Int.reduceLE, Int.reduceLT, Int.reduceNeg, reduceIte, ruleC, seasonC, slS, slX, termsC, spellC])
    | (refine go_split (fun _h => ?_) (fun _h => ?_) <;> simp only [go_sem, Nat.reduceAdd, Nat.reduceMul, Nat.reduceSub, Nat.reduceLeDiff, Nat.reduceLT, Int.reduceToNat, Int.reduceLE, Int.reduceLT, Int.reduceNeg, reduceIte, ruleC, seasonC, slS, slX, termsC, spellC])
    | (show heapOK _ _ = true; kernel_rfl)
    | (omega)))
  (refine awp_adT 3 32 2 rfl ?_; simp only [adT, lset, hset, List.length_cons, List.length_nil, Nat.reduceAdd])
  refine awp_loopN l.length (fun k => ⟨mkT 20 [(0, slS l), (3, .osl 0 k 0 k), (4, .int .i64 k)], [some (.cells 32 2 k (recs seasonC (l.take k)))], []⟩) (.le2 ?_) ?_
  · simp only [go_sem, Nat.reduceAdd, Nat.reduceMul, Nat.reduceSub, Nat.reduceLeDiff, Nat.reduceLT, Int.reduceToNat, Int.reduceLE, Int.reduceLT, Int.reduceNeg, reduceIte, ruleC, seasonC, slS, slX, termsC, spellC]
    simp [recs]
  · intro k hk
    have hsn : k < l.length → _ := fun h => take_snoc (l := l) default h
    have hlt : (l.take k).length = k := by simp; omega
    simp only [go_sem, Nat.reduceAdd, Nat.reduceMul, Nat.reduceSub, Nat.reduceLeDiff, Nat.reduceLT, Int.reduceToNat, Int.reduceLE, Int.reduceLT, Int.reduceNeg, reduceIte, ruleC, seasonC, slS, slX, termsC, spellC]
    (repeat' (first
    | (refine awp_seqK ?_)
    | (refine awp_region ?_; simp only [go_sem, Nat.reduceAdd, Nat.reduceMul, Nat.reduceSub, Nat.reduceLeDiff, Nat.reduceLT, Int.reduceToNat, Int.reduceLE, Int.reduceLT, Int.reduceNeg, reduceIte, ruleC, seasonC, slS, slX, termsC, spellC])
    | (refine awp_draw (by kernel_rfl) (by kernel_rfl) ?_; simp only [go_sem, Nat.reduceAdd, Nat.reduceMul, Nat.reduceSub, Nat.reduceLeDiff, Nat.reduceLT, Int.reduceToNat, Int.reduceLE, Int.reduceLT, Int.reduceNeg, reduceIte, ruleC, seasonC, slS, slX, termsC, spellC])
    | (refine kt ?_)
    | (refine And.intro ?_ ?_)
    | (refine Imp.le2 ?_; simp only [go_sem, Nat.reduceAdd, Nat.reduceMul, Nat.reduceSub, Nat.reduceLeDiff, Nat.reduceLT, Int.reduceToNat, Int.reduceLE, Int.reduceLT, Int.reduceNeg, reduceIte, ruleC, seasonC, slS, slX, termsC, spellC])
    | (intro _h)
    | (refine awp_block ?_)
    | (refine awp_scope ?_)
    | (refine awp_label ?_; simp only [go_sem, Nat.reduceAdd, Nat.reduceMul, Nat.reduceSub, Nat.reduceLeDiff, Nat.reduceLT, Int.reduceToNat, Int.reduceLE, Int.reduceLT, Int.reduceNeg, reduceIte, ruleC, seasonC, slS, slX, termsC, spellC])
    | (refine awp_skip ?_; simp only [go_sem, Nat.reduceAdd, Nat.reduceMul, Nat.reduceSub, Nat.reduceLeDiff, Nat.reduceLT, Int.reduceToNat, Int.reduceLE, Int.reduceLT, Int.reduceNeg, reduceIte, ruleC, seasonC, slS, slX, termsC, spellC])
    | (refine awp_exit ?_; simp only [go_sem, Nat.reduceAdd, Nat.reduceMul, Nat.reduceSub, Nat.reduceLeDiff, Nat.reduceLT, Int.reduceToNat, Int.reduceLE, Int.reduceLT, Int.reduceNeg, reduceIte, ruleC, seasonC, slS, slX, termsC, spellC])
    | (refine awp_cd ?_; simp only [go_sem, Nat.reduceAdd, Nat.reduceMul, Nat.reduceSub, Nat.reduceLeDiff, Nat.reduceLT, Int.reduceToNat, Int.reduceLE, Int.reduceLT, Int.reduceNeg, reduceIte, ruleC, seasonC, slS, slX, termsC, spellC])
    | (refine awp_ret ?_; simp only [go_sem, Nat.reduceAdd, Nat.reduceMul, Nat.reduceSub, Nat.reduceLeDiff, Nat.reduceLT, Int.reduceToNat, Int.reduceLE, Int.reduceLT, Int.reduceNeg, reduceIte, ruleC, seasonC, slS, slX, termsC, spellC])
    | (refine callK_of (Season_c (l.getD k default) (h2 k (by omega))) ?_; try simp only [go_sem, Nat.reduceAdd, Nat.reduceMul, Nat.reduceSub, Nat.reduceLeDiff, Nat.reduceLT, Int.reduceToNat, Int.reduceLE, Int.reduceLT, Int.reduceNeg, reduceIte, ruleC, seasonC, slS, slX, termsC, spellC])
    | (refine go_split (fun _h => ?_) (fun _h => ?_) <;> simp only [go_sem, Nat.reduceAdd, Nat.reduceMul, Nat.reduceSub, Nat.reduceLeDiff, Nat.reduceLT, Int.reduceToNat, Int.reduceLE, Int.reduceLT, Int.reduceNeg, reduceIte, ruleC, seasonC, slS, slX, termsC, spellC])
    | (show heapOK _ _ = true; kernel_rfl)
    | (omega)))
    all_goals (try (have hsn := hsn (by omega)))
    all_goals (first
      | omega
      | (rw [← hsn]; exact snoc_S)
      | (have : k = l.length := by omega
         subst this; simp; done)
      | trace "LEFT")
def shortB (l : List Season) : Bool := decide (l.length ≤ 12) && l.all (fun s => decide (s.speeds.length ≤ 65))
theorem short_c (l : List Season) (hl : okS l) : CallS Try.prog 46 [slS l] (.bool (shortB l)) := by
  obtain ⟨hl1, hl2⟩ := hl
  have bad : ∀ i, i < l.length → 65 < (l.getD i default).speeds.length → shortB l = false := by
    intro i hi h
    unfold shortB
    have : (l.all fun s => decide (s.speeds.length ≤ 65)) = false := by
      rw [List.all_eq_false]
      refine ⟨l[i], List.getElem_mem hi, ?_⟩
      rw [show l.getD i default = l[i] by simp [List.getD_eq_getElem?_getD, hi]] at h
      simp; omega
    rw [this, Bool.and_false]
  have good : l.length ≤ 12 → (∀ j, j < l.length → (l.getD j default).speeds.length ≤ 65) → shortB l = true := by
    intro h h'
    unfold shortB
    rw [Bool.and_eq_true, decide_eq_true_eq, List.all_eq_true]
    refine ⟨h, fun s hs => ?_⟩
    obtain ⟨j, hj, rfl⟩ := List.mem_iff_getElem.1 hs
    have := h' j hj
    rw [show l.getD j default = l[j] by simp [List.getD_eq_getElem?_getD, hj]] at this
    simpa using this
  have long : ¬ l.length ≤ 12 → shortB l = false := by
    intro h; unfold shortB; rw [decide_eq_false h, Bool.false_and]
  refine callS_of_awp (fun w args => Try.call46 ..) Try.func46 rfl (fun w0 => ?_)
  simp only [Try.ntmps46, Try.results46, initT, junks, ruleC, seasonC, slS, slX, termsC, spellC, sl, List.toList_toArray, List.cons_append, List.nil_append, List.length_cons, List.length_nil, Nat.reduceAdd, Nat.reduceSub]
  (repeat' (first
    | (refine awp_seqK ?_)
    | (refine awp_region ?_; simp only [go_sem, Nat.reduceAdd, Nat.reduceMul, Nat.reduceSub, Nat.reduceLeDiff, Nat.reduceLT, Int.reduceToNat, Int.reduceLE, Int.reduceLT, Int.reduceNeg, reduceIte, ruleC, seasonC, slS, slX, termsC, spellC])
    | (refine awp_draw (by kernel_rfl) (by kernel_rfl) ?_; simp only [go_sem, Nat.reduceAdd, Nat.reduceMul, Nat.reduceSub, Nat.reduceLeDiff, Nat.reduceLT, Int.reduceToNat, Int.reduceLE, Int.reduceLT, Int.reduceNeg, reduceIte, ruleC, seasonC, slS, slX, termsC, spellC])
    | (refine kt ?_)
    | (refine And.intro ?_ ?_)
    | (refine Imp.le2 ?_; simp only [go_sem, Nat.reduceAdd, Nat.reduceMul, Nat.reduceSub, Nat.reduceLeDiff, Nat.reduceLT, Int.reduceToNat, Int.reduceLE, Int.reduceLT, Int.reduceNeg, reduceIte, ruleC, seasonC, slS, slX, termsC, spellC])
    | (intro _h)
    | (refine awp_block ?_)
    | (refine awp_scope ?_)
    | (refine awp_label ?_; simp only [go_sem, Nat.reduceAdd, Nat.reduceMul, Nat.reduceSub, Nat.reduceLeDiff, Nat.reduceLT, Int.reduceToNat, Int.reduceLE, Int.reduceLT, Int.reduceNeg, reduceIte, ruleC, seasonC, slS, slX, termsC, spellC])
    | (refine awp_skip ?_; simp only [go_sem, Nat.reduceAdd, Nat.reduceMul, Nat.reduceSub, Nat.reduceLeDiff, Nat.reduceLT, Int.reduceToNat, Int.reduceLE, Int.reduceLT, Int.reduceNeg, reduceIte, ruleC, seasonC, slS, slX, termsC, spellC])
    | (refine awp_exit ?_; simp only [go_sem, Nat.reduceAdd, Nat.reduceMul, Nat.reduceSub, Nat.reduceLeDiff, Nat.reduceLT, Int.reduceToNat, Int.reduceLE, Int.reduceLT, Int.reduceNeg, reduceIte, ruleC, seasonC, slS, slX, termsC, spellC])
    | (refine awp_cd ?_; simp only [go_sem, Nat.reduceAdd, Nat.reduceMul, Nat.reduceSub, Nat.reduceLeDiff, Nat.reduceLT, Int.reduceToNat, Int.reduceLE, Int.reduceLT, Int.reduceNeg, reduceIte, ruleC, seasonC, slS, slX, termsC, spellC])
    | (refine awp_ret ?_; simp only [go_sem, Nat.reduceAdd, Nat.reduceMul, Nat.reduceSub, Nat.reduceLeDiff, Nat.reduceLT, Int.reduceToNat, Int.reduceLE, Int.reduceLT, Int.reduceNeg, reduceIte, ruleC, seasonC, slS, slX, termsC, spellC])
    | (refine go_split (fun _h => ?_) (fun _h => ?_) <;> simp only [go_sem, Nat.reduceAdd, Nat.reduceMul, Nat.reduceSub, Nat.reduceLeDiff, Nat.reduceLT, Int.reduceToNat, Int.reduceLE, Int.reduceLT, Int.reduceNeg, reduceIte, ruleC, seasonC, slS, slX, termsC, spellC])
    | (show heapOK _ _ = true; kernel_rfl)
    | (omega)))
  refine awp_loopJ (fun i : Nat => i ≤ l.length ∧ i ≤ 13 ∧ ∀ j, j < i → (l.getD j default).speeds.length ≤ 65) (fun i => ⟨mkT 24 [(0, slS l), (3, .int .i64 i)], [], []⟩) (fun i => l.length - i) 0 ⟨Nat.zero_le _, Nat.zero_le _, by simp⟩ (.le2 ?_) ?_
  · simp only [go_sem, Nat.reduceAdd, Nat.reduceMul, Nat.reduceSub, Nat.reduceLeDiff, Nat.reduceLT, Int.reduceToNat, Int.reduceLE, Int.reduceLT, Int.reduceNeg, reduceIte, ruleC, seasonC, slS, slX, termsC, spellC]
  · rintro i ⟨hi, hi13, hj⟩
    simp only [go_sem, Nat.reduceAdd, Nat.reduceMul, Nat.reduceSub, Nat.reduceLeDiff, Nat.reduceLT, Int.reduceToNat, Int.reduceLE, Int.reduceLT, Int.reduceNeg, reduceIte, ruleC, seasonC, slS, slX, termsC, spellC]
    (repeat' (first
    | (refine awp_seqK ?_)
    | (refine awp_region ?_; simp only [go_sem, Nat.reduceAdd, Nat.reduceMul, Nat.reduceSub, Nat.reduceLeDiff, Nat.reduceLT, Int.reduceToNat, Int.reduceLE, Int.reduceLT, Int.reduceNeg, reduceIte, ruleC, seasonC, slS, slX, termsC, spellC])
    | (refine awp_draw (by kernel_rfl) (by kernel_rfl) ?_; simp only [go_sem, Nat.reduceAdd, Nat.reduceMul, Nat.reduceSub, Nat.reduceLeDiff, Nat.reduceLT, Int.reduceToNat, Int.reduceLE, Int.reduceLT, Int.reduceNeg, reduceIte, ruleC, seasonC, slS, slX, termsC, spellC])
    | (refine kt ?_)
    | (refine And.intro ?_ ?_)
    | (refine Imp.le2 ?_; simp only [go_sem, Nat.reduceAdd, Nat.reduceMul, Nat.reduceSub, Nat.reduceLeDiff, Nat.reduceLT, Int.reduceToNat, Int.reduceLE, Int.reduceLT, Int.reduceNeg, reduceIte, ruleC, seasonC, slS, slX, termsC, spellC])
    | (intro _h)
    | (refine awp_block ?_)
    | (refine awp_scope ?_)
    | (refine awp_label ?_; simp only [go_sem, Nat.reduceAdd, Nat.reduceMul, Nat.reduceSub, Nat.reduceLeDiff, Nat.reduceLT, Int.reduceToNat, Int.reduceLE, Int.reduceLT, Int.reduceNeg, reduceIte, ruleC, seasonC, slS, slX, termsC, spellC])
    | (refine awp_skip ?_; simp only [go_sem, Nat.reduceAdd, Nat.reduceMul, Nat.reduceSub, Nat.reduceLeDiff, Nat.reduceLT, Int.reduceToNat, Int.reduceLE, Int.reduceLT, Int.reduceNeg, reduceIte, ruleC, seasonC, slS, slX, termsC, spellC])
    | (refine awp_exit ?_; simp only [go_sem, Nat.reduceAdd, Nat.reduceMul, Nat.reduceSub, Nat.reduceLeDiff, Nat.reduceLT, Int.reduceToNat, Int.reduceLE, Int.reduceLT, Int.reduceNeg, reduceIte, ruleC, seasonC, slS, slX, termsC, spellC])
    | (refine awp_cd ?_; simp only [go_sem, Nat.reduceAdd, Nat.reduceMul, Nat.reduceSub, Nat.reduceLeDiff, Nat.reduceLT, Int.reduceToNat, Int.reduceLE, Int.reduceLT, Int.reduceNeg, reduceIte, ruleC, seasonC, slS, slX, termsC, spellC])
    | (refine awp_ret ?_; simp only [go_sem, Nat.reduceAdd, Nat.reduceMul, Nat.reduceSub, Nat.reduceLeDiff, Nat.reduceLT, Int.reduceToNat, Int.reduceLE, Int.reduceLT, Int.reduceNeg, reduceIte, ruleC, seasonC, slS, slX, termsC, spellC])
    | (refine go_split (fun _h => ?_) (fun _h => ?_) <;> simp only [go_sem, Nat.reduceAdd, Nat.reduceMul, Nat.reduceSub, Nat.reduceLeDiff, Nat.reduceLT, Int.reduceToNat, Int.reduceLE, Int.reduceLT, Int.reduceNeg, reduceIte, ruleC, seasonC, slS, slX, termsC, spellC])
    | (show heapOK _ _ = true; kernel_rfl)
    | (omega)))
    all_goals (first
      | omega
      | exact bad i (by omega) (by omega)
      | exact long (by omega)
      | exact good (by omega) (fun j h => hj j (by omega))
      | (refine ⟨i + 1, ⟨by omega, by omega, fun j hji => ?_⟩, by omega, .le2 ?_⟩
         · rcases Nat.lt_succ_iff_lt_or_eq.1 hji with h | rfl
           · exact hj j h
           · omega
         · simp only [go_sem, Nat.reduceAdd, Nat.reduceMul, Nat.reduceSub, Nat.reduceLeDiff, Nat.reduceLT, Int.reduceToNat, Int.reduceLE, Int.reduceLT, Int.reduceNeg, reduceIte, ruleC, seasonC, slS, slX, termsC, spellC]
           omega)
      | trace "LEFT")
def anyTo {α : Type} (q : α → Bool) (l : List α) (k : Nat) : Bool := (l.take k).any q
theorem anyTo_zero {α : Type} {q : α → Bool} {l : List α} : anyTo q l 0 = false := by simp [anyTo]
theorem anyTo_succ {α : Type} {q : α → Bool} {l : List α} {k : Nat} (d : α) (h : k < l.length) : anyTo q l (k + 1) = (anyTo q l k || q (l.getD k d)) := by
  unfold anyTo
  rw [List.take_succ_eq_append_getElem h, List.any_append]
  simp [List.getD_eq_getElem?_getD, h]
theorem anyTo_all {α : Type} {q : α → Bool} {l : List α} : anyTo q l l.length = l.any q := by simp [anyTo]
end Go.Am
