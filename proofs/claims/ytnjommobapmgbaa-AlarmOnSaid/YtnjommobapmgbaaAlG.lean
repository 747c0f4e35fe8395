/- Contracts of the alarm functions: spells. -/
import Derived.Test.YtnjommobapmgbaaAlF
namespace Go.Am
open Go.RowKit Go.Proofs
attribute [local irreducible] AWP CallS Kt goK CallK stepK evOps
set_option maxRecDepth 4000
set_option linter.unusedSimpArgs false
set_option linter.unusedVariables false
set_option maxHeartbeats 800000

def spellC (x : Nat × Nat) : List AV := [.int .i64 x.1, .int .i64 x.2]
/-- A list of spells. -/
def slX (l : List (Nat × Nat)) : AV := .psl false l.length (recs spellC l)
theorem pl_X {l : List (Nat × Nat)} : pureL (recs spellC l) = True := eq_true (recs_pure fun s => by simp [pureL, spellC, cellPure])
theorem lv_X {l : List (Nat × Nat)} {p : Nat → Bool} : (recs spellC l).all (live2 p) = true := recs_live fun s => by simp [pureL, spellC, cellPure]
theorem len_X {l : List (Nat × Nat)} : (recs spellC l).length = l.length * 2 := recs_length fun _ => rfl
theorem ld_X42 {l : List (Nat × Nat)} {i : Nat} {K : AV → Prop} : loadK Try.prog 42 (recs spellC l) (i * 2) K = (i < l.length ∧ K (.agg (spellC (l.getD i (0, 0))))) := ld_recs tagg42 tsz42 (fun _ => rfl) (by omega)
theorem ld_X43 {l : List (Nat × Nat)} {i : Nat} {K : AV → Prop} : loadK Try.prog 43 (recs spellC l) (i * 2) K = (i < l.length ∧ K (.agg (spellC (l.getD i (0, 0))))) := ld_recs tagg43 tsz43 (fun _ => rfl) (by omega)
theorem nth_X0 {l : List (Nat × Nat)} {i : Nat} {K : AV → Prop} : optK (nth (recs spellC l) (i * 2)) K = (i < l.length ∧ K (.int .i64 (l.getD i (0, 0)).1)) := nth_recs (sz := 2) (o := 0) (fun _ => rfl) (by omega)
theorem nth_X1 {l : List (Nat × Nat)} {i : Nat} {K : AV → Prop} : optK (nth (recs spellC l) (i * 2 + 1)) K = (i < l.length ∧ K (.int .i64 (l.getD i (0, 0)).2)) := nth_recs (sz := 2) (o := 1) (fun _ => rfl) (by omega)
theorem snoc_X {l : List (Nat × Nat)} {a b : Nat} : recs spellC l ++ [.int .i64 a, .int .i64 b] = recs spellC (l ++ [(a, b)]) := by simp [recs, spellC]
attribute [go_sem] pl_X lv_X len_X nth_X0 nth_X1 snoc_X
attribute [go_sem ↓] ld_X42 ld_X43

theorem refSpells_c (s : Season) (r : Rule) (hl : s.speeds.length ≤ 1000) (hr : 1 ≤ r.hold ∧ r.hold ≤ 60) : CallS Try.prog 23 [.agg (seasonC s), .agg (ruleC r)] (slX (spells s.speeds r)) := by
  refine callS_of_awp (fun w args => Try.call23 ..) Try.func23 rfl (fun w0 => ?_)
  simp only [Try.ntmps23, Try.results23, initT, junks, ruleC, seasonC, slS, slX, sl, List.toList_toArray, List.cons_append, List.nil_append, List.length_cons, List.length_nil, Nat.reduceAdd, Nat.reduceSub]
  (repeat' (first
    | (refine awp_seqK ?_)
    | (refine awp_region ?_; simp only [go_sem, Nat.reduceAdd, Nat.reduceMul, Nat.reduceSub, Nat.reduceLeDiff, Nat.reduceLT, Int.reduceToNat, Int.reduceLE, Int.reduceLT, Int.reduceNeg, reduceIte, ruleC, seasonC, slS, slX])
    | (refine awp_draw (by kernel_rfl) (by kernel_rfl) ?_; simp only [go_sem, Nat.reduceAdd, Nat.reduceMul, Nat.reduceSub, Nat.reduceLeDiff, Nat.reduceLT, Int.reduceToNat, Int.reduceLE, Int.reduceLT, Int.reduceNeg, reduceIte, ruleC, seasonC, slS, slX])
    | (refine kt ?_)
    | (refine And.intro ?_ ?_)
    | (refine Imp.le2 ?_; simp only [go_sem, Nat.reduceAdd, Nat.reduceMul, Nat.reduceSub, Nat.reduceLeDiff, Nat.reduceLT, Int.reduceToNat, Int.reduceLE, Int.reduceLT, Int.reduceNeg, reduceIte, ruleC, seasonC, slS, slX])
    | (intro _h)
    | (refine awp_block ?_)
    | (refine awp_scope ?_)
    | (refine awp_label ?_; simp only [go_sem, Nat.reduceAdd, Nat.reduceMul, Nat.reduceSub, Nat.reduceLeDiff, Nat.reduceLT, Int.reduceToNat, Int.reduceLE, Int.reduceLT, Int.reduceNeg, reduceIte, ruleC, seasonC, slS, slX])
    | (refine awp_skip ?_; simp only [go_sem, Nat.reduceAdd, Nat.reduceMul, Nat.reduceSub, Nat.reduceLeDiff, Nat.reduceLT, Int.reduceToNat, Int.reduceLE, Int.reduceLT, Int.reduceNeg, reduceIte, ruleC, seasonC, slS, slX])
    | (refine awp_exit ?_; simp only [go_sem, Nat.reduceAdd, Nat.reduceMul, Nat.reduceSub, Nat.reduceLeDiff, Nat.reduceLT, Int.reduceToNat, Int.reduceLE, Int.reduceLT, Int.reduceNeg, reduceIte, ruleC, seasonC, slS, slX])
    | (refine awp_cd ?_; simp only [go_sem, Nat.reduceAdd, Nat.reduceMul, Nat.reduceSub, Nat.reduceLeDiff, Nat.reduceLT, Int.reduceToNat, Int.reduceLE, Int.reduceLT, Int.reduceNeg, reduceIte, ruleC, seasonC, slS, slX])
    | (refine awp_ret ?_; simp only [go_sem, Nat.reduceAdd, Nat.reduceMul, Nat.reduceSub, Nat.reduceLeDiff, Nat.reduceLT, Int.reduceToNat, Int.reduceLE, Int.reduceLT, Int.reduceNeg, reduceIte, ruleC, seasonC, slS, slX])
    | (refine go_split (fun _h => ?_) (fun _h => ?_) <;> simp only [go_sem, Nat.reduceAdd, Nat.reduceMul, Nat.reduceSub, Nat.reduceLeDiff, Nat.reduceLT, Int.reduceToNat, Int.reduceLE, Int.reduceLT, Int.reduceNeg, reduceIte, ruleC, seasonC, slS, slX])
    | (show heapOK _ _ = true; kernel_rfl)
    | (omega)))
  (refine awp_adT 5 43 2 rfl ?_; simp only [adT, lset, hset, List.length_cons, List.length_nil, Nat.reduceAdd])
  refine awp_loopJ (γ := Nat × List (Nat × Nat)) (fun g => g.1 ≤ s.speeds.length ∧ g.2.length ≤ g.1 ∧ SpAt s.speeds r g.1 g.2)
    (fun g => ⟨mkT 56 [(2, .ptr 0 0 0), (3, .ptr 1 0 0), (5, .osl 2 g.2.length 0 g.2.length), (6, .int .i64 g.1)], [some (.cells 24 1 0 (seasonC s)), some (.cells 26 1 0 (ruleC r)), some (.cells 43 2 g.2.length (recs spellC g.2))], []⟩)
    (fun g => s.speeds.length - g.1) (0, []) ⟨Nat.zero_le _, Nat.zero_le _, spAt_zero⟩ (.le2 ?_) ?_
  · simp only [go_sem, Nat.reduceAdd, Nat.reduceMul, Nat.reduceSub, Nat.reduceLeDiff, Nat.reduceLT, Int.reduceToNat, Int.reduceLE, Int.reduceLT, Int.reduceNeg, reduceIte, ruleC, seasonC, slS, slX]
    simp [recs]
  · rintro ⟨h, out⟩ ⟨h1, h2, h3⟩
    simp only at h1 h2 h3
    simp only [go_sem, Nat.reduceAdd, Nat.reduceMul, Nat.reduceSub, Nat.reduceLeDiff, Nat.reduceLT, Int.reduceToNat, Int.reduceLE, Int.reduceLT, Int.reduceNeg, reduceIte, ruleC, seasonC, slS, slX]
    (repeat' (first
    | (refine awp_seqK ?_)
    | (refine awp_region ?_; simp only [go_sem, Nat.reduceAdd, Nat.reduceMul, Nat.reduceSub, Nat.reduceLeDiff, Nat.reduceLT, Int.reduceToNat, Int.reduceLE, Int.reduceLT, Int.reduceNeg, reduceIte, ruleC, seasonC, slS, slX])
    | (refine awp_draw (by kernel_rfl) (by kernel_rfl) ?_; simp only [go_sem, Nat.reduceAdd, Nat.reduceMul, Nat.reduceSub, Nat.reduceLeDiff, Nat.reduceLT, Int.reduceToNat, Int.reduceLE, Int.reduceLT, Int.reduceNeg, reduceIte, ruleC, seasonC, slS, slX])
    | (refine kt ?_)
    | (refine And.intro ?_ ?_)
    | (refine Imp.le2 ?_; simp only [go_sem, Nat.reduceAdd, Nat.reduceMul, Nat.reduceSub, Nat.reduceLeDiff, Nat.reduceLT, Int.reduceToNat, Int.reduceLE, Int.reduceLT, Int.reduceNeg, reduceIte, ruleC, seasonC, slS, slX])
    | (intro _h)
    | (refine awp_block ?_)
    | (refine awp_scope ?_)
    | (refine awp_label ?_; simp only [go_sem, Nat.reduceAdd, Nat.reduceMul, Nat.reduceSub, Nat.reduceLeDiff, Nat.reduceLT, Int.reduceToNat, Int.reduceLE, Int.reduceLT, Int.reduceNeg, reduceIte, ruleC, seasonC, slS, slX])
    | (refine awp_skip ?_; simp only [go_sem, Nat.reduceAdd, Nat.reduceMul, Nat.reduceSub, Nat.reduceLeDiff, Nat.reduceLT, Int.reduceToNat, Int.reduceLE, Int.reduceLT, Int.reduceNeg, reduceIte, ruleC, seasonC, slS, slX])
    | (refine awp_exit ?_; simp only [go_sem, Nat.reduceAdd, Nat.reduceMul, Nat.reduceSub, Nat.reduceLeDiff, Nat.reduceLT, Int.reduceToNat, Int.reduceLE, Int.reduceLT, Int.reduceNeg, reduceIte, ruleC, seasonC, slS, slX])
    | (refine awp_cd ?_; simp only [go_sem, Nat.reduceAdd, Nat.reduceMul, Nat.reduceSub, Nat.reduceLeDiff, Nat.reduceLT, Int.reduceToNat, Int.reduceLE, Int.reduceLT, Int.reduceNeg, reduceIte, ruleC, seasonC, slS, slX])
    | (refine awp_ret ?_; simp only [go_sem, Nat.reduceAdd, Nat.reduceMul, Nat.reduceSub, Nat.reduceLeDiff, Nat.reduceLT, Int.reduceToNat, Int.reduceLE, Int.reduceLT, Int.reduceNeg, reduceIte, ruleC, seasonC, slS, slX])
    | (refine go_split (fun _h => ?_) (fun _h => ?_) <;> simp only [go_sem, Nat.reduceAdd, Nat.reduceMul, Nat.reduceSub, Nat.reduceLeDiff, Nat.reduceLT, Int.reduceToNat, Int.reduceLE, Int.reduceLT, Int.reduceNeg, reduceIte, ruleC, seasonC, slS, slX])
    | (show heapOK _ _ = true; kernel_rfl)
    | (omega)))
    · refine ⟨(h + 1, out), ⟨by simp only; omega, by simp only; omega, spAt_low h3 (by omega) ‹_›⟩, by simp only; omega, .le2 ?_⟩
      simp only [go_sem, Nat.reduceAdd, Nat.reduceMul, Nat.reduceSub, Nat.reduceLeDiff, Nat.reduceLT, Int.reduceToNat, Int.reduceLE, Int.reduceLT, Int.reduceNeg, reduceIte, ruleC, seasonC, slS, slX]
      simp
    · have hgt := endAt_gt (sp := s.speeds) (r := r) (h := h) (by omega) hr.1
      have hle := endAt_le (sp := s.speeds) (r := r) (h := h)
      refine awp_loopJ (γ := Nat) (fun t => t ≤ s.speeds.length ∧ stretchTo s.speeds r.back t = endAt s.speeds r h)
        (fun t => ⟨mkT 56 [(2, .ptr 0 0 0), (3, .ptr 1 0 0), (5, .osl 2 out.length 0 out.length), (6, .int .i64 h), (7, .int .i64 t)], [some (.cells 24 1 0 (seasonC s)), some (.cells 26 1 0 (ruleC r)), some (.cells 43 2 out.length (recs spellC out))], []⟩)
        (fun t => s.speeds.length - t) (min ((h : Int) + r.hold) s.speeds.length).toNat ⟨by omega, rfl⟩ (.le2 ?_) ?_
      · simp only [go_sem, Nat.reduceAdd, Nat.reduceMul, Nat.reduceSub, Nat.reduceLeDiff, Nat.reduceLT, Int.reduceToNat, Int.reduceLE, Int.reduceLT, Int.reduceNeg, reduceIte, ruleC, seasonC, slS, slX]
        omega
      · rintro t ⟨ht1, ht2⟩
        simp only [go_sem, Nat.reduceAdd, Nat.reduceMul, Nat.reduceSub, Nat.reduceLeDiff, Nat.reduceLT, Int.reduceToNat, Int.reduceLE, Int.reduceLT, Int.reduceNeg, reduceIte, ruleC, seasonC, slS, slX]
        (repeat' (first
    | (refine awp_seqK ?_)
    | (refine awp_region ?_; simp only [go_sem, Nat.reduceAdd, Nat.reduceMul, Nat.reduceSub, Nat.reduceLeDiff, Nat.reduceLT, Int.reduceToNat, Int.reduceLE, Int.reduceLT, Int.reduceNeg, reduceIte, ruleC, seasonC, slS, slX])
    | (refine awp_draw (by kernel_rfl) (by kernel_rfl) ?_; simp only [go_sem, Nat.reduceAdd, Nat.reduceMul, Nat.reduceSub, Nat.reduceLeDiff, Nat.reduceLT, Int.reduceToNat, Int.reduceLE, Int.reduceLT, Int.reduceNeg, reduceIte, ruleC, seasonC, slS, slX])
    | (refine kt ?_)
    | (refine And.intro ?_ ?_)
    | (refine Imp.le2 ?_; simp only [go_sem, Nat.reduceAdd, Nat.reduceMul, Nat.reduceSub, Nat.reduceLeDiff, Nat.reduceLT, Int.reduceToNat, Int.reduceLE, Int.reduceLT, Int.reduceNeg, reduceIte, ruleC, seasonC, slS, slX])
    | (intro _h)
    | (refine awp_block ?_)
    | (refine awp_scope ?_)
    | (refine awp_label ?_; simp only [go_sem, Nat.reduceAdd, Nat.reduceMul, Nat.reduceSub, Nat.reduceLeDiff, Nat.reduceLT, Int.reduceToNat, Int.reduceLE, Int.reduceLT, Int.reduceNeg, reduceIte, ruleC, seasonC, slS, slX])
    | (refine awp_skip ?_; simp only [go_sem, Nat.reduceAdd, Nat.reduceMul, Nat.reduceSub, Nat.reduceLeDiff, Nat.reduceLT, Int.reduceToNat, Int.reduceLE, Int.reduceLT, Int.reduceNeg, reduceIte, ruleC, seasonC, slS, slX])
    | (refine awp_exit ?_; simp only [go_sem, Nat.reduceAdd, Nat.reduceMul, Nat.reduceSub, Nat.reduceLeDiff, Nat.reduceLT, Int.reduceToNat, Int.reduceLE, Int.reduceLT, Int.reduceNeg, reduceIte, ruleC, seasonC, slS, slX])
    | (refine awp_cd ?_; simp only [go_sem, Nat.reduceAdd, Nat.reduceMul, Nat.reduceSub, Nat.reduceLeDiff, Nat.reduceLT, Int.reduceToNat, Int.reduceLE, Int.reduceLT, Int.reduceNeg, reduceIte, ruleC, seasonC, slS, slX])
    | (refine awp_ret ?_; simp only [go_sem, Nat.reduceAdd, Nat.reduceMul, Nat.reduceSub, Nat.reduceLeDiff, Nat.reduceLT, Int.reduceToNat, Int.reduceLE, Int.reduceLT, Int.reduceNeg, reduceIte, ruleC, seasonC, slS, slX])
    | (refine go_split (fun _h => ?_) (fun _h => ?_) <;> simp only [go_sem, Nat.reduceAdd, Nat.reduceMul, Nat.reduceSub, Nat.reduceLeDiff, Nat.reduceLT, Int.reduceToNat, Int.reduceLE, Int.reduceLT, Int.reduceNeg, reduceIte, ruleC, seasonC, slS, slX])
    | (show heapOK _ _ = true; kernel_rfl)
    | (omega)))
        · refine ⟨t + 1, ⟨by omega, (stretchTo_step (by omega) ‹_›).symm.trans ht2⟩, by omega, .le2 ?_⟩
          simp only [go_sem, Nat.reduceAdd, Nat.reduceMul, Nat.reduceSub, Nat.reduceLeDiff, Nat.reduceLT, Int.reduceToNat, Int.reduceLE, Int.reduceLT, Int.reduceNeg, reduceIte, ruleC, seasonC, slS, slX]
          simp
        · have : t = endAt s.speeds r h := by rw [← ht2, stretchTo_stop (by omega)]
          refine ⟨(endAt s.speeds r h, out ++ [(h, endAt s.speeds r h)]), ⟨by simp only; omega, by simp; omega, spAt_on h3 (by omega) ‹_› hr.1⟩, by simp only; omega, .le2 ?_⟩
          subst this
          simp only [go_sem, Nat.reduceAdd, Nat.reduceMul, Nat.reduceSub, Nat.reduceLeDiff, Nat.reduceLT, Int.reduceToNat, Int.reduceLE, Int.reduceLT, Int.reduceNeg, reduceIte, ruleC, seasonC, slS, slX]
          simp
        · have : t = endAt s.speeds r h := by rw [← ht2, stretchTo_stop (by omega)]
          refine ⟨(endAt s.speeds r h, out ++ [(h, endAt s.speeds r h)]), ⟨by simp only; omega, by simp; omega, spAt_on h3 (by omega) ‹_› hr.1⟩, by simp only; omega, .le2 ?_⟩
          subst this
          simp only [go_sem, Nat.reduceAdd, Nat.reduceMul, Nat.reduceSub, Nat.reduceLeDiff, Nat.reduceLT, Int.reduceToNat, Int.reduceLE, Int.reduceLT, Int.reduceNeg, reduceIte, ruleC, seasonC, slS, slX]
          simp
    · rw [spAt_end h3 (by omega)]
    · rw [spAt_end h3 (by omega)]
end Go.Am
