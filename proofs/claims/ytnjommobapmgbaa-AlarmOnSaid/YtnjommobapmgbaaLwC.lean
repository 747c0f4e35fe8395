/- The law AlarmOn, as a contract: it returns true. -/
import Derived.Test.YtnjommobapmgbaaAlH
import Derived.Test.YtnjommobapmgbaaAlU
import Derived.Test.YtnjommobapmgbaaAw
namespace Go.Am
open Go.RowKit Go.Proofs
attribute [local irreducible] AWP CallS Kt goK CallK stepK evOps marks onTo
set_option maxRecDepth 8000
set_option linter.unusedSimpArgs false
set_option linter.unusedVariables false
set_option maxHeartbeats 16000000

theorem rep_zero {n : Nat} : (List.replicate n [AV.int .i64 0]).flatten = ints (List.replicate n 0) := by
  induction n with
  | zero => rfl
  | succ n ih => rw [List.replicate_succ, List.flatten_cons, ih]; rfl
theorem spl_ints {l : List Int} {j : Nat} {v : Int} (h : j < l.length) : splice (ints l) j [.int .i64 v] = ints (l.set j v) := by
  simp only [splice, ints, List.length_cons, List.length_nil, Nat.zero_add]
  rw [List.set_eq_take_append_cons_drop, if_pos h]
  simp [List.map_take, List.map_drop]

theorem alarmOn_c (s : Season) (r : Rule) (hl : s.speeds.length ≤ 9223372036854775807) : CallS Try.prog 5 [.agg (seasonC s), .agg (ruleC r)] (.bool true) := by
  have h1 := seasonsFault_c [s] ⟨by simp, fun i hi => by simp at hi; subst hi; exact hl⟩
  simp only [slS, recs, List.flatMap_cons, List.flatMap_nil, seasonC, sl, ruleC, List.length_cons, List.length_nil, List.append_nil] at h1
  have h2 := rightRule_c r
  simp only [ruleC] at h2
  by_cases hf : faultS [s] = 0
  · cases hr : ruleB r
    · rw [hr] at h2
      rw [hf] at h1
      (refine callS_of_awp (fun w args => Try.call5 ..) Try.func5 rfl (fun w0 => ?_); simp only [Try.ntmps5, Try.results5, initT, junks, ruleC, seasonC, slS, slX, spellC, marks_length, sl, List.toList_toArray, List.cons_append, List.nil_append, List.length_cons, List.length_nil, Nat.reduceAdd, Nat.reduceSub])
      (repeat' (first
    | (refine awp_seqK ?_)
    | (refine awp_region ?_; simp (maxSteps := 4000000) only [go_sem, List.append_eq, List.cons_append, List.nil_append, Nat.reduceAdd, Nat.reduceMul, Nat.reduceSub, Nat.reduceLeDiff, Nat.reduceLT, Int.reduceToNat, Int.reduceLE, Int.reduceLT, Int.reduceNeg, reduceIte, ruleC, seasonC, slS, slX, spellC, marks_length])
    | (refine awp_draw (by kernel_rfl) (by kernel_rfl) ?_; simp (maxSteps := 4000000) only [go_sem, List.append_eq, List.cons_append, List.nil_append, Nat.reduceAdd, Nat.reduceMul, Nat.reduceSub, Nat.reduceLeDiff, Nat.reduceLT, Int.reduceToNat, Int.reduceLE, Int.reduceLT, Int.reduceNeg, reduceIte, ruleC, seasonC, slS, slX, spellC, marks_length])
    | (refine kt ?_)
    | (refine And.intro ?_ ?_)
    | (refine Imp.le2 ?_; simp (maxSteps := 4000000) only [go_sem, List.append_eq, List.cons_append, List.nil_append, Nat.reduceAdd, Nat.reduceMul, Nat.reduceSub, Nat.reduceLeDiff, Nat.reduceLT, Int.reduceToNat, Int.reduceLE, Int.reduceLT, Int.reduceNeg, reduceIte, ruleC, seasonC, slS, slX, spellC, marks_length])
    | (intro _h)
    | (refine awp_block ?_)
    | (refine awp_scope ?_)
    | (refine awp_label ?_; simp (maxSteps := 4000000) only [go_sem, List.append_eq, List.cons_append, List.nil_append, Nat.reduceAdd, Nat.reduceMul, Nat.reduceSub, Nat.reduceLeDiff, Nat.reduceLT, Int.reduceToNat, Int.reduceLE, Int.reduceLT, Int.reduceNeg, reduceIte, ruleC, seasonC, slS, slX, spellC, marks_length])
    | (refine awp_skip ?_; simp (maxSteps := 4000000) only [go_sem, List.append_eq, List.cons_append, List.nil_append, Nat.reduceAdd, Nat.reduceMul, Nat.reduceSub, Nat.reduceLeDiff, Nat.reduceLT, Int.reduceToNat, Int.reduceLE, Int.reduceLT, Int.reduceNeg, reduceIte, ruleC, seasonC, slS, slX, spellC, marks_length])
    | (refine awp_exit ?_; simp (maxSteps := 4000000) only [go_sem, List.append_eq, List.cons_append, List.nil_append, Nat.reduceAdd, Nat.reduceMul, Nat.reduceSub, Nat.reduceLeDiff, Nat.reduceLT, Int.reduceToNat, Int.reduceLE, Int.reduceLT, Int.reduceNeg, reduceIte, ruleC, seasonC, slS, slX, spellC, marks_length])
    | (refine awp_cd ?_; simp (maxSteps := 4000000) only [go_sem, List.append_eq, List.cons_append, List.nil_append, Nat.reduceAdd, Nat.reduceMul, Nat.reduceSub, Nat.reduceLeDiff, Nat.reduceLT, Int.reduceToNat, Int.reduceLE, Int.reduceLT, Int.reduceNeg, reduceIte, ruleC, seasonC, slS, slX, spellC, marks_length])
    | (refine awp_ret ?_; simp (maxSteps := 4000000) only [go_sem, List.append_eq, List.cons_append, List.nil_append, Nat.reduceAdd, Nat.reduceMul, Nat.reduceSub, Nat.reduceLeDiff, Nat.reduceLT, Int.reduceToNat, Int.reduceLE, Int.reduceLT, Int.reduceNeg, reduceIte, ruleC, seasonC, slS, slX, spellC, marks_length])
    | (refine callK_of (awake_c) ?_; try simp (maxSteps := 4000000) only [go_sem, List.append_eq, List.cons_append, List.nil_append, Nat.reduceAdd, Nat.reduceMul, Nat.reduceSub, Nat.reduceLeDiff, Nat.reduceLT, Int.reduceToNat, Int.reduceLE, Int.reduceLT, Int.reduceNeg, reduceIte, ruleC, seasonC, slS, slX, spellC, marks_length])
    | (refine callK_of (CallS.sub (h1) (by simp [subL, avSub])) ?_; try simp (maxSteps := 4000000) only [go_sem, List.append_eq, List.cons_append, List.nil_append, Nat.reduceAdd, Nat.reduceMul, Nat.reduceSub, Nat.reduceLeDiff, Nat.reduceLT, Int.reduceToNat, Int.reduceLE, Int.reduceLT, Int.reduceNeg, reduceIte, ruleC, seasonC, slS, slX, spellC, marks_length])
    | (refine callK_of (h2) ?_; try simp (maxSteps := 4000000) only [go_sem, List.append_eq, List.cons_append, List.nil_append, Nat.reduceAdd, Nat.reduceMul, Nat.reduceSub, Nat.reduceLeDiff, Nat.reduceLT, Int.reduceToNat, Int.reduceLE, Int.reduceLT, Int.reduceNeg, reduceIte, ruleC, seasonC, slS, slX, spellC, marks_length])
    | (refine go_split (fun _h => ?_) (fun _h => ?_) <;> simp (maxSteps := 4000000) only [go_sem, List.append_eq, List.cons_append, List.nil_append, Nat.reduceAdd, Nat.reduceMul, Nat.reduceSub, Nat.reduceLeDiff, Nat.reduceLT, Int.reduceToNat, Int.reduceLE, Int.reduceLT, Int.reduceNeg, reduceIte, ruleC, seasonC, slS, slX, spellC, marks_length])
    | (show heapOK _ _ = true; kernel_rfl)
    | (omega)))
    · have h3 : s.speeds.length ≤ 60 := (faultS_zero hf).2.1 s (by simp)
      have h4 := Spells_c s r (by omega)
      have hr1 := (ruleB_true hr)
      have e1 : errSp s r = 0 := by simp [errSp, hf, hr]
      have e2 : spellsOf s r = spells s.speeds r := by simp [spellsOf, hf, hr]
      rw [e1, e2] at h4
      rw [hr] at h2
      rw [hf] at h1
      have hle := spells_le (sp := s.speeds) (r := r)
      have hch := spells_chain (sp := s.speeds) hr1.2.2.1
      have hok := spells_ok (sp := s.speeds) hr1.2.2.1
      have hcov := fun j => onTo_all (sp := s.speeds) (j := j) hr1.2.2.1
      generalize spells s.speeds r = xs at *
      simp only [slX, seasonC, ruleC, sl] at h4
      (refine callS_of_awp (fun w args => Try.call5 ..) Try.func5 rfl (fun w0 => ?_); simp only [Try.ntmps5, Try.results5, initT, junks, ruleC, seasonC, slS, slX, spellC, marks_length, sl, List.toList_toArray, List.cons_append, List.nil_append, List.length_cons, List.length_nil, Nat.reduceAdd, Nat.reduceSub])
      (repeat' (first
    | (refine awp_seqK ?_)
    | (refine awp_region ?_; simp (maxSteps := 4000000) only [go_sem, List.append_eq, List.cons_append, List.nil_append, Nat.reduceAdd, Nat.reduceMul, Nat.reduceSub, Nat.reduceLeDiff, Nat.reduceLT, Int.reduceToNat, Int.reduceLE, Int.reduceLT, Int.reduceNeg, reduceIte, ruleC, seasonC, slS, slX, spellC, marks_length])
    | (refine awp_draw (by kernel_rfl) (by kernel_rfl) ?_; simp (maxSteps := 4000000) only [go_sem, List.append_eq, List.cons_append, List.nil_append, Nat.reduceAdd, Nat.reduceMul, Nat.reduceSub, Nat.reduceLeDiff, Nat.reduceLT, Int.reduceToNat, Int.reduceLE, Int.reduceLT, Int.reduceNeg, reduceIte, ruleC, seasonC, slS, slX, spellC, marks_length])
    | (refine kt ?_)
    | (refine And.intro ?_ ?_)
    | (refine Imp.le2 ?_; simp (maxSteps := 4000000) only [go_sem, List.append_eq, List.cons_append, List.nil_append, Nat.reduceAdd, Nat.reduceMul, Nat.reduceSub, Nat.reduceLeDiff, Nat.reduceLT, Int.reduceToNat, Int.reduceLE, Int.reduceLT, Int.reduceNeg, reduceIte, ruleC, seasonC, slS, slX, spellC, marks_length])
    | (intro _h)
    | (refine awp_block ?_)
    | (refine awp_scope ?_)
    | (refine awp_label ?_; simp (maxSteps := 4000000) only [go_sem, List.append_eq, List.cons_append, List.nil_append, Nat.reduceAdd, Nat.reduceMul, Nat.reduceSub, Nat.reduceLeDiff, Nat.reduceLT, Int.reduceToNat, Int.reduceLE, Int.reduceLT, Int.reduceNeg, reduceIte, ruleC, seasonC, slS, slX, spellC, marks_length])
    | (refine awp_skip ?_; simp (maxSteps := 4000000) only [go_sem, List.append_eq, List.cons_append, List.nil_append, Nat.reduceAdd, Nat.reduceMul, Nat.reduceSub, Nat.reduceLeDiff, Nat.reduceLT, Int.reduceToNat, Int.reduceLE, Int.reduceLT, Int.reduceNeg, reduceIte, ruleC, seasonC, slS, slX, spellC, marks_length])
    | (refine awp_exit ?_; simp (maxSteps := 4000000) only [go_sem, List.append_eq, List.cons_append, List.nil_append, Nat.reduceAdd, Nat.reduceMul, Nat.reduceSub, Nat.reduceLeDiff, Nat.reduceLT, Int.reduceToNat, Int.reduceLE, Int.reduceLT, Int.reduceNeg, reduceIte, ruleC, seasonC, slS, slX, spellC, marks_length])
    | (refine awp_cd ?_; simp (maxSteps := 4000000) only [go_sem, List.append_eq, List.cons_append, List.nil_append, Nat.reduceAdd, Nat.reduceMul, Nat.reduceSub, Nat.reduceLeDiff, Nat.reduceLT, Int.reduceToNat, Int.reduceLE, Int.reduceLT, Int.reduceNeg, reduceIte, ruleC, seasonC, slS, slX, spellC, marks_length])
    | (refine awp_ret ?_; simp (maxSteps := 4000000) only [go_sem, List.append_eq, List.cons_append, List.nil_append, Nat.reduceAdd, Nat.reduceMul, Nat.reduceSub, Nat.reduceLeDiff, Nat.reduceLT, Int.reduceToNat, Int.reduceLE, Int.reduceLT, Int.reduceNeg, reduceIte, ruleC, seasonC, slS, slX, spellC, marks_length])
    | (refine callK_of (awake_c) ?_; try simp (maxSteps := 4000000) only [go_sem, List.append_eq, List.cons_append, List.nil_append, Nat.reduceAdd, Nat.reduceMul, Nat.reduceSub, Nat.reduceLeDiff, Nat.reduceLT, Int.reduceToNat, Int.reduceLE, Int.reduceLT, Int.reduceNeg, reduceIte, ruleC, seasonC, slS, slX, spellC, marks_length])
    | (refine callK_of (CallS.sub (h1) (by simp [subL, avSub])) ?_; try simp (maxSteps := 4000000) only [go_sem, List.append_eq, List.cons_append, List.nil_append, Nat.reduceAdd, Nat.reduceMul, Nat.reduceSub, Nat.reduceLeDiff, Nat.reduceLT, Int.reduceToNat, Int.reduceLE, Int.reduceLT, Int.reduceNeg, reduceIte, ruleC, seasonC, slS, slX, spellC, marks_length])
    | (refine callK_of (h2) ?_; try simp (maxSteps := 4000000) only [go_sem, List.append_eq, List.cons_append, List.nil_append, Nat.reduceAdd, Nat.reduceMul, Nat.reduceSub, Nat.reduceLeDiff, Nat.reduceLT, Int.reduceToNat, Int.reduceLE, Int.reduceLT, Int.reduceNeg, reduceIte, ruleC, seasonC, slS, slX, spellC, marks_length])
    | (refine callK_of (Season_c _ (by omega)) ?_; try simp (maxSteps := 4000000) only [go_sem, List.append_eq, List.cons_append, List.nil_append, Nat.reduceAdd, Nat.reduceMul, Nat.reduceSub, Nat.reduceLeDiff, Nat.reduceLT, Int.reduceToNat, Int.reduceLE, Int.reduceLT, Int.reduceNeg, reduceIte, ruleC, seasonC, slS, slX, spellC, marks_length])
    | (refine callK_of (Rule_c _) ?_; try simp (maxSteps := 4000000) only [go_sem, List.append_eq, List.cons_append, List.nil_append, Nat.reduceAdd, Nat.reduceMul, Nat.reduceSub, Nat.reduceLeDiff, Nat.reduceLT, Int.reduceToNat, Int.reduceLE, Int.reduceLT, Int.reduceNeg, reduceIte, ruleC, seasonC, slS, slX, spellC, marks_length])
    | (refine callK_of (h4) ?_; try simp (maxSteps := 4000000) only [go_sem, List.append_eq, List.cons_append, List.nil_append, Nat.reduceAdd, Nat.reduceMul, Nat.reduceSub, Nat.reduceLeDiff, Nat.reduceLT, Int.reduceToNat, Int.reduceLE, Int.reduceLT, Int.reduceNeg, reduceIte, ruleC, seasonC, slS, slX, spellC, marks_length])
    | (refine go_split (fun _h => ?_) (fun _h => ?_) <;> simp (maxSteps := 4000000) only [go_sem, List.append_eq, List.cons_append, List.nil_append, Nat.reduceAdd, Nat.reduceMul, Nat.reduceSub, Nat.reduceLeDiff, Nat.reduceLT, Int.reduceToNat, Int.reduceLE, Int.reduceLT, Int.reduceNeg, reduceIte, ruleC, seasonC, slS, slX, spellC, marks_length])
    | (show heapOK _ _ = true; kernel_rfl)
    | (omega)))
      refine awp_loopN xs.length (fun i => ⟨mkT 216 [(2, .ptr 0 0 0), (3, .ptr 1 0 0), (5, slX xs), (7, .int .i64 s.speeds.length), (8, .osl 2 0 0 s.speeds.length), (9, .int .i64 i)], [some (.cells 24 1 0 (seasonC s)), some (.cells 26 1 0 (ruleC r)), some (.cells 3 1 0 (ints (marks (onTo xs i) s.speeds.length)))], []⟩) (.le2 ?_) ?_
      · simp (maxSteps := 4000000) only [go_sem, List.append_eq, List.cons_append, List.nil_append, Nat.reduceAdd, Nat.reduceMul, Nat.reduceSub, Nat.reduceLeDiff, Nat.reduceLT, Int.reduceToNat, Int.reduceLE, Int.reduceLT, Int.reduceNeg, reduceIte, ruleC, seasonC, slS, slX, spellC, marks_length]
        rw [marks_none (fun j => onTo_zero)]
        simp [ints]
      · intro i hi
        rcases Nat.lt_or_eq_of_le hi with hi' | rfl
        · have hat := hch.at i hi'
          have hpv : 0 < i → _ := fun h => hch.lt (i - 1) i (by omega) hi'
          have hso := hok i hi'
          have hs1 := hso.start
          have hs2 := hso.hold
          have ei : ((i : Int) - 1).toNat = i - 1 := by omega
          have hn1 : ∀ k, (xs.getD i (0, 0)).1 + k < (xs.getD i (0, 0)).2 → (marks (fun j => onTo xs i j || decide ((xs.getD i (0, 0)).1 ≤ j ∧ j < (xs.getD i (0, 0)).1 + k)) s.speeds.length).getD ((xs.getD i (0, 0)).1 + k) 0 = 0 := by
            intro k hk
            rw [marks_get (by omega), onTo_before hch hi' (by omega)]
            simp
          have hn2 : ∀ k, (xs.getD i (0, 0)).1 + k < (xs.getD i (0, 0)).2 → (marks (fun j => onTo xs i j || decide ((xs.getD i (0, 0)).1 ≤ j ∧ j < (xs.getD i (0, 0)).1 + k)) s.speeds.length).set ((xs.getD i (0, 0)).1 + k) 1 = marks (fun j => onTo xs i j || decide ((xs.getD i (0, 0)).1 ≤ j ∧ j < (xs.getD i (0, 0)).1 + (k + 1))) s.speeds.length := by
            intro k hk
            refine marks_set (by omega) (fun j hj => ?_) ?_
            · congr 1
              rw [decide_eq_decide]
              omega
            · simp
          have hn3 : marks (onTo xs i) s.speeds.length = marks (fun j => onTo xs i j || decide ((xs.getD i (0, 0)).1 ≤ j ∧ j < (xs.getD i (0, 0)).1)) s.speeds.length := by
            refine marks_congr fun j _ => ?_
            rw [decide_eq_false (by omega), Bool.or_false]
          have hn4 : marks (fun j => onTo xs i j || decide ((xs.getD i (0, 0)).1 ≤ j ∧ j < (xs.getD i (0, 0)).1 + ((xs.getD i (0, 0)).2 - (xs.getD i (0, 0)).1))) s.speeds.length = marks (onTo xs (i + 1)) s.speeds.length := by
            refine marks_congr fun j _ => ?_
            rw [onTo_succ hi', Nat.add_sub_cancel' (by omega)]
          have hback := fun k : Nat => hso.back ((xs.getD i (0, 0)).1 + k)
          simp (maxSteps := 4000000) only [go_sem, List.append_eq, List.cons_append, List.nil_append, Nat.reduceAdd, Nat.reduceMul, Nat.reduceSub, Nat.reduceLeDiff, Nat.reduceLT, Int.reduceToNat, Int.reduceLE, Int.reduceLT, Int.reduceNeg, reduceIte, ruleC, seasonC, slS, slX, spellC, marks_length]
          (repeat' (first
    | ((rw [ei]))
    | (refine awp_seqK ?_)
    | (refine awp_region ?_; simp (maxSteps := 4000000) only [go_sem, List.append_eq, List.cons_append, List.nil_append, Nat.reduceAdd, Nat.reduceMul, Nat.reduceSub, Nat.reduceLeDiff, Nat.reduceLT, Int.reduceToNat, Int.reduceLE, Int.reduceLT, Int.reduceNeg, reduceIte, ruleC, seasonC, slS, slX, spellC, marks_length])
    | (refine awp_draw (by kernel_rfl) (by kernel_rfl) ?_; simp (maxSteps := 4000000) only [go_sem, List.append_eq, List.cons_append, List.nil_append, Nat.reduceAdd, Nat.reduceMul, Nat.reduceSub, Nat.reduceLeDiff, Nat.reduceLT, Int.reduceToNat, Int.reduceLE, Int.reduceLT, Int.reduceNeg, reduceIte, ruleC, seasonC, slS, slX, spellC, marks_length])
    | (refine kt ?_)
    | (refine And.intro ?_ ?_)
    | (refine Imp.le2 ?_; simp (maxSteps := 4000000) only [go_sem, List.append_eq, List.cons_append, List.nil_append, Nat.reduceAdd, Nat.reduceMul, Nat.reduceSub, Nat.reduceLeDiff, Nat.reduceLT, Int.reduceToNat, Int.reduceLE, Int.reduceLT, Int.reduceNeg, reduceIte, ruleC, seasonC, slS, slX, spellC, marks_length])
    | (intro _h)
    | (refine awp_block ?_)
    | (refine awp_scope ?_)
    | (refine awp_label ?_; simp (maxSteps := 4000000) only [go_sem, List.append_eq, List.cons_append, List.nil_append, Nat.reduceAdd, Nat.reduceMul, Nat.reduceSub, Nat.reduceLeDiff, Nat.reduceLT, Int.reduceToNat, Int.reduceLE, Int.reduceLT, Int.reduceNeg, reduceIte, ruleC, seasonC, slS, slX, spellC, marks_length])
    | (refine awp_skip ?_; simp (maxSteps := 4000000) only [go_sem, List.append_eq, List.cons_append, List.nil_append, Nat.reduceAdd, Nat.reduceMul, Nat.reduceSub, Nat.reduceLeDiff, Nat.reduceLT, Int.reduceToNat, Int.reduceLE, Int.reduceLT, Int.reduceNeg, reduceIte, ruleC, seasonC, slS, slX, spellC, marks_length])
    | (refine awp_exit ?_; simp (maxSteps := 4000000) only [go_sem, List.append_eq, List.cons_append, List.nil_append, Nat.reduceAdd, Nat.reduceMul, Nat.reduceSub, Nat.reduceLeDiff, Nat.reduceLT, Int.reduceToNat, Int.reduceLE, Int.reduceLT, Int.reduceNeg, reduceIte, ruleC, seasonC, slS, slX, spellC, marks_length])
    | (refine awp_cd ?_; simp (maxSteps := 4000000) only [go_sem, List.append_eq, List.cons_append, List.nil_append, Nat.reduceAdd, Nat.reduceMul, Nat.reduceSub, Nat.reduceLeDiff, Nat.reduceLT, Int.reduceToNat, Int.reduceLE, Int.reduceLT, Int.reduceNeg, reduceIte, ruleC, seasonC, slS, slX, spellC, marks_length])
    | (refine awp_ret ?_; simp (maxSteps := 4000000) only [go_sem, List.append_eq, List.cons_append, List.nil_append, Nat.reduceAdd, Nat.reduceMul, Nat.reduceSub, Nat.reduceLeDiff, Nat.reduceLT, Int.reduceToNat, Int.reduceLE, Int.reduceLT, Int.reduceNeg, reduceIte, ruleC, seasonC, slS, slX, spellC, marks_length])
    | (refine go_split (fun _h => ?_) (fun _h => ?_) <;> simp (maxSteps := 4000000) only [go_sem, List.append_eq, List.cons_append, List.nil_append, Nat.reduceAdd, Nat.reduceMul, Nat.reduceSub, Nat.reduceLeDiff, Nat.reduceLT, Int.reduceToNat, Int.reduceLE, Int.reduceLT, Int.reduceNeg, reduceIte, ruleC, seasonC, slS, slX, spellC, marks_length])
    | (show heapOK _ _ = true; kernel_rfl)
    | (omega)))
          all_goals (try omega)
          all_goals (
            refine awp_loopN ((xs.getD i (0, 0)).2 - (xs.getD i (0, 0)).1) (fun k => ⟨mkT 216 [(2, .ptr 0 0 0), (3, .ptr 1 0 0), (5, slX xs), (7, .int .i64 s.speeds.length), (8, .osl 2 0 0 s.speeds.length), (9, .int .i64 i), (10, .int .i64 ((xs.getD i (0, 0)).1 + k : Nat))], [some (.cells 24 1 0 (seasonC s)), some (.cells 26 1 0 (ruleC r)), some (.cells 3 1 0 (ints (marks (fun j => onTo xs i j || decide ((xs.getD i (0, 0)).1 ≤ j ∧ j < (xs.getD i (0, 0)).1 + k)) s.speeds.length)))], []⟩) (.le2 ?_) ?_
            · simp (maxSteps := 4000000) only [go_sem, List.append_eq, List.cons_append, List.nil_append, Nat.reduceAdd, Nat.reduceMul, Nat.reduceSub, Nat.reduceLeDiff, Nat.reduceLT, Int.reduceToNat, Int.reduceLE, Int.reduceLT, Int.reduceNeg, reduceIte, ruleC, seasonC, slS, slX, spellC, marks_length]
              first | exact congrArg ints hn3 | (simp; exact congrArg ints hn3)
            · intro k hk
              rcases Nat.lt_or_eq_of_le hk with hk' | rfl
              · have hn1 := hn1 k (by omega)
                have hn2 := hn2 k (by omega)
                have hback := hback k
                simp (maxSteps := 4000000) only [go_sem, List.append_eq, List.cons_append, List.nil_append, Nat.reduceAdd, Nat.reduceMul, Nat.reduceSub, Nat.reduceLeDiff, Nat.reduceLT, Int.reduceToNat, Int.reduceLE, Int.reduceLT, Int.reduceNeg, reduceIte, ruleC, seasonC, slS, slX, spellC, marks_length]
                (repeat' (first
    | ((rw [ei]))
    | (refine awp_seqK ?_)
    | (refine awp_region ?_; simp (maxSteps := 4000000) only [go_sem, List.append_eq, List.cons_append, List.nil_append, Nat.reduceAdd, Nat.reduceMul, Nat.reduceSub, Nat.reduceLeDiff, Nat.reduceLT, Int.reduceToNat, Int.reduceLE, Int.reduceLT, Int.reduceNeg, reduceIte, ruleC, seasonC, slS, slX, spellC, marks_length])
    | (refine awp_draw (by kernel_rfl) (by kernel_rfl) ?_; simp (maxSteps := 4000000) only [go_sem, List.append_eq, List.cons_append, List.nil_append, Nat.reduceAdd, Nat.reduceMul, Nat.reduceSub, Nat.reduceLeDiff, Nat.reduceLT, Int.reduceToNat, Int.reduceLE, Int.reduceLT, Int.reduceNeg, reduceIte, ruleC, seasonC, slS, slX, spellC, marks_length])
    | (refine kt ?_)
    | (refine And.intro ?_ ?_)
    | (refine Imp.le2 ?_; simp (maxSteps := 4000000) only [go_sem, List.append_eq, List.cons_append, List.nil_append, Nat.reduceAdd, Nat.reduceMul, Nat.reduceSub, Nat.reduceLeDiff, Nat.reduceLT, Int.reduceToNat, Int.reduceLE, Int.reduceLT, Int.reduceNeg, reduceIte, ruleC, seasonC, slS, slX, spellC, marks_length])
    | (intro _h)
    | (refine awp_block ?_)
    | (refine awp_scope ?_)
    | (refine awp_label ?_; simp (maxSteps := 4000000) only [go_sem, List.append_eq, List.cons_append, List.nil_append, Nat.reduceAdd, Nat.reduceMul, Nat.reduceSub, Nat.reduceLeDiff, Nat.reduceLT, Int.reduceToNat, Int.reduceLE, Int.reduceLT, Int.reduceNeg, reduceIte, ruleC, seasonC, slS, slX, spellC, marks_length])
    | (refine awp_skip ?_; simp (maxSteps := 4000000) only [go_sem, List.append_eq, List.cons_append, List.nil_append, Nat.reduceAdd, Nat.reduceMul, Nat.reduceSub, Nat.reduceLeDiff, Nat.reduceLT, Int.reduceToNat, Int.reduceLE, Int.reduceLT, Int.reduceNeg, reduceIte, ruleC, seasonC, slS, slX, spellC, marks_length])
    | (refine awp_exit ?_; simp (maxSteps := 4000000) only [go_sem, List.append_eq, List.cons_append, List.nil_append, Nat.reduceAdd, Nat.reduceMul, Nat.reduceSub, Nat.reduceLeDiff, Nat.reduceLT, Int.reduceToNat, Int.reduceLE, Int.reduceLT, Int.reduceNeg, reduceIte, ruleC, seasonC, slS, slX, spellC, marks_length])
    | (refine awp_cd ?_; simp (maxSteps := 4000000) only [go_sem, List.append_eq, List.cons_append, List.nil_append, Nat.reduceAdd, Nat.reduceMul, Nat.reduceSub, Nat.reduceLeDiff, Nat.reduceLT, Int.reduceToNat, Int.reduceLE, Int.reduceLT, Int.reduceNeg, reduceIte, ruleC, seasonC, slS, slX, spellC, marks_length])
    | (refine awp_ret ?_; simp (maxSteps := 4000000) only [go_sem, List.append_eq, List.cons_append, List.nil_append, Nat.reduceAdd, Nat.reduceMul, Nat.reduceSub, Nat.reduceLeDiff, Nat.reduceLT, Int.reduceToNat, Int.reduceLE, Int.reduceLT, Int.reduceNeg, reduceIte, ruleC, seasonC, slS, slX, spellC, marks_length])
    | (refine go_split (fun _h => ?_) (fun _h => ?_) <;> simp (maxSteps := 4000000) only [go_sem, List.append_eq, List.cons_append, List.nil_append, Nat.reduceAdd, Nat.reduceMul, Nat.reduceSub, Nat.reduceLeDiff, Nat.reduceLT, Int.reduceToNat, Int.reduceLE, Int.reduceLT, Int.reduceNeg, reduceIte, ruleC, seasonC, slS, slX, spellC, marks_length])
    | (show heapOK _ _ = true; kernel_rfl)
    | (omega)))
                all_goals (try omega)
                all_goals (first
                  | (rw [hn1, spl_ints (by rw [marks_length]; omega)]; exact congrArg ints hn2)
                  | trace "INNER")
              · rw [hn4]
                simp (maxSteps := 4000000) only [go_sem, List.append_eq, List.cons_append, List.nil_append, Nat.reduceAdd, Nat.reduceMul, Nat.reduceSub, Nat.reduceLeDiff, Nat.reduceLT, Int.reduceToNat, Int.reduceLE, Int.reduceLT, Int.reduceNeg, reduceIte, ruleC, seasonC, slS, slX, spellC, marks_length]
                (repeat' (first
    | (refine awp_seqK ?_)
    | (refine awp_region ?_; simp (maxSteps := 4000000) only [go_sem, List.append_eq, List.cons_append, List.nil_append, Nat.reduceAdd, Nat.reduceMul, Nat.reduceSub, Nat.reduceLeDiff, Nat.reduceLT, Int.reduceToNat, Int.reduceLE, Int.reduceLT, Int.reduceNeg, reduceIte, ruleC, seasonC, slS, slX, spellC, marks_length])
    | (refine awp_draw (by kernel_rfl) (by kernel_rfl) ?_; simp (maxSteps := 4000000) only [go_sem, List.append_eq, List.cons_append, List.nil_append, Nat.reduceAdd, Nat.reduceMul, Nat.reduceSub, Nat.reduceLeDiff, Nat.reduceLT, Int.reduceToNat, Int.reduceLE, Int.reduceLT, Int.reduceNeg, reduceIte, ruleC, seasonC, slS, slX, spellC, marks_length])
    | (refine kt ?_)
    | (refine And.intro ?_ ?_)
    | (refine Imp.le2 ?_; simp (maxSteps := 4000000) only [go_sem, List.append_eq, List.cons_append, List.nil_append, Nat.reduceAdd, Nat.reduceMul, Nat.reduceSub, Nat.reduceLeDiff, Nat.reduceLT, Int.reduceToNat, Int.reduceLE, Int.reduceLT, Int.reduceNeg, reduceIte, ruleC, seasonC, slS, slX, spellC, marks_length])
    | (intro _h)
    | (refine awp_block ?_)
    | (refine awp_scope ?_)
    | (refine awp_label ?_; simp (maxSteps := 4000000) only [go_sem, List.append_eq, List.cons_append, List.nil_append, Nat.reduceAdd, Nat.reduceMul, Nat.reduceSub, Nat.reduceLeDiff, Nat.reduceLT, Int.reduceToNat, Int.reduceLE, Int.reduceLT, Int.reduceNeg, reduceIte, ruleC, seasonC, slS, slX, spellC, marks_length])
    | (refine awp_skip ?_; simp (maxSteps := 4000000) only [go_sem, List.append_eq, List.cons_append, List.nil_append, Nat.reduceAdd, Nat.reduceMul, Nat.reduceSub, Nat.reduceLeDiff, Nat.reduceLT, Int.reduceToNat, Int.reduceLE, Int.reduceLT, Int.reduceNeg, reduceIte, ruleC, seasonC, slS, slX, spellC, marks_length])
    | (refine awp_exit ?_; simp (maxSteps := 4000000) only [go_sem, List.append_eq, List.cons_append, List.nil_append, Nat.reduceAdd, Nat.reduceMul, Nat.reduceSub, Nat.reduceLeDiff, Nat.reduceLT, Int.reduceToNat, Int.reduceLE, Int.reduceLT, Int.reduceNeg, reduceIte, ruleC, seasonC, slS, slX, spellC, marks_length])
    | (refine awp_cd ?_; simp (maxSteps := 4000000) only [go_sem, List.append_eq, List.cons_append, List.nil_append, Nat.reduceAdd, Nat.reduceMul, Nat.reduceSub, Nat.reduceLeDiff, Nat.reduceLT, Int.reduceToNat, Int.reduceLE, Int.reduceLT, Int.reduceNeg, reduceIte, ruleC, seasonC, slS, slX, spellC, marks_length])
    | (refine awp_ret ?_; simp (maxSteps := 4000000) only [go_sem, List.append_eq, List.cons_append, List.nil_append, Nat.reduceAdd, Nat.reduceMul, Nat.reduceSub, Nat.reduceLeDiff, Nat.reduceLT, Int.reduceToNat, Int.reduceLE, Int.reduceLT, Int.reduceNeg, reduceIte, ruleC, seasonC, slS, slX, spellC, marks_length])
    | (refine go_split (fun _h => ?_) (fun _h => ?_) <;> simp (maxSteps := 4000000) only [go_sem, List.append_eq, List.cons_append, List.nil_append, Nat.reduceAdd, Nat.reduceMul, Nat.reduceSub, Nat.reduceLeDiff, Nat.reduceLT, Int.reduceToNat, Int.reduceLE, Int.reduceLT, Int.reduceNeg, reduceIte, ruleC, seasonC, slS, slX, spellC, marks_length])
    | (show heapOK _ _ = true; kernel_rfl)
    | (omega)))
                all_goals (first
                  | omega
                  | trace "OUT"))
        · simp (maxSteps := 4000000) only [go_sem, List.append_eq, List.cons_append, List.nil_append, Nat.reduceAdd, Nat.reduceMul, Nat.reduceSub, Nat.reduceLeDiff, Nat.reduceLT, Int.reduceToNat, Int.reduceLE, Int.reduceLT, Int.reduceNeg, reduceIte, ruleC, seasonC, slS, slX, spellC, marks_length]
          (repeat' (first
    | (refine awp_seqK ?_)
    | (refine awp_region ?_; simp (maxSteps := 4000000) only [go_sem, List.append_eq, List.cons_append, List.nil_append, Nat.reduceAdd, Nat.reduceMul, Nat.reduceSub, Nat.reduceLeDiff, Nat.reduceLT, Int.reduceToNat, Int.reduceLE, Int.reduceLT, Int.reduceNeg, reduceIte, ruleC, seasonC, slS, slX, spellC, marks_length])
    | (refine awp_draw (by kernel_rfl) (by kernel_rfl) ?_; simp (maxSteps := 4000000) only [go_sem, List.append_eq, List.cons_append, List.nil_append, Nat.reduceAdd, Nat.reduceMul, Nat.reduceSub, Nat.reduceLeDiff, Nat.reduceLT, Int.reduceToNat, Int.reduceLE, Int.reduceLT, Int.reduceNeg, reduceIte, ruleC, seasonC, slS, slX, spellC, marks_length])
    | (refine kt ?_)
    | (refine And.intro ?_ ?_)
    | (refine Imp.le2 ?_; simp (maxSteps := 4000000) only [go_sem, List.append_eq, List.cons_append, List.nil_append, Nat.reduceAdd, Nat.reduceMul, Nat.reduceSub, Nat.reduceLeDiff, Nat.reduceLT, Int.reduceToNat, Int.reduceLE, Int.reduceLT, Int.reduceNeg, reduceIte, ruleC, seasonC, slS, slX, spellC, marks_length])
    | (intro _h)
    | (refine awp_block ?_)
    | (refine awp_scope ?_)
    | (refine awp_label ?_; simp (maxSteps := 4000000) only [go_sem, List.append_eq, List.cons_append, List.nil_append, Nat.reduceAdd, Nat.reduceMul, Nat.reduceSub, Nat.reduceLeDiff, Nat.reduceLT, Int.reduceToNat, Int.reduceLE, Int.reduceLT, Int.reduceNeg, reduceIte, ruleC, seasonC, slS, slX, spellC, marks_length])
    | (refine awp_skip ?_; simp (maxSteps := 4000000) only [go_sem, List.append_eq, List.cons_append, List.nil_append, Nat.reduceAdd, Nat.reduceMul, Nat.reduceSub, Nat.reduceLeDiff, Nat.reduceLT, Int.reduceToNat, Int.reduceLE, Int.reduceLT, Int.reduceNeg, reduceIte, ruleC, seasonC, slS, slX, spellC, marks_length])
    | (refine awp_exit ?_; simp (maxSteps := 4000000) only [go_sem, List.append_eq, List.cons_append, List.nil_append, Nat.reduceAdd, Nat.reduceMul, Nat.reduceSub, Nat.reduceLeDiff, Nat.reduceLT, Int.reduceToNat, Int.reduceLE, Int.reduceLT, Int.reduceNeg, reduceIte, ruleC, seasonC, slS, slX, spellC, marks_length])
    | (refine awp_cd ?_; simp (maxSteps := 4000000) only [go_sem, List.append_eq, List.cons_append, List.nil_append, Nat.reduceAdd, Nat.reduceMul, Nat.reduceSub, Nat.reduceLeDiff, Nat.reduceLT, Int.reduceToNat, Int.reduceLE, Int.reduceLT, Int.reduceNeg, reduceIte, ruleC, seasonC, slS, slX, spellC, marks_length])
    | (refine awp_ret ?_; simp (maxSteps := 4000000) only [go_sem, List.append_eq, List.cons_append, List.nil_append, Nat.reduceAdd, Nat.reduceMul, Nat.reduceSub, Nat.reduceLeDiff, Nat.reduceLT, Int.reduceToNat, Int.reduceLE, Int.reduceLT, Int.reduceNeg, reduceIte, ruleC, seasonC, slS, slX, spellC, marks_length])
    | (refine go_split (fun _h => ?_) (fun _h => ?_) <;> simp (maxSteps := 4000000) only [go_sem, List.append_eq, List.cons_append, List.nil_append, Nat.reduceAdd, Nat.reduceMul, Nat.reduceSub, Nat.reduceLeDiff, Nat.reduceLT, Int.reduceToNat, Int.reduceLE, Int.reduceLT, Int.reduceNeg, reduceIte, ruleC, seasonC, slS, slX, spellC, marks_length])
    | (show heapOK _ _ = true; kernel_rfl)
    | (omega)))
          refine awp_loopN s.speeds.length (fun k => ⟨mkT 216 [(2, .ptr 0 0 0), (3, .ptr 1 0 0), (7, .int .i64 s.speeds.length), (8, .osl 2 0 0 s.speeds.length), (11, .int .i64 k)], [some (.cells 24 1 0 (seasonC s)), some (.cells 26 1 0 (ruleC r)), some (.cells 3 1 0 (ints (marks (onTo xs xs.length) s.speeds.length)))], []⟩) (.le2 ?_) ?_
          · simp (maxSteps := 4000000) only [go_sem, List.append_eq, List.cons_append, List.nil_append, Nat.reduceAdd, Nat.reduceMul, Nat.reduceSub, Nat.reduceLeDiff, Nat.reduceLT, Int.reduceToNat, Int.reduceLE, Int.reduceLT, Int.reduceNeg, reduceIte, ruleC, seasonC, slS, slX, spellC, marks_length]
          · intro k hk
            rcases Nat.lt_or_eq_of_le hk with hk' | rfl
            · have hm := marks_get (c := onTo xs xs.length) hk'
              have hc := hcov k hk'
              have hm1 : 0 ≤ (marks (onTo xs xs.length) s.speeds.length).getD k 0 ∧ (marks (onTo xs xs.length) s.speeds.length).getD k 0 ≤ 1 ∧ (r.start ≤ s.speeds.getD k 0 → ¬ (marks (onTo xs xs.length) s.speeds.length).getD k 0 = 0) := by
                rw [hm]
                refine ⟨by split <;> omega, by split <;> omega, fun h => ?_⟩
                rw [hc h]; simp
              simp (maxSteps := 4000000) only [go_sem, List.append_eq, List.cons_append, List.nil_append, Nat.reduceAdd, Nat.reduceMul, Nat.reduceSub, Nat.reduceLeDiff, Nat.reduceLT, Int.reduceToNat, Int.reduceLE, Int.reduceLT, Int.reduceNeg, reduceIte, ruleC, seasonC, slS, slX, spellC, marks_length]
              (repeat' (first
    | (refine awp_seqK ?_)
    | (refine awp_region ?_; simp (maxSteps := 4000000) only [go_sem, List.append_eq, List.cons_append, List.nil_append, Nat.reduceAdd, Nat.reduceMul, Nat.reduceSub, Nat.reduceLeDiff, Nat.reduceLT, Int.reduceToNat, Int.reduceLE, Int.reduceLT, Int.reduceNeg, reduceIte, ruleC, seasonC, slS, slX, spellC, marks_length])
    | (refine awp_draw (by kernel_rfl) (by kernel_rfl) ?_; simp (maxSteps := 4000000) only [go_sem, List.append_eq, List.cons_append, List.nil_append, Nat.reduceAdd, Nat.reduceMul, Nat.reduceSub, Nat.reduceLeDiff, Nat.reduceLT, Int.reduceToNat, Int.reduceLE, Int.reduceLT, Int.reduceNeg, reduceIte, ruleC, seasonC, slS, slX, spellC, marks_length])
    | (refine kt ?_)
    | (refine And.intro ?_ ?_)
    | (refine Imp.le2 ?_; simp (maxSteps := 4000000) only [go_sem, List.append_eq, List.cons_append, List.nil_append, Nat.reduceAdd, Nat.reduceMul, Nat.reduceSub, Nat.reduceLeDiff, Nat.reduceLT, Int.reduceToNat, Int.reduceLE, Int.reduceLT, Int.reduceNeg, reduceIte, ruleC, seasonC, slS, slX, spellC, marks_length])
    | (intro _h)
    | (refine awp_block ?_)
    | (refine awp_scope ?_)
    | (refine awp_label ?_; simp (maxSteps := 4000000) only [go_sem, List.append_eq, List.cons_append, List.nil_append, Nat.reduceAdd, Nat.reduceMul, Nat.reduceSub, Nat.reduceLeDiff, Nat.reduceLT, Int.reduceToNat, Int.reduceLE, Int.reduceLT, Int.reduceNeg, reduceIte, ruleC, seasonC, slS, slX, spellC, marks_length])
    | (refine awp_skip ?_; simp (maxSteps := 4000000) only [go_sem, List.append_eq, List.cons_append, List.nil_append, Nat.reduceAdd, Nat.reduceMul, Nat.reduceSub, Nat.reduceLeDiff, Nat.reduceLT, Int.reduceToNat, Int.reduceLE, Int.reduceLT, Int.reduceNeg, reduceIte, ruleC, seasonC, slS, slX, spellC, marks_length])
    | (refine awp_exit ?_; simp (maxSteps := 4000000) only [go_sem, List.append_eq, List.cons_append, List.nil_append, Nat.reduceAdd, Nat.reduceMul, Nat.reduceSub, Nat.reduceLeDiff, Nat.reduceLT, Int.reduceToNat, Int.reduceLE, Int.reduceLT, Int.reduceNeg, reduceIte, ruleC, seasonC, slS, slX, spellC, marks_length])
    | (refine awp_cd ?_; simp (maxSteps := 4000000) only [go_sem, List.append_eq, List.cons_append, List.nil_append, Nat.reduceAdd, Nat.reduceMul, Nat.reduceSub, Nat.reduceLeDiff, Nat.reduceLT, Int.reduceToNat, Int.reduceLE, Int.reduceLT, Int.reduceNeg, reduceIte, ruleC, seasonC, slS, slX, spellC, marks_length])
    | (refine awp_ret ?_; simp (maxSteps := 4000000) only [go_sem, List.append_eq, List.cons_append, List.nil_append, Nat.reduceAdd, Nat.reduceMul, Nat.reduceSub, Nat.reduceLeDiff, Nat.reduceLT, Int.reduceToNat, Int.reduceLE, Int.reduceLT, Int.reduceNeg, reduceIte, ruleC, seasonC, slS, slX, spellC, marks_length])
    | (refine go_split (fun _h => ?_) (fun _h => ?_) <;> simp (maxSteps := 4000000) only [go_sem, List.append_eq, List.cons_append, List.nil_append, Nat.reduceAdd, Nat.reduceMul, Nat.reduceSub, Nat.reduceLeDiff, Nat.reduceLT, Int.reduceToNat, Int.reduceLE, Int.reduceLT, Int.reduceNeg, reduceIte, ruleC, seasonC, slS, slX, spellC, marks_length])
    | (show heapOK _ _ = true; kernel_rfl)
    | (omega)))
              all_goals (first | omega | (exfalso; omega) | trace "LAST")
            · simp (maxSteps := 4000000) only [go_sem, List.append_eq, List.cons_append, List.nil_append, Nat.reduceAdd, Nat.reduceMul, Nat.reduceSub, Nat.reduceLeDiff, Nat.reduceLT, Int.reduceToNat, Int.reduceLE, Int.reduceLT, Int.reduceNeg, reduceIte, ruleC, seasonC, slS, slX, spellC, marks_length]
              (repeat' (first
    | (refine awp_seqK ?_)
    | (refine awp_region ?_; simp (maxSteps := 4000000) only [go_sem, List.append_eq, List.cons_append, List.nil_append, Nat.reduceAdd, Nat.reduceMul, Nat.reduceSub, Nat.reduceLeDiff, Nat.reduceLT, Int.reduceToNat, Int.reduceLE, Int.reduceLT, Int.reduceNeg, reduceIte, ruleC, seasonC, slS, slX, spellC, marks_length])
    | (refine awp_draw (by kernel_rfl) (by kernel_rfl) ?_; simp (maxSteps := 4000000) only [go_sem, List.append_eq, List.cons_append, List.nil_append, Nat.reduceAdd, Nat.reduceMul, Nat.reduceSub, Nat.reduceLeDiff, Nat.reduceLT, Int.reduceToNat, Int.reduceLE, Int.reduceLT, Int.reduceNeg, reduceIte, ruleC, seasonC, slS, slX, spellC, marks_length])
    | (refine kt ?_)
    | (refine And.intro ?_ ?_)
    | (refine Imp.le2 ?_; simp (maxSteps := 4000000) only [go_sem, List.append_eq, List.cons_append, List.nil_append, Nat.reduceAdd, Nat.reduceMul, Nat.reduceSub, Nat.reduceLeDiff, Nat.reduceLT, Int.reduceToNat, Int.reduceLE, Int.reduceLT, Int.reduceNeg, reduceIte, ruleC, seasonC, slS, slX, spellC, marks_length])
    | (intro _h)
    | (refine awp_block ?_)
    | (refine awp_scope ?_)
    | (refine awp_label ?_; simp (maxSteps := 4000000) only [go_sem, List.append_eq, List.cons_append, List.nil_append, Nat.reduceAdd, Nat.reduceMul, Nat.reduceSub, Nat.reduceLeDiff, Nat.reduceLT, Int.reduceToNat, Int.reduceLE, Int.reduceLT, Int.reduceNeg, reduceIte, ruleC, seasonC, slS, slX, spellC, marks_length])
    | (refine awp_skip ?_; simp (maxSteps := 4000000) only [go_sem, List.append_eq, List.cons_append, List.nil_append, Nat.reduceAdd, Nat.reduceMul, Nat.reduceSub, Nat.reduceLeDiff, Nat.reduceLT, Int.reduceToNat, Int.reduceLE, Int.reduceLT, Int.reduceNeg, reduceIte, ruleC, seasonC, slS, slX, spellC, marks_length])
    | (refine awp_exit ?_; simp (maxSteps := 4000000) only [go_sem, List.append_eq, List.cons_append, List.nil_append, Nat.reduceAdd, Nat.reduceMul, Nat.reduceSub, Nat.reduceLeDiff, Nat.reduceLT, Int.reduceToNat, Int.reduceLE, Int.reduceLT, Int.reduceNeg, reduceIte, ruleC, seasonC, slS, slX, spellC, marks_length])
    | (refine awp_cd ?_; simp (maxSteps := 4000000) only [go_sem, List.append_eq, List.cons_append, List.nil_append, Nat.reduceAdd, Nat.reduceMul, Nat.reduceSub, Nat.reduceLeDiff, Nat.reduceLT, Int.reduceToNat, Int.reduceLE, Int.reduceLT, Int.reduceNeg, reduceIte, ruleC, seasonC, slS, slX, spellC, marks_length])
    | (refine awp_ret ?_; simp (maxSteps := 4000000) only [go_sem, List.append_eq, List.cons_append, List.nil_append, Nat.reduceAdd, Nat.reduceMul, Nat.reduceSub, Nat.reduceLeDiff, Nat.reduceLT, Int.reduceToNat, Int.reduceLE, Int.reduceLT, Int.reduceNeg, reduceIte, ruleC, seasonC, slS, slX, spellC, marks_length])
    | (refine callK_of (awake_c) ?_; try simp (maxSteps := 4000000) only [go_sem, List.append_eq, List.cons_append, List.nil_append, Nat.reduceAdd, Nat.reduceMul, Nat.reduceSub, Nat.reduceLeDiff, Nat.reduceLT, Int.reduceToNat, Int.reduceLE, Int.reduceLT, Int.reduceNeg, reduceIte, ruleC, seasonC, slS, slX, spellC, marks_length])
    | (refine go_split (fun _h => ?_) (fun _h => ?_) <;> simp (maxSteps := 4000000) only [go_sem, List.append_eq, List.cons_append, List.nil_append, Nat.reduceAdd, Nat.reduceMul, Nat.reduceSub, Nat.reduceLeDiff, Nat.reduceLT, Int.reduceToNat, Int.reduceLE, Int.reduceLT, Int.reduceNeg, reduceIte, ruleC, seasonC, slS, slX, spellC, marks_length])
    | (show heapOK _ _ = true; kernel_rfl)
    | (omega)))
              all_goals (first | omega | trace "DONE")
  · (refine callS_of_awp (fun w args => Try.call5 ..) Try.func5 rfl (fun w0 => ?_); simp only [Try.ntmps5, Try.results5, initT, junks, ruleC, seasonC, slS, slX, spellC, marks_length, sl, List.toList_toArray, List.cons_append, List.nil_append, List.length_cons, List.length_nil, Nat.reduceAdd, Nat.reduceSub])
    (repeat' (first
    | (refine awp_seqK ?_)
    | (refine awp_region ?_; simp (maxSteps := 4000000) only [go_sem, List.append_eq, List.cons_append, List.nil_append, Nat.reduceAdd, Nat.reduceMul, Nat.reduceSub, Nat.reduceLeDiff, Nat.reduceLT, Int.reduceToNat, Int.reduceLE, Int.reduceLT, Int.reduceNeg, reduceIte, ruleC, seasonC, slS, slX, spellC, marks_length])
    | (refine awp_draw (by kernel_rfl) (by kernel_rfl) ?_; simp (maxSteps := 4000000) only [go_sem, List.append_eq, List.cons_append, List.nil_append, Nat.reduceAdd, Nat.reduceMul, Nat.reduceSub, Nat.reduceLeDiff, Nat.reduceLT, Int.reduceToNat, Int.reduceLE, Int.reduceLT, Int.reduceNeg, reduceIte, ruleC, seasonC, slS, slX, spellC, marks_length])
    | (refine kt ?_)
    | (refine And.intro ?_ ?_)
    | (refine Imp.le2 ?_; simp (maxSteps := 4000000) only [go_sem, List.append_eq, List.cons_append, List.nil_append, Nat.reduceAdd, Nat.reduceMul, Nat.reduceSub, Nat.reduceLeDiff, Nat.reduceLT, Int.reduceToNat, Int.reduceLE, Int.reduceLT, Int.reduceNeg, reduceIte, ruleC, seasonC, slS, slX, spellC, marks_length])
    | (intro _h)
    | (refine awp_block ?_)
    | (refine awp_scope ?_)
    | (refine awp_label ?_; simp (maxSteps := 4000000) only [go_sem, List.append_eq, List.cons_append, List.nil_append, Nat.reduceAdd, Nat.reduceMul, Nat.reduceSub, Nat.reduceLeDiff, Nat.reduceLT, Int.reduceToNat, Int.reduceLE, Int.reduceLT, Int.reduceNeg, reduceIte, ruleC, seasonC, slS, slX, spellC, marks_length])
    | (refine awp_skip ?_; simp (maxSteps := 4000000) only [go_sem, List.append_eq, List.cons_append, List.nil_append, Nat.reduceAdd, Nat.reduceMul, Nat.reduceSub, Nat.reduceLeDiff, Nat.reduceLT, Int.reduceToNat, Int.reduceLE, Int.reduceLT, Int.reduceNeg, reduceIte, ruleC, seasonC, slS, slX, spellC, marks_length])
    | (refine awp_exit ?_; simp (maxSteps := 4000000) only [go_sem, List.append_eq, List.cons_append, List.nil_append, Nat.reduceAdd, Nat.reduceMul, Nat.reduceSub, Nat.reduceLeDiff, Nat.reduceLT, Int.reduceToNat, Int.reduceLE, Int.reduceLT, Int.reduceNeg, reduceIte, ruleC, seasonC, slS, slX, spellC, marks_length])
    | (refine awp_cd ?_; simp (maxSteps := 4000000) only [go_sem, List.append_eq, List.cons_append, List.nil_append, Nat.reduceAdd, Nat.reduceMul, Nat.reduceSub, Nat.reduceLeDiff, Nat.reduceLT, Int.reduceToNat, Int.reduceLE, Int.reduceLT, Int.reduceNeg, reduceIte, ruleC, seasonC, slS, slX, spellC, marks_length])
    | (refine awp_ret ?_; simp (maxSteps := 4000000) only [go_sem, List.append_eq, List.cons_append, List.nil_append, Nat.reduceAdd, Nat.reduceMul, Nat.reduceSub, Nat.reduceLeDiff, Nat.reduceLT, Int.reduceToNat, Int.reduceLE, Int.reduceLT, Int.reduceNeg, reduceIte, ruleC, seasonC, slS, slX, spellC, marks_length])
    | (refine callK_of (awake_c) ?_; try simp (maxSteps := 4000000) only [go_sem, List.append_eq, List.cons_append, List.nil_append, Nat.reduceAdd, Nat.reduceMul, Nat.reduceSub, Nat.reduceLeDiff, Nat.reduceLT, Int.reduceToNat, Int.reduceLE, Int.reduceLT, Int.reduceNeg, reduceIte, ruleC, seasonC, slS, slX, spellC, marks_length])
    | (refine callK_of (CallS.sub (h1) (by simp [subL, avSub])) ?_; try simp (maxSteps := 4000000) only [go_sem, List.append_eq, List.cons_append, List.nil_append, Nat.reduceAdd, Nat.reduceMul, Nat.reduceSub, Nat.reduceLeDiff, Nat.reduceLT, Int.reduceToNat, Int.reduceLE, Int.reduceLT, Int.reduceNeg, reduceIte, ruleC, seasonC, slS, slX, spellC, marks_length])
    | (refine go_split (fun _h => ?_) (fun _h => ?_) <;> simp (maxSteps := 4000000) only [go_sem, List.append_eq, List.cons_append, List.nil_append, Nat.reduceAdd, Nat.reduceMul, Nat.reduceSub, Nat.reduceLeDiff, Nat.reduceLT, Int.reduceToNat, Int.reduceLE, Int.reduceLT, Int.reduceNeg, reduceIte, ruleC, seasonC, slS, slX, spellC, marks_length])
    | (show heapOK _ _ = true; kernel_rfl)
    | (omega)))
    all_goals (try contradiction)
end Go.Am
