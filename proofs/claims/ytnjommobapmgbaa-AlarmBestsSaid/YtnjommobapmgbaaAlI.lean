/- Contracts of the alarm functions: the price of a season. -/
import Derived.Test.YtnjommobapmgbaaAlH
import Derived.Test.YtnjommobapmgbaaAlT
import Derived.Test.YtnjommobapmgbaaAlQ
namespace Go.Am
open Go.RowKit Go.Proofs
attribute [local irreducible] AWP CallS Kt goK CallK stepK evOps
set_option maxRecDepth 4000
set_option linter.unusedSimpArgs false
set_option linter.unusedVariables false
set_option maxHeartbeats 1600000

def termsC (t : Terms) : List AV := [.int .i64 t.out, .int .i64 t.price, .int .i64 t.hour, .int .i64 t.less, .int .i64 t.hold]

theorem price_c0 (sp : List Int) (t : Terms) (r : Rule) (hl : sp.length ≤ 60) (ht : termsB t = true) (hr : 1 ≤ r.hold ∧ r.hold ≤ 60) :
    CallS Try.prog 94 [.agg (seasonC ⟨sp, false⟩), .agg (termsC t), .agg (ruleC r)] (.tup [.int .i64 (priceS t r ⟨sp, false⟩), .bool (inTimeS t r ⟨sp, false⟩)]) := by
  have hsp := spells_c ⟨sp, false⟩ r (by simp only; omega) hr
  have hch := spells_chain (sp := sp) hr.1
  have hle := spells_le (sp := sp) (r := r)
  obtain ⟨tt1, tt2, tt3, tt4, tt5⟩ := termsB_true ht
  simp only [seasonC, sl, ruleC, slX] at hsp
  simp only [priceS, inTimeS]
  generalize spells sp r = xs at *
  refine callS_of_awp (fun w args => Try.call94 ..) Try.func94 rfl (fun w0 => ?_)
  simp only [Try.ntmps94, Try.results94, initT, junks, ruleC, seasonC, slS, slX, termsC, spellC, sl, List.toList_toArray, List.cons_append, List.nil_append, List.length_cons, List.length_nil, Nat.reduceAdd, Nat.reduceSub]
  (repeat' (first
    | (refine awp_seqK ?_)
    | (refine awp_region ?_; simp only [go_sem, Nat.reduceAdd, Nat.reduceMul, Nat.reduceSub, Nat.reduceLeDiff, Nat.reduceLT, Int.reduceToNat, Int.reduceLE, Int.reduceLT, Int.reduceNeg, reduceIte, ruleC, seasonC, slS, slX, termsC, spellC])
    | (refine awp_draw (by kernel_rfl) (by kernel_rfl) ?_; simp only [go_sem, Nat.reduceAdd, Nat.reduceMul, Nat.reduceSub, Nat.reduceLeDiff, Nat.reduceLT, Int.reduceToNat, Int.reduceLE, Int.reduceLT, Int.reduceNeg, reduceIte, ruleC, seasonC, slS, slX, termsC, spellC])
    | (refine kt ?_)
    | (refine And.intro ?_ ?_)
    | (refine Imp.le2 ?_; simp only [go_sem, Nat.reduceAdd, Nat.reduceMul, Nat.reduceSub, Nat.reduceLeDiff, Nat.reduceLT, Int.reduceToNat, Int.reduceLE, Int.reduceLT, Int.reduceNeg, reduceIte, ruleC, seasonC, slS, slX, termsC, spellC])
    | (intro _h)
    | (refine awp_block ?_)
    | (refine awp_scope ?_)
    | (refine awp_label ?_; simp only [go_sem, Nat.reduceAdd, Nat.reduceMul, Nat.reduceSub, Nat.reduceLeDiff, Nat.reduceLT, Int.reduceToNat, Int.reduceLE, Int.reduceLT, Int.reduceNeg, reduceIte, ruleC, seasonC, slS, slX, termsC, spellC])
    | (refine awp_skip ?_; simp only [go_sem, Nat.reduceAdd, Nat.reduceMul, Nat.reduceSub, Nat.reduceLeDiff, Nat.reduceLT, Int.reduceToNat, Int.reduceLE, Int.reduceLT, Int.reduceNeg, reduceIte, ruleC, seasonC, slS, slX, termsC, spellC])
    | (refine awp_exit ?_; simp only [go_sem, Nat.reduceAdd, Nat.reduceMul, Nat.reduceSub, Nat.reduceLeDiff, Nat.reduceLT, Int.reduceToNat, Int.reduceLE, Int.reduceLT, Int.reduceNeg, reduceIte, ruleC, seasonC, slS, slX, termsC, spellC])
    | (refine awp_cd ?_; simp only [go_sem, Nat.reduceAdd, Nat.reduceMul, Nat.reduceSub, Nat.reduceLeDiff, Nat.reduceLT, Int.reduceToNat, Int.reduceLE, Int.reduceLT, Int.reduceNeg, reduceIte, ruleC, seasonC, slS, slX, termsC, spellC])
    | (refine awp_ret ?_; simp only [go_sem, Nat.reduceAdd, Nat.reduceMul, Nat.reduceSub, Nat.reduceLeDiff, Nat.reduceLT, Int.reduceToNat, Int.reduceLE, Int.reduceLT, Int.reduceNeg, reduceIte, ruleC, seasonC, slS, slX, termsC, spellC])
    | (refine callK_of (hsp) ?_; try simp only [go_sem, Nat.reduceAdd, Nat.reduceMul, Nat.reduceSub, Nat.reduceLeDiff, Nat.reduceLT, Int.reduceToNat, Int.reduceLE, Int.reduceLT, Int.reduceNeg, reduceIte, ruleC, seasonC, slS, slX, termsC, spellC])
    | (refine callK_of (greatest_c _ _ _) ?_; try simp only [go_sem, Nat.reduceAdd, Nat.reduceMul, Nat.reduceSub, Nat.reduceLeDiff, Nat.reduceLT, Int.reduceToNat, Int.reduceLE, Int.reduceLT, Int.reduceNeg, reduceIte, ruleC, seasonC, slS, slX, termsC, spellC])
    | (refine go_split (fun _h => ?_) (fun _h => ?_) <;> simp only [go_sem, Nat.reduceAdd, Nat.reduceMul, Nat.reduceSub, Nat.reduceLeDiff, Nat.reduceLT, Int.reduceToNat, Int.reduceLE, Int.reduceLT, Int.reduceNeg, reduceIte, ruleC, seasonC, slS, slX, termsC, spellC])
    | (show heapOK _ _ = true; kernel_rfl)
    | (omega)))
  refine awp_loopN xs.length (fun k => ⟨mkT 81 [(4, .ptr 1 0 0), (6, .int .i64 (sumTo (spellCost t ⟨sp, false⟩) xs k)), (7, .bool true), (9, .ptr 3 0 0), (55, slX xs), (56, .int .i64 xs.length), (57, .int .i64 k)], [none, some (.cells 96 1 0 (termsC t)), none, some (.cells 42 1 0 [.int .i64 0, .int .i64 0])], []⟩) (.le2 ?_) ?_
  · simp only [go_sem, Nat.reduceAdd, Nat.reduceMul, Nat.reduceSub, Nat.reduceLeDiff, Nat.reduceLT, Int.reduceToNat, Int.reduceLE, Int.reduceLT, Int.reduceNeg, reduceIte, ruleC, seasonC, slS, slX, termsC, spellC]
    simp [sumTo_zero]
  · intro k hk
    have hsv : k < xs.length → (((xs.getD k (0, 0)).1 : Int) = 0 ∧ ((xs.getD k (0, 0)).2 : Int) = 0 ↔ (false = true ∧ (xs.getD k (0, 0)).2 = sp.length)) := fun h => ⟨fun e => by have := hch.at k h; omega, fun e => by simp at e⟩
    have hbd := sumTo_bd (f := spellCost t ⟨sp, false⟩) (l := xs) 61000 (0, 0) (fun j hj => (cost_bd ht (hch.at j hj).2.1 (hch.at j hj).2.2 hl).2.2) k hk
    have hat := hch.at k
    have hcb : k < xs.length → _ := fun h => cost_bd (s := ⟨sp, false⟩) ht (hat h).2.1 (hat h).2.2 hl
    have hsu : k < xs.length → _ := fun h => sumTo_succ (f := spellCost t ⟨sp, false⟩) (l := xs) (0, 0) h
    simp only [go_sem, Nat.reduceAdd, Nat.reduceMul, Nat.reduceSub, Nat.reduceLeDiff, Nat.reduceLT, Int.reduceToNat, Int.reduceLE, Int.reduceLT, Int.reduceNeg, reduceIte, ruleC, seasonC, slS, slX, termsC, spellC]
    (repeat' (first
    | (refine awp_seqK ?_)
    | (refine awp_region ?_; simp only [go_sem, Nat.reduceAdd, Nat.reduceMul, Nat.reduceSub, Nat.reduceLeDiff, Nat.reduceLT, Int.reduceToNat, Int.reduceLE, Int.reduceLT, Int.reduceNeg, reduceIte, ruleC, seasonC, slS, slX, termsC, spellC])
    | (refine awp_draw (by kernel_rfl) (by kernel_rfl) ?_; simp only [go_sem, Nat.reduceAdd, Nat.reduceMul, Nat.reduceSub, Nat.reduceLeDiff, Nat.reduceLT, Int.reduceToNat, Int.reduceLE, Int.reduceLT, Int.reduceNeg, reduceIte, ruleC, seasonC, slS, slX, termsC, spellC])
    | (refine kt ?_)
    | (refine And.intro ?_ ?_)
    | (refine Imp.le2 ?_; simp only [go_sem, Nat.reduceAdd, Nat.reduceMul, Nat.reduceSub, Nat.reduceLeDiff, Nat.reduceLT, Int.reduceToNat, Int.reduceLE, Int.reduceLT, Int.reduceNeg, reduceIte, ruleC, seasonC, slS, slX, termsC, spellC])
    | (intro _h)
    | (refine awp_block ?_)
    | (refine awp_scope ?_)
    | (refine awp_label ?_; simp only [go_sem, Nat.reduceAdd, Nat.reduceMul, Nat.reduceSub, Nat.reduceLeDiff, Nat.reduceLT, Int.reduceToNat, Int.reduceLE, Int.reduceLT, Int.reduceNeg, reduceIte, ruleC, seasonC, slS, slX, termsC, spellC])
    | (refine awp_skip ?_; simp only [go_sem, Nat.reduceAdd, Nat.reduceMul, Nat.reduceSub, Nat.reduceLeDiff, Nat.reduceLT, Int.reduceToNat, Int.reduceLE, Int.reduceLT, Int.reduceNeg, reduceIte, ruleC, seasonC, slS, slX, termsC, spellC])
    | (refine awp_exit ?_; simp only [go_sem, Nat.reduceAdd, Nat.reduceMul, Nat.reduceSub, Nat.reduceLeDiff, Nat.reduceLT, Int.reduceToNat, Int.reduceLE, Int.reduceLT, Int.reduceNeg, reduceIte, ruleC, seasonC, slS, slX, termsC, spellC])
    | (refine awp_cd ?_; simp only [go_sem, Nat.reduceAdd, Nat.reduceMul, Nat.reduceSub, Nat.reduceLeDiff, Nat.reduceLT, Int.reduceToNat, Int.reduceLE, Int.reduceLT, Int.reduceNeg, reduceIte, ruleC, seasonC, slS, slX, termsC, spellC])
    | (refine awp_ret ?_; simp only [go_sem, Nat.reduceAdd, Nat.reduceMul, Nat.reduceSub, Nat.reduceLeDiff, Nat.reduceLT, Int.reduceToNat, Int.reduceLE, Int.reduceLT, Int.reduceNeg, reduceIte, ruleC, seasonC, slS, slX, termsC, spellC])
    | (refine go_split (fun _h => ?_) (fun _h => ?_) <;> simp only [go_sem, Nat.reduceAdd, Nat.reduceMul, Nat.reduceSub, Nat.reduceLeDiff, Nat.reduceLT, Int.reduceToNat, Int.reduceLE, Int.reduceLT, Int.reduceNeg, reduceIte, ruleC, seasonC, slS, slX, termsC, spellC])
    | (show heapOK _ _ = true; kernel_rfl)
    | (omega)))
    all_goals (try (have hcb := hcb (by omega)); try (have hsv := hsv (by omega)); try (have hat := hat (by omega)); try (have hsu := hsu (by omega)))
    all_goals (try simp only at hl hle hat hcb hbd)
    all_goals (first
      | omega
      | (rw [hsu]; rw [hsv] at _h; first | (rw [spellCost_pos (s := ⟨sp, false⟩) _h]; omega) | (rw [spellCost_neg (s := ⟨sp, false⟩) _h]; omega))
      | (rw [Bool.false_or, Bool.and_eq_true, decide_eq_true_eq, savedB, decide_eq_true_eq]; simp only; omega)
      | (rw [Bool.false_or, Bool.and_eq_false_iff, decide_eq_false_iff_not, savedB, decide_eq_false_iff_not]; simp only; omega)
      | (have : k = xs.length := by omega
         subst this; rfl)
      | (simp [savedB]; omega)
      | trace "LEFT")
theorem price_c1 (sp : List Int) (t : Terms) (r : Rule) (hl : sp.length ≤ 60) (ht : termsB t = true) (hr : 1 ≤ r.hold ∧ r.hold ≤ 60) :
    CallS Try.prog 94 [.agg (seasonC ⟨sp, true⟩), .agg (termsC t), .agg (ruleC r)] (.tup [.int .i64 (priceS t r ⟨sp, true⟩), .bool (inTimeS t r ⟨sp, true⟩)]) := by
  have hsp := spells_c ⟨sp, true⟩ r (by simp only; omega) hr
  have hch := spells_chain (sp := sp) hr.1
  have hle := spells_le (sp := sp) (r := r)
  obtain ⟨tt1, tt2, tt3, tt4, tt5⟩ := termsB_true ht
  simp only [seasonC, sl, ruleC, slX] at hsp
  simp only [priceS, inTimeS]
  rw [any_last (s := ⟨sp, true⟩) hch]
  generalize spells sp r = xs at *
  have hlast : 0 < xs.length → _ := fun h => hch.at (xs.length - 1) (by omega)
  have hlo : ∀ k, k < xs.length → 0 < xs.length → (xs.getD (xs.length - 1) (0, 0)).2 = sp.length → ((((xs.getD k (0, 0)).1 : Int) = ((xs.getD (xs.length - 1) (0, 0)).1 : Nat) ∧ ((xs.getD k (0, 0)).2 : Int) = ((xs.getD (xs.length - 1) (0, 0)).2 : Nat)) ↔ (true = true ∧ (xs.getD k (0, 0)).2 = sp.length)) := by
    intro k hk h0 hx
    constructor
    · rintro ⟨_, h2⟩; exact ⟨rfl, by omega⟩
    · rintro ⟨_, h2⟩
      have := last_only hch hk h2
      subst this; exact ⟨rfl, rfl⟩
  have hno : ∀ k, k < xs.length → (0 < xs.length → ¬ (xs.getD (xs.length - 1) (0, 0)).2 = sp.length) → ((((xs.getD k (0, 0)).1 : Int) = 0 ∧ ((xs.getD k (0, 0)).2 : Int) = 0) ↔ (true = true ∧ (xs.getD k (0, 0)).2 = sp.length)) := by
    intro k hk hx
    constructor
    · rintro ⟨h1, h2⟩; have := hch.at k hk; omega
    · rintro ⟨_, h2⟩
      have := last_only hch hk h2
      subst this
      exact absurd h2 (hx (by omega))
  refine callS_of_awp (fun w args => Try.call94 ..) Try.func94 rfl (fun w0 => ?_)
  simp only [Try.ntmps94, Try.results94, initT, junks, ruleC, seasonC, slS, slX, termsC, spellC, sl, List.toList_toArray, List.cons_append, List.nil_append, List.length_cons, List.length_nil, Nat.reduceAdd, Nat.reduceSub]
  by_cases h0 : 0 < xs.length
  · have hl0 := hlast h0
    have e1 : (((xs.length : Int)) - 1).toNat = xs.length - 1 := by omega
    (repeat' (first
    | ((rw [e1]))
    | (refine awp_seqK ?_)
    | (refine awp_region ?_; simp only [go_sem, Nat.reduceAdd, Nat.reduceMul, Nat.reduceSub, Nat.reduceLeDiff, Nat.reduceLT, Int.reduceToNat, Int.reduceLE, Int.reduceLT, Int.reduceNeg, reduceIte, ruleC, seasonC, slS, slX, termsC, spellC])
    | (refine awp_draw (by kernel_rfl) (by kernel_rfl) ?_; simp only [go_sem, Nat.reduceAdd, Nat.reduceMul, Nat.reduceSub, Nat.reduceLeDiff, Nat.reduceLT, Int.reduceToNat, Int.reduceLE, Int.reduceLT, Int.reduceNeg, reduceIte, ruleC, seasonC, slS, slX, termsC, spellC])
    | (refine kt ?_)
    | (refine And.intro ?_ ?_)
    | (refine Imp.le2 ?_; simp only [go_sem, Nat.reduceAdd, Nat.reduceMul, Nat.reduceSub, Nat.reduceLeDiff, Nat.reduceLT, Int.reduceToNat, Int.reduceLE, Int.reduceLT, Int.reduceNeg, reduceIte, ruleC, seasonC, slS, slX, termsC, spellC])
    | (intro _h)
    | (refine awp_block ?_)
    | (refine awp_scope ?_)
    | (refine awp_label ?_; simp only [go_sem, Nat.reduceAdd, Nat.reduceMul, Nat.reduceSub, Nat.reduceLeDiff, Nat.reduceLT, Int.reduceToNat, Int.reduceLE, Int.reduceLT, Int.reduceNeg, reduceIte, ruleC, seasonC, slS, slX, termsC, spellC])
    | (refine awp_skip ?_; simp only [go_sem, Nat.reduceAdd, Nat.reduceMul, Nat.reduceSub, Nat.reduceLeDiff, Nat.reduceLT, Int.reduceToNat, Int.reduceLE, Int.reduceLT, Int.reduceNeg, reduceIte, ruleC, seasonC, slS, slX, termsC, spellC])
    | (refine awp_exit ?_; simp only [go_sem, Nat.reduceAdd, Nat.reduceMul, Nat.reduceSub, Nat.reduceLeDiff, Nat.reduceLT, Int.reduceToNat, Int.reduceLE, Int.reduceLT, Int.reduceNeg, reduceIte, ruleC, seasonC, slS, slX, termsC, spellC])
    | (refine awp_cd ?_; simp only [go_sem, Nat.reduceAdd, Nat.reduceMul, Nat.reduceSub, Nat.reduceLeDiff, Nat.reduceLT, Int.reduceToNat, Int.reduceLE, Int.reduceLT, Int.reduceNeg, reduceIte, ruleC, seasonC, slS, slX, termsC, spellC])
    | (refine awp_ret ?_; simp only [go_sem, Nat.reduceAdd, Nat.reduceMul, Nat.reduceSub, Nat.reduceLeDiff, Nat.reduceLT, Int.reduceToNat, Int.reduceLE, Int.reduceLT, Int.reduceNeg, reduceIte, ruleC, seasonC, slS, slX, termsC, spellC])
    | (refine callK_of (hsp) ?_; try simp only [go_sem, Nat.reduceAdd, Nat.reduceMul, Nat.reduceSub, Nat.reduceLeDiff, Nat.reduceLT, Int.reduceToNat, Int.reduceLE, Int.reduceLT, Int.reduceNeg, reduceIte, ruleC, seasonC, slS, slX, termsC, spellC])
    | (refine callK_of (greatest_c _ _ _) ?_; try simp only [go_sem, Nat.reduceAdd, Nat.reduceMul, Nat.reduceSub, Nat.reduceLeDiff, Nat.reduceLT, Int.reduceToNat, Int.reduceLE, Int.reduceLT, Int.reduceNeg, reduceIte, ruleC, seasonC, slS, slX, termsC, spellC])
    | (refine go_split (fun _h => ?_) (fun _h => ?_) <;> simp only [go_sem, Nat.reduceAdd, Nat.reduceMul, Nat.reduceSub, Nat.reduceLeDiff, Nat.reduceLT, Int.reduceToNat, Int.reduceLE, Int.reduceLT, Int.reduceNeg, reduceIte, ruleC, seasonC, slS, slX, termsC, spellC])
    | (show heapOK _ _ = true; kernel_rfl)
    | (omega)))
    · refine awp_loopN xs.length (fun k => ⟨mkT 81 [(4, .ptr 1 0 0), (6, .int .i64 (sumTo (spellCost t ⟨sp, true⟩) xs k)), (7, .bool true), (9, .ptr 3 0 0), (55, slX xs), (56, .int .i64 xs.length), (57, .int .i64 k)], [none, some (.cells 96 1 0 (termsC t)), none, some (.cells 42 1 0 [.int .i64 ((xs.getD (xs.length - 1) (0, 0)).1 : Nat), .int .i64 ((xs.getD (xs.length - 1) (0, 0)).2 : Nat)])], []⟩) (.le2 ?_) ?_
      · simp only [go_sem, Nat.reduceAdd, Nat.reduceMul, Nat.reduceSub, Nat.reduceLeDiff, Nat.reduceLT, Int.reduceToNat, Int.reduceLE, Int.reduceLT, Int.reduceNeg, reduceIte, ruleC, seasonC, slS, slX, termsC, spellC]
        simp [sumTo_zero]
      · intro k hk
        have hsv : k < xs.length → (((xs.getD k (0, 0)).1 : Int) = ((xs.getD (xs.length - 1) (0, 0)).1 : Nat) ∧ ((xs.getD k (0, 0)).2 : Int) = ((xs.getD (xs.length - 1) (0, 0)).2 : Nat) ↔ (true = true ∧ (xs.getD k (0, 0)).2 = sp.length)) := fun h => hlo k h h0 (by omega)
        have hbd := sumTo_bd (f := spellCost t ⟨sp, true⟩) (l := xs) 61000 (0, 0) (fun j hj => (cost_bd ht (hch.at j hj).2.1 (hch.at j hj).2.2 hl).2.2) k hk
        have hat := hch.at k
        have hcb : k < xs.length → _ := fun h => cost_bd (s := ⟨sp, true⟩) ht (hat h).2.1 (hat h).2.2 hl
        have hsu : k < xs.length → _ := fun h => sumTo_succ (f := spellCost t ⟨sp, true⟩) (l := xs) (0, 0) h
        simp only [go_sem, Nat.reduceAdd, Nat.reduceMul, Nat.reduceSub, Nat.reduceLeDiff, Nat.reduceLT, Int.reduceToNat, Int.reduceLE, Int.reduceLT, Int.reduceNeg, reduceIte, ruleC, seasonC, slS, slX, termsC, spellC]
        (repeat' (first
    | (refine awp_seqK ?_)
    | (refine awp_region ?_; simp only [go_sem, Nat.reduceAdd, Nat.reduceMul, Nat.reduceSub, Nat.reduceLeDiff, Nat.reduceLT, Int.reduceToNat, Int.reduceLE, Int.reduceLT, Int.reduceNeg, reduceIte, ruleC, seasonC, slS, slX, termsC, spellC])
    | (refine awp_draw (by kernel_rfl) (by kernel_rfl) ?_; simp only [go_sem, Nat.reduceAdd, Nat.reduceMul, Nat.reduceSub, Nat.reduceLeDiff, Nat.reduceLT, Int.reduceToNat, Int.reduceLE, Int.reduceLT, Int.reduceNeg, reduceIte, ruleC, seasonC, slS, slX, termsC, spellC])
    | (refine kt ?_)
    | (refine And.intro ?_ ?_)
    | (refine Imp.le2 ?_; simp only [go_sem, Nat.reduceAdd, Nat.reduceMul, Nat.reduceSub, Nat.reduceLeDiff, Nat.reduceLT, Int.reduceToNat, Int.reduceLE, Int.reduceLT, Int.reduceNeg, reduceIte, ruleC, seasonC, slS, slX, termsC, spellC])
    | (intro _h)
    | (refine awp_block ?_)
    | (refine awp_scope ?_)
    | (refine awp_label ?_; simp only [go_sem, Nat.reduceAdd, Nat.reduceMul, Nat.reduceSub, Nat.reduceLeDiff, Nat.reduceLT, Int.reduceToNat, Int.reduceLE, Int.reduceLT, Int.reduceNeg, reduceIte, ruleC, seasonC, slS, slX, termsC, spellC])
    | (refine awp_skip ?_; simp only [go_sem, Nat.reduceAdd, Nat.reduceMul, Nat.reduceSub, Nat.reduceLeDiff, Nat.reduceLT, Int.reduceToNat, Int.reduceLE, Int.reduceLT, Int.reduceNeg, reduceIte, ruleC, seasonC, slS, slX, termsC, spellC])
    | (refine awp_exit ?_; simp only [go_sem, Nat.reduceAdd, Nat.reduceMul, Nat.reduceSub, Nat.reduceLeDiff, Nat.reduceLT, Int.reduceToNat, Int.reduceLE, Int.reduceLT, Int.reduceNeg, reduceIte, ruleC, seasonC, slS, slX, termsC, spellC])
    | (refine awp_cd ?_; simp only [go_sem, Nat.reduceAdd, Nat.reduceMul, Nat.reduceSub, Nat.reduceLeDiff, Nat.reduceLT, Int.reduceToNat, Int.reduceLE, Int.reduceLT, Int.reduceNeg, reduceIte, ruleC, seasonC, slS, slX, termsC, spellC])
    | (refine awp_ret ?_; simp only [go_sem, Nat.reduceAdd, Nat.reduceMul, Nat.reduceSub, Nat.reduceLeDiff, Nat.reduceLT, Int.reduceToNat, Int.reduceLE, Int.reduceLT, Int.reduceNeg, reduceIte, ruleC, seasonC, slS, slX, termsC, spellC])
    | (refine go_split (fun _h => ?_) (fun _h => ?_) <;> simp only [go_sem, Nat.reduceAdd, Nat.reduceMul, Nat.reduceSub, Nat.reduceLeDiff, Nat.reduceLT, Int.reduceToNat, Int.reduceLE, Int.reduceLT, Int.reduceNeg, reduceIte, ruleC, seasonC, slS, slX, termsC, spellC])
    | (show heapOK _ _ = true; kernel_rfl)
    | (omega)))
        all_goals (try (have hcb := hcb (by omega)); try (have hsv := hsv (by omega)); try (have hat := hat (by omega)); try (have hsu := hsu (by omega)))
        all_goals (try simp only at hl hle hat hcb hbd)
        all_goals (first
          | omega
          | (rw [hsu]; rw [hsv] at _h; first | (rw [spellCost_pos (s := ⟨sp, true⟩) _h]) | (rw [spellCost_neg (s := ⟨sp, true⟩) _h]; omega))
          | (rw [Bool.false_or, Bool.and_eq_true, decide_eq_true_eq, savedB, decide_eq_true_eq]; simp only; omega)
          | (rw [Bool.false_or, Bool.and_eq_false_iff, decide_eq_false_iff_not, savedB, decide_eq_false_iff_not]; simp only; omega)
          | (have : k = xs.length := by omega
             subst this; rfl)
          | (simp [savedB]; omega)
          | trace "LEFT")
    · refine awp_loopN xs.length (fun k => ⟨mkT 81 [(4, .ptr 1 0 0), (6, .int .i64 (sumTo (spellCost t ⟨sp, true⟩) xs k)), (7, .bool false), (9, .ptr 3 0 0), (55, slX xs), (56, .int .i64 xs.length), (57, .int .i64 k)], [none, some (.cells 96 1 0 (termsC t)), none, some (.cells 42 1 0 [.int .i64 ((xs.getD (xs.length - 1) (0, 0)).1 : Nat), .int .i64 ((xs.getD (xs.length - 1) (0, 0)).2 : Nat)])], []⟩) (.le2 ?_) ?_
      · simp only [go_sem, Nat.reduceAdd, Nat.reduceMul, Nat.reduceSub, Nat.reduceLeDiff, Nat.reduceLT, Int.reduceToNat, Int.reduceLE, Int.reduceLT, Int.reduceNeg, reduceIte, ruleC, seasonC, slS, slX, termsC, spellC]
        simp [sumTo_zero]
      · intro k hk
        have hsv : k < xs.length → (((xs.getD k (0, 0)).1 : Int) = ((xs.getD (xs.length - 1) (0, 0)).1 : Nat) ∧ ((xs.getD k (0, 0)).2 : Int) = ((xs.getD (xs.length - 1) (0, 0)).2 : Nat) ↔ (true = true ∧ (xs.getD k (0, 0)).2 = sp.length)) := fun h => hlo k h h0 (by omega)
        have hbd := sumTo_bd (f := spellCost t ⟨sp, true⟩) (l := xs) 61000 (0, 0) (fun j hj => (cost_bd ht (hch.at j hj).2.1 (hch.at j hj).2.2 hl).2.2) k hk
        have hat := hch.at k
        have hcb : k < xs.length → _ := fun h => cost_bd (s := ⟨sp, true⟩) ht (hat h).2.1 (hat h).2.2 hl
        have hsu : k < xs.length → _ := fun h => sumTo_succ (f := spellCost t ⟨sp, true⟩) (l := xs) (0, 0) h
        simp only [go_sem, Nat.reduceAdd, Nat.reduceMul, Nat.reduceSub, Nat.reduceLeDiff, Nat.reduceLT, Int.reduceToNat, Int.reduceLE, Int.reduceLT, Int.reduceNeg, reduceIte, ruleC, seasonC, slS, slX, termsC, spellC]
        (repeat' (first
    | (refine awp_seqK ?_)
    | (refine awp_region ?_; simp only [go_sem, Nat.reduceAdd, Nat.reduceMul, Nat.reduceSub, Nat.reduceLeDiff, Nat.reduceLT, Int.reduceToNat, Int.reduceLE, Int.reduceLT, Int.reduceNeg, reduceIte, ruleC, seasonC, slS, slX, termsC, spellC])
    | (refine awp_draw (by kernel_rfl) (by kernel_rfl) ?_; simp only [go_sem, Nat.reduceAdd, Nat.reduceMul, Nat.reduceSub, Nat.reduceLeDiff, Nat.reduceLT, Int.reduceToNat, Int.reduceLE, Int.reduceLT, Int.reduceNeg, reduceIte, ruleC, seasonC, slS, slX, termsC, spellC])
    | (refine kt ?_)
    | (refine And.intro ?_ ?_)
    | (refine Imp.le2 ?_; simp only [go_sem, Nat.reduceAdd, Nat.reduceMul, Nat.reduceSub, Nat.reduceLeDiff, Nat.reduceLT, Int.reduceToNat, Int.reduceLE, Int.reduceLT, Int.reduceNeg, reduceIte, ruleC, seasonC, slS, slX, termsC, spellC])
    | (intro _h)
    | (refine awp_block ?_)
    | (refine awp_scope ?_)
    | (refine awp_label ?_; simp only [go_sem, Nat.reduceAdd, Nat.reduceMul, Nat.reduceSub, Nat.reduceLeDiff, Nat.reduceLT, Int.reduceToNat, Int.reduceLE, Int.reduceLT, Int.reduceNeg, reduceIte, ruleC, seasonC, slS, slX, termsC, spellC])
    | (refine awp_skip ?_; simp only [go_sem, Nat.reduceAdd, Nat.reduceMul, Nat.reduceSub, Nat.reduceLeDiff, Nat.reduceLT, Int.reduceToNat, Int.reduceLE, Int.reduceLT, Int.reduceNeg, reduceIte, ruleC, seasonC, slS, slX, termsC, spellC])
    | (refine awp_exit ?_; simp only [go_sem, Nat.reduceAdd, Nat.reduceMul, Nat.reduceSub, Nat.reduceLeDiff, Nat.reduceLT, Int.reduceToNat, Int.reduceLE, Int.reduceLT, Int.reduceNeg, reduceIte, ruleC, seasonC, slS, slX, termsC, spellC])
    | (refine awp_cd ?_; simp only [go_sem, Nat.reduceAdd, Nat.reduceMul, Nat.reduceSub, Nat.reduceLeDiff, Nat.reduceLT, Int.reduceToNat, Int.reduceLE, Int.reduceLT, Int.reduceNeg, reduceIte, ruleC, seasonC, slS, slX, termsC, spellC])
    | (refine awp_ret ?_; simp only [go_sem, Nat.reduceAdd, Nat.reduceMul, Nat.reduceSub, Nat.reduceLeDiff, Nat.reduceLT, Int.reduceToNat, Int.reduceLE, Int.reduceLT, Int.reduceNeg, reduceIte, ruleC, seasonC, slS, slX, termsC, spellC])
    | (refine go_split (fun _h => ?_) (fun _h => ?_) <;> simp only [go_sem, Nat.reduceAdd, Nat.reduceMul, Nat.reduceSub, Nat.reduceLeDiff, Nat.reduceLT, Int.reduceToNat, Int.reduceLE, Int.reduceLT, Int.reduceNeg, reduceIte, ruleC, seasonC, slS, slX, termsC, spellC])
    | (show heapOK _ _ = true; kernel_rfl)
    | (omega)))
        all_goals (try (have hcb := hcb (by omega)); try (have hsv := hsv (by omega)); try (have hat := hat (by omega)); try (have hsu := hsu (by omega)))
        all_goals (try simp only at hl hle hat hcb hbd)
        all_goals (first
          | omega
          | (rw [hsu]; rw [hsv] at _h; first | (rw [spellCost_pos (s := ⟨sp, true⟩) _h]) | (rw [spellCost_neg (s := ⟨sp, true⟩) _h]; omega))
          | (rw [Bool.false_or, Bool.and_eq_true, decide_eq_true_eq, savedB, decide_eq_true_eq]; simp only; omega)
          | (rw [Bool.false_or, Bool.and_eq_false_iff, decide_eq_false_iff_not, savedB, decide_eq_false_iff_not]; simp only; omega)
          | (have : k = xs.length := by omega
             subst this; rfl)
          | (simp [savedB]; omega)
          | trace "LEFT")
    · refine awp_loopN xs.length (fun k => ⟨mkT 81 [(4, .ptr 1 0 0), (6, .int .i64 (sumTo (spellCost t ⟨sp, true⟩) xs k)), (7, .bool false), (9, .ptr 3 0 0), (55, slX xs), (56, .int .i64 xs.length), (57, .int .i64 k)], [none, some (.cells 96 1 0 (termsC t)), none, some (.cells 42 1 0 [.int .i64 0, .int .i64 0])], []⟩) (.le2 ?_) ?_
      · simp only [go_sem, Nat.reduceAdd, Nat.reduceMul, Nat.reduceSub, Nat.reduceLeDiff, Nat.reduceLT, Int.reduceToNat, Int.reduceLE, Int.reduceLT, Int.reduceNeg, reduceIte, ruleC, seasonC, slS, slX, termsC, spellC]
        simp [sumTo_zero]
      · intro k hk
        have hsv : k < xs.length → (((xs.getD k (0, 0)).1 : Int) = 0 ∧ ((xs.getD k (0, 0)).2 : Int) = 0 ↔ (true = true ∧ (xs.getD k (0, 0)).2 = sp.length)) := fun h => hno k h (fun _ => by omega)
        have hbd := sumTo_bd (f := spellCost t ⟨sp, true⟩) (l := xs) 61000 (0, 0) (fun j hj => (cost_bd ht (hch.at j hj).2.1 (hch.at j hj).2.2 hl).2.2) k hk
        have hat := hch.at k
        have hcb : k < xs.length → _ := fun h => cost_bd (s := ⟨sp, true⟩) ht (hat h).2.1 (hat h).2.2 hl
        have hsu : k < xs.length → _ := fun h => sumTo_succ (f := spellCost t ⟨sp, true⟩) (l := xs) (0, 0) h
        simp only [go_sem, Nat.reduceAdd, Nat.reduceMul, Nat.reduceSub, Nat.reduceLeDiff, Nat.reduceLT, Int.reduceToNat, Int.reduceLE, Int.reduceLT, Int.reduceNeg, reduceIte, ruleC, seasonC, slS, slX, termsC, spellC]
        (repeat' (first
    | (refine awp_seqK ?_)
    | (refine awp_region ?_; simp only [go_sem, Nat.reduceAdd, Nat.reduceMul, Nat.reduceSub, Nat.reduceLeDiff, Nat.reduceLT, Int.reduceToNat, Int.reduceLE, Int.reduceLT, Int.reduceNeg, reduceIte, ruleC, seasonC, slS, slX, termsC, spellC])
    | (refine awp_draw (by kernel_rfl) (by kernel_rfl) ?_; simp only [go_sem, Nat.reduceAdd, Nat.reduceMul, Nat.reduceSub, Nat.reduceLeDiff, Nat.reduceLT, Int.reduceToNat, Int.reduceLE, Int.reduceLT, Int.reduceNeg, reduceIte, ruleC, seasonC, slS, slX, termsC, spellC])
    | (refine kt ?_)
    | (refine And.intro ?_ ?_)
    | (refine Imp.le2 ?_; simp only [go_sem, Nat.reduceAdd, Nat.reduceMul, Nat.reduceSub, Nat.reduceLeDiff, Nat.reduceLT, Int.reduceToNat, Int.reduceLE, Int.reduceLT, Int.reduceNeg, reduceIte, ruleC, seasonC, slS, slX, termsC, spellC])
    | (intro _h)
    | (refine awp_block ?_)
    | (refine awp_scope ?_)
    | (refine awp_label ?_; simp only [go_sem, Nat.reduceAdd, Nat.reduceMul, Nat.reduceSub, Nat.reduceLeDiff, Nat.reduceLT, Int.reduceToNat, Int.reduceLE, Int.reduceLT, Int.reduceNeg, reduceIte, ruleC, seasonC, slS, slX, termsC, spellC])
    | (refine awp_skip ?_; simp only [go_sem, Nat.reduceAdd, Nat.reduceMul, Nat.reduceSub, Nat.reduceLeDiff, Nat.reduceLT, Int.reduceToNat, Int.reduceLE, Int.reduceLT, Int.reduceNeg, reduceIte, ruleC, seasonC, slS, slX, termsC, spellC])
    | (refine awp_exit ?_; simp only [go_sem, Nat.reduceAdd, Nat.reduceMul, Nat.reduceSub, Nat.reduceLeDiff, Nat.reduceLT, Int.reduceToNat, Int.reduceLE, Int.reduceLT, Int.reduceNeg, reduceIte, ruleC, seasonC, slS, slX, termsC, spellC])
    | (refine awp_cd ?_; simp only [go_sem, Nat.reduceAdd, Nat.reduceMul, Nat.reduceSub, Nat.reduceLeDiff, Nat.reduceLT, Int.reduceToNat, Int.reduceLE, Int.reduceLT, Int.reduceNeg, reduceIte, ruleC, seasonC, slS, slX, termsC, spellC])
    | (refine awp_ret ?_; simp only [go_sem, Nat.reduceAdd, Nat.reduceMul, Nat.reduceSub, Nat.reduceLeDiff, Nat.reduceLT, Int.reduceToNat, Int.reduceLE, Int.reduceLT, Int.reduceNeg, reduceIte, ruleC, seasonC, slS, slX, termsC, spellC])
    | (refine go_split (fun _h => ?_) (fun _h => ?_) <;> simp only [go_sem, Nat.reduceAdd, Nat.reduceMul, Nat.reduceSub, Nat.reduceLeDiff, Nat.reduceLT, Int.reduceToNat, Int.reduceLE, Int.reduceLT, Int.reduceNeg, reduceIte, ruleC, seasonC, slS, slX, termsC, spellC])
    | (show heapOK _ _ = true; kernel_rfl)
    | (omega)))
        all_goals (try (have hcb := hcb (by omega)); try (have hsv := hsv (by omega)); try (have hat := hat (by omega)); try (have hsu := hsu (by omega)))
        all_goals (try simp only at hl hle hat hcb hbd)
        all_goals (first
          | omega
          | (rw [hsu]; rw [hsv] at _h; first | (rw [spellCost_pos (s := ⟨sp, true⟩) _h]) | (rw [spellCost_neg (s := ⟨sp, true⟩) _h]; omega))
          | (rw [Bool.false_or, Bool.and_eq_true, decide_eq_true_eq, savedB, decide_eq_true_eq]; simp only; omega)
          | (rw [Bool.false_or, Bool.and_eq_false_iff, decide_eq_false_iff_not, savedB, decide_eq_false_iff_not]; simp only; omega)
          | (have : k = xs.length := by omega
             subst this; rfl)
          | (simp [savedB]; omega)
          | trace "LEFT")
  · (repeat' (first
    | (refine awp_seqK ?_)
    | (refine awp_region ?_; simp only [go_sem, Nat.reduceAdd, Nat.reduceMul, Nat.reduceSub, Nat.reduceLeDiff, Nat.reduceLT, Int.reduceToNat, Int.reduceLE, Int.reduceLT, Int.reduceNeg, reduceIte, ruleC, seasonC, slS, slX, termsC, spellC])
    | (refine awp_draw (by kernel_rfl) (by kernel_rfl) ?_; simp only [go_sem, Nat.reduceAdd, Nat.reduceMul, Nat.reduceSub, Nat.reduceLeDiff, Nat.reduceLT, Int.reduceToNat, Int.reduceLE, Int.reduceLT, Int.reduceNeg, reduceIte, ruleC, seasonC, slS, slX, termsC, spellC])
    | (refine kt ?_)
    | (refine And.intro ?_ ?_)
    | (refine Imp.le2 ?_; simp only [go_sem, Nat.reduceAdd, Nat.reduceMul, Nat.reduceSub, Nat.reduceLeDiff, Nat.reduceLT, Int.reduceToNat, Int.reduceLE, Int.reduceLT, Int.reduceNeg, reduceIte, ruleC, seasonC, slS, slX, termsC, spellC])
    | (intro _h)
    | (refine awp_block ?_)
    | (refine awp_scope ?_)
    | (refine awp_label ?_; simp only [go_sem, Nat.reduceAdd, Nat.reduceMul, Nat.reduceSub, Nat.reduceLeDiff, Nat.reduceLT, Int.reduceToNat, Int.reduceLE, Int.reduceLT, Int.reduceNeg, reduceIte, ruleC, seasonC, slS, slX, termsC, spellC])
    | (refine awp_skip ?_; simp only [go_sem, Nat.reduceAdd, Nat.reduceMul, Nat.reduceSub, Nat.reduceLeDiff, Nat.reduceLT, Int.reduceToNat, Int.reduceLE, Int.reduceLT, Int.reduceNeg, reduceIte, ruleC, seasonC, slS, slX, termsC, spellC])
    | (refine awp_exit ?_; simp only [go_sem, Nat.reduceAdd, Nat.reduceMul, Nat.reduceSub, Nat.reduceLeDiff, Nat.reduceLT, Int.reduceToNat, Int.reduceLE, Int.reduceLT, Int.reduceNeg, reduceIte, ruleC, seasonC, slS, slX, termsC, spellC])
    | (refine awp_cd ?_; simp only [go_sem, Nat.reduceAdd, Nat.reduceMul, Nat.reduceSub, Nat.reduceLeDiff, Nat.reduceLT, Int.reduceToNat, Int.reduceLE, Int.reduceLT, Int.reduceNeg, reduceIte, ruleC, seasonC, slS, slX, termsC, spellC])
    | (refine awp_ret ?_; simp only [go_sem, Nat.reduceAdd, Nat.reduceMul, Nat.reduceSub, Nat.reduceLeDiff, Nat.reduceLT, Int.reduceToNat, Int.reduceLE, Int.reduceLT, Int.reduceNeg, reduceIte, ruleC, seasonC, slS, slX, termsC, spellC])
    | (refine callK_of (hsp) ?_; try simp only [go_sem, Nat.reduceAdd, Nat.reduceMul, Nat.reduceSub, Nat.reduceLeDiff, Nat.reduceLT, Int.reduceToNat, Int.reduceLE, Int.reduceLT, Int.reduceNeg, reduceIte, ruleC, seasonC, slS, slX, termsC, spellC])
    | (refine callK_of (greatest_c _ _ _) ?_; try simp only [go_sem, Nat.reduceAdd, Nat.reduceMul, Nat.reduceSub, Nat.reduceLeDiff, Nat.reduceLT, Int.reduceToNat, Int.reduceLE, Int.reduceLT, Int.reduceNeg, reduceIte, ruleC, seasonC, slS, slX, termsC, spellC])
    | (refine go_split (fun _h => ?_) (fun _h => ?_) <;> simp only [go_sem, Nat.reduceAdd, Nat.reduceMul, Nat.reduceSub, Nat.reduceLeDiff, Nat.reduceLT, Int.reduceToNat, Int.reduceLE, Int.reduceLT, Int.reduceNeg, reduceIte, ruleC, seasonC, slS, slX, termsC, spellC])
    | (show heapOK _ _ = true; kernel_rfl)
    | (omega)))
    refine awp_loopN xs.length (fun k => ⟨mkT 81 [(4, .ptr 1 0 0), (6, .int .i64 (sumTo (spellCost t ⟨sp, true⟩) xs k)), (7, .bool false), (9, .ptr 3 0 0), (55, slX xs), (56, .int .i64 xs.length), (57, .int .i64 k)], [none, some (.cells 96 1 0 (termsC t)), none, some (.cells 42 1 0 [.int .i64 0, .int .i64 0])], []⟩) (.le2 ?_) ?_
    · simp only [go_sem, Nat.reduceAdd, Nat.reduceMul, Nat.reduceSub, Nat.reduceLeDiff, Nat.reduceLT, Int.reduceToNat, Int.reduceLE, Int.reduceLT, Int.reduceNeg, reduceIte, ruleC, seasonC, slS, slX, termsC, spellC]
      simp [sumTo_zero]
    · intro k hk
      have hsv : k < xs.length → (((xs.getD k (0, 0)).1 : Int) = 0 ∧ ((xs.getD k (0, 0)).2 : Int) = 0 ↔ (true = true ∧ (xs.getD k (0, 0)).2 = sp.length)) := fun h => absurd h (by omega)
      have hbd := sumTo_bd (f := spellCost t ⟨sp, true⟩) (l := xs) 61000 (0, 0) (fun j hj => (cost_bd ht (hch.at j hj).2.1 (hch.at j hj).2.2 hl).2.2) k hk
      have hat := hch.at k
      have hcb : k < xs.length → _ := fun h => cost_bd (s := ⟨sp, true⟩) ht (hat h).2.1 (hat h).2.2 hl
      have hsu : k < xs.length → _ := fun h => sumTo_succ (f := spellCost t ⟨sp, true⟩) (l := xs) (0, 0) h
      simp only [go_sem, Nat.reduceAdd, Nat.reduceMul, Nat.reduceSub, Nat.reduceLeDiff, Nat.reduceLT, Int.reduceToNat, Int.reduceLE, Int.reduceLT, Int.reduceNeg, reduceIte, ruleC, seasonC, slS, slX, termsC, spellC]
      (repeat' (first
    | (refine awp_seqK ?_)
    | (refine awp_region ?_; simp only [go_sem, Nat.reduceAdd, Nat.reduceMul, Nat.reduceSub, Nat.reduceLeDiff, Nat.reduceLT, Int.reduceToNat, Int.reduceLE, Int.reduceLT, Int.reduceNeg, reduceIte, ruleC, seasonC, slS, slX, termsC, spellC])
    | (refine awp_draw (by kernel_rfl) (by kernel_rfl) ?_; simp only [go_sem, Nat.reduceAdd, Nat.reduceMul, Nat.reduceSub, Nat.reduceLeDiff, Nat.reduceLT, Int.reduceToNat, Int.reduceLE, Int.reduceLT, Int.reduceNeg, reduceIte, ruleC, seasonC, slS, slX, termsC, spellC])
    | (refine kt ?_)
    | (refine And.intro ?_ ?_)
    | (refine Imp.le2 ?_; simp only [go_sem, Nat.reduceAdd, Nat.reduceMul, Nat.reduceSub, Nat.reduceLeDiff, Nat.reduceLT, Int.reduceToNat, Int.reduceLE, Int.reduceLT, Int.reduceNeg, reduceIte, ruleC, seasonC, slS, slX, termsC, spellC])
    | (intro _h)
    | (refine awp_block ?_)
    | (refine awp_scope ?_)
    | (refine awp_label ?_; simp only [go_sem, Nat.reduceAdd, Nat.reduceMul, Nat.reduceSub, Nat.reduceLeDiff, Nat.reduceLT, Int.reduceToNat, Int.reduceLE, Int.reduceLT, Int.reduceNeg, reduceIte, ruleC, seasonC, slS, slX, termsC, spellC])
    | (refine awp_skip ?_; simp only [go_sem, Nat.reduceAdd, Nat.reduceMul, Nat.reduceSub, Nat.reduceLeDiff, Nat.reduceLT, Int.reduceToNat, Int.reduceLE, Int.reduceLT, Int.reduceNeg, reduceIte, ruleC, seasonC, slS, slX, termsC, spellC])
    | (refine awp_exit ?_; simp only [go_sem, Nat.reduceAdd, Nat.reduceMul, Nat.reduceSub, Nat.reduceLeDiff, Nat.reduceLT, Int.reduceToNat, Int.reduceLE, Int.reduceLT, Int.reduceNeg, reduceIte, ruleC, seasonC, slS, slX, termsC, spellC])
    | (refine awp_cd ?_; simp only [go_sem, Nat.reduceAdd, Nat.reduceMul, Nat.reduceSub, Nat.reduceLeDiff, Nat.reduceLT, Int.reduceToNat, Int.reduceLE, Int.reduceLT, Int.reduceNeg, reduceIte, ruleC, seasonC, slS, slX, termsC, spellC])
    | (refine awp_ret ?_; simp only [go_sem, Nat.reduceAdd, Nat.reduceMul, Nat.reduceSub, Nat.reduceLeDiff, Nat.reduceLT, Int.reduceToNat, Int.reduceLE, Int.reduceLT, Int.reduceNeg, reduceIte, ruleC, seasonC, slS, slX, termsC, spellC])
    | (refine go_split (fun _h => ?_) (fun _h => ?_) <;> simp only [go_sem, Nat.reduceAdd, Nat.reduceMul, Nat.reduceSub, Nat.reduceLeDiff, Nat.reduceLT, Int.reduceToNat, Int.reduceLE, Int.reduceLT, Int.reduceNeg, reduceIte, ruleC, seasonC, slS, slX, termsC, spellC])
    | (show heapOK _ _ = true; kernel_rfl)
    | (omega)))
      all_goals (try (have hcb := hcb (by omega)); try (have hsv := hsv (by omega)); try (have hat := hat (by omega)); try (have hsu := hsu (by omega)))
      all_goals (try simp only at hl hle hat hcb hbd)
      all_goals (first
        | omega
        | (rw [hsu]; rw [hsv] at _h; first | (rw [spellCost_pos (s := ⟨sp, true⟩) _h]) | (rw [spellCost_neg (s := ⟨sp, true⟩) _h]; omega))
        | (rw [Bool.false_or, Bool.and_eq_true, decide_eq_true_eq, savedB, decide_eq_true_eq]; simp only; omega)
        | (rw [Bool.false_or, Bool.and_eq_false_iff, decide_eq_false_iff_not, savedB, decide_eq_false_iff_not]; simp only; omega)
        | (have : k = xs.length := by omega
           subst this; rfl)
        | (simp [savedB]; omega)
        | trace "LEFT")
theorem price_c (s : Season) (t : Terms) (r : Rule) (hl : s.speeds.length ≤ 60) (ht : termsB t = true) (hr : 1 ≤ r.hold ∧ r.hold ≤ 60) :
    CallS Try.prog 94 [.agg (seasonC s), .agg (termsC t), .agg (ruleC r)] (.tup [.int .i64 (priceS t r s), .bool (inTimeS t r s)]) := by
  obtain ⟨sp, fell⟩ := s
  cases fell
  · exact price_c0 sp t r hl ht hr
  · exact price_c1 sp t r hl ht hr
end Go.Am
