/- Parts RdE, AlJ, AlK, AlL, AlM, LwB, BlO of the proof, one behind the other: the machine of abstract values, contracts, plain words. No statement is proved here. -/
import Derived.Test.YtnjommobapmgbaaM5
import Derived.Carry
import Derived.Test.YtnjommobapmgbaaM4
import Derived.Test.YtnjommobapmgbaaM6
/- Six arguments of a law, read one by one. -/
namespace Go.Am
open Go.RowKit Go.ChangeShapes
section
variable {H : Type} {enc : TypeId × Value → H} {P : Program} {w : World} {base : Nat} {spare : Nat → Bool} {held : Bool}
theorem trodAll_six {t0 t1 t2 t3 t4 t5 : TypeId} {args : Array Value} {ds : List (DataW H)} {ps : List MemPlace} (h : DataW.TrodAll enc P w base spare held [t0, t1, t2, t3, t4, t5] args.toList ds ps) :
    ∃ v0 v1 v2 v3 v4 v5 d0 d1 d2 d3 d4 d5 p0 p1 p2 p3 p4 p5, args = #[v0, v1, v2, v3, v4, v5] ∧ ds = [d0, d1, d2, d3, d4, d5] ∧ ps = p0 ++ p1 ++ p2 ++ p3 ++ p4 ++ p5 ∧ DataW.Trod enc P w base spare held t0 v0 d0 p0 ∧ DataW.Trod enc P w base spare held t1 v1 d1 p1 ∧
      DataW.Trod enc P w base spare held t2 v2 d2 p2 ∧ DataW.Trod enc P w base spare held t3 v3 d3 p3 ∧ DataW.Trod enc P w base spare held t4 v4 d4 p4 ∧ DataW.Trod enc P w base spare held t5 v5 d5 p5 := by
  obtain ⟨v0, _, d0, _, p0, _, hargs, rfl, rfl, h0, r0⟩ := trodAll_cons h
  obtain ⟨v1, _, d1, _, p1, _, rfl, rfl, rfl, h1, r1⟩ := trodAll_cons r0
  obtain ⟨v2, _, d2, _, p2, _, rfl, rfl, rfl, h2, r2⟩ := trodAll_cons r1
  obtain ⟨v3, _, d3, _, p3, _, rfl, rfl, rfl, h3, r3⟩ := trodAll_cons r2
  obtain ⟨v4, _, d4, _, p4, _, rfl, rfl, rfl, h4, r4⟩ := trodAll_cons r3
  obtain ⟨v5, _, d5, _, p5, _, rfl, rfl, rfl, h5, r5⟩ := trodAll_cons r4
  obtain ⟨rfl, rfl, rfl⟩ := trodAll_nil r5
  exact ⟨v0, v1, v2, v3, v4, v5, d0, d1, d2, d3, d4, d5, p0, p1, p2, p3, p4, p5, by cases args; simp_all, rfl, by simp, h0, h1, h2, h3, h4, h5⟩
end
end Go.Am

/- Contracts of the alarm functions: terms, the price of seasons. -/
namespace Go.Am
open Go.RowKit Go.Proofs
attribute [local irreducible] AWP CallS Kt goK CallK stepK evOps
set_option maxRecDepth 4000
set_option linter.unusedSimpArgs false
set_option linter.unusedVariables false
set_option maxHeartbeats 1600000

theorem cost_c (n : Int) : CallS Try.prog 101 [.int .i64 n] (.bool (decide (0 ≤ n ∧ n ≤ 1000))) := by
  (refine callS_of_awp (fun w args => Try.call101 ..) Try.func101 rfl (fun w0 m0 wz => ?_); simp only [Try.ntmps101, Try.results101, initT, junks, ruleC, seasonC, slS, slX, termsC, spellC, sl, List.toList_toArray, List.cons_append, List.nil_append, List.length_cons, List.length_nil, Nat.reduceAdd, Nat.reduceSub])
  (repeat' (first
    | (refine awp_seqK ?_)
    | (refine kt ?_)
    | (refine And.intro ?_ ?_)
    | ((first | refine awp_region ?_ | refine awp_draw (by kernel_rfl) (by kernel_rfl) ?_ | refine Imp.le2 ?_ | refine awp_label ?_ | refine awp_skip ?_ | refine awp_exit ?_ | refine awp_cd ?_ | refine awp_ret ?_); simp (maxSteps := 4000000) only [go_sem, List.append_eq, List.cons_append, List.nil_append, Nat.reduceAdd, Nat.reduceMul, Nat.reduceSub, Nat.reduceLeDiff, Nat.reduceLT, Int.reduceAdd, Int.reduceToNat, Int.reduceLE, Int.reduceLT, Int.reduceNeg, reduceIte, ruleC, seasonC, slS, slX, termsC, spellC])
    | (intro _h)
    | (refine awp_block ?_)
    | (refine awp_scope ?_)
    | ((first | refine callK_of (within_c _ _ _) ?_); try simp (maxSteps := 4000000) only [go_sem, List.append_eq, List.cons_append, List.nil_append, Nat.reduceAdd, Nat.reduceMul, Nat.reduceSub, Nat.reduceLeDiff, Nat.reduceLT, Int.reduceAdd, Int.reduceToNat, Int.reduceLE, Int.reduceLT, Int.reduceNeg, reduceIte, ruleC, seasonC, slS, slX, termsC, spellC])
    | (refine go_split (fun _h => ?_) (fun _h => ?_) <;> simp (maxSteps := 4000000) only [go_sem, List.append_eq, List.cons_append, List.nil_append, Nat.reduceAdd, Nat.reduceMul, Nat.reduceSub, Nat.reduceLeDiff, Nat.reduceLT, Int.reduceAdd, Int.reduceToNat, Int.reduceLE, Int.reduceLT, Int.reduceNeg, reduceIte, ruleC, seasonC, slS, slX, termsC, spellC])
    | (show heapOK _ _ = true; kernel_rfl)
    | (omega)))
theorem termsValid_c (t : Terms) : CallS Try.prog 93 [.agg (termsC t)] (.bool (termsB t)) := by
  unfold termsB
  (refine callS_of_awp (fun w args => Try.call93 ..) Try.func93 rfl (fun w0 m0 wz => ?_); simp only [Try.ntmps93, Try.results93, initT, junks, ruleC, seasonC, slS, slX, termsC, spellC, sl, List.toList_toArray, List.cons_append, List.nil_append, List.length_cons, List.length_nil, Nat.reduceAdd, Nat.reduceSub])
  (repeat' (first
    | (refine awp_seqK ?_)
    | (refine kt ?_)
    | (refine And.intro ?_ ?_)
    | ((first | refine awp_region ?_ | refine awp_draw (by kernel_rfl) (by kernel_rfl) ?_ | refine Imp.le2 ?_ | refine awp_label ?_ | refine awp_skip ?_ | refine awp_exit ?_ | refine awp_cd ?_ | refine awp_ret ?_); simp (maxSteps := 4000000) only [go_sem, List.append_eq, List.cons_append, List.nil_append, Nat.reduceAdd, Nat.reduceMul, Nat.reduceSub, Nat.reduceLeDiff, Nat.reduceLT, Int.reduceAdd, Int.reduceToNat, Int.reduceLE, Int.reduceLT, Int.reduceNeg, reduceIte, ruleC, seasonC, slS, slX, termsC, spellC])
    | (intro _h)
    | (refine awp_block ?_)
    | (refine awp_scope ?_)
    | ((first | refine callK_of (within_c _ _ _) ?_ | refine callK_of (speed_c _) ?_ | refine callK_of (hold_c _) ?_ | refine callK_of (cost_c _) ?_); try simp (maxSteps := 4000000) only [go_sem, List.append_eq, List.cons_append, List.nil_append, Nat.reduceAdd, Nat.reduceMul, Nat.reduceSub, Nat.reduceLeDiff, Nat.reduceLT, Int.reduceAdd, Int.reduceToNat, Int.reduceLE, Int.reduceLT, Int.reduceNeg, reduceIte, ruleC, seasonC, slS, slX, termsC, spellC])
    | (refine go_split (fun _h => ?_) (fun _h => ?_) <;> simp (maxSteps := 4000000) only [go_sem, List.append_eq, List.cons_append, List.nil_append, Nat.reduceAdd, Nat.reduceMul, Nat.reduceSub, Nat.reduceLeDiff, Nat.reduceLT, Int.reduceAdd, Int.reduceToNat, Int.reduceLE, Int.reduceLT, Int.reduceNeg, reduceIte, ruleC, seasonC, slS, slX, termsC, spellC])
    | (show heapOK _ _ = true; kernel_rfl)
    | (omega)))
theorem rightTerms_c (t : Terms) : CallS Try.prog 78 [.agg (termsC t)] (.bool (termsB t)) := by
  unfold termsB
  (refine callS_of_awp (fun w args => Try.call78 ..) Try.func78 rfl (fun w0 m0 wz => ?_); simp only [Try.ntmps78, Try.results78, initT, junks, ruleC, seasonC, slS, slX, termsC, spellC, sl, List.toList_toArray, List.cons_append, List.nil_append, List.length_cons, List.length_nil, Nat.reduceAdd, Nat.reduceSub])
  (repeat' (first
    | (refine awp_seqK ?_)
    | (refine kt ?_)
    | (refine And.intro ?_ ?_)
    | ((first | refine awp_region ?_ | refine awp_draw (by kernel_rfl) (by kernel_rfl) ?_ | refine Imp.le2 ?_ | refine awp_label ?_ | refine awp_skip ?_ | refine awp_exit ?_ | refine awp_cd ?_ | refine awp_ret ?_); simp (maxSteps := 4000000) only [go_sem, List.append_eq, List.cons_append, List.nil_append, Nat.reduceAdd, Nat.reduceMul, Nat.reduceSub, Nat.reduceLeDiff, Nat.reduceLT, Int.reduceAdd, Int.reduceToNat, Int.reduceLE, Int.reduceLT, Int.reduceNeg, reduceIte, ruleC, seasonC, slS, slX, termsC, spellC])
    | (intro _h)
    | (refine awp_block ?_)
    | (refine awp_scope ?_)
    | ((first | refine callK_of (in_c _ _ _) ?_); try simp (maxSteps := 4000000) only [go_sem, List.append_eq, List.cons_append, List.nil_append, Nat.reduceAdd, Nat.reduceMul, Nat.reduceSub, Nat.reduceLeDiff, Nat.reduceLT, Int.reduceAdd, Int.reduceToNat, Int.reduceLE, Int.reduceLT, Int.reduceNeg, reduceIte, ruleC, seasonC, slS, slX, termsC, spellC])
    | (refine go_split (fun _h => ?_) (fun _h => ?_) <;> simp (maxSteps := 4000000) only [go_sem, List.append_eq, List.cons_append, List.nil_append, Nat.reduceAdd, Nat.reduceMul, Nat.reduceSub, Nat.reduceLeDiff, Nat.reduceLT, Int.reduceAdd, Int.reduceToNat, Int.reduceLE, Int.reduceLT, Int.reduceNeg, reduceIte, ruleC, seasonC, slS, slX, termsC, spellC])
    | (show heapOK _ _ = true; kernel_rfl)
    | (omega)))
theorem Terms_c (t : Terms) : CallS Try.prog 49 [.agg (termsC t)] (.agg (termsC t)) := by
  (refine callS_of_awp (fun w args => Try.call49 ..) Try.func49 rfl (fun w0 m0 wz => ?_); simp only [Try.ntmps49, Try.results49, initT, junks, ruleC, seasonC, slS, slX, termsC, spellC, sl, List.toList_toArray, List.cons_append, List.nil_append, List.length_cons, List.length_nil, Nat.reduceAdd, Nat.reduceSub])
  (repeat' (first
    | (refine awp_seqK ?_)
    | (refine kt ?_)
    | (refine And.intro ?_ ?_)
    | ((first | refine awp_region ?_ | refine awp_draw (by kernel_rfl) (by kernel_rfl) ?_ | refine Imp.le2 ?_ | refine awp_label ?_ | refine awp_skip ?_ | refine awp_exit ?_ | refine awp_cd ?_ | refine awp_ret ?_); simp (maxSteps := 4000000) only [go_sem, List.append_eq, List.cons_append, List.nil_append, Nat.reduceAdd, Nat.reduceMul, Nat.reduceSub, Nat.reduceLeDiff, Nat.reduceLT, Int.reduceAdd, Int.reduceToNat, Int.reduceLE, Int.reduceLT, Int.reduceNeg, reduceIte, ruleC, seasonC, slS, slX, termsC, spellC])
    | (intro _h)
    | (refine awp_block ?_)
    | (refine awp_scope ?_)
    | (refine go_split (fun _h => ?_) (fun _h => ?_) <;> simp (maxSteps := 4000000) only [go_sem, List.append_eq, List.cons_append, List.nil_append, Nat.reduceAdd, Nat.reduceMul, Nat.reduceSub, Nat.reduceLeDiff, Nat.reduceLT, Int.reduceAdd, Int.reduceToNat, Int.reduceLE, Int.reduceLT, Int.reduceNeg, reduceIte, ruleC, seasonC, slS, slX, termsC, spellC])
    | (show heapOK _ _ = true; kernel_rfl)
    | (omega)))
theorem priced_c (l : List Season) (t : Terms) (hl : okS l) : CallS Try.prog 76 [slS l, .agg (termsC t)] (.int .i64 (pricedE l t)) := by
  have h1 := seasons_c l hl
  have h2 := termsValid_c t
  simp only [slS, termsC] at h1 h2
  unfold pricedE
  (refine callS_of_awp (fun w args => Try.call76 ..) Try.func76 rfl (fun w0 m0 wz => ?_); simp only [Try.ntmps76, Try.results76, initT, junks, ruleC, seasonC, slS, slX, termsC, spellC, sl, List.toList_toArray, List.cons_append, List.nil_append, List.length_cons, List.length_nil, Nat.reduceAdd, Nat.reduceSub])
  (repeat' (first
    | (refine awp_seqK ?_)
    | (refine kt ?_)
    | (refine And.intro ?_ ?_)
    | ((first | refine awp_region ?_ | refine awp_draw (by kernel_rfl) (by kernel_rfl) ?_ | refine Imp.le2 ?_ | refine awp_label ?_ | refine awp_skip ?_ | refine awp_exit ?_ | refine awp_cd ?_ | refine awp_ret ?_); simp (maxSteps := 4000000) only [go_sem, List.append_eq, List.cons_append, List.nil_append, Nat.reduceAdd, Nat.reduceMul, Nat.reduceSub, Nat.reduceLeDiff, Nat.reduceLT, Int.reduceAdd, Int.reduceToNat, Int.reduceLE, Int.reduceLT, Int.reduceNeg, reduceIte, ruleC, seasonC, slS, slX, termsC, spellC])
    | (intro _h)
    | (refine awp_block ?_)
    | (refine awp_scope ?_)
    | ((first | refine callK_of (h1) ?_ | refine callK_of (h2) ?_); try simp (maxSteps := 4000000) only [go_sem, List.append_eq, List.cons_append, List.nil_append, Nat.reduceAdd, Nat.reduceMul, Nat.reduceSub, Nat.reduceLeDiff, Nat.reduceLT, Int.reduceAdd, Int.reduceToNat, Int.reduceLE, Int.reduceLT, Int.reduceNeg, reduceIte, ruleC, seasonC, slS, slX, termsC, spellC])
    | (refine go_split (fun _h => ?_) (fun _h => ?_) <;> simp (maxSteps := 4000000) only [go_sem, List.append_eq, List.cons_append, List.nil_append, Nat.reduceAdd, Nat.reduceMul, Nat.reduceSub, Nat.reduceLeDiff, Nat.reduceLT, Int.reduceAdd, Int.reduceToNat, Int.reduceLE, Int.reduceLT, Int.reduceNeg, reduceIte, ruleC, seasonC, slS, slX, termsC, spellC])
    | (show heapOK _ _ = true; kernel_rfl)
    | (omega))) <;> simp_all
theorem lawPriced_c (l : List Season) (t : Terms) (hl : okS l) : CallS Try.prog 50 [slS l, .agg (termsC t)] (.int .i64 (pricedE l t)) := by
  have h1 := seasonsFault_c l hl
  have h2 := rightTerms_c t
  simp only [slS, termsC] at h1 h2
  unfold pricedE
  (refine callS_of_awp (fun w args => Try.call50 ..) Try.func50 rfl (fun w0 m0 wz => ?_); simp only [Try.ntmps50, Try.results50, initT, junks, ruleC, seasonC, slS, slX, termsC, spellC, sl, List.toList_toArray, List.cons_append, List.nil_append, List.length_cons, List.length_nil, Nat.reduceAdd, Nat.reduceSub])
  (repeat' (first
    | (refine awp_seqK ?_)
    | (refine kt ?_)
    | (refine And.intro ?_ ?_)
    | ((first | refine awp_region ?_ | refine awp_draw (by kernel_rfl) (by kernel_rfl) ?_ | refine Imp.le2 ?_ | refine awp_label ?_ | refine awp_skip ?_ | refine awp_exit ?_ | refine awp_cd ?_ | refine awp_ret ?_); simp (maxSteps := 4000000) only [go_sem, List.append_eq, List.cons_append, List.nil_append, Nat.reduceAdd, Nat.reduceMul, Nat.reduceSub, Nat.reduceLeDiff, Nat.reduceLT, Int.reduceAdd, Int.reduceToNat, Int.reduceLE, Int.reduceLT, Int.reduceNeg, reduceIte, ruleC, seasonC, slS, slX, termsC, spellC])
    | (intro _h)
    | (refine awp_block ?_)
    | (refine awp_scope ?_)
    | ((first | refine callK_of (h1) ?_ | refine callK_of (h2) ?_); try simp (maxSteps := 4000000) only [go_sem, List.append_eq, List.cons_append, List.nil_append, Nat.reduceAdd, Nat.reduceMul, Nat.reduceSub, Nat.reduceLeDiff, Nat.reduceLT, Int.reduceAdd, Int.reduceToNat, Int.reduceLE, Int.reduceLT, Int.reduceNeg, reduceIte, ruleC, seasonC, slS, slX, termsC, spellC])
    | (refine go_split (fun _h => ?_) (fun _h => ?_) <;> simp (maxSteps := 4000000) only [go_sem, List.append_eq, List.cons_append, List.nil_append, Nat.reduceAdd, Nat.reduceMul, Nat.reduceSub, Nat.reduceLeDiff, Nat.reduceLT, Int.reduceAdd, Int.reduceToNat, Int.reduceLE, Int.reduceLT, Int.reduceNeg, reduceIte, ruleC, seasonC, slS, slX, termsC, spellC])
    | (show heapOK _ _ = true; kernel_rfl)
    | (omega))) <;> simp_all

/-- Seasons as they may be priced. -/
def fitS (l : List Season) : Prop := l.length ≤ 10 ∧ ∀ i, i < l.length → (l.getD i default).speeds.length ≤ 60
theorem fitS_of {l : List Season} (h : faultS l = 0) : fitS l := by
  obtain ⟨h1, h2, _⟩ := faultS_zero h
  refine ⟨h1, fun i hi => ?_⟩
  rw [show l.getD i default = l[i] by simp [List.getD_eq_getElem?_getD, hi]]
  exact h2 _ (List.getElem_mem hi)
theorem priceS_bd {t : Terms} {r : Rule} {s : Season} (hl : s.speeds.length ≤ 60) (ht : termsB t = true) (hr : 1 ≤ r.hold) : 0 ≤ priceS t r s ∧ priceS t r s ≤ 3660000 := by
  have hch := spells_chain (sp := s.speeds) hr
  have hle := spells_le (sp := s.speeds) (r := r)
  have := sumTo_bd (f := spellCost t s) (l := spells s.speeds r) 61000 (0, 0) (fun j hj => (cost_bd ht (hch.at j hj).2.1 (hch.at j hj).2.2 hl).2.2) _ (Nat.le_refl _)
  unfold priceS
  omega
def allTo {α : Type} (q : α → Bool) (l : List α) (k : Nat) : Bool := (l.take k).all q
theorem allTo_zero {α : Type} {q : α → Bool} {l : List α} : allTo q l 0 = true := by simp [allTo]
theorem allTo_succ {α : Type} {q : α → Bool} {l : List α} {k : Nat} (d : α) (h : k < l.length) : allTo q l (k + 1) = (allTo q l k && q (l.getD k d)) := by
  unfold allTo
  rw [List.take_succ_eq_append_getElem h, List.all_append]
  simp [List.getD_eq_getElem?_getD, h]
theorem allTo_all {α : Type} {q : α → Bool} {l : List α} : allTo q l l.length = l.all q := by simp [allTo]

theorem total_c (l : List Season) (t : Terms) (r : Rule) (hl : fitS l) (ht : termsB t = true) (hr : 1 ≤ r.hold ∧ r.hold ≤ 60) : CallS Try.prog 77 [slS l, .agg (termsC t), .agg (ruleC r)] (.tup [.int .i64 (totalP l t r), .bool (totalI l t r)]) := by
  obtain ⟨hl1, hl2⟩ := hl
  unfold totalP totalI
  (refine callS_of_awp (fun w args => Try.call77 ..) Try.func77 rfl (fun w0 m0 wz => ?_); simp only [Try.ntmps77, Try.results77, initT, junks, ruleC, seasonC, slS, slX, termsC, spellC, sl, List.toList_toArray, List.cons_append, List.nil_append, List.length_cons, List.length_nil, Nat.reduceAdd, Nat.reduceSub])
  (repeat' (first
    | (refine awp_seqK ?_)
    | (refine kt ?_)
    | (refine And.intro ?_ ?_)
    | ((first | refine awp_region ?_ | refine awp_draw (by kernel_rfl) (by kernel_rfl) ?_ | refine Imp.le2 ?_ | refine awp_label ?_ | refine awp_skip ?_ | refine awp_exit ?_ | refine awp_cd ?_ | refine awp_ret ?_); simp (maxSteps := 4000000) only [go_sem, List.append_eq, List.cons_append, List.nil_append, Nat.reduceAdd, Nat.reduceMul, Nat.reduceSub, Nat.reduceLeDiff, Nat.reduceLT, Int.reduceAdd, Int.reduceToNat, Int.reduceLE, Int.reduceLT, Int.reduceNeg, reduceIte, ruleC, seasonC, slS, slX, termsC, spellC])
    | (intro _h)
    | (refine awp_block ?_)
    | (refine awp_scope ?_)
    | (refine go_split (fun _h => ?_) (fun _h => ?_) <;> simp (maxSteps := 4000000) only [go_sem, List.append_eq, List.cons_append, List.nil_append, Nat.reduceAdd, Nat.reduceMul, Nat.reduceSub, Nat.reduceLeDiff, Nat.reduceLT, Int.reduceAdd, Int.reduceToNat, Int.reduceLE, Int.reduceLT, Int.reduceNeg, reduceIte, ruleC, seasonC, slS, slX, termsC, spellC])
    | (show heapOK _ _ = true; kernel_rfl)
    | (omega)))
  refine awp_loopN l.length (fun k => ⟨mkT 35 [(4, .ptr 0 0 0), (5, .ptr 1 0 0), (6, .int .i64 (sumTo (priceS t r) l k)), (7, .bool (allTo (inTimeS t r) l k)), (12, slS l), (13, .int .i64 l.length), (14, .int .i64 k)], [some (.cells 96 1 0 (termsC t)), some (.cells 34 1 0 (ruleC r))], []⟩) (.le2 ?_) ?_
  · simp (maxSteps := 4000000) only [go_sem, List.append_eq, List.cons_append, List.nil_append, Nat.reduceAdd, Nat.reduceMul, Nat.reduceSub, Nat.reduceLeDiff, Nat.reduceLT, Int.reduceAdd, Int.reduceToNat, Int.reduceLE, Int.reduceLT, Int.reduceNeg, reduceIte, ruleC, seasonC, slS, slX, termsC, spellC]
    simp [sumTo_zero, allTo_zero]
  · intro k hk
    have hbd := sumTo_bd (f := priceS t r) (l := l) 3660000 default (fun j hj => priceS_bd (hl2 j hj) ht hr.1) k hk
    have hpb : k < l.length → _ := fun h => priceS_bd (t := t) (r := r) (hl2 k h) ht hr.1
    have hsu : k < l.length → _ := fun h => sumTo_succ (f := priceS t r) (l := l) default h
    have hau : k < l.length → _ := fun h => allTo_succ (q := inTimeS t r) (l := l) default h
    simp (maxSteps := 4000000) only [go_sem, List.append_eq, List.cons_append, List.nil_append, Nat.reduceAdd, Nat.reduceMul, Nat.reduceSub, Nat.reduceLeDiff, Nat.reduceLT, Int.reduceAdd, Int.reduceToNat, Int.reduceLE, Int.reduceLT, Int.reduceNeg, reduceIte, ruleC, seasonC, slS, slX, termsC, spellC]
    (repeat' (first
    | (refine awp_seqK ?_)
    | (refine kt ?_)
    | (refine And.intro ?_ ?_)
    | ((first | refine awp_region ?_ | refine awp_draw (by kernel_rfl) (by kernel_rfl) ?_ | refine Imp.le2 ?_ | refine awp_label ?_ | refine awp_skip ?_ | refine awp_exit ?_ | refine awp_cd ?_ | refine awp_ret ?_); simp (maxSteps := 4000000) only [go_sem, List.append_eq, List.cons_append, List.nil_append, Nat.reduceAdd, Nat.reduceMul, Nat.reduceSub, Nat.reduceLeDiff, Nat.reduceLT, Int.reduceAdd, Int.reduceToNat, Int.reduceLE, Int.reduceLT, Int.reduceNeg, reduceIte, ruleC, seasonC, slS, slX, termsC, spellC])
    | (intro _h)
    | (refine awp_block ?_)
    | (refine awp_scope ?_)
    | ((first | refine callK_of (price_c (l.getD k default) t r (hl2 k (by omega)) ht hr) ?_); try simp (maxSteps := 4000000) only [go_sem, List.append_eq, List.cons_append, List.nil_append, Nat.reduceAdd, Nat.reduceMul, Nat.reduceSub, Nat.reduceLeDiff, Nat.reduceLT, Int.reduceAdd, Int.reduceToNat, Int.reduceLE, Int.reduceLT, Int.reduceNeg, reduceIte, ruleC, seasonC, slS, slX, termsC, spellC])
    | (refine go_split (fun _h => ?_) (fun _h => ?_) <;> simp (maxSteps := 4000000) only [go_sem, List.append_eq, List.cons_append, List.nil_append, Nat.reduceAdd, Nat.reduceMul, Nat.reduceSub, Nat.reduceLeDiff, Nat.reduceLT, Int.reduceAdd, Int.reduceToNat, Int.reduceLE, Int.reduceLT, Int.reduceNeg, reduceIte, ruleC, seasonC, slS, slX, termsC, spellC])
    | (show heapOK _ _ = true; kernel_rfl)
    | (omega)))
    all_goals (try (have hpb := hpb (by omega)); try (have hsu := hsu (by omega)); try (have hau := hau (by omega)))
    all_goals (first
      | omega
      | (rw [hau]; simp only [*, Bool.and_true, Bool.and_false, Bool.true_and, Bool.false_and])
      | (have : k = l.length := by omega
         subst this; first | rfl | (rw [← allTo_all]; assumption) | rw [← allTo_all])
      | trace "LEFT")
theorem Price_c (l : List Season) (t : Terms) (r : Rule) (hl : okS l) :
    CallS Try.prog 47 [slS l, .agg (termsC t), .agg (ruleC r)] (.tup [.int .i64 (if pricedE l t = 0 ∧ ruleB r = true then totalP l t r else 0), .bool (decide (pricedE l t = 0 ∧ ruleB r = true) && totalI l t r), .int .i64 (if pricedE l t = 0 then (if ruleB r = true then 0 else 2) else pricedE l t)]) := by
  have h1 := priced_c l t hl
  have h2 := ruleValid_c r
  simp only [slS, termsC, ruleC] at h1 h2
  (refine callS_of_awp (fun w args => Try.call47 ..) Try.func47 rfl (fun w0 m0 wz => ?_); simp only [Try.ntmps47, Try.results47, initT, junks, ruleC, seasonC, slS, slX, termsC, spellC, sl, List.toList_toArray, List.cons_append, List.nil_append, List.length_cons, List.length_nil, Nat.reduceAdd, Nat.reduceSub])
  (repeat' (first
    | (refine awp_seqK ?_)
    | (refine kt ?_)
    | (refine And.intro ?_ ?_)
    | ((first | refine awp_region ?_ | refine awp_draw (by kernel_rfl) (by kernel_rfl) ?_ | refine Imp.le2 ?_ | refine awp_label ?_ | refine awp_skip ?_ | refine awp_exit ?_ | refine awp_cd ?_ | refine awp_ret ?_); simp (maxSteps := 4000000) only [go_sem, List.append_eq, List.cons_append, List.nil_append, Nat.reduceAdd, Nat.reduceMul, Nat.reduceSub, Nat.reduceLeDiff, Nat.reduceLT, Int.reduceAdd, Int.reduceToNat, Int.reduceLE, Int.reduceLT, Int.reduceNeg, reduceIte, ruleC, seasonC, slS, slX, termsC, spellC])
    | (intro _h)
    | (refine awp_block ?_)
    | (refine awp_scope ?_)
    | ((first | refine callK_of (h1) ?_ | refine callK_of (h2) ?_ | refine callK_of (total_c _ _ _ (fitS_of (pricedE_zero ‹_›).1) (pricedE_zero ‹_›).2.2 (ruleB_true ‹_›).2.2) ?_); try simp (maxSteps := 4000000) only [go_sem, List.append_eq, List.cons_append, List.nil_append, Nat.reduceAdd, Nat.reduceMul, Nat.reduceSub, Nat.reduceLeDiff, Nat.reduceLT, Int.reduceAdd, Int.reduceToNat, Int.reduceLE, Int.reduceLT, Int.reduceNeg, reduceIte, ruleC, seasonC, slS, slX, termsC, spellC])
    | (refine go_split (fun _h => ?_) (fun _h => ?_) <;> simp (maxSteps := 4000000) only [go_sem, List.append_eq, List.cons_append, List.nil_append, Nat.reduceAdd, Nat.reduceMul, Nat.reduceSub, Nat.reduceLeDiff, Nat.reduceLT, Int.reduceAdd, Int.reduceToNat, Int.reduceLE, Int.reduceLT, Int.reduceNeg, reduceIte, ruleC, seasonC, slS, slX, termsC, spellC])
    | (show heapOK _ _ = true; kernel_rfl)
    | (omega)))
  all_goals (first | (simp [*]; done) | trace "LEFT")
end Go.Am

/- Contracts of the alarm functions: the price by the reference, seasons for the program, guards. -/
namespace Go.Am
open Go.RowKit Go.Proofs
attribute [local irreducible] AWP CallS Kt goK CallK stepK evOps
set_option maxRecDepth 4000
set_option linter.unusedSimpArgs false
set_option linter.unusedVariables false
set_option maxHeartbeats 1600000

theorem snoc_S {l : List Season} {s : Season} : recs seasonC l ++ [.psl false s.speeds.length (ints s.speeds), .bool s.fell] = recs seasonC (l ++ [s]) := by simp [recs, seasonC, sl]
theorem take_snoc {α : Type} {l : List α} {k : Nat} (d : α) (h : k < l.length) : l.take k ++ [l.getD k d] = l.take (k + 1) := by
  rw [List.take_succ_eq_append_getElem h]; simp [List.getD_eq_getElem?_getD, h]
theorem Seasons_c (l : List Season) (h1 : l.length ≤ 1000) (h2 : ∀ i, i < l.length → (l.getD i default).speeds.length ≤ 1000000) : CallS Try.prog 48 [slS l] (slS l) := by
  (refine callS_of_awp (fun w args => Try.call48 ..) Try.func48 rfl (fun w0 m0 wz => ?_); simp only [Try.ntmps48, Try.results48, initT, junks, ruleC, seasonC, slS, slX, termsC, spellC, sl, List.toList_toArray, List.cons_append, List.nil_append, List.length_cons, List.length_nil, Nat.reduceAdd, Nat.reduceSub])
  (repeat' (first
    | (refine awp_seqK ?_)
    | (refine kt ?_)
    | (refine And.intro ?_ ?_)
    | ((first | refine awp_region ?_ | refine awp_draw (by kernel_rfl) (by kernel_rfl) ?_ | refine Imp.le2 ?_ | refine awp_label ?_ | refine awp_skip ?_ | refine awp_exit ?_ | refine awp_cd ?_ | refine awp_ret ?_); simp (maxSteps := 4000000) only [go_sem, List.append_eq, List.cons_append, List.nil_append, Nat.reduceAdd, Nat.reduceMul, Nat.reduceSub, Nat.reduceLeDiff, Nat.reduceLT, Int.reduceAdd, Int.reduceToNat, Int.reduceLE, Int.reduceLT, Int.reduceNeg, reduceIte, ruleC, seasonC, slS, slX, termsC, spellC])
    | (intro _h)
    | (refine awp_block ?_)
    | (refine awp_scope ?_)
    | (refine go_split (fun _h => ?_) (fun _h => ?_) <;> simp (maxSteps := 4000000) only [go_sem, List.append_eq, List.cons_append, List.nil_append, Nat.reduceAdd, Nat.reduceMul, Nat.reduceSub, Nat.reduceLeDiff, Nat.reduceLT, Int.reduceAdd, Int.reduceToNat, Int.reduceLE, Int.reduceLT, Int.reduceNeg, reduceIte, ruleC, seasonC, slS, slX, termsC, spellC])
    | (show heapOK _ _ = true; kernel_rfl)
    | (omega)))
  (refine awp_adT 3 32 2 rfl ?_; simp only [adT, lset, hset, List.length_cons, List.length_nil, Nat.reduceAdd])
  refine awp_loopN l.length (fun k => ⟨mkT 20 [(0, slS l), (3, .osl 0 k 0 k), (4, .int .i64 k)], [some (.cells 32 2 k (recs seasonC (l.take k)))], []⟩) (.le2 ?_) ?_
  · simp (maxSteps := 4000000) only [go_sem, List.append_eq, List.cons_append, List.nil_append, Nat.reduceAdd, Nat.reduceMul, Nat.reduceSub, Nat.reduceLeDiff, Nat.reduceLT, Int.reduceAdd, Int.reduceToNat, Int.reduceLE, Int.reduceLT, Int.reduceNeg, reduceIte, ruleC, seasonC, slS, slX, termsC, spellC]
    simp [recs]
  · intro k hk
    have hsn : k < l.length → _ := fun h => take_snoc (l := l) default h
    have hlt : (l.take k).length = k := by simp; omega
    simp (maxSteps := 4000000) only [go_sem, List.append_eq, List.cons_append, List.nil_append, Nat.reduceAdd, Nat.reduceMul, Nat.reduceSub, Nat.reduceLeDiff, Nat.reduceLT, Int.reduceAdd, Int.reduceToNat, Int.reduceLE, Int.reduceLT, Int.reduceNeg, reduceIte, ruleC, seasonC, slS, slX, termsC, spellC]
    (repeat' (first
    | (refine awp_seqK ?_)
    | (refine kt ?_)
    | (refine And.intro ?_ ?_)
    | ((first | refine awp_region ?_ | refine awp_draw (by kernel_rfl) (by kernel_rfl) ?_ | refine Imp.le2 ?_ | refine awp_label ?_ | refine awp_skip ?_ | refine awp_exit ?_ | refine awp_cd ?_ | refine awp_ret ?_); simp (maxSteps := 4000000) only [go_sem, List.append_eq, List.cons_append, List.nil_append, Nat.reduceAdd, Nat.reduceMul, Nat.reduceSub, Nat.reduceLeDiff, Nat.reduceLT, Int.reduceAdd, Int.reduceToNat, Int.reduceLE, Int.reduceLT, Int.reduceNeg, reduceIte, ruleC, seasonC, slS, slX, termsC, spellC])
    | (intro _h)
    | (refine awp_block ?_)
    | (refine awp_scope ?_)
    | ((first | refine callK_of (Season_c (l.getD k default) (h2 k (by omega))) ?_); try simp (maxSteps := 4000000) only [go_sem, List.append_eq, List.cons_append, List.nil_append, Nat.reduceAdd, Nat.reduceMul, Nat.reduceSub, Nat.reduceLeDiff, Nat.reduceLT, Int.reduceAdd, Int.reduceToNat, Int.reduceLE, Int.reduceLT, Int.reduceNeg, reduceIte, ruleC, seasonC, slS, slX, termsC, spellC])
    | (refine go_split (fun _h => ?_) (fun _h => ?_) <;> simp (maxSteps := 4000000) only [go_sem, List.append_eq, List.cons_append, List.nil_append, Nat.reduceAdd, Nat.reduceMul, Nat.reduceSub, Nat.reduceLeDiff, Nat.reduceLT, Int.reduceAdd, Int.reduceToNat, Int.reduceLE, Int.reduceLT, Int.reduceNeg, reduceIte, ruleC, seasonC, slS, slX, termsC, spellC])
    | (show heapOK _ _ = true; kernel_rfl)
    | (omega)))
    all_goals (try (have hsn := hsn (by omega)))
    all_goals (first
      | omega
      | (rw [← hsn]; exact snoc_S)
      | (have : k = l.length := by omega
         subst this; simp; done)
      | trace "LEFT")
def shortB (l : List Season) : Bool := decide (l.length ≤ 12) && l.all (fun s => decide (s.speeds.length ≤ 65))
theorem short_c (l : List Season) (hl : okS l) : CallS Try.prog 46 [slS l] (.bool (shortB l)) := by
  obtain ⟨hl1, hl2⟩ := hl
  have bad : ∀ i, i < l.length → 65 < (l.getD i default).speeds.length → shortB l = false := by
    intro i hi h
    unfold shortB
    have : (l.all fun s => decide (s.speeds.length ≤ 65)) = false := by
      rw [List.all_eq_false]
      refine ⟨l[i], List.getElem_mem hi, ?_⟩
      rw [show l.getD i default = l[i] by simp [List.getD_eq_getElem?_getD, hi]] at h
      simp; omega
    rw [this, Bool.and_false]
  have good : l.length ≤ 12 → (∀ j, j < l.length → (l.getD j default).speeds.length ≤ 65) → shortB l = true := by
    intro h h'
    unfold shortB
    rw [Bool.and_eq_true, decide_eq_true_eq, List.all_eq_true]
    refine ⟨h, fun s hs => ?_⟩
    obtain ⟨j, hj, rfl⟩ := List.mem_iff_getElem.1 hs
    have := h' j hj
    rw [show l.getD j default = l[j] by simp [List.getD_eq_getElem?_getD, hj]] at this
    simpa using this
  have long : ¬ l.length ≤ 12 → shortB l = false := by
    intro h; unfold shortB; rw [decide_eq_false h, Bool.false_and]
  (refine callS_of_awp (fun w args => Try.call46 ..) Try.func46 rfl (fun w0 m0 wz => ?_); simp only [Try.ntmps46, Try.results46, initT, junks, ruleC, seasonC, slS, slX, termsC, spellC, sl, List.toList_toArray, List.cons_append, List.nil_append, List.length_cons, List.length_nil, Nat.reduceAdd, Nat.reduceSub])
  (repeat' (first
    | (refine awp_seqK ?_)
    | (refine kt ?_)
    | (refine And.intro ?_ ?_)
    | ((first | refine awp_region ?_ | refine awp_draw (by kernel_rfl) (by kernel_rfl) ?_ | refine Imp.le2 ?_ | refine awp_label ?_ | refine awp_skip ?_ | refine awp_exit ?_ | refine awp_cd ?_ | refine awp_ret ?_); simp (maxSteps := 4000000) only [go_sem, List.append_eq, List.cons_append, List.nil_append, Nat.reduceAdd, Nat.reduceMul, Nat.reduceSub, Nat.reduceLeDiff, Nat.reduceLT, Int.reduceAdd, Int.reduceToNat, Int.reduceLE, Int.reduceLT, Int.reduceNeg, reduceIte, ruleC, seasonC, slS, slX, termsC, spellC])
    | (intro _h)
    | (refine awp_block ?_)
    | (refine awp_scope ?_)
    | (refine go_split (fun _h => ?_) (fun _h => ?_) <;> simp (maxSteps := 4000000) only [go_sem, List.append_eq, List.cons_append, List.nil_append, Nat.reduceAdd, Nat.reduceMul, Nat.reduceSub, Nat.reduceLeDiff, Nat.reduceLT, Int.reduceAdd, Int.reduceToNat, Int.reduceLE, Int.reduceLT, Int.reduceNeg, reduceIte, ruleC, seasonC, slS, slX, termsC, spellC])
    | (show heapOK _ _ = true; kernel_rfl)
    | (omega)))
  refine awp_loopJ (fun i : Nat => i ≤ l.length ∧ i ≤ 13 ∧ ∀ j, j < i → (l.getD j default).speeds.length ≤ 65) (fun i => ⟨mkT 24 [(0, slS l), (3, .int .i64 i)], [], []⟩) (fun i => l.length - i) 0 ⟨Nat.zero_le _, Nat.zero_le _, by simp⟩ (.le2 ?_) ?_
  · simp (maxSteps := 4000000) only [go_sem, List.append_eq, List.cons_append, List.nil_append, Nat.reduceAdd, Nat.reduceMul, Nat.reduceSub, Nat.reduceLeDiff, Nat.reduceLT, Int.reduceAdd, Int.reduceToNat, Int.reduceLE, Int.reduceLT, Int.reduceNeg, reduceIte, ruleC, seasonC, slS, slX, termsC, spellC]
  · rintro i ⟨hi, hi13, hj⟩
    simp (maxSteps := 4000000) only [go_sem, List.append_eq, List.cons_append, List.nil_append, Nat.reduceAdd, Nat.reduceMul, Nat.reduceSub, Nat.reduceLeDiff, Nat.reduceLT, Int.reduceAdd, Int.reduceToNat, Int.reduceLE, Int.reduceLT, Int.reduceNeg, reduceIte, ruleC, seasonC, slS, slX, termsC, spellC]
    (repeat' (first
    | (refine awp_seqK ?_)
    | (refine kt ?_)
    | (refine And.intro ?_ ?_)
    | ((first | refine awp_region ?_ | refine awp_draw (by kernel_rfl) (by kernel_rfl) ?_ | refine Imp.le2 ?_ | refine awp_label ?_ | refine awp_skip ?_ | refine awp_exit ?_ | refine awp_cd ?_ | refine awp_ret ?_); simp (maxSteps := 4000000) only [go_sem, List.append_eq, List.cons_append, List.nil_append, Nat.reduceAdd, Nat.reduceMul, Nat.reduceSub, Nat.reduceLeDiff, Nat.reduceLT, Int.reduceAdd, Int.reduceToNat, Int.reduceLE, Int.reduceLT, Int.reduceNeg, reduceIte, ruleC, seasonC, slS, slX, termsC, spellC])
    | (intro _h)
    | (refine awp_block ?_)
    | (refine awp_scope ?_)
    | (refine go_split (fun _h => ?_) (fun _h => ?_) <;> simp (maxSteps := 4000000) only [go_sem, List.append_eq, List.cons_append, List.nil_append, Nat.reduceAdd, Nat.reduceMul, Nat.reduceSub, Nat.reduceLeDiff, Nat.reduceLT, Int.reduceAdd, Int.reduceToNat, Int.reduceLE, Int.reduceLT, Int.reduceNeg, reduceIte, ruleC, seasonC, slS, slX, termsC, spellC])
    | (show heapOK _ _ = true; kernel_rfl)
    | (omega)))
    all_goals (first
      | omega
      | exact bad i (by omega) (by omega)
      | exact long (by omega)
      | exact good (by omega) (fun j h => hj j (by omega))
      | (refine ⟨i + 1, ⟨by omega, by omega, fun j hji => ?_⟩, by omega, .le2 ?_⟩
         · rcases Nat.lt_succ_iff_lt_or_eq.1 hji with h | rfl
           · exact hj j h
           · omega
         · simp (maxSteps := 4000000) only [go_sem, List.append_eq, List.cons_append, List.nil_append, Nat.reduceAdd, Nat.reduceMul, Nat.reduceSub, Nat.reduceLeDiff, Nat.reduceLT, Int.reduceAdd, Int.reduceToNat, Int.reduceLE, Int.reduceLT, Int.reduceNeg, reduceIte, ruleC, seasonC, slS, slX, termsC, spellC]
           omega)
      | trace "LEFT")
def anyTo {α : Type} (q : α → Bool) (l : List α) (k : Nat) : Bool := (l.take k).any q
theorem anyTo_zero {α : Type} {q : α → Bool} {l : List α} : anyTo q l 0 = false := by simp [anyTo]
theorem anyTo_succ {α : Type} {q : α → Bool} {l : List α} {k : Nat} (d : α) (h : k < l.length) : anyTo q l (k + 1) = (anyTo q l k || q (l.getD k d)) := by
  unfold anyTo
  rw [List.take_succ_eq_append_getElem h, List.any_append]
  simp [List.getD_eq_getElem?_getD, h]
theorem anyTo_all {α : Type} {q : α → Bool} {l : List α} : anyTo q l l.length = l.any q := by simp [anyTo]
end Go.Am

/- Contracts of the alarm functions: the price by the reference. -/
namespace Go.Am
open Go.RowKit Go.Proofs
attribute [local irreducible] AWP CallS Kt goK CallK stepK evOps
set_option maxRecDepth 4000
set_option linter.unusedSimpArgs false
set_option linter.unusedVariables false
set_option maxHeartbeats 1600000

theorem refPrice_c (l : List Season) (t : Terms) (r : Rule) (hl : fitS l) (ht : termsB t = true) (hr : 1 ≤ r.hold ∧ r.hold ≤ 60) : CallS Try.prog 51 [slS l, .agg (termsC t), .agg (ruleC r)] (.tup [.int .i64 (totalP l t r), .bool (totalI l t r)]) := by
  obtain ⟨hl1, hl2⟩ := hl
  unfold totalP totalI
  obtain ⟨tt1, tt2, tt3, tt4, tt5⟩ := termsB_true ht
  (refine callS_of_awp (fun w args => Try.call51 ..) Try.func51 rfl (fun w0 m0 wz => ?_); simp only [Try.ntmps51, Try.results51, initT, junks, ruleC, seasonC, slS, slX, termsC, spellC, sl, List.toList_toArray, List.cons_append, List.nil_append, List.length_cons, List.length_nil, Nat.reduceAdd, Nat.reduceSub])
  (repeat' (first
    | (refine awp_seqK ?_)
    | (refine kt ?_)
    | (refine And.intro ?_ ?_)
    | ((first | refine awp_region ?_ | refine awp_draw (by kernel_rfl) (by kernel_rfl) ?_ | refine Imp.le2 ?_ | refine awp_label ?_ | refine awp_skip ?_ | refine awp_exit ?_ | refine awp_cd ?_ | refine awp_ret ?_); simp (maxSteps := 4000000) only [go_sem, List.append_eq, List.cons_append, List.nil_append, Nat.reduceAdd, Nat.reduceMul, Nat.reduceSub, Nat.reduceLeDiff, Nat.reduceLT, Int.reduceAdd, Int.reduceToNat, Int.reduceLE, Int.reduceLT, Int.reduceNeg, reduceIte, ruleC, seasonC, slS, slX, termsC, spellC])
    | (intro _h)
    | (refine awp_block ?_)
    | (refine awp_scope ?_)
    | (refine go_split (fun _h => ?_) (fun _h => ?_) <;> simp (maxSteps := 4000000) only [go_sem, List.append_eq, List.cons_append, List.nil_append, Nat.reduceAdd, Nat.reduceMul, Nat.reduceSub, Nat.reduceLeDiff, Nat.reduceLT, Int.reduceAdd, Int.reduceToNat, Int.reduceLE, Int.reduceLT, Int.reduceNeg, reduceIte, ruleC, seasonC, slS, slX, termsC, spellC])
    | (show heapOK _ _ = true; kernel_rfl)
    | (omega)))
  refine awp_loopN l.length (fun i => ⟨mkT 86 [(0, slS l), (4, .ptr 0 0 0), (5, .ptr 1 0 0), (8, .int .i64 (sumTo (priceS t r) l i)), (9, .bool (allTo (inTimeS t r) l i)), (10, .int .i64 i)], [some (.cells 90 1 0 (termsC t)), some (.cells 26 1 0 (ruleC r))], []⟩) (.le2 ?_) ?_
  · simp (maxSteps := 4000000) only [go_sem, List.append_eq, List.cons_append, List.nil_append, Nat.reduceAdd, Nat.reduceMul, Nat.reduceSub, Nat.reduceLeDiff, Nat.reduceLT, Int.reduceAdd, Int.reduceToNat, Int.reduceLE, Int.reduceLT, Int.reduceNeg, reduceIte, ruleC, seasonC, slS, slX, termsC, spellC]
    simp [sumTo_zero, allTo_zero]
  · intro i hi
    have hbi := sumTo_bd (f := priceS t r) (l := l) 3660000 default (fun j hj => priceS_bd (hl2 j hj) ht hr.1) i hi
    have hsi : i < l.length → _ := fun h => sumTo_succ (f := priceS t r) (l := l) default h
    have hai : i < l.length → _ := fun h => allTo_succ (q := inTimeS t r) (l := l) default h
    have hle : i < l.length → _ := fun h => hl2 i h
    generalize hS : sumTo (priceS t r) l i = S at *
    simp (maxSteps := 4000000) only [go_sem, List.append_eq, List.cons_append, List.nil_append, Nat.reduceAdd, Nat.reduceMul, Nat.reduceSub, Nat.reduceLeDiff, Nat.reduceLT, Int.reduceAdd, Int.reduceToNat, Int.reduceLE, Int.reduceLT, Int.reduceNeg, reduceIte, ruleC, seasonC, slS, slX, termsC, spellC]
    (repeat' (first
    | (refine awp_seqK ?_)
    | (refine kt ?_)
    | (refine And.intro ?_ ?_)
    | ((first | refine awp_region ?_ | refine awp_draw (by kernel_rfl) (by kernel_rfl) ?_ | refine Imp.le2 ?_ | refine awp_label ?_ | refine awp_skip ?_ | refine awp_exit ?_ | refine awp_cd ?_ | refine awp_ret ?_); simp (maxSteps := 4000000) only [go_sem, List.append_eq, List.cons_append, List.nil_append, Nat.reduceAdd, Nat.reduceMul, Nat.reduceSub, Nat.reduceLeDiff, Nat.reduceLT, Int.reduceAdd, Int.reduceToNat, Int.reduceLE, Int.reduceLT, Int.reduceNeg, reduceIte, ruleC, seasonC, slS, slX, termsC, spellC])
    | (intro _h)
    | (refine awp_block ?_)
    | (refine awp_scope ?_)
    | ((first | refine callK_of (refSpells_c (l.getD i default) r (by have := hl2 i (by omega); omega) hr) ?_); try simp (maxSteps := 4000000) only [go_sem, List.append_eq, List.cons_append, List.nil_append, Nat.reduceAdd, Nat.reduceMul, Nat.reduceSub, Nat.reduceLeDiff, Nat.reduceLT, Int.reduceAdd, Int.reduceToNat, Int.reduceLE, Int.reduceLT, Int.reduceNeg, reduceIte, ruleC, seasonC, slS, slX, termsC, spellC])
    | (refine go_split (fun _h => ?_) (fun _h => ?_) <;> simp (maxSteps := 4000000) only [go_sem, List.append_eq, List.cons_append, List.nil_append, Nat.reduceAdd, Nat.reduceMul, Nat.reduceSub, Nat.reduceLeDiff, Nat.reduceLT, Int.reduceAdd, Int.reduceToNat, Int.reduceLE, Int.reduceLT, Int.reduceNeg, reduceIte, ruleC, seasonC, slS, slX, termsC, spellC])
    | (show heapOK _ _ = true; kernel_rfl)
    | (omega)))
    · have hle := hle (by omega)
      have hsi := hsi (by omega)
      have hai := hai (by omega)
      generalize l.getD i default = s at *
      obtain ⟨sp, fl⟩ := s
      simp only at hle
      have hch := spells_chain (sp := sp) hr.1
      have hle2 := spells_le (sp := sp) (r := r)
      simp only [priceS, inTimeS] at hsi hai
      simp only
      generalize spells sp r = xs at *
      refine awp_loopN xs.length (fun k => ⟨mkT 86 [(0, slS l), (4, .ptr 0 0 0), (5, .ptr 1 0 0), (8, .int .i64 (S + sumTo (spellCost t ⟨sp, fl⟩) xs k)), (9, .bool (allTo (inTimeS t r) l i)), (10, .int .i64 i), (11, .ptr 2 0 0), (12, slX xs), (13, .bool (fl && anyTo (savedB t ⟨sp, fl⟩) xs k)), (14, .int .i64 k)], [some (.cells 90 1 0 (termsC t)), some (.cells 26 1 0 (ruleC r)), some (.cells 24 1 0 (seasonC ⟨sp, fl⟩))], []⟩) (.le2 ?_) ?_
      · simp (maxSteps := 4000000) only [go_sem, List.append_eq, List.cons_append, List.nil_append, Nat.reduceAdd, Nat.reduceMul, Nat.reduceSub, Nat.reduceLeDiff, Nat.reduceLT, Int.reduceAdd, Int.reduceToNat, Int.reduceLE, Int.reduceLT, Int.reduceNeg, reduceIte, ruleC, seasonC, slS, slX, termsC, spellC]
        simp [sumTo_zero, anyTo_zero]
      · intro k hk
        have hbd := sumTo_bd (f := spellCost t ⟨sp, fl⟩) (l := xs) 61000 (0, 0) (fun j hj => (cost_bd ht (hch.at j hj).2.1 (hch.at j hj).2.2 hle).2.2) k hk
        have hat := hch.at k
        have hcb : k < xs.length → _ := fun h => cost_bd (s := ⟨sp, fl⟩) ht (hat h).2.1 (hat h).2.2 hle
        have hsu : k < xs.length → _ := fun h => sumTo_succ (f := spellCost t ⟨sp, fl⟩) (l := xs) (0, 0) h
        have hau : k < xs.length → _ := fun h => anyTo_succ (q := savedB t ⟨sp, fl⟩) (l := xs) (0, 0) h
        simp (maxSteps := 4000000) only [go_sem, List.append_eq, List.cons_append, List.nil_append, Nat.reduceAdd, Nat.reduceMul, Nat.reduceSub, Nat.reduceLeDiff, Nat.reduceLT, Int.reduceAdd, Int.reduceToNat, Int.reduceLE, Int.reduceLT, Int.reduceNeg, reduceIte, ruleC, seasonC, slS, slX, termsC, spellC]
        (repeat' (first
    | (refine awp_seqK ?_)
    | (refine kt ?_)
    | (refine And.intro ?_ ?_)
    | ((first | refine awp_region ?_ | refine awp_draw (by kernel_rfl) (by kernel_rfl) ?_ | refine Imp.le2 ?_ | refine awp_label ?_ | refine awp_skip ?_ | refine awp_exit ?_ | refine awp_cd ?_ | refine awp_ret ?_); simp (maxSteps := 4000000) only [go_sem, List.append_eq, List.cons_append, List.nil_append, Nat.reduceAdd, Nat.reduceMul, Nat.reduceSub, Nat.reduceLeDiff, Nat.reduceLT, Int.reduceAdd, Int.reduceToNat, Int.reduceLE, Int.reduceLT, Int.reduceNeg, reduceIte, ruleC, seasonC, slS, slX, termsC, spellC])
    | (intro _h)
    | (refine awp_block ?_)
    | (refine awp_scope ?_)
    | (refine go_split (fun _h => ?_) (fun _h => ?_) <;> simp (maxSteps := 4000000) only [go_sem, List.append_eq, List.cons_append, List.nil_append, Nat.reduceAdd, Nat.reduceMul, Nat.reduceSub, Nat.reduceLeDiff, Nat.reduceLT, Int.reduceAdd, Int.reduceToNat, Int.reduceLE, Int.reduceLT, Int.reduceNeg, reduceIte, ruleC, seasonC, slS, slX, termsC, spellC])
    | (show heapOK _ _ = true; kernel_rfl)
    | (omega)))
        all_goals (try (have hcb := hcb (by omega)); try (have hat := hat (by omega)); try (have hsu := hsu (by omega)); try (have hau := hau (by omega)))
        all_goals (try simp only at hcb hat)
        all_goals (first
          | omega
          | (rw [hsu]; cases fl <;> first
              | contradiction
              | (rw [spellCost_pos (s := ⟨sp, _⟩) ⟨rfl, by simp only; omega⟩]; omega)
              | (rw [spellCost_neg (s := ⟨sp, _⟩) (by rintro ⟨h1, h2⟩; first | (cases h1; done) | (simp only at h2; omega))]; omega))
          | (rw [hau]; cases fl <;> first
              | contradiction
              | rfl
              | (rw [show savedB t ⟨sp, true⟩ (xs.getD k (0, 0)) = true from decide_eq_true ⟨by simp only; omega, by omega⟩]; simp; done)
              | (rw [show savedB t ⟨sp, true⟩ (xs.getD k (0, 0)) = false from decide_eq_false (by simp only; omega)]; simp; done))
          | (have : k = xs.length := by omega
             subst this; first | (rw [hsi]; done) | (rw [hai, ← anyTo_all (q := savedB t ⟨sp, fl⟩) (l := xs)]; simp_all; done))
          | trace "LEFT")
    all_goals (first
      | omega
      | (have : i = l.length := by omega
         subst this; first | (rw [hS]; done) | (rw [← hS]; done) | rfl | (rw [← allTo_all]; assumption) | (rw [← allTo_all]; done))
      | trace "LEFT")
end Go.Am

/- Contracts of the alarm functions: the best rule. -/
namespace Go.Am
open Go.RowKit Go.Proofs
attribute [local irreducible] AWP CallS Kt goK CallK stepK evOps
set_option maxRecDepth 4000
set_option linter.unusedSimpArgs false
set_option linter.unusedVariables false
set_option maxHeartbeats 1600000

def bRule (t : Terms) : Option (Nat × Int) → Rule
  | none => ⟨0, 0, 0⟩
  | some p => ruleAt t p.1
def bPrice : Option (Nat × Int) → Int
  | none => 0
  | some p => p.2
def updB (lt : Int → Int → Bool) (k : Nat) (i : Bool) (n : Int) (b : Option (Nat × Int)) : Option (Nat × Int) :=
  if i = true then (match b with | none => some (k, n) | some p => if lt n p.2 = true then some (k, n) else some p) else b
theorem up_succ {l : List Season} {t : Terms} {k : Nat} : bestUp (tryAt l t) (k + 1) = updB (fun a b => decide (a ≤ b)) k (totalI l t (ruleAt t k)) (totalP l t (ruleAt t k)) (bestUp (tryAt l t) k) := by
  simp only [bestUp, tryAt, updB]
  cases totalI l t (ruleAt t k) <;> simp <;> rfl
theorem dn_succ {l : List Season} {t : Terms} {N k : Nat} : bestDn (tryAt l t) N (k + 1) = updB (fun a b => decide (a < b)) (N - 1 - k) (totalI l t (ruleAt t (N - 1 - k))) (totalP l t (ruleAt t (N - 1 - k))) (bestDn (tryAt l t) N k) := by
  simp only [bestDn, tryAt, updB]
  cases totalI l t (ruleAt t (N - 1 - k)) <;> simp <;> rfl

theorem bestA_c (l : List Season) (t : Terms) (hl : okS l) (hp : pricedE l t = 0) : CallS Try.prog 52 [slS l, .agg (termsC t)]
    (.tup [.agg (ruleC (bRule t (bestUp (tryAt l t) 1001))), .int .i64 (bPrice (bestUp (tryAt l t) 1001)), .int .i64 (if (bestUp (tryAt l t) 1001).isSome = true then 0 else 11)]) := by
  have h1 := priced_c l t hl
  rw [hp] at h1
  simp only [slS, termsC] at h1
  obtain ⟨hf, h0, ht⟩ := pricedE_zero hp
  obtain ⟨tt1, tt2, tt3, tt4, tt5⟩ := termsB_true ht
  (refine callS_of_awp (fun w args => Try.call52 ..) Try.func52 rfl (fun w0 m0 wz => ?_); simp only [Try.ntmps52, Try.results52, initT, junks, ruleC, seasonC, slS, slX, termsC, spellC, sl, List.toList_toArray, List.cons_append, List.nil_append, List.length_cons, List.length_nil, Nat.reduceAdd, Nat.reduceSub])
  (repeat' (first
    | (refine awp_seqK ?_)
    | (refine kt ?_)
    | (refine And.intro ?_ ?_)
    | ((first | refine awp_region ?_ | refine awp_draw (by kernel_rfl) (by kernel_rfl) ?_ | refine Imp.le2 ?_ | refine awp_label ?_ | refine awp_skip ?_ | refine awp_exit ?_ | refine awp_cd ?_ | refine awp_ret ?_); simp (maxSteps := 4000000) only [go_sem, List.append_eq, List.cons_append, List.nil_append, Nat.reduceAdd, Nat.reduceMul, Nat.reduceSub, Nat.reduceLeDiff, Nat.reduceLT, Int.reduceAdd, Int.reduceToNat, Int.reduceLE, Int.reduceLT, Int.reduceNeg, reduceIte, ruleC, seasonC, slS, slX, termsC, spellC])
    | (intro _h)
    | (refine awp_block ?_)
    | (refine awp_scope ?_)
    | ((first | refine callK_of (h1) ?_); try simp (maxSteps := 4000000) only [go_sem, List.append_eq, List.cons_append, List.nil_append, Nat.reduceAdd, Nat.reduceMul, Nat.reduceSub, Nat.reduceLeDiff, Nat.reduceLT, Int.reduceAdd, Int.reduceToNat, Int.reduceLE, Int.reduceLT, Int.reduceNeg, reduceIte, ruleC, seasonC, slS, slX, termsC, spellC])
    | (refine go_split (fun _h => ?_) (fun _h => ?_) <;> simp (maxSteps := 4000000) only [go_sem, List.append_eq, List.cons_append, List.nil_append, Nat.reduceAdd, Nat.reduceMul, Nat.reduceSub, Nat.reduceLeDiff, Nat.reduceLT, Int.reduceAdd, Int.reduceToNat, Int.reduceLE, Int.reduceLT, Int.reduceNeg, reduceIte, ruleC, seasonC, slS, slX, termsC, spellC])
    | (show heapOK _ _ = true; kernel_rfl)
    | (omega)))
  refine awp_loopN 1001 (fun k => ⟨mkT 58 [(0, slS l), (3, .ptr 0 0 0), (4, .ptr 1 0 0), (5, .int .i64 (bPrice (bestUp (tryAt l t) k))), (8, .bool (bestUp (tryAt l t) k).isSome), (20, .int .i64 k)], [some (.cells 96 1 0 (termsC t)), some (.cells 34 1 0 (ruleC (bRule t (bestUp (tryAt l t) k))))], []⟩) (.le2 ?_) ?_
  · simp (maxSteps := 4000000) only [go_sem, List.append_eq, List.cons_append, List.nil_append, Nat.reduceAdd, Nat.reduceMul, Nat.reduceSub, Nat.reduceLeDiff, Nat.reduceLT, Int.reduceAdd, Int.reduceToNat, Int.reduceLE, Int.reduceLT, Int.reduceNeg, reduceIte, ruleC, seasonC, slS, slX, termsC, spellC]
    simp [bestUp, bPrice, bRule]
  · intro k hk
    have hs := up_succ (l := l) (t := t) (k := k)
    rcases Nat.lt_or_eq_of_le hk with hk | rfl
    · rw [hs]
      generalize bestUp (tryAt l t) k = b at *
      simp (maxSteps := 4000000) only [go_sem, List.append_eq, List.cons_append, List.nil_append, Nat.reduceAdd, Nat.reduceMul, Nat.reduceSub, Nat.reduceLeDiff, Nat.reduceLT, Int.reduceAdd, Int.reduceToNat, Int.reduceLE, Int.reduceLT, Int.reduceNeg, reduceIte, ruleC, seasonC, slS, slX, termsC, spellC]
      (repeat' (first
    | (refine awp_seqK ?_)
    | (refine kt ?_)
    | (refine And.intro ?_ ?_)
    | ((first | refine awp_region ?_ | refine awp_draw (by kernel_rfl) (by kernel_rfl) ?_ | refine Imp.le2 ?_ | refine awp_label ?_ | refine awp_skip ?_ | refine awp_exit ?_ | refine awp_cd ?_ | refine awp_ret ?_); simp (maxSteps := 4000000) only [go_sem, List.append_eq, List.cons_append, List.nil_append, Nat.reduceAdd, Nat.reduceMul, Nat.reduceSub, Nat.reduceLeDiff, Nat.reduceLT, Int.reduceAdd, Int.reduceToNat, Int.reduceLE, Int.reduceLT, Int.reduceNeg, reduceIte, ruleC, seasonC, slS, slX, termsC, spellC])
    | (intro _h)
    | (refine awp_block ?_)
    | (refine awp_scope ?_)
    | ((first | refine callK_of (total_c l t (ruleAt t k) (fitS_of hf) ht tt5) ?_ | refine callK_of (greatest_c _ _ _) ?_); try simp (maxSteps := 4000000) only [go_sem, List.append_eq, List.cons_append, List.nil_append, Nat.reduceAdd, Nat.reduceMul, Nat.reduceSub, Nat.reduceLeDiff, Nat.reduceLT, Int.reduceAdd, Int.reduceToNat, Int.reduceLE, Int.reduceLT, Int.reduceNeg, reduceIte, ruleC, seasonC, slS, slX, termsC, spellC])
    | (refine go_split (fun _h => ?_) (fun _h => ?_) <;> simp (maxSteps := 4000000) only [go_sem, List.append_eq, List.cons_append, List.nil_append, Nat.reduceAdd, Nat.reduceMul, Nat.reduceSub, Nat.reduceLeDiff, Nat.reduceLT, Int.reduceAdd, Int.reduceToNat, Int.reduceLE, Int.reduceLT, Int.reduceNeg, reduceIte, ruleC, seasonC, slS, slX, termsC, spellC])
    | (show heapOK _ _ = true; kernel_rfl)
    | (omega)))
      all_goals (first
        | omega
        | (cases b <;> simp_all [updB, bPrice, bRule, ruleAt]; done)
        | (cases b with
           | none => simp_all
           | some p => simp only [bPrice] at *; simp [updB, bPrice, bRule, *]; done)
        | trace "LEFT")
    · clear hs
      generalize bestUp (tryAt l t) 1001 = b at *
      cases b
      · simp (maxSteps := 4000000) only [go_sem, List.append_eq, List.cons_append, List.nil_append, Nat.reduceAdd, Nat.reduceMul, Nat.reduceSub, Nat.reduceLeDiff, Nat.reduceLT, Int.reduceAdd, Int.reduceToNat, Int.reduceLE, Int.reduceLT, Int.reduceNeg, reduceIte, ruleC, seasonC, slS, slX, termsC, spellC, bRule, bPrice, Option.isSome]
        (repeat' (first
    | (refine awp_seqK ?_)
    | (refine kt ?_)
    | (refine And.intro ?_ ?_)
    | ((first | refine awp_region ?_ | refine awp_draw (by kernel_rfl) (by kernel_rfl) ?_ | refine Imp.le2 ?_ | refine awp_label ?_ | refine awp_skip ?_ | refine awp_exit ?_ | refine awp_cd ?_ | refine awp_ret ?_); simp (maxSteps := 4000000) only [go_sem, List.append_eq, List.cons_append, List.nil_append, Nat.reduceAdd, Nat.reduceMul, Nat.reduceSub, Nat.reduceLeDiff, Nat.reduceLT, Int.reduceAdd, Int.reduceToNat, Int.reduceLE, Int.reduceLT, Int.reduceNeg, reduceIte, ruleC, seasonC, slS, slX, termsC, spellC])
    | (intro _h)
    | (refine awp_block ?_)
    | (refine awp_scope ?_)
    | (refine go_split (fun _h => ?_) (fun _h => ?_) <;> simp (maxSteps := 4000000) only [go_sem, List.append_eq, List.cons_append, List.nil_append, Nat.reduceAdd, Nat.reduceMul, Nat.reduceSub, Nat.reduceLeDiff, Nat.reduceLT, Int.reduceAdd, Int.reduceToNat, Int.reduceLE, Int.reduceLT, Int.reduceNeg, reduceIte, ruleC, seasonC, slS, slX, termsC, spellC])
    | (show heapOK _ _ = true; kernel_rfl)
    | (omega)))
        all_goals (first | (simp [avSub, subL]; done) | (cases _h; done))
      · simp (maxSteps := 4000000) only [go_sem, List.append_eq, List.cons_append, List.nil_append, Nat.reduceAdd, Nat.reduceMul, Nat.reduceSub, Nat.reduceLeDiff, Nat.reduceLT, Int.reduceAdd, Int.reduceToNat, Int.reduceLE, Int.reduceLT, Int.reduceNeg, reduceIte, ruleC, seasonC, slS, slX, termsC, spellC, bRule, bPrice, Option.isSome]
        (repeat' (first
    | (refine awp_seqK ?_)
    | (refine kt ?_)
    | (refine And.intro ?_ ?_)
    | ((first | refine awp_region ?_ | refine awp_draw (by kernel_rfl) (by kernel_rfl) ?_ | refine Imp.le2 ?_ | refine awp_label ?_ | refine awp_skip ?_ | refine awp_exit ?_ | refine awp_cd ?_ | refine awp_ret ?_); simp (maxSteps := 4000000) only [go_sem, List.append_eq, List.cons_append, List.nil_append, Nat.reduceAdd, Nat.reduceMul, Nat.reduceSub, Nat.reduceLeDiff, Nat.reduceLT, Int.reduceAdd, Int.reduceToNat, Int.reduceLE, Int.reduceLT, Int.reduceNeg, reduceIte, ruleC, seasonC, slS, slX, termsC, spellC])
    | (intro _h)
    | (refine awp_block ?_)
    | (refine awp_scope ?_)
    | (refine go_split (fun _h => ?_) (fun _h => ?_) <;> simp (maxSteps := 4000000) only [go_sem, List.append_eq, List.cons_append, List.nil_append, Nat.reduceAdd, Nat.reduceMul, Nat.reduceSub, Nat.reduceLeDiff, Nat.reduceLT, Int.reduceAdd, Int.reduceToNat, Int.reduceLE, Int.reduceLT, Int.reduceNeg, reduceIte, ruleC, seasonC, slS, slX, termsC, spellC])
    | (show heapOK _ _ = true; kernel_rfl)
    | (omega)))
        all_goals (first | (simp [avSub, subL]; done) | (cases _h; done))
theorem bestB_c (l : List Season) (t : Terms) (hl : okS l) (hp : ¬ pricedE l t = 0) : CallS Try.prog 52 [slS l, .agg (termsC t)]
    (.tup [.agg (ruleC ⟨0, 0, 0⟩), .int .i64 0, .int .i64 (pricedE l t)]) := by
  have h1 := priced_c l t hl
  simp only [slS, termsC] at h1
  (refine callS_of_awp (fun w args => Try.call52 ..) Try.func52 rfl (fun w0 m0 wz => ?_); simp only [Try.ntmps52, Try.results52, initT, junks, ruleC, seasonC, slS, slX, termsC, spellC, sl, List.toList_toArray, List.cons_append, List.nil_append, List.length_cons, List.length_nil, Nat.reduceAdd, Nat.reduceSub])
  (repeat' (first
    | (refine awp_seqK ?_)
    | (refine kt ?_)
    | (refine And.intro ?_ ?_)
    | ((first | refine awp_region ?_ | refine awp_draw (by kernel_rfl) (by kernel_rfl) ?_ | refine Imp.le2 ?_ | refine awp_label ?_ | refine awp_skip ?_ | refine awp_exit ?_ | refine awp_cd ?_ | refine awp_ret ?_); simp (maxSteps := 4000000) only [go_sem, List.append_eq, List.cons_append, List.nil_append, Nat.reduceAdd, Nat.reduceMul, Nat.reduceSub, Nat.reduceLeDiff, Nat.reduceLT, Int.reduceAdd, Int.reduceToNat, Int.reduceLE, Int.reduceLT, Int.reduceNeg, reduceIte, ruleC, seasonC, slS, slX, termsC, spellC])
    | (intro _h)
    | (refine awp_block ?_)
    | (refine awp_scope ?_)
    | ((first | refine callK_of (h1) ?_); try simp (maxSteps := 4000000) only [go_sem, List.append_eq, List.cons_append, List.nil_append, Nat.reduceAdd, Nat.reduceMul, Nat.reduceSub, Nat.reduceLeDiff, Nat.reduceLT, Int.reduceAdd, Int.reduceToNat, Int.reduceLE, Int.reduceLT, Int.reduceNeg, reduceIte, ruleC, seasonC, slS, slX, termsC, spellC])
    | (refine go_split (fun _h => ?_) (fun _h => ?_) <;> simp (maxSteps := 4000000) only [go_sem, List.append_eq, List.cons_append, List.nil_append, Nat.reduceAdd, Nat.reduceMul, Nat.reduceSub, Nat.reduceLeDiff, Nat.reduceLT, Int.reduceAdd, Int.reduceToNat, Int.reduceLE, Int.reduceLT, Int.reduceNeg, reduceIte, ruleC, seasonC, slS, slX, termsC, spellC])
    | (show heapOK _ _ = true; kernel_rfl)
    | (omega)))
  all_goals (first | (simp [avSub, subL]; done) | (cases _h; done))
theorem refBest_c (l : List Season) (t : Terms) (hf : fitS l) (ht : termsB t = true) : CallS Try.prog 53 [slS l, .agg (termsC t)]
    (.tup [.agg (ruleC (bRule t (bestUp (tryAt l t) 1001))), .int .i64 (bPrice (bestUp (tryAt l t) 1001)), .bool (bestUp (tryAt l t) 1001).isSome]) := by
  obtain ⟨tt1, tt2, tt3, tt4, tt5⟩ := termsB_true ht
  rw [best_same]
  (refine callS_of_awp (fun w args => Try.call53 ..) Try.func53 rfl (fun w0 m0 wz => ?_); simp only [Try.ntmps53, Try.results53, initT, junks, ruleC, seasonC, slS, slX, termsC, spellC, sl, List.toList_toArray, List.cons_append, List.nil_append, List.length_cons, List.length_nil, Nat.reduceAdd, Nat.reduceSub])
  (repeat' (first
    | (refine awp_seqK ?_)
    | (refine kt ?_)
    | (refine And.intro ?_ ?_)
    | ((first | refine awp_region ?_ | refine awp_draw (by kernel_rfl) (by kernel_rfl) ?_ | refine Imp.le2 ?_ | refine awp_label ?_ | refine awp_skip ?_ | refine awp_exit ?_ | refine awp_cd ?_ | refine awp_ret ?_); simp (maxSteps := 4000000) only [go_sem, List.append_eq, List.cons_append, List.nil_append, Nat.reduceAdd, Nat.reduceMul, Nat.reduceSub, Nat.reduceLeDiff, Nat.reduceLT, Int.reduceAdd, Int.reduceToNat, Int.reduceLE, Int.reduceLT, Int.reduceNeg, reduceIte, ruleC, seasonC, slS, slX, termsC, spellC])
    | (intro _h)
    | (refine awp_block ?_)
    | (refine awp_scope ?_)
    | (refine go_split (fun _h => ?_) (fun _h => ?_) <;> simp (maxSteps := 4000000) only [go_sem, List.append_eq, List.cons_append, List.nil_append, Nat.reduceAdd, Nat.reduceMul, Nat.reduceSub, Nat.reduceLeDiff, Nat.reduceLT, Int.reduceAdd, Int.reduceToNat, Int.reduceLE, Int.reduceLT, Int.reduceNeg, reduceIte, ruleC, seasonC, slS, slX, termsC, spellC])
    | (show heapOK _ _ = true; kernel_rfl)
    | (omega)))
  refine awp_loopN 1001 (fun k => ⟨mkT 50 [(0, slS l), (3, .ptr 0 0 0), (4, .ptr 1 0 0), (7, .ptr 2 0 0), (8, .int .i64 (bPrice (bestDn (tryAt l t) 1001 k))), (9, .bool (bestDn (tryAt l t) 1001 k).isSome), (10, .int .i64 (1000 - (k : Int)))], [some (.cells 90 1 0 (termsC t)), some (.cells 26 1 0 [.int .i64 0, .int .i64 0, .int .i64 0]), some (.cells 26 1 0 (ruleC (bRule t (bestDn (tryAt l t) 1001 k))))], []⟩) (.le2 ?_) ?_
  · simp (maxSteps := 4000000) only [go_sem, List.append_eq, List.cons_append, List.nil_append, Nat.reduceAdd, Nat.reduceMul, Nat.reduceSub, Nat.reduceLeDiff, Nat.reduceLT, Int.reduceAdd, Int.reduceToNat, Int.reduceLE, Int.reduceLT, Int.reduceNeg, reduceIte, ruleC, seasonC, slS, slX, termsC, spellC]
    simp [bestDn, bPrice, bRule]
  · intro k hk
    have hs := dn_succ (l := l) (t := t) (N := 1001) (k := k)
    rcases Nat.lt_or_eq_of_le hk with hk | rfl
    · rw [hs]
      have e : (1000 : Int) - k = ((1001 - 1 - k : Nat) : Int) := by omega
      rw [e]
      generalize 1001 - 1 - k = s at *
      generalize bestDn (tryAt l t) 1001 k = b at *
      have es : (1000 : Int) - ((k + 1 : Nat) : Int) = s - 1 := by omega
      rw [es]
      simp (maxSteps := 4000000) only [go_sem, List.append_eq, List.cons_append, List.nil_append, Nat.reduceAdd, Nat.reduceMul, Nat.reduceSub, Nat.reduceLeDiff, Nat.reduceLT, Int.reduceAdd, Int.reduceToNat, Int.reduceLE, Int.reduceLT, Int.reduceNeg, reduceIte, ruleC, seasonC, slS, slX, termsC, spellC]
      (repeat' (first
    | (refine awp_seqK ?_)
    | (refine kt ?_)
    | (refine And.intro ?_ ?_)
    | ((first | refine awp_region ?_ | refine awp_draw (by kernel_rfl) (by kernel_rfl) ?_ | refine Imp.le2 ?_ | refine awp_label ?_ | refine awp_skip ?_ | refine awp_exit ?_ | refine awp_cd ?_ | refine awp_ret ?_); simp (maxSteps := 4000000) only [go_sem, List.append_eq, List.cons_append, List.nil_append, Nat.reduceAdd, Nat.reduceMul, Nat.reduceSub, Nat.reduceLeDiff, Nat.reduceLT, Int.reduceAdd, Int.reduceToNat, Int.reduceLE, Int.reduceLT, Int.reduceNeg, reduceIte, ruleC, seasonC, slS, slX, termsC, spellC])
    | (intro _h)
    | (refine awp_block ?_)
    | (refine awp_scope ?_)
    | ((first | refine callK_of (refPrice_c l t (ruleAt t s) hf ht tt5) ?_ | refine callK_of (greatest_c _ _ _) ?_); try simp (maxSteps := 4000000) only [go_sem, List.append_eq, List.cons_append, List.nil_append, Nat.reduceAdd, Nat.reduceMul, Nat.reduceSub, Nat.reduceLeDiff, Nat.reduceLT, Int.reduceAdd, Int.reduceToNat, Int.reduceLE, Int.reduceLT, Int.reduceNeg, reduceIte, ruleC, seasonC, slS, slX, termsC, spellC])
    | (refine go_split (fun _h => ?_) (fun _h => ?_) <;> simp (maxSteps := 4000000) only [go_sem, List.append_eq, List.cons_append, List.nil_append, Nat.reduceAdd, Nat.reduceMul, Nat.reduceSub, Nat.reduceLeDiff, Nat.reduceLT, Int.reduceAdd, Int.reduceToNat, Int.reduceLE, Int.reduceLT, Int.reduceNeg, reduceIte, ruleC, seasonC, slS, slX, termsC, spellC])
    | (show heapOK _ _ = true; kernel_rfl)
    | (omega)))
      all_goals (first
        | omega
        | (cases b <;> simp_all [updB, bPrice, bRule, ruleAt]; done)
        | (cases b with
           | none => simp_all
           | some p => simp only [bPrice] at *; simp [updB, bPrice, bRule, *]; done)
        | trace "LEFT")
    · clear hs
      generalize bestDn (tryAt l t) 1001 1001 = b at *
      cases b
      · simp (maxSteps := 4000000) only [go_sem, List.append_eq, List.cons_append, List.nil_append, Nat.reduceAdd, Nat.reduceMul, Nat.reduceSub, Nat.reduceLeDiff, Nat.reduceLT, Int.reduceAdd, Int.reduceToNat, Int.reduceLE, Int.reduceLT, Int.reduceNeg, reduceIte, ruleC, seasonC, slS, slX, termsC, spellC, bRule, bPrice, Option.isSome]
        (repeat' (first
    | (refine awp_seqK ?_)
    | (refine kt ?_)
    | (refine And.intro ?_ ?_)
    | ((first | refine awp_region ?_ | refine awp_draw (by kernel_rfl) (by kernel_rfl) ?_ | refine Imp.le2 ?_ | refine awp_label ?_ | refine awp_skip ?_ | refine awp_exit ?_ | refine awp_cd ?_ | refine awp_ret ?_); simp (maxSteps := 4000000) only [go_sem, List.append_eq, List.cons_append, List.nil_append, Nat.reduceAdd, Nat.reduceMul, Nat.reduceSub, Nat.reduceLeDiff, Nat.reduceLT, Int.reduceAdd, Int.reduceToNat, Int.reduceLE, Int.reduceLT, Int.reduceNeg, reduceIte, ruleC, seasonC, slS, slX, termsC, spellC])
    | (intro _h)
    | (refine awp_block ?_)
    | (refine awp_scope ?_)
    | (refine go_split (fun _h => ?_) (fun _h => ?_) <;> simp (maxSteps := 4000000) only [go_sem, List.append_eq, List.cons_append, List.nil_append, Nat.reduceAdd, Nat.reduceMul, Nat.reduceSub, Nat.reduceLeDiff, Nat.reduceLT, Int.reduceAdd, Int.reduceToNat, Int.reduceLE, Int.reduceLT, Int.reduceNeg, reduceIte, ruleC, seasonC, slS, slX, termsC, spellC])
    | (show heapOK _ _ = true; kernel_rfl)
    | (omega)))
        all_goals (first | (simp [avSub, subL]; done) | (cases _h; done))
      · simp (maxSteps := 4000000) only [go_sem, List.append_eq, List.cons_append, List.nil_append, Nat.reduceAdd, Nat.reduceMul, Nat.reduceSub, Nat.reduceLeDiff, Nat.reduceLT, Int.reduceAdd, Int.reduceToNat, Int.reduceLE, Int.reduceLT, Int.reduceNeg, reduceIte, ruleC, seasonC, slS, slX, termsC, spellC, bRule, bPrice, Option.isSome]
        (repeat' (first
    | (refine awp_seqK ?_)
    | (refine kt ?_)
    | (refine And.intro ?_ ?_)
    | ((first | refine awp_region ?_ | refine awp_draw (by kernel_rfl) (by kernel_rfl) ?_ | refine Imp.le2 ?_ | refine awp_label ?_ | refine awp_skip ?_ | refine awp_exit ?_ | refine awp_cd ?_ | refine awp_ret ?_); simp (maxSteps := 4000000) only [go_sem, List.append_eq, List.cons_append, List.nil_append, Nat.reduceAdd, Nat.reduceMul, Nat.reduceSub, Nat.reduceLeDiff, Nat.reduceLT, Int.reduceAdd, Int.reduceToNat, Int.reduceLE, Int.reduceLT, Int.reduceNeg, reduceIte, ruleC, seasonC, slS, slX, termsC, spellC])
    | (intro _h)
    | (refine awp_block ?_)
    | (refine awp_scope ?_)
    | (refine go_split (fun _h => ?_) (fun _h => ?_) <;> simp (maxSteps := 4000000) only [go_sem, List.append_eq, List.cons_append, List.nil_append, Nat.reduceAdd, Nat.reduceMul, Nat.reduceSub, Nat.reduceLeDiff, Nat.reduceLT, Int.reduceAdd, Int.reduceToNat, Int.reduceLE, Int.reduceLT, Int.reduceNeg, reduceIte, ruleC, seasonC, slS, slX, termsC, spellC])
    | (show heapOK _ _ = true; kernel_rfl)
    | (omega)))
        all_goals (first | (simp [avSub, subL]; done) | (cases _h; done))
end Go.Am

/- The laws AlarmPrices, AlarmBests and AlarmLeast, as contracts: they return true. -/
namespace Go.Am
open Go.RowKit Go.Proofs
attribute [local irreducible] AWP CallS Kt goK CallK stepK evOps
set_option maxRecDepth 4000
set_option linter.unusedSimpArgs false
set_option linter.unusedVariables false
set_option maxHeartbeats 800000

theorem shortB_true {l : List Season} (h : shortB l = true) : l.length ≤ 12 ∧ ∀ i, i < l.length → (l.getD i default).speeds.length ≤ 65 := by
  unfold shortB at h
  rw [Bool.and_eq_true, decide_eq_true_eq, List.all_eq_true] at h
  refine ⟨h.1, fun i hi => ?_⟩
  have := h.2 l[i] (List.getElem_mem hi)
  rw [show l.getD i default = l[i] by simp [List.getD_eq_getElem?_getD, hi]]
  simpa using this
theorem Seasons_s {l : List Season} (h : shortB l = true) : CallS Try.prog 48 [slS l] (slS l) := by
  obtain ⟨h1, h2⟩ := shortB_true h
  exact Seasons_c l (by omega) (fun i hi => by have := h2 i hi; omega)
theorem PriceA_c {l : List Season} {t : Terms} {r : Rule} (hl : okS l) (hp : pricedE l t = 0) (hr : ruleB r = true) :
    CallS Try.prog 47 [slS l, .agg (termsC t), .agg (ruleC r)] (.tup [.int .i64 (totalP l t r), .bool (totalI l t r), .int .i64 0]) := by
  have := Price_c l t r hl
  simpa only [hp, hr, and_self, if_true, decide_true, Bool.true_and] using this
theorem PriceB_c {l : List Season} {t : Terms} {r : Rule} (hl : okS l) (hp : pricedE l t = 0) (hr : ruleB r = false) :
    CallS Try.prog 47 [slS l, .agg (termsC t), .agg (ruleC r)] (.tup [.int .i64 0, .bool false, .int .i64 2]) := by
  have := Price_c l t r hl
  simpa only [hp, hr, and_false, Bool.false_eq_true, if_true, if_false, decide_false, Bool.false_and] using this
theorem PriceC_c {l : List Season} {t : Terms} {r : Rule} (hl : okS l) (hp : ¬ pricedE l t = 0) :
    CallS Try.prog 47 [slS l, .agg (termsC t), .agg (ruleC r)] (.tup [.int .i64 0, .bool false, .int .i64 (pricedE l t)]) := by
  have := Price_c l t r hl
  simpa only [hp, false_and, if_false, decide_false, Bool.false_and] using this

theorem alarmPrices_c (l : List Season) (t : Terms) (r : Rule) (hl : okS l) : CallS Try.prog 12 [slS l, .agg (termsC t), .agg (ruleC r)] (.bool true) := by
  have k1 := short_c l hl
  have k2 := lawPriced_c l t hl
  have k3 := rightRule_c r
  simp only [slS, termsC, ruleC] at k1 k2 k3
  cases hs : shortB l
  · rw [hs] at k1
    (refine callS_of_awp (fun w args => Try.call12 ..) Try.func12 rfl (fun w0 m0 wz => ?_); simp only [Try.ntmps12, Try.results12, initT, junks, ruleC, seasonC, slS, slX, termsC, spellC, sl, List.toList_toArray, List.cons_append, List.nil_append, List.length_cons, List.length_nil, Nat.reduceAdd, Nat.reduceSub])
    (repeat' (first
    | (refine awp_seqK ?_)
    | (refine kt ?_)
    | (refine And.intro ?_ ?_)
    | ((first | refine awp_region ?_ | refine awp_draw (by kernel_rfl) (by kernel_rfl) ?_ | refine Imp.le2 ?_ | refine awp_label ?_ | refine awp_skip ?_ | refine awp_exit ?_ | refine awp_cd ?_ | refine awp_ret ?_); simp (maxSteps := 4000000) only [go_sem, List.append_eq, List.cons_append, List.nil_append, Nat.reduceAdd, Nat.reduceMul, Nat.reduceSub, Nat.reduceLeDiff, Nat.reduceLT, Int.reduceAdd, Int.reduceToNat, Int.reduceLE, Int.reduceLT, Int.reduceNeg, reduceIte, ruleC, seasonC, slS, slX, termsC, spellC])
    | (intro _h)
    | (refine awp_block ?_)
    | (refine awp_scope ?_)
    | ((first | refine callK_of (awake_c) ?_ | refine callK_of (k1) ?_); try simp (maxSteps := 4000000) only [go_sem, List.append_eq, List.cons_append, List.nil_append, Nat.reduceAdd, Nat.reduceMul, Nat.reduceSub, Nat.reduceLeDiff, Nat.reduceLT, Int.reduceAdd, Int.reduceToNat, Int.reduceLE, Int.reduceLT, Int.reduceNeg, reduceIte, ruleC, seasonC, slS, slX, termsC, spellC])
    | (refine go_split (fun _h => ?_) (fun _h => ?_) <;> simp (maxSteps := 4000000) only [go_sem, List.append_eq, List.cons_append, List.nil_append, Nat.reduceAdd, Nat.reduceMul, Nat.reduceSub, Nat.reduceLeDiff, Nat.reduceLT, Int.reduceAdd, Int.reduceToNat, Int.reduceLE, Int.reduceLT, Int.reduceNeg, reduceIte, ruleC, seasonC, slS, slX, termsC, spellC])
    | (show heapOK _ _ = true; kernel_rfl)
    | (omega)))
  · rw [hs] at k1
    by_cases hp : pricedE l t = 0
    · obtain ⟨hf, h0, ht⟩ := pricedE_zero hp
      rw [hp] at k2
      cases hr : ruleB r
      · rw [hr] at k3
        (refine callS_of_awp (fun w args => Try.call12 ..) Try.func12 rfl (fun w0 m0 wz => ?_); simp only [Try.ntmps12, Try.results12, initT, junks, ruleC, seasonC, slS, slX, termsC, spellC, sl, List.toList_toArray, List.cons_append, List.nil_append, List.length_cons, List.length_nil, Nat.reduceAdd, Nat.reduceSub])
        (repeat' (first
    | (refine awp_seqK ?_)
    | (refine kt ?_)
    | (refine And.intro ?_ ?_)
    | ((first | refine awp_region ?_ | refine awp_draw (by kernel_rfl) (by kernel_rfl) ?_ | refine Imp.le2 ?_ | refine awp_label ?_ | refine awp_skip ?_ | refine awp_exit ?_ | refine awp_cd ?_ | refine awp_ret ?_); simp (maxSteps := 4000000) only [go_sem, List.append_eq, List.cons_append, List.nil_append, Nat.reduceAdd, Nat.reduceMul, Nat.reduceSub, Nat.reduceLeDiff, Nat.reduceLT, Int.reduceAdd, Int.reduceToNat, Int.reduceLE, Int.reduceLT, Int.reduceNeg, reduceIte, ruleC, seasonC, slS, slX, termsC, spellC])
    | (intro _h)
    | (refine awp_block ?_)
    | (refine awp_scope ?_)
    | ((first | refine callK_of (awake_c) ?_ | refine callK_of (k1) ?_ | refine callK_of (k2) ?_ | refine callK_of (k3) ?_ | refine callK_of (Seasons_s hs) ?_ | refine callK_of (Terms_c _) ?_ | refine callK_of (Rule_c _) ?_ | refine callK_of (PriceB_c hl hp hr) ?_); try simp (maxSteps := 4000000) only [go_sem, List.append_eq, List.cons_append, List.nil_append, Nat.reduceAdd, Nat.reduceMul, Nat.reduceSub, Nat.reduceLeDiff, Nat.reduceLT, Int.reduceAdd, Int.reduceToNat, Int.reduceLE, Int.reduceLT, Int.reduceNeg, reduceIte, ruleC, seasonC, slS, slX, termsC, spellC])
    | (refine go_split (fun _h => ?_) (fun _h => ?_) <;> simp (maxSteps := 4000000) only [go_sem, List.append_eq, List.cons_append, List.nil_append, Nat.reduceAdd, Nat.reduceMul, Nat.reduceSub, Nat.reduceLeDiff, Nat.reduceLT, Int.reduceAdd, Int.reduceToNat, Int.reduceLE, Int.reduceLT, Int.reduceNeg, reduceIte, ruleC, seasonC, slS, slX, termsC, spellC])
    | (show heapOK _ _ = true; kernel_rfl)
    | (omega)))
      · rw [hr] at k3
        (refine callS_of_awp (fun w args => Try.call12 ..) Try.func12 rfl (fun w0 m0 wz => ?_); simp only [Try.ntmps12, Try.results12, initT, junks, ruleC, seasonC, slS, slX, termsC, spellC, sl, List.toList_toArray, List.cons_append, List.nil_append, List.length_cons, List.length_nil, Nat.reduceAdd, Nat.reduceSub])
        (repeat' (first
    | (refine awp_seqK ?_)
    | (refine kt ?_)
    | (refine And.intro ?_ ?_)
    | ((first | refine awp_region ?_ | refine awp_draw (by kernel_rfl) (by kernel_rfl) ?_ | refine Imp.le2 ?_ | refine awp_label ?_ | refine awp_skip ?_ | refine awp_exit ?_ | refine awp_cd ?_ | refine awp_ret ?_); simp (maxSteps := 4000000) only [go_sem, List.append_eq, List.cons_append, List.nil_append, Nat.reduceAdd, Nat.reduceMul, Nat.reduceSub, Nat.reduceLeDiff, Nat.reduceLT, Int.reduceAdd, Int.reduceToNat, Int.reduceLE, Int.reduceLT, Int.reduceNeg, reduceIte, ruleC, seasonC, slS, slX, termsC, spellC])
    | (intro _h)
    | (refine awp_block ?_)
    | (refine awp_scope ?_)
    | ((first | refine callK_of (awake_c) ?_ | refine callK_of (k1) ?_ | refine callK_of (k2) ?_ | refine callK_of (k3) ?_ | refine callK_of (Seasons_s hs) ?_ | refine callK_of (Terms_c _) ?_ | refine callK_of (Rule_c _) ?_ | refine callK_of (PriceA_c hl hp hr) ?_ | refine callK_of (refPrice_c _ _ _ (fitS_of hf) ht (ruleB_true hr).2.2) ?_); try simp (maxSteps := 4000000) only [go_sem, List.append_eq, List.cons_append, List.nil_append, Nat.reduceAdd, Nat.reduceMul, Nat.reduceSub, Nat.reduceLeDiff, Nat.reduceLT, Int.reduceAdd, Int.reduceToNat, Int.reduceLE, Int.reduceLT, Int.reduceNeg, reduceIte, ruleC, seasonC, slS, slX, termsC, spellC])
    | (refine go_split (fun _h => ?_) (fun _h => ?_) <;> simp (maxSteps := 4000000) only [go_sem, List.append_eq, List.cons_append, List.nil_append, Nat.reduceAdd, Nat.reduceMul, Nat.reduceSub, Nat.reduceLeDiff, Nat.reduceLT, Int.reduceAdd, Int.reduceToNat, Int.reduceLE, Int.reduceLT, Int.reduceNeg, reduceIte, ruleC, seasonC, slS, slX, termsC, spellC])
    | (show heapOK _ _ = true; kernel_rfl)
    | (omega)))
        all_goals (simp_all; done)
    · (refine callS_of_awp (fun w args => Try.call12 ..) Try.func12 rfl (fun w0 m0 wz => ?_); simp only [Try.ntmps12, Try.results12, initT, junks, ruleC, seasonC, slS, slX, termsC, spellC, sl, List.toList_toArray, List.cons_append, List.nil_append, List.length_cons, List.length_nil, Nat.reduceAdd, Nat.reduceSub])
      (repeat' (first
    | (refine awp_seqK ?_)
    | (refine kt ?_)
    | (refine And.intro ?_ ?_)
    | ((first | refine awp_region ?_ | refine awp_draw (by kernel_rfl) (by kernel_rfl) ?_ | refine Imp.le2 ?_ | refine awp_label ?_ | refine awp_skip ?_ | refine awp_exit ?_ | refine awp_cd ?_ | refine awp_ret ?_); simp (maxSteps := 4000000) only [go_sem, List.append_eq, List.cons_append, List.nil_append, Nat.reduceAdd, Nat.reduceMul, Nat.reduceSub, Nat.reduceLeDiff, Nat.reduceLT, Int.reduceAdd, Int.reduceToNat, Int.reduceLE, Int.reduceLT, Int.reduceNeg, reduceIte, ruleC, seasonC, slS, slX, termsC, spellC])
    | (intro _h)
    | (refine awp_block ?_)
    | (refine awp_scope ?_)
    | ((first | refine callK_of (awake_c) ?_ | refine callK_of (k1) ?_ | refine callK_of (k2) ?_ | refine callK_of (Seasons_s hs) ?_ | refine callK_of (Terms_c _) ?_ | refine callK_of (Rule_c _) ?_ | refine callK_of (PriceC_c hl hp) ?_); try simp (maxSteps := 4000000) only [go_sem, List.append_eq, List.cons_append, List.nil_append, Nat.reduceAdd, Nat.reduceMul, Nat.reduceSub, Nat.reduceLeDiff, Nat.reduceLT, Int.reduceAdd, Int.reduceToNat, Int.reduceLE, Int.reduceLT, Int.reduceNeg, reduceIte, ruleC, seasonC, slS, slX, termsC, spellC])
    | (refine go_split (fun _h => ?_) (fun _h => ?_) <;> simp (maxSteps := 4000000) only [go_sem, List.append_eq, List.cons_append, List.nil_append, Nat.reduceAdd, Nat.reduceMul, Nat.reduceSub, Nat.reduceLeDiff, Nat.reduceLT, Int.reduceAdd, Int.reduceToNat, Int.reduceLE, Int.reduceLT, Int.reduceNeg, reduceIte, ruleC, seasonC, slS, slX, termsC, spellC])
    | (show heapOK _ _ = true; kernel_rfl)
    | (omega)))
      all_goals (try contradiction)

theorem alarmBests_c (l : List Season) (t : Terms) (hl : okS l) : CallS Try.prog 13 [slS l, .agg (termsC t)] (.bool true) := by
  have k1 := short_c l hl
  have k2 := lawPriced_c l t hl
  simp only [slS, termsC] at k1 k2
  cases hs : shortB l
  · rw [hs] at k1
    (refine callS_of_awp (fun w args => Try.call13 ..) Try.func13 rfl (fun w0 m0 wz => ?_); simp only [Try.ntmps13, Try.results13, initT, junks, ruleC, seasonC, slS, slX, termsC, spellC, sl, List.toList_toArray, List.cons_append, List.nil_append, List.length_cons, List.length_nil, Nat.reduceAdd, Nat.reduceSub])
    (repeat' (first
    | (refine awp_seqK ?_)
    | (refine kt ?_)
    | (refine And.intro ?_ ?_)
    | ((first | refine awp_region ?_ | refine awp_draw (by kernel_rfl) (by kernel_rfl) ?_ | refine Imp.le2 ?_ | refine awp_label ?_ | refine awp_skip ?_ | refine awp_exit ?_ | refine awp_cd ?_ | refine awp_ret ?_); simp (maxSteps := 4000000) only [go_sem, List.append_eq, List.cons_append, List.nil_append, Nat.reduceAdd, Nat.reduceMul, Nat.reduceSub, Nat.reduceLeDiff, Nat.reduceLT, Int.reduceAdd, Int.reduceToNat, Int.reduceLE, Int.reduceLT, Int.reduceNeg, reduceIte, ruleC, seasonC, slS, slX, termsC, spellC])
    | (intro _h)
    | (refine awp_block ?_)
    | (refine awp_scope ?_)
    | ((first | refine callK_of (awake_c) ?_ | refine callK_of (k1) ?_); try simp (maxSteps := 4000000) only [go_sem, List.append_eq, List.cons_append, List.nil_append, Nat.reduceAdd, Nat.reduceMul, Nat.reduceSub, Nat.reduceLeDiff, Nat.reduceLT, Int.reduceAdd, Int.reduceToNat, Int.reduceLE, Int.reduceLT, Int.reduceNeg, reduceIte, ruleC, seasonC, slS, slX, termsC, spellC])
    | (refine go_split (fun _h => ?_) (fun _h => ?_) <;> simp (maxSteps := 4000000) only [go_sem, List.append_eq, List.cons_append, List.nil_append, Nat.reduceAdd, Nat.reduceMul, Nat.reduceSub, Nat.reduceLeDiff, Nat.reduceLT, Int.reduceAdd, Int.reduceToNat, Int.reduceLE, Int.reduceLT, Int.reduceNeg, reduceIte, ruleC, seasonC, slS, slX, termsC, spellC])
    | (show heapOK _ _ = true; kernel_rfl)
    | (omega)))
  · rw [hs] at k1
    by_cases hp : pricedE l t = 0
    · obtain ⟨hf, h0, ht⟩ := pricedE_zero hp
      rw [hp] at k2
      have k3 := bestA_c l t hl hp
      have k4 := refBest_c l t (fitS_of hf) ht
      generalize bestUp (tryAt l t) 1001 = b at *
      cases b with
      | none =>
        simp only [bRule, bPrice, Option.isSome, reduceIte, Bool.false_eq_true, slS, termsC, ruleC] at k3 k4
        (refine callS_of_awp (fun w args => Try.call13 ..) Try.func13 rfl (fun w0 m0 wz => ?_); simp only [Try.ntmps13, Try.results13, initT, junks, ruleC, seasonC, slS, slX, termsC, spellC, sl, List.toList_toArray, List.cons_append, List.nil_append, List.length_cons, List.length_nil, Nat.reduceAdd, Nat.reduceSub])
        (repeat' (first
    | (refine awp_seqK ?_)
    | (refine kt ?_)
    | (refine And.intro ?_ ?_)
    | ((first | refine awp_region ?_ | refine awp_draw (by kernel_rfl) (by kernel_rfl) ?_ | refine Imp.le2 ?_ | refine awp_label ?_ | refine awp_skip ?_ | refine awp_exit ?_ | refine awp_cd ?_ | refine awp_ret ?_); simp (maxSteps := 4000000) only [go_sem, List.append_eq, List.cons_append, List.nil_append, Nat.reduceAdd, Nat.reduceMul, Nat.reduceSub, Nat.reduceLeDiff, Nat.reduceLT, Int.reduceAdd, Int.reduceToNat, Int.reduceLE, Int.reduceLT, Int.reduceNeg, reduceIte, ruleC, seasonC, slS, slX, termsC, spellC])
    | (intro _h)
    | (refine awp_block ?_)
    | (refine awp_scope ?_)
    | ((first | refine callK_of (awake_c) ?_ | refine callK_of (k1) ?_ | refine callK_of (k2) ?_ | refine callK_of (Seasons_s hs) ?_ | refine callK_of (Terms_c _) ?_ | refine callK_of (Rule_c _) ?_ | refine callK_of (k3) ?_ | refine callK_of (k4) ?_); try simp (maxSteps := 4000000) only [go_sem, List.append_eq, List.cons_append, List.nil_append, Nat.reduceAdd, Nat.reduceMul, Nat.reduceSub, Nat.reduceLeDiff, Nat.reduceLT, Int.reduceAdd, Int.reduceToNat, Int.reduceLE, Int.reduceLT, Int.reduceNeg, reduceIte, ruleC, seasonC, slS, slX, termsC, spellC])
    | (refine go_split (fun _h => ?_) (fun _h => ?_) <;> simp (maxSteps := 4000000) only [go_sem, List.append_eq, List.cons_append, List.nil_append, Nat.reduceAdd, Nat.reduceMul, Nat.reduceSub, Nat.reduceLeDiff, Nat.reduceLT, Int.reduceAdd, Int.reduceToNat, Int.reduceLE, Int.reduceLT, Int.reduceNeg, reduceIte, ruleC, seasonC, slS, slX, termsC, spellC])
    | (show heapOK _ _ = true; kernel_rfl)
    | (omega)))
      | some p =>
        simp only [bRule, bPrice, Option.isSome, reduceIte, slS, termsC, ruleC] at k3 k4
        (refine callS_of_awp (fun w args => Try.call13 ..) Try.func13 rfl (fun w0 m0 wz => ?_); simp only [Try.ntmps13, Try.results13, initT, junks, ruleC, seasonC, slS, slX, termsC, spellC, sl, List.toList_toArray, List.cons_append, List.nil_append, List.length_cons, List.length_nil, Nat.reduceAdd, Nat.reduceSub])
        (repeat' (first
    | (refine awp_seqK ?_)
    | (refine kt ?_)
    | (refine And.intro ?_ ?_)
    | ((first | refine awp_region ?_ | refine awp_draw (by kernel_rfl) (by kernel_rfl) ?_ | refine Imp.le2 ?_ | refine awp_label ?_ | refine awp_skip ?_ | refine awp_exit ?_ | refine awp_cd ?_ | refine awp_ret ?_); simp (maxSteps := 4000000) only [go_sem, List.append_eq, List.cons_append, List.nil_append, Nat.reduceAdd, Nat.reduceMul, Nat.reduceSub, Nat.reduceLeDiff, Nat.reduceLT, Int.reduceAdd, Int.reduceToNat, Int.reduceLE, Int.reduceLT, Int.reduceNeg, reduceIte, ruleC, seasonC, slS, slX, termsC, spellC])
    | (intro _h)
    | (refine awp_block ?_)
    | (refine awp_scope ?_)
    | ((first | refine callK_of (awake_c) ?_ | refine callK_of (k1) ?_ | refine callK_of (k2) ?_ | refine callK_of (Seasons_s hs) ?_ | refine callK_of (Terms_c _) ?_ | refine callK_of (Rule_c (ruleAt t p.1)) ?_ | refine callK_of (k3) ?_ | refine callK_of (k4) ?_); try simp (maxSteps := 4000000) only [go_sem, List.append_eq, List.cons_append, List.nil_append, Nat.reduceAdd, Nat.reduceMul, Nat.reduceSub, Nat.reduceLeDiff, Nat.reduceLT, Int.reduceAdd, Int.reduceToNat, Int.reduceLE, Int.reduceLT, Int.reduceNeg, reduceIte, ruleC, seasonC, slS, slX, termsC, spellC])
    | (refine go_split (fun _h => ?_) (fun _h => ?_) <;> simp (maxSteps := 4000000) only [go_sem, List.append_eq, List.cons_append, List.nil_append, Nat.reduceAdd, Nat.reduceMul, Nat.reduceSub, Nat.reduceLeDiff, Nat.reduceLT, Int.reduceAdd, Int.reduceToNat, Int.reduceLE, Int.reduceLT, Int.reduceNeg, reduceIte, ruleC, seasonC, slS, slX, termsC, spellC])
    | (show heapOK _ _ = true; kernel_rfl)
    | (omega)))
    · have k3 := bestB_c l t hl hp
      simp only [slS, termsC, ruleC] at k3
      (refine callS_of_awp (fun w args => Try.call13 ..) Try.func13 rfl (fun w0 m0 wz => ?_); simp only [Try.ntmps13, Try.results13, initT, junks, ruleC, seasonC, slS, slX, termsC, spellC, sl, List.toList_toArray, List.cons_append, List.nil_append, List.length_cons, List.length_nil, Nat.reduceAdd, Nat.reduceSub])
      (repeat' (first
    | (refine awp_seqK ?_)
    | (refine kt ?_)
    | (refine And.intro ?_ ?_)
    | ((first | refine awp_region ?_ | refine awp_draw (by kernel_rfl) (by kernel_rfl) ?_ | refine Imp.le2 ?_ | refine awp_label ?_ | refine awp_skip ?_ | refine awp_exit ?_ | refine awp_cd ?_ | refine awp_ret ?_); simp (maxSteps := 4000000) only [go_sem, List.append_eq, List.cons_append, List.nil_append, Nat.reduceAdd, Nat.reduceMul, Nat.reduceSub, Nat.reduceLeDiff, Nat.reduceLT, Int.reduceAdd, Int.reduceToNat, Int.reduceLE, Int.reduceLT, Int.reduceNeg, reduceIte, ruleC, seasonC, slS, slX, termsC, spellC])
    | (intro _h)
    | (refine awp_block ?_)
    | (refine awp_scope ?_)
    | ((first | refine callK_of (awake_c) ?_ | refine callK_of (k1) ?_ | refine callK_of (k2) ?_ | refine callK_of (Seasons_s hs) ?_ | refine callK_of (Terms_c _) ?_ | refine callK_of (k3) ?_); try simp (maxSteps := 4000000) only [go_sem, List.append_eq, List.cons_append, List.nil_append, Nat.reduceAdd, Nat.reduceMul, Nat.reduceSub, Nat.reduceLeDiff, Nat.reduceLT, Int.reduceAdd, Int.reduceToNat, Int.reduceLE, Int.reduceLT, Int.reduceNeg, reduceIte, ruleC, seasonC, slS, slX, termsC, spellC])
    | (refine go_split (fun _h => ?_) (fun _h => ?_) <;> simp (maxSteps := 4000000) only [go_sem, List.append_eq, List.cons_append, List.nil_append, Nat.reduceAdd, Nat.reduceMul, Nat.reduceSub, Nat.reduceLeDiff, Nat.reduceLT, Int.reduceAdd, Int.reduceToNat, Int.reduceLE, Int.reduceLT, Int.reduceNeg, reduceIte, ruleC, seasonC, slS, slX, termsC, spellC])
    | (show heapOK _ _ = true; kernel_rfl)
    | (omega)))
      all_goals (try contradiction)
theorem tryAt_some {l : List Season} {t : Terms} {k : Nat} {n : Int} (h : tryAt l t k = some n) : totalI l t (ruleAt t k) = true ∧ totalP l t (ruleAt t k) = n := by
  unfold tryAt at h
  split at h
  · rename_i h1; exact ⟨h1, by simpa using h⟩
  · cases h
theorem tryAt_none {l : List Season} {t : Terms} {k : Nat} (h : tryAt l t k = none) : totalI l t (ruleAt t k) = false := by
  unfold tryAt at h
  split at h
  · cases h
  · rename_i h1; simpa using h1
theorem alarmLeast_c (l : List Season) (t : Terms) (n : Int) (hl : okS l) (hn : 0 ≤ n ∧ n ≤ 65535) : CallS Try.prog 14 [slS l, .agg (termsC t), .int .u16 n] (.bool true) := by
  have k1 := short_c l hl
  have k2 := lawPriced_c l t hl
  simp only [slS, termsC] at k1 k2
  cases hs : shortB l
  · rw [hs] at k1
    (refine callS_of_awp (fun w args => Try.call14 ..) Try.func14 rfl (fun w0 m0 wz => ?_); simp only [Try.ntmps14, Try.results14, initT, junks, ruleC, seasonC, slS, slX, termsC, spellC, sl, List.toList_toArray, List.cons_append, List.nil_append, List.length_cons, List.length_nil, Nat.reduceAdd, Nat.reduceSub])
    (repeat' (first
    | (refine awp_seqK ?_)
    | (refine kt ?_)
    | (refine And.intro ?_ ?_)
    | ((first | refine awp_region ?_ | refine awp_draw (by kernel_rfl) (by kernel_rfl) ?_ | refine Imp.le2 ?_ | refine awp_label ?_ | refine awp_skip ?_ | refine awp_exit ?_ | refine awp_cd ?_ | refine awp_ret ?_); simp (maxSteps := 4000000) only [go_sem, List.append_eq, List.cons_append, List.nil_append, Nat.reduceAdd, Nat.reduceMul, Nat.reduceSub, Nat.reduceLeDiff, Nat.reduceLT, Int.reduceAdd, Int.reduceToNat, Int.reduceLE, Int.reduceLT, Int.reduceNeg, reduceIte, ruleC, seasonC, slS, slX, termsC, spellC])
    | (intro _h)
    | (refine awp_block ?_)
    | (refine awp_scope ?_)
    | ((first | refine callK_of (awake_c) ?_ | refine callK_of (k1) ?_); try simp (maxSteps := 4000000) only [go_sem, List.append_eq, List.cons_append, List.nil_append, Nat.reduceAdd, Nat.reduceMul, Nat.reduceSub, Nat.reduceLeDiff, Nat.reduceLT, Int.reduceAdd, Int.reduceToNat, Int.reduceLE, Int.reduceLT, Int.reduceNeg, reduceIte, ruleC, seasonC, slS, slX, termsC, spellC])
    | (refine go_split (fun _h => ?_) (fun _h => ?_) <;> simp (maxSteps := 4000000) only [go_sem, List.append_eq, List.cons_append, List.nil_append, Nat.reduceAdd, Nat.reduceMul, Nat.reduceSub, Nat.reduceLeDiff, Nat.reduceLT, Int.reduceAdd, Int.reduceToNat, Int.reduceLE, Int.reduceLT, Int.reduceNeg, reduceIte, ruleC, seasonC, slS, slX, termsC, spellC])
    | (show heapOK _ _ = true; kernel_rfl)
    | (omega)))
  · rw [hs] at k1
    by_cases hp : pricedE l t = 0
    · obtain ⟨hf, h0, ht⟩ := pricedE_zero hp
      rw [hp] at k2
      have k3 := bestA_c l t hl hp
      obtain ⟨k, hk, ek⟩ : ∃ k : Nat, k ≤ 1000 ∧ n.tmod 1001 = k := ⟨(n.tmod 1001).toNat, by rw [Int.tmod_eq_emod_of_nonneg hn.1]; omega, by rw [Int.tmod_eq_emod_of_nonneg hn.1]; omega⟩
      have k5 := PriceA_c hl hp (ruleAt_ok ht hk)
      have hb := bestUp_is (tryAt l t) 1001
      have htk : totalI l t (ruleAt t k) = true → tryAt l t k = some (totalP l t (ruleAt t k)) := fun h => by unfold tryAt; rw [if_pos h]
      generalize bestUp (tryAt l t) 1001 = b at *
      obtain ⟨tt1, tt2, tt3, tt4, tt5⟩ := termsB_true ht
      cases b with
      | none =>
        have hno := tryAt_none (hb k (Nat.zero_le _) (by omega))
        rw [hno] at k5
        generalize totalP l t (ruleAt t k) = m at *
        simp only [bRule, bPrice, Option.isSome, reduceIte, Bool.false_eq_true, slS, termsC, ruleC, ruleAt, ← ek] at k3 k5
        (refine callS_of_awp (fun w args => Try.call14 ..) Try.func14 rfl (fun w0 m0 wz => ?_); simp only [Try.ntmps14, Try.results14, initT, junks, ruleC, seasonC, slS, slX, termsC, spellC, sl, List.toList_toArray, List.cons_append, List.nil_append, List.length_cons, List.length_nil, Nat.reduceAdd, Nat.reduceSub])
        (repeat' (first
    | (refine awp_seqK ?_)
    | (refine kt ?_)
    | (refine And.intro ?_ ?_)
    | ((first | refine awp_region ?_ | refine awp_draw (by kernel_rfl) (by kernel_rfl) ?_ | refine Imp.le2 ?_ | refine awp_label ?_ | refine awp_skip ?_ | refine awp_exit ?_ | refine awp_cd ?_ | refine awp_ret ?_); simp (maxSteps := 4000000) only [go_sem, List.append_eq, List.cons_append, List.nil_append, Nat.reduceAdd, Nat.reduceMul, Nat.reduceSub, Nat.reduceLeDiff, Nat.reduceLT, Int.reduceAdd, Int.reduceToNat, Int.reduceLE, Int.reduceLT, Int.reduceNeg, reduceIte, ruleC, seasonC, slS, slX, termsC, spellC])
    | (intro _h)
    | (refine awp_block ?_)
    | (refine awp_scope ?_)
    | ((first | refine callK_of (awake_c) ?_ | refine callK_of (k1) ?_ | refine callK_of (k2) ?_ | refine callK_of (Seasons_s hs) ?_ | refine callK_of (Terms_c _) ?_ | refine callK_of (k3) ?_ | refine callK_of (k5) ?_); try simp (maxSteps := 4000000) only [go_sem, List.append_eq, List.cons_append, List.nil_append, Nat.reduceAdd, Nat.reduceMul, Nat.reduceSub, Nat.reduceLeDiff, Nat.reduceLT, Int.reduceAdd, Int.reduceToNat, Int.reduceLE, Int.reduceLT, Int.reduceNeg, reduceIte, ruleC, seasonC, slS, slX, termsC, spellC])
    | (refine go_split (fun _h => ?_) (fun _h => ?_) <;> simp (maxSteps := 4000000) only [go_sem, List.append_eq, List.cons_append, List.nil_append, Nat.reduceAdd, Nat.reduceMul, Nat.reduceSub, Nat.reduceLeDiff, Nat.reduceLT, Int.reduceAdd, Int.reduceToNat, Int.reduceLE, Int.reduceLT, Int.reduceNeg, reduceIte, ruleC, seasonC, slS, slX, termsC, spellC])
    | (show heapOK _ _ = true; kernel_rfl)
    | (omega)))
      | some p =>
        obtain ⟨q, v⟩ := p
        obtain ⟨b1, b2, b3, b4⟩ := hb
        simp only at b1 b2 b3 b4
        obtain ⟨i1, i2⟩ := tryAt_some b3
        have k4 := PriceA_c hl hp (ruleAt_ok ht (show q ≤ 1000 by omega))
        rw [i1, i2] at k4
        have hmin : totalI l t (ruleAt t k) = true → v < totalP l t (ruleAt t k) ∨ (v = totalP l t (ruleAt t k) ∧ k ≤ q) := fun h => b4 k _ (Nat.zero_le _) (by omega) (htk h)
        generalize totalP l t (ruleAt t k) = m at *
        generalize totalI l t (ruleAt t k) = fi at *
        simp only [bRule, bPrice, Option.isSome, reduceIte, slS, termsC, ruleC, ruleAt, ← ek] at k3 k4 k5
        (refine callS_of_awp (fun w args => Try.call14 ..) Try.func14 rfl (fun w0 m0 wz => ?_); simp only [Try.ntmps14, Try.results14, initT, junks, ruleC, seasonC, slS, slX, termsC, spellC, sl, List.toList_toArray, List.cons_append, List.nil_append, List.length_cons, List.length_nil, Nat.reduceAdd, Nat.reduceSub])
        (repeat' (first
    | (refine awp_seqK ?_)
    | (refine kt ?_)
    | (refine And.intro ?_ ?_)
    | ((first | refine awp_region ?_ | refine awp_draw (by kernel_rfl) (by kernel_rfl) ?_ | refine Imp.le2 ?_ | refine awp_label ?_ | refine awp_skip ?_ | refine awp_exit ?_ | refine awp_cd ?_ | refine awp_ret ?_); simp (maxSteps := 4000000) only [go_sem, List.append_eq, List.cons_append, List.nil_append, Nat.reduceAdd, Nat.reduceMul, Nat.reduceSub, Nat.reduceLeDiff, Nat.reduceLT, Int.reduceAdd, Int.reduceToNat, Int.reduceLE, Int.reduceLT, Int.reduceNeg, reduceIte, ruleC, seasonC, slS, slX, termsC, spellC])
    | (intro _h)
    | (refine awp_block ?_)
    | (refine awp_scope ?_)
    | ((first | refine callK_of (awake_c) ?_ | refine callK_of (k1) ?_ | refine callK_of (k2) ?_ | refine callK_of (Seasons_s hs) ?_ | refine callK_of (Terms_c _) ?_ | refine callK_of (k3) ?_ | refine callK_of (k5) ?_ | refine callK_of (k4) ?_); try simp (maxSteps := 4000000) only [go_sem, List.append_eq, List.cons_append, List.nil_append, Nat.reduceAdd, Nat.reduceMul, Nat.reduceSub, Nat.reduceLeDiff, Nat.reduceLT, Int.reduceAdd, Int.reduceToNat, Int.reduceLE, Int.reduceLT, Int.reduceNeg, reduceIte, ruleC, seasonC, slS, slX, termsC, spellC])
    | (refine go_split (fun _h => ?_) (fun _h => ?_) <;> simp (maxSteps := 4000000) only [go_sem, List.append_eq, List.cons_append, List.nil_append, Nat.reduceAdd, Nat.reduceMul, Nat.reduceSub, Nat.reduceLeDiff, Nat.reduceLT, Int.reduceAdd, Int.reduceToNat, Int.reduceLE, Int.reduceLT, Int.reduceNeg, reduceIte, ruleC, seasonC, slS, slX, termsC, spellC])
    | (show heapOK _ _ = true; kernel_rfl)
    | (omega)))
        all_goals (exfalso; have := hmin ‹_›; omega)
    · (refine callS_of_awp (fun w args => Try.call14 ..) Try.func14 rfl (fun w0 m0 wz => ?_); simp only [Try.ntmps14, Try.results14, initT, junks, ruleC, seasonC, slS, slX, termsC, spellC, sl, List.toList_toArray, List.cons_append, List.nil_append, List.length_cons, List.length_nil, Nat.reduceAdd, Nat.reduceSub])
      (repeat' (first
    | (refine awp_seqK ?_)
    | (refine kt ?_)
    | (refine And.intro ?_ ?_)
    | ((first | refine awp_region ?_ | refine awp_draw (by kernel_rfl) (by kernel_rfl) ?_ | refine Imp.le2 ?_ | refine awp_label ?_ | refine awp_skip ?_ | refine awp_exit ?_ | refine awp_cd ?_ | refine awp_ret ?_); simp (maxSteps := 4000000) only [go_sem, List.append_eq, List.cons_append, List.nil_append, Nat.reduceAdd, Nat.reduceMul, Nat.reduceSub, Nat.reduceLeDiff, Nat.reduceLT, Int.reduceAdd, Int.reduceToNat, Int.reduceLE, Int.reduceLT, Int.reduceNeg, reduceIte, ruleC, seasonC, slS, slX, termsC, spellC])
    | (intro _h)
    | (refine awp_block ?_)
    | (refine awp_scope ?_)
    | ((first | refine callK_of (awake_c) ?_ | refine callK_of (k1) ?_ | refine callK_of (k2) ?_); try simp (maxSteps := 4000000) only [go_sem, List.append_eq, List.cons_append, List.nil_append, Nat.reduceAdd, Nat.reduceMul, Nat.reduceSub, Nat.reduceLeDiff, Nat.reduceLT, Int.reduceAdd, Int.reduceToNat, Int.reduceLE, Int.reduceLT, Int.reduceNeg, reduceIte, ruleC, seasonC, slS, slX, termsC, spellC])
    | (refine go_split (fun _h => ?_) (fun _h => ?_) <;> simp (maxSteps := 4000000) only [go_sem, List.append_eq, List.cons_append, List.nil_append, Nat.reduceAdd, Nat.reduceMul, Nat.reduceSub, Nat.reduceLeDiff, Nat.reduceLT, Int.reduceAdd, Int.reduceToNat, Int.reduceLE, Int.reduceLT, Int.reduceNeg, reduceIte, ruleC, seasonC, slS, slX, termsC, spellC])
    | (show heapOK _ _ = true; kernel_rfl)
    | (omega)))
      all_goals (try contradiction)
end Go.Am

/- The law AlarmSooner, as a contract: it returns true. -/
namespace Go.Am
open Go.RowKit Go.Proofs
attribute [local irreducible] AWP CallS Kt goK CallK stepK evOps SemF SemY Imp tab hasTo
set_option maxRecDepth 4000
set_option linter.unusedSimpArgs false
set_option linter.unusedVariables false
set_option maxHeartbeats 6400000

def withOut (p : Post) (o : Int) : Post := ⟨p.errs, p.gain, p.drop, p.fall, o, p.ahead⟩
def termsOut (t : Terms) (o : Int) : Terms := ⟨o, t.price, t.hour, t.less, t.hold⟩
theorem with_post {p : Post} {o : Int} (ho : 0 ≤ o ∧ o ≤ 60) (h : postB p = true) : postB (withOut p o) = true := by
  obtain ⟨h1, h2, h3, h4, h5, h6, h7⟩ := of_decide_eq_true h
  exact decide_eq_true ⟨h1, h2, h3, h4, h5, ho, h7⟩
theorem with_fault {p : Post} {reads : List (List Int)} {o : Int} (ho : 0 ≤ o ∧ o ≤ 60) (h : faultP p reads = 0) : faultP (withOut p o) reads = 0 := by
  have hpb : postB p = true := by
    cases hb : postB p with
    | true => rfl
    | false => unfold faultP at h; rw [if_pos hb] at h; omega
  have h2 := with_post ho hpb
  unfold faultP at h ⊢
  rw [if_neg (by simp [hpb])] at h
  rw [if_neg (by simp [h2])]
  exact h
theorem with_gAt {p : Post} {reads : List (List Int)} {o : Int} : ∀ k, gAt (withOut p o) reads k = gAt p reads k
  | 0 => rfl
  | k + 1 => by
    show stepG (withOut p o) _ _ (gAt (withOut p o) reads k) = stepG p _ _ (gAt p reads k)
    rw [with_gAt k]; rfl
theorem with_stAt {p : Post} {reads : List (List Int)} {o : Int} {k : Nat} : stAt (withOut p o) reads k = stAt p reads k := by
  unfold stAt; rw [with_gAt]; rfl
theorem with_brk {p : Post} {reads : List (List Int)} {o : Int} : brk (withOut p o) reads = brk p reads := by
  unfold brk
  congr 1
  funext k
  rw [with_stAt]
def lvf (L a b c : Int) : Int := if L ≤ a then 3 else if L ≤ b then 2 else if L ≤ c then 1 else 0
theorem lvf_le {L a b c a' b' c' : Int} (h1 : a ≤ a') (h2 : b ≤ b') (h3 : c ≤ c') : lvf L a b c ≤ lvf L a' b' c' := by
  unfold lvf
  by_cases x1 : L ≤ a
  · rw [if_pos x1, if_pos (by omega)]; omega
  · rw [if_neg x1]
    by_cases x2 : L ≤ b
    · rw [if_pos x2]
      by_cases y1 : L ≤ a'
      · rw [if_pos y1]; omega
      · rw [if_neg y1, if_pos (by omega)]; omega
    · rw [if_neg x2]
      by_cases x3 : L ≤ c
      · rw [if_pos x3]
        by_cases y1 : L ≤ a'
        · rw [if_pos y1]; omega
        · rw [if_neg y1]
          by_cases y2 : L ≤ b'
          · rw [if_pos y2]; omega
          · rw [if_neg y2, if_pos (by omega)]; omega
      · rw [if_neg x3]
        by_cases y1 : L ≤ a'
        · rw [if_pos y1]; omega
        · rw [if_neg y1]
          by_cases y2 : L ≤ b'
          · rw [if_pos y2]; omega
          · rw [if_neg y2]
            by_cases y3 : L ≤ c'
            · rw [if_pos y3]; omega
            · rw [if_neg y3]; omega
theorem with_level {p : Post} {o v : Int} (ha : 0 ≤ p.ahead) (ho : p.out ≤ o) : levelOf p v ≤ levelOf (withOut p o) v := by
  show lvf (leftOf p v) p.out (p.out + p.ahead) (p.out + 2 * p.ahead) ≤ lvf (leftOf p v) o (o + p.ahead) (o + 2 * p.ahead)
  exact lvf_le (by omega) (by omega) (by omega)
structure SoonF (reads : List (List Int)) (E : Int) (LA LB : List (Int × Int × Int)) : Prop where
  e : E = 0 ∨ E = 9
  lb : LB.length = LA.length
  la : E = 0 → LA.length = reads.length
  ll : LA.length ≤ 60
  eq : ∀ h, h < LA.length → (LB.getD h default).1 = (LA.getD h default).1 ∧ (LB.getD h default).2.1 = (LA.getD h default).2.1 ∧ (LA.getD h default).2.2 ≤ (LB.getD h default).2.2
theorem soon_levels {p : Post} {reads : List (List Int)} {o : Int} (ib : InB p reads) (hf : faultP p reads = 0) (ho : p.out ≤ o ∧ o ≤ 60) : ∃ E LA LB, SoonF reads E LA LB ∧
    CallS Try.prog 27 [.agg (postC p), sll reads] (.tup [slSt LA, .int .i64 E]) ∧ CallS Try.prog 27 [.agg (postC (withOut p o)), sll reads] (.tup [slSt LB, .int .i64 E]) := by
  obtain ⟨hp, hr⟩ := faultP_zero hf
  have hpo := hp.out
  have hpa := hp.ahead
  have hf2 := with_fault (o := o) ⟨by omega, ho.2⟩ hf
  have l1 := levels_c p reads ib
  have l2 := levels_c (withOut p o) reads ⟨ib.e, ib.n, ib.rows⟩
  unfold levelsL levelsE at l1 l2
  rw [if_pos hf, if_pos hf] at l1
  rw [if_pos hf2, if_pos hf2, with_brk] at l2
  have hrl := hr.len
  cases hb : brk p reads with
  | none =>
    rw [hb] at l1 l2
    refine ⟨0, _, _, ⟨.inl rfl, by rw [states_length, states_length], fun _ => states_length, by rw [states_length]; omega, fun h hh => ?_⟩, l1, l2⟩
    rw [states_length] at hh
    have e1 : (states p reads reads.length).getD h default = stRec p (stAt p reads h) := by simp [states, List.getD_eq_getElem?_getD, hh]
    have e2 : (states (withOut p o) reads reads.length).getD h default = stRec (withOut p o) (stAt (withOut p o) reads h) := by simp [states, List.getD_eq_getElem?_getD, hh]
    rw [e1, e2, with_stAt]
    exact ⟨rfl, rfl, with_level hpa.1 ho.1⟩
  | some k =>
    rw [hb] at l1 l2
    exact ⟨9, _, _, ⟨.inr rfl, rfl, fun h => by omega, by simp, fun h hh => by simp at hh⟩, l1, l2⟩
theorem out_price {t : Terms} {o : Int} {r : Rule} {s : Season} : priceS (termsOut t o) r s = priceS t r s := rfl
theorem out_time {t : Terms} {o : Int} {r : Rule} {s : Season} (ho : t.out ≤ o) (h : inTimeS (termsOut t o) r s = true) : inTimeS t r s = true := by
  unfold inTimeS at h ⊢
  rw [Bool.or_eq_true] at h ⊢
  refine h.imp id fun h => ?_
  rw [List.any_eq_true] at h ⊢
  obtain ⟨x, hx, hs⟩ := h
  refine ⟨x, hx, ?_⟩
  have hs : x.2 = s.speeds.length ∧ max 1 o ≤ (x.2 : Int) - x.1 := of_decide_eq_true hs
  exact decide_eq_true ⟨hs.1, by omega⟩
theorem out_total {l : List Season} {t : Terms} {o : Int} {r : Rule} : totalP l (termsOut t o) r = totalP l t r := rfl
theorem out_all {l : List Season} {t : Terms} {o : Int} {r : Rule} (ho : t.out ≤ o) (h : totalI l (termsOut t o) r = true) : totalI l t r = true := by
  unfold totalI at h ⊢
  rw [List.all_eq_true] at h ⊢
  exact fun s hs => out_time ho (h s hs)
theorem out_try {l : List Season} {t : Terms} {o : Int} {k : Nat} {n : Int} (ho : t.out ≤ o) (h : tryAt l (termsOut t o) k = some n) : tryAt l t k = some n := by
  obtain ⟨h1, h2⟩ := tryAt_some h
  have e : ruleAt (termsOut t o) k = ruleAt t k := rfl
  rw [e] at h1 h2
  unfold tryAt
  rw [if_pos (out_all ho h1), ← h2, out_total]
theorem out_best {l : List Season} {t : Terms} {o : Int} (ho : t.out ≤ o) : match bestUp (tryAt l (termsOut t o)) 1001 with
    | none => True
    | some y => ∃ x, bestUp (tryAt l t) 1001 = some x ∧ x.2 ≤ y.2 := by
  have h1 := bestUp_is (tryAt l (termsOut t o)) 1001
  have h2 := bestUp_is (tryAt l t) 1001
  cases hb : bestUp (tryAt l (termsOut t o)) 1001 with
  | none => trivial
  | some y =>
    rw [hb] at h1
    obtain ⟨k, n⟩ := y
    obtain ⟨b1, b2, b3, b4⟩ := h1
    simp only at b1 b2 b3
    have h3 := out_try ho b3
    cases hc : bestUp (tryAt l t) 1001 with
    | none =>
      rw [hc] at h2
      have := h2 k b1 b2
      rw [h3] at this; cases this
    | some x =>
      rw [hc] at h2
      obtain ⟨c1, c2, c3, c4⟩ := h2
      refine ⟨x, rfl, ?_⟩
      have := c4 k n b1 b2 h3
      simp only
      omega
theorem out_priced {l : List Season} {t : Terms} {o : Int} (ho : 0 ≤ o ∧ o ≤ 60) (h : pricedE l t = 0) : pricedE l (termsOut t o) = 0 := by
  obtain ⟨h1, h2, h3⟩ := pricedE_zero h
  obtain ⟨a, b, c, d, e⟩ := termsB_true h3
  have ht : termsB (termsOut t o) = true := decide_eq_true ⟨ho, b, c, d, e⟩
  unfold pricedE
  rw [if_pos h1, if_neg (by omega), if_pos ht]
theorem alarmSooner_c (p : Post) (reads : List (List Int)) (l : List Season) (t : Terms) (r : Rule) (more : Int) (ib : InB p reads) (hl : okS l) (hm : 0 ≤ more ∧ more ≤ 255) :
    CallS Try.prog 15 [.agg (postC p), sll reads, slS l, .agg (termsC t), .agg (ruleC r), .int .u8 more] (.bool true) := by
  have k1 := ready_c p reads ib
  have k2 := short_c l hl
  have k3 := lawPriced_c l t hl
  have k4 := rightRule_c r
  by_cases hok : readyB p reads = true ∧ shortB l = true ∧ pricedE l t = 0 ∧ ruleB r = true
  · obtain ⟨o1, o2, o3, o4⟩ := hok
    rw [o1] at k1
    rw [o2] at k2
    rw [o3] at k3
    rw [o4] at k4
    have hth : thinB p reads = true ∧ faultP p reads = 0 := by
      unfold readyB at o1; rw [Bool.and_eq_true] at o1; exact ⟨o1.1, of_decide_eq_true o1.2⟩
    obtain ⟨t1, t2, t3⟩ := thinB_true hth.1
    obtain ⟨hp, hr⟩ := faultP_zero hth.2
    obtain ⟨pf, p0, pt⟩ := pricedE_zero o3
    have hto := (termsB_true pt).1
    have hpo := hp.out
    have k7 := Post_c p (by omega)
    have k8 := rows_c reads (by omega) (fun i hi => by have := t3 i hi; omega)
    have hmm := tmod_bd (a := more) (b := 30) hm.1 (by omega)
    generalize hmo : more.tmod 30 = m at *
    obtain ⟨E, LA, LB, sf, l1, l2⟩ := soon_levels (o := min 60 (p.out + m)) ib hth.2 ⟨by omega, by omega⟩
    have s1 := Seasons_s o2
    have s2 := Terms_c t
    have s3 := Rule_c r
    have a1 := PriceA_c hl o3 o4
    have a2 := PriceA_c (t := termsOut t (min 60 (t.out + m))) hl (out_priced ⟨by omega, by omega⟩ o3) o4
    rw [out_total] at a2
    have hall := out_all (l := l) (t := t) (o := min 60 (t.out + m)) (r := r) (by omega)
    have b1 := bestA_c l t hl o3
    have b2 := bestA_c l (termsOut t (min 60 (t.out + m))) hl (out_priced ⟨by omega, by omega⟩ o3)
    have hbest := out_best (l := l) (t := t) (o := min 60 (t.out + m)) (by omega)
    generalize totalI l (termsOut t (min 60 (t.out + m))) r = two at *
    generalize totalI l t r = one at *
    generalize totalP l t r = n at *
    generalize bestUp (tryAt l (termsOut t (min 60 (t.out + m)))) 1001 = y at *
    generalize bestUp (tryAt l t) 1001 = x at *
    have hxy : ((if y.isSome = true then (0 : Int) else 11) = 11 ∧ ((if x.isSome = true then (0 : Int) else 11) = 0 ∨ (if x.isSome = true then (0 : Int) else 11) = 11)) ∨ ((if y.isSome = true then (0 : Int) else 11) = 0 ∧ (if x.isSome = true then (0 : Int) else 11) = 0 ∧ bPrice x ≤ bPrice y) := by
      cases y with
      | none => exact .inl ⟨rfl, by cases x <;> simp⟩
      | some b => obtain ⟨a, rfl, ha⟩ := hbest; exact .inr ⟨rfl, rfl, ha⟩
    clear hbest
    generalize bRule t x = r1 at *
    generalize bRule (termsOut t (min 60 (t.out + m))) y = r2 at *
    generalize (if y.isSome = true then (0 : Int) else 11) = vy at *
    generalize (if x.isSome = true then (0 : Int) else 11) = vx at *
    generalize bPrice x = px at *
    generalize bPrice y = py at *
    have q1 := sf.e
    have q2 := sf.lb
    have q3 := sf.la
    have q4 := sf.ll
    simp only [postC, sl, sll, slSt, slS, termsC, ruleC, withOut, termsOut] at k1 k2 k3 k4 k7 k8 l1 l2 s1 s2 s3 a1 a2 b1 b2
    (refine callS_of_awp (fun w args => Try.call15 ..) Try.func15 rfl (fun w0 m0 wz => ?_); simp only [Try.ntmps15, Try.results15, initT, junks, postC, watchC, sll, slSt, ruleC, seasonC, slS, termsC, sl, List.toList_toArray, List.cons_append, List.nil_append, List.length_cons, List.length_nil, Nat.reduceAdd, Nat.reduceSub])
    (repeat' (first
    | (refine awp_seqK ?_)
    | (refine kt ?_)
    | (refine And.intro ?_ ?_)
    | ((first | refine awp_region ?_ | refine awp_draw (by kernel_rfl) (by kernel_rfl) ?_ | refine Imp.le2 ?_ | refine awp_label ?_ | refine awp_skip ?_ | refine awp_exit ?_ | refine awp_cd ?_ | refine awp_ret ?_); simp (maxSteps := 4000000) only [go_sem, List.append_eq, List.cons_append, List.nil_append, Nat.reduceAdd, Nat.reduceMul, Nat.reduceSub, Nat.reduceLeDiff, Nat.reduceLT, Int.reduceAdd, Int.reduceToNat, Int.reduceLE, Int.reduceLT, Int.reduceNeg, reduceIte, postC, watchC, sll, slSt, ruleC, seasonC, slS, termsC, hmo])
    | (intro _h)
    | (refine awp_block ?_)
    | (refine awp_scope ?_)
    | ((first | refine callK_of (awake_c) ?_ | refine callK_of (k1) ?_ | refine callK_of (k2) ?_ | refine callK_of (k3) ?_ | refine callK_of (k4) ?_ | refine callK_of (k7) ?_ | refine callK_of (k8) ?_ | refine callK_of (s2) ?_ | refine callK_of (l1) ?_ | refine callK_of (l2) ?_); try simp (maxSteps := 4000000) only [go_sem, List.append_eq, List.cons_append, List.nil_append, Nat.reduceAdd, Nat.reduceMul, Nat.reduceSub, Nat.reduceLeDiff, Nat.reduceLT, Int.reduceAdd, Int.reduceToNat, Int.reduceLE, Int.reduceLT, Int.reduceNeg, reduceIte, postC, watchC, sll, slSt, ruleC, seasonC, slS, termsC, hmo])
    | (refine go_split (fun _h => ?_) (fun _h => ?_) <;> simp (maxSteps := 4000000) only [go_sem, List.append_eq, List.cons_append, List.nil_append, Nat.reduceAdd, Nat.reduceMul, Nat.reduceSub, Nat.reduceLeDiff, Nat.reduceLT, Int.reduceAdd, Int.reduceToNat, Int.reduceLE, Int.reduceLT, Int.reduceNeg, reduceIte, postC, watchC, sll, slSt, ruleC, seasonC, slS, termsC, hmo])
    | (show heapOK _ _ = true; kernel_rfl)
    | (omega)))
    all_goals try (exfalso; omega)
    all_goals (
      refine awp_loopN LA.length (fun h => ⟨mkT 233 [(2, .psl false l.length (recs seasonC l)), (9, .ptr 1 0 0), (10, .ptr 2 0 0), (14, .ptr 4 0 0), (15, .psl false LA.length (recs stC LA)), (17, .psl false LB.length (recs stC LB)), (19, .int .i64 h)], [none, some (.cells 90 1 0 (termsC t)), some (.cells 26 1 0 (ruleC r)), none, some (.cells 96 1 0 (termsC (termsOut t (min 60 (t.out + m)))))], []⟩) (.le2 ?_) ?_
      · simp only [postC, termsOut]; simp (maxSteps := 4000000) only [go_sem, List.append_eq, List.cons_append, List.nil_append, Nat.reduceAdd, Nat.reduceMul, Nat.reduceSub, Nat.reduceLeDiff, Nat.reduceLT, Int.reduceAdd, Int.reduceToNat, Int.reduceLE, Int.reduceLT, Int.reduceNeg, reduceIte, postC, watchC, sll, slSt, ruleC, seasonC, slS, termsC]
      · intro h hle
        rcases Nat.lt_or_eq_of_le hle with hlt | hlt
        · have hq := sf.eq h hlt
          simp only [termsOut]; simp (maxSteps := 4000000) only [go_sem, List.append_eq, List.cons_append, List.nil_append, Nat.reduceAdd, Nat.reduceMul, Nat.reduceSub, Nat.reduceLeDiff, Nat.reduceLT, Int.reduceAdd, Int.reduceToNat, Int.reduceLE, Int.reduceLT, Int.reduceNeg, reduceIte, postC, watchC, sll, slSt, ruleC, seasonC, slS, termsC]
          (repeat' (first
    | (refine awp_seqK ?_)
    | (refine kt ?_)
    | (refine And.intro ?_ ?_)
    | ((first | refine awp_region ?_ | refine awp_draw (by kernel_rfl) (by kernel_rfl) ?_ | refine Imp.le2 ?_ | refine awp_label ?_ | refine awp_skip ?_ | refine awp_exit ?_ | refine awp_cd ?_ | refine awp_ret ?_); simp (maxSteps := 4000000) only [go_sem, List.append_eq, List.cons_append, List.nil_append, Nat.reduceAdd, Nat.reduceMul, Nat.reduceSub, Nat.reduceLeDiff, Nat.reduceLT, Int.reduceAdd, Int.reduceToNat, Int.reduceLE, Int.reduceLT, Int.reduceNeg, reduceIte, postC, watchC, sll, slSt, ruleC, seasonC, slS, termsC])
    | (intro _h)
    | (refine awp_block ?_)
    | (refine awp_scope ?_)
    | (refine go_split (fun _h => ?_) (fun _h => ?_) <;> simp (maxSteps := 4000000) only [go_sem, List.append_eq, List.cons_append, List.nil_append, Nat.reduceAdd, Nat.reduceMul, Nat.reduceSub, Nat.reduceLeDiff, Nat.reduceLT, Int.reduceAdd, Int.reduceToNat, Int.reduceLE, Int.reduceLT, Int.reduceNeg, reduceIte, postC, watchC, sll, slSt, ruleC, seasonC, slS, termsC])
    | (show heapOK _ _ = true; kernel_rfl)
    | (omega)))
          all_goals first
            | omega
            | trace_state
        · simp only [termsOut]; simp (maxSteps := 4000000) only [go_sem, List.append_eq, List.cons_append, List.nil_append, Nat.reduceAdd, Nat.reduceMul, Nat.reduceSub, Nat.reduceLeDiff, Nat.reduceLT, Int.reduceAdd, Int.reduceToNat, Int.reduceLE, Int.reduceLT, Int.reduceNeg, reduceIte, postC, watchC, sll, slSt, ruleC, seasonC, slS, termsC]
          (repeat' (first
    | ((exfalso; omega))
    | (refine awp_seqK ?_)
    | (refine kt ?_)
    | (refine And.intro ?_ ?_)
    | ((first | refine awp_region ?_ | refine awp_draw (by kernel_rfl) (by kernel_rfl) ?_ | refine Imp.le2 ?_ | refine awp_label ?_ | refine awp_skip ?_ | refine awp_exit ?_ | refine awp_cd ?_ | refine awp_ret ?_); simp (maxSteps := 4000000) only [go_sem, List.append_eq, List.cons_append, List.nil_append, Nat.reduceAdd, Nat.reduceMul, Nat.reduceSub, Nat.reduceLeDiff, Nat.reduceLT, Int.reduceAdd, Int.reduceToNat, Int.reduceLE, Int.reduceLT, Int.reduceNeg, reduceIte, postC, watchC, sll, slSt, ruleC, seasonC, slS, termsC])
    | (intro _h)
    | (refine awp_block ?_)
    | (refine awp_scope ?_)
    | ((first | refine callK_of (awake_c) ?_ | refine callK_of (s1) ?_ | refine callK_of (s2) ?_ | refine callK_of (s3) ?_ | refine callK_of (a1) ?_ | refine callK_of (a2) ?_ | refine callK_of (b1) ?_ | refine callK_of (b2) ?_); try simp (maxSteps := 4000000) only [go_sem, List.append_eq, List.cons_append, List.nil_append, Nat.reduceAdd, Nat.reduceMul, Nat.reduceSub, Nat.reduceLeDiff, Nat.reduceLT, Int.reduceAdd, Int.reduceToNat, Int.reduceLE, Int.reduceLT, Int.reduceNeg, reduceIte, postC, watchC, sll, slSt, ruleC, seasonC, slS, termsC])
    | (refine go_split (fun _h => ?_) (fun _h => ?_) <;> simp (maxSteps := 4000000) only [go_sem, List.append_eq, List.cons_append, List.nil_append, Nat.reduceAdd, Nat.reduceMul, Nat.reduceSub, Nat.reduceLeDiff, Nat.reduceLT, Int.reduceAdd, Int.reduceToNat, Int.reduceLE, Int.reduceLT, Int.reduceNeg, reduceIte, postC, watchC, sll, slSt, ruleC, seasonC, slS, termsC])
    | (show heapOK _ _ = true; kernel_rfl)
    | (omega)))
          all_goals first
            | omega
            | (exfalso; have h9 := hall ‹_›; simp_all; done)
            | trace_state)
  · have hno : readyB p reads = false ∨ shortB l = false ∨ ¬ pricedE l t = 0 ∨ ruleB r = false := by
      by_cases a : readyB p reads = true
      · by_cases b : shortB l = true
        · by_cases c : pricedE l t = 0
          · by_cases d : ruleB r = true
            · exact absurd ⟨a, b, c, d⟩ hok
            · exact .inr (.inr (.inr (by simpa using d)))
          · exact .inr (.inr (.inl c))
        · exact .inr (.inl (by simpa using b))
      · exact .inl (by simpa using a)
    clear hok
    generalize readyB p reads = c1 at *
    generalize shortB l = c2 at *
    generalize pricedE l t = c3 at *
    generalize ruleB r = c4 at *
    simp only [postC, sl, sll, slSt, slS, termsC, ruleC] at k1 k2 k3 k4
    (refine callS_of_awp (fun w args => Try.call15 ..) Try.func15 rfl (fun w0 m0 wz => ?_); simp only [Try.ntmps15, Try.results15, initT, junks, postC, watchC, sll, slSt, ruleC, seasonC, slS, termsC, sl, List.toList_toArray, List.cons_append, List.nil_append, List.length_cons, List.length_nil, Nat.reduceAdd, Nat.reduceSub])
    (repeat' (first
    | (refine awp_seqK ?_)
    | (refine kt ?_)
    | (refine And.intro ?_ ?_)
    | ((first | refine awp_region ?_ | refine awp_draw (by kernel_rfl) (by kernel_rfl) ?_ | refine Imp.le2 ?_ | refine awp_label ?_ | refine awp_skip ?_ | refine awp_exit ?_ | refine awp_cd ?_ | refine awp_ret ?_); simp (maxSteps := 4000000) only [go_sem, List.append_eq, List.cons_append, List.nil_append, Nat.reduceAdd, Nat.reduceMul, Nat.reduceSub, Nat.reduceLeDiff, Nat.reduceLT, Int.reduceAdd, Int.reduceToNat, Int.reduceLE, Int.reduceLT, Int.reduceNeg, reduceIte, postC, watchC, sll, slSt, ruleC, seasonC, slS, termsC])
    | (intro _h)
    | (refine awp_block ?_)
    | (refine awp_scope ?_)
    | ((first | refine callK_of (awake_c) ?_ | refine callK_of (k1) ?_ | refine callK_of (k2) ?_ | refine callK_of (k3) ?_ | refine callK_of (k4) ?_); try simp (maxSteps := 4000000) only [go_sem, List.append_eq, List.cons_append, List.nil_append, Nat.reduceAdd, Nat.reduceMul, Nat.reduceSub, Nat.reduceLeDiff, Nat.reduceLT, Int.reduceAdd, Int.reduceToNat, Int.reduceLE, Int.reduceLT, Int.reduceNeg, reduceIte, postC, watchC, sll, slSt, ruleC, seasonC, slS, termsC])
    | (refine go_split (fun _h => ?_) (fun _h => ?_) <;> simp (maxSteps := 4000000) only [go_sem, List.append_eq, List.cons_append, List.nil_append, Nat.reduceAdd, Nat.reduceMul, Nat.reduceSub, Nat.reduceLeDiff, Nat.reduceLT, Int.reduceAdd, Int.reduceToNat, Int.reduceLE, Int.reduceLT, Int.reduceNeg, reduceIte, postC, watchC, sll, slSt, ruleC, seasonC, slS, termsC])
    | (show heapOK _ _ = true; kernel_rfl)
    | (omega)))
    all_goals first
      | (simp_all; done)
      | trace_state
end Go.Am
