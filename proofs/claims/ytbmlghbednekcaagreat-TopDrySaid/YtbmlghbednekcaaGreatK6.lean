/- Parts LaA, LaB, LaC, LaD, LaE, LaF, LaG, LaH, LaI, LaK, LaJ of the proof, one behind the other. No statement is proved here. -/
import Derived.Test.YtbmlghbednekcaaGreatK3
import Derived.Test.YtbmlghbednekcaaGreatK4
import Derived.Test.YtbmlghbednekcaaGreatK5
set_option linter.unusedVariables false -- all
set_option linter.unusedSimpArgs false
namespace Go.Am
namespace La
open Go.RowKit Go.Proofs
attribute [local irreducible] AWP CallS Kt goK CallK stepK evOps SemF SemY Imp
set_option maxRecDepth 4000
set_option linter.unusedSimpArgs false
set_option linter.unusedVariables false
set_option maxHeartbeats 3200000
section
variable {P : Program} {t : TypeId} {K : AV → Prop} {k1 k2 : IntKind} {a b c d : Int}
theorem bin_agg2 (h : tkb P t = some [false, false]) : binK P .eql t (.agg [.int k1 a, .int k2 b]) (.agg [.int k1 c, .int k2 d]) K = K (.bool (decide (a = c ∧ b = d))) := by
  have hs : scalEq [.int k1 a, .int k2 b] [.int k1 c, .int k2 d] = some (decide (a = c ∧ b = d)) := by simp [scalEq, Bool.decide_and]
  simp only [binK, hs, eq_true (eqOK (P := P) t), List.map_cons, List.map_nil, kindB, h, true_and]
end
theorem tkb53 : tkb Tryz.prog 53 = some [false, false] := by kernel_rfl
theorem eq53 {K : AV → Prop} {a b c d : Int} : binK Tryz.prog .eql 53 (.agg [.int .i64 a, .int .i64 b]) (.agg [.int .i64 c, .int .i64 d]) K = K (.bool (decide (a = c ∧ b = d))) := bin_agg2 tkb53
attribute [go_sem] eq53
structure Lake where
  vols : List Int
  crest : Int
  weak : Int
  soLo : Int
  soHi : Int
  stLo : Int
  stHi : Int
  seLo : Int
  seHi : Int
  infl : List (Int × Int)
structure Work where
  from0 : Int
  flow : Int
  price : Int
instance : Inhabited Work := ⟨⟨0, 0, 0⟩⟩
def rngC (r : Int × Int) : List AV := [.int .i64 r.1, .int .i64 r.2]
def slR (l : List (Int × Int)) : AV := .psl false l.length (recs rngC l)
def workC (w : Work) : List AV := [.int .i64 w.from0, .int .i64 w.flow, .int .i64 w.price]
def slWk (l : List Work) : AV := .psl false l.length (recs workC l)
def lakeC (l : Lake) : List AV := [sl l.vols, .int .i64 l.crest, .int .i64 l.weak, .int .i64 l.soLo, .int .i64 l.soHi, .int .i64 l.stLo, .int .i64 l.stHi, .int .i64 l.seLo, .int .i64 l.seHi, slR l.infl]
def pumC (l : Lake) (works : List Work) (ch : List Int) : List AV := lakeC l ++ [slWk works, sl ch]
attribute [go_sem] rngC slR workC slWk lakeC pumC
theorem within_c (n lo hi : Int) : CallS Tryz.prog 30 [.int .i64 n, .int .i64 lo, .int .i64 hi] (.bool (decide (lo ≤ n ∧ n ≤ hi))) := by
  rw [Bool.decide_and]
  (refine callS_of_awp (fun w args => Tryz.call30 ..) Tryz.func30 rfl (fun w0 m0 wz => ?_); simp only [Tryz.ntmps30, Tryz.results30, initT, junks, sl, List.toList_toArray, List.cons_append, List.nil_append, List.length_cons, List.length_nil, Nat.reduceAdd, Nat.reduceSub])
  (repeat' (first
 | refine awp_seqK ?_
 | refine kt ?_
 | refine And.intro ?_ ?_
 | ((first | refine awp_stp rfl ?_ | refine awp_draw (by kernel_rfl) (by kernel_rfl) ?_ | refine Imp.le2 ?_ | refine go_split (fun _h => ?_) (fun _h => ?_)) <;> try simp (maxSteps := 4000000) only [go_sem, seval])
 | intro _h
 | refine awp_block ?_
 | refine awp_scope ?_
 | refine cond_b ?_ ?_
 | (show heapOK _ _ = true; kernel_rfl)
 | (show heapOK2 _ _ = true; kernel_rfl)
 | (omega)))
  all_goals (simp_all; try omega)
theorem upto_c (lo hi most : Int) : CallS Tryz.prog 31 [.agg [.int .i64 lo, .int .i64 hi], .int .i64 most] (.bool (decide (0 ≤ lo ∧ lo ≤ hi ∧ hi ≤ most))) := by
  rw [Bool.decide_and, Bool.decide_and]
  (refine callS_of_awp (fun w args => Tryz.call31 ..) Tryz.func31 rfl (fun w0 m0 wz => ?_); simp only [Tryz.ntmps31, Tryz.results31, initT, junks, sl, List.toList_toArray, List.cons_append, List.nil_append, List.length_cons, List.length_nil, Nat.reduceAdd, Nat.reduceSub])
  (repeat' (first
 | refine awp_seqK ?_
 | refine kt ?_
 | refine And.intro ?_ ?_
 | ((first | refine awp_stp rfl ?_ | refine awp_draw (by kernel_rfl) (by kernel_rfl) ?_ | refine Imp.le2 ?_ | refine go_split (fun _h => ?_) (fun _h => ?_)) <;> try simp (maxSteps := 4000000) only [go_sem, seval])
 | intro _h
 | refine awp_block ?_
 | refine awp_scope ?_
 | refine cond_b ?_ ?_
 | (show heapOK _ _ = true; kernel_rfl)
 | (show heapOK2 _ _ = true; kernel_rfl)
 | (omega)))
  all_goals (simp_all; try omega)
theorem has_c (lo hi n : Int) : CallS Tryz.prog 54 [.agg [.int .i64 lo, .int .i64 hi], .int .i64 n] (.bool (decide (lo ≤ n ∧ n ≤ hi))) := by
  (refine callS_of_awp (fun w args => Tryz.call54 ..) Tryz.func54 rfl (fun w0 m0 wz => ?_); simp only [Tryz.ntmps54, Tryz.results54, initT, junks, sl, List.toList_toArray, List.cons_append, List.nil_append, List.length_cons, List.length_nil, Nat.reduceAdd, Nat.reduceSub])
  (repeat' (first
 | refine awp_seqK ?_
 | refine kt ?_
 | refine And.intro ?_ ?_
 | ((first | refine awp_stp rfl ?_ | refine awp_draw (by kernel_rfl) (by kernel_rfl) ?_ | refine Imp.le2 ?_ | refine callK_of (within_c _ _ _) ?_ | refine go_split (fun _h => ?_) (fun _h => ?_)) <;> try simp (maxSteps := 4000000) only [go_sem, seval])
 | intro _h
 | refine awp_block ?_
 | refine awp_scope ?_
 | refine cond_b ?_ ?_
 | (show heapOK _ _ = true; kernel_rfl)
 | (show heapOK2 _ _ = true; kernel_rfl)
 | (omega)))
theorem flow_c (lo hi : Int) : CallS Tryz.prog 73 [.agg [.int .i64 lo, .int .i64 hi]] (.bool (decide (0 ≤ lo ∧ lo ≤ hi ∧ hi ≤ 1000000))) := by
  (refine callS_of_awp (fun w args => Tryz.call73 ..) Tryz.func73 rfl (fun w0 m0 wz => ?_); simp only [Tryz.ntmps73, Tryz.results73, initT, junks, sl, List.toList_toArray, List.cons_append, List.nil_append, List.length_cons, List.length_nil, Nat.reduceAdd, Nat.reduceSub])
  (repeat' (first
 | refine awp_seqK ?_
 | refine kt ?_
 | refine And.intro ?_ ?_
 | ((first | refine awp_stp rfl ?_ | refine awp_draw (by kernel_rfl) (by kernel_rfl) ?_ | refine Imp.le2 ?_ | refine callK_of (upto_c _ _ _) ?_ | refine go_split (fun _h => ?_) (fun _h => ?_)) <;> try simp (maxSteps := 4000000) only [go_sem, seval])
 | intro _h
 | refine awp_block ?_
 | refine awp_scope ?_
 | refine cond_b ?_ ?_
 | (show heapOK _ _ = true; kernel_rfl)
 | (show heapOK2 _ _ = true; kernel_rfl)
 | (omega)))
theorem none_c : CallS Tryz.prog 53 [] (.agg [.int .i64 1, .int .i64 0]) := by
  (refine callS_of_awp (fun w args => Tryz.call53 ..) Tryz.func53 rfl (fun w0 m0 wz => ?_); simp only [Tryz.ntmps53, Tryz.results53, initT, junks, sl, List.toList_toArray, List.cons_append, List.nil_append, List.length_cons, List.length_nil, Nat.reduceAdd, Nat.reduceSub])
  (repeat' (first
 | refine awp_seqK ?_
 | refine kt ?_
 | refine And.intro ?_ ?_
 | ((first | refine awp_stp rfl ?_ | refine awp_draw (by kernel_rfl) (by kernel_rfl) ?_ | refine Imp.le2 ?_ | refine go_split (fun _h => ?_) (fun _h => ?_)) <;> try simp (maxSteps := 4000000) only [go_sem, seval])
 | intro _h
 | refine awp_block ?_
 | refine awp_scope ?_
 | refine cond_b ?_ ?_
 | (show heapOK _ _ = true; kernel_rfl)
 | (show heapOK2 _ _ = true; kernel_rfl)
 | (omega)))
theorem max_c (f : Bool) (a b : Int) : CallS Tryz.prog 58 [.psl f 2 [.int .i64 a, .int .i64 b]] (.int .i64 (max a b)) := by
  (refine callS_of_awp (fun w args => Tryz.call58 ..) Tryz.func58 rfl (fun w0 m0 wz => ?_); simp only [Tryz.ntmps58, Tryz.results58, initT, junks, sl, List.toList_toArray, List.cons_append, List.nil_append, List.length_cons, List.length_nil, Nat.reduceAdd, Nat.reduceSub])
  (repeat' (first
 | refine awp_seqK ?_
 | refine kt ?_
 | refine And.intro ?_ ?_
 | ((first | refine awp_stp rfl ?_ | refine awp_draw (by kernel_rfl) (by kernel_rfl) ?_ | refine Imp.le2 ?_ | refine go_split (fun _h => ?_) (fun _h => ?_)) <;> try simp (maxSteps := 4000000) only [go_sem, seval])
 | intro _h
 | refine awp_block ?_
 | refine awp_scope ?_
 | refine cond_b ?_ ?_
 | (show heapOK _ _ = true; kernel_rfl)
 | (show heapOK2 _ _ = true; kernel_rfl)
 | (omega)))
  (refine awp_rounds 2 ?_; rw [ar_s])
  (repeat' (first
 | refine awp_seqK ?_
 | refine kt ?_
 | refine And.intro ?_ ?_
 | ((first | refine awp_stp rfl ?_ | refine awp_draw (by kernel_rfl) (by kernel_rfl) ?_ | refine Imp.le2 ?_ | refine go_split (fun _h => ?_) (fun _h => ?_)) <;> try simp (maxSteps := 4000000) only [go_sem, seval])
 | intro _h
 | refine awp_block ?_
 | refine awp_scope ?_
 | refine cond_b ?_ ?_
 | (show heapOK _ _ = true; kernel_rfl)
 | (show heapOK2 _ _ = true; kernel_rfl)
 | (omega)))
theorem min_c (f : Bool) (a b : Int) : CallS Tryz.prog 84 [.psl f 2 [.int .i64 a, .int .i64 b]] (.int .i64 (min a b)) := by
  (refine callS_of_awp (fun w args => Tryz.call84 ..) Tryz.func84 rfl (fun w0 m0 wz => ?_); simp only [Tryz.ntmps84, Tryz.results84, initT, junks, sl, List.toList_toArray, List.cons_append, List.nil_append, List.length_cons, List.length_nil, Nat.reduceAdd, Nat.reduceSub])
  (repeat' (first
 | refine awp_seqK ?_
 | refine kt ?_
 | refine And.intro ?_ ?_
 | ((first | refine awp_stp rfl ?_ | refine awp_draw (by kernel_rfl) (by kernel_rfl) ?_ | refine Imp.le2 ?_ | refine go_split (fun _h => ?_) (fun _h => ?_)) <;> try simp (maxSteps := 4000000) only [go_sem, seval])
 | intro _h
 | refine awp_block ?_
 | refine awp_scope ?_
 | refine cond_b ?_ ?_
 | (show heapOK _ _ = true; kernel_rfl)
 | (show heapOK2 _ _ = true; kernel_rfl)
 | (omega)))
  (refine awp_rounds 2 ?_; rw [ar_s])
  (repeat' (first
 | refine awp_seqK ?_
 | refine kt ?_
 | refine And.intro ?_ ?_
 | ((first | refine awp_stp rfl ?_ | refine awp_draw (by kernel_rfl) (by kernel_rfl) ?_ | refine Imp.le2 ?_ | refine go_split (fun _h => ?_) (fun _h => ?_)) <;> try simp (maxSteps := 4000000) only [go_sem, seval])
 | intro _h
 | refine awp_block ?_
 | refine awp_scope ?_
 | refine cond_b ?_ ?_
 | (show heapOK _ _ = true; kernel_rfl)
 | (show heapOK2 _ _ = true; kernel_rfl)
 | (omega)))
theorem greatest_c (f : Bool) (a b : Int) : CallS Tryz.prog 36 [.psl f 2 [.int .i64 a, .int .i64 b]] (.int .i64 (max a b)) := by
  (refine callS_of_awp (fun w args => Tryz.call36 ..) Tryz.func36 rfl (fun w0 m0 wz => ?_); simp only [Tryz.ntmps36, Tryz.results36, initT, junks, sl, List.toList_toArray, List.cons_append, List.nil_append, List.length_cons, List.length_nil, Nat.reduceAdd, Nat.reduceSub])
  (repeat' (first
 | refine awp_seqK ?_
 | refine kt ?_
 | refine And.intro ?_ ?_
 | ((first | refine awp_stp rfl ?_ | refine awp_draw (by kernel_rfl) (by kernel_rfl) ?_ | refine Imp.le2 ?_ | refine callK_of (max_c _ _ _) ?_ | refine go_split (fun _h => ?_) (fun _h => ?_)) <;> try simp (maxSteps := 4000000) only [go_sem, seval])
 | intro _h
 | refine awp_block ?_
 | refine awp_scope ?_
 | refine cond_b ?_ ?_
 | (show heapOK _ _ = true; kernel_rfl)
 | (show heapOK2 _ _ = true; kernel_rfl)
 | (omega)))
theorem least_c (f : Bool) (a b : Int) : CallS Tryz.prog 79 [.psl f 2 [.int .i64 a, .int .i64 b]] (.int .i64 (min a b)) := by
  (refine callS_of_awp (fun w args => Tryz.call79 ..) Tryz.func79 rfl (fun w0 m0 wz => ?_); simp only [Tryz.ntmps79, Tryz.results79, initT, junks, sl, List.toList_toArray, List.cons_append, List.nil_append, List.length_cons, List.length_nil, Nat.reduceAdd, Nat.reduceSub])
  (repeat' (first
 | refine awp_seqK ?_
 | refine kt ?_
 | refine And.intro ?_ ?_
 | ((first | refine awp_stp rfl ?_ | refine awp_draw (by kernel_rfl) (by kernel_rfl) ?_ | refine Imp.le2 ?_ | refine callK_of (min_c _ _ _) ?_ | refine go_split (fun _h => ?_) (fun _h => ?_)) <;> try simp (maxSteps := 4000000) only [go_sem, seval])
 | intro _h
 | refine awp_block ?_
 | refine awp_scope ?_
 | refine cond_b ?_ ?_
 | (show heapOK _ _ = true; kernel_rfl)
 | (show heapOK2 _ _ = true; kernel_rfl)
 | (omega)))
def joinV (a b : Int × Int) : Int × Int := if a = (1, 0) then b else if b = (1, 0) then a else (min a.1 b.1, max a.2 b.2)
theorem joined_c (a b : Int × Int) : CallS Tryz.prog 57 [.agg (rngC a), .agg (rngC b)] (.agg (rngC (joinV a b))) := by
  obtain ⟨a1, a2⟩ := a
  obtain ⟨b1, b2⟩ := b
  have e1 : ((1 : Int) = a1 ∧ (0 : Int) = a2) = (((a1, a2) : Int × Int) = (1, 0)) := by simp only [Prod.mk.injEq, eq_iff_iff]; omega
  have e2 : ((1 : Int) = b1 ∧ (0 : Int) = b2) = (((b1, b2) : Int × Int) = (1, 0)) := by simp only [Prod.mk.injEq, eq_iff_iff]; omega
  unfold joinV
  by_cases c1 : ((a1, a2) : Int × Int) = (1, 0)
  · rw [if_pos c1]
    (refine callS_of_awp (fun w args => Tryz.call57 ..) Tryz.func57 rfl (fun w0 m0 wz => ?_); simp only [Tryz.ntmps57, Tryz.results57, initT, junks, sl, List.toList_toArray, List.cons_append, List.nil_append, List.length_cons, List.length_nil, Nat.reduceAdd, Nat.reduceSub])
    (repeat' (first
 | refine awp_seqK ?_
 | refine kt ?_
 | refine And.intro ?_ ?_
 | ((first | refine awp_stp rfl ?_ | refine awp_draw (by kernel_rfl) (by kernel_rfl) ?_ | refine Imp.le2 ?_ | refine callK_of (none_c) ?_ | refine go_split (fun _h => ?_) (fun _h => ?_)) <;> try simp (maxSteps := 4000000) only [go_sem, seval, e1, eq_true c1, decide_true])
 | intro _h
 | refine awp_block ?_
 | refine awp_scope ?_
 | refine cond_b ?_ ?_
 | (show heapOK _ _ = true; kernel_rfl)
 | (show heapOK2 _ _ = true; kernel_rfl)
 | (omega)))
    all_goals trace_state
  · rw [if_neg c1]
    by_cases c2 : ((b1, b2) : Int × Int) = (1, 0)
    · rw [if_pos c2]
      (refine callS_of_awp (fun w args => Tryz.call57 ..) Tryz.func57 rfl (fun w0 m0 wz => ?_); simp only [Tryz.ntmps57, Tryz.results57, initT, junks, sl, List.toList_toArray, List.cons_append, List.nil_append, List.length_cons, List.length_nil, Nat.reduceAdd, Nat.reduceSub])
      (repeat' (first
 | refine awp_seqK ?_
 | refine kt ?_
 | refine And.intro ?_ ?_
 | ((first | refine awp_stp rfl ?_ | refine awp_draw (by kernel_rfl) (by kernel_rfl) ?_ | refine Imp.le2 ?_ | refine callK_of (none_c) ?_ | refine go_split (fun _h => ?_) (fun _h => ?_)) <;> try simp (maxSteps := 4000000) only [go_sem, seval, e1, e2, eq_false c1, eq_true c2, decide_true, decide_false])
 | intro _h
 | refine awp_block ?_
 | refine awp_scope ?_
 | refine cond_b ?_ ?_
 | (show heapOK _ _ = true; kernel_rfl)
 | (show heapOK2 _ _ = true; kernel_rfl)
 | (omega)))
      all_goals trace_state
    · rw [if_neg c2]
      (refine callS_of_awp (fun w args => Tryz.call57 ..) Tryz.func57 rfl (fun w0 m0 wz => ?_); simp only [Tryz.ntmps57, Tryz.results57, initT, junks, sl, List.toList_toArray, List.cons_append, List.nil_append, List.length_cons, List.length_nil, Nat.reduceAdd, Nat.reduceSub])
      (repeat' (first
 | refine awp_seqK ?_
 | refine kt ?_
 | refine And.intro ?_ ?_
 | ((first | refine awp_stp rfl ?_ | refine awp_draw (by kernel_rfl) (by kernel_rfl) ?_ | refine Imp.le2 ?_ | refine callK_of (none_c) ?_ | refine callK_of (least_c _ _ _) ?_ | refine callK_of (greatest_c _ _ _) ?_ | refine go_split (fun _h => ?_) (fun _h => ?_)) <;> try simp (maxSteps := 4000000) only [go_sem, seval, e1, e2, eq_false c1, eq_false c2, decide_false])
 | intro _h
 | refine awp_block ?_
 | refine awp_scope ?_
 | refine cond_b ?_ ?_
 | (show heapOK _ _ = true; kernel_rfl)
 | (show heapOK2 _ _ = true; kernel_rfl)
 | (omega)))
      all_goals trace_state
def boundV (l : Lake) (kind : Int) : Int := if kind = 1 then l.vols.getD l.weak.toNat 0 else l.vols.getD l.crest.toNat 0
theorem bound_c (l : Lake) (works : List Work) (ch : List Int) (kind : Int) (hw : 0 ≤ l.weak ∧ l.weak < l.vols.length) (hc : 0 ≤ l.crest ∧ l.crest < l.vols.length) : CallS Tryz.prog 47 [.agg (pumC l works ch), .int .i64 kind] (.int .i64 (boundV l kind)) := by
  unfold boundV
  by_cases c : kind = 1
  · rw [if_pos c]
    simp only [pumC, lakeC, List.cons_append, List.nil_append, sl]
    (refine callS_of_awp (fun w args => Tryz.call47 ..) Tryz.func47 rfl (fun w0 m0 wz => ?_); simp only [Tryz.ntmps47, Tryz.results47, initT, junks, sl, List.toList_toArray, List.cons_append, List.nil_append, List.length_cons, List.length_nil, Nat.reduceAdd, Nat.reduceSub])
    (repeat' (first
 | ((omega))
 | refine awp_seqK ?_
 | refine kt ?_
 | refine And.intro ?_ ?_
 | ((first | refine awp_stp rfl ?_ | refine awp_draw (by kernel_rfl) (by kernel_rfl) ?_ | refine Imp.le2 ?_ | refine go_split (fun _h => ?_) (fun _h => ?_)) <;> try simp (maxSteps := 4000000) only [go_sem, seval, eq_true c, decide_true])
 | intro _h
 | refine awp_block ?_
 | refine awp_scope ?_
 | refine cond_b ?_ ?_
 | (show heapOK _ _ = true; kernel_rfl)
 | (show heapOK2 _ _ = true; kernel_rfl)
 | (omega)))
    all_goals trace_state
  · rw [if_neg c]
    simp only [pumC, lakeC, List.cons_append, List.nil_append, sl]
    (refine callS_of_awp (fun w args => Tryz.call47 ..) Tryz.func47 rfl (fun w0 m0 wz => ?_); simp only [Tryz.ntmps47, Tryz.results47, initT, junks, sl, List.toList_toArray, List.cons_append, List.nil_append, List.length_cons, List.length_nil, Nat.reduceAdd, Nat.reduceSub])
    (repeat' (first
 | ((omega))
 | refine awp_seqK ?_
 | refine kt ?_
 | refine And.intro ?_ ?_
 | ((first | refine awp_stp rfl ?_ | refine awp_draw (by kernel_rfl) (by kernel_rfl) ?_ | refine Imp.le2 ?_ | refine go_split (fun _h => ?_) (fun _h => ?_)) <;> try simp (maxSteps := 4000000) only [go_sem, seval, eq_false c, decide_false])
 | intro _h
 | refine awp_block ?_
 | refine awp_scope ?_
 | refine cond_b ?_ ?_
 | (show heapOK _ _ = true; kernel_rfl)
 | (show heapOK2 _ _ = true; kernel_rfl)
 | (omega)))
    all_goals trace_state
def stepV (bd : Int) (x net : Int × Int) : (Int × Int) × Int :=
  if x = (1, 0) then ((1, 0), -1) else
    (if bd ≤ max 0 (x.1 + net.1) then (1, 0) else (max 0 (x.1 + net.1), min (max 0 (x.2 + net.2)) (bd - 1)), if bd ≤ max 0 (x.2 + net.2) then max 0 (x.2 + net.2) else -1)
theorem step_c (l : Lake) (works : List Work) (ch : List Int) (x net : Int × Int) (kind : Int) (hw : 0 ≤ l.weak ∧ l.weak < l.vols.length) (hc : 0 ≤ l.crest ∧ l.crest < l.vols.length) (hx : (-1000000000 ≤ x.1 ∧ x.1 ≤ 1000000000) ∧ -1000000000 ≤ x.2 ∧ x.2 ≤ 1000000000) (hn : (-1000000000 ≤ net.1 ∧ net.1 ≤ 1000000000) ∧ -1000000000 ≤ net.2 ∧ net.2 ≤ 1000000000) (hb : -1000000000 ≤ boundV l kind ∧ boundV l kind ≤ 1000000000) :
    CallS Tryz.prog 56 [.agg (pumC l works ch), .agg (rngC x), .agg (rngC net), .int .i64 kind] (.tup [.agg (rngC (stepV (boundV l kind) x net).1), .int .i64 (stepV (boundV l kind) x net).2]) := by
  have hbd := bound_c l works ch kind hw hc
  generalize boundV l kind = bd at *
  obtain ⟨x1, x2⟩ := x
  obtain ⟨n1, n2⟩ := net
  have e1 : (x1 = (1 : Int) ∧ x2 = (0 : Int)) = (((x1, x2) : Int × Int) = (1, 0)) := by simp only [Prod.mk.injEq]
  unfold stepV
  simp only [pumC, lakeC, List.cons_append, List.nil_append, sl] at hbd ⊢
  by_cases c1 : ((x1, x2) : Int × Int) = (1, 0)
  · rw [if_pos c1]
    (refine callS_of_awp (fun w args => Tryz.call56 ..) Tryz.func56 rfl (fun w0 m0 wz => ?_); simp only [Tryz.ntmps56, Tryz.results56, initT, junks, sl, List.toList_toArray, List.cons_append, List.nil_append, List.length_cons, List.length_nil, Nat.reduceAdd, Nat.reduceSub])
    (repeat' (first
 | refine awp_seqK ?_
 | refine kt ?_
 | refine And.intro ?_ ?_
 | ((first | refine awp_stp rfl ?_ | refine awp_draw (by kernel_rfl) (by kernel_rfl) ?_ | refine Imp.le2 ?_ | refine callK_of (none_c) ?_ | refine go_split (fun _h => ?_) (fun _h => ?_)) <;> try simp (maxSteps := 4000000) only [go_sem, seval, e1, eq_true c1, decide_true])
 | intro _h
 | refine awp_block ?_
 | refine awp_scope ?_
 | refine cond_b ?_ ?_
 | (show heapOK _ _ = true; kernel_rfl)
 | (show heapOK2 _ _ = true; kernel_rfl)
 | (omega)))
    all_goals first | rfl | (cases _h)
  · rw [if_neg c1]
    simp only at hx hn ⊢
    obtain ⟨lo, hlo⟩ : ∃ lo, max 0 (x1 + n1) = lo := ⟨_, rfl⟩
    obtain ⟨hi, hhi⟩ : ∃ hi, max 0 (x2 + n2) = hi := ⟨_, rfl⟩
    rw [hlo, hhi]
    have hlb : 0 ≤ lo ∧ lo ≤ 2000000000 := by omega
    have hhb : 0 ≤ hi ∧ hi ≤ 2000000000 := by omega
    by_cases c2 : bd ≤ hi
    · by_cases c3 : bd ≤ lo
      · simp only [if_pos c2, if_pos c3]
        (refine callS_of_awp (fun w args => Tryz.call56 ..) Tryz.func56 rfl (fun w0 m0 wz => ?_); simp only [Tryz.ntmps56, Tryz.results56, initT, junks, sl, List.toList_toArray, List.cons_append, List.nil_append, List.length_cons, List.length_nil, Nat.reduceAdd, Nat.reduceSub])
        (repeat' (first
 | ((omega))
 | refine awp_seqK ?_
 | refine kt ?_
 | refine And.intro ?_ ?_
 | ((first | refine awp_stp rfl ?_ | refine awp_draw (by kernel_rfl) (by kernel_rfl) ?_ | refine Imp.le2 ?_ | refine callK_of (none_c) ?_ | refine callK_of (greatest_c _ _ _) ?_ | refine callK_of (least_c _ _ _) ?_ | refine callK_of (hbd) ?_ | refine go_split (fun _h => ?_) (fun _h => ?_)) <;> try simp (maxSteps := 4000000) only [go_sem, seval, e1, eq_false c1, hlo, hhi, eq_true c2, eq_true c3, decide_true, decide_false])
 | intro _h
 | refine awp_block ?_
 | refine awp_scope ?_
 | refine cond_b ?_ ?_
 | (show heapOK _ _ = true; kernel_rfl)
 | (show heapOK2 _ _ = true; kernel_rfl)
 | (omega)))
        all_goals first | rfl | (cases _h)
      · simp only [if_pos c2, if_neg c3]
        (refine callS_of_awp (fun w args => Tryz.call56 ..) Tryz.func56 rfl (fun w0 m0 wz => ?_); simp only [Tryz.ntmps56, Tryz.results56, initT, junks, sl, List.toList_toArray, List.cons_append, List.nil_append, List.length_cons, List.length_nil, Nat.reduceAdd, Nat.reduceSub])
        (repeat' (first
 | ((omega))
 | refine awp_seqK ?_
 | refine kt ?_
 | refine And.intro ?_ ?_
 | ((first | refine awp_stp rfl ?_ | refine awp_draw (by kernel_rfl) (by kernel_rfl) ?_ | refine Imp.le2 ?_ | refine callK_of (none_c) ?_ | refine callK_of (greatest_c _ _ _) ?_ | refine callK_of (least_c _ _ _) ?_ | refine callK_of (hbd) ?_ | refine go_split (fun _h => ?_) (fun _h => ?_)) <;> try simp (maxSteps := 4000000) only [go_sem, seval, e1, eq_false c1, hlo, hhi, eq_true c2, eq_false c3, decide_true, decide_false])
 | intro _h
 | refine awp_block ?_
 | refine awp_scope ?_
 | refine cond_b ?_ ?_
 | (show heapOK _ _ = true; kernel_rfl)
 | (show heapOK2 _ _ = true; kernel_rfl)
 | (omega)))
        all_goals first | rfl | (cases _h)
    · by_cases c3 : bd ≤ lo
      · simp only [if_neg c2, if_pos c3]
        (refine callS_of_awp (fun w args => Tryz.call56 ..) Tryz.func56 rfl (fun w0 m0 wz => ?_); simp only [Tryz.ntmps56, Tryz.results56, initT, junks, sl, List.toList_toArray, List.cons_append, List.nil_append, List.length_cons, List.length_nil, Nat.reduceAdd, Nat.reduceSub])
        (repeat' (first
 | ((omega))
 | refine awp_seqK ?_
 | refine kt ?_
 | refine And.intro ?_ ?_
 | ((first | refine awp_stp rfl ?_ | refine awp_draw (by kernel_rfl) (by kernel_rfl) ?_ | refine Imp.le2 ?_ | refine callK_of (none_c) ?_ | refine callK_of (greatest_c _ _ _) ?_ | refine callK_of (least_c _ _ _) ?_ | refine callK_of (hbd) ?_ | refine go_split (fun _h => ?_) (fun _h => ?_)) <;> try simp (maxSteps := 4000000) only [go_sem, seval, e1, eq_false c1, hlo, hhi, eq_false c2, eq_true c3, decide_true, decide_false])
 | intro _h
 | refine awp_block ?_
 | refine awp_scope ?_
 | refine cond_b ?_ ?_
 | (show heapOK _ _ = true; kernel_rfl)
 | (show heapOK2 _ _ = true; kernel_rfl)
 | (omega)))
        all_goals first | rfl | (cases _h)
      · simp only [if_neg c2, if_neg c3]
        (refine callS_of_awp (fun w args => Tryz.call56 ..) Tryz.func56 rfl (fun w0 m0 wz => ?_); simp only [Tryz.ntmps56, Tryz.results56, initT, junks, sl, List.toList_toArray, List.cons_append, List.nil_append, List.length_cons, List.length_nil, Nat.reduceAdd, Nat.reduceSub])
        (repeat' (first
 | ((omega))
 | refine awp_seqK ?_
 | refine kt ?_
 | refine And.intro ?_ ?_
 | ((first | refine awp_stp rfl ?_ | refine awp_draw (by kernel_rfl) (by kernel_rfl) ?_ | refine Imp.le2 ?_ | refine callK_of (none_c) ?_ | refine callK_of (greatest_c _ _ _) ?_ | refine callK_of (least_c _ _ _) ?_ | refine callK_of (hbd) ?_ | refine go_split (fun _h => ?_) (fun _h => ?_)) <;> try simp (maxSteps := 4000000) only [go_sem, seval, e1, eq_false c1, hlo, hhi, eq_false c2, eq_false c3, decide_true, decide_false])
 | intro _h
 | refine awp_block ?_
 | refine awp_scope ?_
 | refine cond_b ?_ ?_
 | (show heapOK _ _ = true; kernel_rfl)
 | (show heapOK2 _ _ = true; kernel_rfl)
 | (omega)))
        all_goals first | rfl | (cases _h)
end La
end Go.Am
namespace Go.Am
namespace La
open Go.RowKit Go.Proofs
attribute [local irreducible] AWP CallS Kt goK CallK stepK evOps SemF SemY Imp
set_option maxRecDepth 4000
set_option linter.unusedSimpArgs false
set_option linter.unusedVariables false
set_option maxHeartbeats 3200000
def idxOf {α : Type} (q : α → Bool) (l : List α) : Int := match l.findIdx? q with | some i => i | none => -1
theorem idxOf_some {α : Type} {q : α → Bool} {l : List α} {d : α} {i : Nat} (hi : i < l.length) (h : q (l.getD i d) = true) (hj : ∀ j, j < i → q (l.getD j d) = false) : (i : Int) = idxOf q l := by
  have : l.findIdx? q = some i := by
    rw [List.findIdx?_eq_some_iff_getElem]
    refine ⟨hi, by simpa [List.getD_eq_getElem?_getD, hi] using h, fun j hji => ?_⟩
    have := hj j hji
    simpa [List.getD_eq_getElem?_getD, Nat.lt_trans hji hi] using this
  simp [idxOf, this]
theorem idxOf_none {α : Type} {q : α → Bool} {l : List α} {d : α} (hj : ∀ j, j < l.length → q (l.getD j d) = false) : -1 = idxOf q l := by
  have : l.findIdx? q = none := by
    rw [List.findIdx?_eq_none_iff]
    intro x hx
    obtain ⟨j, hjl, rfl⟩ := List.mem_iff_getElem.1 hx
    have := hj j hjl
    simpa [List.getD_eq_getElem?_getD, hjl] using this
  simp [idxOf, this]
theorem idxOf_ge {α : Type} {q : α → Bool} {l : List α} : decide (0 ≤ idxOf q l) = l.any q := by
  unfold idxOf
  cases h : l.findIdx? q with
  | none =>
    rw [List.findIdx?_eq_none_iff] at h
    have : l.any q = false := by rw [List.any_eq_false]; intro x hx; simp [h x hx]
    simp [this]
  | some i =>
    rw [List.findIdx?_eq_some_iff_getElem] at h
    obtain ⟨h1, h2, _⟩ := h
    have : l.any q = true := by rw [List.any_eq_true]; exact ⟨_, List.getElem_mem h1, h2⟩
    simp [this]
structure House where
  far : Int
  high : Int
  wide : Int
instance : Inhabited House := ⟨⟨0, 0, 0⟩⟩
def houseC (h : House) : List AV := [.int .i64 h.far, .int .i64 h.high, .int .i64 h.wide]
def slHo (l : List House) : AV := .psl false l.length (recs houseC l)
attribute [go_sem] houseC slHo
theorem pl_Ho {l : List (House)} : pureL (recs houseC l) = True := eq_true (recs_pure fun s => by simp [pureL, houseC, cellPure])
theorem lv_Ho {l : List (House)} {p : Nat → Bool} : (recs houseC l).all (live2 p) = true := recs_live fun s => by simp [pureL, houseC, cellPure]
theorem len_Ho {l : List (House)} : (recs houseC l).length = l.length * 3 := recs_length fun _ => rfl
theorem ld_Ho97 {l : List (House)} {i : Nat} {K : AV → Prop} : loadK Tryz.prog 97 (recs houseC l) (i * 3) K = (i < l.length ∧ K (.agg (houseC (l.getD i default)))) := ld_recs tagg97 tsz97 (fun _ => rfl) (by omega)
theorem nth_Ho0 {l : List (House)} {i : Nat} {K : AV → Prop} : optK (nth (recs houseC l) (i * 3)) K = (i < l.length ∧ K (.int .i64 (l.getD i default).far)) := nth_recs (sz := 3) (o := 0) (fun _ => rfl) (by omega)
theorem nth_Ho1 {l : List (House)} {i : Nat} {K : AV → Prop} : optK (nth (recs houseC l) (i * 3 + 1)) K = (i < l.length ∧ K (.int .i64 (l.getD i default).high)) := nth_recs (sz := 3) (o := 1) (fun _ => rfl) (by omega)
theorem nth_Ho2 {l : List (House)} {i : Nat} {K : AV → Prop} : optK (nth (recs houseC l) (i * 3 + 2)) K = (i < l.length ∧ K (.int .i64 (l.getD i default).wide)) := nth_recs (sz := 3) (o := 2) (fun _ => rfl) (by omega)
attribute [go_sem] pl_Ho lv_Ho len_Ho nth_Ho0 nth_Ho1 nth_Ho2
attribute [go_sem ↓] ld_Ho97
theorem pl_Wk {l : List (Work)} : pureL (recs workC l) = True := eq_true (recs_pure fun s => by simp [pureL, workC, cellPure])
theorem lv_Wk {l : List (Work)} {p : Nat → Bool} : (recs workC l).all (live2 p) = true := recs_live fun s => by simp [pureL, workC, cellPure]
theorem len_Wk {l : List (Work)} : (recs workC l).length = l.length * 3 := recs_length fun _ => rfl
theorem ld_Wk114 {l : List (Work)} {i : Nat} {K : AV → Prop} : loadK Tryz.prog 114 (recs workC l) (i * 3) K = (i < l.length ∧ K (.agg (workC (l.getD i default)))) := ld_recs tagg114 tsz114 (fun _ => rfl) (by omega)
theorem nth_Wk0 {l : List (Work)} {i : Nat} {K : AV → Prop} : optK (nth (recs workC l) (i * 3)) K = (i < l.length ∧ K (.int .i64 (l.getD i default).from0)) := nth_recs (sz := 3) (o := 0) (fun _ => rfl) (by omega)
theorem nth_Wk1 {l : List (Work)} {i : Nat} {K : AV → Prop} : optK (nth (recs workC l) (i * 3 + 1)) K = (i < l.length ∧ K (.int .i64 (l.getD i default).flow)) := nth_recs (sz := 3) (o := 1) (fun _ => rfl) (by omega)
theorem nth_Wk2 {l : List (Work)} {i : Nat} {K : AV → Prop} : optK (nth (recs workC l) (i * 3 + 2)) K = (i < l.length ∧ K (.int .i64 (l.getD i default).price)) := nth_recs (sz := 3) (o := 2) (fun _ => rfl) (by omega)
attribute [go_sem] pl_Wk lv_Wk len_Wk nth_Wk0 nth_Wk1 nth_Wk2
attribute [go_sem ↓] ld_Wk114
theorem pl_Rg {l : List (Int × Int)} : pureL (recs rngC l) = True := eq_true (recs_pure fun s => by simp [pureL, rngC, cellPure])
theorem lv_Rg {l : List (Int × Int)} {p : Nat → Bool} : (recs rngC l).all (live2 p) = true := recs_live fun s => by simp [pureL, rngC, cellPure]
theorem len_Rg {l : List (Int × Int)} : (recs rngC l).length = l.length * 2 := recs_length fun _ => rfl
theorem ld_Rg53 {l : List (Int × Int)} {i : Nat} {K : AV → Prop} : loadK Tryz.prog 53 (recs rngC l) (i * 2) K = (i < l.length ∧ K (.agg (rngC (l.getD i default)))) := ld_recs tagg53 tsz53 (fun _ => rfl) (by omega)
theorem nth_Rg0 {l : List (Int × Int)} {i : Nat} {K : AV → Prop} : optK (nth (recs rngC l) (i * 2)) K = (i < l.length ∧ K (.int .i64 (l.getD i default).1)) := nth_recs (sz := 2) (o := 0) (fun _ => rfl) (by omega)
theorem nth_Rg1 {l : List (Int × Int)} {i : Nat} {K : AV → Prop} : optK (nth (recs rngC l) (i * 2 + 1)) K = (i < l.length ∧ K (.int .i64 (l.getD i default).2)) := nth_recs (sz := 2) (o := 1) (fun _ => rfl) (by omega)
attribute [go_sem] pl_Rg lv_Rg len_Rg nth_Rg0 nth_Rg1
attribute [go_sem ↓] ld_Rg53
theorem idx_Ho (l : List (House)) (g : FuncId) (fv : AV) (q : House → Bool) (hl : l.length ≤ 9223372036854775807) (hq : ∀ i, i < l.length → CallS Tryz.prog g [.agg (houseC (l.getD i default)), .pptr [fv] 0] (.bool (q (l.getD i default)))) :
    CallS Tryz.prog 77 [slHo l, .fn (.func g) [] [.pptr [fv] 0]] (.int .i64 (idxOf q l)) := by
  simp only [houseC] at hq
  (refine callS_of_awp (fun w args => Tryz.call77 ..) Tryz.func77 rfl (fun w0 m0 wz => ?_); simp only [Tryz.ntmps77, Tryz.results77, initT, junks, sl, List.toList_toArray, List.cons_append, List.nil_append, List.length_cons, List.length_nil, Nat.reduceAdd, Nat.reduceSub])
  (repeat' (first
 | refine awp_seqK ?_
 | refine kt ?_
 | refine And.intro ?_ ?_
 | ((first | refine awp_stp rfl ?_ | refine awp_draw (by kernel_rfl) (by kernel_rfl) ?_ | refine Imp.le2 ?_ | refine go_split (fun _h => ?_) (fun _h => ?_)) <;> try simp (maxSteps := 4000000) only [go_sem, seval])
 | intro _h
 | refine awp_block ?_
 | refine awp_scope ?_
 | refine cond_b ?_ ?_
 | (show heapOK _ _ = true; kernel_rfl)
 | (show heapOK2 _ _ = true; kernel_rfl)
 | (omega)))
  refine awp_loopJ (fun i : Nat => i ≤ l.length ∧ ∀ j, j < i → q (l.getD j default) = false) (fun i => ⟨mkT 19 [(0, slHo l), (1, .fn (.func g) [] [.pptr [fv] 0]), (6, slHo l), (7, .int .i64 l.length), (8, .int .i64 i)], [], []⟩) (fun i => l.length - i) 0 ⟨Nat.zero_le _, by simp⟩ (.le2 ?_) ?_
  · simp (maxSteps := 4000000) only [go_sem, seval]
  · rintro i ⟨hi, hj⟩
    simp (maxSteps := 4000000) only [go_sem, seval]
    (repeat' (first
 | refine awp_seqK ?_
 | refine kt ?_
 | refine And.intro ?_ ?_
 | ((first | refine awp_stp rfl ?_ | refine awp_draw (by kernel_rfl) (by kernel_rfl) ?_ | refine Imp.le2 ?_ | refine callK_of (hq i (by omega)) ?_ | refine go_split (fun _h => ?_) (fun _h => ?_)) <;> try simp (maxSteps := 4000000) only [go_sem, seval])
 | intro _h
 | refine awp_block ?_
 | refine awp_scope ?_
 | refine cond_b ?_ ?_
 | (show heapOK _ _ = true; kernel_rfl)
 | (show heapOK2 _ _ = true; kernel_rfl)
 | (omega)))
    · exact idxOf_some (by omega) ‹_› hj
    · refine ⟨i + 1, ⟨by omega, fun j hji => ?_⟩, by omega, .le2 ?_⟩
      · rcases Nat.lt_succ_iff_lt_or_eq.1 hji with h | rfl
        · exact hj j h
        · assumption
      · simp (maxSteps := 4000000) only [go_sem, seval]
        all_goals omega
    · exact idxOf_none (d := default) (fun j hjl => hj j (by omega))
theorem has_Ho (l : List (House)) (g : FuncId) (fv : AV) (q : House → Bool) (hl : l.length ≤ 9223372036854775807) (hq : ∀ i, i < l.length → CallS Tryz.prog g [.agg (houseC (l.getD i default)), .pptr [fv] 0] (.bool (q (l.getD i default)))) :
    CallS Tryz.prog 51 [slHo l, .fn (.func g) [] [.pptr [fv] 0]] (.bool (l.any q)) := by
  rw [← idxOf_ge]
  (refine callS_of_awp (fun w args => Tryz.call51 ..) Tryz.func51 rfl (fun w0 m0 wz => ?_); simp only [Tryz.ntmps51, Tryz.results51, initT, junks, sl, List.toList_toArray, List.cons_append, List.nil_append, List.length_cons, List.length_nil, Nat.reduceAdd, Nat.reduceSub])
  (repeat' (first
 | refine awp_seqK ?_
 | refine kt ?_
 | refine And.intro ?_ ?_
 | ((first | refine awp_stp rfl ?_ | refine awp_draw (by kernel_rfl) (by kernel_rfl) ?_ | refine Imp.le2 ?_ | refine callK_of (idx_Ho l g fv q hl hq) ?_ | refine go_split (fun _h => ?_) (fun _h => ?_)) <;> try simp (maxSteps := 4000000) only [go_sem, seval])
 | intro _h
 | refine awp_block ?_
 | refine awp_scope ?_
 | refine cond_b ?_ ?_
 | (show heapOK _ _ = true; kernel_rfl)
 | (show heapOK2 _ _ = true; kernel_rfl)
 | (omega)))
theorem all1_Ho (s : House) (r : AV) (f : FuncId) (fc : List AV) (q : Bool) (hr : r = .fn (.func f) [] []) (hq : CallS Tryz.prog f [.agg (houseC s)] (.bool q)) : CallS Tryz.prog 52 [.agg (houseC s), .pptr [r] 0] (.bool (!q)) := by
  subst hr
  simp only [houseC] at hq ⊢
  (refine callS_of_awp (fun w args => Tryz.call52 ..) Tryz.func52 rfl (fun w0 m0 wz => ?_); simp only [Tryz.ntmps52, Tryz.results52, initT, junks, sl, List.toList_toArray, List.cons_append, List.nil_append, List.length_cons, List.length_nil, Nat.reduceAdd, Nat.reduceSub])
  (repeat' (first
 | refine awp_seqK ?_
 | refine kt ?_
 | refine And.intro ?_ ?_
 | ((first | refine awp_stp rfl ?_ | refine awp_draw (by kernel_rfl) (by kernel_rfl) ?_ | refine Imp.le2 ?_ | refine callK_of (hq) ?_ | refine go_split (fun _h => ?_) (fun _h => ?_)) <;> try simp (maxSteps := 4000000) only [go_sem, seval])
 | intro _h
 | refine awp_block ?_
 | refine awp_scope ?_
 | refine cond_b ?_ ?_
 | (show heapOK _ _ = true; kernel_rfl)
 | (show heapOK2 _ _ = true; kernel_rfl)
 | (omega))) <;> first | simp only [*, Bool.not_true, Bool.not_false] | trace_state
theorem all_Ho (l : List (House)) (f : FuncId) (q : House → Bool) (hl : l.length ≤ 9223372036854775807) (hq : ∀ i, i < l.length → CallS Tryz.prog f [.agg (houseC (l.getD i default))] (.bool (q (l.getD i default)))) :
    CallS Tryz.prog 32 [slHo l, .fn (.func f) [] []] (.bool (l.all q)) := by
  have hany : l.all q = !l.any (fun x => !q x) := by simp [List.all_eq_not_any_not]
  rw [hany]
  (refine callS_of_awp (fun w args => Tryz.call32 ..) Tryz.func32 rfl (fun w0 m0 wz => ?_); simp only [Tryz.ntmps32, Tryz.results32, initT, junks, sl, List.toList_toArray, List.cons_append, List.nil_append, List.length_cons, List.length_nil, Nat.reduceAdd, Nat.reduceSub])
  ((repeat refine awp_seqK ?_); refine awp_region ?_; simp (maxSteps := 4000000) only [go_sem, seval]; refine kt ?_)
  (refine awp_frz 0 rfl (by simp (maxSteps := 4000000) only [go_sem, seval]) (fun _ => rfl) ?_; simp only [frz, fzl, fz2, fz1, fz0, fzH, fzHs, fzO, fzB, List.map_cons, List.map_nil, if_true, if_false, reduceIte, Nat.reduceEqDiff, Nat.reduceAdd, Nat.succ_ne_self, Nat.zero_ne_one, Nat.one_ne_zero, reduceCtorEq, and_self])
  (repeat' (first
 | refine awp_seqK ?_
 | refine kt ?_
 | refine And.intro ?_ ?_
 | ((first | refine awp_stp rfl ?_ | refine awp_draw (by kernel_rfl) (by kernel_rfl) ?_ | refine Imp.le2 ?_ | refine callK_of (has_Ho l 52 (.fn (.func f) [] []) (fun x => !q x) hl (fun i hi => all1_Ho _ _ _ [] _ rfl (hq i hi))) ?_ | refine go_split (fun _h => ?_) (fun _h => ?_)) <;> try simp (maxSteps := 4000000) only [go_sem, seval])
 | intro _h
 | refine awp_block ?_
 | refine awp_scope ?_
 | refine cond_b ?_ ?_
 | (show heapOK _ _ = true; kernel_rfl)
 | (show heapOK2 _ _ = true; kernel_rfl)
 | (omega))) <;> simp only [*, Bool.not_true, Bool.not_false]
theorem idx_Wk (l : List (Work)) (g : FuncId) (fv : AV) (q : Work → Bool) (hl : l.length ≤ 9223372036854775807) (hq : ∀ i, i < l.length → CallS Tryz.prog g [.agg (workC (l.getD i default)), .pptr [fv] 0] (.bool (q (l.getD i default)))) :
    CallS Tryz.prog 96 [slWk l, .fn (.func g) [] [.pptr [fv] 0]] (.int .i64 (idxOf q l)) := by
  simp only [workC] at hq
  (refine callS_of_awp (fun w args => Tryz.call96 ..) Tryz.func96 rfl (fun w0 m0 wz => ?_); simp only [Tryz.ntmps96, Tryz.results96, initT, junks, sl, List.toList_toArray, List.cons_append, List.nil_append, List.length_cons, List.length_nil, Nat.reduceAdd, Nat.reduceSub])
  (repeat' (first
 | refine awp_seqK ?_
 | refine kt ?_
 | refine And.intro ?_ ?_
 | ((first | refine awp_stp rfl ?_ | refine awp_draw (by kernel_rfl) (by kernel_rfl) ?_ | refine Imp.le2 ?_ | refine go_split (fun _h => ?_) (fun _h => ?_)) <;> try simp (maxSteps := 4000000) only [go_sem, seval])
 | intro _h
 | refine awp_block ?_
 | refine awp_scope ?_
 | refine cond_b ?_ ?_
 | (show heapOK _ _ = true; kernel_rfl)
 | (show heapOK2 _ _ = true; kernel_rfl)
 | (omega)))
  refine awp_loopJ (fun i : Nat => i ≤ l.length ∧ ∀ j, j < i → q (l.getD j default) = false) (fun i => ⟨mkT 19 [(0, slWk l), (1, .fn (.func g) [] [.pptr [fv] 0]), (6, slWk l), (7, .int .i64 l.length), (8, .int .i64 i)], [], []⟩) (fun i => l.length - i) 0 ⟨Nat.zero_le _, by simp⟩ (.le2 ?_) ?_
  · simp (maxSteps := 4000000) only [go_sem, seval]
  · rintro i ⟨hi, hj⟩
    simp (maxSteps := 4000000) only [go_sem, seval]
    (repeat' (first
 | refine awp_seqK ?_
 | refine kt ?_
 | refine And.intro ?_ ?_
 | ((first | refine awp_stp rfl ?_ | refine awp_draw (by kernel_rfl) (by kernel_rfl) ?_ | refine Imp.le2 ?_ | refine callK_of (hq i (by omega)) ?_ | refine go_split (fun _h => ?_) (fun _h => ?_)) <;> try simp (maxSteps := 4000000) only [go_sem, seval])
 | intro _h
 | refine awp_block ?_
 | refine awp_scope ?_
 | refine cond_b ?_ ?_
 | (show heapOK _ _ = true; kernel_rfl)
 | (show heapOK2 _ _ = true; kernel_rfl)
 | (omega)))
    · exact idxOf_some (by omega) ‹_› hj
    · refine ⟨i + 1, ⟨by omega, fun j hji => ?_⟩, by omega, .le2 ?_⟩
      · rcases Nat.lt_succ_iff_lt_or_eq.1 hji with h | rfl
        · exact hj j h
        · assumption
      · simp (maxSteps := 4000000) only [go_sem, seval]
        all_goals omega
    · exact idxOf_none (d := default) (fun j hjl => hj j (by omega))
theorem has_Wk (l : List (Work)) (g : FuncId) (fv : AV) (q : Work → Bool) (hl : l.length ≤ 9223372036854775807) (hq : ∀ i, i < l.length → CallS Tryz.prog g [.agg (workC (l.getD i default)), .pptr [fv] 0] (.bool (q (l.getD i default)))) :
    CallS Tryz.prog 75 [slWk l, .fn (.func g) [] [.pptr [fv] 0]] (.bool (l.any q)) := by
  rw [← idxOf_ge]
  (refine callS_of_awp (fun w args => Tryz.call75 ..) Tryz.func75 rfl (fun w0 m0 wz => ?_); simp only [Tryz.ntmps75, Tryz.results75, initT, junks, sl, List.toList_toArray, List.cons_append, List.nil_append, List.length_cons, List.length_nil, Nat.reduceAdd, Nat.reduceSub])
  (repeat' (first
 | refine awp_seqK ?_
 | refine kt ?_
 | refine And.intro ?_ ?_
 | ((first | refine awp_stp rfl ?_ | refine awp_draw (by kernel_rfl) (by kernel_rfl) ?_ | refine Imp.le2 ?_ | refine callK_of (idx_Wk l g fv q hl hq) ?_ | refine go_split (fun _h => ?_) (fun _h => ?_)) <;> try simp (maxSteps := 4000000) only [go_sem, seval])
 | intro _h
 | refine awp_block ?_
 | refine awp_scope ?_
 | refine cond_b ?_ ?_
 | (show heapOK _ _ = true; kernel_rfl)
 | (show heapOK2 _ _ = true; kernel_rfl)
 | (omega)))
theorem all1_Wk (s : Work) (r : AV) (f : FuncId) (fc : List AV) (q : Bool) (hr : r = .fn (.func f) [] []) (hq : CallS Tryz.prog f [.agg (workC s)] (.bool q)) : CallS Tryz.prog 76 [.agg (workC s), .pptr [r] 0] (.bool (!q)) := by
  subst hr
  simp only [workC] at hq ⊢
  (refine callS_of_awp (fun w args => Tryz.call76 ..) Tryz.func76 rfl (fun w0 m0 wz => ?_); simp only [Tryz.ntmps76, Tryz.results76, initT, junks, sl, List.toList_toArray, List.cons_append, List.nil_append, List.length_cons, List.length_nil, Nat.reduceAdd, Nat.reduceSub])
  (repeat' (first
 | refine awp_seqK ?_
 | refine kt ?_
 | refine And.intro ?_ ?_
 | ((first | refine awp_stp rfl ?_ | refine awp_draw (by kernel_rfl) (by kernel_rfl) ?_ | refine Imp.le2 ?_ | refine callK_of (hq) ?_ | refine go_split (fun _h => ?_) (fun _h => ?_)) <;> try simp (maxSteps := 4000000) only [go_sem, seval])
 | intro _h
 | refine awp_block ?_
 | refine awp_scope ?_
 | refine cond_b ?_ ?_
 | (show heapOK _ _ = true; kernel_rfl)
 | (show heapOK2 _ _ = true; kernel_rfl)
 | (omega))) <;> first | simp only [*, Bool.not_true, Bool.not_false] | trace_state
theorem all_Wk (l : List (Work)) (f : FuncId) (q : Work → Bool) (hl : l.length ≤ 9223372036854775807) (hq : ∀ i, i < l.length → CallS Tryz.prog f [.agg (workC (l.getD i default))] (.bool (q (l.getD i default)))) :
    CallS Tryz.prog 49 [slWk l, .fn (.func f) [] []] (.bool (l.all q)) := by
  have hany : l.all q = !l.any (fun x => !q x) := by simp [List.all_eq_not_any_not]
  rw [hany]
  (refine callS_of_awp (fun w args => Tryz.call49 ..) Tryz.func49 rfl (fun w0 m0 wz => ?_); simp only [Tryz.ntmps49, Tryz.results49, initT, junks, sl, List.toList_toArray, List.cons_append, List.nil_append, List.length_cons, List.length_nil, Nat.reduceAdd, Nat.reduceSub])
  ((repeat refine awp_seqK ?_); refine awp_region ?_; simp (maxSteps := 4000000) only [go_sem, seval]; refine kt ?_)
  (refine awp_frz 0 rfl (by simp (maxSteps := 4000000) only [go_sem, seval]) (fun _ => rfl) ?_; simp only [frz, fzl, fz2, fz1, fz0, fzH, fzHs, fzO, fzB, List.map_cons, List.map_nil, if_true, if_false, reduceIte, Nat.reduceEqDiff, Nat.reduceAdd, Nat.succ_ne_self, Nat.zero_ne_one, Nat.one_ne_zero, reduceCtorEq, and_self])
  (repeat' (first
 | refine awp_seqK ?_
 | refine kt ?_
 | refine And.intro ?_ ?_
 | ((first | refine awp_stp rfl ?_ | refine awp_draw (by kernel_rfl) (by kernel_rfl) ?_ | refine Imp.le2 ?_ | refine callK_of (has_Wk l 76 (.fn (.func f) [] []) (fun x => !q x) hl (fun i hi => all1_Wk _ _ _ [] _ rfl (hq i hi))) ?_ | refine go_split (fun _h => ?_) (fun _h => ?_)) <;> try simp (maxSteps := 4000000) only [go_sem, seval])
 | intro _h
 | refine awp_block ?_
 | refine awp_scope ?_
 | refine cond_b ?_ ?_
 | (show heapOK _ _ = true; kernel_rfl)
 | (show heapOK2 _ _ = true; kernel_rfl)
 | (omega))) <;> simp only [*, Bool.not_true, Bool.not_false]
theorem idx_Rg (l : List (Int × Int)) (g : FuncId) (fv : AV) (q : Int × Int → Bool) (hl : l.length ≤ 9223372036854775807) (hq : ∀ i, i < l.length → CallS Tryz.prog g [.agg (rngC (l.getD i default)), .pptr [fv] 0] (.bool (q (l.getD i default)))) :
    CallS Tryz.prog 107 [slR l, .fn (.func g) [] [.pptr [fv] 0]] (.int .i64 (idxOf q l)) := by
  simp only [rngC] at hq
  (refine callS_of_awp (fun w args => Tryz.call107 ..) Tryz.func107 rfl (fun w0 m0 wz => ?_); simp only [Tryz.ntmps107, Tryz.results107, initT, junks, sl, List.toList_toArray, List.cons_append, List.nil_append, List.length_cons, List.length_nil, Nat.reduceAdd, Nat.reduceSub])
  (repeat' (first
 | refine awp_seqK ?_
 | refine kt ?_
 | refine And.intro ?_ ?_
 | ((first | refine awp_stp rfl ?_ | refine awp_draw (by kernel_rfl) (by kernel_rfl) ?_ | refine Imp.le2 ?_ | refine go_split (fun _h => ?_) (fun _h => ?_)) <;> try simp (maxSteps := 4000000) only [go_sem, seval])
 | intro _h
 | refine awp_block ?_
 | refine awp_scope ?_
 | refine cond_b ?_ ?_
 | (show heapOK _ _ = true; kernel_rfl)
 | (show heapOK2 _ _ = true; kernel_rfl)
 | (omega)))
  refine awp_loopJ (fun i : Nat => i ≤ l.length ∧ ∀ j, j < i → q (l.getD j default) = false) (fun i => ⟨mkT 19 [(0, slR l), (1, .fn (.func g) [] [.pptr [fv] 0]), (6, slR l), (7, .int .i64 l.length), (8, .int .i64 i)], [], []⟩) (fun i => l.length - i) 0 ⟨Nat.zero_le _, by simp⟩ (.le2 ?_) ?_
  · simp (maxSteps := 4000000) only [go_sem, seval]
  · rintro i ⟨hi, hj⟩
    simp (maxSteps := 4000000) only [go_sem, seval]
    (repeat' (first
 | refine awp_seqK ?_
 | refine kt ?_
 | refine And.intro ?_ ?_
 | ((first | refine awp_stp rfl ?_ | refine awp_draw (by kernel_rfl) (by kernel_rfl) ?_ | refine Imp.le2 ?_ | refine callK_of (hq i (by omega)) ?_ | refine go_split (fun _h => ?_) (fun _h => ?_)) <;> try simp (maxSteps := 4000000) only [go_sem, seval])
 | intro _h
 | refine awp_block ?_
 | refine awp_scope ?_
 | refine cond_b ?_ ?_
 | (show heapOK _ _ = true; kernel_rfl)
 | (show heapOK2 _ _ = true; kernel_rfl)
 | (omega)))
    · exact idxOf_some (by omega) ‹_› hj
    · refine ⟨i + 1, ⟨by omega, fun j hji => ?_⟩, by omega, .le2 ?_⟩
      · rcases Nat.lt_succ_iff_lt_or_eq.1 hji with h | rfl
        · exact hj j h
        · assumption
      · simp (maxSteps := 4000000) only [go_sem, seval]
        all_goals omega
    · exact idxOf_none (d := default) (fun j hjl => hj j (by omega))
theorem has_Rg (l : List (Int × Int)) (g : FuncId) (fv : AV) (q : Int × Int → Bool) (hl : l.length ≤ 9223372036854775807) (hq : ∀ i, i < l.length → CallS Tryz.prog g [.agg (rngC (l.getD i default)), .pptr [fv] 0] (.bool (q (l.getD i default)))) :
    CallS Tryz.prog 94 [slR l, .fn (.func g) [] [.pptr [fv] 0]] (.bool (l.any q)) := by
  rw [← idxOf_ge]
  (refine callS_of_awp (fun w args => Tryz.call94 ..) Tryz.func94 rfl (fun w0 m0 wz => ?_); simp only [Tryz.ntmps94, Tryz.results94, initT, junks, sl, List.toList_toArray, List.cons_append, List.nil_append, List.length_cons, List.length_nil, Nat.reduceAdd, Nat.reduceSub])
  (repeat' (first
 | refine awp_seqK ?_
 | refine kt ?_
 | refine And.intro ?_ ?_
 | ((first | refine awp_stp rfl ?_ | refine awp_draw (by kernel_rfl) (by kernel_rfl) ?_ | refine Imp.le2 ?_ | refine callK_of (idx_Rg l g fv q hl hq) ?_ | refine go_split (fun _h => ?_) (fun _h => ?_)) <;> try simp (maxSteps := 4000000) only [go_sem, seval])
 | intro _h
 | refine awp_block ?_
 | refine awp_scope ?_
 | refine cond_b ?_ ?_
 | (show heapOK _ _ = true; kernel_rfl)
 | (show heapOK2 _ _ = true; kernel_rfl)
 | (omega)))
theorem all1_Rg (s : Int × Int) (r : AV) (f : FuncId) (fc : List AV) (q : Bool) (hr : r = .fn (.func f) [] []) (hq : CallS Tryz.prog f [.agg (rngC s)] (.bool q)) : CallS Tryz.prog 95 [.agg (rngC s), .pptr [r] 0] (.bool (!q)) := by
  subst hr
  simp only [rngC] at hq ⊢
  (refine callS_of_awp (fun w args => Tryz.call95 ..) Tryz.func95 rfl (fun w0 m0 wz => ?_); simp only [Tryz.ntmps95, Tryz.results95, initT, junks, sl, List.toList_toArray, List.cons_append, List.nil_append, List.length_cons, List.length_nil, Nat.reduceAdd, Nat.reduceSub])
  (repeat' (first
 | refine awp_seqK ?_
 | refine kt ?_
 | refine And.intro ?_ ?_
 | ((first | refine awp_stp rfl ?_ | refine awp_draw (by kernel_rfl) (by kernel_rfl) ?_ | refine Imp.le2 ?_ | refine callK_of (hq) ?_ | refine go_split (fun _h => ?_) (fun _h => ?_)) <;> try simp (maxSteps := 4000000) only [go_sem, seval])
 | intro _h
 | refine awp_block ?_
 | refine awp_scope ?_
 | refine cond_b ?_ ?_
 | (show heapOK _ _ = true; kernel_rfl)
 | (show heapOK2 _ _ = true; kernel_rfl)
 | (omega))) <;> first | simp only [*, Bool.not_true, Bool.not_false] | trace_state
theorem all_Rg (l : List (Int × Int)) (f : FuncId) (q : Int × Int → Bool) (hl : l.length ≤ 9223372036854775807) (hq : ∀ i, i < l.length → CallS Tryz.prog f [.agg (rngC (l.getD i default))] (.bool (q (l.getD i default)))) :
    CallS Tryz.prog 74 [slR l, .fn (.func f) [] []] (.bool (l.all q)) := by
  have hany : l.all q = !l.any (fun x => !q x) := by simp [List.all_eq_not_any_not]
  rw [hany]
  (refine callS_of_awp (fun w args => Tryz.call74 ..) Tryz.func74 rfl (fun w0 m0 wz => ?_); simp only [Tryz.ntmps74, Tryz.results74, initT, junks, sl, List.toList_toArray, List.cons_append, List.nil_append, List.length_cons, List.length_nil, Nat.reduceAdd, Nat.reduceSub])
  ((repeat refine awp_seqK ?_); refine awp_region ?_; simp (maxSteps := 4000000) only [go_sem, seval]; refine kt ?_)
  (refine awp_frz 0 rfl (by simp (maxSteps := 4000000) only [go_sem, seval]) (fun _ => rfl) ?_; simp only [frz, fzl, fz2, fz1, fz0, fzH, fzHs, fzO, fzB, List.map_cons, List.map_nil, if_true, if_false, reduceIte, Nat.reduceEqDiff, Nat.reduceAdd, Nat.succ_ne_self, Nat.zero_ne_one, Nat.one_ne_zero, reduceCtorEq, and_self])
  (repeat' (first
 | refine awp_seqK ?_
 | refine kt ?_
 | refine And.intro ?_ ?_
 | ((first | refine awp_stp rfl ?_ | refine awp_draw (by kernel_rfl) (by kernel_rfl) ?_ | refine Imp.le2 ?_ | refine callK_of (has_Rg l 95 (.fn (.func f) [] []) (fun x => !q x) hl (fun i hi => all1_Rg _ _ _ [] _ rfl (hq i hi))) ?_ | refine go_split (fun _h => ?_) (fun _h => ?_)) <;> try simp (maxSteps := 4000000) only [go_sem, seval])
 | intro _h
 | refine awp_block ?_
 | refine awp_scope ?_
 | refine cond_b ?_ ?_
 | (show heapOK _ _ = true; kernel_rfl)
 | (show heapOK2 _ _ = true; kernel_rfl)
 | (omega))) <;> simp only [*, Bool.not_true, Bool.not_false]
end La
end Go.Am
namespace Go.Am
namespace La
open Go.RowKit Go.Proofs
attribute [local irreducible] AWP CallS Kt goK CallK stepK evOps SemF SemY Imp
set_option maxRecDepth 4000
set_option linter.unusedSimpArgs false
set_option linter.unusedVariables false
set_option maxHeartbeats 3200000
theorem ld_Wk96 {l : List Work} {i : Nat} {K : AV → Prop} : loadK Tryz.prog 96 (recs workC l) (i * 3) K = (i < l.length ∧ K (.agg (workC (l.getD i default)))) := ld_recs tagg96 tsz96 (fun _ => rfl) (by omega)
theorem ld_Ho48 {l : List House} {i : Nat} {K : AV → Prop} : loadK Tryz.prog 48 (recs houseC l) (i * 3) K = (i < l.length ∧ K (.agg (houseC (l.getD i default)))) := ld_recs tagg48 tsz48 (fun _ => rfl) (by omega)
theorem ld_Rg29 {l : List (Int × Int)} {i : Nat} {K : AV → Prop} : loadK Tryz.prog 29 (recs rngC l) (i * 2) K = (i < l.length ∧ K (.agg (rngC (l.getD i default)))) := ld_recs tagg29 tsz29 (fun _ => rfl) (by omega)
attribute [go_sem ↓] ld_Wk96 ld_Ho48 ld_Rg29
theorem in_c (n lo hi : Int) : CallS Tryz.prog 27 [.int .i64 n, .int .i64 lo, .int .i64 hi] (.bool (decide (lo ≤ n ∧ n ≤ hi))) := by
  rw [Bool.decide_and]
  (refine callS_of_awp (fun w args => Tryz.call27 ..) Tryz.func27 rfl (fun w0 m0 wz => ?_); simp only [Tryz.ntmps27, Tryz.results27, initT, junks, sl, List.toList_toArray, List.cons_append, List.nil_append, List.length_cons, List.length_nil, Nat.reduceAdd, Nat.reduceSub])
  (repeat' (first
 | refine awp_seqK ?_
 | refine kt ?_
 | refine And.intro ?_ ?_
 | ((first | refine awp_stp rfl ?_ | refine awp_draw (by kernel_rfl) (by kernel_rfl) ?_ | refine Imp.le2 ?_ | refine go_split (fun _h => ?_) (fun _h => ?_)) <;> try simp (maxSteps := 4000000) only [go_sem, seval])
 | intro _h
 | refine awp_block ?_
 | refine awp_scope ?_
 | refine cond_b ?_ ?_
 | (show heapOK _ _ = true; kernel_rfl)
 | (show heapOK2 _ _ = true; kernel_rfl)
 | (omega)))
  all_goals (simp_all; try omega)
theorem span_c (lo hi most : Int) : CallS Tryz.prog 28 [.agg [.int .i64 lo, .int .i64 hi], .int .i64 most] (.bool (decide ((0 ≤ lo ∧ lo ≤ hi) ∧ hi ≤ most))) := by
  rw [Bool.decide_and]
  (refine callS_of_awp (fun w args => Tryz.call28 ..) Tryz.func28 rfl (fun w0 m0 wz => ?_); simp only [Tryz.ntmps28, Tryz.results28, initT, junks, sl, List.toList_toArray, List.cons_append, List.nil_append, List.length_cons, List.length_nil, Nat.reduceAdd, Nat.reduceSub])
  (repeat' (first
 | refine awp_seqK ?_
 | refine kt ?_
 | refine And.intro ?_ ?_
 | ((first | refine awp_stp rfl ?_ | refine awp_draw (by kernel_rfl) (by kernel_rfl) ?_ | refine Imp.le2 ?_ | refine callK_of (in_c _ _ _) ?_ | refine go_split (fun _h => ?_) (fun _h => ?_)) <;> try simp (maxSteps := 4000000) only [go_sem, seval])
 | intro _h
 | refine awp_block ?_
 | refine awp_scope ?_
 | refine cond_b ?_ ?_
 | (show heapOK _ _ = true; kernel_rfl)
 | (show heapOK2 _ _ = true; kernel_rfl)
 | (omega)))
  all_goals (simp_all; try omega)
def houseB (h : House) : Bool := decide ((0 ≤ h.far ∧ h.far ≤ 200) ∧ (0 ≤ h.high ∧ h.high ≤ 10000) ∧ 1 ≤ h.wide ∧ h.wide ≤ 10000)
def workB (w : Work) : Bool := decide ((0 ≤ w.from0 ∧ w.from0 ≤ 60) ∧ (0 ≤ w.flow ∧ w.flow ≤ 1000000) ∧ 0 ≤ w.price ∧ w.price ≤ 1000000)
theorem hvalid_c (h : House) : CallS Tryz.prog 33 [.agg (houseC h)] (.bool (houseB h)) := by
  unfold houseB
  rw [Bool.decide_and, Bool.decide_and]
  simp only [houseC]
  (refine callS_of_awp (fun w args => Tryz.call33 ..) Tryz.func33 rfl (fun w0 m0 wz => ?_); simp only [Tryz.ntmps33, Tryz.results33, initT, junks, sl, List.toList_toArray, List.cons_append, List.nil_append, List.length_cons, List.length_nil, Nat.reduceAdd, Nat.reduceSub])
  (repeat' (first
 | refine awp_seqK ?_
 | refine kt ?_
 | refine And.intro ?_ ?_
 | ((first | refine awp_stp rfl ?_ | refine awp_draw (by kernel_rfl) (by kernel_rfl) ?_ | refine Imp.le2 ?_ | refine callK_of (within_c _ _ _) ?_ | refine go_split (fun _h => ?_) (fun _h => ?_)) <;> try simp (maxSteps := 4000000) only [go_sem, seval])
 | intro _h
 | refine awp_block ?_
 | refine awp_scope ?_
 | refine cond_b ?_ ?_
 | (show heapOK _ _ = true; kernel_rfl)
 | (show heapOK2 _ _ = true; kernel_rfl)
 | (omega)))
  all_goals (simp_all; try omega)
theorem wvalid_c (w : Work) : CallS Tryz.prog 50 [.agg (workC w)] (.bool (workB w)) := by
  unfold workB
  rw [Bool.decide_and, Bool.decide_and]
  simp only [workC]
  (refine callS_of_awp (fun w args => Tryz.call50 ..) Tryz.func50 rfl (fun w0 m0 wz => ?_); simp only [Tryz.ntmps50, Tryz.results50, initT, junks, sl, List.toList_toArray, List.cons_append, List.nil_append, List.length_cons, List.length_nil, Nat.reduceAdd, Nat.reduceSub])
  (repeat' (first
 | refine awp_seqK ?_
 | refine kt ?_
 | refine And.intro ?_ ?_
 | ((first | refine awp_stp rfl ?_ | refine awp_draw (by kernel_rfl) (by kernel_rfl) ?_ | refine Imp.le2 ?_ | refine callK_of (within_c _ _ _) ?_ | refine go_split (fun _h => ?_) (fun _h => ?_)) <;> try simp (maxSteps := 4000000) only [go_sem, seval])
 | intro _h
 | refine awp_block ?_
 | refine awp_scope ?_
 | refine cond_b ?_ ?_
 | (show heapOK _ _ = true; kernel_rfl)
 | (show heapOK2 _ _ = true; kernel_rfl)
 | (omega)))
  all_goals (simp_all; try omega)
theorem rightHouse_c (h : House) : CallS Tryz.prog 12 [.agg (houseC h)] (.bool (houseB h)) := by
  unfold houseB
  rw [Bool.decide_and, Bool.decide_and]
  simp only [houseC]
  (refine callS_of_awp (fun w args => Tryz.call12 ..) Tryz.func12 rfl (fun w0 m0 wz => ?_); simp only [Tryz.ntmps12, Tryz.results12, initT, junks, sl, List.toList_toArray, List.cons_append, List.nil_append, List.length_cons, List.length_nil, Nat.reduceAdd, Nat.reduceSub])
  (repeat' (first
 | refine awp_seqK ?_
 | refine kt ?_
 | refine And.intro ?_ ?_
 | ((first | refine awp_stp rfl ?_ | refine awp_draw (by kernel_rfl) (by kernel_rfl) ?_ | refine Imp.le2 ?_ | refine callK_of (in_c _ _ _) ?_ | refine go_split (fun _h => ?_) (fun _h => ?_)) <;> try simp (maxSteps := 4000000) only [go_sem, seval])
 | intro _h
 | refine awp_block ?_
 | refine awp_scope ?_
 | refine cond_b ?_ ?_
 | (show heapOK _ _ = true; kernel_rfl)
 | (show heapOK2 _ _ = true; kernel_rfl)
 | (omega)))
  all_goals (simp_all; try omega)
theorem rightRiver_c (loss plo phi : Int) : CallS Tryz.prog 10 [.agg [.int .i64 loss, .int .i64 plo, .int .i64 phi]] (.bool (decide ((0 ≤ loss ∧ loss ≤ 1000000) ∧ (0 ≤ plo ∧ plo ≤ phi) ∧ phi ≤ 60))) := by
  rw [Bool.decide_and (p := 0 ≤ loss ∧ loss ≤ 1000000)]
  (refine callS_of_awp (fun w args => Tryz.call10 ..) Tryz.func10 rfl (fun w0 m0 wz => ?_); simp only [Tryz.ntmps10, Tryz.results10, initT, junks, sl, List.toList_toArray, List.cons_append, List.nil_append, List.length_cons, List.length_nil, Nat.reduceAdd, Nat.reduceSub])
  (repeat' (first
 | refine awp_seqK ?_
 | refine kt ?_
 | refine And.intro ?_ ?_
 | ((first | refine awp_stp rfl ?_ | refine awp_draw (by kernel_rfl) (by kernel_rfl) ?_ | refine Imp.le2 ?_ | refine callK_of (in_c _ _ _) ?_ | refine callK_of (span_c _ _ _) ?_ | refine go_split (fun _h => ?_) (fun _h => ?_)) <;> try simp (maxSteps := 4000000) only [go_sem, seval])
 | intro _h
 | refine awp_block ?_
 | refine awp_scope ?_
 | refine cond_b ?_ ?_
 | (show heapOK _ _ = true; kernel_rfl)
 | (show heapOK2 _ _ = true; kernel_rfl)
 | (omega)))
  all_goals (simp_all; try omega)
def faultW (l : List Work) : Int := if 10 < l.length then 3 else if l.all workB = true then 0 else 1
theorem worksFault_c (l : List Work) (hl : l.length ≤ 1000000) : CallS Tryz.prog 8 [slWk l] (.int .i64 (faultW l)) := by
  unfold faultW
  by_cases c : 10 < l.length
  · have e : (10 < (l.length : Int)) = True := eq_true (by omega)
    rw [if_pos c]
    simp only [slWk]
    (refine callS_of_awp (fun w args => Tryz.call8 ..) Tryz.func8 rfl (fun w0 m0 wz => ?_); simp only [Tryz.ntmps8, Tryz.results8, initT, junks, sl, List.toList_toArray, List.cons_append, List.nil_append, List.length_cons, List.length_nil, Nat.reduceAdd, Nat.reduceSub])
    (repeat' (first
 | refine awp_seqK ?_
 | refine kt ?_
 | refine And.intro ?_ ?_
 | ((first | refine awp_stp rfl ?_ | refine awp_draw (by kernel_rfl) (by kernel_rfl) ?_ | refine Imp.le2 ?_ | refine go_split (fun _h => ?_) (fun _h => ?_)) <;> try simp (maxSteps := 4000000) only [go_sem, seval, e, decide_true])
 | intro _h
 | refine awp_block ?_
 | refine awp_scope ?_
 | refine cond_b ?_ ?_
 | (show heapOK _ _ = true; kernel_rfl)
 | (show heapOK2 _ _ = true; kernel_rfl)
 | (omega)))
    all_goals trace_state
  · have e : (10 < (l.length : Int)) = False := eq_false (by omega)
    rw [if_neg c]
    have hyes : (∀ j, j < l.length → workB (l.getD j default) = true) → (0 : Int) = if l.all workB = true then 0 else 1 := fun h => by
      rw [if_pos]
      rw [List.all_eq_true]
      intro x hx
      obtain ⟨j, hj, rfl⟩ := mem_getD (d := default) hx
      exact h j hj
    have hno : ∀ j, j < l.length → workB (l.getD j default) = false → (1 : Int) = if l.all workB = true then 0 else 1 := fun j hj h => by
      rw [if_neg]
      intro h2
      rw [List.all_eq_true] at h2
      have := h2 _ (getD_mem (d := default) hj)
      rw [h] at this; cases this
    generalize (if l.all workB = true then (0 : Int) else 1) = r at *
    simp only [slWk]
    (refine callS_of_awp (fun w args => Tryz.call8 ..) Tryz.func8 rfl (fun w0 m0 wz => ?_); simp only [Tryz.ntmps8, Tryz.results8, initT, junks, sl, List.toList_toArray, List.cons_append, List.nil_append, List.length_cons, List.length_nil, Nat.reduceAdd, Nat.reduceSub])
    (repeat' (first
 | refine awp_seqK ?_
 | refine kt ?_
 | refine And.intro ?_ ?_
 | ((first | refine awp_stp rfl ?_ | refine awp_draw (by kernel_rfl) (by kernel_rfl) ?_ | refine Imp.le2 ?_ | refine go_split (fun _h => ?_) (fun _h => ?_)) <;> try simp (maxSteps := 4000000) only [go_sem, seval, e, decide_false])
 | intro _h
 | refine awp_block ?_
 | refine awp_scope ?_
 | refine cond_b ?_ ?_
 | (show heapOK _ _ = true; kernel_rfl)
 | (show heapOK2 _ _ = true; kernel_rfl)
 | (omega)))
    refine awp_loopJ (fun i : Nat => i ≤ l.length ∧ ∀ j, j < i → workB (l.getD j default) = true) (fun i => ⟨mkT 34 [(0, slWk l), (3, .int .i64 i)], [], []⟩) (fun i => l.length - i) 0 ⟨Nat.zero_le _, by simp⟩ (.le2 ?_) ?_
    · simp only [slWk]; simp (maxSteps := 4000000) only [go_sem, seval]
    · rintro i ⟨hi, hj⟩
      rcases Nat.lt_or_eq_of_le hi with hi1 | hi1
      · obtain ⟨w, hw⟩ : ∃ w, l.getD i default = w := ⟨_, rfl⟩
        have hn := hno i hi1
        rw [hw] at hn
        cases hB : workB w with
        | true =>
          unfold workB at hB
          obtain ⟨b1, b2, b3⟩ := of_decide_eq_true hB
          have d1 : (0 ≤ w.from0 ∧ w.from0 ≤ 60) = True := eq_true b1
          have d2 : (0 ≤ w.flow ∧ w.flow ≤ 1000000) = True := eq_true b2
          have d3 : (0 ≤ w.price ∧ w.price ≤ 1000000) = True := eq_true b3
          simp only [slWk]; simp (maxSteps := 4000000) only [go_sem, seval]
          (repeat' (first
 | ((exfalso; omega))
 | ((omega))
 | refine awp_seqK ?_
 | refine kt ?_
 | refine And.intro ?_ ?_
 | ((first | refine awp_stp rfl ?_ | refine awp_draw (by kernel_rfl) (by kernel_rfl) ?_ | refine Imp.le2 ?_ | refine callK_of (in_c _ _ _) ?_ | refine go_split (fun _h => ?_) (fun _h => ?_)) <;> try simp (maxSteps := 4000000) only [go_sem, seval, hw, workC, d1, d2, d3, decide_true, Bool.not_true])
 | intro _h
 | refine awp_block ?_
 | refine awp_scope ?_
 | refine cond_b ?_ ?_
 | (show heapOK _ _ = true; kernel_rfl)
 | (show heapOK2 _ _ = true; kernel_rfl)
 | (omega)))
          refine ⟨i + 1, ⟨by omega, fun j hji => ?_⟩, by omega, .le2 ?_⟩
          · rcases Nat.lt_succ_iff_lt_or_eq.1 hji with h | rfl
            · exact hj j h
            · rw [hw]; exact decide_eq_true ⟨b1, b2, b3⟩
          · simp (maxSteps := 4000000) only [go_sem, seval]
            all_goals first | rfl | exact ⟨rfl, rfl⟩ | omega
        | false =>
          have hr := hn hB
          subst hr
          unfold workB at hB
          have hB2 := of_decide_eq_false hB
          simp only [slWk]; simp (maxSteps := 4000000) only [go_sem, seval]
          (repeat' (first
 | ((exfalso; omega))
 | ((omega))
 | refine awp_seqK ?_
 | refine kt ?_
 | refine And.intro ?_ ?_
 | ((first | refine awp_stp rfl ?_ | refine awp_draw (by kernel_rfl) (by kernel_rfl) ?_ | refine Imp.le2 ?_ | refine callK_of (in_c _ _ _) ?_ | refine go_split (fun _h => ?_) (fun _h => ?_)) <;> try simp (maxSteps := 4000000) only [go_sem, seval, hw, workC])
 | intro _h
 | refine awp_block ?_
 | refine awp_scope ?_
 | refine cond_b ?_ ?_
 | (show heapOK _ _ = true; kernel_rfl)
 | (show heapOK2 _ _ = true; kernel_rfl)
 | (omega)))
          all_goals trace_state
      · subst hi1
        have hr := hyes hj
        subst hr
        simp only [slWk]; simp (maxSteps := 4000000) only [go_sem, seval]
        (repeat' (first
 | ((exfalso; omega))
 | ((omega))
 | refine awp_seqK ?_
 | refine kt ?_
 | refine And.intro ?_ ?_
 | ((first | refine awp_stp rfl ?_ | refine awp_draw (by kernel_rfl) (by kernel_rfl) ?_ | refine Imp.le2 ?_ | refine go_split (fun _h => ?_) (fun _h => ?_)) <;> try simp (maxSteps := 4000000) only [go_sem, seval])
 | intro _h
 | refine awp_block ?_
 | refine awp_scope ?_
 | refine cond_b ?_ ?_
 | (show heapOK _ _ = true; kernel_rfl)
 | (show heapOK2 _ _ = true; kernel_rfl)
 | (omega)))
        all_goals trace_state
end La
end Go.Am
namespace Go.Am
namespace La
open Go.RowKit Go.Proofs
attribute [local irreducible] AWP CallS Kt goK CallK stepK evOps SemF SemY Imp
set_option maxRecDepth 4000
set_option linter.unusedSimpArgs false
set_option linter.unusedVariables false
set_option maxHeartbeats 3200000
theorem list_c (l : List Int) (hl : l.length ≤ 1000000) : CallS Tryz.prog 37 [sl l] (sl l) := by
  simp only [sl]
  (refine callS_of_awp (fun w args => Tryz.call37 ..) Tryz.func37 rfl (fun w0 m0 wz => ?_); simp only [Tryz.ntmps37, Tryz.results37, initT, junks, sl, List.toList_toArray, List.cons_append, List.nil_append, List.length_cons, List.length_nil, Nat.reduceAdd, Nat.reduceSub])
  (repeat' (first
 | refine awp_seqK ?_
 | refine kt ?_
 | refine And.intro ?_ ?_
 | ((first | refine awp_stp rfl ?_ | refine awp_draw (by kernel_rfl) (by kernel_rfl) ?_ | refine Imp.le2 ?_ | refine go_split (fun _h => ?_) (fun _h => ?_)) <;> try simp (maxSteps := 4000000) only [go_sem, seval])
 | intro _h
 | refine awp_block ?_
 | refine awp_scope ?_
 | refine cond_b ?_ ?_
 | (show heapOK _ _ = true; kernel_rfl)
 | (show heapOK2 _ _ = true; kernel_rfl)
 | (omega)))
  all_goals trace_state
theorem to_c (a b : Int) : CallS Tryz.prog 38 [.agg [.int .i64 a, .int .i64 b]] (.agg [.int .i64 a, .int .i64 b]) := by
  (refine callS_of_awp (fun w args => Tryz.call38 ..) Tryz.func38 rfl (fun w0 m0 wz => ?_); simp only [Tryz.ntmps38, Tryz.results38, initT, junks, sl, List.toList_toArray, List.cons_append, List.nil_append, List.length_cons, List.length_nil, Nat.reduceAdd, Nat.reduceSub])
  (repeat' (first
 | refine awp_seqK ?_
 | refine kt ?_
 | refine And.intro ?_ ?_
 | ((first | refine awp_stp rfl ?_ | refine awp_draw (by kernel_rfl) (by kernel_rfl) ?_ | refine Imp.le2 ?_ | refine go_split (fun _h => ?_) (fun _h => ?_)) <;> try simp (maxSteps := 4000000) only [go_sem, seval])
 | intro _h
 | refine awp_block ?_
 | refine awp_scope ?_
 | refine cond_b ?_ ?_
 | (show heapOK _ _ = true; kernel_rfl)
 | (show heapOK2 _ _ = true; kernel_rfl)
 | (omega)))
theorem Works_c (l : List Work) (hl : l.length ≤ 1000000) : CallS Tryz.prog 15 [slWk l] (slWk l) := by
  simp only [slWk]
  (refine callS_of_awp (fun w args => Tryz.call15 ..) Tryz.func15 rfl (fun w0 m0 wz => ?_); simp only [Tryz.ntmps15, Tryz.results15, initT, junks, sl, List.toList_toArray, List.cons_append, List.nil_append, List.length_cons, List.length_nil, Nat.reduceAdd, Nat.reduceSub])
  (repeat' (first
 | refine awp_seqK ?_
 | refine kt ?_
 | refine And.intro ?_ ?_
 | ((first | refine awp_stp rfl ?_ | refine awp_draw (by kernel_rfl) (by kernel_rfl) ?_ | refine Imp.le2 ?_ | refine go_split (fun _h => ?_) (fun _h => ?_)) <;> try simp (maxSteps := 4000000) only [go_sem, seval])
 | intro _h
 | refine awp_block ?_
 | refine awp_scope ?_
 | refine cond_b ?_ ?_
 | (show heapOK _ _ = true; kernel_rfl)
 | (show heapOK2 _ _ = true; kernel_rfl)
 | (omega)))
  (refine awp_adT 3 114 3 rfl ?_; simp only [adT, lset, hset, List.length_cons, List.length_nil, Nat.reduceAdd])
  refine awp_loopN l.length (fun k => ⟨mkT 31 [(0, slWk l), (3, .osl 0 k 0 k), (4, .int .i64 k)], [some (.cells 114 3 k (recs workC (l.take k)))], []⟩) (.le2 ?_) ?_
  · simp only [slWk]; simp (maxSteps := 4000000) only [go_sem, seval]
    all_goals first | rfl | exact ⟨rfl, rfl⟩
  · intro k hk
    rcases Nat.lt_or_eq_of_le hk with hk1 | hk1
    · have hlt : (l.take k).length = k := by simp; omega
      have hsn := recs_take (enc := workC) (d := default) hk1
      simp only [workC] at hsn
      simp only [slWk]; simp (maxSteps := 4000000) only [go_sem, seval]
      (repeat' (first
 | ((omega))
 | refine awp_seqK ?_
 | refine kt ?_
 | refine And.intro ?_ ?_
 | ((first | refine awp_stp rfl ?_ | refine awp_draw (by kernel_rfl) (by kernel_rfl) ?_ | refine Imp.le2 ?_ | refine go_split (fun _h => ?_) (fun _h => ?_)) <;> try simp (maxSteps := 4000000) only [go_sem, seval, hlt, hsn])
 | intro _h
 | refine awp_block ?_
 | refine awp_scope ?_
 | refine cond_b ?_ ?_
 | (show heapOK _ _ = true; kernel_rfl)
 | (show heapOK2 _ _ = true; kernel_rfl)
 | (omega)))
      all_goals trace_state
    · subst hk1
      have hlt : l.take l.length = l := by simp
      simp only [slWk]; simp (maxSteps := 4000000) only [go_sem, seval, hlt]
      (repeat' (first
 | ((exfalso; omega))
 | refine awp_seqK ?_
 | refine kt ?_
 | refine And.intro ?_ ?_
 | ((first | refine awp_stp rfl ?_ | refine awp_draw (by kernel_rfl) (by kernel_rfl) ?_ | refine Imp.le2 ?_ | refine go_split (fun _h => ?_) (fun _h => ?_)) <;> try simp (maxSteps := 4000000) only [go_sem, seval, hlt])
 | intro _h
 | refine awp_block ?_
 | refine awp_scope ?_
 | refine cond_b ?_ ?_
 | (show heapOK _ _ = true; kernel_rfl)
 | (show heapOK2 _ _ = true; kernel_rfl)
 | (omega)))
      all_goals trace_state
theorem Houses_c (l : List House) (hl : l.length ≤ 1000000) : CallS Tryz.prog 17 [slHo l] (slHo l) := by
  simp only [slHo]
  (refine callS_of_awp (fun w args => Tryz.call17 ..) Tryz.func17 rfl (fun w0 m0 wz => ?_); simp only [Tryz.ntmps17, Tryz.results17, initT, junks, sl, List.toList_toArray, List.cons_append, List.nil_append, List.length_cons, List.length_nil, Nat.reduceAdd, Nat.reduceSub])
  (repeat' (first
 | refine awp_seqK ?_
 | refine kt ?_
 | refine And.intro ?_ ?_
 | ((first | refine awp_stp rfl ?_ | refine awp_draw (by kernel_rfl) (by kernel_rfl) ?_ | refine Imp.le2 ?_ | refine go_split (fun _h => ?_) (fun _h => ?_)) <;> try simp (maxSteps := 4000000) only [go_sem, seval])
 | intro _h
 | refine awp_block ?_
 | refine awp_scope ?_
 | refine cond_b ?_ ?_
 | (show heapOK _ _ = true; kernel_rfl)
 | (show heapOK2 _ _ = true; kernel_rfl)
 | (omega)))
  (refine awp_adT 3 97 3 rfl ?_; simp only [adT, lset, hset, List.length_cons, List.length_nil, Nat.reduceAdd])
  refine awp_loopN l.length (fun k => ⟨mkT 31 [(0, slHo l), (3, .osl 0 k 0 k), (4, .int .i64 k)], [some (.cells 97 3 k (recs houseC (l.take k)))], []⟩) (.le2 ?_) ?_
  · simp only [slHo]; simp (maxSteps := 4000000) only [go_sem, seval]
    all_goals first | rfl | exact ⟨rfl, rfl⟩
  · intro k hk
    rcases Nat.lt_or_eq_of_le hk with hk1 | hk1
    · have hlt : (l.take k).length = k := by simp; omega
      have hsn := recs_take (enc := houseC) (d := default) hk1
      simp only [houseC] at hsn
      simp only [slHo]; simp (maxSteps := 4000000) only [go_sem, seval]
      (repeat' (first
 | ((omega))
 | refine awp_seqK ?_
 | refine kt ?_
 | refine And.intro ?_ ?_
 | ((first | refine awp_stp rfl ?_ | refine awp_draw (by kernel_rfl) (by kernel_rfl) ?_ | refine Imp.le2 ?_ | refine go_split (fun _h => ?_) (fun _h => ?_)) <;> try simp (maxSteps := 4000000) only [go_sem, seval, hlt, hsn])
 | intro _h
 | refine awp_block ?_
 | refine awp_scope ?_
 | refine cond_b ?_ ?_
 | (show heapOK _ _ = true; kernel_rfl)
 | (show heapOK2 _ _ = true; kernel_rfl)
 | (omega)))
      all_goals trace_state
    · subst hk1
      have hlt : l.take l.length = l := by simp
      simp only [slHo]; simp (maxSteps := 4000000) only [go_sem, seval, hlt]
      (repeat' (first
 | ((exfalso; omega))
 | refine awp_seqK ?_
 | refine kt ?_
 | refine And.intro ?_ ?_
 | ((first | refine awp_stp rfl ?_ | refine awp_draw (by kernel_rfl) (by kernel_rfl) ?_ | refine Imp.le2 ?_ | refine go_split (fun _h => ?_) (fun _h => ?_)) <;> try simp (maxSteps := 4000000) only [go_sem, seval, hlt])
 | intro _h
 | refine awp_block ?_
 | refine awp_scope ?_
 | refine cond_b ?_ ?_
 | (show heapOK _ _ = true; kernel_rfl)
 | (show heapOK2 _ _ = true; kernel_rfl)
 | (omega)))
      all_goals trace_state
theorem River_c (loss plo phi : Int) : CallS Tryz.prog 16 [.agg [.int .i64 loss, .int .i64 plo, .int .i64 phi]] (.agg [.int .i64 loss, .int .i64 plo, .int .i64 phi]) := by
  (refine callS_of_awp (fun w args => Tryz.call16 ..) Tryz.func16 rfl (fun w0 m0 wz => ?_); simp only [Tryz.ntmps16, Tryz.results16, initT, junks, sl, List.toList_toArray, List.cons_append, List.nil_append, List.length_cons, List.length_nil, Nat.reduceAdd, Nat.reduceSub])
  (repeat' (first
 | refine awp_seqK ?_
 | refine kt ?_
 | refine And.intro ?_ ?_
 | ((first | refine awp_stp rfl ?_ | refine awp_draw (by kernel_rfl) (by kernel_rfl) ?_ | refine Imp.le2 ?_ | refine callK_of (to_c _ _) ?_ | refine go_split (fun _h => ?_) (fun _h => ?_)) <;> try simp (maxSteps := 4000000) only [go_sem, seval])
 | intro _h
 | refine awp_block ?_
 | refine awp_scope ?_
 | refine cond_b ?_ ?_
 | (show heapOK _ _ = true; kernel_rfl)
 | (show heapOK2 _ _ = true; kernel_rfl)
 | (omega)))
  all_goals trace_state
theorem Real_c (a b : List Int) (s o : Int) (ha : a.length ≤ 1000000) (hb : b.length ≤ 1000000) : CallS Tryz.prog 22 [.agg [sl a, sl b, .int .i64 s, .int .i64 o]] (.agg [sl a, sl b, .int .i64 s, .int .i64 o]) := by
  have h1 := list_c a ha
  have h2 := list_c b hb
  simp only [sl] at h1 h2 ⊢
  (refine callS_of_awp (fun w args => Tryz.call22 ..) Tryz.func22 rfl (fun w0 m0 wz => ?_); simp only [Tryz.ntmps22, Tryz.results22, initT, junks, sl, List.toList_toArray, List.cons_append, List.nil_append, List.length_cons, List.length_nil, Nat.reduceAdd, Nat.reduceSub])
  (repeat' (first
 | refine awp_seqK ?_
 | refine kt ?_
 | refine And.intro ?_ ?_
 | ((first | refine awp_stp rfl ?_ | refine awp_draw (by kernel_rfl) (by kernel_rfl) ?_ | refine Imp.le2 ?_ | refine callK_of (h1) ?_ | refine callK_of (h2) ?_ | refine go_split (fun _h => ?_) (fun _h => ?_)) <;> try simp (maxSteps := 4000000) only [go_sem, seval])
 | intro _h
 | refine awp_block ?_
 | refine awp_scope ?_
 | refine cond_b ?_ ?_
 | (show heapOK _ _ = true; kernel_rfl)
 | (show heapOK2 _ _ = true; kernel_rfl)
 | (omega)))
  all_goals trace_state
def thinLB (l : Lake) (works : List Work) (ch : List Int) : Bool := decide (l.vols.length ≤ 35) && decide (l.infl.length ≤ 65) && decide (works.length ≤ 15) && decide (ch.length ≤ 15)
theorem thin_c (l : Lake) (works : List Work) (ch : List Int) : CallS Tryz.prog 6 [.agg (lakeC l), slWk works, sl ch] (.bool (thinLB l works ch)) := by
  have e1 : ((l.vols.length : Int) ≤ 35) = (l.vols.length ≤ 35) := by rw [eq_iff_iff]; omega
  have e2 : ((l.infl.length : Int) ≤ 65) = (l.infl.length ≤ 65) := by rw [eq_iff_iff]; omega
  have e3 : ((works.length : Int) ≤ 15) = (works.length ≤ 15) := by rw [eq_iff_iff]; omega
  have e4 : ((ch.length : Int) ≤ 15) = (ch.length ≤ 15) := by rw [eq_iff_iff]; omega
  unfold thinLB
  simp only [slWk, sl, lakeC, slR]
  (refine callS_of_awp (fun w args => Tryz.call6 ..) Tryz.func6 rfl (fun w0 m0 wz => ?_); simp only [Tryz.ntmps6, Tryz.results6, initT, junks, sl, List.toList_toArray, List.cons_append, List.nil_append, List.length_cons, List.length_nil, Nat.reduceAdd, Nat.reduceSub])
  (repeat' (first
 | refine awp_seqK ?_
 | refine kt ?_
 | refine And.intro ?_ ?_
 | ((first | refine awp_stp rfl ?_ | refine awp_draw (by kernel_rfl) (by kernel_rfl) ?_ | refine Imp.le2 ?_ | refine go_split (fun _h => ?_) (fun _h => ?_)) <;> try simp (maxSteps := 4000000) only [go_sem, seval, e1, e2, e3, e4])
 | intro _h
 | refine awp_block ?_
 | refine awp_scope ?_
 | refine cond_b ?_ ?_
 | (show heapOK _ _ = true; kernel_rfl)
 | (show heapOK2 _ _ = true; kernel_rfl)
 | (omega)))
  all_goals (simp_all; try omega)
theorem Lake_c (l : Lake) (hv : l.vols.length ≤ 1000000) (hi : l.infl.length ≤ 1000000) : CallS Tryz.prog 14 [.agg (lakeC l)] (.agg (lakeC l)) := by
  have h1 := list_c l.vols hv
  simp only [lakeC, slR, sl] at h1 ⊢
  (refine callS_of_awp (fun w args => Tryz.call14 ..) Tryz.func14 rfl (fun w0 m0 wz => ?_); simp only [Tryz.ntmps14, Tryz.results14, initT, junks, sl, List.toList_toArray, List.cons_append, List.nil_append, List.length_cons, List.length_nil, Nat.reduceAdd, Nat.reduceSub])
  (repeat' (first
 | refine awp_seqK ?_
 | refine kt ?_
 | refine And.intro ?_ ?_
 | ((first | refine awp_stp rfl ?_ | refine awp_draw (by kernel_rfl) (by kernel_rfl) ?_ | refine Imp.le2 ?_ | refine callK_of (h1) ?_ | refine callK_of (to_c _ _) ?_ | refine go_split (fun _h => ?_) (fun _h => ?_)) <;> try simp (maxSteps := 4000000) only [go_sem, seval])
 | intro _h
 | refine awp_block ?_
 | refine awp_scope ?_
 | refine cond_b ?_ ?_
 | (show heapOK _ _ = true; kernel_rfl)
 | (show heapOK2 _ _ = true; kernel_rfl)
 | (omega)))
  refine awp_adH 2 9 53 2 rfl rfl ?_
  simp only [adH, hget, hset, lset, List.length_cons, List.length_nil, Nat.reduceAdd]
  refine awp_loopN l.infl.length (fun k => ⟨mkT 41 [(1, .ptr 0 0 0), (2, .ptr 1 0 0), (3, .ptr 2 0 0), (4, .int .i64 k)], [some (.cells 32 1 0 (lakeC l)), some (.cells 56 1 0 [.nils, .int .i64 0, .int .i64 0, .int .i64 0, .int .i64 0, .int .i64 0, .int .i64 0, .int .i64 0, .int .i64 0, .nils]), some (.cells 56 1 0 [sl l.vols, .int .i64 l.crest, .int .i64 l.weak, .int .i64 l.soLo, .int .i64 l.soHi, .int .i64 l.stLo, .int .i64 l.stHi, .int .i64 l.seLo, .int .i64 l.seHi, .osl 3 k 0 k]), some (.cells 53 2 k (recs rngC (l.infl.take k)))], []⟩) (.le2 ?_) ?_
  · simp only [lakeC, slR, sl]; simp (maxSteps := 4000000) only [go_sem, seval]
    all_goals first | rfl | exact ⟨rfl, rfl⟩ | trace_state
  · intro k hk
    rcases Nat.lt_or_eq_of_le hk with hk1 | hk1
    · have hlt : (l.infl.take k).length = k := by simp; omega
      have hsn := recs_take (enc := rngC) (d := default) hk1
      simp only [rngC] at hsn
      simp only [lakeC, slR, sl]; simp (maxSteps := 4000000) only [go_sem, seval]
      (repeat' (first
 | ((omega))
 | refine awp_seqK ?_
 | refine kt ?_
 | refine And.intro ?_ ?_
 | ((first | refine awp_stp rfl ?_ | refine awp_draw (by kernel_rfl) (by kernel_rfl) ?_ | refine Imp.le2 ?_ | refine callK_of (to_c _ _) ?_ | refine go_split (fun _h => ?_) (fun _h => ?_)) <;> try simp (maxSteps := 4000000) only [go_sem, seval, hlt, hsn, rngC])
 | intro _h
 | refine awp_block ?_
 | refine awp_scope ?_
 | refine cond_b ?_ ?_
 | (show heapOK _ _ = true; kernel_rfl)
 | (show heapOK2 _ _ = true; kernel_rfl)
 | (omega)))
      all_goals trace_state
    · subst hk1
      have hlt : l.infl.take l.infl.length = l.infl := by simp
      simp only [lakeC, slR, sl]; simp (maxSteps := 4000000) only [go_sem, seval, hlt]
      (repeat' (first
 | ((exfalso; omega))
 | refine awp_seqK ?_
 | refine kt ?_
 | refine And.intro ?_ ?_
 | ((first | refine awp_stp rfl ?_ | refine awp_draw (by kernel_rfl) (by kernel_rfl) ?_ | refine Imp.le2 ?_ | refine go_split (fun _h => ?_) (fun _h => ?_)) <;> try simp (maxSteps := 4000000) only [go_sem, seval, hlt])
 | intro _h
 | refine awp_block ?_
 | refine awp_scope ?_
 | refine cond_b ?_ ?_
 | (show heapOK _ _ = true; kernel_rfl)
 | (show heapOK2 _ _ = true; kernel_rfl)
 | (omega)))
      all_goals trace_state
theorem tdiv_bd {a b : Int} (ha : 0 ≤ a) (hb : 0 ≤ b) : 0 ≤ a.tdiv b ∧ a.tdiv b ≤ a := by
  rw [Int.tdiv_eq_ediv_of_nonneg ha]
  exact ⟨Int.ediv_nonneg ha hb, Int.ediv_le_self _ ha⟩
def heightV (loss far wide v : Int) : Int := (max 0 (v - loss * far) + wide - 1).tdiv wide
theorem height_c (loss plo phi : Int) (h : House) (v : Int) (hl : 0 ≤ loss ∧ loss ≤ 1000000) (hh : houseB h = true) (hv : 0 ≤ v ∧ v ≤ 1000000000) : CallS Tryz.prog 35 [.agg [.int .i64 loss, .int .i64 plo, .int .i64 phi], .agg (houseC h), .int .i64 v] (.int .i64 (heightV loss h.far h.wide v)) := by
  unfold houseB at hh
  obtain ⟨b1, b2, b3⟩ := of_decide_eq_true hh
  have hm : 0 ≤ loss * h.far ∧ loss * h.far ≤ 200000000 := by
    refine ⟨Int.mul_nonneg hl.1 b1.1, ?_⟩
    have := Int.mul_le_mul hl.2 b1.2 b1.1 (by omega)
    omega
  have hw0 : (h.wide = 0) = False := eq_false (by omega)
  unfold heightV
  simp only [houseC]
  obtain ⟨m, hme⟩ : ∃ m, loss * h.far = m := ⟨_, rfl⟩
  rw [hme] at hm ⊢
  have hq := tdiv_bd (a := max 0 (v - m) + h.wide - 1) (b := h.wide) (by omega) (by omega)
  (refine callS_of_awp (fun w args => Tryz.call35 ..) Tryz.func35 rfl (fun w0 m0 wz => ?_); simp only [Tryz.ntmps35, Tryz.results35, initT, junks, sl, List.toList_toArray, List.cons_append, List.nil_append, List.length_cons, List.length_nil, Nat.reduceAdd, Nat.reduceSub])
  (repeat' (first
 | ((omega))
 | refine awp_seqK ?_
 | refine kt ?_
 | refine And.intro ?_ ?_
 | ((first | refine awp_stp rfl ?_ | refine awp_draw (by kernel_rfl) (by kernel_rfl) ?_ | refine Imp.le2 ?_ | refine callK_of (greatest_c _ _ _) ?_ | refine go_split (fun _h => ?_) (fun _h => ?_)) <;> try simp (maxSteps := 4000000) only [go_sem, seval, hme, hw0])
 | intro _h
 | refine awp_block ?_
 | refine awp_scope ?_
 | refine cond_b ?_ ?_
 | (show heapOK _ _ = true; kernel_rfl)
 | (show heapOK2 _ _ = true; kernel_rfl)
 | (omega)))
  all_goals trace_state
theorem rHeight_c (loss plo phi : Int) (h : House) (v : Int) (hl : 0 ≤ loss ∧ loss ≤ 1000000) (hh : houseB h = true) (hv : 0 ≤ v ∧ v ≤ 1000000000) : CallS Tryz.prog 24 [.agg [.int .i64 loss, .int .i64 plo, .int .i64 phi], .agg (houseC h), .int .i64 v] (.int .i64 (heightV loss h.far h.wide v)) := by
  unfold houseB at hh
  obtain ⟨b1, b2, b3⟩ := of_decide_eq_true hh
  have hm : 0 ≤ loss * h.far ∧ loss * h.far ≤ 200000000 := by
    refine ⟨Int.mul_nonneg hl.1 b1.1, ?_⟩
    have := Int.mul_le_mul hl.2 b1.2 b1.1 (by omega)
    omega
  have hw0 : (h.wide = 0) = False := eq_false (by omega)
  unfold heightV
  simp only [houseC]
  obtain ⟨m, hme⟩ : ∃ m, loss * h.far = m := ⟨_, rfl⟩
  rw [hme] at hm ⊢
  by_cases c : v - m ≤ 0
  · have e0 : (max 0 (v - m) + h.wide - 1).tdiv h.wide = 0 := by
      rw [show max 0 (v - m) = 0 by omega, Int.tdiv_eq_ediv_of_nonneg (by omega)]
      exact Int.ediv_eq_zero_of_lt (by omega) (by omega)
    rw [e0]
    (refine callS_of_awp (fun w args => Tryz.call24 ..) Tryz.func24 rfl (fun w0 m0 wz => ?_); simp only [Tryz.ntmps24, Tryz.results24, initT, junks, sl, List.toList_toArray, List.cons_append, List.nil_append, List.length_cons, List.length_nil, Nat.reduceAdd, Nat.reduceSub])
    (repeat' (first
 | ((omega))
 | refine awp_seqK ?_
 | refine kt ?_
 | refine And.intro ?_ ?_
 | ((first | refine awp_stp rfl ?_ | refine awp_draw (by kernel_rfl) (by kernel_rfl) ?_ | refine Imp.le2 ?_ | refine go_split (fun _h => ?_) (fun _h => ?_)) <;> try simp (maxSteps := 4000000) only [go_sem, seval, hme, hw0, eq_true c, decide_true])
 | intro _h
 | refine awp_block ?_
 | refine awp_scope ?_
 | refine cond_b ?_ ?_
 | (show heapOK _ _ = true; kernel_rfl)
 | (show heapOK2 _ _ = true; kernel_rfl)
 | (omega)))
    all_goals trace_state
  · rw [show max 0 (v - m) = v - m by omega]
    have hq := tdiv_bd (a := v - m + h.wide - 1) (b := h.wide) (by omega) (by omega)
    (refine callS_of_awp (fun w args => Tryz.call24 ..) Tryz.func24 rfl (fun w0 m0 wz => ?_); simp only [Tryz.ntmps24, Tryz.results24, initT, junks, sl, List.toList_toArray, List.cons_append, List.nil_append, List.length_cons, List.length_nil, Nat.reduceAdd, Nat.reduceSub])
    (repeat' (first
 | ((omega))
 | refine awp_seqK ?_
 | refine kt ?_
 | refine And.intro ?_ ?_
 | ((first | refine awp_stp rfl ?_ | refine awp_draw (by kernel_rfl) (by kernel_rfl) ?_ | refine Imp.le2 ?_ | refine go_split (fun _h => ?_) (fun _h => ?_)) <;> try simp (maxSteps := 4000000) only [go_sem, seval, hme, hw0, eq_false c, decide_false])
 | intro _h
 | refine awp_block ?_
 | refine awp_scope ?_
 | refine cond_b ?_ ?_
 | (show heapOK _ _ = true; kernel_rfl)
 | (show heapOK2 _ _ = true; kernel_rfl)
 | (omega)))
    all_goals trace_state
end La
end Go.Am
namespace Go.Am
namespace La
open Go.RowKit Go.Proofs
attribute [local irreducible] AWP CallS Kt goK CallK stepK evOps SemF SemY Imp
set_option maxRecDepth 4000
set_option linter.unusedSimpArgs false
set_option linter.unusedVariables false
set_option maxHeartbeats 3200000
structure LakeOK (l : Lake) : Prop where
  n : 2 ≤ l.vols.length ∧ l.vols.length ≤ 30
  m : l.infl.length ≤ 60
  v0 : l.vols.getD 0 0 = 0
  vn : l.vols.getD (l.vols.length - 1) 0 ≤ 1000000
  inc : ∀ i, i + 1 < l.vols.length → l.vols.getD i 0 < l.vols.getD (i + 1) 0
  crest : 1 ≤ l.crest ∧ l.crest ≤ l.vols.length - 1
  weak : 1 ≤ l.weak ∧ l.weak ≤ l.crest
  soft : 0 ≤ l.soLo ∧ l.soLo ≤ l.soHi ∧ l.soHi ≤ 60
  start : 0 ≤ l.stLo ∧ l.stLo ≤ l.stHi ∧ l.stHi ≤ l.vols.getD l.weak.toNat 0 - 1
  seep : 0 ≤ l.seLo ∧ l.seLo ≤ l.seHi ∧ l.seHi ≤ 1000000
  infl : ∀ h, h < l.infl.length → 0 ≤ (l.infl.getD h default).1 ∧ (l.infl.getD h default).1 ≤ (l.infl.getD h default).2 ∧ (l.infl.getD h default).2 ≤ 1000000
structure ChoOK (n : Nat) (ch : List Int) : Prop where
  len : ch.length ≤ 1000000
  at_ : ∀ i, i < ch.length → 0 ≤ ch.getD i 0 ∧ ch.getD i 0 ≤ n - 1
  inc : ∀ i, i + 1 < ch.length → ch.getD i 0 < ch.getD (i + 1) 0
theorem vols_mono {l : Lake} (h : LakeOK l) {i : Nat} : ∀ d, i + d < l.vols.length → l.vols.getD i 0 ≤ l.vols.getD (i + d) 0
  | 0, _ => Int.le_refl _
  | d + 1, hd => by
    have h1 := vols_mono h (i := i) d (by omega)
    have h2 := h.inc (i + d) (by omega)
    rw [← Nat.add_assoc]
    omega
theorem vols_bd {l : Lake} (h : LakeOK l) {i : Nat} (hi : i < l.vols.length) : 0 ≤ l.vols.getD i 0 ∧ l.vols.getD i 0 ≤ 1000000 := by
  have h1 := vols_mono h (i := 0) i (by omega)
  have h2 := vols_mono h (i := i) (l.vols.length - 1 - i) (by omega)
  rw [Nat.zero_add, h.v0] at h1
  rw [show i + (l.vols.length - 1 - i) = l.vols.length - 1 by omega] at h2
  have := h.vn
  omega
theorem bound_bd {l : Lake} (h : LakeOK l) {k : Int} : 0 ≤ boundV l k ∧ boundV l k ≤ 1000000 := by
  have h1 := h.crest
  have h2 := h.weak
  have h3 := h.n
  unfold boundV
  split
  · exact vols_bd h (by omega)
  · exact vols_bd h (by omega)
def outV (works : List Work) (ch : List Int) (hour : Int) : Nat → Int
  | 0 => 0
  | k + 1 => outV works ch hour k + (if (works.getD (ch.getD k 0).toNat default).from0 ≤ hour then (works.getD (ch.getD k 0).toNat default).flow else 0)
theorem works_at {works : List Work} (hw : works.all workB = true) {i : Nat} (hi : i < works.length) : workB (works.getD i default) = true := by
  rw [List.all_eq_true] at hw
  exact hw _ (getD_mem hi)
theorem outV_bd {works : List Work} {ch : List Int} {hour : Int} (hw : works.all workB = true) (hc : ChoOK works.length ch) : ∀ k, k ≤ ch.length → 0 ≤ outV works ch hour k ∧ outV works ch hour k ≤ 1000000 * k
  | 0, _ => by simp [outV]
  | k + 1, hk => by
    have h1 := outV_bd (hour := hour) hw hc k (by omega)
    have h2 := hc.at_ k (by omega)
    have h3 := works_at hw (i := (ch.getD k 0).toNat) (by omega)
    unfold workB at h3
    obtain ⟨b1, b2, b3⟩ := of_decide_eq_true h3
    unfold outV
    split <;> omega
theorem out_c (l : Lake) (works : List Work) (ch : List Int) (hour : Int) (hw : works.all workB = true) (hc : ChoOK works.length ch) : CallS Tryz.prog 46 [.agg (pumC l works ch), .int .i64 hour] (.int .i64 (outV works ch hour ch.length)) := by
  have hcl := hc.len
  simp only [pumC, lakeC, List.cons_append, List.nil_append, sl, slWk, slR]
  (refine callS_of_awp (fun w args => Tryz.call46 ..) Tryz.func46 rfl (fun w0 m0 wz => ?_); simp only [Tryz.ntmps46, Tryz.results46, initT, junks, sl, List.toList_toArray, List.cons_append, List.nil_append, List.length_cons, List.length_nil, Nat.reduceAdd, Nat.reduceSub])
  (repeat' (first
 | ((omega))
 | refine awp_seqK ?_
 | refine kt ?_
 | refine And.intro ?_ ?_
 | ((first | refine awp_stp rfl ?_ | refine Imp.le2 ?_ | refine go_split (fun _h => ?_) (fun _h => ?_)) <;> try simp (maxSteps := 4000000) only [go_sem, seval])
 | intro _h
 | refine awp_block ?_
 | refine awp_scope ?_
 | refine cond_b ?_ ?_
 | (show heapOK _ _ = true; kernel_rfl)
 | (show heapOK2 _ _ = true; kernel_rfl)
 | (omega)))
  refine awp_loopN ch.length (fun k => ⟨mkT 30 [(1, .int .i64 hour), (2, .ptr 0 0 0), (4, .int .i64 (outV works ch hour k)), (9, sl ch), (10, .int .i64 ch.length), (11, .int .i64 k)], [some (.cells 104 1 0 (pumC l works ch))], []⟩) (.le2 ?_) ?_
  · simp only [pumC, lakeC, List.cons_append, List.nil_append, sl, slWk, slR, outV]; simp (maxSteps := 4000000) only [go_sem, seval]
    all_goals first | rfl | exact ⟨rfl, rfl⟩ | trace_state
  · intro k hk
    rcases Nat.lt_or_eq_of_le hk with hk1 | hk1
    · have hat := hc.at_ k hk1
      have hob := outV_bd (hour := hour) hw hc k hk
      have hwb := works_at hw (i := (ch.getD k 0).toNat) (by omega)
      unfold workB at hwb
      obtain ⟨b1, b2, b3⟩ := of_decide_eq_true hwb
      have hst : outV works ch hour (k + 1) = outV works ch hour k + (if (works.getD (ch.getD k 0).toNat default).from0 ≤ hour then (works.getD (ch.getD k 0).toNat default).flow else 0) := rfl
      obtain ⟨w, hwe⟩ : ∃ w, works.getD (ch.getD k 0).toNat default = w := ⟨_, rfl⟩
      rw [hwe] at hst b1 b2 b3
      by_cases c : w.from0 ≤ hour
      · rw [if_pos c] at hst
        rw [hst]
        simp only [pumC, lakeC, List.cons_append, List.nil_append, sl, slWk, slR]; simp (maxSteps := 4000000) only [go_sem, seval]
        (repeat' (first
 | ((omega))
 | ((exfalso; omega))
 | refine awp_seqK ?_
 | refine kt ?_
 | refine And.intro ?_ ?_
 | ((first | refine awp_stp rfl ?_ | refine awp_draw (by kernel_rfl) (by kernel_rfl) ?_ | refine Imp.le2 ?_ | refine go_split (fun _h => ?_) (fun _h => ?_)) <;> try simp (maxSteps := 4000000) only [go_sem, seval, hwe, workC, eq_true c, decide_true])
 | intro _h
 | refine awp_block ?_
 | refine awp_scope ?_
 | refine cond_b ?_ ?_
 | (show heapOK _ _ = true; kernel_rfl)
 | (show heapOK2 _ _ = true; kernel_rfl)
 | (omega)))
        all_goals first | rfl | exact ⟨rfl, rfl⟩ | trace_state
      · rw [if_neg c, Int.add_zero] at hst
        rw [hst]
        simp only [pumC, lakeC, List.cons_append, List.nil_append, sl, slWk, slR]; simp (maxSteps := 4000000) only [go_sem, seval]
        (repeat' (first
 | ((omega))
 | ((exfalso; omega))
 | refine awp_seqK ?_
 | refine kt ?_
 | refine And.intro ?_ ?_
 | ((first | refine awp_stp rfl ?_ | refine awp_draw (by kernel_rfl) (by kernel_rfl) ?_ | refine Imp.le2 ?_ | refine go_split (fun _h => ?_) (fun _h => ?_)) <;> try simp (maxSteps := 4000000) only [go_sem, seval, hwe, workC, eq_false c, decide_false])
 | intro _h
 | refine awp_block ?_
 | refine awp_scope ?_
 | refine cond_b ?_ ?_
 | (show heapOK _ _ = true; kernel_rfl)
 | (show heapOK2 _ _ = true; kernel_rfl)
 | (omega)))
        all_goals first | rfl | exact ⟨rfl, rfl⟩ | trace_state
    · subst hk1
      simp only [pumC, lakeC, List.cons_append, List.nil_append, sl, slWk, slR]; simp (maxSteps := 4000000) only [go_sem, seval]
      (repeat' (first
 | ((omega))
 | ((exfalso; omega))
 | refine awp_seqK ?_
 | refine kt ?_
 | refine And.intro ?_ ?_
 | ((first | refine awp_stp rfl ?_ | refine awp_draw (by kernel_rfl) (by kernel_rfl) ?_ | refine Imp.le2 ?_ | refine go_split (fun _h => ?_) (fun _h => ?_)) <;> try simp (maxSteps := 4000000) only [go_sem, seval])
 | intro _h
 | refine awp_block ?_
 | refine awp_scope ?_
 | refine cond_b ?_ ?_
 | (show heapOK _ _ = true; kernel_rfl)
 | (show heapOK2 _ _ = true; kernel_rfl)
 | (omega)))
      all_goals trace_state
end La
end Go.Am
namespace Go.Am
namespace La
open Go.RowKit Go.Proofs
attribute [local irreducible] AWP CallS Kt goK CallK stepK evOps SemF SemY Imp
set_option maxRecDepth 4000
set_option linter.unusedSimpArgs false
set_option linter.unusedVariables false
set_option maxHeartbeats 3200000
theorem window1 {l : List Int} : window (ints l) 1 (l.length - 1) = ints (l.drop 1) := by
  simp only [window, ints, ← List.map_drop]
  exact List.take_of_length_le (by simp)
theorem check_c (l : Lake) (h : LakeOK l) : CallS Tryz.prog 48 [.agg (lakeC l)] (.int .i64 0) := by
  have hn := h.n
  have hm := h.m
  have hcr := h.crest
  have hwk := h.weak
  have hso := h.soft
  have hst := h.start
  have hse := h.seep
  have hwb := vols_bd h (i := l.weak.toNat) (by omega)
  have hv0 := h.v0
  have hvn := h.vn
  have f1 : (30 < (l.vols.length : Int)) = False := eq_false (by omega)
  have f2 : (60 < (l.infl.length : Int)) = False := eq_false (by omega)
  have f3 : ((l.vols.length : Int) < 2) = False := eq_false (by omega)
  have f4 : ((l.vols.length : Int) - 1).toNat = l.vols.length - 1 := by omega
  have f5 : (1000000 < l.vols.getD (l.vols.length - 1) 0) = False := eq_false (by omega)
  have f6 : (1 ≤ l.crest ∧ l.crest ≤ (l.vols.length : Int) - 1) = True := eq_true hcr
  have f7 : (1 ≤ l.weak ∧ l.weak ≤ l.crest) = True := eq_true hwk
  have f8 : (0 ≤ l.soLo ∧ l.soLo ≤ l.soHi ∧ l.soHi ≤ 60) = True := eq_true hso
  have f9 : (0 ≤ l.stLo ∧ l.stLo ≤ l.stHi ∧ l.stHi ≤ l.vols.getD l.weak.toNat 0 - 1) = True := eq_true hst
  have fa : (0 ≤ l.seLo ∧ l.seLo ≤ l.seHi ∧ l.seHi ≤ 1000000) = True := eq_true hse
  have hal : l.infl.all (fun r => decide (0 ≤ r.1 ∧ r.1 ≤ r.2 ∧ r.2 ≤ 1000000)) = true := by
    rw [List.all_eq_true]
    intro r hr
    obtain ⟨j, hj, rfl⟩ := mem_getD (d := default) hr
    exact decide_eq_true (h.infl j hj)
  have hall := all_Rg l.infl 73 (fun r => decide (0 ≤ r.1 ∧ r.1 ≤ r.2 ∧ r.2 ≤ 1000000)) (by omega) (fun i _ => flow_c _ _)
  rw [hal] at hall
  have hw1 := window1 (l := l.vols)
  have hd1 : (l.vols.drop 1).length = l.vols.length - 1 := by simp
  simp only [lakeC, slR, sl] at hall ⊢
  (refine callS_of_awp (fun w args => Tryz.call48 ..) Tryz.func48 rfl (fun w0 m0 wz => ?_); simp only [Tryz.ntmps48, Tryz.results48, initT, junks, sl, List.toList_toArray, List.cons_append, List.nil_append, List.length_cons, List.length_nil, Nat.reduceAdd, Nat.reduceSub])
  (repeat' (first
 | ((omega))
 | ((exfalso; omega))
 | refine awp_seqK ?_
 | refine kt ?_
 | refine And.intro ?_ ?_
 | ((first | refine awp_stp rfl ?_ | refine Imp.le2 ?_ | refine callK_of (within_c _ _ _) ?_ | refine go_split (fun _h => ?_) (fun _h => ?_)) <;> try simp (maxSteps := 4000000) only [go_sem, seval, f1, f2, f3, f4, hv0, f5, f6, f7, hw1, decide_true, decide_false, Bool.not_true])
 | intro _h
 | refine awp_block ?_
 | refine awp_scope ?_
 | refine cond_b ?_ ?_
 | (show heapOK _ _ = true; kernel_rfl)
 | (show heapOK2 _ _ = true; kernel_rfl)
 | (omega)))
  have hinc : ∀ k, k < l.vols.length - 1 → l.vols.getD k 0 < (l.vols.drop 1).getD k 0 := fun k hk => by
    have := h.inc k (by omega)
    rw [show (l.vols.drop 1).getD k 0 = l.vols.getD (k + 1) 0 by simp [List.getD_eq_getElem?_getD, Nat.add_comm]]
    exact this
  refine awp_loopN (l.vols.length - 1) (fun k => ⟨mkT 99 [(1, .ptr 0 0 0), (55, .psl false (l.vols.length - 1) (ints (l.vols.drop 1))), (56, .int .i64 ((l.vols.length : Int) - 1)), (57, .int .i64 k)], [some (.cells 56 1 0 (lakeC l))], []⟩) (.le2 ?_) ?_
  · simp only [lakeC, slR, sl]; simp (maxSteps := 4000000) only [go_sem, seval]
    all_goals first | omega | rfl | exact ⟨rfl, rfl⟩ | trace_state
  · intro k hk
    rcases Nat.lt_or_eq_of_le hk with hk1 | hk1
    · have hi := hinc k hk1
      have g1 : ((l.vols.drop 1).getD k 0 ≤ l.vols.getD k 0) = False := eq_false (by omega)
      have g2 : ((k : Int) < (l.vols.length : Int) - 1) = True := eq_true (by omega)
      simp only [lakeC, slR, sl]; simp (maxSteps := 4000000) only [go_sem, seval]
      (repeat' (first
 | ((omega))
 | ((exfalso; omega))
 | refine awp_seqK ?_
 | refine kt ?_
 | refine And.intro ?_ ?_
 | ((first | refine awp_stp rfl ?_ | refine awp_draw (by kernel_rfl) (by kernel_rfl) ?_ | refine Imp.le2 ?_ | refine go_split (fun _h => ?_) (fun _h => ?_)) <;> try simp (maxSteps := 4000000) only [go_sem, seval, g1, g2, hd1, decide_true, decide_false])
 | intro _h
 | refine awp_block ?_
 | refine awp_scope ?_
 | refine cond_b ?_ ?_
 | (show heapOK _ _ = true; kernel_rfl)
 | (show heapOK2 _ _ = true; kernel_rfl)
 | (omega)))
      all_goals first | rfl | exact ⟨rfl, rfl⟩ | trace_state
    · have g2 : ((k : Int) < (l.vols.length : Int) - 1) = False := eq_false (by omega)
      simp only [lakeC, slR, sl]; simp (maxSteps := 4000000) only [go_sem, seval]
      (repeat' (first
 | ((omega))
 | ((exfalso; omega))
 | refine awp_seqK ?_
 | refine kt ?_
 | refine And.intro ?_ ?_
 | ((first | refine awp_stp rfl ?_ | refine awp_draw (by kernel_rfl) (by kernel_rfl) ?_ | refine Imp.le2 ?_ | refine callK_of (upto_c _ _ _) ?_ | refine callK_of (flow_c _ _) ?_ | refine callK_of (hall) ?_ | refine go_split (fun _h => ?_) (fun _h => ?_)) <;> try simp (maxSteps := 4000000) only [go_sem, seval, g2, f8, f9, fa, decide_true, decide_false, Bool.not_true])
 | intro _h
 | refine awp_block ?_
 | refine awp_scope ?_
 | refine cond_b ?_ ?_
 | (show heapOK _ _ = true; kernel_rfl)
 | (show heapOK2 _ _ = true; kernel_rfl)
 | (omega)))
      all_goals trace_state
theorem worked_c (l : Lake) (works : List Work) (ch : List Int) (h : LakeOK l) (hw : faultW works = 0) (hc : ChoOK works.length ch) : CallS Tryz.prog 29 [.agg (lakeC l), slWk works, sl ch] (.int .i64 0) := by
  have hch := check_c l h
  have hcl := hc.len
  have hw1 : works.length ≤ 10 ∧ works.all workB = true := by
    unfold faultW at hw
    split at hw
    · omega
    · split at hw
      · exact ⟨by omega, by assumption⟩
      · omega
  have hall := all_Wk works 50 workB (by omega) (fun i _ => wvalid_c _)
  rw [hw1.2] at hall
  have f1 : (10 < (works.length : Int)) = False := eq_false (by omega)
  simp only [lakeC, slR, sl, slWk] at hch hall ⊢
  (refine callS_of_awp (fun w args => Tryz.call29 ..) Tryz.func29 rfl (fun w0 m0 wz => ?_); simp only [Tryz.ntmps29, Tryz.results29, initT, junks, sl, List.toList_toArray, List.cons_append, List.nil_append, List.length_cons, List.length_nil, Nat.reduceAdd, Nat.reduceSub])
  (repeat' (first
 | ((exfalso; omega))
 | refine awp_seqK ?_
 | refine kt ?_
 | refine And.intro ?_ ?_
 | ((first | refine awp_stp rfl ?_ | refine awp_draw (by kernel_rfl) (by kernel_rfl) ?_ | refine Imp.le2 ?_ | refine callK_of (hch) ?_ | refine callK_of (hall) ?_ | refine go_split (fun _h => ?_) (fun _h => ?_)) <;> try simp (maxSteps := 4000000) only [go_sem, seval, f1, decide_true, decide_false, Bool.not_true])
 | intro _h
 | refine awp_block ?_
 | refine awp_scope ?_
 | refine cond_b ?_ ?_
 | (show heapOK _ _ = true; kernel_rfl)
 | (show heapOK2 _ _ = true; kernel_rfl)
 | (omega)))
  refine awp_loopN ch.length (fun k => ⟨mkT 50 [(1, slWk works), (2, sl ch), (23, sl ch), (24, .int .i64 ch.length), (25, .int .i64 k)], [], []⟩) (.le2 ?_) ?_
  · simp only [sl, slWk]; simp (maxSteps := 4000000) only [go_sem, seval]
    all_goals first | rfl | exact ⟨rfl, rfl⟩ | trace_state
  · intro k hk
    rcases Nat.lt_or_eq_of_le hk with hk1 | hk1
    · have hat := hc.at_ k hk1
      have g1 : (0 ≤ ch.getD k 0 ∧ ch.getD k 0 ≤ (works.length : Int) - 1) = True := eq_true hat
      by_cases c0 : 0 < k
      · have hinc := hc.inc (k - 1) (by omega)
        rw [show k - 1 + 1 = k by omega] at hinc
        have g2 : (0 < (k : Int)) = True := eq_true (by omega)
        have g3 : ((k : Int) - 1).toNat = k - 1 := by omega
        have g4 : (ch.getD k 0 ≤ ch.getD (k - 1) 0) = False := eq_false (by omega)
        simp only [sl, slWk]; simp (maxSteps := 4000000) only [go_sem, seval]
        (repeat' (first
 | ((omega))
 | ((exfalso; omega))
 | refine awp_seqK ?_
 | refine kt ?_
 | refine And.intro ?_ ?_
 | ((first | refine awp_stp rfl ?_ | refine awp_draw (by kernel_rfl) (by kernel_rfl) ?_ | refine Imp.le2 ?_ | refine callK_of (within_c _ _ _) ?_ | refine go_split (fun _h => ?_) (fun _h => ?_)) <;> try simp (maxSteps := 4000000) only [go_sem, seval, g1, g2, g3, g4, decide_true, decide_false, Bool.not_true])
 | intro _h
 | refine awp_block ?_
 | refine awp_scope ?_
 | refine cond_b ?_ ?_
 | (show heapOK _ _ = true; kernel_rfl)
 | (show heapOK2 _ _ = true; kernel_rfl)
 | (omega)))
        all_goals first | rfl | exact ⟨rfl, rfl⟩ | trace_state
      · have g2 : (0 < (k : Int)) = False := eq_false (by omega)
        simp only [sl, slWk]; simp (maxSteps := 4000000) only [go_sem, seval]
        (repeat' (first
 | ((omega))
 | ((exfalso; omega))
 | refine awp_seqK ?_
 | refine kt ?_
 | refine And.intro ?_ ?_
 | ((first | refine awp_stp rfl ?_ | refine awp_draw (by kernel_rfl) (by kernel_rfl) ?_ | refine Imp.le2 ?_ | refine callK_of (within_c _ _ _) ?_ | refine go_split (fun _h => ?_) (fun _h => ?_)) <;> try simp (maxSteps := 4000000) only [go_sem, seval, g1, g2, decide_true, decide_false, Bool.not_true])
 | intro _h
 | refine awp_block ?_
 | refine awp_scope ?_
 | refine cond_b ?_ ?_
 | (show heapOK _ _ = true; kernel_rfl)
 | (show heapOK2 _ _ = true; kernel_rfl)
 | (omega)))
        all_goals first | rfl | exact ⟨rfl, rfl⟩ | trace_state
    · subst hk1
      simp only [sl, slWk]; simp (maxSteps := 4000000) only [go_sem, seval]
      (repeat' (first
 | ((omega))
 | ((exfalso; omega))
 | refine awp_seqK ?_
 | refine kt ?_
 | refine And.intro ?_ ?_
 | ((first | refine awp_stp rfl ?_ | refine awp_draw (by kernel_rfl) (by kernel_rfl) ?_ | refine Imp.le2 ?_ | refine go_split (fun _h => ?_) (fun _h => ?_)) <;> try simp (maxSteps := 4000000) only [go_sem, seval])
 | intro _h
 | refine awp_block ?_
 | refine awp_scope ?_
 | refine cond_b ?_ ?_
 | (show heapOK _ _ = true; kernel_rfl)
 | (show heapOK2 _ _ = true; kernel_rfl)
 | (omega)))
      all_goals trace_state
end La
end Go.Am
namespace Go.Am
namespace La
open Go.RowKit Go.Proofs
attribute [local irreducible] AWP CallS Kt goK CallK stepK evOps SemF SemY Imp
set_option maxRecDepth 4000
set_option linter.unusedSimpArgs false
set_option linter.unusedVariables false
set_option maxHeartbeats 6400000
def netV (l : Lake) (works : List Work) (ch : List Int) (h : Nat) : Int × Int :=
  ((l.infl.getD h default).1 - l.seHi - outV works ch h ch.length, (l.infl.getD h default).2 - l.seLo - outV works ch h ch.length)
structure Aft where
  hard : Int × Int
  soft : Int × Int
  brk : Int
instance : Inhabited Aft := ⟨⟨(0, 0), (0, 0), 0⟩⟩
def s1V (l : Lake) (net : Int × Int) (h : Nat) (x : Aft) : (Int × Int) × Int := if (h : Int) < l.soHi then stepV (boundV l 0) x.hard net else ((1, 0), -1)
def s2V (l : Lake) (net : Int × Int) (h : Nat) (x : Aft) : (Int × Int) × Int := if l.soLo ≤ h ∧ h ≤ l.soHi then stepV (boundV l 1) x.hard net else ((1, 0), -1)
def s3V (l : Lake) (net : Int × Int) (x : Aft) : (Int × Int) × Int := stepV (boundV l 1) x.soft net
def nextV (l : Lake) (net : Int × Int) (h : Nat) (x : Aft) : Aft :=
  ⟨(s1V l net h x).1, joinV (s2V l net h x).1 (s3V l net x).1, max (max (max (-1) (s1V l net h x).2) (s2V l net h x).2) (s3V l net x).2⟩
def nowV (l : Lake) (works : List Work) (ch : List Int) : Nat → Aft
  | 0 => ⟨(l.stLo, l.stHi), (1, 0), -1⟩
  | k + 1 => nextV l (netV l works ch k) k (nowV l works ch k)
def aftL (l : Lake) (works : List Work) (ch : List Int) (k : Nat) : List Aft := (List.range k).map fun h => nowV l works ch (h + 1)
theorem aftL_succ {l : Lake} {works : List Work} {ch : List Int} {k : Nat} : aftL l works ch (k + 1) = aftL l works ch k ++ [nowV l works ch (k + 1)] := by simp [aftL, List.range_succ]
theorem aftL_length {l : Lake} {works : List Work} {ch : List Int} {k : Nat} : (aftL l works ch k).length = k := by simp [aftL]
def aftC (x : Aft) : List AV := [.int .i64 x.hard.1, .int .i64 x.hard.2, .int .i64 x.soft.1, .int .i64 x.soft.2, .int .i64 x.brk]
def slAf (l : List Aft) : AV := .psl false l.length (recs aftC l)
theorem pl_Af {l : List Aft} : pureL (recs aftC l) = True := eq_true (recs_pure fun s => by simp [pureL, aftC, cellPure])
theorem lv_Af {l : List Aft} {p : Nat → Bool} : (recs aftC l).all (live2 p) = true := recs_live fun s => by simp [pureL, aftC, cellPure]
theorem len_Af {l : List Aft} : (recs aftC l).length = l.length * 5 := recs_length fun _ => rfl
attribute [go_sem] pl_Af lv_Af len_Af aftL_length
def RngOK (x : Int × Int) : Prop := (0 ≤ x.1 ∧ x.1 ≤ 1000000) ∧ 0 ≤ x.2 ∧ x.2 ≤ 1000000
theorem netV_bd {l : Lake} {works : List Work} {ch : List Int} {h : Nat} (ho : LakeOK l) (hw : works.all workB = true) (hc : ChoOK works.length ch) (hl : ch.length ≤ 15) (hh : h < l.infl.length) : (-1000000000 ≤ (netV l works ch h).1 ∧ (netV l works ch h).1 ≤ 1000000) ∧ -1000000000 ≤ (netV l works ch h).2 ∧ (netV l works ch h).2 ≤ 1000000 := by
  have h1 := outV_bd (hour := h) hw hc ch.length (Nat.le_refl _)
  have h2 := ho.infl h hh
  have h3 := ho.seep
  unfold netV
  simp only
  omega
theorem stepV_ok {bd : Int} {x net : Int × Int} (hb : 0 ≤ bd ∧ bd ≤ 1000000) (hx : RngOK x) : RngOK (stepV bd x net).1 := by
  unfold stepV RngOK
  split
  · simp
  · simp only
    split
    · simp
    · simp only; omega
theorem joinV_ok {a b : Int × Int} (ha : RngOK a) (hb : RngOK b) : RngOK (joinV a b) := by
  unfold joinV
  split
  · exact hb
  · split
    · exact ha
    · obtain ⟨⟨a1, a2⟩, a3, a4⟩ := ha
      obtain ⟨⟨b1, b2⟩, b3, b4⟩ := hb
      unfold RngOK; simp only; omega
theorem none_ok : RngOK ((1 : Int), (0 : Int)) := by unfold RngOK; simp
theorem next_ok {l : Lake} {net : Int × Int} {h : Nat} {x : Aft} (ho : LakeOK l) (h1 : RngOK x.hard) (h2 : RngOK x.soft) : RngOK (nextV l net h x).hard ∧ RngOK (nextV l net h x).soft := by
  have a1 : RngOK (s1V l net h x).1 := by
    unfold s1V; split
    · exact stepV_ok (bound_bd ho) h1
    · exact none_ok
  have a2 : RngOK (s2V l net h x).1 := by
    unfold s2V; split
    · exact stepV_ok (bound_bd ho) h1
    · exact none_ok
  exact ⟨a1, joinV_ok a2 (stepV_ok (bound_bd ho) h2)⟩
theorem now_ok {l : Lake} {works : List Work} {ch : List Int} (ho : LakeOK l) : ∀ k, RngOK (nowV l works ch k).hard ∧ RngOK (nowV l works ch k).soft
  | 0 => by
    have h1 := ho.start
    have h2 := ho.weak
    have h3 := ho.crest
    have h4 := vols_bd ho (i := l.weak.toNat) (by omega)
    refine ⟨?_, none_ok⟩
    unfold RngOK nowV; simp only; omega
  | k + 1 => next_ok ho (now_ok ho k).1 (now_ok ho k).2
theorem nets_c (l : Lake) (works : List Work) (ch : List Int) : SemF Tryz.prog 55 [.agg (pumC l works ch)] [] (.fn (.func 78) [] [.ptr 0 0 0]) [some (.cells 104 1 0 (pumC l works ch))] := by
  simp only [pumC, lakeC, List.cons_append, List.nil_append, sl, slWk, slR]
  (refine semF_of_awp (ys := [.fn (.func 78) [] [.ptr 0 0 0]]) (fun w args => Tryz.call55 ..) Tryz.func55 rfl (fun w0 m0 wz => ?_); simp only [Tryz.ntmps55, Tryz.results55, initT, junks, sl, List.toList_toArray, List.cons_append, List.nil_append, List.length_cons, List.length_nil, Nat.reduceAdd, Nat.reduceSub])
  (repeat' (first
 | refine awp_seqK ?_
 | refine kt ?_
 | refine And.intro ?_ ?_
 | ((first | refine awp_stp rfl ?_ | refine awp_draw (by kernel_rfl) (by kernel_rfl) ?_ | refine Imp.le2 ?_ | refine go_split (fun _h => ?_) (fun _h => ?_)) <;> try simp (maxSteps := 4000000) only [go_sem, seval])
 | intro _h
 | refine awp_block ?_
 | refine awp_scope ?_
 | refine cond_b ?_ ?_
 | (show heapOK _ _ = true; kernel_rfl)
 | (show heapOK2 _ _ = true; kernel_rfl)
 | (omega)))
  all_goals trace_state
def hoH (l : Lake) (works : List Work) (ch : List Int) (k : Nat) : List (Option ABlk) :=
  [some (.cells 104 1 0 (pumC l works ch)), some (.cells 102 1 0 [.osl 5 k 0 k]), some (.cells 107 1 0 [.int .i64 (nowV l works ch k).hard.1, .int .i64 (nowV l works ch k).hard.2, .int .i64 (nowV l works ch k).soft.1, .int .i64 (nowV l works ch k).soft.2]), some (.cells 99 1 0 [.fn (.func 54) [.agg [.int .i64 l.soLo, .int .i64 l.soHi]] []]), some (.cells 104 1 0 (pumC l works ch)), some (.cells 109 5 k (recs aftC (aftL l works ch k)))]
def hoT : List AV := mkT 102 [(1, .ptr 0 0 0), (2, .ptr 1 0 0), (3, .ptr 2 0 0), (4, .ptr 3 0 0), (24, .fn (.func 78) [] [.ptr 4 0 0])]
theorem hours_c (l : Lake) (works : List Work) (ch : List Int) (ho : LakeOK l) (hw : works.all workB = true) (hc : ChoOK works.length ch) (hcl : ch.length ≤ 15) : CallS Tryz.prog 34 [.agg (pumC l works ch)] (slAf (aftL l works ch l.infl.length)) := by
  have hne := nets_c l works ch
  simp only [pumC, lakeC, List.cons_append, List.nil_append, sl, slWk, slR] at hne ⊢
  simp only [slAf, aftL_length]
  (refine callS_of_awp (fun w args => Tryz.call34 ..) Tryz.func34 rfl (fun w0 m0 wz => ?_); simp only [Tryz.ntmps34, Tryz.results34, initT, junks, sl, List.toList_toArray, List.cons_append, List.nil_append, List.length_cons, List.length_nil, Nat.reduceAdd, Nat.reduceSub])
  (repeat' (first
 | (refine awp_ownN (id := 3) 1 rfl ?_; simp (maxSteps := 4000000) only [go_sem, seval, List.take_succ_cons, List.take_zero])
 | (refine own_go (hne) [] rfl ?_ ?_ rfl ?_ <;> try simp (maxSteps := 4000000) only [go_sem, seval, Nat.lt_irrefl] <;> try decide)
 | refine awp_seqK ?_
 | refine kt ?_
 | refine And.intro ?_ ?_
 | ((first | refine awp_stp rfl ?_ | refine awp_draw (by kernel_rfl) (by kernel_rfl) ?_ | refine Imp.le2 ?_ | refine callK_of (none_c) ?_ | refine go_split (fun _h => ?_) (fun _h => ?_)) <;> try simp (maxSteps := 4000000) only [go_sem, seval])
 | intro _h
 | refine awp_block ?_
 | refine awp_scope ?_
 | refine cond_b ?_ ?_
 | (show heapOK _ _ = true; kernel_rfl)
 | (show heapOK2 _ _ = true; kernel_rfl)
 | (omega)))
  refine awp_adH 1 0 109 5 rfl rfl ?_
  refine AWP.le2 (s' := ⟨hoT, hoH l works ch 0, []⟩) (by simp only [hoT, hoH, adH, hget, hset, lset, List.length_cons, List.length_nil, Nat.reduceAdd, pumC, lakeC, List.cons_append, List.nil_append, sl, slWk, slR, nowV, aftL, List.range_zero, List.map_nil, recs, List.flatMap_nil]; simp (maxSteps := 4000000) only [go_sem, seval]) ?_
  refine awp_rangeZ (gf := 78) (first := []) (caps := [.ptr 4 0 0]) (by simp only [hoT]; simp (maxSteps := 4000000) only [go_sem, seval]) 6 rfl ?_
  intro ca cb hca hcb
  refine ⟨.tup [], hoH l works ch l.infl.length ++ [some (.dfr true), some (.loop .ready none 0 hoT #[25, 26] ca cb 6)], .ready, none, .normal, ?_, ?_, by simp, rfl, ?_⟩
  · simp only [hoH, hoT, pumC, lakeC, List.cons_append, List.nil_append, sl, slWk, slR]
    simp (maxSteps := 4000000) only [go_sem, seval]
    (refine semF_of_awp (ys := []) (fun w args => Tryz.call78 ..) Tryz.func78 rfl (fun w0 m0 wz => ?_); simp only [Tryz.ntmps78, Tryz.results78, initT, junks, sl, List.toList_toArray, List.cons_append, List.nil_append, List.length_cons, List.length_nil, Nat.reduceAdd, Nat.reduceSub])
    (repeat' (first
 | refine awp_seqK ?_
 | refine kt ?_
 | refine And.intro ?_ ?_
 | ((first | refine awp_stp rfl ?_ | refine awp_draw (by kernel_rfl) (by kernel_rfl) ?_ | refine Imp.le2 ?_ | refine go_split (fun _h => ?_) (fun _h => ?_)) <;> try simp (maxSteps := 4000000) only [go_sem, seval])
 | intro _h
 | refine awp_block ?_
 | refine awp_scope ?_
 | refine cond_b ?_ ?_
 | (show heapOK _ _ = true; kernel_rfl)
 | (show heapOK2 _ _ = true; kernel_rfl)
 | (omega)))
    refine awp_loopN l.infl.length (fun k => ⟨mkT 42 [(0, .fn (.yield 7) [] []), (1, .ptr 4 0 0), (8, slR l.infl), (9, .int .i64 l.infl.length), (10, .int .i64 k)], hoH l works ch k ++ [some (.dfr true), some (.loop .ready none 0 hoT #[25, 26] ca cb 6)], []⟩) (.le2 ?_) ?_
    · simp only [hoH, hoT, pumC, lakeC, List.cons_append, List.nil_append, sl, slWk, slR]; simp (maxSteps := 4000000) only [go_sem, seval]
      all_goals first | rfl | exact ⟨rfl, rfl⟩ | trace_state
    · intro k hk
      rcases Nat.lt_or_eq_of_le hk with hk1 | hk1
      · have hou := out_c l works ch k hw hc
        have hnb := netV_bd ho hw hc hcl hk1
        have hob := outV_bd (hour := (k : Int)) hw hc ch.length (Nat.le_refl _)
        have hin := ho.infl k hk1
        have hse := ho.seep
        obtain ⟨q, hq⟩ : ∃ q, l.infl.getD k default = q := ⟨_, rfl⟩
        obtain ⟨ov, hov⟩ : ∃ ov, outV works ch k ch.length = ov := ⟨_, rfl⟩
        have hne : netV l works ch k = (q.1 - l.seHi - ov, q.2 - l.seLo - ov) := by unfold netV; rw [hq, hov]
        rw [hov] at hou hob
        rw [hq] at hin
        simp only [pumC, lakeC, List.cons_append, List.nil_append, sl, slWk, slR] at hou
        simp only [hoH, hoT, pumC, lakeC, List.cons_append, List.nil_append, sl, slWk, slR]; simp (maxSteps := 4000000) only [go_sem, seval]
        (repeat' (first
 | ((show zeroOK _ = true; rfl))
 | ((refine awp_ownN (id := 4) 21 rfl ?_; simp (maxSteps := 4000000) only [go_sem, seval, hq, rngC, List.take_succ_cons, List.take_zero]))
 | ((omega))
 | refine awp_seqK ?_
 | refine kt ?_
 | refine And.intro ?_ ?_
 | ((first | refine awp_stp rfl ?_ | refine awp_draw (by kernel_rfl) (by kernel_rfl) ?_ | refine Imp.le2 ?_ | refine callK_of (hou) ?_ | refine go_split (fun _h => ?_) (fun _h => ?_)) <;> try simp (maxSteps := 4000000) only [go_sem, seval, hq, rngC])
 | intro _h
 | refine awp_block ?_
 | refine awp_scope ?_
 | refine cond_b ?_ ?_
 | (show heapOK _ _ = true; kernel_rfl)
 | (show heapOK2 _ _ = true; kernel_rfl)
 | (omega)))
        have hx := now_ok (works := works) (ch := ch) ho k
        have hN : nowV l works ch (k + 1) = nextV l (netV l works ch k) k (nowV l works ch k) := rfl
        have hsn : recs aftC (aftL l works ch k) ++ aftC (nowV l works ch (k + 1)) = recs aftC (aftL l works ch (k + 1)) := by rw [aftL_succ, recs_snoc]
        have hA1 := aftL_length (l := l) (works := works) (ch := ch) (k := k)
        have hA2 := aftL_length (l := l) (works := works) (ch := ch) (k := k + 1)
        refine callH_yield true (hoH l works ch (k + 1) ++ [some (.dfr true), some (.loop .ready none 0 hoT #[25, 26] ca cb 6), some (.cells 53 1 0 [.int .i64 q.1, .int .i64 q.2])]) ?_ ?_
        · rw [hne] at hN hnb
          simp only at hnb
          obtain ⟨n1, hn1⟩ : ∃ n1, q.1 - l.seHi - ov = n1 := ⟨_, rfl⟩
          obtain ⟨n2, hn2⟩ : ∃ n2, q.2 - l.seLo - ov = n2 := ⟨_, rfl⟩
          rw [hn1, hn2] at hN hnb
          rw [hn1, hn2]
          unfold hoH
          rw [← hsn]
          generalize nowV l works ch (k + 1) = Y at *
          generalize nowV l works ch k = X at *
          have hAl : (recs aftC (aftL l works ch k)).length = k * 5 := by rw [len_Af, aftL_length]
          have hm := ho.m
          have hAv : ∀ p : Nat → Bool, (recs aftC (aftL l works ch k)).all (live2 p) = true := fun p => lv_Af
          generalize recs aftC (aftL l works ch k) = A at *
          have hn := ho.n
          have hcr := ho.crest
          have hwk := ho.weak
          have hb0 := bound_bd (k := 0) ho
          have hb1 := bound_bd (k := 1) ho
          unfold RngOK at hx
          have hs1 := step_c l works ch X.hard (n1, n2) 0 (by omega) (by omega) (by omega) (by simp only; omega) (by omega)
          have hs2 := step_c l works ch X.hard (n1, n2) 1 (by omega) (by omega) (by omega) (by simp only; omega) (by omega)
          have hs3 := step_c l works ch X.soft (n1, n2) 1 (by omega) (by omega) (by omega) (by simp only; omega) (by omega)
          unfold nextV s1V s2V s3V at hN
          generalize stepV (boundV l 0) X.hard (n1, n2) = y1 at *
          generalize stepV (boundV l 1) X.hard (n1, n2) = y2 at *
          generalize stepV (boundV l 1) X.soft (n1, n2) = y3 at *
          have hj1 := joined_c y2.1 y3.1
          have hj2 := joined_c (1, 0) y3.1
          subst hN
          obtain ⟨⟨x1, x2⟩, ⟨x3, x4⟩, x5⟩ := X
          simp only [hoH, hoT, pumC, lakeC, List.cons_append, List.nil_append, sl, slWk, slR, rngC] at hs1 hs2 hs3 hj1 hj2 ⊢
          have mm : ∀ a : Int, max (max (-1) a) (-1) = max (-1) a := fun a => by omega
          by_cases c1 : (k : Int) < l.soHi
          · by_cases c2 : l.soLo ≤ (k : Int) ∧ (k : Int) ≤ l.soHi
            · simp only [if_pos c1, if_pos c2]
              refine semY_of_awpZ rfl rfl ?_
              intro B w0 l0 m w
              refine awp_code hca ?_
              (repeat' (first
 | refine awp_seqK ?_
 | refine kt ?_
 | refine And.intro ?_ ?_
 | ((first | refine awp_stp rfl ?_ | refine awp_draw (by kernel_rfl) (by kernel_rfl) ?_ | refine Imp.le2 ?_ | refine go_split (fun _h => ?_) (fun _h => ?_)) <;> try simp (maxSteps := 4000000) only [go_sem, seval])
 | intro _h
 | refine awp_block ?_
 | refine awp_scope ?_
 | refine cond_b ?_ ?_
 | (show heapOK _ _ = true; kernel_rfl)
 | (show heapOK2 _ _ = true; kernel_rfl)
 | (omega)))
              refine awp_code hcb ?_
              (repeat' (first
 | ((exact hAl))
 | ((omega))
 | refine awp_seqK ?_
 | refine kt ?_
 | refine And.intro ?_ ?_
 | ((first | refine awp_stp rfl ?_ | refine awp_draw (by kernel_rfl) (by kernel_rfl) ?_ | refine Imp.le2 ?_ | refine callK_of (hs1) ?_ | refine callK_of (hs2) ?_ | refine callK_of (hs3) ?_ | refine callK_of (has_c _ _ _) ?_ | refine callK_of (none_c) ?_ | refine callK_of (greatest_c _ _ _) ?_ | refine callK_of (hj1) ?_ | refine callK_of (hj2) ?_ | refine go_split (fun _h => ?_) (fun _h => ?_)) <;> try simp (maxSteps := 4000000) only [go_sem, seval, eq_true c1, eq_true c2, aftC, rngC, decide_true, decide_false])
 | intro _h
 | refine awp_block ?_
 | refine awp_scope ?_
 | refine cond_b ?_ ?_
 | (show heapOK _ _ = true; kernel_rfl)
 | (show heapOK2 _ _ = true; kernel_rfl)
 | (omega)))
              all_goals first | (rw [List.all_append, hAv]; rfl) | trace_state
            · simp only [if_pos c1, if_neg c2, mm]
              refine semY_of_awpZ rfl rfl ?_
              intro B w0 l0 m w
              refine awp_code hca ?_
              (repeat' (first
 | refine awp_seqK ?_
 | refine kt ?_
 | refine And.intro ?_ ?_
 | ((first | refine awp_stp rfl ?_ | refine awp_draw (by kernel_rfl) (by kernel_rfl) ?_ | refine Imp.le2 ?_ | refine go_split (fun _h => ?_) (fun _h => ?_)) <;> try simp (maxSteps := 4000000) only [go_sem, seval])
 | intro _h
 | refine awp_block ?_
 | refine awp_scope ?_
 | refine cond_b ?_ ?_
 | (show heapOK _ _ = true; kernel_rfl)
 | (show heapOK2 _ _ = true; kernel_rfl)
 | (omega)))
              refine awp_code hcb ?_
              (repeat' (first
 | ((exact hAl))
 | ((omega))
 | refine awp_seqK ?_
 | refine kt ?_
 | refine And.intro ?_ ?_
 | ((first | refine awp_stp rfl ?_ | refine awp_draw (by kernel_rfl) (by kernel_rfl) ?_ | refine Imp.le2 ?_ | refine callK_of (hs1) ?_ | refine callK_of (hs2) ?_ | refine callK_of (hs3) ?_ | refine callK_of (has_c _ _ _) ?_ | refine callK_of (none_c) ?_ | refine callK_of (greatest_c _ _ _) ?_ | refine callK_of (hj1) ?_ | refine callK_of (hj2) ?_ | refine go_split (fun _h => ?_) (fun _h => ?_)) <;> try simp (maxSteps := 4000000) only [go_sem, seval, eq_true c1, eq_false c2, aftC, rngC, decide_true, decide_false])
 | intro _h
 | refine awp_block ?_
 | refine awp_scope ?_
 | refine cond_b ?_ ?_
 | (show heapOK _ _ = true; kernel_rfl)
 | (show heapOK2 _ _ = true; kernel_rfl)
 | (omega)))
              all_goals first | (rw [List.all_append, hAv]; rfl) | trace_state
          · by_cases c2 : l.soLo ≤ (k : Int) ∧ (k : Int) ≤ l.soHi
            · simp only [if_neg c1, if_pos c2, Int.max_self]
              refine semY_of_awpZ rfl rfl ?_
              intro B w0 l0 m w
              refine awp_code hca ?_
              (repeat' (first
 | refine awp_seqK ?_
 | refine kt ?_
 | refine And.intro ?_ ?_
 | ((first | refine awp_stp rfl ?_ | refine awp_draw (by kernel_rfl) (by kernel_rfl) ?_ | refine Imp.le2 ?_ | refine go_split (fun _h => ?_) (fun _h => ?_)) <;> try simp (maxSteps := 4000000) only [go_sem, seval])
 | intro _h
 | refine awp_block ?_
 | refine awp_scope ?_
 | refine cond_b ?_ ?_
 | (show heapOK _ _ = true; kernel_rfl)
 | (show heapOK2 _ _ = true; kernel_rfl)
 | (omega)))
              refine awp_code hcb ?_
              (repeat' (first
 | ((exact hAl))
 | ((omega))
 | refine awp_seqK ?_
 | refine kt ?_
 | refine And.intro ?_ ?_
 | ((first | refine awp_stp rfl ?_ | refine awp_draw (by kernel_rfl) (by kernel_rfl) ?_ | refine Imp.le2 ?_ | refine callK_of (hs1) ?_ | refine callK_of (hs2) ?_ | refine callK_of (hs3) ?_ | refine callK_of (has_c _ _ _) ?_ | refine callK_of (none_c) ?_ | refine callK_of (greatest_c _ _ _) ?_ | refine callK_of (hj1) ?_ | refine callK_of (hj2) ?_ | refine go_split (fun _h => ?_) (fun _h => ?_)) <;> try simp (maxSteps := 4000000) only [go_sem, seval, eq_false c1, eq_true c2, aftC, rngC, decide_true, decide_false])
 | intro _h
 | refine awp_block ?_
 | refine awp_scope ?_
 | refine cond_b ?_ ?_
 | (show heapOK _ _ = true; kernel_rfl)
 | (show heapOK2 _ _ = true; kernel_rfl)
 | (omega)))
              all_goals first | (rw [List.all_append, hAv]; rfl) | trace_state
            · simp only [if_neg c1, if_neg c2, Int.max_self]
              refine semY_of_awpZ rfl rfl ?_
              intro B w0 l0 m w
              refine awp_code hca ?_
              (repeat' (first
 | refine awp_seqK ?_
 | refine kt ?_
 | refine And.intro ?_ ?_
 | ((first | refine awp_stp rfl ?_ | refine awp_draw (by kernel_rfl) (by kernel_rfl) ?_ | refine Imp.le2 ?_ | refine go_split (fun _h => ?_) (fun _h => ?_)) <;> try simp (maxSteps := 4000000) only [go_sem, seval])
 | intro _h
 | refine awp_block ?_
 | refine awp_scope ?_
 | refine cond_b ?_ ?_
 | (show heapOK _ _ = true; kernel_rfl)
 | (show heapOK2 _ _ = true; kernel_rfl)
 | (omega)))
              refine awp_code hcb ?_
              (repeat' (first
 | ((exact hAl))
 | ((omega))
 | refine awp_seqK ?_
 | refine kt ?_
 | refine And.intro ?_ ?_
 | ((first | refine awp_stp rfl ?_ | refine awp_draw (by kernel_rfl) (by kernel_rfl) ?_ | refine Imp.le2 ?_ | refine callK_of (hs1) ?_ | refine callK_of (hs2) ?_ | refine callK_of (hs3) ?_ | refine callK_of (has_c _ _ _) ?_ | refine callK_of (none_c) ?_ | refine callK_of (greatest_c _ _ _) ?_ | refine callK_of (hj1) ?_ | refine callK_of (hj2) ?_ | refine go_split (fun _h => ?_) (fun _h => ?_)) <;> try simp (maxSteps := 4000000) only [go_sem, seval, eq_false c1, eq_false c2, aftC, rngC, decide_true, decide_false])
 | intro _h
 | refine awp_block ?_
 | refine awp_scope ?_
 | refine cond_b ?_ ?_
 | (show heapOK _ _ = true; kernel_rfl)
 | (show heapOK2 _ _ = true; kernel_rfl)
 | (omega)))
              all_goals first | (rw [List.all_append, hAv]; rfl) | trace_state
        · have hm := ho.m
          simp only [hoH, hoT, pumC, lakeC, List.cons_append, List.nil_append, sl, slWk, slR]; simp (maxSteps := 4000000) only [go_sem, seval]
          (repeat' (first
 | ((exfalso; omega))
 | ((omega))
 | refine awp_seqK ?_
 | refine kt ?_
 | refine And.intro ?_ ?_
 | ((first | refine awp_stp rfl ?_ | refine awp_draw (by kernel_rfl) (by kernel_rfl) ?_ | refine Imp.le2 ?_ | refine go_split (fun _h => ?_) (fun _h => ?_)) <;> try simp (maxSteps := 4000000) only [go_sem, seval])
 | intro _h
 | refine awp_block ?_
 | refine awp_scope ?_
 | refine cond_b ?_ ?_
 | (show heapOK _ _ = true; kernel_rfl)
 | (show heapOK2 _ _ = true; kernel_rfl)
 | (omega)))
          all_goals first | rfl | exact ⟨rfl, rfl⟩ | trace_state
      · subst hk1
        simp only [hoH, hoT, pumC, lakeC, List.cons_append, List.nil_append, sl, slWk, slR]; simp (maxSteps := 4000000) only [go_sem, seval]
        (repeat' (first
 | ((exfalso; omega))
 | refine awp_seqK ?_
 | refine kt ?_
 | refine And.intro ?_ ?_
 | ((first | refine awp_stp rfl ?_ | refine awp_draw (by kernel_rfl) (by kernel_rfl) ?_ | refine Imp.le2 ?_ | refine go_split (fun _h => ?_) (fun _h => ?_)) <;> try simp (maxSteps := 4000000) only [go_sem, seval])
 | intro _h
 | refine awp_block ?_
 | refine awp_scope ?_
 | refine cond_b ?_ ?_
 | (show heapOK _ _ = true; kernel_rfl)
 | (show heapOK2 _ _ = true; kernel_rfl)
 | (omega)))
        all_goals first | rfl | exact ⟨rfl, rfl⟩ | trace_state
  · rfl
  · simp only [hoH, hoT, pumC, lakeC, List.cons_append, List.nil_append, sl, slWk, slR]
    simp (maxSteps := 4000000) only [go_sem, seval]
    (repeat' (first
 | refine awp_seqK ?_
 | refine kt ?_
 | refine And.intro ?_ ?_
 | ((first | refine awp_stp rfl ?_ | refine awp_draw (by kernel_rfl) (by kernel_rfl) ?_ | refine Imp.le2 ?_ | refine go_split (fun _h => ?_) (fun _h => ?_)) <;> try simp (maxSteps := 4000000) only [go_sem, seval])
 | intro _h
 | refine awp_block ?_
 | refine awp_scope ?_
 | refine cond_b ?_ ?_
 | (show heapOK _ _ = true; kernel_rfl)
 | (show heapOK2 _ _ = true; kernel_rfl)
 | (omega)))
    all_goals trace_state
end La
end Go.Am
namespace Go.Am
namespace La
open Go.RowKit Go.Proofs
attribute [local irreducible] AWP CallS Kt goK CallK stepK evOps SemF SemY Imp
set_option maxRecDepth 4000
set_option linter.unusedSimpArgs false
set_option linter.unusedVariables false
set_option maxHeartbeats 6400000
theorem allA_has (lo hi : Int) (x : Int) (q : Bool) (hq : CallS Tryz.prog 54 [.agg [.int .i64 lo, .int .i64 hi], .int .i64 x] (.bool q)) : SemF Tryz.prog 93 [.int .i64 x, .ptr 0 0 0] [some (.cells 99 1 0 [.fn (.func 54) [.agg [.int .i64 lo, .int .i64 hi]] []])] (.bool (!q)) [some (.cells 99 1 0 [.fn (.func 54) [.agg [.int .i64 lo, .int .i64 hi]] []])] := by
  (refine semF_of_awp (ys := [.bool (!q)]) (fun w args => Tryz.call93 ..) Tryz.func93 rfl (fun w0 m0 wz => ?_); simp only [Tryz.ntmps93, Tryz.results93, initT, junks, sl, List.toList_toArray, List.cons_append, List.nil_append, List.length_cons, List.length_nil, Nat.reduceAdd, Nat.reduceSub])
  (repeat' (first
 | refine awp_seqK ?_
 | refine kt ?_
 | refine And.intro ?_ ?_
 | ((first | refine awp_stp rfl ?_ | refine awp_draw (by kernel_rfl) (by kernel_rfl) ?_ | refine Imp.le2 ?_ | refine callK_of (hq) ?_ | refine go_split (fun _h => ?_) (fun _h => ?_)) <;> try simp (maxSteps := 4000000) only [go_sem, seval])
 | intro _h
 | refine awp_block ?_
 | refine awp_scope ?_
 | refine cond_b ?_ ?_
 | (show heapOK _ _ = true; kernel_rfl)
 | (show heapOK2 _ _ = true; kernel_rfl)
 | (omega))) <;> simp [*]
theorem idxA_has (lo hi : Int) (l : List Int) (q : Int → Bool) (hl : l.length ≤ 1000000) (hq : ∀ i, i < l.length → SemF Tryz.prog 93 [.int .i64 (l.getD i 0), .ptr 0 0 0] [some (.cells 99 1 0 [.fn (.func 54) [.agg [.int .i64 lo, .int .i64 hi]] []])] (.bool (q (l.getD i 0))) [some (.cells 99 1 0 [.fn (.func 54) [.agg [.int .i64 lo, .int .i64 hi]] []])]) :
    SemF Tryz.prog 106 [sl l, .fn (.func 93) [] [.ptr 0 0 0]] [some (.cells 99 1 0 [.fn (.func 54) [.agg [.int .i64 lo, .int .i64 hi]] []])] (.int .i64 (idxOf q l)) [some (.cells 99 1 0 [.fn (.func 54) [.agg [.int .i64 lo, .int .i64 hi]] []])] := by
  skip
  (refine semF_of_awp (ys := [.int .i64 (idxOf q l)]) (fun w args => Tryz.call106 ..) Tryz.func106 rfl (fun w0 m0 wz => ?_); simp only [Tryz.ntmps106, Tryz.results106, initT, junks, sl, List.toList_toArray, List.cons_append, List.nil_append, List.length_cons, List.length_nil, Nat.reduceAdd, Nat.reduceSub])
  (repeat' (first
 | refine awp_seqK ?_
 | refine kt ?_
 | refine And.intro ?_ ?_
 | ((first | refine awp_stp rfl ?_ | refine awp_draw (by kernel_rfl) (by kernel_rfl) ?_ | refine Imp.le2 ?_ | refine go_split (fun _h => ?_) (fun _h => ?_)) <;> try simp (maxSteps := 4000000) only [go_sem, seval])
 | intro _h
 | refine awp_block ?_
 | refine awp_scope ?_
 | refine cond_b ?_ ?_
 | (show heapOK _ _ = true; kernel_rfl)
 | (show heapOK2 _ _ = true; kernel_rfl)
 | (omega)))
  refine awp_loopJ (fun i : Nat => i ≤ l.length ∧ ∀ j, j < i → q (l.getD j 0) = false) (fun i => ⟨mkT 19 [(0, sl l), (1, .fn (.func 93) [] [.ptr 0 0 0]), (6, sl l), (7, .int .i64 l.length), (8, .int .i64 i)], [some (.cells 99 1 0 [.fn (.func 54) [.agg [.int .i64 lo, .int .i64 hi]] []])], []⟩) (fun i => l.length - i) 0 ⟨Nat.zero_le _, by simp⟩ (.le2 ?_) ?_
  · simp (maxSteps := 4000000) only [go_sem, seval]
  · rintro i ⟨hi, hj⟩
    simp (maxSteps := 4000000) only [go_sem, seval]
    have hqi := hq i
    (repeat' (first
 | (refine awp_ownN 5 rfl ?_; simp (maxSteps := 4000000) only [go_sem, seval, List.take_succ_cons, List.take_zero]; (repeat refine And.intro (by omega) ?_); refine own_go (hqi (by omega)) [0] rfl ?_ ?_ rfl ?_ <;> try simp (maxSteps := 4000000) only [go_sem, seval, Nat.lt_irrefl] <;> try decide)
 | refine awp_seqK ?_
 | refine kt ?_
 | refine And.intro ?_ ?_
 | ((first | refine awp_stp rfl ?_ | refine awp_draw (by kernel_rfl) (by kernel_rfl) ?_ | refine Imp.le2 ?_ | refine go_split (fun _h => ?_) (fun _h => ?_)) <;> try simp (maxSteps := 4000000) only [go_sem, seval])
 | intro _h
 | refine awp_block ?_
 | refine awp_scope ?_
 | refine cond_b ?_ ?_
 | (show heapOK _ _ = true; kernel_rfl)
 | (show heapOK2 _ _ = true; kernel_rfl)
 | (omega)))
    · exact idxOf_some (by omega) ‹_› hj
    · refine ⟨i + 1, ⟨by omega, fun j hji => ?_⟩, by omega, .le2 ?_⟩
      · rcases Nat.lt_succ_iff_lt_or_eq.1 hji with h | rfl
        · exact hj j h
        · assumption
      · simp (maxSteps := 4000000) only [go_sem, seval]
        omega
    · exact idxOf_none (d := 0) (fun j hjl => hj j (by omega))
theorem hasA_has (lo hi : Int) (l : List Int) (q : Int → Bool) (hl : l.length ≤ 1000000) (hq : ∀ i, i < l.length → SemF Tryz.prog 93 [.int .i64 (l.getD i 0), .ptr 0 0 0] [some (.cells 99 1 0 [.fn (.func 54) [.agg [.int .i64 lo, .int .i64 hi]] []])] (.bool (q (l.getD i 0))) [some (.cells 99 1 0 [.fn (.func 54) [.agg [.int .i64 lo, .int .i64 hi]] []])]) :
    SemF Tryz.prog 92 [sl l, .fn (.func 93) [] [.ptr 0 0 0]] [some (.cells 99 1 0 [.fn (.func 54) [.agg [.int .i64 lo, .int .i64 hi]] []])] (.bool (l.any q)) [some (.cells 99 1 0 [.fn (.func 54) [.agg [.int .i64 lo, .int .i64 hi]] []])] := by
  have h := idxA_has (hq := hq) (hl := hl)
  rw [← idxOf_ge]
  simp only [sl] at h
  (refine semF_of_awp (ys := [.bool (decide (0 ≤ idxOf q l))]) (fun w args => Tryz.call92 ..) Tryz.func92 rfl (fun w0 m0 wz => ?_); simp only [Tryz.ntmps92, Tryz.results92, initT, junks, sl, List.toList_toArray, List.cons_append, List.nil_append, List.length_cons, List.length_nil, Nat.reduceAdd, Nat.reduceSub])
  (repeat' (first
 | (refine awp_ownN 2 rfl ?_; simp (maxSteps := 4000000) only [go_sem, seval, List.take_succ_cons, List.take_zero]; (repeat refine And.intro (by omega) ?_); refine own_go (h) [0] rfl ?_ ?_ rfl ?_ <;> try simp (maxSteps := 4000000) only [go_sem, seval, Nat.lt_irrefl] <;> try decide)
 | refine awp_seqK ?_
 | refine kt ?_
 | refine And.intro ?_ ?_
 | ((first | refine awp_stp rfl ?_ | refine awp_draw (by kernel_rfl) (by kernel_rfl) ?_ | refine Imp.le2 ?_ | refine go_split (fun _h => ?_) (fun _h => ?_)) <;> try simp (maxSteps := 4000000) only [go_sem, seval])
 | intro _h
 | refine awp_block ?_
 | refine awp_scope ?_
 | refine cond_b ?_ ?_
 | (show heapOK _ _ = true; kernel_rfl)
 | (show heapOK2 _ _ = true; kernel_rfl)
 | (omega))) <;> simp [*]
theorem allB_has (lo hi : Int) (l : List Int) (q : Int → Bool) (hl : l.length ≤ 1000000) (hq : ∀ i, i < l.length → CallS Tryz.prog 54 [.agg [.int .i64 lo, .int .i64 hi], .int .i64 (l.getD i 0)] (.bool (q (l.getD i 0)))) :
    SemF Tryz.prog 72 [sl l, .fn (.func 54) [.agg [.int .i64 lo, .int .i64 hi]] []] [] (.bool (l.all q)) [] := by
  have hany : l.all q = !l.any (fun x => !q x) := by simp [List.all_eq_not_any_not]
  rw [hany]
  have h := hasA_has (l := l) (q := fun x => !q x) (hl := hl) (hq := fun i hi => allA_has (x := l.getD i 0) (q := q (l.getD i 0)) (hq := hq i hi))
  simp only [sl] at h ⊢
  (refine semF_of_awp (ys := [.bool (!l.any (fun x => !q x))]) (fun w args => Tryz.call72 ..) Tryz.func72 rfl (fun w0 m0 wz => ?_); simp only [Tryz.ntmps72, Tryz.results72, initT, junks, sl, List.toList_toArray, List.cons_append, List.nil_append, List.length_cons, List.length_nil, Nat.reduceAdd, Nat.reduceSub])
  (repeat' (first
 | (refine awp_ownN 2 rfl ?_; simp (maxSteps := 4000000) only [go_sem, seval, List.take_succ_cons, List.take_zero]; (repeat refine And.intro (by omega) ?_); refine own_go (h) [0] rfl ?_ ?_ rfl ?_ <;> try simp (maxSteps := 4000000) only [go_sem, seval, Nat.lt_irrefl] <;> try decide)
 | refine awp_seqK ?_
 | refine kt ?_
 | refine And.intro ?_ ?_
 | ((first | refine awp_stp rfl ?_ | refine awp_draw (by kernel_rfl) (by kernel_rfl) ?_ | refine Imp.le2 ?_ | refine go_split (fun _h => ?_) (fun _h => ?_)) <;> try simp (maxSteps := 4000000) only [go_sem, seval])
 | intro _h
 | refine awp_block ?_
 | refine awp_scope ?_
 | refine cond_b ?_ ?_
 | (show heapOK _ _ = true; kernel_rfl)
 | (show heapOK2 _ _ = true; kernel_rfl)
 | (omega))) <;> simp only [*, Bool.not_true, Bool.not_false]
structure Real where
  infl : List Int
  seep : List Int
  start : Int
  soft : Int
def realC (r : Real) : List AV := [sl r.infl, sl r.seep, .int .i64 r.start, .int .i64 r.soft]
structure RealOK (l : Lake) (r : Real) : Prop where
  ni : r.infl.length = l.infl.length
  ns : r.seep.length = l.infl.length
  infl : ∀ h, h < l.infl.length → (l.infl.getD h default).1 ≤ r.infl.getD h 0 ∧ r.infl.getD h 0 ≤ (l.infl.getD h default).2
  seep : ∀ h, h < l.infl.length → l.seLo ≤ r.seep.getD h 0 ∧ r.seep.getD h 0 ≤ l.seHi
  start : l.stLo ≤ r.start ∧ r.start ≤ l.stHi
  soft : l.soLo ≤ r.soft ∧ r.soft ≤ l.soHi
theorem fits_c (l : Lake) (r : Real) (ho : LakeOK l) (hr : RealOK l r) : CallS Tryz.prog 45 [.agg (realC r), .agg (lakeC l)] (.bool true) := by
  have hm := ho.m
  have hni := hr.ni
  have hns := hr.ns
  have f1 : ((r.infl.length : Int) = l.infl.length) = True := eq_true (by omega)
  have f2 : ((r.seep.length : Int) = l.infl.length) = True := eq_true (by omega)
  have f3 : (l.stLo ≤ r.start ∧ r.start ≤ l.stHi) = True := eq_true hr.start
  have f4 : (l.soLo ≤ r.soft ∧ r.soft ≤ l.soHi) = True := eq_true hr.soft
  have hal : r.seep.all (fun x => decide (l.seLo ≤ x ∧ x ≤ l.seHi)) = true := by
    rw [List.all_eq_true]
    intro x hx
    obtain ⟨j, hj, rfl⟩ := mem_getD (d := 0) hx
    exact decide_eq_true (hr.seep j (by omega))
  have hall := allB_has l.seLo l.seHi r.seep (fun x => decide (l.seLo ≤ x ∧ x ≤ l.seHi)) (by omega) (fun i _ => has_c _ _ _)
  rw [hal] at hall
  simp only [realC, lakeC, slR, sl] at hall ⊢
  (refine callS_of_awp (fun w args => Tryz.call45 ..) Tryz.func45 rfl (fun w0 m0 wz => ?_); simp only [Tryz.ntmps45, Tryz.results45, initT, junks, sl, List.toList_toArray, List.cons_append, List.nil_append, List.length_cons, List.length_nil, Nat.reduceAdd, Nat.reduceSub])
  (repeat' (first
 | (refine awp_segO (id := 1) [22] ?_; simp (maxSteps := 4000000) only [go_sem, seval, so_cons, so_nil, List.take_succ_cons, List.take_zero, List.drop_succ_cons, List.drop_zero, f1, f2, decide_true, Bool.not_true])
 | (refine own_go (hall) [] rfl ?_ ?_ rfl ?_ <;> try simp (maxSteps := 4000000) only [go_sem, seval, Nat.lt_irrefl, so_cons, so_nil, List.take_succ_cons, List.take_zero, List.drop_succ_cons, List.drop_zero, f1, f2, decide_true, Bool.not_true] <;> try decide)
 | ((exfalso; omega))
 | refine awp_seqK ?_
 | refine kt ?_
 | refine And.intro ?_ ?_
 | ((first | refine awp_stp rfl ?_ | refine awp_draw (by kernel_rfl) (by kernel_rfl) ?_ | refine Imp.le2 ?_ | refine callK_of (has_c _ _ _) ?_ | refine go_split (fun _h => ?_) (fun _h => ?_)) <;> try simp (maxSteps := 4000000) only [go_sem, seval, f1, f2, decide_true, Bool.not_true])
 | intro _h
 | refine awp_block ?_
 | refine awp_scope ?_
 | refine cond_b ?_ ?_
 | (show heapOK _ _ = true; kernel_rfl)
 | (show heapOK2 _ _ = true; kernel_rfl)
 | (omega)))
  refine awp_loopN l.infl.length (fun k => ⟨mkT 61 [(2, .ptr 0 0 0), (3, .ptr 1 0 0), (33, slR l.infl), (34, .int .i64 l.infl.length), (35, .int .i64 k)], [some (.cells 83 1 0 (realC r)), some (.cells 56 1 0 (lakeC l))], []⟩) (.le2 ?_) ?_
  · simp only [realC, lakeC, slR, sl]; simp (maxSteps := 4000000) only [go_sem, seval]
    all_goals first | rfl | exact ⟨rfl, rfl⟩ | trace_state
  · intro k hk
    rcases Nat.lt_or_eq_of_le hk with hk1 | hk1
    · have g1 : ((l.infl.getD k default).1 ≤ r.infl.getD k 0 ∧ r.infl.getD k 0 ≤ (l.infl.getD k default).2) = True := eq_true (hr.infl k hk1)
      obtain ⟨q, hq⟩ : ∃ q, l.infl.getD k default = q := ⟨_, rfl⟩
      rw [hq] at g1
      simp only [realC, lakeC, slR, sl]; simp (maxSteps := 4000000) only [go_sem, seval]
      (repeat' (first
 | ((omega))
 | ((exfalso; omega))
 | refine awp_seqK ?_
 | refine kt ?_
 | refine And.intro ?_ ?_
 | ((first | refine awp_stp rfl ?_ | refine awp_draw (by kernel_rfl) (by kernel_rfl) ?_ | refine Imp.le2 ?_ | refine callK_of (has_c _ _ _) ?_ | refine go_split (fun _h => ?_) (fun _h => ?_)) <;> try simp (maxSteps := 4000000) only [go_sem, seval, hq, rngC, g1, decide_true, Bool.not_true])
 | intro _h
 | refine awp_block ?_
 | refine awp_scope ?_
 | refine cond_b ?_ ?_
 | (show heapOK _ _ = true; kernel_rfl)
 | (show heapOK2 _ _ = true; kernel_rfl)
 | (omega)))
      all_goals first | rfl | exact ⟨rfl, rfl⟩ | trace_state
    · subst hk1
      simp only [realC, lakeC, slR, sl]; simp (maxSteps := 4000000) only [go_sem, seval]
      (repeat' (first
 | ((omega))
 | ((exfalso; omega))
 | refine awp_seqK ?_
 | refine kt ?_
 | refine And.intro ?_ ?_
 | ((first | refine awp_stp rfl ?_ | refine awp_draw (by kernel_rfl) (by kernel_rfl) ?_ | refine Imp.le2 ?_ | refine callK_of (has_c _ _ _) ?_ | refine go_split (fun _h => ?_) (fun _h => ?_)) <;> try simp (maxSteps := 4000000) only [go_sem, seval, f3, f4, decide_true])
 | intro _h
 | refine awp_block ?_
 | refine awp_scope ?_
 | refine cond_b ?_ ?_
 | (show heapOK _ _ = true; kernel_rfl)
 | (show heapOK2 _ _ = true; kernel_rfl)
 | (omega)))
      all_goals trace_state
def volV (works : List Work) (ch : List Int) (r : Real) : Nat → Int
  | 0 => r.start
  | k + 1 => max 0 (volV works ch r k + r.infl.getD k 0 - r.seep.getD k 0 - outV works ch k ch.length)
def kindV (r : Real) (k : Nat) : Int := if r.soft ≤ k then 1 else 0
def fellV (l : Lake) (works : List Work) (ch : List Int) (r : Real) (k : Nat) : Prop := boundV l (kindV r k) ≤ volV works ch r (k + 1)
def volL (works : List Work) (ch : List Int) (r : Real) (k : Nat) : List Int := (List.range k).map fun h => volV works ch r (h + 1)
theorem volL_length {works : List Work} {ch : List Int} {r : Real} {k : Nat} : (volL works ch r k).length = k := by simp [volL]
theorem volL_succ {works : List Work} {ch : List Int} {r : Real} {k : Nat} : ints (volL works ch r k) ++ [.int .i64 (volV works ch r (k + 1))] = ints (volL works ch r (k + 1)) := by simp [volL, List.range_succ, ints]
structure FillR (l : Lake) (works : List Work) (ch : List Int) (r : Real) (n : Nat) (b : Int) : Prop where
  le : n ≤ l.infl.length
  hold : ∀ k, k + 1 < n → ¬ fellV l works ch r k
  fin : (b = -1 ∧ n = l.infl.length ∧ ∀ k, k < n → ¬ fellV l works ch r k) ∨ (0 < n ∧ b = (n : Int) - 1 ∧ fellV l works ch r (n - 1))
theorem volV_bd {l : Lake} {works : List Work} {ch : List Int} {r : Real} (ho : LakeOK l) (hw : works.all workB = true) (hc : ChoOK works.length ch) (hr : RealOK l r) : ∀ k, k ≤ l.infl.length → 0 ≤ volV works ch r k ∧ volV works ch r k ≤ 1000000 * (k + 1)
  | 0, _ => by
    have h1 := hr.start
    have h2 := ho.start
    have h3 := ho.weak
    have h4 := ho.crest
    have h5 := vols_bd ho (i := l.weak.toNat) (by omega)
    unfold volV; omega
  | k + 1, hk => by
    have ih := volV_bd ho hw hc hr k (by omega)
    have h1 := hr.infl k (by omega)
    have h2 := ho.infl k (by omega)
    have h3 := hr.seep k (by omega)
    have h4 := ho.seep
    have h5 := outV_bd (hour := (k : Int)) hw hc ch.length (Nat.le_refl _)
    unfold volV; omega
theorem Fill_c (l : Lake) (works : List Work) (ch : List Int) (r : Real) (ho : LakeOK l) (hf : faultW works = 0) (hw : works.all workB = true) (hc : ChoOK works.length ch) (hcl : ch.length ≤ 15) (hr : RealOK l r) :
    ∃ n b, FillR l works ch r n b ∧ CallS Tryz.prog 21 [.agg (lakeC l), slWk works, sl ch, .agg (realC r)] (.tup [sl (volL works ch r n), .int .i64 b, .int .i64 0]) := by
  have hwo := worked_c l works ch ho hf hc
  have hfi := fits_c l r ho hr
  have hm := ho.m
  have hni := hr.ni
  have hns := hr.ns
  have hn := ho.n
  have hcr := ho.crest
  have hwk := ho.weak
  have hres : ∃ n b, FillR l works ch r n b := by
    by_cases hex : ∃ k, k < l.infl.length ∧ fellV l works ch r k
    · have hmin : ∀ m, (∃ k, k < m ∧ k < l.infl.length ∧ fellV l works ch r k) → ∃ k, k < l.infl.length ∧ fellV l works ch r k ∧ ∀ j, j < k → ¬ fellV l works ch r j := by
        intro m
        induction m with
        | zero => rintro ⟨k, hk, _⟩; omega
        | succ m ih =>
          rintro ⟨k, hk, h1, h2⟩
          by_cases h3 : ∃ j, j < k ∧ fellV l works ch r j
          · obtain ⟨j, hj, hj2⟩ := h3
            exact ih ⟨j, by omega, by omega, hj2⟩
          · exact ⟨k, h1, h2, fun j hj h4 => h3 ⟨j, hj, h4⟩⟩
      obtain ⟨k, hk, hk2⟩ := hex
      obtain ⟨k, h1, h2, h3⟩ := hmin (k + 1) ⟨k, by omega, hk, hk2⟩
      exact ⟨k + 1, k, by omega, fun j hj => h3 j (by omega), .inr ⟨by omega, by omega, h2⟩⟩
    · exact ⟨l.infl.length, -1, Nat.le_refl _, fun k hk h => hex ⟨k, by omega, h⟩, .inl ⟨rfl, rfl, fun k hk h => hex ⟨k, hk, h⟩⟩⟩
  obtain ⟨n, b, hR⟩ := hres
  refine ⟨n, b, hR, ?_⟩
  have hle := hR.le
  simp only [realC, lakeC, slR, sl, slWk] at hwo hfi ⊢
  (refine callS_of_awp (fun w args => Tryz.call21 ..) Tryz.func21 rfl (fun w0 m0 wz => ?_); simp only [Tryz.ntmps21, Tryz.results21, initT, junks, sl, List.toList_toArray, List.cons_append, List.nil_append, List.length_cons, List.length_nil, Nat.reduceAdd, Nat.reduceSub])
  (repeat' (first
 | ((exfalso; omega))
 | refine awp_seqK ?_
 | refine kt ?_
 | refine And.intro ?_ ?_
 | ((first | refine awp_stp rfl ?_ | refine awp_draw (by kernel_rfl) (by kernel_rfl) ?_ | refine Imp.le2 ?_ | refine callK_of (hwo) ?_ | refine callK_of (hfi) ?_ | refine go_split (fun _h => ?_) (fun _h => ?_)) <;> try simp (maxSteps := 4000000) only [go_sem, seval])
 | intro _h
 | refine awp_block ?_
 | refine awp_scope ?_
 | refine cond_b ?_ ?_
 | (show heapOK _ _ = true; kernel_rfl)
 | (show heapOK2 _ _ = true; kernel_rfl)
 | (omega)))
  (refine awp_adT 8 3 1 rfl ?_; simp only [adT, lset, hset, List.length_cons, List.length_nil, Nat.reduceAdd])
  refine awp_loopJ (fun k : Nat => k ≤ n ∧ ∀ j, j < k → ¬ fellV l works ch r j) (fun k => ⟨mkT 74 [(4, .ptr 0 0 0), (7, .ptr 1 0 0), (8, .osl 3 k 0 k), (12, .ptr 2 0 0), (13, .int .i64 (volV works ch r k)), (35, sl r.infl), (36, .int .i64 r.infl.length), (37, .int .i64 k)], [some (.cells 56 1 0 (lakeC l)), some (.cells 83 1 0 (realC r)), some (.cells 104 1 0 (pumC l works ch)), some (.cells 3 1 k (ints (volL works ch r k)))], []⟩) (fun k => n - k) 0 ⟨Nat.zero_le _, fun j hj => by omega⟩ (.le2 ?_) ?_
  · simp only [realC, lakeC, pumC, slR, sl, slWk, List.cons_append, List.nil_append, volL, volV, List.range_zero, List.map_nil]; simp (maxSteps := 4000000) only [go_sem, seval]
    all_goals first | rfl | exact ⟨rfl, rfl⟩ | trace_state
  · rintro k ⟨hkn, hj⟩
    have hvb := volV_bd ho hw hc hr k (by omega)
    by_cases hk1 : k < l.infl.length
    · have hlt : k < n := by
        rcases hR.fin with ⟨h1, h2, h3⟩ | ⟨h1, h2, h3⟩
        · omega
        · rcases Nat.lt_or_eq_of_le hkn with h4 | h4
          · exact h4
          · exact absurd h3 (hj (n - 1) (by omega))
      have hou := out_c l works ch k hw hc
      have hob := outV_bd (hour := (k : Int)) hw hc ch.length (Nat.le_refl _)
      have hi1 := hr.infl k hk1
      have hi2 := ho.infl k hk1
      have hs1 := hr.seep k hk1
      have hs2 := ho.seep
      have hvs : max 0 (volV works ch r k + r.infl.getD k 0 - r.seep.getD k 0 - outV works ch k ch.length) = volV works ch r (k + 1) := rfl
      have hfe : fellV l works ch r k ↔ boundV l (kindV r k) ≤ volV works ch r (k + 1) := Iff.rfl
      obtain ⟨q1, hq1⟩ : ∃ q, r.infl.getD k 0 = q := ⟨_, rfl⟩
      obtain ⟨q2, hq2⟩ : ∃ q, r.seep.getD k 0 = q := ⟨_, rfl⟩
      rw [hq1, hq2] at hvs
      rw [hq1] at hi1
      rw [hq2] at hs1
      generalize outV works ch k ch.length = ov at *
      simp only [realC, lakeC, pumC, slR, sl, slWk, List.cons_append, List.nil_append] at hou
      by_cases c2 : fellV l works ch r k
      · have hnk : n = k + 1 := by
          by_cases h9 : k + 1 < n
          · exact absurd c2 (hR.hold k h9)
          · omega
        have hbk : b = k := by
          rcases hR.fin with ⟨h1, h2, h3⟩ | ⟨h1, h2, h3⟩
          · exact absurd c2 (h3 k hlt)
          · omega
        subst hnk
        subst hbk
        by_cases c1 : r.soft ≤ k
        · have hbd := bound_c l works ch 1 (by omega) (by omega)
          have hkd : kindV r k = 1 := by unfold kindV; rw [if_pos c1]
          rw [hkd] at hfe
          have hbb := bound_bd (k := 1) ho
          generalize boundV l 1 = bd at *
          simp only [realC, lakeC, pumC, slR, sl, slWk, List.cons_append, List.nil_append] at hbd
          have f9 : (bd ≤ volV works ch r (k + 1)) = True := eq_true (hfe.1 c2)
          simp only [realC, lakeC, pumC, slR, sl, slWk, List.cons_append, List.nil_append]; simp (maxSteps := 4000000) only [go_sem, seval]
          (repeat' (first
 | ((omega))
 | ((exfalso; omega))
 | refine awp_seqK ?_
 | refine kt ?_
 | refine And.intro ?_ ?_
 | ((first | refine awp_stp rfl ?_ | refine awp_draw (by kernel_rfl) (by kernel_rfl) ?_ | refine Imp.le2 ?_ | refine callK_of (hou) ?_ | refine callK_of (greatest_c _ _ _) ?_ | refine callK_of (hbd) ?_ | refine go_split (fun _h => ?_) (fun _h => ?_)) <;> try simp (maxSteps := 4000000) only [go_sem, seval, hq1, hq2, hvs, volL_length, volL_succ, eq_true c1, f9, decide_true, decide_false])
 | intro _h
 | refine awp_block ?_
 | refine awp_scope ?_
 | refine cond_b ?_ ?_
 | (show heapOK _ _ = true; kernel_rfl)
 | (show heapOK2 _ _ = true; kernel_rfl)
 | (omega)))
          all_goals trace_state
        · have hbd := bound_c l works ch 0 (by omega) (by omega)
          have hkd : kindV r k = 0 := by unfold kindV; rw [if_neg c1]
          rw [hkd] at hfe
          have hbb := bound_bd (k := 0) ho
          generalize boundV l 0 = bd at *
          simp only [realC, lakeC, pumC, slR, sl, slWk, List.cons_append, List.nil_append] at hbd
          have f9 : (bd ≤ volV works ch r (k + 1)) = True := eq_true (hfe.1 c2)
          simp only [realC, lakeC, pumC, slR, sl, slWk, List.cons_append, List.nil_append]; simp (maxSteps := 4000000) only [go_sem, seval]
          (repeat' (first
 | ((omega))
 | ((exfalso; omega))
 | refine awp_seqK ?_
 | refine kt ?_
 | refine And.intro ?_ ?_
 | ((first | refine awp_stp rfl ?_ | refine awp_draw (by kernel_rfl) (by kernel_rfl) ?_ | refine Imp.le2 ?_ | refine callK_of (hou) ?_ | refine callK_of (greatest_c _ _ _) ?_ | refine callK_of (hbd) ?_ | refine go_split (fun _h => ?_) (fun _h => ?_)) <;> try simp (maxSteps := 4000000) only [go_sem, seval, hq1, hq2, hvs, volL_length, volL_succ, eq_false c1, f9, decide_true, decide_false])
 | intro _h
 | refine awp_block ?_
 | refine awp_scope ?_
 | refine cond_b ?_ ?_
 | (show heapOK _ _ = true; kernel_rfl)
 | (show heapOK2 _ _ = true; kernel_rfl)
 | (omega)))
          all_goals trace_state
      · by_cases c1 : r.soft ≤ k
        · have hbd := bound_c l works ch 1 (by omega) (by omega)
          have hkd : kindV r k = 1 := by unfold kindV; rw [if_pos c1]
          rw [hkd] at hfe
          have hbb := bound_bd (k := 1) ho
          generalize boundV l 1 = bd at *
          simp only [realC, lakeC, pumC, slR, sl, slWk, List.cons_append, List.nil_append] at hbd
          have f9 : (bd ≤ volV works ch r (k + 1)) = False := eq_false (fun h9 => c2 (hfe.2 h9))
          simp only [realC, lakeC, pumC, slR, sl, slWk, List.cons_append, List.nil_append]; simp (maxSteps := 4000000) only [go_sem, seval]
          (repeat' (first
 | ((omega))
 | ((exfalso; omega))
 | refine awp_seqK ?_
 | refine kt ?_
 | refine And.intro ?_ ?_
 | ((first | refine awp_stp rfl ?_ | refine awp_draw (by kernel_rfl) (by kernel_rfl) ?_ | refine Imp.le2 ?_ | refine callK_of (hou) ?_ | refine callK_of (greatest_c _ _ _) ?_ | refine callK_of (hbd) ?_ | refine go_split (fun _h => ?_) (fun _h => ?_)) <;> try simp (maxSteps := 4000000) only [go_sem, seval, hq1, hq2, hvs, volL_length, volL_succ, eq_true c1, f9, decide_true, decide_false])
 | intro _h
 | refine awp_block ?_
 | refine awp_scope ?_
 | refine cond_b ?_ ?_
 | (show heapOK _ _ = true; kernel_rfl)
 | (show heapOK2 _ _ = true; kernel_rfl)
 | (omega)))
          refine ⟨k + 1, ⟨by omega, fun j hji => ?_⟩, by omega, .le2 ?_⟩
          · rcases Nat.lt_succ_iff_lt_or_eq.1 hji with h9 | rfl
            · exact hj j h9
            · exact c2
          · (try simp only [realC, lakeC, pumC, slR, sl, slWk, List.cons_append, List.nil_append]); (try simp (maxSteps := 4000000) only [go_sem, seval])
            all_goals first | rfl | exact ⟨rfl, rfl⟩ | trace_state
        · have hbd := bound_c l works ch 0 (by omega) (by omega)
          have hkd : kindV r k = 0 := by unfold kindV; rw [if_neg c1]
          rw [hkd] at hfe
          have hbb := bound_bd (k := 0) ho
          generalize boundV l 0 = bd at *
          simp only [realC, lakeC, pumC, slR, sl, slWk, List.cons_append, List.nil_append] at hbd
          have f9 : (bd ≤ volV works ch r (k + 1)) = False := eq_false (fun h9 => c2 (hfe.2 h9))
          simp only [realC, lakeC, pumC, slR, sl, slWk, List.cons_append, List.nil_append]; simp (maxSteps := 4000000) only [go_sem, seval]
          (repeat' (first
 | ((omega))
 | ((exfalso; omega))
 | refine awp_seqK ?_
 | refine kt ?_
 | refine And.intro ?_ ?_
 | ((first | refine awp_stp rfl ?_ | refine awp_draw (by kernel_rfl) (by kernel_rfl) ?_ | refine Imp.le2 ?_ | refine callK_of (hou) ?_ | refine callK_of (greatest_c _ _ _) ?_ | refine callK_of (hbd) ?_ | refine go_split (fun _h => ?_) (fun _h => ?_)) <;> try simp (maxSteps := 4000000) only [go_sem, seval, hq1, hq2, hvs, volL_length, volL_succ, eq_false c1, f9, decide_true, decide_false])
 | intro _h
 | refine awp_block ?_
 | refine awp_scope ?_
 | refine cond_b ?_ ?_
 | (show heapOK _ _ = true; kernel_rfl)
 | (show heapOK2 _ _ = true; kernel_rfl)
 | (omega)))
          refine ⟨k + 1, ⟨by omega, fun j hji => ?_⟩, by omega, .le2 ?_⟩
          · rcases Nat.lt_succ_iff_lt_or_eq.1 hji with h9 | rfl
            · exact hj j h9
            · exact c2
          · (try simp only [realC, lakeC, pumC, slR, sl, slWk, List.cons_append, List.nil_append]); (try simp (maxSteps := 4000000) only [go_sem, seval])
            all_goals first | rfl | exact ⟨rfl, rfl⟩ | trace_state
    · have hb1 : n = l.infl.length ∧ b = -1 := by
        rcases hR.fin with ⟨h1, h2, h3⟩ | ⟨h1, h2, h3⟩
        · exact ⟨h2, h1⟩
        · exact absurd h3 (hj (n - 1) (by omega))
      obtain ⟨hnn, hbn⟩ := hb1
      have hkk : k = n := by omega
      subst hkk
      subst hbn
      simp only [realC, lakeC, pumC, slR, sl, slWk, List.cons_append, List.nil_append]; simp (maxSteps := 4000000) only [go_sem, seval]
      (repeat' (first
 | ((omega))
 | ((exfalso; omega))
 | refine awp_seqK ?_
 | refine kt ?_
 | refine And.intro ?_ ?_
 | ((first | refine awp_stp rfl ?_ | refine awp_draw (by kernel_rfl) (by kernel_rfl) ?_ | refine Imp.le2 ?_ | refine go_split (fun _h => ?_) (fun _h => ?_)) <;> try simp (maxSteps := 4000000) only [go_sem, seval, volL_length])
 | intro _h
 | refine awp_block ?_
 | refine awp_scope ?_
 | refine cond_b ?_ ?_
 | (show heapOK _ _ = true; kernel_rfl)
 | (show heapOK2 _ _ = true; kernel_rfl)
 | (omega)))
      all_goals trace_state
end La
end Go.Am
namespace Go.Am
namespace La
open Go.RowKit Go.Proofs
attribute [local irreducible] AWP CallS Kt goK CallK stepK evOps SemF SemY Imp
set_option maxRecDepth 4000
set_option linter.unusedSimpArgs false
set_option linter.unusedVariables false
set_option maxHeartbeats 6400000
structure Rea where
  may : Bool
  ht : Int
  fr : Int
instance : Inhabited Rea := ⟨⟨false, 0, 0⟩⟩
def reaC (x : Rea) : List AV := [.bool x.may, .int .i64 x.ht, .int .i64 x.fr]
def slRe (l : List Rea) : AV := .psl false l.length (recs reaC l)
theorem pl_Re {l : List Rea} : pureL (recs reaC l) = True := eq_true (recs_pure fun s => by simp [pureL, reaC, cellPure])
theorem lv_Re {l : List Rea} {p : Nat → Bool} : (recs reaC l).all (live2 p) = true := recs_live fun s => by simp [pureL, reaC, cellPure]
theorem len_Re {l : List Rea} : (recs reaC l).length = l.length * 3 := recs_length fun _ => rfl
attribute [go_sem] pl_Re lv_Re len_Re
theorem ld_Af109 {l : List Aft} {i : Nat} {K : AV → Prop} : loadK Tryz.prog 109 (recs aftC l) (i * 5) K = (i < l.length ∧ K (.agg (aftC (l.getD i default)))) := ld_recs tagg109 tsz109 (fun _ => rfl) (by omega)
attribute [go_sem ↓] ld_Af109
def reaN (loss plo : Int) (ho : House) (h : Nat) (brk : Int) (x : Rea) : Rea :=
  if brk < 0 then x else
    ⟨x.may || decide (ho.high < heightV loss ho.far ho.wide brk), max x.ht (heightV loss ho.far ho.wide brk), if ho.high < heightV loss ho.far ho.wide brk ∧ x.may = false then 60 * h + ho.far * plo else x.fr⟩
def reaV (l : Lake) (works : List Work) (ch : List Int) (loss plo : Int) (ho : House) : Nat → Rea
  | 0 => ⟨false, 0, 0⟩
  | k + 1 => reaN loss plo ho k (nowV l works ch (k + 1)).brk (reaV l works ch loss plo ho k)
theorem step_brk {bd : Int} {x net : Int × Int} (hx : RngOK x) (hn : net.2 ≤ 1000000) : (stepV bd x net).2 ≤ 2000000 := by
  obtain ⟨⟨a1, a2⟩, a3, a4⟩ := hx
  unfold stepV
  split
  · simp
  · simp only
    split <;> omega
theorem now_brk {l : Lake} {works : List Work} {ch : List Int} (ho : LakeOK l) (hw : works.all workB = true) (hc : ChoOK works.length ch) (hcl : ch.length ≤ 15) : ∀ k, k ≤ l.infl.length → (nowV l works ch k).brk ≤ 2000000
  | 0, _ => by simp [nowV]
  | k + 1, hk => by
    have hx := now_ok (works := works) (ch := ch) ho k
    have hn := (netV_bd ho hw hc hcl (show k < l.infl.length by omega)).2.2
    have a3 := step_brk (bd := boundV l 1) (net := netV l works ch k) hx.2 hn
    have a1 := step_brk (bd := boundV l 0) (net := netV l works ch k) hx.1 hn
    have a2 := step_brk (bd := boundV l 1) (net := netV l works ch k) hx.1 hn
    have b1 : (s1V l (netV l works ch k) k (nowV l works ch k)).2 ≤ 2000000 := by
      unfold s1V; split
      · exact a1
      · simp
    have b2 : (s2V l (netV l works ch k) k (nowV l works ch k)).2 ≤ 2000000 := by
      unfold s2V; split
      · exact a2
      · simp
    show max (max (max (-1) _) _) _ ≤ _
    unfold s3V
    omega
theorem aftL_get {l : Lake} {works : List Work} {ch : List Int} {n k : Nat} (hk : k < n) : (aftL l works ch n).getD k default = nowV l works ch (k + 1) := by
  simp [aftL, List.getD_eq_getElem?_getD, hk]
theorem reaV_bd {l : Lake} {works : List Work} {ch : List Int} {loss plo : Int} {h : House} (hl : 0 ≤ loss) (hh : houseB h = true) : ∀ k, 0 ≤ (reaV l works ch loss plo h k).ht
  | 0 => by simp [reaV]
  | k + 1 => by
    have ih := reaV_bd (l := l) (works := works) (ch := ch) (plo := plo) hl hh k
    simp only [reaV, reaN]
    split
    · exact ih
    · simp only; omega
def rivC (loss plo phi : Int) : List AV := [.int .i64 loss, .int .i64 plo, .int .i64 phi]
theorem Waves_c (l : Lake) (works : List Work) (ch : List Int) (loss plo phi : Int) (hs : List House) (ho : LakeOK l) (hf : faultW works = 0) (hw : works.all workB = true) (hc : ChoOK works.length ch) (hcl : ch.length ≤ 15) (hri : (0 ≤ loss ∧ loss ≤ 1000000) ∧ 0 ≤ plo ∧ plo ≤ phi ∧ phi ≤ 60) (hhl : hs.length ≤ 20) (hha : hs.all houseB = true) :
    CallS Tryz.prog 13 [.agg (lakeC l), slWk works, sl ch, .agg (rivC loss plo phi), slHo hs] (.tup [slRe (hs.map fun h => reaV l works ch loss plo h l.infl.length), .int .i64 0]) := by
  have hwo := worked_c l works ch ho hf hc
  have hhr := hours_c l works ch ho hw hc hcl
  have hall := all_Ho hs 33 houseB (by omega) (fun i _ => hvalid_c _)
  rw [hha] at hall
  have hm := ho.m
  have f1 : (20 < (hs.length : Int)) = False := eq_false (by omega)
  have f2 : (0 ≤ loss ∧ loss ≤ 1000000) = True := eq_true hri.1
  have f3 : (0 ≤ plo ∧ plo ≤ phi ∧ phi ≤ 60) = True := eq_true hri.2
  simp only [lakeC, pumC, slR, sl, slWk, slHo, slAf, rivC, List.cons_append, List.nil_append, aftL_length] at hwo hall hhr ⊢
  simp only [slRe, List.length_map]
  (refine callS_of_awp (fun w args => Tryz.call13 ..) Tryz.func13 rfl (fun w0 m0 wz => ?_); simp only [Tryz.ntmps13, Tryz.results13, initT, junks, sl, List.toList_toArray, List.cons_append, List.nil_append, List.length_cons, List.length_nil, Nat.reduceAdd, Nat.reduceSub])
  (repeat' (first
 | ((exfalso; omega))
 | refine awp_seqK ?_
 | refine kt ?_
 | refine And.intro ?_ ?_
 | ((first | refine awp_stp rfl ?_ | refine awp_draw (by kernel_rfl) (by kernel_rfl) ?_ | refine Imp.le2 ?_ | refine callK_of (hwo) ?_ | refine callK_of (within_c _ _ _) ?_ | refine callK_of (upto_c _ _ _) ?_ | refine callK_of (hall) ?_ | refine callK_of (hhr) ?_ | refine go_split (fun _h => ?_) (fun _h => ?_)) <;> try simp (maxSteps := 4000000) only [go_sem, seval, f1, f2, f3, decide_true, decide_false, Bool.not_true])
 | intro _h
 | refine awp_block ?_
 | refine awp_scope ?_
 | refine cond_b ?_ ?_
 | (show heapOK _ _ = true; kernel_rfl)
 | (show heapOK2 _ _ = true; kernel_rfl)
 | (omega)))
  obtain ⟨f, hfd⟩ : ∃ f : House → Rea, f = fun h => reaV l works ch loss plo h l.infl.length := ⟨_, rfl⟩
  rw [← hfd]
  (refine awp_adT 10 66 3 rfl ?_; simp only [adT, lset, hset, List.length_cons, List.length_nil, Nat.reduceAdd])
  refine awp_loopN hs.length (fun k => ⟨mkT 106 [(5, .ptr 0 0 0), (8, .ptr 1 0 0), (10, .osl 2 k 0 k), (13, slAf (aftL l works ch l.infl.length)), (52, slHo hs), (53, .int .i64 hs.length), (54, .int .i64 k)], [some (.cells 56 1 0 (lakeC l)), some (.cells 61 1 0 (rivC loss plo phi)), some (.cells 66 3 k (recs reaC ((hs.take k).map f)))], []⟩) (.le2 ?_) ?_
  · simp only [lakeC, slR, sl, slHo, slAf, rivC, aftL_length, List.take_zero, List.map_nil, recs, List.flatMap_nil]; simp (maxSteps := 4000000) only [go_sem, seval]
    all_goals first | rfl | exact ⟨rfl, rfl⟩ | trace_state
  · intro k hk
    rcases Nat.lt_or_eq_of_le hk with hk1 | hk1
    · have hlt : (hs.take k).length = k := by simp; omega
      obtain ⟨h, hhe⟩ : ∃ h, hs.getD k default = h := ⟨_, rfl⟩
      have hsn : recs reaC ((hs.take k).map f) ++ reaC (f h) = recs reaC ((hs.take (k + 1)).map f) := by
        rw [take_snoc (d := default) hk1, List.map_append, ← hhe]
        simp [recs]
      have hRl : (recs reaC ((hs.take k).map f)).length = k * 3 := by rw [len_Re, List.length_map, hlt]
      have hRv : ∀ p : Nat → Bool, (recs reaC ((hs.take k).map f)).all (live2 p) = true := fun p => lv_Re
      have hhB : houseB h = true := by
        rw [List.all_eq_true] at hha
        rw [← hhe]
        exact hha _ (getD_mem hk1)
      have hfh : f h = reaV l works ch loss plo h l.infl.length := by rw [hfd]
      have hhb2 := hhB
      unfold houseB at hhb2
      obtain ⟨u1, u2, u3⟩ := of_decide_eq_true hhb2
      have hmm : 0 ≤ h.far * plo ∧ h.far * plo ≤ 12000 := by
        refine ⟨Int.mul_nonneg u1.1 hri.2.1, ?_⟩
        have := Int.mul_le_mul u1.2 (show plo ≤ 60 by omega) hri.2.1 (by omega)
        omega
      rw [← hsn]
      generalize recs reaC ((hs.take k).map f) = Rk at *
      simp only [lakeC, slR, sl, slHo, slAf, rivC, aftL_length]; simp (maxSteps := 4000000) only [go_sem, seval]
      (repeat' (first
 | ((omega))
 | ((exfalso; omega))
 | refine awp_seqK ?_
 | refine kt ?_
 | refine And.intro ?_ ?_
 | ((first | refine awp_stp rfl ?_ | refine Imp.le2 ?_ | refine go_split (fun _h => ?_) (fun _h => ?_)) <;> try simp (maxSteps := 4000000) only [go_sem, seval, hhe, houseC])
 | intro _h
 | refine awp_block ?_
 | refine awp_scope ?_
 | refine cond_b ?_ ?_
 | (show heapOK _ _ = true; kernel_rfl)
 | (show heapOK2 _ _ = true; kernel_rfl)
 | (omega)))
      refine awp_loopN l.infl.length (fun j => ⟨mkT 106 [(5, .ptr 0 0 0), (8, .ptr 1 0 0), (10, .osl 2 k 0 k), (13, slAf (aftL l works ch l.infl.length)), (52, slHo hs), (53, .int .i64 hs.length), (54, .int .i64 k), (15, .ptr 3 0 0), (16, .ptr 4 0 0), (58, slAf (aftL l works ch l.infl.length)), (59, .int .i64 l.infl.length), (60, .int .i64 j)], [some (.cells 56 1 0 (lakeC l)), some (.cells 61 1 0 (rivC loss plo phi)), some (.cells 66 3 k Rk), some (.cells 97 1 0 (houseC h)), some (.cells 66 1 0 (reaC (reaV l works ch loss plo h j)))], []⟩) (.le2 ?_) ?_
      · simp only [lakeC, slR, sl, slHo, slAf, rivC, aftL_length, houseC, reaC, reaV]; simp (maxSteps := 4000000) only [go_sem, seval]
        all_goals first | rfl | exact ⟨rfl, rfl⟩ | exact hRv _ | trace_state
      · intro j hj
        rcases Nat.lt_or_eq_of_le hj with hj1 | hj1
        · have hag := aftL_get (l := l) (works := works) (ch := ch) hj1
          have hbk := now_brk (l := l) ho hw hc hcl (j + 1) (by omega)
          have hrn : reaV l works ch loss plo h (j + 1) = reaN loss plo h j (nowV l works ch (j + 1)).brk (reaV l works ch loss plo h j) := rfl
          have hhb := reaV_bd (l := l) (works := works) (ch := ch) (plo := plo) (loss := loss) hri.1.1 hhB j
          rw [hrn]
          generalize reaV l works ch loss plo h j = X at *
          obtain ⟨a, hae⟩ : ∃ a, nowV l works ch (j + 1) = a := ⟨_, rfl⟩
          rw [hae] at hag hbk ⊢
          have haC : aftC a = [.int .i64 a.hard.1, .int .i64 a.hard.2, .int .i64 a.soft.1, .int .i64 a.soft.2, .int .i64 a.brk] := rfl
          obtain ⟨Xm, Xh, Xf⟩ := X
          unfold reaN
          by_cases c0 : a.brk < 0
          · rw [if_pos c0]
            have hht := none_c
            simp only [lakeC, slR, sl, slHo, slAf, rivC, aftL_length, reaC, houseC]; simp (maxSteps := 4000000) only [go_sem, seval]
            (repeat' (first
 | ((omega))
 | ((exfalso; omega))
 | refine awp_seqK ?_
 | refine kt ?_
 | refine And.intro ?_ ?_
 | ((first | refine awp_stp rfl ?_ | refine awp_draw (by kernel_rfl) (by kernel_rfl) ?_ | refine Imp.le2 ?_ | refine go_split (fun _h => ?_) (fun _h => ?_)) <;> try simp (maxSteps := 4000000) only [go_sem, seval, hag, haC, eq_true c0, decide_true])
 | intro _h
 | refine awp_block ?_
 | refine awp_scope ?_
 | refine cond_b ?_ ?_
 | (show heapOK _ _ = true; kernel_rfl)
 | (show heapOK2 _ _ = true; kernel_rfl)
 | (omega)))
            all_goals first | rfl | exact ⟨rfl, rfl⟩ | exact hRv _ | trace_state
          · rw [if_neg c0]
            have hht := height_c loss plo phi h a.brk hri.1 hhB (by omega)
            simp only [houseC, rivC] at hht
            obtain ⟨nn, hnn⟩ : ∃ nn, heightV loss h.far h.wide a.brk = nn := ⟨_, rfl⟩
            rw [hnn] at hht ⊢
            obtain ⟨mv, hmv⟩ : ∃ mv, h.far * plo = mv := ⟨_, rfl⟩
            rw [hmv] at hmm ⊢
            by_cases c1 : h.high < nn
            · cases Xm
              · simp only [c1, decide_true, Bool.false_or, true_and, if_true, reaC]
                simp only [lakeC, slR, sl, slHo, slAf, rivC, aftL_length, houseC]; simp (maxSteps := 4000000) only [go_sem, seval]
                (repeat' (first
 | ((omega))
 | ((exfalso; omega))
 | refine awp_seqK ?_
 | refine kt ?_
 | refine And.intro ?_ ?_
 | ((first | refine awp_stp rfl ?_ | refine awp_draw (by kernel_rfl) (by kernel_rfl) ?_ | refine Imp.le2 ?_ | refine callK_of (hht) ?_ | refine callK_of (greatest_c _ _ _) ?_ | refine go_split (fun _h => ?_) (fun _h => ?_)) <;> try simp (maxSteps := 4000000) only [go_sem, seval, hag, haC, hmv, eq_false c0, eq_true c1, decide_true, decide_false, Bool.not_false])
 | intro _h
 | refine awp_block ?_
 | refine awp_scope ?_
 | refine cond_b ?_ ?_
 | (show heapOK _ _ = true; kernel_rfl)
 | (show heapOK2 _ _ = true; kernel_rfl)
 | (omega)))
                all_goals first | rfl | exact ⟨rfl, rfl⟩ | exact hRv _ | trace_state
              · simp only [c1, decide_true, Bool.or_true, Bool.true_eq_false, and_false, if_false, reaC]
                simp only [lakeC, slR, sl, slHo, slAf, rivC, aftL_length, houseC]; simp (maxSteps := 4000000) only [go_sem, seval]
                (repeat' (first
 | ((omega))
 | ((exfalso; omega))
 | refine awp_seqK ?_
 | refine kt ?_
 | refine And.intro ?_ ?_
 | ((first | refine awp_stp rfl ?_ | refine awp_draw (by kernel_rfl) (by kernel_rfl) ?_ | refine Imp.le2 ?_ | refine callK_of (hht) ?_ | refine callK_of (greatest_c _ _ _) ?_ | refine go_split (fun _h => ?_) (fun _h => ?_)) <;> try simp (maxSteps := 4000000) only [go_sem, seval, hag, haC, hmv, eq_false c0, eq_true c1, decide_true, decide_false, Bool.not_true])
 | intro _h
 | refine awp_block ?_
 | refine awp_scope ?_
 | refine cond_b ?_ ?_
 | (show heapOK _ _ = true; kernel_rfl)
 | (show heapOK2 _ _ = true; kernel_rfl)
 | (omega)))
                all_goals first | rfl | exact ⟨rfl, rfl⟩ | exact hRv _ | trace_state
            · simp only [c1, decide_false, Bool.or_false, false_and, if_false, reaC]
              simp only [lakeC, slR, sl, slHo, slAf, rivC, aftL_length, houseC]; simp (maxSteps := 4000000) only [go_sem, seval]
              (repeat' (first
 | ((omega))
 | ((exfalso; omega))
 | refine awp_seqK ?_
 | refine kt ?_
 | refine And.intro ?_ ?_
 | ((first | refine awp_stp rfl ?_ | refine awp_draw (by kernel_rfl) (by kernel_rfl) ?_ | refine Imp.le2 ?_ | refine callK_of (hht) ?_ | refine callK_of (greatest_c _ _ _) ?_ | refine go_split (fun _h => ?_) (fun _h => ?_)) <;> try simp (maxSteps := 4000000) only [go_sem, seval, hag, haC, hmv, eq_false c0, eq_false c1, decide_true, decide_false])
 | intro _h
 | refine awp_block ?_
 | refine awp_scope ?_
 | refine cond_b ?_ ?_
 | (show heapOK _ _ = true; kernel_rfl)
 | (show heapOK2 _ _ = true; kernel_rfl)
 | (omega)))
              all_goals first | rfl | exact ⟨rfl, rfl⟩ | exact hRv _ | trace_state
        · subst hj1
          rw [← hfh]
          simp only [lakeC, slR, sl, slHo, slAf, rivC, aftL_length, houseC, reaC]; simp (maxSteps := 4000000) only [go_sem, seval]
          (repeat' (first
 | ((exact hRl))
 | ((omega))
 | ((exfalso; omega))
 | refine awp_seqK ?_
 | refine kt ?_
 | refine And.intro ?_ ?_
 | ((first | refine awp_stp rfl ?_ | refine awp_draw (by kernel_rfl) (by kernel_rfl) ?_ | refine Imp.le2 ?_ | refine go_split (fun _h => ?_) (fun _h => ?_)) <;> try simp (maxSteps := 4000000) only [go_sem, seval, hRl])
 | intro _h
 | refine awp_block ?_
 | refine awp_scope ?_
 | refine cond_b ?_ ?_
 | (show heapOK _ _ = true; kernel_rfl)
 | (show heapOK2 _ _ = true; kernel_rfl)
 | (omega)))
          all_goals first | (rw [List.all_append, hRv]; rfl) | rfl | exact ⟨rfl, rfl⟩ | trace_state
    · subst hk1
      have hlt : hs.take hs.length = hs := by simp
      simp only [lakeC, slR, sl, slHo, slAf, rivC, aftL_length]; simp (maxSteps := 4000000) only [go_sem, seval, hlt]
      (repeat' (first
 | ((omega))
 | ((exfalso; omega))
 | refine awp_seqK ?_
 | refine kt ?_
 | refine And.intro ?_ ?_
 | ((first | refine awp_stp rfl ?_ | refine awp_draw (by kernel_rfl) (by kernel_rfl) ?_ | refine Imp.le2 ?_ | refine go_split (fun _h => ?_) (fun _h => ?_)) <;> try simp (maxSteps := 4000000) only [go_sem, seval, hlt])
 | intro _h
 | refine awp_block ?_
 | refine awp_scope ?_
 | refine cond_b ?_ ?_
 | (show heapOK _ _ = true; kernel_rfl)
 | (show heapOK2 _ _ = true; kernel_rfl)
 | (omega)))
      all_goals trace_state
end La
end Go.Am
namespace Go.Am
namespace La
open Go.RowKit Go.Proofs
set_option linter.unusedSimpArgs false
set_option linter.unusedVariables false
def InR (r : Int × Int) (v : Int) : Prop := r.1 ≤ v ∧ v ≤ r.2
theorem step_in {bd : Int} {x net : Int × Int} {v d : Int} (hx : InR x v) (hd : net.1 ≤ d ∧ d ≤ net.2) : (max 0 (v + d) < bd → InR (stepV bd x net).1 (max 0 (v + d))) ∧ (bd ≤ max 0 (v + d) → max 0 (v + d) ≤ (stepV bd x net).2) := by
  obtain ⟨x1, x2⟩ := x
  obtain ⟨h1, h2⟩ := hx
  simp only at h1 h2
  unfold stepV
  by_cases c : ((x1, x2) : Int × Int) = (1, 0)
  · simp only [Prod.mk.injEq] at c
    omega
  · rw [if_neg c]
    simp only
    refine ⟨fun h => ?_, fun h => ?_⟩
    · rw [if_neg (by omega)]
      unfold InR; simp only; omega
    · rw [if_pos (by omega)]; omega
theorem join_l {a b : Int × Int} {v : Int} (h : InR a v) : InR (joinV a b) v := by
  obtain ⟨a1, a2⟩ := a
  obtain ⟨h1, h2⟩ := h
  simp only at h1 h2
  unfold joinV
  rw [if_neg (by simp only [Prod.mk.injEq]; omega)]
  split
  · exact ⟨h1, h2⟩
  · unfold InR; simp only; omega
theorem join_r {a b : Int × Int} {v : Int} (h : InR b v) : InR (joinV a b) v := by
  obtain ⟨b1, b2⟩ := b
  obtain ⟨h1, h2⟩ := h
  simp only at h1 h2
  unfold joinV
  split
  · exact ⟨h1, h2⟩
  · rw [if_neg (by simp only [Prod.mk.injEq]; omega)]
    unfold InR; simp only; omega
section
variable {l : Lake} {works : List Work} {ch : List Int} {r : Real}
theorem net_in (hr : RealOK l r) {k : Nat} (hk : k < l.infl.length) : (netV l works ch k).1 ≤ r.infl.getD k 0 - r.seep.getD k 0 - outV works ch k ch.length ∧ r.infl.getD k 0 - r.seep.getD k 0 - outV works ch k ch.length ≤ (netV l works ch k).2 := by
  have h1 := hr.infl k hk
  have h2 := hr.seep k hk
  unfold netV
  simp only
  omega
theorem vol_eq {k : Nat} : volV works ch r (k + 1) = max 0 (volV works ch r k + (r.infl.getD k 0 - r.seep.getD k 0 - outV works ch k ch.length)) := by
  show max 0 (volV works ch r k + r.infl.getD k 0 - r.seep.getD k 0 - outV works ch k ch.length) = _
  congr 1
  omega
theorem now_step (ho : LakeOK l) (hr : RealOK l r) {k : Nat} (hk : k < l.infl.length) (hin : ((k : Int) ≤ r.soft → InR (nowV l works ch k).hard (volV works ch r k)) ∧ (r.soft < (k : Int) → InR (nowV l works ch k).soft (volV works ch r k))) :
    (¬ fellV l works ch r k → ((((k + 1 : Nat) : Int) ≤ r.soft → InR (nowV l works ch (k + 1)).hard (volV works ch r (k + 1))) ∧ (r.soft < ((k + 1 : Nat) : Int) → InR (nowV l works ch (k + 1)).soft (volV works ch r (k + 1))))) ∧ (fellV l works ch r k → volV works ch r (k + 1) ≤ (nowV l works ch (k + 1)).brk) := by
  have hd := net_in (works := works) (ch := ch) hr hk
  have hv := vol_eq (works := works) (ch := ch) (r := r) (k := k)
  have hso := hr.soft
  have hN : nowV l works ch (k + 1) = nextV l (netV l works ch k) k (nowV l works ch k) := rfl
  rw [hN]
  unfold fellV kindV
  rcases Int.lt_trichotomy (k : Int) r.soft with c | c | c
  · have h1 := step_in (bd := boundV l 0) (hin.1 (by omega)) hd
    rw [← hv] at h1
    have e1 : s1V l (netV l works ch k) k (nowV l works ch k) = stepV (boundV l 0) (nowV l works ch k).hard (netV l works ch k) := by unfold s1V; rw [if_pos (by omega)]
    rw [if_neg (by omega)]
    refine ⟨fun hf => ⟨fun _ => ?_, fun h => by omega⟩, fun hf => ?_⟩
    · show InR (s1V l (netV l works ch k) k (nowV l works ch k)).1 _
      rw [e1]; exact h1.1 (by omega)
    · have := h1.2 hf
      show _ ≤ max (max (max (-1) (s1V l (netV l works ch k) k (nowV l works ch k)).2) _) _
      rw [e1]; omega
  · have h1 := step_in (bd := boundV l 1) (hin.1 (by omega)) hd
    rw [← hv] at h1
    have e1 : s2V l (netV l works ch k) k (nowV l works ch k) = stepV (boundV l 1) (nowV l works ch k).hard (netV l works ch k) := by unfold s2V; rw [if_pos (by omega)]
    rw [if_pos (by omega)]
    refine ⟨fun hf => ⟨fun h => by omega, fun _ => ?_⟩, fun hf => ?_⟩
    · show InR (joinV (s2V l (netV l works ch k) k (nowV l works ch k)).1 _) _
      refine join_l ?_
      rw [e1]; exact h1.1 (by omega)
    · have := h1.2 hf
      show _ ≤ max (max _ (s2V l (netV l works ch k) k (nowV l works ch k)).2) _
      rw [e1]; omega
  · have h1 := step_in (bd := boundV l 1) (hin.2 (by omega)) hd
    rw [← hv] at h1
    have e1 : s3V l (netV l works ch k) (nowV l works ch k) = stepV (boundV l 1) (nowV l works ch k).soft (netV l works ch k) := rfl
    rw [if_pos (by omega)]
    refine ⟨fun hf => ⟨fun h => by omega, fun _ => ?_⟩, fun hf => ?_⟩
    · show InR (joinV _ (s3V l (netV l works ch k) (nowV l works ch k)).1) _
      refine join_r ?_
      rw [e1]; exact h1.1 (by omega)
    · have := h1.2 hf
      show _ ≤ max _ (s3V l (netV l works ch k) (nowV l works ch k)).2
      rw [e1]; omega
theorem now_in (ho : LakeOK l) (hr : RealOK l r) : ∀ k, k ≤ l.infl.length → (∀ j, j < k → ¬ fellV l works ch r j) → ((k : Int) ≤ r.soft → InR (nowV l works ch k).hard (volV works ch r k)) ∧ (r.soft < (k : Int) → InR (nowV l works ch k).soft (volV works ch r k))
  | 0, _, _ => by
    have h1 := hr.start
    have h2 := hr.soft
    have h3 := ho.soft
    exact ⟨fun _ => h1, fun h => by omega⟩
  | k + 1, hk, hf => (now_step ho hr (by omega) (now_in ho hr k (by omega) fun j hj => hf j (by omega))).1 (hf k (by omega))
theorem brk_ge (ho : LakeOK l) (hr : RealOK l r) {k : Nat} (hk : k < l.infl.length) (hn : ∀ j, j < k → ¬ fellV l works ch r j) (hf : fellV l works ch r k) : volV works ch r (k + 1) ≤ (nowV l works ch (k + 1)).brk :=
  (now_step ho hr hk (now_in ho hr k (by omega) hn)).2 hf
end
theorem height_mono {loss far wide v w : Int} (hw : 0 < wide) (h : v ≤ w) : heightV loss far wide v ≤ heightV loss far wide w := by
  unfold heightV
  rw [Int.tdiv_eq_ediv_of_nonneg (by omega), Int.tdiv_eq_ediv_of_nonneg (by omega)]
  exact Int.ediv_le_ediv hw (by omega)
theorem rea_may {l : Lake} {works : List Work} {ch : List Int} {loss plo : Int} {o : House} : ∀ k, ((reaV l works ch loss plo o k).may = true → ∃ h : Nat, h < k ∧ (reaV l works ch loss plo o k).fr = 60 * h + o.far * plo) ∧
    ∀ h : Nat, h < k → 0 ≤ (nowV l works ch (h + 1)).brk → o.high < heightV loss o.far o.wide (nowV l works ch (h + 1)).brk → (reaV l works ch loss plo o k).may = true ∧ (reaV l works ch loss plo o k).fr ≤ 60 * h + o.far * plo
  | 0 => ⟨fun h => by simp [reaV] at h, fun h hh => by omega⟩
  | k + 1 => by
    obtain ⟨ih1, ih2⟩ := rea_may (l := l) (works := works) (ch := ch) (loss := loss) (plo := plo) (o := o) k
    simp only [reaV]
    generalize reaV l works ch loss plo o k = X at *
    obtain ⟨Xm, Xh, Xf⟩ := X
    unfold reaN
    by_cases c0 : (nowV l works ch (k + 1)).brk < 0
    · rw [if_pos c0]
      refine ⟨fun h => ?_, fun h hh hb hg => ?_⟩
      · obtain ⟨j, hj, e⟩ := ih1 h
        exact ⟨j, by omega, e⟩
      · rcases Nat.lt_succ_iff_lt_or_eq.1 hh with h9 | rfl
        · exact ih2 h h9 hb hg
        · omega
    · rw [if_neg c0]
      by_cases c1 : o.high < heightV loss o.far o.wide (nowV l works ch (k + 1)).brk
      · cases Xm
        · simp only [c1, decide_true, Bool.false_or, true_and, if_true]
          refine ⟨fun _ => ⟨k, by omega, rfl⟩, fun h hh hb hg => ?_⟩
          rcases Nat.lt_succ_iff_lt_or_eq.1 hh with h9 | rfl
          · have := (ih2 h h9 hb hg).1
            cases this
          · exact Int.le_refl _
        · simp only [c1, decide_true, Bool.or_true, Bool.true_eq_false, and_false, if_false, true_and]
          obtain ⟨j, hj, e⟩ := ih1 rfl
          simp only at e
          refine ⟨fun _ => ⟨j, by omega, e⟩, fun h hh hb hg => ?_⟩
          rcases Nat.lt_succ_iff_lt_or_eq.1 hh with h9 | rfl
          · exact (ih2 h h9 hb hg).2
          · rw [e]; omega
      · simp only [c1, decide_false, Bool.or_false, false_and, if_false]
        refine ⟨fun h => ?_, fun h hh hb hg => ?_⟩
        · obtain ⟨j, hj, e⟩ := ih1 h
          exact ⟨j, by omega, e⟩
        · rcases Nat.lt_succ_iff_lt_or_eq.1 hh with h9 | rfl
          · exact ih2 h h9 hb hg
          · exact absurd hg c1
theorem wave_told {l : Lake} {works : List Work} {ch : List Int} {r : Real} {loss plo : Int} {o : House} {b : Nat} (ho : LakeOK l) (hr : RealOK l r) (hb : b < l.infl.length) (hn : ∀ j, j < b → ¬ fellV l works ch r j) (hf : fellV l works ch r b) (hw : 0 < o.wide) (h : o.high < heightV loss o.far o.wide (volV works ch r (b + 1))) :
    (reaV l works ch loss plo o l.infl.length).may = true ∧ (reaV l works ch loss plo o l.infl.length).fr ≤ 60 * b + o.far * plo := by
  have h1 := brk_ge ho hr hb hn hf
  have h2 : 0 ≤ volV works ch r (b + 1) := by rw [vol_eq]; omega
  have h3 := height_mono (loss := loss) (far := o.far) hw h1
  exact (rea_may l.infl.length).2 b hb (by omega) (by omega)
end La
end Go.Am
namespace Go.Am
namespace La
open Go.RowKit Go.Proofs
attribute [local irreducible] AWP CallS Kt goK CallK stepK evOps SemF SemY Imp
set_option maxRecDepth 4000
set_option linter.unusedSimpArgs false
set_option linter.unusedVariables false
set_option maxHeartbeats 3200000
open Classical in
noncomputable def choB (n : Nat) (ch : List Int) : Bool := decide (ChoOK n ch)
theorem choB_yes {n : Nat} {ch : List Int} (h : ChoOK n ch) : true = choB n ch := by unfold choB; exact (@decide_eq_true _ (Classical.propDecidable _) h).symm
theorem choB_no {n : Nat} {ch : List Int} (h : ¬ ChoOK n ch) : false = choB n ch := by unfold choB; exact (@decide_eq_false _ (Classical.propDecidable _) h).symm
theorem choice_c (works : List Work) (ch : List Int) (hl : ch.length ≤ 1000000) (hwl : works.length ≤ 1000000) : CallS Tryz.prog 9 [slWk works, sl ch] (.bool (choB works.length ch)) := by
  have hyes : ChoOK works.length ch → true = choB works.length ch := choB_yes
  have hno : ¬ ChoOK works.length ch → false = choB works.length ch := choB_no
  generalize choB works.length ch = r at *
  simp only [slWk, sl]
  (refine callS_of_awp (fun w args => Tryz.call9 ..) Tryz.func9 rfl (fun w0 m0 wz => ?_); simp only [Tryz.ntmps9, Tryz.results9, initT, junks, sl, List.toList_toArray, List.cons_append, List.nil_append, List.length_cons, List.length_nil, Nat.reduceAdd, Nat.reduceSub])
  (repeat' (first
 | refine awp_seqK ?_
 | refine kt ?_
 | refine And.intro ?_ ?_
 | ((first | refine awp_stp rfl ?_ | refine awp_draw (by kernel_rfl) (by kernel_rfl) ?_ | refine Imp.le2 ?_ | refine go_split (fun _h => ?_) (fun _h => ?_)) <;> try simp (maxSteps := 4000000) only [go_sem, seval])
 | intro _h
 | refine awp_block ?_
 | refine awp_scope ?_
 | refine cond_b ?_ ?_
 | (show heapOK _ _ = true; kernel_rfl)
 | (show heapOK2 _ _ = true; kernel_rfl)
 | (omega)))
  refine awp_loopJ (fun i : Nat => i ≤ ch.length ∧ ∀ j, j < i → (0 ≤ ch.getD j 0 ∧ ch.getD j 0 ≤ (works.length : Int) - 1) ∧ (0 < j → ch.getD (j - 1) 0 < ch.getD j 0)) (fun i => ⟨mkT 37 [(0, slWk works), (1, sl ch), (5, .int .i64 i)], [], []⟩) (fun i => ch.length - i) 0 ⟨Nat.zero_le _, by simp⟩ (.le2 ?_) ?_
  · simp only [slWk, sl]; simp (maxSteps := 4000000) only [go_sem, seval]
    all_goals first | rfl | exact ⟨rfl, rfl⟩ | trace_state
  · rintro i ⟨hi, hj⟩
    rcases Nat.lt_or_eq_of_le hi with hi1 | hi1
    · by_cases c1 : 0 ≤ ch.getD i 0 ∧ ch.getD i 0 ≤ (works.length : Int) - 1
      · have g1 : (0 ≤ ch.getD i 0 ∧ ch.getD i 0 ≤ (works.length : Int) - 1) = True := eq_true c1
        by_cases c0 : 0 < i
        · have g2 : (0 < (i : Int)) = True := eq_true (by omega)
          have g3 : ((i : Int) - 1).toNat = i - 1 := by omega
          by_cases c2 : ch.getD i 0 ≤ ch.getD (i - 1) 0
          · have hr := hno (fun h => by
              have := h.inc (i - 1) (by omega)
              rw [show i - 1 + 1 = i by omega] at this
              omega)
            subst hr
            simp only [slWk, sl]; simp (maxSteps := 4000000) only [go_sem, seval]
            (repeat' (first
 | ((omega))
 | ((exfalso; omega))
 | refine awp_seqK ?_
 | refine kt ?_
 | refine And.intro ?_ ?_
 | ((first | refine awp_stp rfl ?_ | refine awp_draw (by kernel_rfl) (by kernel_rfl) ?_ | refine Imp.le2 ?_ | refine callK_of (in_c _ _ _) ?_ | refine go_split (fun _h => ?_) (fun _h => ?_)) <;> try simp (maxSteps := 4000000) only [go_sem, seval, g1, g2, g3, eq_true c2, decide_true, decide_false, Bool.not_true])
 | intro _h
 | refine awp_block ?_
 | refine awp_scope ?_
 | refine cond_b ?_ ?_
 | (show heapOK _ _ = true; kernel_rfl)
 | (show heapOK2 _ _ = true; kernel_rfl)
 | (omega)))
            all_goals trace_state
          · simp only [slWk, sl]; simp (maxSteps := 4000000) only [go_sem, seval]
            (repeat' (first
 | ((omega))
 | ((exfalso; omega))
 | refine awp_seqK ?_
 | refine kt ?_
 | refine And.intro ?_ ?_
 | ((first | refine awp_stp rfl ?_ | refine awp_draw (by kernel_rfl) (by kernel_rfl) ?_ | refine Imp.le2 ?_ | refine callK_of (in_c _ _ _) ?_ | refine go_split (fun _h => ?_) (fun _h => ?_)) <;> try simp (maxSteps := 4000000) only [go_sem, seval, g1, g2, g3, eq_false c2, decide_true, decide_false, Bool.not_true])
 | intro _h
 | refine awp_block ?_
 | refine awp_scope ?_
 | refine cond_b ?_ ?_
 | (show heapOK _ _ = true; kernel_rfl)
 | (show heapOK2 _ _ = true; kernel_rfl)
 | (omega)))
            refine ⟨i + 1, ⟨by omega, fun j hji => ?_⟩, by omega, .le2 ?_⟩
            · rcases Nat.lt_succ_iff_lt_or_eq.1 hji with h | rfl
              · exact hj j h
              · exact ⟨c1, fun _ => by omega⟩
            · (try simp only [slWk, sl]); (try simp (maxSteps := 4000000) only [go_sem, seval])
              all_goals first | rfl | exact ⟨rfl, rfl⟩ | trace_state
        · have g2 : (0 < (i : Int)) = False := eq_false (by omega)
          simp only [slWk, sl]; simp (maxSteps := 4000000) only [go_sem, seval]
          (repeat' (first
 | ((omega))
 | ((exfalso; omega))
 | refine awp_seqK ?_
 | refine kt ?_
 | refine And.intro ?_ ?_
 | ((first | refine awp_stp rfl ?_ | refine awp_draw (by kernel_rfl) (by kernel_rfl) ?_ | refine Imp.le2 ?_ | refine callK_of (in_c _ _ _) ?_ | refine go_split (fun _h => ?_) (fun _h => ?_)) <;> try simp (maxSteps := 4000000) only [go_sem, seval, g1, g2, decide_true, decide_false, Bool.not_true])
 | intro _h
 | refine awp_block ?_
 | refine awp_scope ?_
 | refine cond_b ?_ ?_
 | (show heapOK _ _ = true; kernel_rfl)
 | (show heapOK2 _ _ = true; kernel_rfl)
 | (omega)))
          refine ⟨i + 1, ⟨by omega, fun j hji => ?_⟩, by omega, .le2 ?_⟩
          · rcases Nat.lt_succ_iff_lt_or_eq.1 hji with h | rfl
            · exact hj j h
            · exact ⟨c1, fun h => by omega⟩
          · (try simp only [slWk, sl]); (try simp (maxSteps := 4000000) only [go_sem, seval])
            all_goals first | rfl | exact ⟨rfl, rfl⟩ | trace_state
      · have g1 : (0 ≤ ch.getD i 0 ∧ ch.getD i 0 ≤ (works.length : Int) - 1) = False := eq_false c1
        have hr := hno (fun h => c1 (h.at_ i hi1))
        subst hr
        simp only [slWk, sl]; simp (maxSteps := 4000000) only [go_sem, seval]
        (repeat' (first
 | ((omega))
 | ((exfalso; omega))
 | refine awp_seqK ?_
 | refine kt ?_
 | refine And.intro ?_ ?_
 | ((first | refine awp_stp rfl ?_ | refine awp_draw (by kernel_rfl) (by kernel_rfl) ?_ | refine Imp.le2 ?_ | refine callK_of (in_c _ _ _) ?_ | refine go_split (fun _h => ?_) (fun _h => ?_)) <;> try simp (maxSteps := 4000000) only [go_sem, seval, g1, decide_true, decide_false, Bool.not_false])
 | intro _h
 | refine awp_block ?_
 | refine awp_scope ?_
 | refine cond_b ?_ ?_
 | (show heapOK _ _ = true; kernel_rfl)
 | (show heapOK2 _ _ = true; kernel_rfl)
 | (omega)))
        all_goals trace_state
    · subst hi1
      have hr := hyes ⟨hl, fun i hi2 => (hj i hi2).1, fun i hi2 => by
        have := (hj (i + 1) hi2).2 (by omega)
        rwa [Nat.add_sub_cancel] at this⟩
      subst hr
      simp only [slWk, sl]; simp (maxSteps := 4000000) only [go_sem, seval]
      (repeat' (first
 | ((omega))
 | ((exfalso; omega))
 | refine awp_seqK ?_
 | refine kt ?_
 | refine And.intro ?_ ?_
 | ((first | refine awp_stp rfl ?_ | refine awp_draw (by kernel_rfl) (by kernel_rfl) ?_ | refine Imp.le2 ?_ | refine go_split (fun _h => ?_) (fun _h => ?_)) <;> try simp (maxSteps := 4000000) only [go_sem, seval])
 | intro _h
 | refine awp_block ?_
 | refine awp_scope ?_
 | refine cond_b ?_ ?_
 | (show heapOK _ _ = true; kernel_rfl)
 | (show heapOK2 _ _ = true; kernel_rfl)
 | (omega)))
      all_goals trace_state
open Classical in
noncomputable def faultK (l : Lake) : Int := if 30 < l.vols.length ∨ 60 < l.infl.length then 3 else if LakeOK l then 0 else 1
theorem faultK_zero {l : Lake} (h : faultK l = 0) : LakeOK l := by
  unfold faultK at h
  split at h
  · omega
  · split at h
    · assumption
    · omega
theorem inc_mono {l : List Int} (h : ∀ j, 1 ≤ j → j < l.length → l.getD (j - 1) 0 < l.getD j 0) {i : Nat} : ∀ d, i + d < l.length → l.getD i 0 ≤ l.getD (i + d) 0
  | 0, _ => Int.le_refl _
  | d + 1, hd => by
    have h1 := inc_mono h (i := i) d (by omega)
    have h2 := h (i + d + 1) (by omega) (by omega)
    rw [Nat.add_sub_cancel] at h2
    rw [← Nat.add_assoc]; omega
theorem inc_bd {l : List Int} (h : ∀ j, 1 ≤ j → j < l.length → l.getD (j - 1) 0 < l.getD j 0) {i : Nat} (hi : i < l.length) : l.getD 0 0 ≤ l.getD i 0 ∧ l.getD i 0 ≤ l.getD (l.length - 1) 0 := by
  have h1 := inc_mono h (i := 0) i (by omega)
  have h2 := inc_mono h (i := i) (l.length - 1 - i) (by omega)
  rw [Nat.zero_add] at h1
  rw [show i + (l.length - 1 - i) = l.length - 1 by omega] at h2
  exact ⟨h1, h2⟩
theorem rFault_c (l : Lake) (hv : l.vols.length ≤ 1000000) (hi : l.infl.length ≤ 1000000) : CallS Tryz.prog 7 [.agg (lakeC l)] (.int .i64 (faultK l)) := by
  by_cases c3 : 30 < l.vols.length ∨ 60 < l.infl.length
  · have e : faultK l = 3 := by unfold faultK; rw [if_pos c3]
    rw [e]
    by_cases c4 : 30 < l.vols.length
    · have g1 : (30 < (l.vols.length : Int)) = True := eq_true (by omega)
      simp only [lakeC, slR, sl]
      (refine callS_of_awp (fun w args => Tryz.call7 ..) Tryz.func7 rfl (fun w0 m0 wz => ?_); simp only [Tryz.ntmps7, Tryz.results7, initT, junks, sl, List.toList_toArray, List.cons_append, List.nil_append, List.length_cons, List.length_nil, Nat.reduceAdd, Nat.reduceSub])
      (repeat' (first
 | ((omega))
 | ((exfalso; omega))
 | refine awp_seqK ?_
 | refine kt ?_
 | refine And.intro ?_ ?_
 | ((first | refine awp_stp rfl ?_ | refine awp_draw (by kernel_rfl) (by kernel_rfl) ?_ | refine Imp.le2 ?_ | refine go_split (fun _h => ?_) (fun _h => ?_)) <;> try simp (maxSteps := 4000000) only [go_sem, seval, g1, decide_true])
 | intro _h
 | refine awp_block ?_
 | refine awp_scope ?_
 | refine cond_b ?_ ?_
 | (show heapOK _ _ = true; kernel_rfl)
 | (show heapOK2 _ _ = true; kernel_rfl)
 | (omega)))
      all_goals trace_state
    · have g1 : (30 < (l.vols.length : Int)) = False := eq_false (by omega)
      have g2 : (60 < (l.infl.length : Int)) = True := eq_true (by omega)
      simp only [lakeC, slR, sl]
      (refine callS_of_awp (fun w args => Tryz.call7 ..) Tryz.func7 rfl (fun w0 m0 wz => ?_); simp only [Tryz.ntmps7, Tryz.results7, initT, junks, sl, List.toList_toArray, List.cons_append, List.nil_append, List.length_cons, List.length_nil, Nat.reduceAdd, Nat.reduceSub])
      (repeat' (first
 | ((omega))
 | ((exfalso; omega))
 | refine awp_seqK ?_
 | refine kt ?_
 | refine And.intro ?_ ?_
 | ((first | refine awp_stp rfl ?_ | refine awp_draw (by kernel_rfl) (by kernel_rfl) ?_ | refine Imp.le2 ?_ | refine go_split (fun _h => ?_) (fun _h => ?_)) <;> try simp (maxSteps := 4000000) only [go_sem, seval, g1, g2, decide_true, decide_false])
 | intro _h
 | refine awp_block ?_
 | refine awp_scope ?_
 | refine cond_b ?_ ?_
 | (show heapOK _ _ = true; kernel_rfl)
 | (show heapOK2 _ _ = true; kernel_rfl)
 | (omega)))
      all_goals trace_state
  · have hyes : LakeOK l → (0 : Int) = faultK l := fun h => by unfold faultK; rw [if_neg c3, if_pos h]
    have hno : ¬ LakeOK l → (1 : Int) = faultK l := fun h => by unfold faultK; rw [if_neg c3, if_neg h]
    generalize faultK l = r at *
    have g1 : (30 < (l.vols.length : Int)) = False := eq_false (by omega)
    have g2 : (60 < (l.infl.length : Int)) = False := eq_false (by omega)
    by_cases c5 : l.vols.length < 2 ∨ l.vols.getD 0 0 ≠ 0 ∨ 1000000 < l.vols.getD (l.vols.length - 1) 0
    · have hr := hno (fun h => by
        have h1 := h.n
        have h2 := h.v0
        have h3 := h.vn
        omega)
      subst hr
      by_cases d1 : l.vols.length < 2
      · have g3 : ((l.vols.length : Int) < 2) = True := eq_true (by omega)
        simp only [lakeC, slR, sl]
        (refine callS_of_awp (fun w args => Tryz.call7 ..) Tryz.func7 rfl (fun w0 m0 wz => ?_); simp only [Tryz.ntmps7, Tryz.results7, initT, junks, sl, List.toList_toArray, List.cons_append, List.nil_append, List.length_cons, List.length_nil, Nat.reduceAdd, Nat.reduceSub])
        (repeat' (first
 | ((omega))
 | ((exfalso; omega))
 | refine awp_seqK ?_
 | refine kt ?_
 | refine And.intro ?_ ?_
 | ((first | refine awp_stp rfl ?_ | refine awp_draw (by kernel_rfl) (by kernel_rfl) ?_ | refine Imp.le2 ?_ | refine go_split (fun _h => ?_) (fun _h => ?_)) <;> try simp (maxSteps := 4000000) only [go_sem, seval, g1, g2, g3, decide_true, decide_false])
 | intro _h
 | refine awp_block ?_
 | refine awp_scope ?_
 | refine cond_b ?_ ?_
 | (show heapOK _ _ = true; kernel_rfl)
 | (show heapOK2 _ _ = true; kernel_rfl)
 | (omega)))
        all_goals trace_state
      · have g3 : ((l.vols.length : Int) < 2) = False := eq_false (by omega)
        by_cases d2 : l.vols.getD 0 0 = 0
        · have g4 : (1000000 < l.vols.getD (l.vols.length - 1) 0) = True := eq_true (by omega)
          have g5 : ((l.vols.length : Int) - 1).toNat = l.vols.length - 1 := by omega
          simp only [lakeC, slR, sl]
          (refine callS_of_awp (fun w args => Tryz.call7 ..) Tryz.func7 rfl (fun w0 m0 wz => ?_); simp only [Tryz.ntmps7, Tryz.results7, initT, junks, sl, List.toList_toArray, List.cons_append, List.nil_append, List.length_cons, List.length_nil, Nat.reduceAdd, Nat.reduceSub])
          (repeat' (first
 | ((omega))
 | ((exfalso; omega))
 | refine awp_seqK ?_
 | refine kt ?_
 | refine And.intro ?_ ?_
 | ((first | refine awp_stp rfl ?_ | refine awp_draw (by kernel_rfl) (by kernel_rfl) ?_ | refine Imp.le2 ?_ | refine go_split (fun _h => ?_) (fun _h => ?_)) <;> try simp (maxSteps := 4000000) only [go_sem, seval, g1, g2, g3, d2, g4, g5, decide_true, decide_false])
 | intro _h
 | refine awp_block ?_
 | refine awp_scope ?_
 | refine cond_b ?_ ?_
 | (show heapOK _ _ = true; kernel_rfl)
 | (show heapOK2 _ _ = true; kernel_rfl)
 | (omega)))
          all_goals trace_state
        · have g4 : (l.vols.getD 0 0 = 0) = False := eq_false d2
          simp only [lakeC, slR, sl]
          (refine callS_of_awp (fun w args => Tryz.call7 ..) Tryz.func7 rfl (fun w0 m0 wz => ?_); simp only [Tryz.ntmps7, Tryz.results7, initT, junks, sl, List.toList_toArray, List.cons_append, List.nil_append, List.length_cons, List.length_nil, Nat.reduceAdd, Nat.reduceSub])
          (repeat' (first
 | ((omega))
 | ((exfalso; omega))
 | refine awp_seqK ?_
 | refine kt ?_
 | refine And.intro ?_ ?_
 | ((first | refine awp_stp rfl ?_ | refine awp_draw (by kernel_rfl) (by kernel_rfl) ?_ | refine Imp.le2 ?_ | refine go_split (fun _h => ?_) (fun _h => ?_)) <;> try simp (maxSteps := 4000000) only [go_sem, seval, g1, g2, g3, g4, decide_true, decide_false])
 | intro _h
 | refine awp_block ?_
 | refine awp_scope ?_
 | refine cond_b ?_ ?_
 | (show heapOK _ _ = true; kernel_rfl)
 | (show heapOK2 _ _ = true; kernel_rfl)
 | (omega)))
          all_goals trace_state
    · have d1 : ¬ l.vols.length < 2 := fun h => c5 (.inl h)
      have d2 : l.vols.getD 0 0 = 0 := by omega
      have g3 : ((l.vols.length : Int) < 2) = False := eq_false (by omega)
      have g4 : (1000000 < l.vols.getD (l.vols.length - 1) 0) = False := eq_false (by omega)
      have g5 : ((l.vols.length : Int) - 1).toNat = l.vols.length - 1 := by omega
      simp only [lakeC, slR, sl]
      (refine callS_of_awp (fun w args => Tryz.call7 ..) Tryz.func7 rfl (fun w0 m0 wz => ?_); simp only [Tryz.ntmps7, Tryz.results7, initT, junks, sl, List.toList_toArray, List.cons_append, List.nil_append, List.length_cons, List.length_nil, Nat.reduceAdd, Nat.reduceSub])
      (repeat' (first
 | ((omega))
 | ((exfalso; omega))
 | refine awp_seqK ?_
 | refine kt ?_
 | refine And.intro ?_ ?_
 | ((first | refine awp_stp rfl ?_ | refine Imp.le2 ?_ | refine go_split (fun _h => ?_) (fun _h => ?_)) <;> try simp (maxSteps := 4000000) only [go_sem, seval, g1, g2, g3, d2, g4, g5, decide_true, decide_false])
 | intro _h
 | refine awp_block ?_
 | refine awp_scope ?_
 | refine cond_b ?_ ?_
 | (show heapOK _ _ = true; kernel_rfl)
 | (show heapOK2 _ _ = true; kernel_rfl)
 | (omega)))
      refine awp_loopJ (fun i : Nat => (1 ≤ i ∧ i ≤ l.vols.length) ∧ ∀ j, 1 ≤ j → j < i → l.vols.getD (j - 1) 0 < l.vols.getD j 0) (fun i => ⟨mkT 107 [(1, .ptr 0 0 0), (3, .int .i64 l.vols.length), (4, .int .i64 i)], [some (.cells 32 1 0 (lakeC l))], []⟩) (fun i => l.vols.length - i) 1 ⟨⟨Nat.le_refl _, by omega⟩, fun j h1 h2 => by omega⟩ (.le2 ?_) ?_
      · simp only [lakeC, slR, sl]; simp (maxSteps := 4000000) only [go_sem, seval]
        all_goals first | rfl | exact ⟨rfl, rfl⟩ | trace_state
      · rintro i ⟨⟨hi0, hi⟩, hinc⟩
        rcases Nat.lt_or_eq_of_le hi with hi1 | hi1
        · have g6 : ((i : Int) - 1).toNat = i - 1 := by omega
          by_cases c6 : l.vols.getD i 0 ≤ l.vols.getD (i - 1) 0
          · have hr := hno (fun h => by
              have := h.inc (i - 1) (by omega)
              rw [show i - 1 + 1 = i by omega] at this
              omega)
            subst hr
            simp only [lakeC, slR, sl]; simp (maxSteps := 4000000) only [go_sem, seval]
            (repeat' (first
 | ((omega))
 | ((exfalso; omega))
 | refine awp_seqK ?_
 | refine kt ?_
 | refine And.intro ?_ ?_
 | ((first | refine awp_stp rfl ?_ | refine awp_draw (by kernel_rfl) (by kernel_rfl) ?_ | refine Imp.le2 ?_ | refine go_split (fun _h => ?_) (fun _h => ?_)) <;> try simp (maxSteps := 4000000) only [go_sem, seval, g6, eq_true c6, decide_true])
 | intro _h
 | refine awp_block ?_
 | refine awp_scope ?_
 | refine cond_b ?_ ?_
 | (show heapOK _ _ = true; kernel_rfl)
 | (show heapOK2 _ _ = true; kernel_rfl)
 | (omega)))
            all_goals trace_state
          · simp only [lakeC, slR, sl]; simp (maxSteps := 4000000) only [go_sem, seval]
            (repeat' (first
 | ((omega))
 | ((exfalso; omega))
 | refine awp_seqK ?_
 | refine kt ?_
 | refine And.intro ?_ ?_
 | ((first | refine awp_stp rfl ?_ | refine awp_draw (by kernel_rfl) (by kernel_rfl) ?_ | refine Imp.le2 ?_ | refine go_split (fun _h => ?_) (fun _h => ?_)) <;> try simp (maxSteps := 4000000) only [go_sem, seval, g6, eq_false c6, decide_false])
 | intro _h
 | refine awp_block ?_
 | refine awp_scope ?_
 | refine cond_b ?_ ?_
 | (show heapOK _ _ = true; kernel_rfl)
 | (show heapOK2 _ _ = true; kernel_rfl)
 | (omega)))
            refine ⟨i + 1, ⟨⟨by omega, by omega⟩, fun j h1 h2 => ?_⟩, by omega, .le2 ?_⟩
            · rcases Nat.lt_succ_iff_lt_or_eq.1 h2 with h | rfl
              · exact hinc j h1 h
              · omega
            · (try simp only [lakeC, slR, sl]); (try simp (maxSteps := 4000000) only [go_sem, seval])
              all_goals first | rfl | exact ⟨rfl, rfl⟩ | trace_state
        · subst hi1
          by_cases k0 : (1 ≤ l.crest ∧ l.crest ≤ (l.vols.length : Int) - 1)
          · by_cases k1 : (1 ≤ l.weak ∧ l.weak ≤ l.crest)
            · have hvw := inc_bd hinc (i := l.weak.toNat) (by omega)
              by_cases k2 : ((0 ≤ l.soLo ∧ l.soLo ≤ l.soHi) ∧ l.soHi ≤ 60)
              · by_cases k3 : ((0 ≤ l.stLo ∧ l.stLo ≤ l.stHi) ∧ l.stHi ≤ l.vols.getD l.weak.toNat 0 - 1)
                · by_cases k4 : ((0 ≤ l.seLo ∧ l.seLo ≤ l.seHi) ∧ l.seHi ≤ 1000000)
                  · have hr9 : True := trivial
                    simp only [lakeC, slR, sl]; simp (maxSteps := 4000000) only [go_sem, seval]
                    (repeat' (first
 | ((omega))
 | ((exfalso; omega))
 | refine awp_seqK ?_
 | refine kt ?_
 | refine And.intro ?_ ?_
 | ((first | refine awp_stp rfl ?_ | refine awp_draw (by kernel_rfl) (by kernel_rfl) ?_ | refine Imp.le2 ?_ | refine callK_of (in_c _ _ _) ?_ | refine callK_of (span_c _ _ _) ?_ | refine go_split (fun _h => ?_) (fun _h => ?_)) <;> try simp (maxSteps := 4000000) only [go_sem, seval, eq_true k0, eq_true k1, eq_true k2, eq_true k3, eq_true k4, decide_true, decide_false, Bool.not_true])
 | intro _h
 | refine awp_block ?_
 | refine awp_scope ?_
 | refine cond_b ?_ ?_
 | (show heapOK _ _ = true; kernel_rfl)
 | (show heapOK2 _ _ = true; kernel_rfl)
 | (omega)))
                    refine awp_loopJ (fun i : Nat => i ≤ l.infl.length ∧ ∀ j, j < i → (0 ≤ (l.infl.getD j default).1 ∧ (l.infl.getD j default).1 ≤ (l.infl.getD j default).2) ∧ (l.infl.getD j default).2 ≤ 1000000) (fun i => ⟨mkT 107 [(1, .ptr 0 0 0), (5, .int .i64 i)], [some (.cells 32 1 0 (lakeC l))], []⟩) (fun i => l.infl.length - i) 0 ⟨Nat.zero_le _, by simp⟩ (.le2 ?_) ?_
                    · simp only [lakeC, slR, sl]; simp (maxSteps := 4000000) only [go_sem, seval]
                      all_goals first | rfl | exact ⟨rfl, rfl⟩ | trace_state
                    · rintro m ⟨hm1, hm2⟩
                      rcases Nat.lt_or_eq_of_le hm1 with hm3 | hm3
                      · obtain ⟨q, hq⟩ : ∃ q, l.infl.getD m default = q := ⟨_, rfl⟩
                        by_cases k5 : (0 ≤ q.1 ∧ q.1 ≤ q.2) ∧ q.2 ≤ 1000000
                        · simp only [lakeC, slR, sl]; simp (maxSteps := 4000000) only [go_sem, seval]
                          (repeat' (first
 | ((omega))
 | ((exfalso; omega))
 | refine awp_seqK ?_
 | refine kt ?_
 | refine And.intro ?_ ?_
 | ((first | refine awp_stp rfl ?_ | refine awp_draw (by kernel_rfl) (by kernel_rfl) ?_ | refine Imp.le2 ?_ | refine callK_of (span_c _ _ _) ?_ | refine go_split (fun _h => ?_) (fun _h => ?_)) <;> try simp (maxSteps := 4000000) only [go_sem, seval, hq, rngC, eq_true k5, decide_true, Bool.not_true])
 | intro _h
 | refine awp_block ?_
 | refine awp_scope ?_
 | refine cond_b ?_ ?_
 | (show heapOK _ _ = true; kernel_rfl)
 | (show heapOK2 _ _ = true; kernel_rfl)
 | (omega)))
                          refine ⟨m + 1, ⟨by omega, fun j hji => ?_⟩, by omega, .le2 ?_⟩
                          · rcases Nat.lt_succ_iff_lt_or_eq.1 hji with h | rfl
                            · exact hm2 j h
                            · rw [hq]; exact k5
                          · (try simp only [lakeC, slR, sl]); (try simp (maxSteps := 4000000) only [go_sem, seval])
                            all_goals first | rfl | exact ⟨rfl, rfl⟩ | trace_state
                        · have hr := hno (fun h => k5 (by have := h.infl m hm3; rw [hq] at this; omega))
                          subst hr
                          simp only [lakeC, slR, sl]; simp (maxSteps := 4000000) only [go_sem, seval]
                          (repeat' (first
 | ((omega))
 | ((exfalso; omega))
 | refine awp_seqK ?_
 | refine kt ?_
 | refine And.intro ?_ ?_
 | ((first | refine awp_stp rfl ?_ | refine awp_draw (by kernel_rfl) (by kernel_rfl) ?_ | refine Imp.le2 ?_ | refine callK_of (span_c _ _ _) ?_ | refine go_split (fun _h => ?_) (fun _h => ?_)) <;> try simp (maxSteps := 4000000) only [go_sem, seval, hq, rngC, eq_false k5, decide_false, Bool.not_false])
 | intro _h
 | refine awp_block ?_
 | refine awp_scope ?_
 | refine cond_b ?_ ?_
 | (show heapOK _ _ = true; kernel_rfl)
 | (show heapOK2 _ _ = true; kernel_rfl)
 | (omega)))
                          all_goals trace_state
                      · subst hm3
                        have hr := hyes ⟨by omega, by omega, d2, by omega, fun i hi => by have := hinc (i + 1) (by omega) (by omega); rwa [Nat.add_sub_cancel] at this, k0, k1, by omega, by omega, by omega, fun h hh => by have := hm2 h hh; omega⟩
                        subst hr
                        simp only [lakeC, slR, sl]; simp (maxSteps := 4000000) only [go_sem, seval]
                        (repeat' (first
 | ((omega))
 | ((exfalso; omega))
 | refine awp_seqK ?_
 | refine kt ?_
 | refine And.intro ?_ ?_
 | ((first | refine awp_stp rfl ?_ | refine awp_draw (by kernel_rfl) (by kernel_rfl) ?_ | refine Imp.le2 ?_ | refine go_split (fun _h => ?_) (fun _h => ?_)) <;> try simp (maxSteps := 4000000) only [go_sem, seval])
 | intro _h
 | refine awp_block ?_
 | refine awp_scope ?_
 | refine cond_b ?_ ?_
 | (show heapOK _ _ = true; kernel_rfl)
 | (show heapOK2 _ _ = true; kernel_rfl)
 | (omega)))
                        all_goals trace_state
                  · have hr := hno (fun h => k4 (by have := h.seep; omega))
                    subst hr
                    simp only [lakeC, slR, sl]; simp (maxSteps := 4000000) only [go_sem, seval]
                    (repeat' (first
 | ((omega))
 | ((exfalso; omega))
 | refine awp_seqK ?_
 | refine kt ?_
 | refine And.intro ?_ ?_
 | ((first | refine awp_stp rfl ?_ | refine awp_draw (by kernel_rfl) (by kernel_rfl) ?_ | refine Imp.le2 ?_ | refine callK_of (in_c _ _ _) ?_ | refine callK_of (span_c _ _ _) ?_ | refine go_split (fun _h => ?_) (fun _h => ?_)) <;> try simp (maxSteps := 4000000) only [go_sem, seval, eq_true k0, eq_true k1, eq_true k2, eq_true k3, eq_false k4, decide_true, decide_false, Bool.not_true, Bool.not_false])
 | intro _h
 | refine awp_block ?_
 | refine awp_scope ?_
 | refine cond_b ?_ ?_
 | (show heapOK _ _ = true; kernel_rfl)
 | (show heapOK2 _ _ = true; kernel_rfl)
 | (omega)))
                    all_goals trace_state
                · have hr := hno (fun h => k3 (by have := h.start; omega))
                  subst hr
                  simp only [lakeC, slR, sl]; simp (maxSteps := 4000000) only [go_sem, seval]
                  (repeat' (first
 | ((omega))
 | ((exfalso; omega))
 | refine awp_seqK ?_
 | refine kt ?_
 | refine And.intro ?_ ?_
 | ((first | refine awp_stp rfl ?_ | refine awp_draw (by kernel_rfl) (by kernel_rfl) ?_ | refine Imp.le2 ?_ | refine callK_of (in_c _ _ _) ?_ | refine callK_of (span_c _ _ _) ?_ | refine go_split (fun _h => ?_) (fun _h => ?_)) <;> try simp (maxSteps := 4000000) only [go_sem, seval, eq_true k0, eq_true k1, eq_true k2, eq_false k3, decide_true, decide_false, Bool.not_true, Bool.not_false])
 | intro _h
 | refine awp_block ?_
 | refine awp_scope ?_
 | refine cond_b ?_ ?_
 | (show heapOK _ _ = true; kernel_rfl)
 | (show heapOK2 _ _ = true; kernel_rfl)
 | (omega)))
                  all_goals trace_state
              · have hr := hno (fun h => k2 (by have := h.soft; omega))
                subst hr
                simp only [lakeC, slR, sl]; simp (maxSteps := 4000000) only [go_sem, seval]
                (repeat' (first
 | ((omega))
 | ((exfalso; omega))
 | refine awp_seqK ?_
 | refine kt ?_
 | refine And.intro ?_ ?_
 | ((first | refine awp_stp rfl ?_ | refine awp_draw (by kernel_rfl) (by kernel_rfl) ?_ | refine Imp.le2 ?_ | refine callK_of (in_c _ _ _) ?_ | refine callK_of (span_c _ _ _) ?_ | refine go_split (fun _h => ?_) (fun _h => ?_)) <;> try simp (maxSteps := 4000000) only [go_sem, seval, eq_true k0, eq_true k1, eq_false k2, decide_true, decide_false, Bool.not_true, Bool.not_false])
 | intro _h
 | refine awp_block ?_
 | refine awp_scope ?_
 | refine cond_b ?_ ?_
 | (show heapOK _ _ = true; kernel_rfl)
 | (show heapOK2 _ _ = true; kernel_rfl)
 | (omega)))
                all_goals trace_state
            · have hr := hno (fun h => k1 h.weak)
              subst hr
              simp only [lakeC, slR, sl]; simp (maxSteps := 4000000) only [go_sem, seval]
              (repeat' (first
 | ((omega))
 | ((exfalso; omega))
 | refine awp_seqK ?_
 | refine kt ?_
 | refine And.intro ?_ ?_
 | ((first | refine awp_stp rfl ?_ | refine awp_draw (by kernel_rfl) (by kernel_rfl) ?_ | refine Imp.le2 ?_ | refine callK_of (in_c _ _ _) ?_ | refine callK_of (span_c _ _ _) ?_ | refine go_split (fun _h => ?_) (fun _h => ?_)) <;> try simp (maxSteps := 4000000) only [go_sem, seval, eq_true k0, eq_false k1, decide_true, decide_false, Bool.not_true, Bool.not_false])
 | intro _h
 | refine awp_block ?_
 | refine awp_scope ?_
 | refine cond_b ?_ ?_
 | (show heapOK _ _ = true; kernel_rfl)
 | (show heapOK2 _ _ = true; kernel_rfl)
 | (omega)))
              all_goals trace_state
          · have hr := hno (fun h => k0 h.crest)
            subst hr
            simp only [lakeC, slR, sl]; simp (maxSteps := 4000000) only [go_sem, seval]
            (repeat' (first
 | ((omega))
 | ((exfalso; omega))
 | refine awp_seqK ?_
 | refine kt ?_
 | refine And.intro ?_ ?_
 | ((first | refine awp_stp rfl ?_ | refine awp_draw (by kernel_rfl) (by kernel_rfl) ?_ | refine Imp.le2 ?_ | refine callK_of (in_c _ _ _) ?_ | refine callK_of (span_c _ _ _) ?_ | refine go_split (fun _h => ?_) (fun _h => ?_)) <;> try simp (maxSteps := 4000000) only [go_sem, seval, eq_false k0, decide_true, decide_false, Bool.not_true, Bool.not_false])
 | intro _h
 | refine awp_block ?_
 | refine awp_scope ?_
 | refine cond_b ?_ ?_
 | (show heapOK _ _ = true; kernel_rfl)
 | (show heapOK2 _ _ = true; kernel_rfl)
 | (omega)))
            all_goals trace_state
end La
end Go.Am
