/- Parts TsA, TsB, TsC of the proof, one behind the other. No statement is proved here. -/
import Derived.Test.YtghlpjfpfjpddaaE3
import Derived.Test.YtghlpjfpfjpddaaN5
import Derived.Test.YtghlpjfpfjpddaaE6
/- The village and its plan, as lists of their own. -/
namespace Go.Am
open Go.RowKit Go.Proofs
attribute [local irreducible] AWP CallS Kt goK CallK stepK evOps SemF SemY Imp
set_option maxRecDepth 4000
set_option linter.unusedSimpArgs false
set_option linter.unusedVariables false
set_option maxHeartbeats 3200000

theorem village_o : SemF Try.prog 47 [] [] (.agg [.psl true 3 [.int .i64 4, .int .u8 1, .int .i64 10, .int .i64 20, .int .i64 5, .int .i64 100, .int .i64 2, .int .u8 0, .int .i64 5, .int .i64 10, .int .i64 0, .int .i64 60, .int .i64 3, .int .u8 2, .int .i64 5, .int .i64 10, .int .i64 2, .int .i64 80], .osl 1 0 0 2, .int .i64 7, .int .i64 2, .int .i64 3]) [none, some (.cells 91 3 0 [.int .i64 6, .int .u8 1, .int .i64 30, .int .i64 10, .int .u8 3, .int .i64 45])] := by
  (refine semF_of_awp (ys := [.agg [.psl true 3 [.int .i64 4, .int .u8 1, .int .i64 10, .int .i64 20, .int .i64 5, .int .i64 100, .int .i64 2, .int .u8 0, .int .i64 5, .int .i64 10, .int .i64 0, .int .i64 60, .int .i64 3, .int .u8 2, .int .i64 5, .int .i64 10, .int .i64 2, .int .i64 80], .osl 1 0 0 2, .int .i64 7, .int .i64 2, .int .i64 3]]) (fun w args => Try.call47 ..) Try.func47 rfl (fun w0 m0 wz => ?_); simp only [Try.ntmps47, Try.results47, initT, junks, homeC, hallC, slH, slL, townC, sl, List.toList_toArray, List.cons_append, List.nil_append, List.length_cons, List.length_nil, Nat.reduceAdd, Nat.reduceSub])
  (repeat' (first
    | (refine awp_regionL (id := 1) [false, false, false, false, false, false, false, false, false, false, true] ?_; simp (maxSteps := 4000000) only [go_sem, seval, eL_f, eL_t, eL_n])
    | (refine awp_seqK ?_)
    | (refine kt ?_)
    | (refine And.intro ?_ ?_)
    | ((first | refine awp_region ?_ | refine awp_draw (by kernel_rfl) (by kernel_rfl) ?_ | refine Imp.le2 ?_ | refine awp_label ?_ | refine awp_skip ?_ | refine awp_exit ?_ | refine awp_cd ?_ | refine awp_ret ?_ | refine go_split (fun _h => ?_) (fun _h => ?_)) <;> try simp (maxSteps := 4000000) only [go_sem, seval])
    | (intro _h)
    | (refine awp_block ?_)
    | (refine awp_scope ?_)
    | (refine cond_b (fun _h => ?_) (fun _h => ?_))
    | (show heapOK _ _ = true; kernel_rfl)
    | (show heapOK2 _ _ = true; kernel_rfl)
    | (omega)))
  all_goals trace_state
theorem fleet_o : SemF Try.prog 48 [] [] (.osl 0 0 0 2) [some (.cells 48 3 0 [.int .i64 34, .int .i64 1, .psl true 2 [.int .i64 0, .int .i64 2], .int .i64 19, .int .i64 0, .psl true 1 [.int .i64 1]])] := by
  (refine semF_of_awp (ys := [.osl 0 0 0 2]) (fun w args => Try.call48 ..) Try.func48 rfl (fun w0 m0 wz => ?_); simp only [Try.ntmps48, Try.results48, initT, junks, homeC, hallC, slH, slL, townC, sl, List.toList_toArray, List.cons_append, List.nil_append, List.length_cons, List.length_nil, Nat.reduceAdd, Nat.reduceSub])
  (repeat' (first
    | (refine awp_regionL (id := 1) [false, false, false, false, true] ?_; simp (maxSteps := 4000000) only [go_sem, seval, eL_f, eL_t, eL_n])
    | (refine awp_seqK ?_)
    | (refine kt ?_)
    | (refine And.intro ?_ ?_)
    | ((first | refine awp_region ?_ | refine awp_draw (by kernel_rfl) (by kernel_rfl) ?_ | refine Imp.le2 ?_ | refine awp_label ?_ | refine awp_skip ?_ | refine awp_exit ?_ | refine awp_cd ?_ | refine awp_ret ?_ | refine go_split (fun _h => ?_) (fun _h => ?_)) <;> try simp (maxSteps := 4000000) only [go_sem, seval])
    | (intro _h)
    | (refine awp_block ?_)
    | (refine awp_scope ?_)
    | (refine cond_b (fun _h => ?_) (fun _h => ?_))
    | (show heapOK _ _ = true; kernel_rfl)
    | (show heapOK2 _ _ = true; kernel_rfl)
    | (omega)))
  all_goals trace_state
end Go.Am

/- What AwayNames asks, call by call: run. -/
namespace Go.Am
open Go.RowKit Go.Proofs
set_option maxRecDepth 4000
set_option linter.unusedSimpArgs false
set_option linter.unusedVariables false

def hom0 : AV := .psl true 3 [.int .i64 4, .int .u8 1, .int .i64 10, .int .i64 20, .int .i64 5, .int .i64 100, .int .i64 2, .int .u8 0, .int .i64 5, .int .i64 10, .int .i64 0, .int .i64 60, .int .i64 3, .int .u8 2, .int .i64 5, .int .i64 10, .int .i64 2, .int .i64 80]
def hal0 : AV := .psl true 2 [.int .i64 6, .int .u8 1, .int .i64 30, .int .i64 10, .int .u8 3, .int .i64 45]
def i3 (a b c : Int) : AV := .psl true 3 [.int .i64 a, .int .i64 b, .int .i64 c]
set_option maxRecDepth 100000 in
theorem nm_there : CallS Try.prog 38 [town0, i3 2 0 1, i3 2 2 2, i3 20 5 10] (.tup [.psl false 3 [.int .i64 29, .int .i64 11, .int .i64 14], .int .i64 0]) :=
  callS_run (eqt := fun _ => true) (pm := pmA) (ent := entA) (lf := 2000) (n := 60) (fun t _ => eqOK t) entA_ok mixedA (by kernel_rfl)
set_option maxRecDepth 100000 in
theorem nm_there1 : CallS Try.prog 38 [town0, i3 2 0 2, i3 2 2 2, i3 20 5 10] (.tup [.nils, .int .i64 1]) :=
  callS_run (eqt := fun _ => true) (pm := pmA) (ent := entA) (lf := 2000) (n := 60) (fun t _ => eqOK t) entA_ok mixedA (by kernel_rfl)
set_option maxRecDepth 100000 in
theorem nm_there2 : CallS Try.prog 38 [town0, i3 2 0 1, i3 2 4 2, i3 20 5 10] (.tup [.nils, .int .i64 2]) :=
  callS_run (eqt := fun _ => true) (pm := pmA) (ent := entA) (lf := 2000) (n := 60) (fun t _ => eqOK t) entA_ok mixedA (by kernel_rfl)
set_option maxRecDepth 100000 in
theorem nm_ret : CallS Try.prog 31 [town0, fleet0, i3 500 600 700] (.tup [.psl false 3 [.int .i64 750, .int .i64 630, .int .i64 747], .int .i64 0]) :=
  callS_run (eqt := fun _ => true) (pm := pmA) (ent := entA) (lf := 2000) (n := 60) (fun t _ => eqOK t) entA_ok mixedA (by kernel_rfl)
set_option maxRecDepth 100000 in
theorem nm_ret1 : CallS Try.prog 31 [town0, .psl false 1 [.int .i64 34, .int .i64 1, .psl true 2 [.int .i64 0, .int .i64 2]], i3 500 600 700] (.tup [.nils, .int .i64 9]) :=
  callS_run (eqt := fun _ => true) (pm := pmA) (ent := entA) (lf := 2000) (n := 60) (fun t _ => eqOK t) entA_ok mixedA (by kernel_rfl)
set_option maxRecDepth 100000 in
theorem nm_ret2 : CallS Try.prog 31 [town0, fleet0, .psl true 2 [.int .i64 500, .int .i64 600]] (.tup [.nils, .int .i64 2]) :=
  callS_run (eqt := fun _ => true) (pm := pmA) (ent := entA) (lf := 2000) (n := 60) (fun t _ => eqOK t) entA_ok mixedA (by kernel_rfl)
set_option maxRecDepth 100000 in
theorem nm_late : CallS Try.prog 44 [.agg [hom0, hal0, .int .i64 7, .int .i64 2, .int .i64 12]] (.tup [.psl false 2 [.int .i64 1, .int .i64 2], .int .i64 0]) :=
  callS_run (eqt := fun _ => true) (pm := pmA) (ent := entA) (lf := 2000) (n := 60) (fun t _ => eqOK t) entA_ok mixedA (by kernel_rfl)
set_option maxRecDepth 100000 in
theorem nm_order : CallS Try.prog 23 [.agg [hom0, hal0, .int .i64 7, .int .i64 2, .int .i64 12]] (.tup [.nils, .int .i64 11]) :=
  callS_run (eqt := fun _ => true) (pm := pmA) (ent := entA) (lf := 2000) (n := 60) (fun t _ => eqOK t) entA_ok mixedA (by kernel_rfl)
set_option maxRecDepth 100000 in
theorem nm_late0 : CallS Try.prog 44 [town0] (.tup [.nils, .int .i64 7]) :=
  callS_run (eqt := fun _ => true) (pm := pmA) (ent := entA) (lf := 2000) (n := 60) (fun t _ => eqOK t) entA_ok mixedA (by kernel_rfl)
set_option maxRecDepth 100000 in
theorem nm_late1 : CallS Try.prog 44 [.agg [hom0, .nils, .int .i64 7, .int .i64 2, .int .i64 3]] (.tup [.psl false 1 [.int .i64 0], .int .i64 0]) :=
  callS_run (eqt := fun _ => true) (pm := pmA) (ent := entA) (lf := 2000) (n := 60) (fun t _ => eqOK t) entA_ok mixedA (by kernel_rfl)
set_option maxRecDepth 100000 in
theorem nm_early : CallS Try.prog 19 [town0, .psl false 2 [.int .i64 33, .int .i64 1, .psl true 2 [.int .i64 0, .int .i64 2], .int .i64 19, .int .i64 0, .psl true 1 [.int .i64 1]]] (.bool false) :=
  callS_run (eqt := fun _ => true) (pm := pmA) (ent := entA) (lf := 2000) (n := 60) (fun t _ => eqOK t) entA_ok mixedA (by kernel_rfl)
set_option maxRecDepth 100000 in
theorem nm_apart : CallS Try.prog 19 [town0, .psl false 2 [.int .i64 34, .int .i64 1, .psl true 3 [.int .i64 0, .int .i64 1, .int .i64 2], .int .i64 19, .int .i64 0, .psl true 1 [.int .i64 1]]] (.bool false) :=
  callS_run (eqt := fun _ => true) (pm := pmA) (ent := entA) (lf := 2000) (n := 60) (fun t _ => eqOK t) entA_ok mixedA (by kernel_rfl)
def zer9 : List AV := (List.replicate 9 [AV.int .i64 0, .int .u8 0, .int .i64 0, .int .i64 0, .int .i64 0, .int .i64 0]).flatten
set_option maxRecDepth 100000 in
theorem nm_many : CallS Try.prog 39 [.agg [.psl false 9 zer9, hal0, .int .i64 7, .int .i64 2, .int .i64 3]] (.int .i64 3) :=
  callS_run (eqt := fun _ => true) (pm := pmA) (ent := entA) (lf := 2000) (n := 60) (fun t _ => eqOK t) entA_ok mixedA (by kernel_rfl)
set_option maxRecDepth 100000 in
theorem nm_zero : CallS Try.prog 39 [.agg [.nils, .nils, .int .i64 0, .int .i64 0, .int .i64 0]] (.int .i64 1) :=
  callS_run (eqt := fun _ => true) (pm := pmA) (ent := entA) (lf := 2000) (n := 60) (fun t _ => eqOK t) entA_ok mixedA (by kernel_rfl)
set_option maxRecDepth 100000 in
theorem nm_fails1 : CallS Try.prog 25 [.agg [hom0, .nils, .int .i64 7, .int .i64 2, .int .i64 3]] (.tup [.int .i64 0, .int .i64 0]) :=
  callS_run (eqt := fun _ => true) (pm := pmA) (ent := entA) (lf := 2000) (n := 60) (fun t _ => eqOK t) entA_ok mixedA (by kernel_rfl)
end Go.Am

/- What AwayNames asks, call by call: plans and who fails. -/
namespace Go.Am
open Go.RowKit Go.Proofs
set_option maxRecDepth 4000
set_option linter.unusedSimpArgs false
set_option linter.unusedVariables false

def vil6 : Town := ⟨[⟨4, 1, 10, 20, 5, 100⟩, ⟨2, 0, 5, 10, 0, 60⟩, ⟨3, 2, 5, 10, 2, 80⟩], [⟨6, 1, 30⟩, ⟨10, 3, 45⟩], 6, 2, 3⟩
def vilS : Town := ⟨[⟨4, 1, 10, 20, 5, 100⟩, ⟨2, 0, 5, 10, 0, 60⟩, ⟨3, 2, 5, 10, 2, 80⟩], [⟨6, 1, 30⟩, ⟨2, 3, 45⟩], 7, 2, 3⟩
theorem vil6_deep : Deep (.agg [hom0, hal0, .int .i64 6, .int .i64 2, .int .i64 3]) (.agg (townC vil6)) := deep_agg ⟨deep_psl (by rw [show recs homeC vil6.homes = _ from rfl]; repeat (first | exact trivial | refine And.intro (.refl _) ?_)), deep_psl (by rw [show recs hallC vil6.halls = _ from rfl]; repeat (first | exact trivial | refine And.intro (.refl _) ?_)), .refl _, .refl _, .refl _, trivial⟩
theorem vilS_deep : Deep (.agg [hom0, .psl false 2 [.int .i64 6, .int .u8 1, .int .i64 30, .int .i64 2, .int .u8 3, .int .i64 45], .int .i64 7, .int .i64 2, .int .i64 3]) (.agg (townC vilS)) := deep_agg ⟨deep_psl (by rw [show recs homeC vilS.homes = _ from rfl]; repeat (first | exact trivial | refine And.intro (.refl _) ?_)), deep_psl (by rw [show recs hallC vilS.halls = _ from rfl]; repeat (first | exact trivial | refine And.intro (.refl _) ?_)), .refl _, .refl _, .refl _, trivial⟩
set_option maxRecDepth 100000 in
theorem vil6_plan : planE vil6 = 0 ∧ (planL vil6).length = 3 := by
  have h : (decide (planE vil6 = 0) && Nat.beq (planL vil6).length 3) = true := by kernel_rfl
  simpa using h
set_option maxRecDepth 100000 in
theorem vilS_plan : planE vilS = 9 := by kernel_rfl
set_option maxRecDepth 100000 in
theorem vilS_fails : failsN vilS = 2 ∧ failsE vilS = 0 := by
  have h : (decide (failsN vilS = 2) && decide (failsE vilS = 0)) = true := by kernel_rfl
  simpa using h
set_option maxRecDepth 100000 in
theorem vil_fails : failsN vil = 0 ∧ failsE vil = 7 := by
  have h : (decide (failsN vil = 0) && decide (failsE vil = 7)) = true := by kernel_rfl
  simpa using h
theorem nm_plan6 : CallS Try.prog 17 [.agg [hom0, hal0, .int .i64 6, .int .i64 2, .int .i64 3]] (.tup [slB (planL vil6), .int .i64 0]) := by
  have h := Plan_c vil6 ⟨by simp [vil6], by simp [vil6]⟩
  rw [show planV vil6 = slB (planL vil6) by unfold planV; rw [if_pos vil6_plan.1], vil6_plan.1] at h
  exact h.deep ⟨vil6_deep, trivial⟩
theorem nm_planS : CallS Try.prog 17 [.agg [hom0, .psl false 2 [.int .i64 6, .int .u8 1, .int .i64 30, .int .i64 2, .int .u8 3, .int .i64 45], .int .i64 7, .int .i64 2, .int .i64 3]] (.tup [.nils, .int .i64 9]) := by
  have h := Plan_c vilS ⟨by simp [vilS], by simp [vilS]⟩
  rw [show planV vilS = .nils by unfold planV; rw [if_neg (by rw [vilS_plan]; omega)], vilS_plan] at h
  exact h.deep ⟨vilS_deep, trivial⟩
theorem nm_failsS : CallS Try.prog 25 [.agg [hom0, .psl false 2 [.int .i64 6, .int .u8 1, .int .i64 30, .int .i64 2, .int .u8 3, .int .i64 45], .int .i64 7, .int .i64 2, .int .i64 3]] (.tup [.int .i64 2, .int .i64 0]) := by
  have h := Fails_c vilS ⟨by simp [vilS], by simp [vilS]⟩
  rw [vilS_fails.1, vilS_fails.2] at h
  exact h.deep ⟨vilS_deep, trivial⟩
theorem nm_fails0 : CallS Try.prog 25 [town0] (.tup [.int .i64 0, .int .i64 7]) := by
  have h := Fails_c vil ⟨by simp [vil], by simp [vil]⟩
  rw [vil_fails.1, vil_fails.2] at h
  exact h.deep ⟨vil_deep, trivial⟩
theorem nm_ints {l : List Int} {n : Nat} (hn : l.length = n) (h : n ≤ 1000000) : CallS Try.prog 34 [.psl false n (ints l), .psl true n (ints l)] (.bool true) := by
  have h1 := ints_c l l (by omega)
  simp only [sl, hn, decide_true] at h1
  refine h1.deep ⟨.refl _, .psl (fun e => by cases e) rfl (fun j a b => .refl _), trivial⟩
end Go.Am
