/- Parts TsD of the proof, one behind the other. No statement is proved here. -/
import Derived.Test.YtghlpjfpfjpddaaGb
/- The law AwayNames, as a contract: it returns true. -/
namespace Go.Am
open Go.RowKit Go.Proofs
attribute [local irreducible] AWP CallS Kt goK CallK stepK evOps SemF SemY Imp
set_option maxRecDepth 4000
set_option linter.unusedSimpArgs false
set_option linter.unusedVariables false
set_option maxHeartbeats 3200000

theorem awayNames_c : CallS Try.prog 13 [] (.bool true) := by
  have hA := awake_c
  have hv := village_c
  have hf := fleet_c
  have t0 := nm_there
  have t1 := nm_there1
  have t2 := nm_there2
  have r0 := nm_ret
  have r1 := nm_ret1
  have r2 := nm_ret2
  have l0 := nm_late
  have l1 := nm_late0
  have l2 := nm_late1
  have o0 := nm_order
  have pe := nm_early
  have pa := nm_apart
  have cm := nm_many
  have cz := nm_zero
  have f0 := nm_fails0
  have f1 := nm_fails1
  have fS := nm_failsS
  have p6 := nm_plan6
  have pS := nm_planS
  have i1 := nm_ints (l := [29, 11, 14]) (n := 3) rfl (by omega)
  have i2 := nm_ints (l := [750, 630, 747]) (n := 3) rfl (by omega)
  have i3' := nm_ints (l := [1, 2]) (n := 2) rfl (by omega)
  have i4 := nm_ints (l := [0]) (n := 1) rfl (by omega)
  have hl := vil6_plan.2
  simp only [slB, hl] at p6
  have hx : pureL (recs busC (planL vil6)) = True := pl_B (l := planL vil6)
  generalize recs busC (planL vil6) = PX at *
  simp only [ints_cons, ints_nil] at i1 i2 i3' i4
  simp only [town0, fleet0, hom0, hal0, i3, zer9, List.replicate, List.flatten_cons, List.flatten_nil, List.cons_append, List.nil_append] at hv hf t0 t1 t2 r0 r1 r2 l0 l1 l2 o0 pe pa cm cz f0 f1 fS p6 pS
  (refine callS_of_awp (fun w args => Try.call13 ..) Try.func13 rfl (fun w0 m0 wz => ?_); simp only [Try.ntmps13, Try.results13, initT, junks, homeC, hallC, slH, slL, townC, sl, List.toList_toArray, List.cons_append, List.nil_append, List.length_cons, List.length_nil, Nat.reduceAdd, Nat.reduceSub])
  (repeat' (first
    | (refine awp_seqK ?_)
    | (refine kt ?_)
    | (refine And.intro ?_ ?_)
    | ((first | refine awp_region ?_ | refine awp_draw (by kernel_rfl) (by kernel_rfl) ?_ | refine Imp.le2 ?_ | refine awp_label ?_ | refine awp_skip ?_ | refine awp_exit ?_ | refine awp_cd ?_ | refine awp_ret ?_ | refine callK_of (hv) ?_ | refine callK_of (hf) ?_ | refine callK_of (t0) ?_ | refine callK_of (r0) ?_ | refine go_split (fun _h => ?_) (fun _h => ?_)) <;> try simp (maxSteps := 4000000) only [go_sem, seval])
    | (intro _h)
    | (refine awp_block ?_)
    | (refine awp_scope ?_)
    | (refine cond_b (fun _h => ?_) (fun _h => ?_))
    | (show heapOK _ _ = true; kernel_rfl)
    | (show heapOK2 _ _ = true; kernel_rfl)
    | (omega)))
  (repeat' (first
    | (refine awp_ownN (id := 7) 0 rfl ?_; simp (maxSteps := 4000000) only [go_sem, seval, List.take_succ_cons, List.take_zero, hx])
    | (refine own_go (village_o) [] rfl ?_ ?_ rfl ?_ <;> try simp (maxSteps := 4000000) only [go_sem, seval, Nat.lt_irrefl, hx] <;> try decide)
    | (refine awp_frz (c := .region 9 _ _) 3 rfl (by simp (maxSteps := 4000000) only [go_sem, seval, hx]) (fun _ => rfl) ?_; simp only [frz, fzl, fz2, fz1, fz0, fzH, fzHs, fzO, fzB, List.map_cons, List.map_nil, if_true, if_false, reduceIte, Nat.reduceEqDiff, Nat.reduceAdd, Nat.succ_ne_self, Nat.zero_ne_one, Nat.one_ne_zero, reduceCtorEq, and_self])
    | (refine awp_seqK ?_)
    | (refine kt ?_)
    | (refine And.intro ?_ ?_)
    | ((first | refine awp_region ?_ | refine awp_draw (by kernel_rfl) (by kernel_rfl) ?_ | refine Imp.le2 ?_ | refine awp_label ?_ | refine awp_skip ?_ | refine awp_exit ?_ | refine awp_cd ?_ | refine awp_ret ?_ | refine callK_of (p6) ?_ | refine go_split (fun _h => ?_) (fun _h => ?_)) <;> try simp (maxSteps := 4000000) only [go_sem, seval, hx])
    | (intro _h)
    | (refine awp_block ?_)
    | (refine awp_scope ?_)
    | (refine cond_b (fun _h => ?_) (fun _h => ?_))
    | (show heapOK _ _ = true; kernel_rfl)
    | (show heapOK2 _ _ = true; kernel_rfl)
    | (omega)))
  (repeat' (first
    | (refine awp_seqK ?_)
    | (refine kt ?_)
    | (refine And.intro ?_ ?_)
    | ((first | refine awp_region ?_ | refine awp_draw (by kernel_rfl) (by kernel_rfl) ?_ | refine Imp.le2 ?_ | refine awp_label ?_ | refine awp_skip ?_ | refine awp_exit ?_ | refine awp_cd ?_ | refine awp_ret ?_ | refine callK_of (hv) ?_ | refine callK_of (hf) ?_ | refine callK_of (fS) ?_ | refine callK_of (pS) ?_ | refine callK_of (l0) ?_ | refine callK_of (o0) ?_ | refine callK_of (i1) ?_ | refine callK_of (i2) ?_ | refine callK_of (i3') ?_ | refine callK_of (f0) ?_ | refine callK_of (l1) ?_ | refine callK_of (t1) ?_ | refine callK_of (t2) ?_ | refine callK_of (r1) ?_ | refine go_split (fun _h => ?_) (fun _h => ?_)) <;> try simp (maxSteps := 4000000) only [go_sem, seval])
    | (intro _h)
    | (refine awp_block ?_)
    | (refine awp_scope ?_)
    | (refine cond_b (fun _h => ?_) (fun _h => ?_))
    | (show heapOK _ _ = true; kernel_rfl)
    | (show heapOK2 _ _ = true; kernel_rfl)
    | (omega)))
  (repeat' (first
    | (refine awp_ownN (id := 23) 0 rfl ?_; simp (maxSteps := 4000000) only [go_sem, seval, List.take_succ_cons, List.take_zero])
    | (refine own_go (fleet_o) [] rfl ?_ ?_ rfl ?_ <;> try simp (maxSteps := 4000000) only [go_sem, seval, Nat.lt_irrefl] <;> try decide)
    | (refine awp_ownN (id := 25) 0 rfl ?_; simp (maxSteps := 4000000) only [go_sem, seval, List.take_succ_cons, List.take_zero])
    | (refine own_go (fleet_o) [] rfl ?_ ?_ rfl ?_ <;> try simp (maxSteps := 4000000) only [go_sem, seval, Nat.lt_irrefl] <;> try decide)
    | (refine awp_frz (c := .region 33 _ _) 6 rfl (by simp (maxSteps := 4000000) only [go_sem, seval]) (fun _ => rfl) ?_; simp only [frz, fzl, fz2, fz1, fz0, fzH, fzHs, fzO, fzB, List.map_cons, List.map_nil, if_true, if_false, reduceIte, Nat.reduceEqDiff, Nat.reduceAdd, Nat.succ_ne_self, Nat.zero_ne_one, Nat.one_ne_zero, reduceCtorEq, and_self])
    | (refine awp_frz (c := .region 33 _ _) 7 rfl (by simp (maxSteps := 4000000) only [go_sem, seval]) (fun _ => rfl) ?_; simp only [frz, fzl, fz2, fz1, fz0, fzH, fzHs, fzO, fzB, List.map_cons, List.map_nil, if_true, if_false, reduceIte, Nat.reduceEqDiff, Nat.reduceAdd, Nat.succ_ne_self, Nat.zero_ne_one, Nat.one_ne_zero, reduceCtorEq, and_self])
    | (refine awp_frz (c := .region 33 _ _) 9 rfl (by simp (maxSteps := 4000000) only [go_sem, seval]) (fun _ => rfl) ?_; simp only [frz, fzl, fz2, fz1, fz0, fzH, fzHs, fzO, fzB, List.map_cons, List.map_nil, if_true, if_false, reduceIte, Nat.reduceEqDiff, Nat.reduceAdd, Nat.succ_ne_self, Nat.zero_ne_one, Nat.one_ne_zero, reduceCtorEq, and_self])
    | (refine awp_seqK ?_)
    | (refine kt ?_)
    | (refine And.intro ?_ ?_)
    | ((first | refine awp_region ?_ | refine awp_draw (by kernel_rfl) (by kernel_rfl) ?_ | refine Imp.le2 ?_ | refine awp_label ?_ | refine awp_skip ?_ | refine awp_exit ?_ | refine awp_cd ?_ | refine awp_ret ?_ | refine callK_of (r2) ?_ | refine callK_of (hv) ?_ | refine callK_of (f1) ?_ | refine callK_of (l2) ?_ | refine callK_of (pe) ?_ | refine callK_of (pa) ?_ | refine callK_of (cm) ?_ | refine callK_of (cz) ?_ | refine callK_of (i4) ?_ | refine callK_of (hA) ?_ | refine go_split (fun _h => ?_) (fun _h => ?_)) <;> try simp (maxSteps := 4000000) only [go_sem, seval])
    | (intro _h)
    | (refine awp_block ?_)
    | (refine awp_scope ?_)
    | (refine cond_b (fun _h => ?_) (fun _h => ?_))
    | (show heapOK _ _ = true; kernel_rfl)
    | (show heapOK2 _ _ = true; kernel_rfl)
    | (omega)))
  all_goals trace_state
end Go.Am
