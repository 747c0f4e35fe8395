/- Parts BlI, BlJ, BmD, BmE of the proof, one behind the other: the machine of abstract values, contracts, plain words. No statement is proved here. -/
import Derived.Test.YtnjommobapmgbaaM7
/- The law AlarmLevels, as a contract: it returns true. -/
namespace Go.Am
open Go.RowKit Go.Proofs
attribute [local irreducible] AWP CallS Kt goK CallK stepK evOps SemF SemY Imp
set_option maxRecDepth 4000
set_option linter.unusedSimpArgs false
set_option linter.unusedVariables false
set_option maxHeartbeats 1600000

theorem gAt_take {p : Post} {reads : List (List Int)} {m : Nat} : ∀ k, k ≤ m → gAt p (reads.take m) k = gAt p reads k
  | 0, _ => rfl
  | k + 1, h => by
    have e : (reads.take m).getD k [] = reads.getD k [] := by
      simp only [List.getD_eq_getElem?_getD, List.getElem?_take]
      rw [if_pos (by omega)]
    simp only [gAt, e]
    rw [show gAt p (reads.take m) k = gAt p reads k from gAt_take k (by omega)]
theorem stAt_take {p : Post} {reads : List (List Int)} {m k : Nat} (h : k < m) : stAt p (reads.take m) k = stAt p reads k := by
  unfold stAt; rw [gAt_take _ (by omega)]
theorem reads_take {p : Post} {reads : List (List Int)} {m : Nat} (h : ReadsOK p reads) : ReadsOK p (reads.take m) := by
  refine ⟨by have := h.len; simp; omega, fun i hi => ?_⟩
  have hi' : i < reads.length := by simp at hi; omega
  have e : (reads.take m).getD i [] = reads.getD i [] := by
    simp only [List.getD_eq_getElem?_getD, List.getElem?_take]
    rw [if_pos (by simp at hi; omega)]
  rw [e]
  exact h.rows i hi'
theorem win_rows {l : List (List Int)} {n : Nat} : window (rowsC l) 0 n = rowsC (l.take n) := by simp [window, rowsC, List.map_take]
theorem win_rows1 {l : List (List Int)} {n : Nat} : window (rowsC l) 0 (n * 1) = rowsC (l.take n) := by rw [Nat.mul_one, win_rows]
theorem ld_st58 {l : List (Int × Int × Int)} {i : Nat} {K : AV → Prop} : loadK Try.prog 58 (recs stC l) (i * 3) K = (i < l.length ∧ K (.agg (stC (l.getD i default)))) := ld_recs tagg58 tsz58 (fun _ => rfl) (by omega)
attribute [go_sem] win_rows
attribute [go_sem ↓] ld_st58
/-- A state in an hour, by the reference. -/
theorem atT_c (p : Post) (reads : List (List Int)) (h : Nat) (hp : PostOK p) (hr : ReadsOK p reads) (hh : h < reads.length) : CallS Try.prog 36 [.agg (postC p), .psl false (h + 1) (rowsC (reads.take (h + 1)))]
    (.tup [.agg [.int .i64 (aLo (stAt p reads h)), .int .i64 (hHi (stAt p reads h)), .int .u8 (levelOf p (hHi (stAt p reads h)))], .bool (stAt p reads h).isSome]) := by
  have := at_c p (reads.take (h + 1)) hp (reads_take hr)
  have e : (reads.take (h + 1)).length = h + 1 := by simp; omega
  have e2 : hull (gAt p (reads.take (h + 1)) (h + 1)) (p.errs.length + 1) = stAt p reads h := by rw [gAt_take _ (by omega)]; rfl
  simp only [sll, e, e2] at this
  exact this
theorem thinB_true {p : Post} {reads : List (List Int)} (h : thinB p reads = true) : p.errs.length ≤ 15 ∧ reads.length ≤ 65 ∧ ∀ i, i < reads.length → (reads.getD i []).length ≤ 15 := of_decide_eq_true h

theorem alarmLevels_c (p : Post) (reads : List (List Int)) (hb : InB p reads) : CallS Try.prog 7 [.agg (postC p), sll reads] (.bool true) := by
  have k1 := few_c p reads hb
  have k2 := fault_c p reads hb
  have k3 := right_c p hb.e
  have k4 := checkPost_c p hb.e
  have k5 := levels_c p reads hb
  have k6 := breaks_c p reads hb
  cases hfew : fewB p reads
  · rw [hfew] at k1
    simp only [postC, sl, sll] at k1
    (refine callS_of_awp (fun w args => Try.call7 ..) Try.func7 rfl (fun w0 m0 wz => ?_); simp only [Try.ntmps7, Try.results7, initT, junks, postC, watchC, sll, slSt, sl, List.toList_toArray, List.cons_append, List.nil_append, List.length_cons, List.length_nil, Nat.reduceAdd, Nat.reduceSub])
    (repeat' (first
    | (refine awp_seqK ?_)
    | (refine kt ?_)
    | (refine And.intro ?_ ?_)
    | ((first | refine awp_region ?_ | refine awp_draw (by kernel_rfl) (by kernel_rfl) ?_ | refine Imp.le2 ?_ | refine awp_label ?_ | refine awp_skip ?_ | refine awp_exit ?_ | refine awp_cd ?_ | refine awp_ret ?_); simp (maxSteps := 4000000) only [go_sem, List.append_eq, List.cons_append, List.nil_append, Nat.reduceAdd, Nat.reduceMul, Nat.reduceSub, Nat.reduceLeDiff, Nat.reduceLT, Int.reduceAdd, Int.reduceToNat, Int.reduceLE, Int.reduceLT, Int.reduceNeg, reduceIte, postC, watchC, sll, slSt])
    | (intro _h)
    | (refine awp_block ?_)
    | (refine awp_scope ?_)
    | ((first | refine callK_of (awake_c) ?_ | refine callK_of (k1) ?_); try simp (maxSteps := 4000000) only [go_sem, List.append_eq, List.cons_append, List.nil_append, Nat.reduceAdd, Nat.reduceMul, Nat.reduceSub, Nat.reduceLeDiff, Nat.reduceLT, Int.reduceAdd, Int.reduceToNat, Int.reduceLE, Int.reduceLT, Int.reduceNeg, reduceIte, postC, watchC, sll, slSt])
    | (refine go_split (fun _h => ?_) (fun _h => ?_) <;> simp (maxSteps := 4000000) only [go_sem, List.append_eq, List.cons_append, List.nil_append, Nat.reduceAdd, Nat.reduceMul, Nat.reduceSub, Nat.reduceLeDiff, Nat.reduceLT, Int.reduceAdd, Int.reduceToNat, Int.reduceLE, Int.reduceLT, Int.reduceNeg, reduceIte, postC, watchC, sll, slSt])
    | (show heapOK _ _ = true; kernel_rfl)
    | (omega)))
  · rw [hfew] at k1
    have hth : thinB p reads = true := by unfold fewB at hfew; rw [Bool.and_eq_true] at hfew; exact hfew.1
    obtain ⟨t1, t2, t3⟩ := thinB_true hth
    have k7 := Post_c p (by omega)
    have k8 := rows_c reads (by omega) (fun i hi => by have := t3 i hi; omega)
    by_cases hf : faultP p reads = 0
    · obtain ⟨hp, hr⟩ := faultP_zero hf
      have hpb : postB p = true := by
        cases h : postB p with
        | true => rfl
        | false => unfold faultP at hf; rw [if_pos h] at hf; omega
      unfold levelsL levelsE at k5
      unfold breaksN breaksE at k6
      rw [if_pos hf, if_pos hf] at k5 k6
      rw [hf] at k2
      rw [hpb] at k3 k4
      rw [if_pos rfl] at k4
      have hat := fun h => atT_c p reads h hp hr
      cases hbk : brk p reads with
      | none =>
        have hall := brk_none hbk
        rw [hbk] at k5 k6
        simp only [slSt, postC, sl, sll, states_length] at k1 k2 k3 k4 k5 k6 k7 k8 hat
        (refine callS_of_awp (fun w args => Try.call7 ..) Try.func7 rfl (fun w0 m0 wz => ?_); simp only [Try.ntmps7, Try.results7, initT, junks, postC, watchC, sll, slSt, sl, List.toList_toArray, List.cons_append, List.nil_append, List.length_cons, List.length_nil, Nat.reduceAdd, Nat.reduceSub])
        (repeat' (first
    | (refine awp_seqK ?_)
    | (refine kt ?_)
    | (refine And.intro ?_ ?_)
    | ((first | refine awp_region ?_ | refine awp_draw (by kernel_rfl) (by kernel_rfl) ?_ | refine Imp.le2 ?_ | refine awp_label ?_ | refine awp_skip ?_ | refine awp_exit ?_ | refine awp_cd ?_ | refine awp_ret ?_); simp (maxSteps := 4000000) only [go_sem, List.append_eq, List.cons_append, List.nil_append, Nat.reduceAdd, Nat.reduceMul, Nat.reduceSub, Nat.reduceLeDiff, Nat.reduceLT, Int.reduceAdd, Int.reduceToNat, Int.reduceLE, Int.reduceLT, Int.reduceNeg, reduceIte, postC, watchC, sll, slSt])
    | (intro _h)
    | (refine awp_block ?_)
    | (refine awp_scope ?_)
    | ((first | refine callK_of (awake_c) ?_ | refine callK_of (k1) ?_ | refine callK_of (k2) ?_ | refine callK_of (k3) ?_ | refine callK_of (k4) ?_ | refine callK_of (k7) ?_ | refine callK_of (k8) ?_ | refine callK_of (k5) ?_ | refine callK_of (k6) ?_); try simp (maxSteps := 4000000) only [go_sem, List.append_eq, List.cons_append, List.nil_append, Nat.reduceAdd, Nat.reduceMul, Nat.reduceSub, Nat.reduceLeDiff, Nat.reduceLT, Int.reduceAdd, Int.reduceToNat, Int.reduceLE, Int.reduceLT, Int.reduceNeg, reduceIte, postC, watchC, sll, slSt])
    | (refine go_split (fun _h => ?_) (fun _h => ?_) <;> simp (maxSteps := 4000000) only [go_sem, List.append_eq, List.cons_append, List.nil_append, Nat.reduceAdd, Nat.reduceMul, Nat.reduceSub, Nat.reduceLeDiff, Nat.reduceLT, Int.reduceAdd, Int.reduceToNat, Int.reduceLE, Int.reduceLT, Int.reduceNeg, reduceIte, postC, watchC, sll, slSt])
    | (show heapOK _ _ = true; kernel_rfl)
    | (omega)))
        refine awp_loopN reads.length (fun h => ⟨mkT 145 [(1, sll reads), (2, .ptr 0 0 0), (6, .psl false reads.length (recs stC (states p reads reads.length))), (7, .int .i64 0), (8, .int .i64 0), (9, .int .i64 7), (10, .int .i64 0), (11, .int .i64 h)], [some (.cells 46 1 0 (postC p))], []⟩) (.le2 ?_) ?_
        · simp only [postC]; simp (maxSteps := 4000000) only [go_sem, List.append_eq, List.cons_append, List.nil_append, Nat.reduceAdd, Nat.reduceMul, Nat.reduceSub, Nat.reduceLeDiff, Nat.reduceLT, Int.reduceAdd, Int.reduceToNat, Int.reduceLE, Int.reduceLT, Int.reduceNeg, reduceIte, postC, watchC, sll, slSt]
        · intro h hh
          rcases Nat.lt_or_eq_of_le hh with hh1 | hh1
          · have hat := hat h hh1
            have hal := hall h hh1
            have hgs : (states p reads reads.length).getD h default = stRec p (stAt p reads h) := by
              simp [states, List.getD_eq_getElem?_getD, hh1]
            have hgl := states_length (p := p) (reads := reads) (k := reads.length)
            have hlr := hr.len
            have e0 : ((h : Int) + 1).toNat = h + 1 := by omega
            have e1 : ((h : Int) + 1 - 0).toNat = h + 1 := by omega
            generalize states p reads reads.length = L at *
            cases hs : stAt p reads h with
            | none => rw [hs] at hal; cases hal
            | some s =>
              rw [hs] at hat hgs
              simp only [aLo, hHi, hLo, stRec, Option.isSome] at hat hgs
              simp only [postC]; simp (maxSteps := 4000000) only [go_sem, List.append_eq, List.cons_append, List.nil_append, Nat.reduceAdd, Nat.reduceMul, Nat.reduceSub, Nat.reduceLeDiff, Nat.reduceLT, Int.reduceAdd, Int.reduceToNat, Int.reduceLE, Int.reduceLT, Int.reduceNeg, reduceIte, postC, watchC, sll, slSt]
              (repeat' (first
    | (refine awp_seqK ?_)
    | (refine kt ?_)
    | (refine And.intro ?_ ?_)
    | ((first | refine awp_region ?_ | refine awp_draw (by kernel_rfl) (by kernel_rfl) ?_ | refine Imp.le2 ?_ | refine awp_label ?_ | refine awp_skip ?_ | refine awp_exit ?_ | refine awp_cd ?_ | refine awp_ret ?_); simp (maxSteps := 4000000) only [go_sem, List.append_eq, List.cons_append, List.nil_append, Nat.reduceAdd, Nat.reduceMul, Nat.reduceSub, Nat.reduceLeDiff, Nat.reduceLT, Int.reduceAdd, Int.reduceToNat, Int.reduceLE, Int.reduceLT, Int.reduceNeg, reduceIte, postC, watchC, sll, slSt, e0, e1, hgs, hgl, stC, win_rows1])
    | (intro _h)
    | (refine awp_block ?_)
    | (refine awp_scope ?_)
    | ((first | refine callK_of (awake_c) ?_ | refine callK_of (hat) ?_ | refine callK_of (stateEq_c _ _ _ _ _ _) ?_); try simp (maxSteps := 4000000) only [go_sem, List.append_eq, List.cons_append, List.nil_append, Nat.reduceAdd, Nat.reduceMul, Nat.reduceSub, Nat.reduceLeDiff, Nat.reduceLT, Int.reduceAdd, Int.reduceToNat, Int.reduceLE, Int.reduceLT, Int.reduceNeg, reduceIte, postC, watchC, sll, slSt, e0, e1, hgs, hgl, stC, win_rows1])
    | (refine go_split (fun _h => ?_) (fun _h => ?_) <;> simp (maxSteps := 4000000) only [go_sem, List.append_eq, List.cons_append, List.nil_append, Nat.reduceAdd, Nat.reduceMul, Nat.reduceSub, Nat.reduceLeDiff, Nat.reduceLT, Int.reduceAdd, Int.reduceToNat, Int.reduceLE, Int.reduceLT, Int.reduceNeg, reduceIte, postC, watchC, sll, slSt, e0, e1, hgs, hgl, stC, win_rows1])
    | (show heapOK _ _ = true; kernel_rfl)
    | (omega)))
          · simp only [postC]; simp (maxSteps := 4000000) only [go_sem, List.append_eq, List.cons_append, List.nil_append, Nat.reduceAdd, Nat.reduceMul, Nat.reduceSub, Nat.reduceLeDiff, Nat.reduceLT, Int.reduceAdd, Int.reduceToNat, Int.reduceLE, Int.reduceLT, Int.reduceNeg, reduceIte, postC, watchC, sll, slSt]
            (repeat' (first
    | ((exfalso; omega))
    | (refine awp_seqK ?_)
    | (refine kt ?_)
    | (refine And.intro ?_ ?_)
    | ((first | refine awp_region ?_ | refine awp_draw (by kernel_rfl) (by kernel_rfl) ?_ | refine Imp.le2 ?_ | refine awp_label ?_ | refine awp_skip ?_ | refine awp_exit ?_ | refine awp_cd ?_ | refine awp_ret ?_); simp (maxSteps := 4000000) only [go_sem, List.append_eq, List.cons_append, List.nil_append, Nat.reduceAdd, Nat.reduceMul, Nat.reduceSub, Nat.reduceLeDiff, Nat.reduceLT, Int.reduceAdd, Int.reduceToNat, Int.reduceLE, Int.reduceLT, Int.reduceNeg, reduceIte, postC, watchC, sll, slSt])
    | (intro _h)
    | (refine awp_block ?_)
    | (refine awp_scope ?_)
    | ((first | refine callK_of (awake_c) ?_); try simp (maxSteps := 4000000) only [go_sem, List.append_eq, List.cons_append, List.nil_append, Nat.reduceAdd, Nat.reduceMul, Nat.reduceSub, Nat.reduceLeDiff, Nat.reduceLT, Int.reduceAdd, Int.reduceToNat, Int.reduceLE, Int.reduceLT, Int.reduceNeg, reduceIte, postC, watchC, sll, slSt])
    | (refine go_split (fun _h => ?_) (fun _h => ?_) <;> simp (maxSteps := 4000000) only [go_sem, List.append_eq, List.cons_append, List.nil_append, Nat.reduceAdd, Nat.reduceMul, Nat.reduceSub, Nat.reduceLeDiff, Nat.reduceLT, Int.reduceAdd, Int.reduceToNat, Int.reduceLE, Int.reduceLT, Int.reduceNeg, reduceIte, postC, watchC, sll, slSt])
    | (show heapOK _ _ = true; kernel_rfl)
    | (omega)))
      | some k =>
        obtain ⟨b1, b2, b3⟩ := brk_some hbk
        rw [hbk] at k5 k6
        simp only [slSt, postC, sl, sll, states_length, List.length_nil] at k1 k2 k3 k4 k5 k6 k7 k8 hat
        (refine callS_of_awp (fun w args => Try.call7 ..) Try.func7 rfl (fun w0 m0 wz => ?_); simp only [Try.ntmps7, Try.results7, initT, junks, postC, watchC, sll, slSt, sl, List.toList_toArray, List.cons_append, List.nil_append, List.length_cons, List.length_nil, Nat.reduceAdd, Nat.reduceSub])
        (repeat' (first
    | (refine awp_seqK ?_)
    | (refine kt ?_)
    | (refine And.intro ?_ ?_)
    | ((first | refine awp_region ?_ | refine awp_draw (by kernel_rfl) (by kernel_rfl) ?_ | refine Imp.le2 ?_ | refine awp_label ?_ | refine awp_skip ?_ | refine awp_exit ?_ | refine awp_cd ?_ | refine awp_ret ?_); simp (maxSteps := 4000000) only [go_sem, List.append_eq, List.cons_append, List.nil_append, Nat.reduceAdd, Nat.reduceMul, Nat.reduceSub, Nat.reduceLeDiff, Nat.reduceLT, Int.reduceAdd, Int.reduceToNat, Int.reduceLE, Int.reduceLT, Int.reduceNeg, reduceIte, postC, watchC, sll, slSt])
    | (intro _h)
    | (refine awp_block ?_)
    | (refine awp_scope ?_)
    | ((first | refine callK_of (awake_c) ?_ | refine callK_of (k1) ?_ | refine callK_of (k2) ?_ | refine callK_of (k3) ?_ | refine callK_of (k4) ?_ | refine callK_of (k7) ?_ | refine callK_of (k8) ?_ | refine callK_of (k5) ?_ | refine callK_of (k6) ?_); try simp (maxSteps := 4000000) only [go_sem, List.append_eq, List.cons_append, List.nil_append, Nat.reduceAdd, Nat.reduceMul, Nat.reduceSub, Nat.reduceLeDiff, Nat.reduceLT, Int.reduceAdd, Int.reduceToNat, Int.reduceLE, Int.reduceLT, Int.reduceNeg, reduceIte, postC, watchC, sll, slSt])
    | (refine go_split (fun _h => ?_) (fun _h => ?_) <;> simp (maxSteps := 4000000) only [go_sem, List.append_eq, List.cons_append, List.nil_append, Nat.reduceAdd, Nat.reduceMul, Nat.reduceSub, Nat.reduceLeDiff, Nat.reduceLT, Int.reduceAdd, Int.reduceToNat, Int.reduceLE, Int.reduceLT, Int.reduceNeg, reduceIte, postC, watchC, sll, slSt])
    | (show heapOK _ _ = true; kernel_rfl)
    | (omega)))
        refine awp_loopN k (fun h => ⟨mkT 145 [(1, sll reads), (2, .ptr 0 0 0), (6, .psl false 0 (recs stC [])), (7, .int .i64 9), (8, .int .i64 k), (9, .int .i64 0), (10, .int .i64 0), (11, .int .i64 h)], [some (.cells 46 1 0 (postC p))], []⟩) (.le2 ?_) ?_
        · simp only [postC]; simp (maxSteps := 4000000) only [go_sem, List.append_eq, List.cons_append, List.nil_append, Nat.reduceAdd, Nat.reduceMul, Nat.reduceSub, Nat.reduceLeDiff, Nat.reduceLT, Int.reduceAdd, Int.reduceToNat, Int.reduceLE, Int.reduceLT, Int.reduceNeg, reduceIte, postC, watchC, sll, slSt]
        · intro h hh
          have hat := hat h (by omega)
          have hlr := hr.len
          have e0 : ((h : Int) + 1).toNat = h + 1 := by omega
          have e1 : ((h : Int) + 1 - 0).toNat = h + 1 := by omega
          rcases Nat.lt_or_eq_of_le hh with hh1 | hh1
          · have hal := b3 h hh1
            rw [hal] at hat
            simp only [postC]; simp (maxSteps := 4000000) only [go_sem, List.append_eq, List.cons_append, List.nil_append, Nat.reduceAdd, Nat.reduceMul, Nat.reduceSub, Nat.reduceLeDiff, Nat.reduceLT, Int.reduceAdd, Int.reduceToNat, Int.reduceLE, Int.reduceLT, Int.reduceNeg, reduceIte, postC, watchC, sll, slSt]
            (repeat' (first
    | (refine awp_seqK ?_)
    | (refine kt ?_)
    | (refine And.intro ?_ ?_)
    | ((first | refine awp_region ?_ | refine awp_draw (by kernel_rfl) (by kernel_rfl) ?_ | refine Imp.le2 ?_ | refine awp_label ?_ | refine awp_skip ?_ | refine awp_exit ?_ | refine awp_cd ?_ | refine awp_ret ?_); simp (maxSteps := 4000000) only [go_sem, List.append_eq, List.cons_append, List.nil_append, Nat.reduceAdd, Nat.reduceMul, Nat.reduceSub, Nat.reduceLeDiff, Nat.reduceLT, Int.reduceAdd, Int.reduceToNat, Int.reduceLE, Int.reduceLT, Int.reduceNeg, reduceIte, postC, watchC, sll, slSt, e0, e1, win_rows1])
    | (intro _h)
    | (refine awp_block ?_)
    | (refine awp_scope ?_)
    | ((first | refine callK_of (awake_c) ?_ | refine callK_of (hat) ?_); try simp (maxSteps := 4000000) only [go_sem, List.append_eq, List.cons_append, List.nil_append, Nat.reduceAdd, Nat.reduceMul, Nat.reduceSub, Nat.reduceLeDiff, Nat.reduceLT, Int.reduceAdd, Int.reduceToNat, Int.reduceLE, Int.reduceLT, Int.reduceNeg, reduceIte, postC, watchC, sll, slSt, e0, e1, win_rows1])
    | (refine go_split (fun _h => ?_) (fun _h => ?_) <;> simp (maxSteps := 4000000) only [go_sem, List.append_eq, List.cons_append, List.nil_append, Nat.reduceAdd, Nat.reduceMul, Nat.reduceSub, Nat.reduceLeDiff, Nat.reduceLT, Int.reduceAdd, Int.reduceToNat, Int.reduceLE, Int.reduceLT, Int.reduceNeg, reduceIte, postC, watchC, sll, slSt, e0, e1, win_rows1])
    | (show heapOK _ _ = true; kernel_rfl)
    | (omega)))
          · rw [hh1, b2] at hat
            simp only [Option.isSome] at hat
            simp only [postC]; simp (maxSteps := 4000000) only [go_sem, List.append_eq, List.cons_append, List.nil_append, Nat.reduceAdd, Nat.reduceMul, Nat.reduceSub, Nat.reduceLeDiff, Nat.reduceLT, Int.reduceAdd, Int.reduceToNat, Int.reduceLE, Int.reduceLT, Int.reduceNeg, reduceIte, postC, watchC, sll, slSt]
            (repeat' (first
    | ((rw [hh1]))
    | (refine awp_seqK ?_)
    | (refine kt ?_)
    | (refine And.intro ?_ ?_)
    | ((first | refine awp_region ?_ | refine awp_draw (by kernel_rfl) (by kernel_rfl) ?_ | refine Imp.le2 ?_ | refine awp_label ?_ | refine awp_skip ?_ | refine awp_exit ?_ | refine awp_cd ?_ | refine awp_ret ?_); simp (maxSteps := 4000000) only [go_sem, List.append_eq, List.cons_append, List.nil_append, Nat.reduceAdd, Nat.reduceMul, Nat.reduceSub, Nat.reduceLeDiff, Nat.reduceLT, Int.reduceAdd, Int.reduceToNat, Int.reduceLE, Int.reduceLT, Int.reduceNeg, reduceIte, postC, watchC, sll, slSt, e0, e1, win_rows1])
    | (intro _h)
    | (refine awp_block ?_)
    | (refine awp_scope ?_)
    | ((first | refine callK_of (awake_c) ?_ | refine callK_of (hat) ?_); try simp (maxSteps := 4000000) only [go_sem, List.append_eq, List.cons_append, List.nil_append, Nat.reduceAdd, Nat.reduceMul, Nat.reduceSub, Nat.reduceLeDiff, Nat.reduceLT, Int.reduceAdd, Int.reduceToNat, Int.reduceLE, Int.reduceLT, Int.reduceNeg, reduceIte, postC, watchC, sll, slSt, e0, e1, win_rows1])
    | (refine go_split (fun _h => ?_) (fun _h => ?_) <;> simp (maxSteps := 4000000) only [go_sem, List.append_eq, List.cons_append, List.nil_append, Nat.reduceAdd, Nat.reduceMul, Nat.reduceSub, Nat.reduceLeDiff, Nat.reduceLT, Int.reduceAdd, Int.reduceToNat, Int.reduceLE, Int.reduceLT, Int.reduceNeg, reduceIte, postC, watchC, sll, slSt, e0, e1, win_rows1])
    | (show heapOK _ _ = true; kernel_rfl)
    | (omega)))
    · unfold levelsL levelsE at k5
      unfold breaksN breaksE at k6
      rw [if_neg hf, if_neg hf] at k5 k6
      simp only [slSt, postC, sl, sll, List.length_nil] at k1 k2 k3 k4 k5 k6 k7 k8
      have hff : faultP p reads = if postB p = false then 1 else faultP p reads := by unfold faultP; split <;> simp_all
      generalize faultP p reads = f at *
      cases hpb : postB p
      · rw [hpb] at k3 k4
        rw [if_neg (by simp)] at k4
        (refine callS_of_awp (fun w args => Try.call7 ..) Try.func7 rfl (fun w0 m0 wz => ?_); simp only [Try.ntmps7, Try.results7, initT, junks, postC, watchC, sll, slSt, sl, List.toList_toArray, List.cons_append, List.nil_append, List.length_cons, List.length_nil, Nat.reduceAdd, Nat.reduceSub])
        (repeat' (first
    | (refine awp_seqK ?_)
    | (refine kt ?_)
    | (refine And.intro ?_ ?_)
    | ((first | refine awp_region ?_ | refine awp_draw (by kernel_rfl) (by kernel_rfl) ?_ | refine Imp.le2 ?_ | refine awp_label ?_ | refine awp_skip ?_ | refine awp_exit ?_ | refine awp_cd ?_ | refine awp_ret ?_); simp (maxSteps := 4000000) only [go_sem, List.append_eq, List.cons_append, List.nil_append, Nat.reduceAdd, Nat.reduceMul, Nat.reduceSub, Nat.reduceLeDiff, Nat.reduceLT, Int.reduceAdd, Int.reduceToNat, Int.reduceLE, Int.reduceLT, Int.reduceNeg, reduceIte, postC, watchC, sll, slSt])
    | (intro _h)
    | (refine awp_block ?_)
    | (refine awp_scope ?_)
    | ((first | refine callK_of (awake_c) ?_ | refine callK_of (k1) ?_ | refine callK_of (k2) ?_ | refine callK_of (k3) ?_ | refine callK_of (k4) ?_ | refine callK_of (k7) ?_ | refine callK_of (k8) ?_ | refine callK_of (k5) ?_ | refine callK_of (k6) ?_); try simp (maxSteps := 4000000) only [go_sem, List.append_eq, List.cons_append, List.nil_append, Nat.reduceAdd, Nat.reduceMul, Nat.reduceSub, Nat.reduceLeDiff, Nat.reduceLT, Int.reduceAdd, Int.reduceToNat, Int.reduceLE, Int.reduceLT, Int.reduceNeg, reduceIte, postC, watchC, sll, slSt])
    | (refine go_split (fun _h => ?_) (fun _h => ?_) <;> simp (maxSteps := 4000000) only [go_sem, List.append_eq, List.cons_append, List.nil_append, Nat.reduceAdd, Nat.reduceMul, Nat.reduceSub, Nat.reduceLeDiff, Nat.reduceLT, Int.reduceAdd, Int.reduceToNat, Int.reduceLE, Int.reduceLT, Int.reduceNeg, reduceIte, postC, watchC, sll, slSt])
    | (show heapOK _ _ = true; kernel_rfl)
    | (omega)))
        all_goals first | rfl | contradiction | trace_state
      · rw [hpb] at k3 k4
        rw [if_pos rfl] at k4
        (refine callS_of_awp (fun w args => Try.call7 ..) Try.func7 rfl (fun w0 m0 wz => ?_); simp only [Try.ntmps7, Try.results7, initT, junks, postC, watchC, sll, slSt, sl, List.toList_toArray, List.cons_append, List.nil_append, List.length_cons, List.length_nil, Nat.reduceAdd, Nat.reduceSub])
        (repeat' (first
    | (refine awp_seqK ?_)
    | (refine kt ?_)
    | (refine And.intro ?_ ?_)
    | ((first | refine awp_region ?_ | refine awp_draw (by kernel_rfl) (by kernel_rfl) ?_ | refine Imp.le2 ?_ | refine awp_label ?_ | refine awp_skip ?_ | refine awp_exit ?_ | refine awp_cd ?_ | refine awp_ret ?_); simp (maxSteps := 4000000) only [go_sem, List.append_eq, List.cons_append, List.nil_append, Nat.reduceAdd, Nat.reduceMul, Nat.reduceSub, Nat.reduceLeDiff, Nat.reduceLT, Int.reduceAdd, Int.reduceToNat, Int.reduceLE, Int.reduceLT, Int.reduceNeg, reduceIte, postC, watchC, sll, slSt])
    | (intro _h)
    | (refine awp_block ?_)
    | (refine awp_scope ?_)
    | ((first | refine callK_of (awake_c) ?_ | refine callK_of (k1) ?_ | refine callK_of (k2) ?_ | refine callK_of (k3) ?_ | refine callK_of (k4) ?_ | refine callK_of (k7) ?_ | refine callK_of (k8) ?_ | refine callK_of (k5) ?_ | refine callK_of (k6) ?_); try simp (maxSteps := 4000000) only [go_sem, List.append_eq, List.cons_append, List.nil_append, Nat.reduceAdd, Nat.reduceMul, Nat.reduceSub, Nat.reduceLeDiff, Nat.reduceLT, Int.reduceAdd, Int.reduceToNat, Int.reduceLE, Int.reduceLT, Int.reduceNeg, reduceIte, postC, watchC, sll, slSt])
    | (refine go_split (fun _h => ?_) (fun _h => ?_) <;> simp (maxSteps := 4000000) only [go_sem, List.append_eq, List.cons_append, List.nil_append, Nat.reduceAdd, Nat.reduceMul, Nat.reduceSub, Nat.reduceLeDiff, Nat.reduceLT, Int.reduceAdd, Int.reduceToNat, Int.reduceLE, Int.reduceLT, Int.reduceNeg, reduceIte, postC, watchC, sll, slSt])
    | (show heapOK _ _ = true; kernel_rfl)
    | (omega)))
        all_goals first | rfl | contradiction | trace_state
end Go.Am

/- The law AlarmFails, as a contract: it returns true. -/
namespace Go.Am
open Go.RowKit Go.Proofs
attribute [local irreducible] AWP CallS Kt goK CallK stepK evOps SemF SemY Imp
set_option maxRecDepth 4000
set_option linter.unusedSimpArgs false
set_option linter.unusedVariables false
set_option maxHeartbeats 1600000

theorem any_may {p : Post} {reads : List (List Int)} {f : Int} {k : Nat} : (mayL p reads f k).any id = (gAt p reads k f).isSome := by
  cases hg : gAt p reads k f with
  | none =>
    simp only [Option.isSome, List.any_eq_false]
    intro x hx
    simp only [mayL, hg, tab, List.mem_map, inE] at hx
    obtain ⟨_, _, rfl⟩ := hx
    simp
  | some x =>
    have hx := gAt_ok k f x hg
    simp only [Option.isSome, List.any_eq_true]
    refine ⟨true, ?_, rfl⟩
    simp only [mayL, hg, tab, List.mem_map, List.mem_range, inE]
    exact ⟨x.1.toNat, by omega, decide_eq_true (by omega)⟩
theorem hull_none {g : Int → Option (Int × Int)} : ∀ n, hull g n = none ↔ ∀ i : Nat, i < n → g ((i : Int) - 1) = none
  | 0 => by simp [hull]
  | n + 1 => by
    simp only [hull]
    cases hg : g ((n : Int) - 1) with
    | none =>
      simp only
      rw [hull_none n]
      exact ⟨fun h i hi => by
        rcases Nat.lt_or_eq_of_le (Nat.le_of_lt_succ hi) with h1 | h1
        · exact h i h1
        · subst h1; exact hg, fun h i hi => h i (by omega)⟩
    | some x =>
      simp only [reduceCtorEq, false_iff]
      intro h
      rw [h n (by omega)] at hg; cases hg
theorem flist_nil {g : Int → Option (Int × Int)} : ∀ n, flist g n = [] ↔ hull g n = none
  | 0 => by simp [flist, hull]
  | n + 1 => by
    simp only [flist, hull]
    cases g ((n : Int) - 1) with
    | none => exact flist_nil n
    | some x => simp
theorem gAt_none {p : Post} {reads : List (List Int)} {f : Int} {k : Nat} (h : gAt p reads k f = none) : ∀ m, gAt p reads (k + m) f = none
  | 0 => h
  | m + 1 => by
    show stepG p _ _ (gAt p reads (k + m)) f = none
    simp [stepG, gAt_none h m]
/-- Whether a post breaks is seen in the end. -/
theorem brk_end {p : Post} {reads : List (List Int)} : (brk p reads).isSome = (hull (gAt p reads reads.length) (p.errs.length + 1)).isNone := by
  cases hb : brk p reads with
  | none =>
    have := brk_none hb
    cases hl : reads.length with
    | zero =>
      have : ¬ hull (gAt p reads 0) (p.errs.length + 1) = none := by
        rw [hull_none]
        intro h
        have := h 0 (by omega)
        simp [gAt] at this
      cases hh : hull (gAt p reads 0) (p.errs.length + 1) with
      | none => exact absurd hh this
      | some x => rfl
    | succ n =>
      have h1 := this n (by omega)
      unfold stAt at h1
      cases hh : hull (gAt p reads (n + 1)) (p.errs.length + 1) with
      | none => rw [hh] at h1; cases h1
      | some x => rfl
  | some k =>
    obtain ⟨h1, h2, _⟩ := brk_some hb
    unfold stAt at h2
    rw [hull_none] at h2
    have : hull (gAt p reads reads.length) (p.errs.length + 1) = none := by
      rw [hull_none]
      intro i hi
      have := gAt_none (h2 i hi) (reads.length - (k + 1))
      rwa [show k + 1 + (reads.length - (k + 1)) = reads.length by omega] at this
    rw [this]; rfl

theorem alarmFails_c (p : Post) (reads : List (List Int)) (f : Int) (sp : List Int) (hb : InB p reads) (hs : sp.length ≤ 9223372036854775807) : CallS Try.prog 8 [.agg (postC p), sll reads, .int .i64 f, sl sp] (.bool true) := by
  have k1 := few_c p reads hb
  have k2 := fault_c p reads hb
  have k3 := failed_c p reads hb
  have k4 := prove_c p reads f sp hb hs
  cases hfew : fewB p reads
  · rw [hfew] at k1
    simp only [postC, sl, sll] at k1
    (refine callS_of_awp (fun w args => Try.call8 ..) Try.func8 rfl (fun w0 m0 wz => ?_); simp only [Try.ntmps8, Try.results8, initT, junks, postC, watchC, sll, slSt, sl, List.toList_toArray, List.cons_append, List.nil_append, List.length_cons, List.length_nil, Nat.reduceAdd, Nat.reduceSub])
    (repeat' (first
    | (refine awp_seqK ?_)
    | (refine kt ?_)
    | (refine And.intro ?_ ?_)
    | ((first | refine awp_region ?_ | refine awp_draw (by kernel_rfl) (by kernel_rfl) ?_ | refine Imp.le2 ?_ | refine awp_label ?_ | refine awp_skip ?_ | refine awp_exit ?_ | refine awp_cd ?_ | refine awp_ret ?_); simp (maxSteps := 4000000) only [go_sem, List.append_eq, List.cons_append, List.nil_append, Nat.reduceAdd, Nat.reduceMul, Nat.reduceSub, Nat.reduceLeDiff, Nat.reduceLT, Int.reduceAdd, Int.reduceToNat, Int.reduceLE, Int.reduceLT, Int.reduceNeg, reduceIte, postC, watchC, sll, slSt])
    | (intro _h)
    | (refine awp_block ?_)
    | (refine awp_scope ?_)
    | ((first | refine callK_of (awake_c) ?_ | refine callK_of (k1) ?_); try simp (maxSteps := 4000000) only [go_sem, List.append_eq, List.cons_append, List.nil_append, Nat.reduceAdd, Nat.reduceMul, Nat.reduceSub, Nat.reduceLeDiff, Nat.reduceLT, Int.reduceAdd, Int.reduceToNat, Int.reduceLE, Int.reduceLT, Int.reduceNeg, reduceIte, postC, watchC, sll, slSt])
    | (refine go_split (fun _h => ?_) (fun _h => ?_) <;> simp (maxSteps := 4000000) only [go_sem, List.append_eq, List.cons_append, List.nil_append, Nat.reduceAdd, Nat.reduceMul, Nat.reduceSub, Nat.reduceLeDiff, Nat.reduceLT, Int.reduceAdd, Int.reduceToNat, Int.reduceLE, Int.reduceLT, Int.reduceNeg, reduceIte, postC, watchC, sll, slSt])
    | (show heapOK _ _ = true; kernel_rfl)
    | (omega)))
  · rw [hfew] at k1
    have hth : thinB p reads = true := by unfold fewB at hfew; rw [Bool.and_eq_true] at hfew; exact hfew.1
    obtain ⟨t1, t2, t3⟩ := thinB_true hth
    have k7 := Post_c p (by omega)
    have k8 := rows_c reads (by omega) (fun i hi => by have := t3 i hi; omega)
    have k9 := fun h : sp.length ≤ 65 => list_c sp (by omega)
    by_cases hf : faultP p reads = 0
    · obtain ⟨hp, hr⟩ := faultP_zero hf
      have kr := refTruth_c p reads f sp hf hs
      have km := fun f => may_c p reads f hp hr
      have ka := fun f => any_c (mayL p reads f reads.length) (by rw [mayL_length]; omega)
      simp only [any_may, mayL_length] at ka
      have hpl := hp.len
      rw [hf] at k2
      have hbe := brk_end (p := p) (reads := reads)
      have hfn := flist_nil (g := gAt p reads reads.length) (p.errs.length + 1)
      have hfl := flist_le (g := gAt p reads reads.length)
      have ki := ints_c (flist (gAt p reads reads.length) (p.errs.length + 1)) (flist (gAt p reads reads.length) (p.errs.length + 1)) (by have := hfl (p.errs.length + 1); omega)
      have hres : (failedL p reads = flist (gAt p reads reads.length) (p.errs.length + 1) ∧ levelsE p reads = 0 ∧ flist (gAt p reads reads.length) (p.errs.length + 1) ≠ []) ∨ (failedL p reads = [] ∧ levelsE p reads = 9 ∧ flist (gAt p reads reads.length) (p.errs.length + 1) = []) := by
        unfold failedL levelsE
        rw [if_pos hf, if_pos hf]
        cases hbk : brk p reads with
        | none => rw [hbk] at hbe; exact .inl ⟨rfl, rfl, fun h => by rw [hfn.1 h] at hbe; cases hbe⟩
        | some k =>
          rw [hbk] at hbe
          refine .inr ⟨rfl, rfl, hfn.2 ?_⟩
          cases hh : hull (gAt p reads reads.length) (p.errs.length + 1) with
          | none => rfl
          | some x => rw [hh] at hbe; cases hbe
      clear hbe hfn
      have hsu : ∀ i : Nat, flist (gAt p reads reads.length) (i + 1) = match gAt p reads reads.length ((i : Int) - 1) with | none => flist (gAt p reads reads.length) i | some _ => flist (gAt p reads reads.length) i ++ [(i : Int) - 1] := fun _ => rfl
      generalize proveB p reads f sp = pb at *
      generalize failedL p reads = F at *
      generalize levelsE p reads = E at *
      simp only [postC, sl, sll, decide_true] at k1 k2 k3 k4 k7 k8 k9 kr km ki
      (refine callS_of_awp (fun w args => Try.call8 ..) Try.func8 rfl (fun w0 m0 wz => ?_); simp only [Try.ntmps8, Try.results8, initT, junks, postC, watchC, sll, slSt, sl, List.toList_toArray, List.cons_append, List.nil_append, List.length_cons, List.length_nil, Nat.reduceAdd, Nat.reduceSub])
      (repeat' (first
    | (refine awp_seqK ?_)
    | (refine kt ?_)
    | (refine And.intro ?_ ?_)
    | ((first | refine awp_region ?_ | refine awp_draw (by kernel_rfl) (by kernel_rfl) ?_ | refine Imp.le2 ?_ | refine awp_label ?_ | refine awp_skip ?_ | refine awp_exit ?_ | refine awp_cd ?_ | refine awp_ret ?_); simp (maxSteps := 4000000) only [go_sem, List.append_eq, List.cons_append, List.nil_append, Nat.reduceAdd, Nat.reduceMul, Nat.reduceSub, Nat.reduceLeDiff, Nat.reduceLT, Int.reduceAdd, Int.reduceToNat, Int.reduceLE, Int.reduceLT, Int.reduceNeg, reduceIte, postC, watchC, sll, slSt])
    | (intro _h)
    | (refine awp_block ?_)
    | (refine awp_scope ?_)
    | ((first | refine callK_of (awake_c) ?_ | refine callK_of (k1) ?_ | refine callK_of (k2) ?_ | refine callK_of (k7) ?_ | refine callK_of (k8) ?_ | refine callK_of (k9 (by omega)) ?_ | refine callK_of (k3) ?_ | refine callK_of (k4) ?_ | refine callK_of (kr) ?_); try simp (maxSteps := 4000000) only [go_sem, List.append_eq, List.cons_append, List.nil_append, Nat.reduceAdd, Nat.reduceMul, Nat.reduceSub, Nat.reduceLeDiff, Nat.reduceLT, Int.reduceAdd, Int.reduceToNat, Int.reduceLE, Int.reduceLT, Int.reduceNeg, reduceIte, postC, watchC, sll, slSt])
    | (refine go_split (fun _h => ?_) (fun _h => ?_) <;> simp (maxSteps := 4000000) only [go_sem, List.append_eq, List.cons_append, List.nil_append, Nat.reduceAdd, Nat.reduceMul, Nat.reduceSub, Nat.reduceLeDiff, Nat.reduceLT, Int.reduceAdd, Int.reduceToNat, Int.reduceLE, Int.reduceLT, Int.reduceNeg, reduceIte, postC, watchC, sll, slSt])
    | (show heapOK _ _ = true; kernel_rfl)
    | (omega)))
      all_goals first
        | (simp_all; done)
        | skip
      all_goals (
        (refine awp_adT 13 3 1 rfl ?_; simp only [adT, lset, hset, List.length_cons, List.length_nil, Nat.reduceAdd])
        refine awp_loopN (p.errs.length + 1) (fun i => ⟨mkT 99 [(1, sll reads), (2, .int .i64 f), (3, sl sp), (4, .ptr 0 0 0), (9, sl F), (10, .int .i64 E), (12, .int .i64 0), (13, .osl 1 (flist (gAt p reads reads.length) i).length 0 (flist (gAt p reads reads.length) i).length), (14, .int .i64 ((i : Int) - 1))], [some (.cells 46 1 0 (postC p)), some (.cells 3 1 (flist (gAt p reads reads.length) i).length (ints (flist (gAt p reads reads.length) i)))], []⟩) (.le2 ?_) ?_
        · simp only [postC, flist]; simp (maxSteps := 4000000) only [go_sem, List.append_eq, List.cons_append, List.nil_append, Nat.reduceAdd, Nat.reduceMul, Nat.reduceSub, Nat.reduceLeDiff, Nat.reduceLT, Int.reduceAdd, Int.reduceToNat, Int.reduceLE, Int.reduceLT, Int.reduceNeg, reduceIte, postC, watchC, sll, slSt]
          rfl
        · intro i hi
          have km := km ((i : Int) - 1)
          have ka := ka ((i : Int) - 1)
          have hsu := hsu i
          have hfl := hfl i
          rcases Nat.lt_or_eq_of_le hi with hi1 | hi1
          · cases hg : gAt p reads reads.length ((i : Int) - 1) with
            | none =>
              rw [hg] at ka hsu
              simp only [Option.isSome] at ka hsu
              simp only [postC]; simp (maxSteps := 4000000) only [go_sem, List.append_eq, List.cons_append, List.nil_append, Nat.reduceAdd, Nat.reduceMul, Nat.reduceSub, Nat.reduceLeDiff, Nat.reduceLT, Int.reduceAdd, Int.reduceToNat, Int.reduceLE, Int.reduceLT, Int.reduceNeg, reduceIte, postC, watchC, sll, slSt]
              (repeat' (first
    | (refine awp_seqK ?_)
    | (refine kt ?_)
    | (refine And.intro ?_ ?_)
    | ((first | refine awp_region ?_ | refine awp_draw (by kernel_rfl) (by kernel_rfl) ?_ | refine Imp.le2 ?_ | refine awp_label ?_ | refine awp_skip ?_ | refine awp_exit ?_ | refine awp_cd ?_ | refine awp_ret ?_); simp (maxSteps := 4000000) only [go_sem, List.append_eq, List.cons_append, List.nil_append, Nat.reduceAdd, Nat.reduceMul, Nat.reduceSub, Nat.reduceLeDiff, Nat.reduceLT, Int.reduceAdd, Int.reduceToNat, Int.reduceLE, Int.reduceLT, Int.reduceNeg, reduceIte, postC, watchC, sll, slSt])
    | (intro _h)
    | (refine awp_block ?_)
    | (refine awp_scope ?_)
    | ((first | refine callK_of (km) ?_ | refine callK_of (ka) ?_); try simp (maxSteps := 4000000) only [go_sem, List.append_eq, List.cons_append, List.nil_append, Nat.reduceAdd, Nat.reduceMul, Nat.reduceSub, Nat.reduceLeDiff, Nat.reduceLT, Int.reduceAdd, Int.reduceToNat, Int.reduceLE, Int.reduceLT, Int.reduceNeg, reduceIte, postC, watchC, sll, slSt])
    | (refine go_split (fun _h => ?_) (fun _h => ?_) <;> simp (maxSteps := 4000000) only [go_sem, List.append_eq, List.cons_append, List.nil_append, Nat.reduceAdd, Nat.reduceMul, Nat.reduceSub, Nat.reduceLeDiff, Nat.reduceLT, Int.reduceAdd, Int.reduceToNat, Int.reduceLE, Int.reduceLT, Int.reduceNeg, reduceIte, postC, watchC, sll, slSt])
    | (show heapOK _ _ = true; kernel_rfl)
    | (omega)))
              all_goals (rw [hsu])
            | some x =>
              rw [hg] at ka hsu
              simp only [Option.isSome] at ka hsu
              simp only [postC]; simp (maxSteps := 4000000) only [go_sem, List.append_eq, List.cons_append, List.nil_append, Nat.reduceAdd, Nat.reduceMul, Nat.reduceSub, Nat.reduceLeDiff, Nat.reduceLT, Int.reduceAdd, Int.reduceToNat, Int.reduceLE, Int.reduceLT, Int.reduceNeg, reduceIte, postC, watchC, sll, slSt]
              (repeat' (first
    | (refine awp_seqK ?_)
    | (refine kt ?_)
    | (refine And.intro ?_ ?_)
    | ((first | refine awp_region ?_ | refine awp_draw (by kernel_rfl) (by kernel_rfl) ?_ | refine Imp.le2 ?_ | refine awp_label ?_ | refine awp_skip ?_ | refine awp_exit ?_ | refine awp_cd ?_ | refine awp_ret ?_); simp (maxSteps := 4000000) only [go_sem, List.append_eq, List.cons_append, List.nil_append, Nat.reduceAdd, Nat.reduceMul, Nat.reduceSub, Nat.reduceLeDiff, Nat.reduceLT, Int.reduceAdd, Int.reduceToNat, Int.reduceLE, Int.reduceLT, Int.reduceNeg, reduceIte, postC, watchC, sll, slSt])
    | (intro _h)
    | (refine awp_block ?_)
    | (refine awp_scope ?_)
    | ((first | refine callK_of (km) ?_ | refine callK_of (ka) ?_); try simp (maxSteps := 4000000) only [go_sem, List.append_eq, List.cons_append, List.nil_append, Nat.reduceAdd, Nat.reduceMul, Nat.reduceSub, Nat.reduceLeDiff, Nat.reduceLT, Int.reduceAdd, Int.reduceToNat, Int.reduceLE, Int.reduceLT, Int.reduceNeg, reduceIte, postC, watchC, sll, slSt])
    | (refine go_split (fun _h => ?_) (fun _h => ?_) <;> simp (maxSteps := 4000000) only [go_sem, List.append_eq, List.cons_append, List.nil_append, Nat.reduceAdd, Nat.reduceMul, Nat.reduceSub, Nat.reduceLeDiff, Nat.reduceLT, Int.reduceAdd, Int.reduceToNat, Int.reduceLE, Int.reduceLT, Int.reduceNeg, reduceIte, postC, watchC, sll, slSt])
    | (show heapOK _ _ = true; kernel_rfl)
    | (omega)))
              all_goals (rw [hsu]; simp [ints_append, ints_cons, ints_nil]; done)
          · rw [hi1]
            generalize flist (gAt p reads reads.length) (p.errs.length + 1) = L at *
            rcases hres with ⟨r1, r2, r3⟩ | ⟨r1, r2, r3⟩
            · have hne : ¬ L.length = 0 := fun h => r3 (List.eq_nil_of_length_eq_zero h)
              subst r1; subst r2
              simp only [postC]; simp (maxSteps := 4000000) only [go_sem, List.append_eq, List.cons_append, List.nil_append, Nat.reduceAdd, Nat.reduceMul, Nat.reduceSub, Nat.reduceLeDiff, Nat.reduceLT, Int.reduceAdd, Int.reduceToNat, Int.reduceLE, Int.reduceLT, Int.reduceNeg, reduceIte, postC, watchC, sll, slSt]
              (refine awp_frz 1 rfl (by simp (maxSteps := 4000000) only [go_sem, List.append_eq, List.cons_append, List.nil_append, Nat.reduceAdd, Nat.reduceMul, Nat.reduceSub, Nat.reduceLeDiff, Nat.reduceLT, Int.reduceAdd, Int.reduceToNat, Int.reduceLE, Int.reduceLT, Int.reduceNeg, reduceIte, postC, watchC, sll, slSt]) (fun _ => rfl) ?_; simp only [frz, fzl, fz2, fz1, fz0, fzH, fzHs, fzO, fzB, List.map_cons, List.map_nil, if_true, if_false, reduceIte, Nat.reduceEqDiff, Nat.reduceAdd, Nat.succ_ne_self, Nat.zero_ne_one, Nat.one_ne_zero, reduceCtorEq, and_self])
              (repeat' (first
    | ((exfalso; omega))
    | (refine awp_seqK ?_)
    | (refine kt ?_)
    | (refine And.intro ?_ ?_)
    | ((first | refine awp_region ?_ | refine awp_draw (by kernel_rfl) (by kernel_rfl) ?_ | refine Imp.le2 ?_ | refine awp_label ?_ | refine awp_skip ?_ | refine awp_exit ?_ | refine awp_cd ?_ | refine awp_ret ?_); simp (maxSteps := 4000000) only [go_sem, List.append_eq, List.cons_append, List.nil_append, Nat.reduceAdd, Nat.reduceMul, Nat.reduceSub, Nat.reduceLeDiff, Nat.reduceLT, Int.reduceAdd, Int.reduceToNat, Int.reduceLE, Int.reduceLT, Int.reduceNeg, reduceIte, postC, watchC, sll, slSt])
    | (intro _h)
    | (refine awp_block ?_)
    | (refine awp_scope ?_)
    | ((first | refine callK_of (awake_c) ?_ | refine callK_of (ki) ?_); try simp (maxSteps := 4000000) only [go_sem, List.append_eq, List.cons_append, List.nil_append, Nat.reduceAdd, Nat.reduceMul, Nat.reduceSub, Nat.reduceLeDiff, Nat.reduceLT, Int.reduceAdd, Int.reduceToNat, Int.reduceLE, Int.reduceLT, Int.reduceNeg, reduceIte, postC, watchC, sll, slSt])
    | (refine go_split (fun _h => ?_) (fun _h => ?_) <;> simp (maxSteps := 4000000) only [go_sem, List.append_eq, List.cons_append, List.nil_append, Nat.reduceAdd, Nat.reduceMul, Nat.reduceSub, Nat.reduceLeDiff, Nat.reduceLT, Int.reduceAdd, Int.reduceToNat, Int.reduceLE, Int.reduceLT, Int.reduceNeg, reduceIte, postC, watchC, sll, slSt])
    | (show heapOK _ _ = true; kernel_rfl)
    | (omega)))
              all_goals trace_state
            · have hne : L.length = 0 := by rw [r3]; rfl
              have hnf : F.length = 0 := by rw [r1]; rfl
              subst r2
              simp only [postC]; simp (maxSteps := 4000000) only [go_sem, List.append_eq, List.cons_append, List.nil_append, Nat.reduceAdd, Nat.reduceMul, Nat.reduceSub, Nat.reduceLeDiff, Nat.reduceLT, Int.reduceAdd, Int.reduceToNat, Int.reduceLE, Int.reduceLT, Int.reduceNeg, reduceIte, postC, watchC, sll, slSt]
              (refine awp_frz 1 rfl (by simp (maxSteps := 4000000) only [go_sem, List.append_eq, List.cons_append, List.nil_append, Nat.reduceAdd, Nat.reduceMul, Nat.reduceSub, Nat.reduceLeDiff, Nat.reduceLT, Int.reduceAdd, Int.reduceToNat, Int.reduceLE, Int.reduceLT, Int.reduceNeg, reduceIte, postC, watchC, sll, slSt]) (fun _ => rfl) ?_; simp only [frz, fzl, fz2, fz1, fz0, fzH, fzHs, fzO, fzB, List.map_cons, List.map_nil, if_true, if_false, reduceIte, Nat.reduceEqDiff, Nat.reduceAdd, Nat.succ_ne_self, Nat.zero_ne_one, Nat.one_ne_zero, reduceCtorEq, and_self])
              (repeat' (first
    | ((exfalso; omega))
    | (refine awp_seqK ?_)
    | (refine kt ?_)
    | (refine And.intro ?_ ?_)
    | ((first | refine awp_region ?_ | refine awp_draw (by kernel_rfl) (by kernel_rfl) ?_ | refine Imp.le2 ?_ | refine awp_label ?_ | refine awp_skip ?_ | refine awp_exit ?_ | refine awp_cd ?_ | refine awp_ret ?_); simp (maxSteps := 4000000) only [go_sem, List.append_eq, List.cons_append, List.nil_append, Nat.reduceAdd, Nat.reduceMul, Nat.reduceSub, Nat.reduceLeDiff, Nat.reduceLT, Int.reduceAdd, Int.reduceToNat, Int.reduceLE, Int.reduceLT, Int.reduceNeg, reduceIte, postC, watchC, sll, slSt])
    | (intro _h)
    | (refine awp_block ?_)
    | (refine awp_scope ?_)
    | ((first | refine callK_of (awake_c) ?_ | refine callK_of (ki) ?_); try simp (maxSteps := 4000000) only [go_sem, List.append_eq, List.cons_append, List.nil_append, Nat.reduceAdd, Nat.reduceMul, Nat.reduceSub, Nat.reduceLeDiff, Nat.reduceLT, Int.reduceAdd, Int.reduceToNat, Int.reduceLE, Int.reduceLT, Int.reduceNeg, reduceIte, postC, watchC, sll, slSt])
    | (refine go_split (fun _h => ?_) (fun _h => ?_) <;> simp (maxSteps := 4000000) only [go_sem, List.append_eq, List.cons_append, List.nil_append, Nat.reduceAdd, Nat.reduceMul, Nat.reduceSub, Nat.reduceLeDiff, Nat.reduceLT, Int.reduceAdd, Int.reduceToNat, Int.reduceLE, Int.reduceLT, Int.reduceNeg, reduceIte, postC, watchC, sll, slSt])
    | (show heapOK _ _ = true; kernel_rfl)
    | (omega)))
              all_goals trace_state)
    · have e1 : failedL p reads = [] := by unfold failedL; rw [if_neg hf]
      have e2 : levelsE p reads = faultP p reads := by unfold levelsE; rw [if_neg hf]
      have e3 : proveB p reads f sp = false := decide_eq_false fun h => hf h.1
      rw [e1, e2] at k3
      rw [e3] at k4
      simp only [postC, sl, sll, List.length_nil] at k1 k2 k3 k4 k7 k8 k9
      generalize faultP p reads = ff at *
      (refine callS_of_awp (fun w args => Try.call8 ..) Try.func8 rfl (fun w0 m0 wz => ?_); simp only [Try.ntmps8, Try.results8, initT, junks, postC, watchC, sll, slSt, sl, List.toList_toArray, List.cons_append, List.nil_append, List.length_cons, List.length_nil, Nat.reduceAdd, Nat.reduceSub])
      (repeat' (first
    | (refine awp_seqK ?_)
    | (refine kt ?_)
    | (refine And.intro ?_ ?_)
    | ((first | refine awp_region ?_ | refine awp_draw (by kernel_rfl) (by kernel_rfl) ?_ | refine Imp.le2 ?_ | refine awp_label ?_ | refine awp_skip ?_ | refine awp_exit ?_ | refine awp_cd ?_ | refine awp_ret ?_); simp (maxSteps := 4000000) only [go_sem, List.append_eq, List.cons_append, List.nil_append, Nat.reduceAdd, Nat.reduceMul, Nat.reduceSub, Nat.reduceLeDiff, Nat.reduceLT, Int.reduceAdd, Int.reduceToNat, Int.reduceLE, Int.reduceLT, Int.reduceNeg, reduceIte, postC, watchC, sll, slSt])
    | (intro _h)
    | (refine awp_block ?_)
    | (refine awp_scope ?_)
    | ((first | refine callK_of (awake_c) ?_ | refine callK_of (k1) ?_ | refine callK_of (k2) ?_ | refine callK_of (k7) ?_ | refine callK_of (k8) ?_ | refine callK_of (k9 (by omega)) ?_ | refine callK_of (k3) ?_ | refine callK_of (k4) ?_); try simp (maxSteps := 4000000) only [go_sem, List.append_eq, List.cons_append, List.nil_append, Nat.reduceAdd, Nat.reduceMul, Nat.reduceSub, Nat.reduceLeDiff, Nat.reduceLT, Int.reduceAdd, Int.reduceToNat, Int.reduceLE, Int.reduceLT, Int.reduceNeg, reduceIte, postC, watchC, sll, slSt])
    | (refine go_split (fun _h => ?_) (fun _h => ?_) <;> simp (maxSteps := 4000000) only [go_sem, List.append_eq, List.cons_append, List.nil_append, Nat.reduceAdd, Nat.reduceMul, Nat.reduceSub, Nat.reduceLeDiff, Nat.reduceLT, Int.reduceAdd, Int.reduceToNat, Int.reduceLE, Int.reduceLT, Int.reduceNeg, reduceIte, postC, watchC, sll, slSt])
    | (show heapOK _ _ = true; kernel_rfl)
    | (omega)))
      all_goals first
        | rfl
        | contradiction
        | trace_state
end Go.Am

/- What Truth finds is a truth; it finds one just if one may be. (Plain words.) -/
namespace Go.Am
open Go.RowKit Go.Proofs
set_option linter.unusedSimpArgs false
set_option linter.unusedVariables false

theorem step_some {p : Post} {row : List Int} {first : Bool} {f : Int} {x z : Int × Int} (h : stepX p row first f z = some x) :
    x = (max (if first = true then z.1 else z.1 - p.drop) (agreedEnds p.errs row f).1, min (if first = true then z.2 else z.2 + p.gain) (agreedEnds p.errs row f).2) := by
  unfold stepX at h
  rw [Option.ite_none_left_eq_some] at h
  exact (Option.some.inj h.2).symm
theorem getD_app {a b : List Int} {j : Nat} (h : j < a.length) : (a ++ b).getD j 0 = a.getD j 0 := by
  simp only [List.getD_eq_getElem?_getD, List.getElem?_append_left h]
theorem getD_last {a : List Int} {v : Int} : (a ++ [v]).getD a.length 0 = v := by
  simp [List.getD_eq_getElem?_getD]
theorem back_ok {p : Post} {reads : List (List Int)} {f : Int} (hp : PostOK p) : ∀ (h : Nat) (v : Int) (x : Int × Int), gAt p reads (h + 1) f = some x → x.1 ≤ v ∧ v ≤ x.2 →
    (backL (gAt p reads) p.gain f h v).getD h 0 = v ∧ ∀ j, j ≤ h → okT p reads f (backL (gAt p reads) p.gain f h v) j
  | 0, v, x, hx, hv => by
    have h1 : stepX p (reads.getD 0 []) true f (0, 1000) = some x := by
      have : gAt p reads 1 f = stepX p (reads.getD 0 []) true f (0, 1000) := by simp [gAt, stepG]
      rw [← this]; exact hx
    have e := step_some h1
    simp only [if_true] at e
    subst e
    simp only at hv
    refine ⟨rfl, fun j hj => ?_⟩
    have : j = 0 := by omega
    subst this
    have a1 : (agreedEnds p.errs (reads.getD 0 []) f).1 ≤ v := by omega
    have a2 : v ≤ (agreedEnds p.errs (reads.getD 0 []) f).2 := by omega
    exact ⟨⟨a1, a2⟩, .inl rfl⟩
  | h + 1, v, x, hx, hv => by
    have hga := hp.gain
    have hd := hp.drop
    have h1 : (gAt p reads (h + 1) f).bind (stepX p (reads.getD (h + 1) []) false f) = some x := by
      have : gAt p reads (h + 2) f = (gAt p reads (h + 1) f).bind (stepX p (reads.getD (h + 1) []) false f) := by
        show stepG p (reads.getD (h + 1) []) (decide (h + 1 = 0)) (gAt p reads (h + 1)) f = _
        simp [stepG]
      rw [← this]; exact hx
    obtain ⟨z, hz, h2⟩ := Option.bind_eq_some_iff.1 h1
    have hzb := gAt_ok (h + 1) f z hz
    have e := step_some h2
    simp only [Bool.false_eq_true, if_false] at e
    subst e
    simp only at hv
    obtain ⟨i1, i2⟩ := back_ok hp h (max z.1 (v - p.gain)) z hz (by omega)
    have hl := backL_length (g := gAt p reads) (gain := p.gain) (f := f) h (max z.1 (v - p.gain))
    have hb : backL (gAt p reads) p.gain f (h + 1) v = backL (gAt p reads) p.gain f h (max z.1 (v - p.gain)) ++ [v] := by simp only [backL, hz, Option.getD_some]
    rw [hb]
    generalize backL (gAt p reads) p.gain f h (max z.1 (v - p.gain)) = L at *
    have e1 : (L ++ [v]).getD (h + 1) 0 = v := by rw [← hl]; exact getD_last
    refine ⟨e1, fun j hj => ?_⟩
    rcases Nat.lt_or_eq_of_le hj with h3 | h3
    · obtain ⟨j1, j2⟩ := i2 j (by omega)
      unfold okT
      rw [getD_app (by omega), getD_app (by omega)]
      exact ⟨j1, j2⟩
    · subst h3
      unfold okT
      rw [e1, show h + 1 - 1 = h from rfl, getD_app (by omega), i1]
      exact ⟨by omega, .inr (by omega)⟩
theorem fault_take {p : Post} {reads : List (List Int)} {m : Nat} (h : faultP p reads = 0) : faultP p (reads.take m) = 0 := by
  unfold faultP at h ⊢
  split at h
  · omega
  · rename_i h1
    rw [if_neg h1]
    split at h
    · omega
    · rename_i h2
      rw [if_neg (by simp; omega)]
      split at h
      · rename_i h3
        rw [if_pos]
        rw [List.all_eq_true] at h3 ⊢
        exact fun r hr => h3 r (List.mem_of_mem_take hr)
      · omega
theorem okT_take {p : Post} {reads : List (List Int)} {m : Nat} {f : Int} {sp : List Int} {j : Nat} (h : j < m) (k : okT p reads f sp j) : okT p (reads.take m) f sp j := by
  have e : (reads.take m).getD j [] = reads.getD j [] := by
    simp only [List.getD_eq_getElem?_getD, List.getElem?_take]
    rw [if_pos h]
  unfold okT at k ⊢
  rw [e]; exact k
/-- What is found is accepted. -/
theorem back_proved {p : Post} {reads : List (List Int)} {f v : Int} {h : Nat} {x : Int × Int} (hf : faultP p reads = 0) (hh : h < reads.length) (hfr : -1 ≤ f ∧ f ≤ (p.errs.length : Int) - 1) (hx : gAt p reads (h + 1) f = some x) (hv : x.1 ≤ v ∧ v ≤ x.2) :
    proveB p (reads.take (h + 1)) f (backL (gAt p reads) p.gain f h v) = true := by
  obtain ⟨hp, hr⟩ := faultP_zero hf
  obtain ⟨_, h2⟩ := back_ok hp h v x hx hv
  have hl := backL_length (g := gAt p reads) (gain := p.gain) (f := f) h v
  refine decide_eq_true ⟨fault_take hf, by rw [hl]; simp; omega, hfr, fun j hj => okT_take (by omega) (h2 j (by omega))⟩
theorem pick_is {g : Int → Option (Int × Int)} {v f : Int} {m : Nat} (h : pickF g v m = some f) : -1 ≤ f ∧ f ≤ (m : Int) - 2 ∧ ∃ x, g f = some x ∧ x.1 ≤ v ∧ v ≤ x.2 := by
  obtain ⟨i, h1, rfl, ⟨x, h2, h3, h4⟩, _⟩ := pickF_some m h
  exact ⟨by omega, by omega, x, h2, h3, h4⟩
theorem pick_succ {g : Int → Option (Int × Int)} {v : Int} {i : Nat} (hv : 0 ≤ v) : (pickF g v (i + 1)).isSome = ((pickF g v i).isSome || inE (g ((i : Int) - 1)) v.toNat) := by
  simp only [pickF]
  cases pickF g v i with
  | some f => rfl
  | none =>
    cases hg : g ((i : Int) - 1) with
    | none => rfl
    | some x =>
      simp only [inE, Option.isSome, Bool.false_or]
      rw [show ((v.toNat : Nat) : Int) = v by omega]
      by_cases h : x.1 ≤ v ∧ v ≤ x.2
      · simp [h]
      · simp [h]
end Go.Am

/- The law AlarmFinds, as a contract: it returns true. -/
namespace Go.Am
open Go.RowKit Go.Proofs
attribute [local irreducible] AWP CallS Kt goK CallK stepK evOps SemF SemY Imp
set_option maxRecDepth 4000
set_option linter.unusedSimpArgs false
set_option linter.unusedVariables false
set_option maxHeartbeats 1600000

theorem alarmFinds_c (p : Post) (reads : List (List Int)) (hour v : Int) (hb : InB p reads) : CallS Try.prog 10 [.agg (postC p), sll reads, .int .i64 hour, .int .i64 v] (.bool true) := by
  have k1 := few_c p reads hb
  have k2 := fault_c p reads hb
  have k3 := truthAll_c p reads hour v hb
  cases hfew : fewB p reads
  · rw [hfew] at k1
    simp only [postC, sl, sll] at k1
    (refine callS_of_awp (fun w args => Try.call10 ..) Try.func10 rfl (fun w0 m0 wz => ?_); simp only [Try.ntmps10, Try.results10, initT, junks, postC, watchC, sll, sl, List.toList_toArray, List.cons_append, List.nil_append, List.length_cons, List.length_nil, Nat.reduceAdd, Nat.reduceSub])
    (repeat' (first
    | (refine awp_seqK ?_)
    | (refine kt ?_)
    | (refine And.intro ?_ ?_)
    | ((first | refine awp_region ?_ | refine awp_draw (by kernel_rfl) (by kernel_rfl) ?_ | refine Imp.le2 ?_ | refine awp_label ?_ | refine awp_skip ?_ | refine awp_exit ?_ | refine awp_cd ?_ | refine awp_ret ?_); simp (maxSteps := 4000000) only [go_sem, List.append_eq, List.cons_append, List.nil_append, Nat.reduceAdd, Nat.reduceMul, Nat.reduceSub, Nat.reduceLeDiff, Nat.reduceLT, Int.reduceAdd, Int.reduceToNat, Int.reduceLE, Int.reduceLT, Int.reduceNeg, reduceIte, postC, watchC, sll])
    | (intro _h)
    | (refine awp_block ?_)
    | (refine awp_scope ?_)
    | ((first | refine callK_of (awake_c) ?_ | refine callK_of (k1) ?_); try simp (maxSteps := 4000000) only [go_sem, List.append_eq, List.cons_append, List.nil_append, Nat.reduceAdd, Nat.reduceMul, Nat.reduceSub, Nat.reduceLeDiff, Nat.reduceLT, Int.reduceAdd, Int.reduceToNat, Int.reduceLE, Int.reduceLT, Int.reduceNeg, reduceIte, postC, watchC, sll])
    | (refine go_split (fun _h => ?_) (fun _h => ?_) <;> simp (maxSteps := 4000000) only [go_sem, List.append_eq, List.cons_append, List.nil_append, Nat.reduceAdd, Nat.reduceMul, Nat.reduceSub, Nat.reduceLeDiff, Nat.reduceLT, Int.reduceAdd, Int.reduceToNat, Int.reduceLE, Int.reduceLT, Int.reduceNeg, reduceIte, postC, watchC, sll])
    | (show heapOK _ _ = true; kernel_rfl)
    | (show heapOK2 _ _ = true; kernel_rfl)
    | (omega)))
  · rw [hfew] at k1
    have hth : thinB p reads = true := by unfold fewB at hfew; rw [Bool.and_eq_true] at hfew; exact hfew.1
    obtain ⟨t1, t2, t3⟩ := thinB_true hth
    have k7 := Post_c p (by omega)
    have k8 := rows_c reads (by omega) (fun i hi => by have := t3 i hi; omega)
    unfold truthR at k3
    by_cases hf : faultP p reads = 0
    · rw [if_pos hf] at k3
      rw [hf] at k2
      obtain ⟨hp, hr⟩ := faultP_zero hf
      have hpl := hp.len
      by_cases hin : (0 ≤ hour ∧ hour < reads.length) ∧ (0 ≤ v ∧ v ≤ 1000)
      · rw [if_pos hin] at k3
        obtain ⟨⟨hh1, hh2⟩, hv1, hv2⟩ := hin
        obtain ⟨h, rfl⟩ := Int.eq_ofNat_of_zero_le hh1
        obtain ⟨u, rfl⟩ := Int.eq_ofNat_of_zero_le hv1
        rw [Int.toNat_natCast] at k3
        have hh : h < reads.length := by omega
        have km : ∀ f, CallS Try.prog 42 [.agg (postC p), .psl false (h + 1) (rowsC (reads.take (h + 1))), .int .i64 f] (.psl false 1001 (bools (mayL p (reads.take (h + 1)) f (h + 1)))) := fun f => by
          have := may_c p (reads.take (h + 1)) f hp (reads_take hr)
          have e : (reads.take (h + 1)).length = h + 1 := by simp; omega
          simpa only [sll, e] using this
        have hgd : ∀ f, (mayL p (reads.take (h + 1)) f (h + 1)).getD u false = inE (gAt p reads (h + 1) f) u := fun f => by
          unfold mayL
          rw [tab_getD (by omega), gAt_take _ (Nat.le_refl _)]
        have hps := fun i => pick_succ (g := gAt p reads (h + 1)) (v := (u : Int)) (i := i) (by omega)
        simp only [Int.toNat_natCast] at hps
        have kr := fun f sp => refTruth_c p (reads.take (h + 1)) f sp (fault_take hf)
        have e1 : (0 ≤ (h : Int) ∧ (h : Int) ≤ reads.length - 1) = True := eq_true (by omega)
        have e2 : (0 ≤ (u : Int) ∧ (u : Int) ≤ 1000) = True := eq_true (by omega)
        have e3 : ((h : Int) + 1).toNat = h + 1 := by omega
        have e4 : (reads.take (h + 1)).length = h + 1 := by simp; omega
        generalize hgg : gAt p reads (h + 1) = g at *
        cases hpk : pickF g u (p.errs.length + 1) with
        | none =>
          simp only [hpk] at k3
          simp only [postC, sl, sll, e4, List.length_nil, ints_nil] at k1 k2 k3 k7 k8 km kr
          (refine callS_of_awp (fun w args => Try.call10 ..) Try.func10 rfl (fun w0 m0 wz => ?_); simp only [Try.ntmps10, Try.results10, initT, junks, postC, watchC, sll, sl, List.toList_toArray, List.cons_append, List.nil_append, List.length_cons, List.length_nil, Nat.reduceAdd, Nat.reduceSub])
          (repeat' (first
    | (refine awp_seqK ?_)
    | (refine kt ?_)
    | (refine And.intro ?_ ?_)
    | ((first | refine awp_region ?_ | refine awp_draw (by kernel_rfl) (by kernel_rfl) ?_ | refine Imp.le2 ?_ | refine awp_label ?_ | refine awp_skip ?_ | refine awp_exit ?_ | refine awp_cd ?_ | refine awp_ret ?_); simp (maxSteps := 4000000) only [go_sem, List.append_eq, List.cons_append, List.nil_append, Nat.reduceAdd, Nat.reduceMul, Nat.reduceSub, Nat.reduceLeDiff, Nat.reduceLT, Int.reduceAdd, Int.reduceToNat, Int.reduceLE, Int.reduceLT, Int.reduceNeg, reduceIte, postC, watchC, sll, e1, e2, e3, decide_true, decide_false])
    | (intro _h)
    | (refine awp_block ?_)
    | (refine awp_scope ?_)
    | ((first | refine callK_of (awake_c) ?_ | refine callK_of (k1) ?_ | refine callK_of (k2) ?_ | refine callK_of (k7) ?_ | refine callK_of (k8) ?_ | refine callK_of (k3) ?_ | refine callK_of (in_c _ _ _) ?_); try simp (maxSteps := 4000000) only [go_sem, List.append_eq, List.cons_append, List.nil_append, Nat.reduceAdd, Nat.reduceMul, Nat.reduceSub, Nat.reduceLeDiff, Nat.reduceLT, Int.reduceAdd, Int.reduceToNat, Int.reduceLE, Int.reduceLT, Int.reduceNeg, reduceIte, postC, watchC, sll, e1, e2, e3, decide_true, decide_false])
    | (refine go_split (fun _h => ?_) (fun _h => ?_) <;> simp (maxSteps := 4000000) only [go_sem, List.append_eq, List.cons_append, List.nil_append, Nat.reduceAdd, Nat.reduceMul, Nat.reduceSub, Nat.reduceLeDiff, Nat.reduceLT, Int.reduceAdd, Int.reduceToNat, Int.reduceLE, Int.reduceLT, Int.reduceNeg, reduceIte, postC, watchC, sll, e1, e2, e3, decide_true, decide_false])
    | (show heapOK _ _ = true; kernel_rfl)
    | (show heapOK2 _ _ = true; kernel_rfl)
    | (omega)))
          refine awp_loopN (p.errs.length + 1) (fun i => ⟨mkT 114 [(1, .psl false reads.length (rowsC reads)), (2, .int .i64 h), (3, .int .i64 u), (4, .ptr 0 0 0), (9, .int .i64 0), (10, .psl false 0 []), (11, .int .i64 7), (12, .int .i64 (if (pickF g u i).isSome = true then 0 else 7)), (13, .int .i64 ((i : Int) - 1))], [some (.cells 46 1 0 (postC p))], []⟩) (.le2 ?_) ?_
          · simp only [postC, pickF]; simp (maxSteps := 4000000) only [go_sem, List.append_eq, List.cons_append, List.nil_append, Nat.reduceAdd, Nat.reduceMul, Nat.reduceSub, Nat.reduceLeDiff, Nat.reduceLT, Int.reduceAdd, Int.reduceToNat, Int.reduceLE, Int.reduceLT, Int.reduceNeg, reduceIte, postC, watchC, sll]
            exact ⟨rfl, by omega⟩
          · intro i hi
            have hps := hps i
            cases hq : inE (g ((i : Int) - 1)) u
            · simp only [postC]; simp (maxSteps := 4000000) only [go_sem, List.append_eq, List.cons_append, List.nil_append, Nat.reduceAdd, Nat.reduceMul, Nat.reduceSub, Nat.reduceLeDiff, Nat.reduceLT, Int.reduceAdd, Int.reduceToNat, Int.reduceLE, Int.reduceLT, Int.reduceNeg, reduceIte, postC, watchC, sll]
              (repeat' (first
    | (refine awp_seqK ?_)
    | (refine kt ?_)
    | (refine And.intro ?_ ?_)
    | ((first | refine awp_region ?_ | refine awp_draw (by kernel_rfl) (by kernel_rfl) ?_ | refine Imp.le2 ?_ | refine awp_label ?_ | refine awp_skip ?_ | refine awp_exit ?_ | refine awp_cd ?_ | refine awp_ret ?_); simp (maxSteps := 4000000) only [go_sem, List.append_eq, List.cons_append, List.nil_append, Nat.reduceAdd, Nat.reduceMul, Nat.reduceSub, Nat.reduceLeDiff, Nat.reduceLT, Int.reduceAdd, Int.reduceToNat, Int.reduceLE, Int.reduceLT, Int.reduceNeg, reduceIte, postC, watchC, sll, e3, hgd, hq])
    | (intro _h)
    | (refine awp_block ?_)
    | (refine awp_scope ?_)
    | ((first | refine callK_of (km _) ?_ | refine callK_of (awake_c) ?_); try simp (maxSteps := 4000000) only [go_sem, List.append_eq, List.cons_append, List.nil_append, Nat.reduceAdd, Nat.reduceMul, Nat.reduceSub, Nat.reduceLeDiff, Nat.reduceLT, Int.reduceAdd, Int.reduceToNat, Int.reduceLE, Int.reduceLT, Int.reduceNeg, reduceIte, postC, watchC, sll, e3, hgd, hq])
    | (refine go_split (fun _h => ?_) (fun _h => ?_) <;> simp (maxSteps := 4000000) only [go_sem, List.append_eq, List.cons_append, List.nil_append, Nat.reduceAdd, Nat.reduceMul, Nat.reduceSub, Nat.reduceLeDiff, Nat.reduceLT, Int.reduceAdd, Int.reduceToNat, Int.reduceLE, Int.reduceLT, Int.reduceNeg, reduceIte, postC, watchC, sll, e3, hgd, hq])
    | (show heapOK _ _ = true; kernel_rfl)
    | (show heapOK2 _ _ = true; kernel_rfl)
    | (omega)))
              all_goals first
                | (rw [hps, hq]; simp; done)
                | (exfalso
                   have e : i = p.errs.length + 1 := by omega
                   subst e
                   simp_all)
                | trace_state
            · simp only [postC]; simp (maxSteps := 4000000) only [go_sem, List.append_eq, List.cons_append, List.nil_append, Nat.reduceAdd, Nat.reduceMul, Nat.reduceSub, Nat.reduceLeDiff, Nat.reduceLT, Int.reduceAdd, Int.reduceToNat, Int.reduceLE, Int.reduceLT, Int.reduceNeg, reduceIte, postC, watchC, sll]
              (repeat' (first
    | (refine awp_seqK ?_)
    | (refine kt ?_)
    | (refine And.intro ?_ ?_)
    | ((first | refine awp_region ?_ | refine awp_draw (by kernel_rfl) (by kernel_rfl) ?_ | refine Imp.le2 ?_ | refine awp_label ?_ | refine awp_skip ?_ | refine awp_exit ?_ | refine awp_cd ?_ | refine awp_ret ?_); simp (maxSteps := 4000000) only [go_sem, List.append_eq, List.cons_append, List.nil_append, Nat.reduceAdd, Nat.reduceMul, Nat.reduceSub, Nat.reduceLeDiff, Nat.reduceLT, Int.reduceAdd, Int.reduceToNat, Int.reduceLE, Int.reduceLT, Int.reduceNeg, reduceIte, postC, watchC, sll, e3, hgd, hq])
    | (intro _h)
    | (refine awp_block ?_)
    | (refine awp_scope ?_)
    | ((first | refine callK_of (km _) ?_ | refine callK_of (awake_c) ?_); try simp (maxSteps := 4000000) only [go_sem, List.append_eq, List.cons_append, List.nil_append, Nat.reduceAdd, Nat.reduceMul, Nat.reduceSub, Nat.reduceLeDiff, Nat.reduceLT, Int.reduceAdd, Int.reduceToNat, Int.reduceLE, Int.reduceLT, Int.reduceNeg, reduceIte, postC, watchC, sll, e3, hgd, hq])
    | (refine go_split (fun _h => ?_) (fun _h => ?_) <;> simp (maxSteps := 4000000) only [go_sem, List.append_eq, List.cons_append, List.nil_append, Nat.reduceAdd, Nat.reduceMul, Nat.reduceSub, Nat.reduceLeDiff, Nat.reduceLT, Int.reduceAdd, Int.reduceToNat, Int.reduceLE, Int.reduceLT, Int.reduceNeg, reduceIte, postC, watchC, sll, e3, hgd, hq])
    | (show heapOK _ _ = true; kernel_rfl)
    | (show heapOK2 _ _ = true; kernel_rfl)
    | (omega)))
              all_goals first
                | (rw [hps, hq]; simp; done)
                | (exfalso
                   have e : i = p.errs.length + 1 := by omega
                   subst e
                   simp_all)
                | trace_state
        | some f =>
          simp only [hpk] at k3
          obtain ⟨f1, f2, x, f3, f4⟩ := pick_is hpk
          have hpv := back_proved (v := (u : Int)) (h := h) hf hh ⟨f1, by omega⟩ (by rw [hgg]; exact f3) f4
          have hbo := (back_ok hp h (u : Int) x (by rw [hgg]; exact f3) f4).1
          have hbl := backL_length (g := gAt p reads) (gain := p.gain) (f := f) h (u : Int)
          have kr := kr f (backL (gAt p reads) p.gain f h u) (by rw [hbl]; omega)
          rw [hpv] at kr
          generalize backL (gAt p reads) p.gain f h (u : Int) = L at *
          simp only [postC, sl, sll, e4] at k1 k2 k3 k7 k8 km kr
          rw [hbl] at kr k3
          (refine callS_of_awp (fun w args => Try.call10 ..) Try.func10 rfl (fun w0 m0 wz => ?_); simp only [Try.ntmps10, Try.results10, initT, junks, postC, watchC, sll, sl, List.toList_toArray, List.cons_append, List.nil_append, List.length_cons, List.length_nil, Nat.reduceAdd, Nat.reduceSub])
          (repeat' (first
    | (refine awp_seqK ?_)
    | (refine kt ?_)
    | (refine And.intro ?_ ?_)
    | ((first | refine awp_region ?_ | refine awp_draw (by kernel_rfl) (by kernel_rfl) ?_ | refine Imp.le2 ?_ | refine awp_label ?_ | refine awp_skip ?_ | refine awp_exit ?_ | refine awp_cd ?_ | refine awp_ret ?_); simp (maxSteps := 4000000) only [go_sem, List.append_eq, List.cons_append, List.nil_append, Nat.reduceAdd, Nat.reduceMul, Nat.reduceSub, Nat.reduceLeDiff, Nat.reduceLT, Int.reduceAdd, Int.reduceToNat, Int.reduceLE, Int.reduceLT, Int.reduceNeg, reduceIte, postC, watchC, sll, e1, e2, e3, decide_true, decide_false])
    | (intro _h)
    | (refine awp_block ?_)
    | (refine awp_scope ?_)
    | ((first | refine callK_of (awake_c) ?_ | refine callK_of (k1) ?_ | refine callK_of (k2) ?_ | refine callK_of (k7) ?_ | refine callK_of (k8) ?_ | refine callK_of (k3) ?_ | refine callK_of (in_c _ _ _) ?_); try simp (maxSteps := 4000000) only [go_sem, List.append_eq, List.cons_append, List.nil_append, Nat.reduceAdd, Nat.reduceMul, Nat.reduceSub, Nat.reduceLeDiff, Nat.reduceLT, Int.reduceAdd, Int.reduceToNat, Int.reduceLE, Int.reduceLT, Int.reduceNeg, reduceIte, postC, watchC, sll, e1, e2, e3, decide_true, decide_false])
    | (refine go_split (fun _h => ?_) (fun _h => ?_) <;> simp (maxSteps := 4000000) only [go_sem, List.append_eq, List.cons_append, List.nil_append, Nat.reduceAdd, Nat.reduceMul, Nat.reduceSub, Nat.reduceLeDiff, Nat.reduceLT, Int.reduceAdd, Int.reduceToNat, Int.reduceLE, Int.reduceLT, Int.reduceNeg, reduceIte, postC, watchC, sll, e1, e2, e3, decide_true, decide_false])
    | (show heapOK _ _ = true; kernel_rfl)
    | (show heapOK2 _ _ = true; kernel_rfl)
    | (omega)))
          refine awp_loopN (p.errs.length + 1) (fun i => ⟨mkT 114 [(1, .psl false reads.length (rowsC reads)), (2, .int .i64 h), (3, .int .i64 u), (4, .ptr 0 0 0), (9, .int .i64 f), (10, .psl false (h + 1) (ints L)), (11, .int .i64 0), (12, .int .i64 (if (pickF g u i).isSome = true then 0 else 7)), (13, .int .i64 ((i : Int) - 1))], [some (.cells 46 1 0 (postC p))], []⟩) (.le2 ?_) ?_
          · simp only [postC, pickF]; simp (maxSteps := 4000000) only [go_sem, List.append_eq, List.cons_append, List.nil_append, Nat.reduceAdd, Nat.reduceMul, Nat.reduceSub, Nat.reduceLeDiff, Nat.reduceLT, Int.reduceAdd, Int.reduceToNat, Int.reduceLE, Int.reduceLT, Int.reduceNeg, reduceIte, postC, watchC, sll]
            exact ⟨rfl, by omega⟩
          · intro i hi
            have hps := hps i
            cases hq : inE (g ((i : Int) - 1)) u
            · simp only [postC]; simp (maxSteps := 4000000) only [go_sem, List.append_eq, List.cons_append, List.nil_append, Nat.reduceAdd, Nat.reduceMul, Nat.reduceSub, Nat.reduceLeDiff, Nat.reduceLT, Int.reduceAdd, Int.reduceToNat, Int.reduceLE, Int.reduceLT, Int.reduceNeg, reduceIte, postC, watchC, sll]
              (repeat' (first
    | (refine awp_seqK ?_)
    | (refine kt ?_)
    | (refine And.intro ?_ ?_)
    | ((first | refine awp_region ?_ | refine awp_draw (by kernel_rfl) (by kernel_rfl) ?_ | refine Imp.le2 ?_ | refine awp_label ?_ | refine awp_skip ?_ | refine awp_exit ?_ | refine awp_cd ?_ | refine awp_ret ?_); simp (maxSteps := 4000000) only [go_sem, List.append_eq, List.cons_append, List.nil_append, Nat.reduceAdd, Nat.reduceMul, Nat.reduceSub, Nat.reduceLeDiff, Nat.reduceLT, Int.reduceAdd, Int.reduceToNat, Int.reduceLE, Int.reduceLT, Int.reduceNeg, reduceIte, postC, watchC, sll, e3, hgd, hq])
    | (intro _h)
    | (refine awp_block ?_)
    | (refine awp_scope ?_)
    | ((first | refine callK_of (km _) ?_ | refine callK_of (awake_c) ?_ | refine callK_of (kr) ?_); try simp (maxSteps := 4000000) only [go_sem, List.append_eq, List.cons_append, List.nil_append, Nat.reduceAdd, Nat.reduceMul, Nat.reduceSub, Nat.reduceLeDiff, Nat.reduceLT, Int.reduceAdd, Int.reduceToNat, Int.reduceLE, Int.reduceLT, Int.reduceNeg, reduceIte, postC, watchC, sll, e3, hgd, hq])
    | (refine go_split (fun _h => ?_) (fun _h => ?_) <;> simp (maxSteps := 4000000) only [go_sem, List.append_eq, List.cons_append, List.nil_append, Nat.reduceAdd, Nat.reduceMul, Nat.reduceSub, Nat.reduceLeDiff, Nat.reduceLT, Int.reduceAdd, Int.reduceToNat, Int.reduceLE, Int.reduceLT, Int.reduceNeg, reduceIte, postC, watchC, sll, e3, hgd, hq])
    | (show heapOK _ _ = true; kernel_rfl)
    | (show heapOK2 _ _ = true; kernel_rfl)
    | (omega)))
              all_goals first
                | (rw [hps, hq]; simp; done)
                | (exfalso
                   have e : i = p.errs.length + 1 := by omega
                   subst e
                   simp_all)
                | trace_state
            · simp only [postC]; simp (maxSteps := 4000000) only [go_sem, List.append_eq, List.cons_append, List.nil_append, Nat.reduceAdd, Nat.reduceMul, Nat.reduceSub, Nat.reduceLeDiff, Nat.reduceLT, Int.reduceAdd, Int.reduceToNat, Int.reduceLE, Int.reduceLT, Int.reduceNeg, reduceIte, postC, watchC, sll]
              (repeat' (first
    | (refine awp_seqK ?_)
    | (refine kt ?_)
    | (refine And.intro ?_ ?_)
    | ((first | refine awp_region ?_ | refine awp_draw (by kernel_rfl) (by kernel_rfl) ?_ | refine Imp.le2 ?_ | refine awp_label ?_ | refine awp_skip ?_ | refine awp_exit ?_ | refine awp_cd ?_ | refine awp_ret ?_); simp (maxSteps := 4000000) only [go_sem, List.append_eq, List.cons_append, List.nil_append, Nat.reduceAdd, Nat.reduceMul, Nat.reduceSub, Nat.reduceLeDiff, Nat.reduceLT, Int.reduceAdd, Int.reduceToNat, Int.reduceLE, Int.reduceLT, Int.reduceNeg, reduceIte, postC, watchC, sll, e3, hgd, hq])
    | (intro _h)
    | (refine awp_block ?_)
    | (refine awp_scope ?_)
    | ((first | refine callK_of (km _) ?_ | refine callK_of (awake_c) ?_ | refine callK_of (kr) ?_); try simp (maxSteps := 4000000) only [go_sem, List.append_eq, List.cons_append, List.nil_append, Nat.reduceAdd, Nat.reduceMul, Nat.reduceSub, Nat.reduceLeDiff, Nat.reduceLT, Int.reduceAdd, Int.reduceToNat, Int.reduceLE, Int.reduceLT, Int.reduceNeg, reduceIte, postC, watchC, sll, e3, hgd, hq])
    | (refine go_split (fun _h => ?_) (fun _h => ?_) <;> simp (maxSteps := 4000000) only [go_sem, List.append_eq, List.cons_append, List.nil_append, Nat.reduceAdd, Nat.reduceMul, Nat.reduceSub, Nat.reduceLeDiff, Nat.reduceLT, Int.reduceAdd, Int.reduceToNat, Int.reduceLE, Int.reduceLT, Int.reduceNeg, reduceIte, postC, watchC, sll, e3, hgd, hq])
    | (show heapOK _ _ = true; kernel_rfl)
    | (show heapOK2 _ _ = true; kernel_rfl)
    | (omega)))
              all_goals first
                | (rw [hps, hq]; simp; done)
                | (exfalso
                   have e : i = p.errs.length + 1 := by omega
                   subst e
                   simp_all)
                | trace_state
      · rw [if_neg hin] at k3
        simp only [postC, sl, sll] at k1 k2 k3 k7 k8
        (refine callS_of_awp (fun w args => Try.call10 ..) Try.func10 rfl (fun w0 m0 wz => ?_); simp only [Try.ntmps10, Try.results10, initT, junks, postC, watchC, sll, sl, List.toList_toArray, List.cons_append, List.nil_append, List.length_cons, List.length_nil, Nat.reduceAdd, Nat.reduceSub])
        by_cases h1 : 0 ≤ hour ∧ hour ≤ (reads.length : Int) - 1
        · have h2 : ¬(0 ≤ v ∧ v ≤ 1000) := fun h => hin ⟨⟨by omega, by omega⟩, h⟩
          have e1 := eq_true h1
          have e2 := eq_false h2
          (repeat' (first
    | (refine awp_seqK ?_)
    | (refine kt ?_)
    | (refine And.intro ?_ ?_)
    | ((first | refine awp_region ?_ | refine awp_draw (by kernel_rfl) (by kernel_rfl) ?_ | refine Imp.le2 ?_ | refine awp_label ?_ | refine awp_skip ?_ | refine awp_exit ?_ | refine awp_cd ?_ | refine awp_ret ?_); simp (maxSteps := 4000000) only [go_sem, List.append_eq, List.cons_append, List.nil_append, Nat.reduceAdd, Nat.reduceMul, Nat.reduceSub, Nat.reduceLeDiff, Nat.reduceLT, Int.reduceAdd, Int.reduceToNat, Int.reduceLE, Int.reduceLT, Int.reduceNeg, reduceIte, postC, watchC, sll, e1, e2, decide_true, decide_false])
    | (intro _h)
    | (refine awp_block ?_)
    | (refine awp_scope ?_)
    | ((first | refine callK_of (awake_c) ?_ | refine callK_of (k1) ?_ | refine callK_of (k2) ?_ | refine callK_of (k7) ?_ | refine callK_of (k8) ?_ | refine callK_of (k3) ?_ | refine callK_of (in_c _ _ _) ?_); try simp (maxSteps := 4000000) only [go_sem, List.append_eq, List.cons_append, List.nil_append, Nat.reduceAdd, Nat.reduceMul, Nat.reduceSub, Nat.reduceLeDiff, Nat.reduceLT, Int.reduceAdd, Int.reduceToNat, Int.reduceLE, Int.reduceLT, Int.reduceNeg, reduceIte, postC, watchC, sll, e1, e2, decide_true, decide_false])
    | (refine go_split (fun _h => ?_) (fun _h => ?_) <;> simp (maxSteps := 4000000) only [go_sem, List.append_eq, List.cons_append, List.nil_append, Nat.reduceAdd, Nat.reduceMul, Nat.reduceSub, Nat.reduceLeDiff, Nat.reduceLT, Int.reduceAdd, Int.reduceToNat, Int.reduceLE, Int.reduceLT, Int.reduceNeg, reduceIte, postC, watchC, sll, e1, e2, decide_true, decide_false])
    | (show heapOK _ _ = true; kernel_rfl)
    | (show heapOK2 _ _ = true; kernel_rfl)
    | (omega)))
          trace_state
        · have e1 := eq_false h1
          (repeat' (first
    | (refine awp_seqK ?_)
    | (refine kt ?_)
    | (refine And.intro ?_ ?_)
    | ((first | refine awp_region ?_ | refine awp_draw (by kernel_rfl) (by kernel_rfl) ?_ | refine Imp.le2 ?_ | refine awp_label ?_ | refine awp_skip ?_ | refine awp_exit ?_ | refine awp_cd ?_ | refine awp_ret ?_); simp (maxSteps := 4000000) only [go_sem, List.append_eq, List.cons_append, List.nil_append, Nat.reduceAdd, Nat.reduceMul, Nat.reduceSub, Nat.reduceLeDiff, Nat.reduceLT, Int.reduceAdd, Int.reduceToNat, Int.reduceLE, Int.reduceLT, Int.reduceNeg, reduceIte, postC, watchC, sll, e1, decide_true, decide_false])
    | (intro _h)
    | (refine awp_block ?_)
    | (refine awp_scope ?_)
    | ((first | refine callK_of (awake_c) ?_ | refine callK_of (k1) ?_ | refine callK_of (k2) ?_ | refine callK_of (k7) ?_ | refine callK_of (k8) ?_ | refine callK_of (k3) ?_ | refine callK_of (in_c _ _ _) ?_); try simp (maxSteps := 4000000) only [go_sem, List.append_eq, List.cons_append, List.nil_append, Nat.reduceAdd, Nat.reduceMul, Nat.reduceSub, Nat.reduceLeDiff, Nat.reduceLT, Int.reduceAdd, Int.reduceToNat, Int.reduceLE, Int.reduceLT, Int.reduceNeg, reduceIte, postC, watchC, sll, e1, decide_true, decide_false])
    | (refine go_split (fun _h => ?_) (fun _h => ?_) <;> simp (maxSteps := 4000000) only [go_sem, List.append_eq, List.cons_append, List.nil_append, Nat.reduceAdd, Nat.reduceMul, Nat.reduceSub, Nat.reduceLeDiff, Nat.reduceLT, Int.reduceAdd, Int.reduceToNat, Int.reduceLE, Int.reduceLT, Int.reduceNeg, reduceIte, postC, watchC, sll, e1, decide_true, decide_false])
    | (show heapOK _ _ = true; kernel_rfl)
    | (show heapOK2 _ _ = true; kernel_rfl)
    | (omega)))
          trace_state
    · rw [if_neg hf] at k3
      have hfc := faultP_cases p reads
      simp only [postC, sl, sll] at k1 k2 k3 k7 k8
      generalize faultP p reads = e at *
      (refine callS_of_awp (fun w args => Try.call10 ..) Try.func10 rfl (fun w0 m0 wz => ?_); simp only [Try.ntmps10, Try.results10, initT, junks, postC, watchC, sll, sl, List.toList_toArray, List.cons_append, List.nil_append, List.length_cons, List.length_nil, Nat.reduceAdd, Nat.reduceSub])
      (repeat' (first
    | (refine awp_seqK ?_)
    | (refine kt ?_)
    | (refine And.intro ?_ ?_)
    | ((first | refine awp_region ?_ | refine awp_draw (by kernel_rfl) (by kernel_rfl) ?_ | refine Imp.le2 ?_ | refine awp_label ?_ | refine awp_skip ?_ | refine awp_exit ?_ | refine awp_cd ?_ | refine awp_ret ?_); simp (maxSteps := 4000000) only [go_sem, List.append_eq, List.cons_append, List.nil_append, Nat.reduceAdd, Nat.reduceMul, Nat.reduceSub, Nat.reduceLeDiff, Nat.reduceLT, Int.reduceAdd, Int.reduceToNat, Int.reduceLE, Int.reduceLT, Int.reduceNeg, reduceIte, postC, watchC, sll])
    | (intro _h)
    | (refine awp_block ?_)
    | (refine awp_scope ?_)
    | ((first | refine callK_of (awake_c) ?_ | refine callK_of (k1) ?_ | refine callK_of (k2) ?_ | refine callK_of (k7) ?_ | refine callK_of (k8) ?_ | refine callK_of (k3) ?_); try simp (maxSteps := 4000000) only [go_sem, List.append_eq, List.cons_append, List.nil_append, Nat.reduceAdd, Nat.reduceMul, Nat.reduceSub, Nat.reduceLeDiff, Nat.reduceLT, Int.reduceAdd, Int.reduceToNat, Int.reduceLE, Int.reduceLT, Int.reduceNeg, reduceIte, postC, watchC, sll])
    | (refine go_split (fun _h => ?_) (fun _h => ?_) <;> simp (maxSteps := 4000000) only [go_sem, List.append_eq, List.cons_append, List.nil_append, Nat.reduceAdd, Nat.reduceMul, Nat.reduceSub, Nat.reduceLeDiff, Nat.reduceLT, Int.reduceAdd, Int.reduceToNat, Int.reduceLE, Int.reduceLT, Int.reduceNeg, reduceIte, postC, watchC, sll])
    | (show heapOK _ _ = true; kernel_rfl)
    | (show heapOK2 _ _ = true; kernel_rfl)
    | (omega)))
      trace_state
end Go.Am
