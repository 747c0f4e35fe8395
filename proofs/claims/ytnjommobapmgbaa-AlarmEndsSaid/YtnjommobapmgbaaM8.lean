/- Parts BlI, BlJ, BmD, BmE, BlK, BlL, BlM, BmF of the proof, one behind the other: the machine of abstract values, contracts, plain words. No statement is proved here. -/
import Derived.Test.YtnjommobapmgbaaM7
/- The law AlarmLevels, as a contract: it returns true. -/
namespace Go.Am
open Go.RowKit Go.Proofs
attribute [local irreducible] AWP CallS Kt goK CallK stepK evOps SemF SemY Imp
set_option maxRecDepth 4000
set_option linter.unusedSimpArgs false
set_option linter.unusedVariables false
set_option maxHeartbeats 1600000

theorem gAt_take {p : Post} {reads : List (List Int)} {m : Nat} : ∀ k, k ≤ m → gAt p (reads.take m) k = gAt p reads k
  | 0, _ => rfl
  | k + 1, h => by
    have e : (reads.take m).getD k [] = reads.getD k [] := by
      simp only [List.getD_eq_getElem?_getD, List.getElem?_take]
      rw [if_pos (by omega)]
    simp only [gAt, e]
    rw [show gAt p (reads.take m) k = gAt p reads k from gAt_take k (by omega)]
theorem stAt_take {p : Post} {reads : List (List Int)} {m k : Nat} (h : k < m) : stAt p (reads.take m) k = stAt p reads k := by
  unfold stAt; rw [gAt_take _ (by omega)]
theorem reads_take {p : Post} {reads : List (List Int)} {m : Nat} (h : ReadsOK p reads) : ReadsOK p (reads.take m) := by
  refine ⟨by have := h.len; simp; omega, fun i hi => ?_⟩
  have hi' : i < reads.length := by simp at hi; omega
  have e : (reads.take m).getD i [] = reads.getD i [] := by
    simp only [List.getD_eq_getElem?_getD, List.getElem?_take]
    rw [if_pos (by simp at hi; omega)]
  rw [e]
  exact h.rows i hi'
theorem win_rows {l : List (List Int)} {n : Nat} : window (rowsC l) 0 n = rowsC (l.take n) := by simp [window, rowsC, List.map_take]
theorem win_rows1 {l : List (List Int)} {n : Nat} : window (rowsC l) 0 (n * 1) = rowsC (l.take n) := by rw [Nat.mul_one, win_rows]
theorem ld_st58 {l : List (Int × Int × Int)} {i : Nat} {K : AV → Prop} : loadK Try.prog 58 (recs stC l) (i * 3) K = (i < l.length ∧ K (.agg (stC (l.getD i default)))) := ld_recs tagg58 tsz58 (fun _ => rfl) (by omega)
attribute [go_sem] win_rows
attribute [go_sem ↓] ld_st58
/-- A state in an hour, by the reference. -/
theorem atT_c (p : Post) (reads : List (List Int)) (h : Nat) (hp : PostOK p) (hr : ReadsOK p reads) (hh : h < reads.length) : CallS Try.prog 36 [.agg (postC p), .psl false (h + 1) (rowsC (reads.take (h + 1)))]
    (.tup [.agg [.int .i64 (aLo (stAt p reads h)), .int .i64 (hHi (stAt p reads h)), .int .u8 (levelOf p (hHi (stAt p reads h)))], .bool (stAt p reads h).isSome]) := by
  have := at_c p (reads.take (h + 1)) hp (reads_take hr)
  have e : (reads.take (h + 1)).length = h + 1 := by simp; omega
  have e2 : hull (gAt p (reads.take (h + 1)) (h + 1)) (p.errs.length + 1) = stAt p reads h := by rw [gAt_take _ (by omega)]; rfl
  simp only [sll, e, e2] at this
  exact this
theorem thinB_true {p : Post} {reads : List (List Int)} (h : thinB p reads = true) : p.errs.length ≤ 15 ∧ reads.length ≤ 65 ∧ ∀ i, i < reads.length → (reads.getD i []).length ≤ 15 := of_decide_eq_true h

theorem alarmLevels_c (p : Post) (reads : List (List Int)) (hb : InB p reads) : CallS Try.prog 7 [.agg (postC p), sll reads] (.bool true) := by
  have k1 := few_c p reads hb
  have k2 := fault_c p reads hb
  have k3 := right_c p hb.e
  have k4 := checkPost_c p hb.e
  have k5 := levels_c p reads hb
  have k6 := breaks_c p reads hb
  cases hfew : fewB p reads
  · rw [hfew] at k1
    simp only [postC, sl, sll] at k1
    (refine callS_of_awp (fun w args => Try.call7 ..) Try.func7 rfl (fun w0 m0 wz => ?_); simp only [Try.ntmps7, Try.results7, initT, junks, postC, watchC, sll, slSt, sl, List.toList_toArray, List.cons_append, List.nil_append, List.length_cons, List.length_nil, Nat.reduceAdd, Nat.reduceSub])
    (repeat' (first
    | (refine awp_seqK ?_)
    | (refine kt ?_)
    | (refine And.intro ?_ ?_)
    | ((first | refine awp_region ?_ | refine awp_draw (by kernel_rfl) (by kernel_rfl) ?_ | refine Imp.le2 ?_ | refine awp_label ?_ | refine awp_skip ?_ | refine awp_exit ?_ | refine awp_cd ?_ | refine awp_ret ?_); simp (maxSteps := 4000000) only [go_sem, List.append_eq, List.cons_append, List.nil_append, Nat.reduceAdd, Nat.reduceMul, Nat.reduceSub, Nat.reduceLeDiff, Nat.reduceLT, Int.reduceAdd, Int.reduceToNat, Int.reduceLE, Int.reduceLT, Int.reduceNeg, reduceIte, postC, watchC, sll, slSt])
    | (intro _h)
    | (refine awp_block ?_)
    | (refine awp_scope ?_)
    | ((first | refine callK_of (awake_c) ?_ | refine callK_of (k1) ?_); try simp (maxSteps := 4000000) only [go_sem, List.append_eq, List.cons_append, List.nil_append, Nat.reduceAdd, Nat.reduceMul, Nat.reduceSub, Nat.reduceLeDiff, Nat.reduceLT, Int.reduceAdd, Int.reduceToNat, Int.reduceLE, Int.reduceLT, Int.reduceNeg, reduceIte, postC, watchC, sll, slSt])
    | (refine go_split (fun _h => ?_) (fun _h => ?_) <;> simp (maxSteps := 4000000) only [go_sem, List.append_eq, List.cons_append, List.nil_append, Nat.reduceAdd, Nat.reduceMul, Nat.reduceSub, Nat.reduceLeDiff, Nat.reduceLT, Int.reduceAdd, Int.reduceToNat, Int.reduceLE, Int.reduceLT, Int.reduceNeg, reduceIte, postC, watchC, sll, slSt])
    | (show heapOK _ _ = true; kernel_rfl)
    | (omega)))
  · rw [hfew] at k1
    have hth : thinB p reads = true := by unfold fewB at hfew; rw [Bool.and_eq_true] at hfew; exact hfew.1
    obtain ⟨t1, t2, t3⟩ := thinB_true hth
    have k7 := Post_c p (by omega)
    have k8 := rows_c reads (by omega) (fun i hi => by have := t3 i hi; omega)
    by_cases hf : faultP p reads = 0
    · obtain ⟨hp, hr⟩ := faultP_zero hf
      have hpb : postB p = true := by
        cases h : postB p with
        | true => rfl
        | false => unfold faultP at hf; rw [if_pos h] at hf; omega
      unfold levelsL levelsE at k5
      unfold breaksN breaksE at k6
      rw [if_pos hf, if_pos hf] at k5 k6
      rw [hf] at k2
      rw [hpb] at k3 k4
      rw [if_pos rfl] at k4
      have hat := fun h => atT_c p reads h hp hr
      cases hbk : brk p reads with
      | none =>
        have hall := brk_none hbk
        rw [hbk] at k5 k6
        simp only [slSt, postC, sl, sll, states_length] at k1 k2 k3 k4 k5 k6 k7 k8 hat
        (refine callS_of_awp (fun w args => Try.call7 ..) Try.func7 rfl (fun w0 m0 wz => ?_); simp only [Try.ntmps7, Try.results7, initT, junks, postC, watchC, sll, slSt, sl, List.toList_toArray, List.cons_append, List.nil_append, List.length_cons, List.length_nil, Nat.reduceAdd, Nat.reduceSub])
        (repeat' (first
    | (refine awp_seqK ?_)
    | (refine kt ?_)
    | (refine And.intro ?_ ?_)
    | ((first | refine awp_region ?_ | refine awp_draw (by kernel_rfl) (by kernel_rfl) ?_ | refine Imp.le2 ?_ | refine awp_label ?_ | refine awp_skip ?_ | refine awp_exit ?_ | refine awp_cd ?_ | refine awp_ret ?_); simp (maxSteps := 4000000) only [go_sem, List.append_eq, List.cons_append, List.nil_append, Nat.reduceAdd, Nat.reduceMul, Nat.reduceSub, Nat.reduceLeDiff, Nat.reduceLT, Int.reduceAdd, Int.reduceToNat, Int.reduceLE, Int.reduceLT, Int.reduceNeg, reduceIte, postC, watchC, sll, slSt])
    | (intro _h)
    | (refine awp_block ?_)
    | (refine awp_scope ?_)
    | ((first | refine callK_of (awake_c) ?_ | refine callK_of (k1) ?_ | refine callK_of (k2) ?_ | refine callK_of (k3) ?_ | refine callK_of (k4) ?_ | refine callK_of (k7) ?_ | refine callK_of (k8) ?_ | refine callK_of (k5) ?_ | refine callK_of (k6) ?_); try simp (maxSteps := 4000000) only [go_sem, List.append_eq, List.cons_append, List.nil_append, Nat.reduceAdd, Nat.reduceMul, Nat.reduceSub, Nat.reduceLeDiff, Nat.reduceLT, Int.reduceAdd, Int.reduceToNat, Int.reduceLE, Int.reduceLT, Int.reduceNeg, reduceIte, postC, watchC, sll, slSt])
    | (refine go_split (fun _h => ?_) (fun _h => ?_) <;> simp (maxSteps := 4000000) only [go_sem, List.append_eq, List.cons_append, List.nil_append, Nat.reduceAdd, Nat.reduceMul, Nat.reduceSub, Nat.reduceLeDiff, Nat.reduceLT, Int.reduceAdd, Int.reduceToNat, Int.reduceLE, Int.reduceLT, Int.reduceNeg, reduceIte, postC, watchC, sll, slSt])
    | (show heapOK _ _ = true; kernel_rfl)
    | (omega)))
        refine awp_loopN reads.length (fun h => ⟨mkT 145 [(1, sll reads), (2, .ptr 0 0 0), (6, .psl false reads.length (recs stC (states p reads reads.length))), (7, .int .i64 0), (8, .int .i64 0), (9, .int .i64 7), (10, .int .i64 0), (11, .int .i64 h)], [some (.cells 46 1 0 (postC p))], []⟩) (.le2 ?_) ?_
        · simp only [postC]; simp (maxSteps := 4000000) only [go_sem, List.append_eq, List.cons_append, List.nil_append, Nat.reduceAdd, Nat.reduceMul, Nat.reduceSub, Nat.reduceLeDiff, Nat.reduceLT, Int.reduceAdd, Int.reduceToNat, Int.reduceLE, Int.reduceLT, Int.reduceNeg, reduceIte, postC, watchC, sll, slSt]
        · intro h hh
          rcases Nat.lt_or_eq_of_le hh with hh1 | hh1
          · have hat := hat h hh1
            have hal := hall h hh1
            have hgs : (states p reads reads.length).getD h default = stRec p (stAt p reads h) := by
              simp [states, List.getD_eq_getElem?_getD, hh1]
            have hgl := states_length (p := p) (reads := reads) (k := reads.length)
            have hlr := hr.len
            have e0 : ((h : Int) + 1).toNat = h + 1 := by omega
            have e1 : ((h : Int) + 1 - 0).toNat = h + 1 := by omega
            generalize states p reads reads.length = L at *
            cases hs : stAt p reads h with
            | none => rw [hs] at hal; cases hal
            | some s =>
              rw [hs] at hat hgs
              simp only [aLo, hHi, hLo, stRec, Option.isSome] at hat hgs
              simp only [postC]; simp (maxSteps := 4000000) only [go_sem, List.append_eq, List.cons_append, List.nil_append, Nat.reduceAdd, Nat.reduceMul, Nat.reduceSub, Nat.reduceLeDiff, Nat.reduceLT, Int.reduceAdd, Int.reduceToNat, Int.reduceLE, Int.reduceLT, Int.reduceNeg, reduceIte, postC, watchC, sll, slSt]
              (repeat' (first
    | (refine awp_seqK ?_)
    | (refine kt ?_)
    | (refine And.intro ?_ ?_)
    | ((first | refine awp_region ?_ | refine awp_draw (by kernel_rfl) (by kernel_rfl) ?_ | refine Imp.le2 ?_ | refine awp_label ?_ | refine awp_skip ?_ | refine awp_exit ?_ | refine awp_cd ?_ | refine awp_ret ?_); simp (maxSteps := 4000000) only [go_sem, List.append_eq, List.cons_append, List.nil_append, Nat.reduceAdd, Nat.reduceMul, Nat.reduceSub, Nat.reduceLeDiff, Nat.reduceLT, Int.reduceAdd, Int.reduceToNat, Int.reduceLE, Int.reduceLT, Int.reduceNeg, reduceIte, postC, watchC, sll, slSt, e0, e1, hgs, hgl, stC, win_rows1])
    | (intro _h)
    | (refine awp_block ?_)
    | (refine awp_scope ?_)
    | ((first | refine callK_of (awake_c) ?_ | refine callK_of (hat) ?_ | refine callK_of (stateEq_c _ _ _ _ _ _) ?_); try simp (maxSteps := 4000000) only [go_sem, List.append_eq, List.cons_append, List.nil_append, Nat.reduceAdd, Nat.reduceMul, Nat.reduceSub, Nat.reduceLeDiff, Nat.reduceLT, Int.reduceAdd, Int.reduceToNat, Int.reduceLE, Int.reduceLT, Int.reduceNeg, reduceIte, postC, watchC, sll, slSt, e0, e1, hgs, hgl, stC, win_rows1])
    | (refine go_split (fun _h => ?_) (fun _h => ?_) <;> simp (maxSteps := 4000000) only [go_sem, List.append_eq, List.cons_append, List.nil_append, Nat.reduceAdd, Nat.reduceMul, Nat.reduceSub, Nat.reduceLeDiff, Nat.reduceLT, Int.reduceAdd, Int.reduceToNat, Int.reduceLE, Int.reduceLT, Int.reduceNeg, reduceIte, postC, watchC, sll, slSt, e0, e1, hgs, hgl, stC, win_rows1])
    | (show heapOK _ _ = true; kernel_rfl)
    | (omega)))
          · simp only [postC]; simp (maxSteps := 4000000) only [go_sem, List.append_eq, List.cons_append, List.nil_append, Nat.reduceAdd, Nat.reduceMul, Nat.reduceSub, Nat.reduceLeDiff, Nat.reduceLT, Int.reduceAdd, Int.reduceToNat, Int.reduceLE, Int.reduceLT, Int.reduceNeg, reduceIte, postC, watchC, sll, slSt]
            (repeat' (first
    | ((exfalso; omega))
    | (refine awp_seqK ?_)
    | (refine kt ?_)
    | (refine And.intro ?_ ?_)
    | ((first | refine awp_region ?_ | refine awp_draw (by kernel_rfl) (by kernel_rfl) ?_ | refine Imp.le2 ?_ | refine awp_label ?_ | refine awp_skip ?_ | refine awp_exit ?_ | refine awp_cd ?_ | refine awp_ret ?_); simp (maxSteps := 4000000) only [go_sem, List.append_eq, List.cons_append, List.nil_append, Nat.reduceAdd, Nat.reduceMul, Nat.reduceSub, Nat.reduceLeDiff, Nat.reduceLT, Int.reduceAdd, Int.reduceToNat, Int.reduceLE, Int.reduceLT, Int.reduceNeg, reduceIte, postC, watchC, sll, slSt])
    | (intro _h)
    | (refine awp_block ?_)
    | (refine awp_scope ?_)
    | ((first | refine callK_of (awake_c) ?_); try simp (maxSteps := 4000000) only [go_sem, List.append_eq, List.cons_append, List.nil_append, Nat.reduceAdd, Nat.reduceMul, Nat.reduceSub, Nat.reduceLeDiff, Nat.reduceLT, Int.reduceAdd, Int.reduceToNat, Int.reduceLE, Int.reduceLT, Int.reduceNeg, reduceIte, postC, watchC, sll, slSt])
    | (refine go_split (fun _h => ?_) (fun _h => ?_) <;> simp (maxSteps := 4000000) only [go_sem, List.append_eq, List.cons_append, List.nil_append, Nat.reduceAdd, Nat.reduceMul, Nat.reduceSub, Nat.reduceLeDiff, Nat.reduceLT, Int.reduceAdd, Int.reduceToNat, Int.reduceLE, Int.reduceLT, Int.reduceNeg, reduceIte, postC, watchC, sll, slSt])
    | (show heapOK _ _ = true; kernel_rfl)
    | (omega)))
      | some k =>
        obtain ⟨b1, b2, b3⟩ := brk_some hbk
        rw [hbk] at k5 k6
        simp only [slSt, postC, sl, sll, states_length, List.length_nil] at k1 k2 k3 k4 k5 k6 k7 k8 hat
        (refine callS_of_awp (fun w args => Try.call7 ..) Try.func7 rfl (fun w0 m0 wz => ?_); simp only [Try.ntmps7, Try.results7, initT, junks, postC, watchC, sll, slSt, sl, List.toList_toArray, List.cons_append, List.nil_append, List.length_cons, List.length_nil, Nat.reduceAdd, Nat.reduceSub])
        (repeat' (first
    | (refine awp_seqK ?_)
    | (refine kt ?_)
    | (refine And.intro ?_ ?_)
    | ((first | refine awp_region ?_ | refine awp_draw (by kernel_rfl) (by kernel_rfl) ?_ | refine Imp.le2 ?_ | refine awp_label ?_ | refine awp_skip ?_ | refine awp_exit ?_ | refine awp_cd ?_ | refine awp_ret ?_); simp (maxSteps := 4000000) only [go_sem, List.append_eq, List.cons_append, List.nil_append, Nat.reduceAdd, Nat.reduceMul, Nat.reduceSub, Nat.reduceLeDiff, Nat.reduceLT, Int.reduceAdd, Int.reduceToNat, Int.reduceLE, Int.reduceLT, Int.reduceNeg, reduceIte, postC, watchC, sll, slSt])
    | (intro _h)
    | (refine awp_block ?_)
    | (refine awp_scope ?_)
    | ((first | refine callK_of (awake_c) ?_ | refine callK_of (k1) ?_ | refine callK_of (k2) ?_ | refine callK_of (k3) ?_ | refine callK_of (k4) ?_ | refine callK_of (k7) ?_ | refine callK_of (k8) ?_ | refine callK_of (k5) ?_ | refine callK_of (k6) ?_); try simp (maxSteps := 4000000) only [go_sem, List.append_eq, List.cons_append, List.nil_append, Nat.reduceAdd, Nat.reduceMul, Nat.reduceSub, Nat.reduceLeDiff, Nat.reduceLT, Int.reduceAdd, Int.reduceToNat, Int.reduceLE, Int.reduceLT, Int.reduceNeg, reduceIte, postC, watchC, sll, slSt])
    | (refine go_split (fun _h => ?_) (fun _h => ?_) <;> simp (maxSteps := 4000000) only [go_sem, List.append_eq, List.cons_append, List.nil_append, Nat.reduceAdd, Nat.reduceMul, Nat.reduceSub, Nat.reduceLeDiff, Nat.reduceLT, Int.reduceAdd, Int.reduceToNat, Int.reduceLE, Int.reduceLT, Int.reduceNeg, reduceIte, postC, watchC, sll, slSt])
    | (show heapOK _ _ = true; kernel_rfl)
    | (omega)))
        refine awp_loopN k (fun h => ⟨mkT 145 [(1, sll reads), (2, .ptr 0 0 0), (6, .psl false 0 (recs stC [])), (7, .int .i64 9), (8, .int .i64 k), (9, .int .i64 0), (10, .int .i64 0), (11, .int .i64 h)], [some (.cells 46 1 0 (postC p))], []⟩) (.le2 ?_) ?_
        · simp only [postC]; simp (maxSteps := 4000000) only [go_sem, List.append_eq, List.cons_append, List.nil_append, Nat.reduceAdd, Nat.reduceMul, Nat.reduceSub, Nat.reduceLeDiff, Nat.reduceLT, Int.reduceAdd, Int.reduceToNat, Int.reduceLE, Int.reduceLT, Int.reduceNeg, reduceIte, postC, watchC, sll, slSt]
        · intro h hh
          have hat := hat h (by omega)
          have hlr := hr.len
          have e0 : ((h : Int) + 1).toNat = h + 1 := by omega
          have e1 : ((h : Int) + 1 - 0).toNat = h + 1 := by omega
          rcases Nat.lt_or_eq_of_le hh with hh1 | hh1
          · have hal := b3 h hh1
            rw [hal] at hat
            simp only [postC]; simp (maxSteps := 4000000) only [go_sem, List.append_eq, List.cons_append, List.nil_append, Nat.reduceAdd, Nat.reduceMul, Nat.reduceSub, Nat.reduceLeDiff, Nat.reduceLT, Int.reduceAdd, Int.reduceToNat, Int.reduceLE, Int.reduceLT, Int.reduceNeg, reduceIte, postC, watchC, sll, slSt]
            (repeat' (first
    | (refine awp_seqK ?_)
    | (refine kt ?_)
    | (refine And.intro ?_ ?_)
    | ((first | refine awp_region ?_ | refine awp_draw (by kernel_rfl) (by kernel_rfl) ?_ | refine Imp.le2 ?_ | refine awp_label ?_ | refine awp_skip ?_ | refine awp_exit ?_ | refine awp_cd ?_ | refine awp_ret ?_); simp (maxSteps := 4000000) only [go_sem, List.append_eq, List.cons_append, List.nil_append, Nat.reduceAdd, Nat.reduceMul, Nat.reduceSub, Nat.reduceLeDiff, Nat.reduceLT, Int.reduceAdd, Int.reduceToNat, Int.reduceLE, Int.reduceLT, Int.reduceNeg, reduceIte, postC, watchC, sll, slSt, e0, e1, win_rows1])
    | (intro _h)
    | (refine awp_block ?_)
    | (refine awp_scope ?_)
    | ((first | refine callK_of (awake_c) ?_ | refine callK_of (hat) ?_); try simp (maxSteps := 4000000) only [go_sem, List.append_eq, List.cons_append, List.nil_append, Nat.reduceAdd, Nat.reduceMul, Nat.reduceSub, Nat.reduceLeDiff, Nat.reduceLT, Int.reduceAdd, Int.reduceToNat, Int.reduceLE, Int.reduceLT, Int.reduceNeg, reduceIte, postC, watchC, sll, slSt, e0, e1, win_rows1])
    | (refine go_split (fun _h => ?_) (fun _h => ?_) <;> simp (maxSteps := 4000000) only [go_sem, List.append_eq, List.cons_append, List.nil_append, Nat.reduceAdd, Nat.reduceMul, Nat.reduceSub, Nat.reduceLeDiff, Nat.reduceLT, Int.reduceAdd, Int.reduceToNat, Int.reduceLE, Int.reduceLT, Int.reduceNeg, reduceIte, postC, watchC, sll, slSt, e0, e1, win_rows1])
    | (show heapOK _ _ = true; kernel_rfl)
    | (omega)))
          · rw [hh1, b2] at hat
            simp only [Option.isSome] at hat
            simp only [postC]; simp (maxSteps := 4000000) only [go_sem, List.append_eq, List.cons_append, List.nil_append, Nat.reduceAdd, Nat.reduceMul, Nat.reduceSub, Nat.reduceLeDiff, Nat.reduceLT, Int.reduceAdd, Int.reduceToNat, Int.reduceLE, Int.reduceLT, Int.reduceNeg, reduceIte, postC, watchC, sll, slSt]
            (repeat' (first
    | ((rw [hh1]))
    | (refine awp_seqK ?_)
    | (refine kt ?_)
    | (refine And.intro ?_ ?_)
    | ((first | refine awp_region ?_ | refine awp_draw (by kernel_rfl) (by kernel_rfl) ?_ | refine Imp.le2 ?_ | refine awp_label ?_ | refine awp_skip ?_ | refine awp_exit ?_ | refine awp_cd ?_ | refine awp_ret ?_); simp (maxSteps := 4000000) only [go_sem, List.append_eq, List.cons_append, List.nil_append, Nat.reduceAdd, Nat.reduceMul, Nat.reduceSub, Nat.reduceLeDiff, Nat.reduceLT, Int.reduceAdd, Int.reduceToNat, Int.reduceLE, Int.reduceLT, Int.reduceNeg, reduceIte, postC, watchC, sll, slSt, e0, e1, win_rows1])
    | (intro _h)
    | (refine awp_block ?_)
    | (refine awp_scope ?_)
    | ((first | refine callK_of (awake_c) ?_ | refine callK_of (hat) ?_); try simp (maxSteps := 4000000) only [go_sem, List.append_eq, List.cons_append, List.nil_append, Nat.reduceAdd, Nat.reduceMul, Nat.reduceSub, Nat.reduceLeDiff, Nat.reduceLT, Int.reduceAdd, Int.reduceToNat, Int.reduceLE, Int.reduceLT, Int.reduceNeg, reduceIte, postC, watchC, sll, slSt, e0, e1, win_rows1])
    | (refine go_split (fun _h => ?_) (fun _h => ?_) <;> simp (maxSteps := 4000000) only [go_sem, List.append_eq, List.cons_append, List.nil_append, Nat.reduceAdd, Nat.reduceMul, Nat.reduceSub, Nat.reduceLeDiff, Nat.reduceLT, Int.reduceAdd, Int.reduceToNat, Int.reduceLE, Int.reduceLT, Int.reduceNeg, reduceIte, postC, watchC, sll, slSt, e0, e1, win_rows1])
    | (show heapOK _ _ = true; kernel_rfl)
    | (omega)))
    · unfold levelsL levelsE at k5
      unfold breaksN breaksE at k6
      rw [if_neg hf, if_neg hf] at k5 k6
      simp only [slSt, postC, sl, sll, List.length_nil] at k1 k2 k3 k4 k5 k6 k7 k8
      have hff : faultP p reads = if postB p = false then 1 else faultP p reads := by unfold faultP; split <;> simp_all
      generalize faultP p reads = f at *
      cases hpb : postB p
      · rw [hpb] at k3 k4
        rw [if_neg (by simp)] at k4
        (refine callS_of_awp (fun w args => Try.call7 ..) Try.func7 rfl (fun w0 m0 wz => ?_); simp only [Try.ntmps7, Try.results7, initT, junks, postC, watchC, sll, slSt, sl, List.toList_toArray, List.cons_append, List.nil_append, List.length_cons, List.length_nil, Nat.reduceAdd, Nat.reduceSub])
        (repeat' (first
    | (refine awp_seqK ?_)
    | (refine kt ?_)
    | (refine And.intro ?_ ?_)
    | ((first | refine awp_region ?_ | refine awp_draw (by kernel_rfl) (by kernel_rfl) ?_ | refine Imp.le2 ?_ | refine awp_label ?_ | refine awp_skip ?_ | refine awp_exit ?_ | refine awp_cd ?_ | refine awp_ret ?_); simp (maxSteps := 4000000) only [go_sem, List.append_eq, List.cons_append, List.nil_append, Nat.reduceAdd, Nat.reduceMul, Nat.reduceSub, Nat.reduceLeDiff, Nat.reduceLT, Int.reduceAdd, Int.reduceToNat, Int.reduceLE, Int.reduceLT, Int.reduceNeg, reduceIte, postC, watchC, sll, slSt])
    | (intro _h)
    | (refine awp_block ?_)
    | (refine awp_scope ?_)
    | ((first | refine callK_of (awake_c) ?_ | refine callK_of (k1) ?_ | refine callK_of (k2) ?_ | refine callK_of (k3) ?_ | refine callK_of (k4) ?_ | refine callK_of (k7) ?_ | refine callK_of (k8) ?_ | refine callK_of (k5) ?_ | refine callK_of (k6) ?_); try simp (maxSteps := 4000000) only [go_sem, List.append_eq, List.cons_append, List.nil_append, Nat.reduceAdd, Nat.reduceMul, Nat.reduceSub, Nat.reduceLeDiff, Nat.reduceLT, Int.reduceAdd, Int.reduceToNat, Int.reduceLE, Int.reduceLT, Int.reduceNeg, reduceIte, postC, watchC, sll, slSt])
    | (refine go_split (fun _h => ?_) (fun _h => ?_) <;> simp (maxSteps := 4000000) only [go_sem, List.append_eq, List.cons_append, List.nil_append, Nat.reduceAdd, Nat.reduceMul, Nat.reduceSub, Nat.reduceLeDiff, Nat.reduceLT, Int.reduceAdd, Int.reduceToNat, Int.reduceLE, Int.reduceLT, Int.reduceNeg, reduceIte, postC, watchC, sll, slSt])
    | (show heapOK _ _ = true; kernel_rfl)
    | (omega)))
        all_goals first | rfl | contradiction | trace_state
      · rw [hpb] at k3 k4
        rw [if_pos rfl] at k4
        (refine callS_of_awp (fun w args => Try.call7 ..) Try.func7 rfl (fun w0 m0 wz => ?_); simp only [Try.ntmps7, Try.results7, initT, junks, postC, watchC, sll, slSt, sl, List.toList_toArray, List.cons_append, List.nil_append, List.length_cons, List.length_nil, Nat.reduceAdd, Nat.reduceSub])
        (repeat' (first
    | (refine awp_seqK ?_)
    | (refine kt ?_)
    | (refine And.intro ?_ ?_)
    | ((first | refine awp_region ?_ | refine awp_draw (by kernel_rfl) (by kernel_rfl) ?_ | refine Imp.le2 ?_ | refine awp_label ?_ | refine awp_skip ?_ | refine awp_exit ?_ | refine awp_cd ?_ | refine awp_ret ?_); simp (maxSteps := 4000000) only [go_sem, List.append_eq, List.cons_append, List.nil_append, Nat.reduceAdd, Nat.reduceMul, Nat.reduceSub, Nat.reduceLeDiff, Nat.reduceLT, Int.reduceAdd, Int.reduceToNat, Int.reduceLE, Int.reduceLT, Int.reduceNeg, reduceIte, postC, watchC, sll, slSt])
    | (intro _h)
    | (refine awp_block ?_)
    | (refine awp_scope ?_)
    | ((first | refine callK_of (awake_c) ?_ | refine callK_of (k1) ?_ | refine callK_of (k2) ?_ | refine callK_of (k3) ?_ | refine callK_of (k4) ?_ | refine callK_of (k7) ?_ | refine callK_of (k8) ?_ | refine callK_of (k5) ?_ | refine callK_of (k6) ?_); try simp (maxSteps := 4000000) only [go_sem, List.append_eq, List.cons_append, List.nil_append, Nat.reduceAdd, Nat.reduceMul, Nat.reduceSub, Nat.reduceLeDiff, Nat.reduceLT, Int.reduceAdd, Int.reduceToNat, Int.reduceLE, Int.reduceLT, Int.reduceNeg, reduceIte, postC, watchC, sll, slSt])
    | (refine go_split (fun _h => ?_) (fun _h => ?_) <;> simp (maxSteps := 4000000) only [go_sem, List.append_eq, List.cons_append, List.nil_append, Nat.reduceAdd, Nat.reduceMul, Nat.reduceSub, Nat.reduceLeDiff, Nat.reduceLT, Int.reduceAdd, Int.reduceToNat, Int.reduceLE, Int.reduceLT, Int.reduceNeg, reduceIte, postC, watchC, sll, slSt])
    | (show heapOK _ _ = true; kernel_rfl)
    | (omega)))
        all_goals first | rfl | contradiction | trace_state
end Go.Am

/- The law AlarmFails, as a contract: it returns true. -/
namespace Go.Am
open Go.RowKit Go.Proofs
attribute [local irreducible] AWP CallS Kt goK CallK stepK evOps SemF SemY Imp
set_option maxRecDepth 4000
set_option linter.unusedSimpArgs false
set_option linter.unusedVariables false
set_option maxHeartbeats 1600000

theorem any_may {p : Post} {reads : List (List Int)} {f : Int} {k : Nat} : (mayL p reads f k).any id = (gAt p reads k f).isSome := by
  cases hg : gAt p reads k f with
  | none =>
    simp only [Option.isSome, List.any_eq_false]
    intro x hx
    simp only [mayL, hg, tab, List.mem_map, inE] at hx
    obtain ⟨_, _, rfl⟩ := hx
    simp
  | some x =>
    have hx := gAt_ok k f x hg
    simp only [Option.isSome, List.any_eq_true]
    refine ⟨true, ?_, rfl⟩
    simp only [mayL, hg, tab, List.mem_map, List.mem_range, inE]
    exact ⟨x.1.toNat, by omega, decide_eq_true (by omega)⟩
theorem hull_none {g : Int → Option (Int × Int)} : ∀ n, hull g n = none ↔ ∀ i : Nat, i < n → g ((i : Int) - 1) = none
  | 0 => by simp [hull]
  | n + 1 => by
    simp only [hull]
    cases hg : g ((n : Int) - 1) with
    | none =>
      simp only
      rw [hull_none n]
      exact ⟨fun h i hi => by
        rcases Nat.lt_or_eq_of_le (Nat.le_of_lt_succ hi) with h1 | h1
        · exact h i h1
        · subst h1; exact hg, fun h i hi => h i (by omega)⟩
    | some x =>
      simp only [reduceCtorEq, false_iff]
      intro h
      rw [h n (by omega)] at hg; cases hg
theorem flist_nil {g : Int → Option (Int × Int)} : ∀ n, flist g n = [] ↔ hull g n = none
  | 0 => by simp [flist, hull]
  | n + 1 => by
    simp only [flist, hull]
    cases g ((n : Int) - 1) with
    | none => exact flist_nil n
    | some x => simp
theorem gAt_none {p : Post} {reads : List (List Int)} {f : Int} {k : Nat} (h : gAt p reads k f = none) : ∀ m, gAt p reads (k + m) f = none
  | 0 => h
  | m + 1 => by
    show stepG p _ _ (gAt p reads (k + m)) f = none
    simp [stepG, gAt_none h m]
/-- Whether a post breaks is seen in the end. -/
theorem brk_end {p : Post} {reads : List (List Int)} : (brk p reads).isSome = (hull (gAt p reads reads.length) (p.errs.length + 1)).isNone := by
  cases hb : brk p reads with
  | none =>
    have := brk_none hb
    cases hl : reads.length with
    | zero =>
      have : ¬ hull (gAt p reads 0) (p.errs.length + 1) = none := by
        rw [hull_none]
        intro h
        have := h 0 (by omega)
        simp [gAt] at this
      cases hh : hull (gAt p reads 0) (p.errs.length + 1) with
      | none => exact absurd hh this
      | some x => rfl
    | succ n =>
      have h1 := this n (by omega)
      unfold stAt at h1
      cases hh : hull (gAt p reads (n + 1)) (p.errs.length + 1) with
      | none => rw [hh] at h1; cases h1
      | some x => rfl
  | some k =>
    obtain ⟨h1, h2, _⟩ := brk_some hb
    unfold stAt at h2
    rw [hull_none] at h2
    have : hull (gAt p reads reads.length) (p.errs.length + 1) = none := by
      rw [hull_none]
      intro i hi
      have := gAt_none (h2 i hi) (reads.length - (k + 1))
      rwa [show k + 1 + (reads.length - (k + 1)) = reads.length by omega] at this
    rw [this]; rfl

theorem alarmFails_c (p : Post) (reads : List (List Int)) (f : Int) (sp : List Int) (hb : InB p reads) (hs : sp.length ≤ 9223372036854775807) : CallS Try.prog 8 [.agg (postC p), sll reads, .int .i64 f, sl sp] (.bool true) := by
  have k1 := few_c p reads hb
  have k2 := fault_c p reads hb
  have k3 := failed_c p reads hb
  have k4 := prove_c p reads f sp hb hs
  cases hfew : fewB p reads
  · rw [hfew] at k1
    simp only [postC, sl, sll] at k1
    (refine callS_of_awp (fun w args => Try.call8 ..) Try.func8 rfl (fun w0 m0 wz => ?_); simp only [Try.ntmps8, Try.results8, initT, junks, postC, watchC, sll, slSt, sl, List.toList_toArray, List.cons_append, List.nil_append, List.length_cons, List.length_nil, Nat.reduceAdd, Nat.reduceSub])
    (repeat' (first
    | (refine awp_seqK ?_)
    | (refine kt ?_)
    | (refine And.intro ?_ ?_)
    | ((first | refine awp_region ?_ | refine awp_draw (by kernel_rfl) (by kernel_rfl) ?_ | refine Imp.le2 ?_ | refine awp_label ?_ | refine awp_skip ?_ | refine awp_exit ?_ | refine awp_cd ?_ | refine awp_ret ?_); simp (maxSteps := 4000000) only [go_sem, List.append_eq, List.cons_append, List.nil_append, Nat.reduceAdd, Nat.reduceMul, Nat.reduceSub, Nat.reduceLeDiff, Nat.reduceLT, Int.reduceAdd, Int.reduceToNat, Int.reduceLE, Int.reduceLT, Int.reduceNeg, reduceIte, postC, watchC, sll, slSt])
    | (intro _h)
    | (refine awp_block ?_)
    | (refine awp_scope ?_)
    | ((first | refine callK_of (awake_c) ?_ | refine callK_of (k1) ?_); try simp (maxSteps := 4000000) only [go_sem, List.append_eq, List.cons_append, List.nil_append, Nat.reduceAdd, Nat.reduceMul, Nat.reduceSub, Nat.reduceLeDiff, Nat.reduceLT, Int.reduceAdd, Int.reduceToNat, Int.reduceLE, Int.reduceLT, Int.reduceNeg, reduceIte, postC, watchC, sll, slSt])
    | (refine go_split (fun _h => ?_) (fun _h => ?_) <;> simp (maxSteps := 4000000) only [go_sem, List.append_eq, List.cons_append, List.nil_append, Nat.reduceAdd, Nat.reduceMul, Nat.reduceSub, Nat.reduceLeDiff, Nat.reduceLT, Int.reduceAdd, Int.reduceToNat, Int.reduceLE, Int.reduceLT, Int.reduceNeg, reduceIte, postC, watchC, sll, slSt])
    | (show heapOK _ _ = true; kernel_rfl)
    | (omega)))
  · rw [hfew] at k1
    have hth : thinB p reads = true := by unfold fewB at hfew; rw [Bool.and_eq_true] at hfew; exact hfew.1
    obtain ⟨t1, t2, t3⟩ := thinB_true hth
    have k7 := Post_c p (by omega)
    have k8 := rows_c reads (by omega) (fun i hi => by have := t3 i hi; omega)
    have k9 := fun h : sp.length ≤ 65 => list_c sp (by omega)
    by_cases hf : faultP p reads = 0
    · obtain ⟨hp, hr⟩ := faultP_zero hf
      have kr := refTruth_c p reads f sp hf hs
      have km := fun f => may_c p reads f hp hr
      have ka := fun f => any_c (mayL p reads f reads.length) (by rw [mayL_length]; omega)
      simp only [any_may, mayL_length] at ka
      have hpl := hp.len
      rw [hf] at k2
      have hbe := brk_end (p := p) (reads := reads)
      have hfn := flist_nil (g := gAt p reads reads.length) (p.errs.length + 1)
      have hfl := flist_le (g := gAt p reads reads.length)
      have ki := ints_c (flist (gAt p reads reads.length) (p.errs.length + 1)) (flist (gAt p reads reads.length) (p.errs.length + 1)) (by have := hfl (p.errs.length + 1); omega)
      have hres : (failedL p reads = flist (gAt p reads reads.length) (p.errs.length + 1) ∧ levelsE p reads = 0 ∧ flist (gAt p reads reads.length) (p.errs.length + 1) ≠ []) ∨ (failedL p reads = [] ∧ levelsE p reads = 9 ∧ flist (gAt p reads reads.length) (p.errs.length + 1) = []) := by
        unfold failedL levelsE
        rw [if_pos hf, if_pos hf]
        cases hbk : brk p reads with
        | none => rw [hbk] at hbe; exact .inl ⟨rfl, rfl, fun h => by rw [hfn.1 h] at hbe; cases hbe⟩
        | some k =>
          rw [hbk] at hbe
          refine .inr ⟨rfl, rfl, hfn.2 ?_⟩
          cases hh : hull (gAt p reads reads.length) (p.errs.length + 1) with
          | none => rfl
          | some x => rw [hh] at hbe; cases hbe
      clear hbe hfn
      have hsu : ∀ i : Nat, flist (gAt p reads reads.length) (i + 1) = match gAt p reads reads.length ((i : Int) - 1) with | none => flist (gAt p reads reads.length) i | some _ => flist (gAt p reads reads.length) i ++ [(i : Int) - 1] := fun _ => rfl
      generalize proveB p reads f sp = pb at *
      generalize failedL p reads = F at *
      generalize levelsE p reads = E at *
      simp only [postC, sl, sll, decide_true] at k1 k2 k3 k4 k7 k8 k9 kr km ki
      (refine callS_of_awp (fun w args => Try.call8 ..) Try.func8 rfl (fun w0 m0 wz => ?_); simp only [Try.ntmps8, Try.results8, initT, junks, postC, watchC, sll, slSt, sl, List.toList_toArray, List.cons_append, List.nil_append, List.length_cons, List.length_nil, Nat.reduceAdd, Nat.reduceSub])
      (repeat' (first
    | (refine awp_seqK ?_)
    | (refine kt ?_)
    | (refine And.intro ?_ ?_)
    | ((first | refine awp_region ?_ | refine awp_draw (by kernel_rfl) (by kernel_rfl) ?_ | refine Imp.le2 ?_ | refine awp_label ?_ | refine awp_skip ?_ | refine awp_exit ?_ | refine awp_cd ?_ | refine awp_ret ?_); simp (maxSteps := 4000000) only [go_sem, List.append_eq, List.cons_append, List.nil_append, Nat.reduceAdd, Nat.reduceMul, Nat.reduceSub, Nat.reduceLeDiff, Nat.reduceLT, Int.reduceAdd, Int.reduceToNat, Int.reduceLE, Int.reduceLT, Int.reduceNeg, reduceIte, postC, watchC, sll, slSt])
    | (intro _h)
    | (refine awp_block ?_)
    | (refine awp_scope ?_)
    | ((first | refine callK_of (awake_c) ?_ | refine callK_of (k1) ?_ | refine callK_of (k2) ?_ | refine callK_of (k7) ?_ | refine callK_of (k8) ?_ | refine callK_of (k9 (by omega)) ?_ | refine callK_of (k3) ?_ | refine callK_of (k4) ?_ | refine callK_of (kr) ?_); try simp (maxSteps := 4000000) only [go_sem, List.append_eq, List.cons_append, List.nil_append, Nat.reduceAdd, Nat.reduceMul, Nat.reduceSub, Nat.reduceLeDiff, Nat.reduceLT, Int.reduceAdd, Int.reduceToNat, Int.reduceLE, Int.reduceLT, Int.reduceNeg, reduceIte, postC, watchC, sll, slSt])
    | (refine go_split (fun _h => ?_) (fun _h => ?_) <;> simp (maxSteps := 4000000) only [go_sem, List.append_eq, List.cons_append, List.nil_append, Nat.reduceAdd, Nat.reduceMul, Nat.reduceSub, Nat.reduceLeDiff, Nat.reduceLT, Int.reduceAdd, Int.reduceToNat, Int.reduceLE, Int.reduceLT, Int.reduceNeg, reduceIte, postC, watchC, sll, slSt])
    | (show heapOK _ _ = true; kernel_rfl)
    | (omega)))
      all_goals first
        | (simp_all; done)
        | skip
      all_goals (
        (refine awp_adT 13 3 1 rfl ?_; simp only [adT, lset, hset, List.length_cons, List.length_nil, Nat.reduceAdd])
        refine awp_loopN (p.errs.length + 1) (fun i => ⟨mkT 99 [(1, sll reads), (2, .int .i64 f), (3, sl sp), (4, .ptr 0 0 0), (9, sl F), (10, .int .i64 E), (12, .int .i64 0), (13, .osl 1 (flist (gAt p reads reads.length) i).length 0 (flist (gAt p reads reads.length) i).length), (14, .int .i64 ((i : Int) - 1))], [some (.cells 46 1 0 (postC p)), some (.cells 3 1 (flist (gAt p reads reads.length) i).length (ints (flist (gAt p reads reads.length) i)))], []⟩) (.le2 ?_) ?_
        · simp only [postC, flist]; simp (maxSteps := 4000000) only [go_sem, List.append_eq, List.cons_append, List.nil_append, Nat.reduceAdd, Nat.reduceMul, Nat.reduceSub, Nat.reduceLeDiff, Nat.reduceLT, Int.reduceAdd, Int.reduceToNat, Int.reduceLE, Int.reduceLT, Int.reduceNeg, reduceIte, postC, watchC, sll, slSt]
          rfl
        · intro i hi
          have km := km ((i : Int) - 1)
          have ka := ka ((i : Int) - 1)
          have hsu := hsu i
          have hfl := hfl i
          rcases Nat.lt_or_eq_of_le hi with hi1 | hi1
          · cases hg : gAt p reads reads.length ((i : Int) - 1) with
            | none =>
              rw [hg] at ka hsu
              simp only [Option.isSome] at ka hsu
              simp only [postC]; simp (maxSteps := 4000000) only [go_sem, List.append_eq, List.cons_append, List.nil_append, Nat.reduceAdd, Nat.reduceMul, Nat.reduceSub, Nat.reduceLeDiff, Nat.reduceLT, Int.reduceAdd, Int.reduceToNat, Int.reduceLE, Int.reduceLT, Int.reduceNeg, reduceIte, postC, watchC, sll, slSt]
              (repeat' (first
    | (refine awp_seqK ?_)
    | (refine kt ?_)
    | (refine And.intro ?_ ?_)
    | ((first | refine awp_region ?_ | refine awp_draw (by kernel_rfl) (by kernel_rfl) ?_ | refine Imp.le2 ?_ | refine awp_label ?_ | refine awp_skip ?_ | refine awp_exit ?_ | refine awp_cd ?_ | refine awp_ret ?_); simp (maxSteps := 4000000) only [go_sem, List.append_eq, List.cons_append, List.nil_append, Nat.reduceAdd, Nat.reduceMul, Nat.reduceSub, Nat.reduceLeDiff, Nat.reduceLT, Int.reduceAdd, Int.reduceToNat, Int.reduceLE, Int.reduceLT, Int.reduceNeg, reduceIte, postC, watchC, sll, slSt])
    | (intro _h)
    | (refine awp_block ?_)
    | (refine awp_scope ?_)
    | ((first | refine callK_of (km) ?_ | refine callK_of (ka) ?_); try simp (maxSteps := 4000000) only [go_sem, List.append_eq, List.cons_append, List.nil_append, Nat.reduceAdd, Nat.reduceMul, Nat.reduceSub, Nat.reduceLeDiff, Nat.reduceLT, Int.reduceAdd, Int.reduceToNat, Int.reduceLE, Int.reduceLT, Int.reduceNeg, reduceIte, postC, watchC, sll, slSt])
    | (refine go_split (fun _h => ?_) (fun _h => ?_) <;> simp (maxSteps := 4000000) only [go_sem, List.append_eq, List.cons_append, List.nil_append, Nat.reduceAdd, Nat.reduceMul, Nat.reduceSub, Nat.reduceLeDiff, Nat.reduceLT, Int.reduceAdd, Int.reduceToNat, Int.reduceLE, Int.reduceLT, Int.reduceNeg, reduceIte, postC, watchC, sll, slSt])
    | (show heapOK _ _ = true; kernel_rfl)
    | (omega)))
              all_goals (rw [hsu])
            | some x =>
              rw [hg] at ka hsu
              simp only [Option.isSome] at ka hsu
              simp only [postC]; simp (maxSteps := 4000000) only [go_sem, List.append_eq, List.cons_append, List.nil_append, Nat.reduceAdd, Nat.reduceMul, Nat.reduceSub, Nat.reduceLeDiff, Nat.reduceLT, Int.reduceAdd, Int.reduceToNat, Int.reduceLE, Int.reduceLT, Int.reduceNeg, reduceIte, postC, watchC, sll, slSt]
              (repeat' (first
    | (refine awp_seqK ?_)
    | (refine kt ?_)
    | (refine And.intro ?_ ?_)
    | ((first | refine awp_region ?_ | refine awp_draw (by kernel_rfl) (by kernel_rfl) ?_ | refine Imp.le2 ?_ | refine awp_label ?_ | refine awp_skip ?_ | refine awp_exit ?_ | refine awp_cd ?_ | refine awp_ret ?_); simp (maxSteps := 4000000) only [go_sem, List.append_eq, List.cons_append, List.nil_append, Nat.reduceAdd, Nat.reduceMul, Nat.reduceSub, Nat.reduceLeDiff, Nat.reduceLT, Int.reduceAdd, Int.reduceToNat, Int.reduceLE, Int.reduceLT, Int.reduceNeg, reduceIte, postC, watchC, sll, slSt])
    | (intro _h)
    | (refine awp_block ?_)
    | (refine awp_scope ?_)
    | ((first | refine callK_of (km) ?_ | refine callK_of (ka) ?_); try simp (maxSteps := 4000000) only [go_sem, List.append_eq, List.cons_append, List.nil_append, Nat.reduceAdd, Nat.reduceMul, Nat.reduceSub, Nat.reduceLeDiff, Nat.reduceLT, Int.reduceAdd, Int.reduceToNat, Int.reduceLE, Int.reduceLT, Int.reduceNeg, reduceIte, postC, watchC, sll, slSt])
    | (refine go_split (fun _h => ?_) (fun _h => ?_) <;> simp (maxSteps := 4000000) only [go_sem, List.append_eq, List.cons_append, List.nil_append, Nat.reduceAdd, Nat.reduceMul, Nat.reduceSub, Nat.reduceLeDiff, Nat.reduceLT, Int.reduceAdd, Int.reduceToNat, Int.reduceLE, Int.reduceLT, Int.reduceNeg, reduceIte, postC, watchC, sll, slSt])
    | (show heapOK _ _ = true; kernel_rfl)
    | (omega)))
              all_goals (rw [hsu]; simp [ints_append, ints_cons, ints_nil]; done)
          · rw [hi1]
            generalize flist (gAt p reads reads.length) (p.errs.length + 1) = L at *
            rcases hres with ⟨r1, r2, r3⟩ | ⟨r1, r2, r3⟩
            · have hne : ¬ L.length = 0 := fun h => r3 (List.eq_nil_of_length_eq_zero h)
              subst r1; subst r2
              simp only [postC]; simp (maxSteps := 4000000) only [go_sem, List.append_eq, List.cons_append, List.nil_append, Nat.reduceAdd, Nat.reduceMul, Nat.reduceSub, Nat.reduceLeDiff, Nat.reduceLT, Int.reduceAdd, Int.reduceToNat, Int.reduceLE, Int.reduceLT, Int.reduceNeg, reduceIte, postC, watchC, sll, slSt]
              (refine awp_frz 1 rfl (by simp (maxSteps := 4000000) only [go_sem, List.append_eq, List.cons_append, List.nil_append, Nat.reduceAdd, Nat.reduceMul, Nat.reduceSub, Nat.reduceLeDiff, Nat.reduceLT, Int.reduceAdd, Int.reduceToNat, Int.reduceLE, Int.reduceLT, Int.reduceNeg, reduceIte, postC, watchC, sll, slSt]) (fun _ => rfl) ?_; simp only [frz, fzl, fz2, fz1, fz0, fzH, fzHs, fzO, fzB, List.map_cons, List.map_nil, if_true, if_false, reduceIte, Nat.reduceEqDiff, Nat.reduceAdd, Nat.succ_ne_self, Nat.zero_ne_one, Nat.one_ne_zero, reduceCtorEq, and_self])
              (repeat' (first
    | ((exfalso; omega))
    | (refine awp_seqK ?_)
    | (refine kt ?_)
    | (refine And.intro ?_ ?_)
    | ((first | refine awp_region ?_ | refine awp_draw (by kernel_rfl) (by kernel_rfl) ?_ | refine Imp.le2 ?_ | refine awp_label ?_ | refine awp_skip ?_ | refine awp_exit ?_ | refine awp_cd ?_ | refine awp_ret ?_); simp (maxSteps := 4000000) only [go_sem, List.append_eq, List.cons_append, List.nil_append, Nat.reduceAdd, Nat.reduceMul, Nat.reduceSub, Nat.reduceLeDiff, Nat.reduceLT, Int.reduceAdd, Int.reduceToNat, Int.reduceLE, Int.reduceLT, Int.reduceNeg, reduceIte, postC, watchC, sll, slSt])
    | (intro _h)
    | (refine awp_block ?_)
    | (refine awp_scope ?_)
    | ((first | refine callK_of (awake_c) ?_ | refine callK_of (ki) ?_); try simp (maxSteps := 4000000) only [go_sem, List.append_eq, List.cons_append, List.nil_append, Nat.reduceAdd, Nat.reduceMul, Nat.reduceSub, Nat.reduceLeDiff, Nat.reduceLT, Int.reduceAdd, Int.reduceToNat, Int.reduceLE, Int.reduceLT, Int.reduceNeg, reduceIte, postC, watchC, sll, slSt])
    | (refine go_split (fun _h => ?_) (fun _h => ?_) <;> simp (maxSteps := 4000000) only [go_sem, List.append_eq, List.cons_append, List.nil_append, Nat.reduceAdd, Nat.reduceMul, Nat.reduceSub, Nat.reduceLeDiff, Nat.reduceLT, Int.reduceAdd, Int.reduceToNat, Int.reduceLE, Int.reduceLT, Int.reduceNeg, reduceIte, postC, watchC, sll, slSt])
    | (show heapOK _ _ = true; kernel_rfl)
    | (omega)))
              all_goals trace_state
            · have hne : L.length = 0 := by rw [r3]; rfl
              have hnf : F.length = 0 := by rw [r1]; rfl
              subst r2
              simp only [postC]; simp (maxSteps := 4000000) only [go_sem, List.append_eq, List.cons_append, List.nil_append, Nat.reduceAdd, Nat.reduceMul, Nat.reduceSub, Nat.reduceLeDiff, Nat.reduceLT, Int.reduceAdd, Int.reduceToNat, Int.reduceLE, Int.reduceLT, Int.reduceNeg, reduceIte, postC, watchC, sll, slSt]
              (refine awp_frz 1 rfl (by simp (maxSteps := 4000000) only [go_sem, List.append_eq, List.cons_append, List.nil_append, Nat.reduceAdd, Nat.reduceMul, Nat.reduceSub, Nat.reduceLeDiff, Nat.reduceLT, Int.reduceAdd, Int.reduceToNat, Int.reduceLE, Int.reduceLT, Int.reduceNeg, reduceIte, postC, watchC, sll, slSt]) (fun _ => rfl) ?_; simp only [frz, fzl, fz2, fz1, fz0, fzH, fzHs, fzO, fzB, List.map_cons, List.map_nil, if_true, if_false, reduceIte, Nat.reduceEqDiff, Nat.reduceAdd, Nat.succ_ne_self, Nat.zero_ne_one, Nat.one_ne_zero, reduceCtorEq, and_self])
              (repeat' (first
    | ((exfalso; omega))
    | (refine awp_seqK ?_)
    | (refine kt ?_)
    | (refine And.intro ?_ ?_)
    | ((first | refine awp_region ?_ | refine awp_draw (by kernel_rfl) (by kernel_rfl) ?_ | refine Imp.le2 ?_ | refine awp_label ?_ | refine awp_skip ?_ | refine awp_exit ?_ | refine awp_cd ?_ | refine awp_ret ?_); simp (maxSteps := 4000000) only [go_sem, List.append_eq, List.cons_append, List.nil_append, Nat.reduceAdd, Nat.reduceMul, Nat.reduceSub, Nat.reduceLeDiff, Nat.reduceLT, Int.reduceAdd, Int.reduceToNat, Int.reduceLE, Int.reduceLT, Int.reduceNeg, reduceIte, postC, watchC, sll, slSt])
    | (intro _h)
    | (refine awp_block ?_)
    | (refine awp_scope ?_)
    | ((first | refine callK_of (awake_c) ?_ | refine callK_of (ki) ?_); try simp (maxSteps := 4000000) only [go_sem, List.append_eq, List.cons_append, List.nil_append, Nat.reduceAdd, Nat.reduceMul, Nat.reduceSub, Nat.reduceLeDiff, Nat.reduceLT, Int.reduceAdd, Int.reduceToNat, Int.reduceLE, Int.reduceLT, Int.reduceNeg, reduceIte, postC, watchC, sll, slSt])
    | (refine go_split (fun _h => ?_) (fun _h => ?_) <;> simp (maxSteps := 4000000) only [go_sem, List.append_eq, List.cons_append, List.nil_append, Nat.reduceAdd, Nat.reduceMul, Nat.reduceSub, Nat.reduceLeDiff, Nat.reduceLT, Int.reduceAdd, Int.reduceToNat, Int.reduceLE, Int.reduceLT, Int.reduceNeg, reduceIte, postC, watchC, sll, slSt])
    | (show heapOK _ _ = true; kernel_rfl)
    | (omega)))
              all_goals trace_state)
    · have e1 : failedL p reads = [] := by unfold failedL; rw [if_neg hf]
      have e2 : levelsE p reads = faultP p reads := by unfold levelsE; rw [if_neg hf]
      have e3 : proveB p reads f sp = false := decide_eq_false fun h => hf h.1
      rw [e1, e2] at k3
      rw [e3] at k4
      simp only [postC, sl, sll, List.length_nil] at k1 k2 k3 k4 k7 k8 k9
      generalize faultP p reads = ff at *
      (refine callS_of_awp (fun w args => Try.call8 ..) Try.func8 rfl (fun w0 m0 wz => ?_); simp only [Try.ntmps8, Try.results8, initT, junks, postC, watchC, sll, slSt, sl, List.toList_toArray, List.cons_append, List.nil_append, List.length_cons, List.length_nil, Nat.reduceAdd, Nat.reduceSub])
      (repeat' (first
    | (refine awp_seqK ?_)
    | (refine kt ?_)
    | (refine And.intro ?_ ?_)
    | ((first | refine awp_region ?_ | refine awp_draw (by kernel_rfl) (by kernel_rfl) ?_ | refine Imp.le2 ?_ | refine awp_label ?_ | refine awp_skip ?_ | refine awp_exit ?_ | refine awp_cd ?_ | refine awp_ret ?_); simp (maxSteps := 4000000) only [go_sem, List.append_eq, List.cons_append, List.nil_append, Nat.reduceAdd, Nat.reduceMul, Nat.reduceSub, Nat.reduceLeDiff, Nat.reduceLT, Int.reduceAdd, Int.reduceToNat, Int.reduceLE, Int.reduceLT, Int.reduceNeg, reduceIte, postC, watchC, sll, slSt])
    | (intro _h)
    | (refine awp_block ?_)
    | (refine awp_scope ?_)
    | ((first | refine callK_of (awake_c) ?_ | refine callK_of (k1) ?_ | refine callK_of (k2) ?_ | refine callK_of (k7) ?_ | refine callK_of (k8) ?_ | refine callK_of (k9 (by omega)) ?_ | refine callK_of (k3) ?_ | refine callK_of (k4) ?_); try simp (maxSteps := 4000000) only [go_sem, List.append_eq, List.cons_append, List.nil_append, Nat.reduceAdd, Nat.reduceMul, Nat.reduceSub, Nat.reduceLeDiff, Nat.reduceLT, Int.reduceAdd, Int.reduceToNat, Int.reduceLE, Int.reduceLT, Int.reduceNeg, reduceIte, postC, watchC, sll, slSt])
    | (refine go_split (fun _h => ?_) (fun _h => ?_) <;> simp (maxSteps := 4000000) only [go_sem, List.append_eq, List.cons_append, List.nil_append, Nat.reduceAdd, Nat.reduceMul, Nat.reduceSub, Nat.reduceLeDiff, Nat.reduceLT, Int.reduceAdd, Int.reduceToNat, Int.reduceLE, Int.reduceLT, Int.reduceNeg, reduceIte, postC, watchC, sll, slSt])
    | (show heapOK _ _ = true; kernel_rfl)
    | (omega)))
      all_goals first
        | rfl
        | contradiction
        | trace_state
end Go.Am

/- What Truth finds is a truth; it finds one just if one may be. (Plain words.) -/
namespace Go.Am
open Go.RowKit Go.Proofs
set_option linter.unusedSimpArgs false
set_option linter.unusedVariables false

theorem step_some {p : Post} {row : List Int} {first : Bool} {f : Int} {x z : Int × Int} (h : stepX p row first f z = some x) :
    x = (max (if first = true then z.1 else z.1 - p.drop) (agreedEnds p.errs row f).1, min (if first = true then z.2 else z.2 + p.gain) (agreedEnds p.errs row f).2) := by
  unfold stepX at h
  rw [Option.ite_none_left_eq_some] at h
  exact (Option.some.inj h.2).symm
theorem getD_app {a b : List Int} {j : Nat} (h : j < a.length) : (a ++ b).getD j 0 = a.getD j 0 := by
  simp only [List.getD_eq_getElem?_getD, List.getElem?_append_left h]
theorem getD_last {a : List Int} {v : Int} : (a ++ [v]).getD a.length 0 = v := by
  simp [List.getD_eq_getElem?_getD]
theorem back_ok {p : Post} {reads : List (List Int)} {f : Int} (hp : PostOK p) : ∀ (h : Nat) (v : Int) (x : Int × Int), gAt p reads (h + 1) f = some x → x.1 ≤ v ∧ v ≤ x.2 →
    (backL (gAt p reads) p.gain f h v).getD h 0 = v ∧ ∀ j, j ≤ h → okT p reads f (backL (gAt p reads) p.gain f h v) j
  | 0, v, x, hx, hv => by
    have h1 : stepX p (reads.getD 0 []) true f (0, 1000) = some x := by
      have : gAt p reads 1 f = stepX p (reads.getD 0 []) true f (0, 1000) := by simp [gAt, stepG]
      rw [← this]; exact hx
    have e := step_some h1
    simp only [if_true] at e
    subst e
    simp only at hv
    refine ⟨rfl, fun j hj => ?_⟩
    have : j = 0 := by omega
    subst this
    have a1 : (agreedEnds p.errs (reads.getD 0 []) f).1 ≤ v := by omega
    have a2 : v ≤ (agreedEnds p.errs (reads.getD 0 []) f).2 := by omega
    exact ⟨⟨a1, a2⟩, .inl rfl⟩
  | h + 1, v, x, hx, hv => by
    have hga := hp.gain
    have hd := hp.drop
    have h1 : (gAt p reads (h + 1) f).bind (stepX p (reads.getD (h + 1) []) false f) = some x := by
      have : gAt p reads (h + 2) f = (gAt p reads (h + 1) f).bind (stepX p (reads.getD (h + 1) []) false f) := by
        show stepG p (reads.getD (h + 1) []) (decide (h + 1 = 0)) (gAt p reads (h + 1)) f = _
        simp [stepG]
      rw [← this]; exact hx
    obtain ⟨z, hz, h2⟩ := Option.bind_eq_some_iff.1 h1
    have hzb := gAt_ok (h + 1) f z hz
    have e := step_some h2
    simp only [Bool.false_eq_true, if_false] at e
    subst e
    simp only at hv
    obtain ⟨i1, i2⟩ := back_ok hp h (max z.1 (v - p.gain)) z hz (by omega)
    have hl := backL_length (g := gAt p reads) (gain := p.gain) (f := f) h (max z.1 (v - p.gain))
    have hb : backL (gAt p reads) p.gain f (h + 1) v = backL (gAt p reads) p.gain f h (max z.1 (v - p.gain)) ++ [v] := by simp only [backL, hz, Option.getD_some]
    rw [hb]
    generalize backL (gAt p reads) p.gain f h (max z.1 (v - p.gain)) = L at *
    have e1 : (L ++ [v]).getD (h + 1) 0 = v := by rw [← hl]; exact getD_last
    refine ⟨e1, fun j hj => ?_⟩
    rcases Nat.lt_or_eq_of_le hj with h3 | h3
    · obtain ⟨j1, j2⟩ := i2 j (by omega)
      unfold okT
      rw [getD_app (by omega), getD_app (by omega)]
      exact ⟨j1, j2⟩
    · subst h3
      unfold okT
      rw [e1, show h + 1 - 1 = h from rfl, getD_app (by omega), i1]
      exact ⟨by omega, .inr (by omega)⟩
theorem fault_take {p : Post} {reads : List (List Int)} {m : Nat} (h : faultP p reads = 0) : faultP p (reads.take m) = 0 := by
  unfold faultP at h ⊢
  split at h
  · omega
  · rename_i h1
    rw [if_neg h1]
    split at h
    · omega
    · rename_i h2
      rw [if_neg (by simp; omega)]
      split at h
      · rename_i h3
        rw [if_pos]
        rw [List.all_eq_true] at h3 ⊢
        exact fun r hr => h3 r (List.mem_of_mem_take hr)
      · omega
theorem okT_take {p : Post} {reads : List (List Int)} {m : Nat} {f : Int} {sp : List Int} {j : Nat} (h : j < m) (k : okT p reads f sp j) : okT p (reads.take m) f sp j := by
  have e : (reads.take m).getD j [] = reads.getD j [] := by
    simp only [List.getD_eq_getElem?_getD, List.getElem?_take]
    rw [if_pos h]
  unfold okT at k ⊢
  rw [e]; exact k
/-- What is found is accepted. -/
theorem back_proved {p : Post} {reads : List (List Int)} {f v : Int} {h : Nat} {x : Int × Int} (hf : faultP p reads = 0) (hh : h < reads.length) (hfr : -1 ≤ f ∧ f ≤ (p.errs.length : Int) - 1) (hx : gAt p reads (h + 1) f = some x) (hv : x.1 ≤ v ∧ v ≤ x.2) :
    proveB p (reads.take (h + 1)) f (backL (gAt p reads) p.gain f h v) = true := by
  obtain ⟨hp, hr⟩ := faultP_zero hf
  obtain ⟨_, h2⟩ := back_ok hp h v x hx hv
  have hl := backL_length (g := gAt p reads) (gain := p.gain) (f := f) h v
  refine decide_eq_true ⟨fault_take hf, by rw [hl]; simp; omega, hfr, fun j hj => okT_take (by omega) (h2 j (by omega))⟩
theorem pick_is {g : Int → Option (Int × Int)} {v f : Int} {m : Nat} (h : pickF g v m = some f) : -1 ≤ f ∧ f ≤ (m : Int) - 2 ∧ ∃ x, g f = some x ∧ x.1 ≤ v ∧ v ≤ x.2 := by
  obtain ⟨i, h1, rfl, ⟨x, h2, h3, h4⟩, _⟩ := pickF_some m h
  exact ⟨by omega, by omega, x, h2, h3, h4⟩
theorem pick_succ {g : Int → Option (Int × Int)} {v : Int} {i : Nat} (hv : 0 ≤ v) : (pickF g v (i + 1)).isSome = ((pickF g v i).isSome || inE (g ((i : Int) - 1)) v.toNat) := by
  simp only [pickF]
  cases pickF g v i with
  | some f => rfl
  | none =>
    cases hg : g ((i : Int) - 1) with
    | none => rfl
    | some x =>
      simp only [inE, Option.isSome, Bool.false_or]
      rw [show ((v.toNat : Nat) : Int) = v by omega]
      by_cases h : x.1 ≤ v ∧ v ≤ x.2
      · simp [h]
      · simp [h]
end Go.Am

/- The law AlarmFinds, as a contract: it returns true. -/
namespace Go.Am
open Go.RowKit Go.Proofs
attribute [local irreducible] AWP CallS Kt goK CallK stepK evOps SemF SemY Imp
set_option maxRecDepth 4000
set_option linter.unusedSimpArgs false
set_option linter.unusedVariables false
set_option maxHeartbeats 1600000

theorem alarmFinds_c (p : Post) (reads : List (List Int)) (hour v : Int) (hb : InB p reads) : CallS Try.prog 10 [.agg (postC p), sll reads, .int .i64 hour, .int .i64 v] (.bool true) := by
  have k1 := few_c p reads hb
  have k2 := fault_c p reads hb
  have k3 := truthAll_c p reads hour v hb
  cases hfew : fewB p reads
  · rw [hfew] at k1
    simp only [postC, sl, sll] at k1
    (refine callS_of_awp (fun w args => Try.call10 ..) Try.func10 rfl (fun w0 m0 wz => ?_); simp only [Try.ntmps10, Try.results10, initT, junks, postC, watchC, sll, sl, List.toList_toArray, List.cons_append, List.nil_append, List.length_cons, List.length_nil, Nat.reduceAdd, Nat.reduceSub])
    (repeat' (first
    | (refine awp_seqK ?_)
    | (refine kt ?_)
    | (refine And.intro ?_ ?_)
    | ((first | refine awp_region ?_ | refine awp_draw (by kernel_rfl) (by kernel_rfl) ?_ | refine Imp.le2 ?_ | refine awp_label ?_ | refine awp_skip ?_ | refine awp_exit ?_ | refine awp_cd ?_ | refine awp_ret ?_); simp (maxSteps := 4000000) only [go_sem, List.append_eq, List.cons_append, List.nil_append, Nat.reduceAdd, Nat.reduceMul, Nat.reduceSub, Nat.reduceLeDiff, Nat.reduceLT, Int.reduceAdd, Int.reduceToNat, Int.reduceLE, Int.reduceLT, Int.reduceNeg, reduceIte, postC, watchC, sll])
    | (intro _h)
    | (refine awp_block ?_)
    | (refine awp_scope ?_)
    | ((first | refine callK_of (awake_c) ?_ | refine callK_of (k1) ?_); try simp (maxSteps := 4000000) only [go_sem, List.append_eq, List.cons_append, List.nil_append, Nat.reduceAdd, Nat.reduceMul, Nat.reduceSub, Nat.reduceLeDiff, Nat.reduceLT, Int.reduceAdd, Int.reduceToNat, Int.reduceLE, Int.reduceLT, Int.reduceNeg, reduceIte, postC, watchC, sll])
    | (refine go_split (fun _h => ?_) (fun _h => ?_) <;> simp (maxSteps := 4000000) only [go_sem, List.append_eq, List.cons_append, List.nil_append, Nat.reduceAdd, Nat.reduceMul, Nat.reduceSub, Nat.reduceLeDiff, Nat.reduceLT, Int.reduceAdd, Int.reduceToNat, Int.reduceLE, Int.reduceLT, Int.reduceNeg, reduceIte, postC, watchC, sll])
    | (show heapOK _ _ = true; kernel_rfl)
    | (show heapOK2 _ _ = true; kernel_rfl)
    | (omega)))
  · rw [hfew] at k1
    have hth : thinB p reads = true := by unfold fewB at hfew; rw [Bool.and_eq_true] at hfew; exact hfew.1
    obtain ⟨t1, t2, t3⟩ := thinB_true hth
    have k7 := Post_c p (by omega)
    have k8 := rows_c reads (by omega) (fun i hi => by have := t3 i hi; omega)
    unfold truthR at k3
    by_cases hf : faultP p reads = 0
    · rw [if_pos hf] at k3
      rw [hf] at k2
      obtain ⟨hp, hr⟩ := faultP_zero hf
      have hpl := hp.len
      by_cases hin : (0 ≤ hour ∧ hour < reads.length) ∧ (0 ≤ v ∧ v ≤ 1000)
      · rw [if_pos hin] at k3
        obtain ⟨⟨hh1, hh2⟩, hv1, hv2⟩ := hin
        obtain ⟨h, rfl⟩ := Int.eq_ofNat_of_zero_le hh1
        obtain ⟨u, rfl⟩ := Int.eq_ofNat_of_zero_le hv1
        rw [Int.toNat_natCast] at k3
        have hh : h < reads.length := by omega
        have km : ∀ f, CallS Try.prog 42 [.agg (postC p), .psl false (h + 1) (rowsC (reads.take (h + 1))), .int .i64 f] (.psl false 1001 (bools (mayL p (reads.take (h + 1)) f (h + 1)))) := fun f => by
          have := may_c p (reads.take (h + 1)) f hp (reads_take hr)
          have e : (reads.take (h + 1)).length = h + 1 := by simp; omega
          simpa only [sll, e] using this
        have hgd : ∀ f, (mayL p (reads.take (h + 1)) f (h + 1)).getD u false = inE (gAt p reads (h + 1) f) u := fun f => by
          unfold mayL
          rw [tab_getD (by omega), gAt_take _ (Nat.le_refl _)]
        have hps := fun i => pick_succ (g := gAt p reads (h + 1)) (v := (u : Int)) (i := i) (by omega)
        simp only [Int.toNat_natCast] at hps
        have kr := fun f sp => refTruth_c p (reads.take (h + 1)) f sp (fault_take hf)
        have e1 : (0 ≤ (h : Int) ∧ (h : Int) ≤ reads.length - 1) = True := eq_true (by omega)
        have e2 : (0 ≤ (u : Int) ∧ (u : Int) ≤ 1000) = True := eq_true (by omega)
        have e3 : ((h : Int) + 1).toNat = h + 1 := by omega
        have e4 : (reads.take (h + 1)).length = h + 1 := by simp; omega
        generalize hgg : gAt p reads (h + 1) = g at *
        cases hpk : pickF g u (p.errs.length + 1) with
        | none =>
          simp only [hpk] at k3
          simp only [postC, sl, sll, e4, List.length_nil, ints_nil] at k1 k2 k3 k7 k8 km kr
          (refine callS_of_awp (fun w args => Try.call10 ..) Try.func10 rfl (fun w0 m0 wz => ?_); simp only [Try.ntmps10, Try.results10, initT, junks, postC, watchC, sll, sl, List.toList_toArray, List.cons_append, List.nil_append, List.length_cons, List.length_nil, Nat.reduceAdd, Nat.reduceSub])
          (repeat' (first
    | (refine awp_seqK ?_)
    | (refine kt ?_)
    | (refine And.intro ?_ ?_)
    | ((first | refine awp_region ?_ | refine awp_draw (by kernel_rfl) (by kernel_rfl) ?_ | refine Imp.le2 ?_ | refine awp_label ?_ | refine awp_skip ?_ | refine awp_exit ?_ | refine awp_cd ?_ | refine awp_ret ?_); simp (maxSteps := 4000000) only [go_sem, List.append_eq, List.cons_append, List.nil_append, Nat.reduceAdd, Nat.reduceMul, Nat.reduceSub, Nat.reduceLeDiff, Nat.reduceLT, Int.reduceAdd, Int.reduceToNat, Int.reduceLE, Int.reduceLT, Int.reduceNeg, reduceIte, postC, watchC, sll, e1, e2, e3, decide_true, decide_false])
    | (intro _h)
    | (refine awp_block ?_)
    | (refine awp_scope ?_)
    | ((first | refine callK_of (awake_c) ?_ | refine callK_of (k1) ?_ | refine callK_of (k2) ?_ | refine callK_of (k7) ?_ | refine callK_of (k8) ?_ | refine callK_of (k3) ?_ | refine callK_of (in_c _ _ _) ?_); try simp (maxSteps := 4000000) only [go_sem, List.append_eq, List.cons_append, List.nil_append, Nat.reduceAdd, Nat.reduceMul, Nat.reduceSub, Nat.reduceLeDiff, Nat.reduceLT, Int.reduceAdd, Int.reduceToNat, Int.reduceLE, Int.reduceLT, Int.reduceNeg, reduceIte, postC, watchC, sll, e1, e2, e3, decide_true, decide_false])
    | (refine go_split (fun _h => ?_) (fun _h => ?_) <;> simp (maxSteps := 4000000) only [go_sem, List.append_eq, List.cons_append, List.nil_append, Nat.reduceAdd, Nat.reduceMul, Nat.reduceSub, Nat.reduceLeDiff, Nat.reduceLT, Int.reduceAdd, Int.reduceToNat, Int.reduceLE, Int.reduceLT, Int.reduceNeg, reduceIte, postC, watchC, sll, e1, e2, e3, decide_true, decide_false])
    | (show heapOK _ _ = true; kernel_rfl)
    | (show heapOK2 _ _ = true; kernel_rfl)
    | (omega)))
          refine awp_loopN (p.errs.length + 1) (fun i => ⟨mkT 114 [(1, .psl false reads.length (rowsC reads)), (2, .int .i64 h), (3, .int .i64 u), (4, .ptr 0 0 0), (9, .int .i64 0), (10, .psl false 0 []), (11, .int .i64 7), (12, .int .i64 (if (pickF g u i).isSome = true then 0 else 7)), (13, .int .i64 ((i : Int) - 1))], [some (.cells 46 1 0 (postC p))], []⟩) (.le2 ?_) ?_
          · simp only [postC, pickF]; simp (maxSteps := 4000000) only [go_sem, List.append_eq, List.cons_append, List.nil_append, Nat.reduceAdd, Nat.reduceMul, Nat.reduceSub, Nat.reduceLeDiff, Nat.reduceLT, Int.reduceAdd, Int.reduceToNat, Int.reduceLE, Int.reduceLT, Int.reduceNeg, reduceIte, postC, watchC, sll]
            exact ⟨rfl, by omega⟩
          · intro i hi
            have hps := hps i
            cases hq : inE (g ((i : Int) - 1)) u
            · simp only [postC]; simp (maxSteps := 4000000) only [go_sem, List.append_eq, List.cons_append, List.nil_append, Nat.reduceAdd, Nat.reduceMul, Nat.reduceSub, Nat.reduceLeDiff, Nat.reduceLT, Int.reduceAdd, Int.reduceToNat, Int.reduceLE, Int.reduceLT, Int.reduceNeg, reduceIte, postC, watchC, sll]
              (repeat' (first
    | (refine awp_seqK ?_)
    | (refine kt ?_)
    | (refine And.intro ?_ ?_)
    | ((first | refine awp_region ?_ | refine awp_draw (by kernel_rfl) (by kernel_rfl) ?_ | refine Imp.le2 ?_ | refine awp_label ?_ | refine awp_skip ?_ | refine awp_exit ?_ | refine awp_cd ?_ | refine awp_ret ?_); simp (maxSteps := 4000000) only [go_sem, List.append_eq, List.cons_append, List.nil_append, Nat.reduceAdd, Nat.reduceMul, Nat.reduceSub, Nat.reduceLeDiff, Nat.reduceLT, Int.reduceAdd, Int.reduceToNat, Int.reduceLE, Int.reduceLT, Int.reduceNeg, reduceIte, postC, watchC, sll, e3, hgd, hq])
    | (intro _h)
    | (refine awp_block ?_)
    | (refine awp_scope ?_)
    | ((first | refine callK_of (km _) ?_ | refine callK_of (awake_c) ?_); try simp (maxSteps := 4000000) only [go_sem, List.append_eq, List.cons_append, List.nil_append, Nat.reduceAdd, Nat.reduceMul, Nat.reduceSub, Nat.reduceLeDiff, Nat.reduceLT, Int.reduceAdd, Int.reduceToNat, Int.reduceLE, Int.reduceLT, Int.reduceNeg, reduceIte, postC, watchC, sll, e3, hgd, hq])
    | (refine go_split (fun _h => ?_) (fun _h => ?_) <;> simp (maxSteps := 4000000) only [go_sem, List.append_eq, List.cons_append, List.nil_append, Nat.reduceAdd, Nat.reduceMul, Nat.reduceSub, Nat.reduceLeDiff, Nat.reduceLT, Int.reduceAdd, Int.reduceToNat, Int.reduceLE, Int.reduceLT, Int.reduceNeg, reduceIte, postC, watchC, sll, e3, hgd, hq])
    | (show heapOK _ _ = true; kernel_rfl)
    | (show heapOK2 _ _ = true; kernel_rfl)
    | (omega)))
              all_goals first
                | (rw [hps, hq]; simp; done)
                | (exfalso
                   have e : i = p.errs.length + 1 := by omega
                   subst e
                   simp_all)
                | trace_state
            · simp only [postC]; simp (maxSteps := 4000000) only [go_sem, List.append_eq, List.cons_append, List.nil_append, Nat.reduceAdd, Nat.reduceMul, Nat.reduceSub, Nat.reduceLeDiff, Nat.reduceLT, Int.reduceAdd, Int.reduceToNat, Int.reduceLE, Int.reduceLT, Int.reduceNeg, reduceIte, postC, watchC, sll]
              (repeat' (first
    | (refine awp_seqK ?_)
    | (refine kt ?_)
    | (refine And.intro ?_ ?_)
    | ((first | refine awp_region ?_ | refine awp_draw (by kernel_rfl) (by kernel_rfl) ?_ | refine Imp.le2 ?_ | refine awp_label ?_ | refine awp_skip ?_ | refine awp_exit ?_ | refine awp_cd ?_ | refine awp_ret ?_); simp (maxSteps := 4000000) only [go_sem, List.append_eq, List.cons_append, List.nil_append, Nat.reduceAdd, Nat.reduceMul, Nat.reduceSub, Nat.reduceLeDiff, Nat.reduceLT, Int.reduceAdd, Int.reduceToNat, Int.reduceLE, Int.reduceLT, Int.reduceNeg, reduceIte, postC, watchC, sll, e3, hgd, hq])
    | (intro _h)
    | (refine awp_block ?_)
    | (refine awp_scope ?_)
    | ((first | refine callK_of (km _) ?_ | refine callK_of (awake_c) ?_); try simp (maxSteps := 4000000) only [go_sem, List.append_eq, List.cons_append, List.nil_append, Nat.reduceAdd, Nat.reduceMul, Nat.reduceSub, Nat.reduceLeDiff, Nat.reduceLT, Int.reduceAdd, Int.reduceToNat, Int.reduceLE, Int.reduceLT, Int.reduceNeg, reduceIte, postC, watchC, sll, e3, hgd, hq])
    | (refine go_split (fun _h => ?_) (fun _h => ?_) <;> simp (maxSteps := 4000000) only [go_sem, List.append_eq, List.cons_append, List.nil_append, Nat.reduceAdd, Nat.reduceMul, Nat.reduceSub, Nat.reduceLeDiff, Nat.reduceLT, Int.reduceAdd, Int.reduceToNat, Int.reduceLE, Int.reduceLT, Int.reduceNeg, reduceIte, postC, watchC, sll, e3, hgd, hq])
    | (show heapOK _ _ = true; kernel_rfl)
    | (show heapOK2 _ _ = true; kernel_rfl)
    | (omega)))
              all_goals first
                | (rw [hps, hq]; simp; done)
                | (exfalso
                   have e : i = p.errs.length + 1 := by omega
                   subst e
                   simp_all)
                | trace_state
        | some f =>
          simp only [hpk] at k3
          obtain ⟨f1, f2, x, f3, f4⟩ := pick_is hpk
          have hpv := back_proved (v := (u : Int)) (h := h) hf hh ⟨f1, by omega⟩ (by rw [hgg]; exact f3) f4
          have hbo := (back_ok hp h (u : Int) x (by rw [hgg]; exact f3) f4).1
          have hbl := backL_length (g := gAt p reads) (gain := p.gain) (f := f) h (u : Int)
          have kr := kr f (backL (gAt p reads) p.gain f h u) (by rw [hbl]; omega)
          rw [hpv] at kr
          generalize backL (gAt p reads) p.gain f h (u : Int) = L at *
          simp only [postC, sl, sll, e4] at k1 k2 k3 k7 k8 km kr
          rw [hbl] at kr k3
          (refine callS_of_awp (fun w args => Try.call10 ..) Try.func10 rfl (fun w0 m0 wz => ?_); simp only [Try.ntmps10, Try.results10, initT, junks, postC, watchC, sll, sl, List.toList_toArray, List.cons_append, List.nil_append, List.length_cons, List.length_nil, Nat.reduceAdd, Nat.reduceSub])
          (repeat' (first
    | (refine awp_seqK ?_)
    | (refine kt ?_)
    | (refine And.intro ?_ ?_)
    | ((first | refine awp_region ?_ | refine awp_draw (by kernel_rfl) (by kernel_rfl) ?_ | refine Imp.le2 ?_ | refine awp_label ?_ | refine awp_skip ?_ | refine awp_exit ?_ | refine awp_cd ?_ | refine awp_ret ?_); simp (maxSteps := 4000000) only [go_sem, List.append_eq, List.cons_append, List.nil_append, Nat.reduceAdd, Nat.reduceMul, Nat.reduceSub, Nat.reduceLeDiff, Nat.reduceLT, Int.reduceAdd, Int.reduceToNat, Int.reduceLE, Int.reduceLT, Int.reduceNeg, reduceIte, postC, watchC, sll, e1, e2, e3, decide_true, decide_false])
    | (intro _h)
    | (refine awp_block ?_)
    | (refine awp_scope ?_)
    | ((first | refine callK_of (awake_c) ?_ | refine callK_of (k1) ?_ | refine callK_of (k2) ?_ | refine callK_of (k7) ?_ | refine callK_of (k8) ?_ | refine callK_of (k3) ?_ | refine callK_of (in_c _ _ _) ?_); try simp (maxSteps := 4000000) only [go_sem, List.append_eq, List.cons_append, List.nil_append, Nat.reduceAdd, Nat.reduceMul, Nat.reduceSub, Nat.reduceLeDiff, Nat.reduceLT, Int.reduceAdd, Int.reduceToNat, Int.reduceLE, Int.reduceLT, Int.reduceNeg, reduceIte, postC, watchC, sll, e1, e2, e3, decide_true, decide_false])
    | (refine go_split (fun _h => ?_) (fun _h => ?_) <;> simp (maxSteps := 4000000) only [go_sem, List.append_eq, List.cons_append, List.nil_append, Nat.reduceAdd, Nat.reduceMul, Nat.reduceSub, Nat.reduceLeDiff, Nat.reduceLT, Int.reduceAdd, Int.reduceToNat, Int.reduceLE, Int.reduceLT, Int.reduceNeg, reduceIte, postC, watchC, sll, e1, e2, e3, decide_true, decide_false])
    | (show heapOK _ _ = true; kernel_rfl)
    | (show heapOK2 _ _ = true; kernel_rfl)
    | (omega)))
          refine awp_loopN (p.errs.length + 1) (fun i => ⟨mkT 114 [(1, .psl false reads.length (rowsC reads)), (2, .int .i64 h), (3, .int .i64 u), (4, .ptr 0 0 0), (9, .int .i64 f), (10, .psl false (h + 1) (ints L)), (11, .int .i64 0), (12, .int .i64 (if (pickF g u i).isSome = true then 0 else 7)), (13, .int .i64 ((i : Int) - 1))], [some (.cells 46 1 0 (postC p))], []⟩) (.le2 ?_) ?_
          · simp only [postC, pickF]; simp (maxSteps := 4000000) only [go_sem, List.append_eq, List.cons_append, List.nil_append, Nat.reduceAdd, Nat.reduceMul, Nat.reduceSub, Nat.reduceLeDiff, Nat.reduceLT, Int.reduceAdd, Int.reduceToNat, Int.reduceLE, Int.reduceLT, Int.reduceNeg, reduceIte, postC, watchC, sll]
            exact ⟨rfl, by omega⟩
          · intro i hi
            have hps := hps i
            cases hq : inE (g ((i : Int) - 1)) u
            · simp only [postC]; simp (maxSteps := 4000000) only [go_sem, List.append_eq, List.cons_append, List.nil_append, Nat.reduceAdd, Nat.reduceMul, Nat.reduceSub, Nat.reduceLeDiff, Nat.reduceLT, Int.reduceAdd, Int.reduceToNat, Int.reduceLE, Int.reduceLT, Int.reduceNeg, reduceIte, postC, watchC, sll]
              (repeat' (first
    | (refine awp_seqK ?_)
    | (refine kt ?_)
    | (refine And.intro ?_ ?_)
    | ((first | refine awp_region ?_ | refine awp_draw (by kernel_rfl) (by kernel_rfl) ?_ | refine Imp.le2 ?_ | refine awp_label ?_ | refine awp_skip ?_ | refine awp_exit ?_ | refine awp_cd ?_ | refine awp_ret ?_); simp (maxSteps := 4000000) only [go_sem, List.append_eq, List.cons_append, List.nil_append, Nat.reduceAdd, Nat.reduceMul, Nat.reduceSub, Nat.reduceLeDiff, Nat.reduceLT, Int.reduceAdd, Int.reduceToNat, Int.reduceLE, Int.reduceLT, Int.reduceNeg, reduceIte, postC, watchC, sll, e3, hgd, hq])
    | (intro _h)
    | (refine awp_block ?_)
    | (refine awp_scope ?_)
    | ((first | refine callK_of (km _) ?_ | refine callK_of (awake_c) ?_ | refine callK_of (kr) ?_); try simp (maxSteps := 4000000) only [go_sem, List.append_eq, List.cons_append, List.nil_append, Nat.reduceAdd, Nat.reduceMul, Nat.reduceSub, Nat.reduceLeDiff, Nat.reduceLT, Int.reduceAdd, Int.reduceToNat, Int.reduceLE, Int.reduceLT, Int.reduceNeg, reduceIte, postC, watchC, sll, e3, hgd, hq])
    | (refine go_split (fun _h => ?_) (fun _h => ?_) <;> simp (maxSteps := 4000000) only [go_sem, List.append_eq, List.cons_append, List.nil_append, Nat.reduceAdd, Nat.reduceMul, Nat.reduceSub, Nat.reduceLeDiff, Nat.reduceLT, Int.reduceAdd, Int.reduceToNat, Int.reduceLE, Int.reduceLT, Int.reduceNeg, reduceIte, postC, watchC, sll, e3, hgd, hq])
    | (show heapOK _ _ = true; kernel_rfl)
    | (show heapOK2 _ _ = true; kernel_rfl)
    | (omega)))
              all_goals first
                | (rw [hps, hq]; simp; done)
                | (exfalso
                   have e : i = p.errs.length + 1 := by omega
                   subst e
                   simp_all)
                | trace_state
            · simp only [postC]; simp (maxSteps := 4000000) only [go_sem, List.append_eq, List.cons_append, List.nil_append, Nat.reduceAdd, Nat.reduceMul, Nat.reduceSub, Nat.reduceLeDiff, Nat.reduceLT, Int.reduceAdd, Int.reduceToNat, Int.reduceLE, Int.reduceLT, Int.reduceNeg, reduceIte, postC, watchC, sll]
              (repeat' (first
    | (refine awp_seqK ?_)
    | (refine kt ?_)
    | (refine And.intro ?_ ?_)
    | ((first | refine awp_region ?_ | refine awp_draw (by kernel_rfl) (by kernel_rfl) ?_ | refine Imp.le2 ?_ | refine awp_label ?_ | refine awp_skip ?_ | refine awp_exit ?_ | refine awp_cd ?_ | refine awp_ret ?_); simp (maxSteps := 4000000) only [go_sem, List.append_eq, List.cons_append, List.nil_append, Nat.reduceAdd, Nat.reduceMul, Nat.reduceSub, Nat.reduceLeDiff, Nat.reduceLT, Int.reduceAdd, Int.reduceToNat, Int.reduceLE, Int.reduceLT, Int.reduceNeg, reduceIte, postC, watchC, sll, e3, hgd, hq])
    | (intro _h)
    | (refine awp_block ?_)
    | (refine awp_scope ?_)
    | ((first | refine callK_of (km _) ?_ | refine callK_of (awake_c) ?_ | refine callK_of (kr) ?_); try simp (maxSteps := 4000000) only [go_sem, List.append_eq, List.cons_append, List.nil_append, Nat.reduceAdd, Nat.reduceMul, Nat.reduceSub, Nat.reduceLeDiff, Nat.reduceLT, Int.reduceAdd, Int.reduceToNat, Int.reduceLE, Int.reduceLT, Int.reduceNeg, reduceIte, postC, watchC, sll, e3, hgd, hq])
    | (refine go_split (fun _h => ?_) (fun _h => ?_) <;> simp (maxSteps := 4000000) only [go_sem, List.append_eq, List.cons_append, List.nil_append, Nat.reduceAdd, Nat.reduceMul, Nat.reduceSub, Nat.reduceLeDiff, Nat.reduceLT, Int.reduceAdd, Int.reduceToNat, Int.reduceLE, Int.reduceLT, Int.reduceNeg, reduceIte, postC, watchC, sll, e3, hgd, hq])
    | (show heapOK _ _ = true; kernel_rfl)
    | (show heapOK2 _ _ = true; kernel_rfl)
    | (omega)))
              all_goals first
                | (rw [hps, hq]; simp; done)
                | (exfalso
                   have e : i = p.errs.length + 1 := by omega
                   subst e
                   simp_all)
                | trace_state
      · rw [if_neg hin] at k3
        simp only [postC, sl, sll] at k1 k2 k3 k7 k8
        (refine callS_of_awp (fun w args => Try.call10 ..) Try.func10 rfl (fun w0 m0 wz => ?_); simp only [Try.ntmps10, Try.results10, initT, junks, postC, watchC, sll, sl, List.toList_toArray, List.cons_append, List.nil_append, List.length_cons, List.length_nil, Nat.reduceAdd, Nat.reduceSub])
        by_cases h1 : 0 ≤ hour ∧ hour ≤ (reads.length : Int) - 1
        · have h2 : ¬(0 ≤ v ∧ v ≤ 1000) := fun h => hin ⟨⟨by omega, by omega⟩, h⟩
          have e1 := eq_true h1
          have e2 := eq_false h2
          (repeat' (first
    | (refine awp_seqK ?_)
    | (refine kt ?_)
    | (refine And.intro ?_ ?_)
    | ((first | refine awp_region ?_ | refine awp_draw (by kernel_rfl) (by kernel_rfl) ?_ | refine Imp.le2 ?_ | refine awp_label ?_ | refine awp_skip ?_ | refine awp_exit ?_ | refine awp_cd ?_ | refine awp_ret ?_); simp (maxSteps := 4000000) only [go_sem, List.append_eq, List.cons_append, List.nil_append, Nat.reduceAdd, Nat.reduceMul, Nat.reduceSub, Nat.reduceLeDiff, Nat.reduceLT, Int.reduceAdd, Int.reduceToNat, Int.reduceLE, Int.reduceLT, Int.reduceNeg, reduceIte, postC, watchC, sll, e1, e2, decide_true, decide_false])
    | (intro _h)
    | (refine awp_block ?_)
    | (refine awp_scope ?_)
    | ((first | refine callK_of (awake_c) ?_ | refine callK_of (k1) ?_ | refine callK_of (k2) ?_ | refine callK_of (k7) ?_ | refine callK_of (k8) ?_ | refine callK_of (k3) ?_ | refine callK_of (in_c _ _ _) ?_); try simp (maxSteps := 4000000) only [go_sem, List.append_eq, List.cons_append, List.nil_append, Nat.reduceAdd, Nat.reduceMul, Nat.reduceSub, Nat.reduceLeDiff, Nat.reduceLT, Int.reduceAdd, Int.reduceToNat, Int.reduceLE, Int.reduceLT, Int.reduceNeg, reduceIte, postC, watchC, sll, e1, e2, decide_true, decide_false])
    | (refine go_split (fun _h => ?_) (fun _h => ?_) <;> simp (maxSteps := 4000000) only [go_sem, List.append_eq, List.cons_append, List.nil_append, Nat.reduceAdd, Nat.reduceMul, Nat.reduceSub, Nat.reduceLeDiff, Nat.reduceLT, Int.reduceAdd, Int.reduceToNat, Int.reduceLE, Int.reduceLT, Int.reduceNeg, reduceIte, postC, watchC, sll, e1, e2, decide_true, decide_false])
    | (show heapOK _ _ = true; kernel_rfl)
    | (show heapOK2 _ _ = true; kernel_rfl)
    | (omega)))
          trace_state
        · have e1 := eq_false h1
          (repeat' (first
    | (refine awp_seqK ?_)
    | (refine kt ?_)
    | (refine And.intro ?_ ?_)
    | ((first | refine awp_region ?_ | refine awp_draw (by kernel_rfl) (by kernel_rfl) ?_ | refine Imp.le2 ?_ | refine awp_label ?_ | refine awp_skip ?_ | refine awp_exit ?_ | refine awp_cd ?_ | refine awp_ret ?_); simp (maxSteps := 4000000) only [go_sem, List.append_eq, List.cons_append, List.nil_append, Nat.reduceAdd, Nat.reduceMul, Nat.reduceSub, Nat.reduceLeDiff, Nat.reduceLT, Int.reduceAdd, Int.reduceToNat, Int.reduceLE, Int.reduceLT, Int.reduceNeg, reduceIte, postC, watchC, sll, e1, decide_true, decide_false])
    | (intro _h)
    | (refine awp_block ?_)
    | (refine awp_scope ?_)
    | ((first | refine callK_of (awake_c) ?_ | refine callK_of (k1) ?_ | refine callK_of (k2) ?_ | refine callK_of (k7) ?_ | refine callK_of (k8) ?_ | refine callK_of (k3) ?_ | refine callK_of (in_c _ _ _) ?_); try simp (maxSteps := 4000000) only [go_sem, List.append_eq, List.cons_append, List.nil_append, Nat.reduceAdd, Nat.reduceMul, Nat.reduceSub, Nat.reduceLeDiff, Nat.reduceLT, Int.reduceAdd, Int.reduceToNat, Int.reduceLE, Int.reduceLT, Int.reduceNeg, reduceIte, postC, watchC, sll, e1, decide_true, decide_false])
    | (refine go_split (fun _h => ?_) (fun _h => ?_) <;> simp (maxSteps := 4000000) only [go_sem, List.append_eq, List.cons_append, List.nil_append, Nat.reduceAdd, Nat.reduceMul, Nat.reduceSub, Nat.reduceLeDiff, Nat.reduceLT, Int.reduceAdd, Int.reduceToNat, Int.reduceLE, Int.reduceLT, Int.reduceNeg, reduceIte, postC, watchC, sll, e1, decide_true, decide_false])
    | (show heapOK _ _ = true; kernel_rfl)
    | (show heapOK2 _ _ = true; kernel_rfl)
    | (omega)))
          trace_state
    · rw [if_neg hf] at k3
      have hfc := faultP_cases p reads
      simp only [postC, sl, sll] at k1 k2 k3 k7 k8
      generalize faultP p reads = e at *
      (refine callS_of_awp (fun w args => Try.call10 ..) Try.func10 rfl (fun w0 m0 wz => ?_); simp only [Try.ntmps10, Try.results10, initT, junks, postC, watchC, sll, sl, List.toList_toArray, List.cons_append, List.nil_append, List.length_cons, List.length_nil, Nat.reduceAdd, Nat.reduceSub])
      (repeat' (first
    | (refine awp_seqK ?_)
    | (refine kt ?_)
    | (refine And.intro ?_ ?_)
    | ((first | refine awp_region ?_ | refine awp_draw (by kernel_rfl) (by kernel_rfl) ?_ | refine Imp.le2 ?_ | refine awp_label ?_ | refine awp_skip ?_ | refine awp_exit ?_ | refine awp_cd ?_ | refine awp_ret ?_); simp (maxSteps := 4000000) only [go_sem, List.append_eq, List.cons_append, List.nil_append, Nat.reduceAdd, Nat.reduceMul, Nat.reduceSub, Nat.reduceLeDiff, Nat.reduceLT, Int.reduceAdd, Int.reduceToNat, Int.reduceLE, Int.reduceLT, Int.reduceNeg, reduceIte, postC, watchC, sll])
    | (intro _h)
    | (refine awp_block ?_)
    | (refine awp_scope ?_)
    | ((first | refine callK_of (awake_c) ?_ | refine callK_of (k1) ?_ | refine callK_of (k2) ?_ | refine callK_of (k7) ?_ | refine callK_of (k8) ?_ | refine callK_of (k3) ?_); try simp (maxSteps := 4000000) only [go_sem, List.append_eq, List.cons_append, List.nil_append, Nat.reduceAdd, Nat.reduceMul, Nat.reduceSub, Nat.reduceLeDiff, Nat.reduceLT, Int.reduceAdd, Int.reduceToNat, Int.reduceLE, Int.reduceLT, Int.reduceNeg, reduceIte, postC, watchC, sll])
    | (refine go_split (fun _h => ?_) (fun _h => ?_) <;> simp (maxSteps := 4000000) only [go_sem, List.append_eq, List.cons_append, List.nil_append, Nat.reduceAdd, Nat.reduceMul, Nat.reduceSub, Nat.reduceLeDiff, Nat.reduceLT, Int.reduceAdd, Int.reduceToNat, Int.reduceLE, Int.reduceLT, Int.reduceNeg, reduceIte, postC, watchC, sll])
    | (show heapOK _ _ = true; kernel_rfl)
    | (show heapOK2 _ _ = true; kernel_rfl)
    | (omega)))
      trace_state
end Go.Am

/- Contracts: a truth by words. -/
namespace Go.Am
open Go.RowKit Go.Proofs
attribute [local irreducible] AWP CallS Kt goK CallK stepK evOps SemF SemY Imp tab
set_option maxRecDepth 4000
set_option linter.unusedSimpArgs false
set_option linter.unusedVariables false
set_option maxHeartbeats 1600000

theorem fz_ints {b g : Nat} {xs : List AV} : ∀ l : List Int, fzl (fz2 b g xs) (ints l) = ints l
  | [] => rfl
  | a :: l => by
    have := fz_ints (b := b) (g := g) (xs := xs) l
    simp only [ints_cons, fzl, this]
    rfl
theorem fz_rows {b g : Nat} {xs : List AV} : ∀ l : List (List Int), fzl (fz2 b g xs) (rowsC l) = rowsC l
  | [] => rfl
  | a :: l => by
    have := fz_rows (b := b) (g := g) (xs := xs) l
    simp only [rowsC, List.map_cons, fzl] at this ⊢
    rw [this]
    rfl
attribute [go_sem] fz_ints fz_rows
def u16s (l : List Int) : List AV := l.map (.int .u16)
def slW (l : List Int) : AV := .psl false l.length (u16s l)
theorem u16s_length {l : List Int} : (u16s l).length = l.length := by simp [u16s]
theorem pl_u16s {l : List Int} : pureL (u16s l) = True := by
  simp only [pureL, u16s, List.mem_map, eq_iff_iff, iff_true]
  rintro _ ⟨a, _, rfl⟩; rfl
theorem al_u16s {l : List Int} {p : Nat → Bool} : (u16s l).all (live2 p) = true := by
  simp only [u16s, List.all_map, List.all_eq_true]
  intro z _; rfl
theorem nth_u16s {l : List Int} {j : Nat} {K : AV → Prop} : optK (nth (u16s l) j) K = (j < l.length ∧ K (.int .u16 (l.getD j 0))) := by
  rw [← nth_is]
  simp only [u16s, List.getElem?_map]
  by_cases h : j < l.length
  · simp [h, optK, List.getD_eq_getElem?_getD]
  · simp [h, optK]
attribute [go_sem] u16s_length pl_u16s al_u16s nth_u16s
/-- A number from low to high, by words. -/
def pickV (lo hi : Int) (words : List Int) (at_ : Int) : Int :=
  if words.length = 0 then lo else
  if (words.getD (at_.tmod words.length).toNat 0).tmod 4 = 0 then lo else
  if (words.getD (at_.tmod words.length).toNat 0).tmod 4 = 1 then hi else
  lo + (words.getD (at_.tmod words.length).toNat 0).tmod (hi - lo + 1)
def wordsOK (words : List Int) : Prop := words.length ≤ 9223372036854775807 ∧ ∀ i, i < words.length → 0 ≤ words.getD i 0 ∧ words.getD i 0 ≤ 65535
theorem tmod_bd {a b : Int} (ha : 0 ≤ a) (hb : 0 < b) : 0 ≤ a.tmod b ∧ a.tmod b < b := by
  rw [Int.tmod_eq_emod_of_nonneg ha]
  exact ⟨Int.emod_nonneg _ (by omega), Int.emod_lt_of_pos _ hb⟩
theorem pickV_bd {lo hi : Int} {words : List Int} {at_ : Int} (hw : wordsOK words) (ha : 0 ≤ at_) (hl : lo ≤ hi) : lo ≤ pickV lo hi words at_ ∧ pickV lo hi words at_ ≤ hi := by
  unfold pickV
  split
  · omega
  · split
    · omega
    · split
      · omega
      · have h1 := tmod_bd (b := (words.length : Int)) ha (by omega)
        have h2 := hw.2 (at_.tmod words.length).toNat (by omega)
        have h3 := tmod_bd (b := hi - lo + 1) h2.1 (by omega)
        omega
theorem pick_c (lo hi : Int) (words : List Int) (at_ : Int) (hw : wordsOK words) (ha : 0 ≤ at_) (hl : lo ≤ hi) (hb : -10000 ≤ lo ∧ hi ≤ 10000) : CallS Try.prog 70 [.int .i64 lo, .int .i64 hi, slW words, .int .i64 at_] (.int .i64 (pickV lo hi words at_)) := by
  have hw1 := hw.1
  have h1 := fun h : 0 < (words.length : Int) => tmod_bd (b := (words.length : Int)) ha h
  have h2 := fun h : 0 < (words.length : Int) => hw.2 (at_.tmod words.length).toNat (by have := h1 h; omega)
  have h3 := fun (h : 0 < (words.length : Int)) => tmod_bd (b := hi - lo + 1) (h2 h).1 (by omega)
  unfold pickV
  (refine callS_of_awp (fun w args => Try.call70 ..) Try.func70 rfl (fun w0 m0 wz => ?_); simp only [Try.ntmps70, Try.results70, initT, junks, postC, watchC, sll, slSt, slW, sl, List.toList_toArray, List.cons_append, List.nil_append, List.length_cons, List.length_nil, Nat.reduceAdd, Nat.reduceSub])
  (repeat' (first
    | (refine awp_seqK ?_)
    | (refine kt ?_)
    | (refine And.intro ?_ ?_)
    | ((first | refine awp_region ?_ | refine awp_draw (by kernel_rfl) (by kernel_rfl) ?_ | refine Imp.le2 ?_ | refine awp_label ?_ | refine awp_skip ?_ | refine awp_exit ?_ | refine awp_cd ?_ | refine awp_ret ?_); simp (maxSteps := 4000000) only [go_sem, List.append_eq, List.cons_append, List.nil_append, Nat.reduceAdd, Nat.reduceMul, Nat.reduceSub, Nat.reduceLeDiff, Nat.reduceLT, Int.reduceAdd, Int.reduceToNat, Int.reduceLE, Int.reduceLT, Int.reduceNeg, reduceIte, postC, watchC, sll, slSt, slW])
    | (intro _h)
    | (refine awp_block ?_)
    | (refine awp_scope ?_)
    | (refine go_split (fun _h => ?_) (fun _h => ?_) <;> simp (maxSteps := 4000000) only [go_sem, List.append_eq, List.cons_append, List.nil_append, Nat.reduceAdd, Nat.reduceMul, Nat.reduceSub, Nat.reduceLeDiff, Nat.reduceLT, Int.reduceAdd, Int.reduceToNat, Int.reduceLE, Int.reduceLT, Int.reduceNeg, reduceIte, postC, watchC, sll, slSt, slW])
    | (show heapOK _ _ = true; kernel_rfl)
    | (omega)))
  all_goals first
    | omega
    | (rw [if_pos (by omega)])
    | (rw [if_neg (by omega), if_pos (by omega)])
    | (rw [if_neg (by omega), if_neg (by omega), if_pos (by omega)])
    | (rw [if_neg (by omega), if_neg (by omega), if_neg (by omega)])
    | (have h1 := h1 (by omega); have h2 := h2 (by omega); have h3 := h3 (by omega); omega)
    | trace_state
/-- The speeds of a truth, and the reads, by words. -/
def spF (p : Post) (words : List Int) : Nat → Int
  | 0 => pickV 0 p.fall words 0
  | h + 1 => pickV (max 0 (spF p words h - p.drop)) (min 1000 (spF p words h + p.gain)) words (3 * ((h + 1 : Nat) : Int))
theorem spF_bd {p : Post} {words : List Int} (hp : PostOK p) (hw : wordsOK words) : ∀ h, 0 ≤ spF p words h ∧ spF p words h ≤ 1000
  | 0 => by
    have := hp.fall
    have := pickV_bd (lo := 0) (hi := p.fall) (words := words) (at_ := 0) hw (by omega) (by omega)
    simp only [spF]; omega
  | h + 1 => by
    have ih := spF_bd hp hw h
    have := hp.drop
    have := hp.gain
    have := pickV_bd (lo := max 0 (spF p words h - p.drop)) (hi := min 1000 (spF p words h + p.gain)) (words := words) (at_ := 3 * ((h + 1 : Nat) : Int)) hw (by omega) (by omega)
    simp only [spF]; omega
def rdF (p : Post) (f : Int) (words : List Int) (h i : Nat) : Int :=
  if (i : Int) = f then pickV (-1000) 2000 words (5 * (h : Int) + 1) else pickV (spF p words h - p.errs.getD i 0) (spF p words h + p.errs.getD i 0) words (7 * (h : Int) + i)
theorem tab_zero {α : Type} {f : Nat → α} : tab 0 f = [] := by simp [tab]
theorem tab_succ {α : Type} {n : Nat} {f : Nat → α} : tab (n + 1) f = tab n f ++ [f n] := by simp [tab, List.range_succ]
theorem truth_c (p : Post) (hours f : Int) (words : List Int) (hp : PostOK p) (hw : wordsOK words) (hh : 1 ≤ hours ∧ hours ≤ 60) : CallS Try.prog 43 [.agg (postC p), .int .i64 hours, .int .i64 f, slW words]
    (.tup [sl (tab hours.toNat (spF p words)), sll (tab hours.toNat fun h => tab p.errs.length (rdF p f words h))]) := by
  obtain ⟨hl1, hl2⟩ := hp.len
  have hfa := hp.fall
  have hdr := hp.drop
  have hga := hp.gain
  have hpk := fun lo hi at_ a b c => pick_c lo hi words at_ hw a b c
  simp only [slW] at hpk
  (refine callS_of_awp (fun w args => Try.call43 ..) Try.func43 rfl (fun w0 m0 wz => ?_); simp only [Try.ntmps43, Try.results43, initT, junks, postC, watchC, sll, slSt, slW, sl, List.toList_toArray, List.cons_append, List.nil_append, List.length_cons, List.length_nil, Nat.reduceAdd, Nat.reduceSub])
  (repeat' (first
    | (refine awp_seqK ?_)
    | (refine kt ?_)
    | (refine And.intro ?_ ?_)
    | ((first | refine awp_region ?_ | refine awp_draw (by kernel_rfl) (by kernel_rfl) ?_ | refine Imp.le2 ?_ | refine awp_label ?_ | refine awp_skip ?_ | refine awp_exit ?_ | refine awp_cd ?_ | refine awp_ret ?_); simp (maxSteps := 4000000) only [go_sem, List.append_eq, List.cons_append, List.nil_append, Nat.reduceAdd, Nat.reduceMul, Nat.reduceSub, Nat.reduceLeDiff, Nat.reduceLT, Int.reduceAdd, Int.reduceToNat, Int.reduceLE, Int.reduceLT, Int.reduceNeg, reduceIte, postC, watchC, sll, slSt, slW])
    | (intro _h)
    | (refine awp_block ?_)
    | (refine awp_scope ?_)
    | ((first | refine callK_of (hpk _ _ _ (by omega) (by omega) (by omega)) ?_); try simp (maxSteps := 4000000) only [go_sem, List.append_eq, List.cons_append, List.nil_append, Nat.reduceAdd, Nat.reduceMul, Nat.reduceSub, Nat.reduceLeDiff, Nat.reduceLT, Int.reduceAdd, Int.reduceToNat, Int.reduceLE, Int.reduceLT, Int.reduceNeg, reduceIte, postC, watchC, sll, slSt, slW])
    | (refine go_split (fun _h => ?_) (fun _h => ?_) <;> simp (maxSteps := 4000000) only [go_sem, List.append_eq, List.cons_append, List.nil_append, Nat.reduceAdd, Nat.reduceMul, Nat.reduceSub, Nat.reduceLeDiff, Nat.reduceLT, Int.reduceAdd, Int.reduceToNat, Int.reduceLE, Int.reduceLT, Int.reduceNeg, reduceIte, postC, watchC, sll, slSt, slW])
    | (show heapOK _ _ = true; kernel_rfl)
    | (omega)))
  (refine awp_adT 10 3 1 rfl ?_; simp only [adT, lset, hset, List.length_cons, List.length_nil, Nat.reduceAdd])
  (refine awp_adT 11 22 1 rfl ?_; simp only [adT, lset, hset, List.length_cons, List.length_nil, Nat.reduceAdd])
  refine awp_loopN hours.toNat (fun h => ⟨mkT 91 [(1, .int .i64 hours), (2, .int .i64 f), (3, slW words), (4, .ptr 0 0 0), (10, .osl 1 h 0 h), (11, .osl 2 h 0 h), (12, .int .i64 (if h = 0 then spF p words 0 else spF p words (h - 1))), (13, .int .i64 h)], [some (.cells 46 1 0 (postC p)), some (.cells 3 1 h (ints (tab h (spF p words)))), some (.cells 22 1 h (rowsC (tab h fun h => tab p.errs.length (rdF p f words h))))], []⟩) (.le2 ?_) ?_
  · simp only [postC]; simp (maxSteps := 4000000) only [go_sem, List.append_eq, List.cons_append, List.nil_append, Nat.reduceAdd, Nat.reduceMul, Nat.reduceSub, Nat.reduceLeDiff, Nat.reduceLT, Int.reduceAdd, Int.reduceToNat, Int.reduceLE, Int.reduceLT, Int.reduceNeg, reduceIte, postC, watchC, sll, slSt, slW]
    rw [tab_zero, tab_zero]
    exact ⟨rfl, rfl, rfl⟩
  · intro h hle
    rcases Nat.lt_or_eq_of_le hle with hlt | hlt
    · have hb := spF_bd hp hw h
      have he := hp.errs
      have hlen : (tab h (spF p words)).length = h := tab_length
      have hts : tab (h + 1) (spF p words) = tab h (spF p words) ++ [spF p words h] := tab_succ
      have htr : tab (h + 1) (fun h => tab p.errs.length (rdF p f words h)) = tab h (fun h => tab p.errs.length (rdF p f words h)) ++ [tab p.errs.length (rdF p f words h)] := tab_succ
      have hin : ∀ (i : Nat) (n : Int), i < p.errs.length → (rdF p f words h i = if (i : Int) = f then pickV (-1000) 2000 words (5 * (h : Int) + 1) else pickV (spF p words h - p.errs.getD i 0) (spF p words h + p.errs.getD i 0) words (7 * (h : Int) + i)) := fun i n hi => rfl
      have hprev : 0 < h → 0 ≤ spF p words (h - 1) ∧ spF p words (h - 1) ≤ 1000 := fun _ => spF_bd hp hw (h - 1)
      have hstep : 0 < h → pickV (max 0 (spF p words (h - 1) - p.drop)) (min 1000 (spF p words (h - 1) + p.gain)) words (3 * (h : Int)) = spF p words h := fun h0 => by
        obtain ⟨m, rfl⟩ : ∃ m, h = m + 1 := ⟨h - 1, by omega⟩
        rfl
      rw [htr]
      have hS1 : ints (tab h (spF p words)) ++ [AV.int .i64 (spF p words h)] = ints (tab (h + 1) (spF p words)) := by rw [hts]; simp [ints_append, ints_cons, ints_nil]
      have hSl : (tab (h + 1) (spF p words)).length = h + 1 := tab_length
      clear hts
      generalize tab (h + 1) (spF p words) = S1 at *
      by_cases h0 : h = 0
      · have e0 : (0 < (h : Int)) = False := eq_false (by omega)
        have e1 : spF p words 0 = spF p words h := by rw [h0]
        rw [if_pos h0, e1]
        clear hstep hprev htr
        generalize hv : spF p words h = v at *
        simp only [postC]; simp (maxSteps := 4000000) only [go_sem, List.append_eq, List.cons_append, List.nil_append, Nat.reduceAdd, Nat.reduceMul, Nat.reduceSub, Nat.reduceLeDiff, Nat.reduceLT, Int.reduceAdd, Int.reduceToNat, Int.reduceLE, Int.reduceLT, Int.reduceNeg, reduceIte, postC, watchC, sll, slSt, slW]
        (repeat' (first
    | (refine awp_seqK ?_)
    | (refine kt ?_)
    | (refine And.intro ?_ ?_)
    | ((first | refine awp_region ?_ | refine awp_draw (by kernel_rfl) (by kernel_rfl) ?_ | refine Imp.le2 ?_ | refine awp_label ?_ | refine awp_skip ?_ | refine awp_exit ?_ | refine awp_cd ?_ | refine awp_ret ?_); simp (maxSteps := 4000000) only [go_sem, List.append_eq, List.cons_append, List.nil_append, Nat.reduceAdd, Nat.reduceMul, Nat.reduceSub, Nat.reduceLeDiff, Nat.reduceLT, Int.reduceAdd, Int.reduceToNat, Int.reduceLE, Int.reduceLT, Int.reduceNeg, reduceIte, postC, watchC, sll, slSt, slW, e0, decide_false])
    | (intro _h)
    | (refine awp_block ?_)
    | (refine awp_scope ?_)
    | (refine go_split (fun _h => ?_) (fun _h => ?_) <;> simp (maxSteps := 4000000) only [go_sem, List.append_eq, List.cons_append, List.nil_append, Nat.reduceAdd, Nat.reduceMul, Nat.reduceSub, Nat.reduceLeDiff, Nat.reduceLT, Int.reduceAdd, Int.reduceToNat, Int.reduceLE, Int.reduceLT, Int.reduceNeg, reduceIte, postC, watchC, sll, slSt, slW, e0, decide_false])
    | (show heapOK _ _ = true; kernel_rfl)
    | (omega)))
        (refine awp_adT 14 3 1 rfl ?_; simp only [adT, lset, hset, List.length_cons, List.length_nil, Nat.reduceAdd])
        refine awp_loopN p.errs.length (fun i => ⟨mkT 91 [(1, .int .i64 hours), (2, .int .i64 f), (3, slW words), (4, .ptr 0 0 0), (10, .osl 1 (h + 1) 0 (h + 1)), (11, .osl 2 h 0 h), (12, .int .i64 v), (13, .int .i64 h), (14, .osl 3 i 0 i), (15, .int .i64 i)], [some (.cells 46 1 0 (postC p)), some (.cells 3 1 (h + 1) (ints S1)), some (.cells 22 1 h (rowsC (tab h fun h => tab p.errs.length (rdF p f words h)))), some (.cells 3 1 i (ints (tab i (rdF p f words h))))], []⟩) (.le2 ?_) ?_
        · simp only [postC]; simp (maxSteps := 4000000) only [go_sem, List.append_eq, List.cons_append, List.nil_append, Nat.reduceAdd, Nat.reduceMul, Nat.reduceSub, Nat.reduceLeDiff, Nat.reduceLT, Int.reduceAdd, Int.reduceToNat, Int.reduceLE, Int.reduceLT, Int.reduceNeg, reduceIte, postC, watchC, sll, slSt, slW]
          rw [tab_zero]
          first | exact ⟨hS1, rfl⟩ | exact hS1
        · intro i hi
          rcases Nat.lt_or_eq_of_le hi with hi1 | hi1
          · have he := he i hi1
            have hin := hin i 0 hi1
            have hti : tab (i + 1) (rdF p f words h) = tab i (rdF p f words h) ++ [rdF p f words h i] := tab_succ
            have hlt1 : (tab i (rdF p f words h)).length = i := tab_length
            rw [hti, hin]
            by_cases hif : (i : Int) = f
            · rw [if_pos hif]
              have e2 : ((i : Int) = f) = True := eq_true hif
              simp only [postC]; simp (maxSteps := 4000000) only [go_sem, List.append_eq, List.cons_append, List.nil_append, Nat.reduceAdd, Nat.reduceMul, Nat.reduceSub, Nat.reduceLeDiff, Nat.reduceLT, Int.reduceAdd, Int.reduceToNat, Int.reduceLE, Int.reduceLT, Int.reduceNeg, reduceIte, postC, watchC, sll, slSt, slW]
              (repeat' (first
    | (refine awp_seqK ?_)
    | (refine kt ?_)
    | (refine And.intro ?_ ?_)
    | ((first | refine awp_region ?_ | refine awp_draw (by kernel_rfl) (by kernel_rfl) ?_ | refine Imp.le2 ?_ | refine awp_label ?_ | refine awp_skip ?_ | refine awp_exit ?_ | refine awp_cd ?_ | refine awp_ret ?_); simp (maxSteps := 4000000) only [go_sem, List.append_eq, List.cons_append, List.nil_append, Nat.reduceAdd, Nat.reduceMul, Nat.reduceSub, Nat.reduceLeDiff, Nat.reduceLT, Int.reduceAdd, Int.reduceToNat, Int.reduceLE, Int.reduceLT, Int.reduceNeg, reduceIte, postC, watchC, sll, slSt, slW, e2, decide_true])
    | (intro _h)
    | (refine awp_block ?_)
    | (refine awp_scope ?_)
    | ((first | refine callK_of (hpk _ _ _ (by omega) (by omega) (by omega)) ?_); try simp (maxSteps := 4000000) only [go_sem, List.append_eq, List.cons_append, List.nil_append, Nat.reduceAdd, Nat.reduceMul, Nat.reduceSub, Nat.reduceLeDiff, Nat.reduceLT, Int.reduceAdd, Int.reduceToNat, Int.reduceLE, Int.reduceLT, Int.reduceNeg, reduceIte, postC, watchC, sll, slSt, slW, e2, decide_true])
    | (refine go_split (fun _h => ?_) (fun _h => ?_) <;> simp (maxSteps := 4000000) only [go_sem, List.append_eq, List.cons_append, List.nil_append, Nat.reduceAdd, Nat.reduceMul, Nat.reduceSub, Nat.reduceLeDiff, Nat.reduceLT, Int.reduceAdd, Int.reduceToNat, Int.reduceLE, Int.reduceLT, Int.reduceNeg, reduceIte, postC, watchC, sll, slSt, slW, e2, decide_true])
    | (show heapOK _ _ = true; kernel_rfl)
    | (omega)))
              all_goals first | omega | (simp [ints_append, ints_cons, ints_nil]; done) | trace_state
            · rw [if_neg hif]
              have e2 : ((i : Int) = f) = False := eq_false hif
              simp only [postC]; simp (maxSteps := 4000000) only [go_sem, List.append_eq, List.cons_append, List.nil_append, Nat.reduceAdd, Nat.reduceMul, Nat.reduceSub, Nat.reduceLeDiff, Nat.reduceLT, Int.reduceAdd, Int.reduceToNat, Int.reduceLE, Int.reduceLT, Int.reduceNeg, reduceIte, postC, watchC, sll, slSt, slW]
              (repeat' (first
    | (refine awp_seqK ?_)
    | (refine kt ?_)
    | (refine And.intro ?_ ?_)
    | ((first | refine awp_region ?_ | refine awp_draw (by kernel_rfl) (by kernel_rfl) ?_ | refine Imp.le2 ?_ | refine awp_label ?_ | refine awp_skip ?_ | refine awp_exit ?_ | refine awp_cd ?_ | refine awp_ret ?_); simp (maxSteps := 4000000) only [go_sem, List.append_eq, List.cons_append, List.nil_append, Nat.reduceAdd, Nat.reduceMul, Nat.reduceSub, Nat.reduceLeDiff, Nat.reduceLT, Int.reduceAdd, Int.reduceToNat, Int.reduceLE, Int.reduceLT, Int.reduceNeg, reduceIte, postC, watchC, sll, slSt, slW, e2, decide_false])
    | (intro _h)
    | (refine awp_block ?_)
    | (refine awp_scope ?_)
    | ((first | refine callK_of (hpk _ _ _ (by omega) (by omega) (by omega)) ?_); try simp (maxSteps := 4000000) only [go_sem, List.append_eq, List.cons_append, List.nil_append, Nat.reduceAdd, Nat.reduceMul, Nat.reduceSub, Nat.reduceLeDiff, Nat.reduceLT, Int.reduceAdd, Int.reduceToNat, Int.reduceLE, Int.reduceLT, Int.reduceNeg, reduceIte, postC, watchC, sll, slSt, slW, e2, decide_false])
    | (refine go_split (fun _h => ?_) (fun _h => ?_) <;> simp (maxSteps := 4000000) only [go_sem, List.append_eq, List.cons_append, List.nil_append, Nat.reduceAdd, Nat.reduceMul, Nat.reduceSub, Nat.reduceLeDiff, Nat.reduceLT, Int.reduceAdd, Int.reduceToNat, Int.reduceLE, Int.reduceLT, Int.reduceNeg, reduceIte, postC, watchC, sll, slSt, slW, e2, decide_false])
    | (show heapOK _ _ = true; kernel_rfl)
    | (omega)))
              all_goals first | omega | (simp [ints_append, ints_cons, ints_nil]; done) | trace_state
          · subst hi1
            simp only [postC]; simp (maxSteps := 4000000) only [go_sem, List.append_eq, List.cons_append, List.nil_append, Nat.reduceAdd, Nat.reduceMul, Nat.reduceSub, Nat.reduceLeDiff, Nat.reduceLT, Int.reduceAdd, Int.reduceToNat, Int.reduceLE, Int.reduceLT, Int.reduceNeg, reduceIte, postC, watchC, sll, slSt, slW]
            (refine awp_frz 3 rfl (by simp (maxSteps := 4000000) only [go_sem, List.append_eq, List.cons_append, List.nil_append, Nat.reduceAdd, Nat.reduceMul, Nat.reduceSub, Nat.reduceLeDiff, Nat.reduceLT, Int.reduceAdd, Int.reduceToNat, Int.reduceLE, Int.reduceLT, Int.reduceNeg, reduceIte, postC, watchC, sll, slSt, slW]) (fun _ => rfl) ?_; simp only [frz, fzl, fz2, fz1, fz0, fzH, fzHs, fzO, fzB, List.map_cons, List.map_nil, if_true, if_false, reduceIte, Nat.reduceEqDiff, Nat.reduceAdd, Nat.succ_ne_self, Nat.zero_ne_one, Nat.one_ne_zero, reduceCtorEq, and_self])
            (repeat' (first
    | ((exfalso; omega))
    | (refine awp_seqK ?_)
    | (refine kt ?_)
    | (refine And.intro ?_ ?_)
    | ((first | refine awp_region ?_ | refine awp_draw (by kernel_rfl) (by kernel_rfl) ?_ | refine Imp.le2 ?_ | refine awp_label ?_ | refine awp_skip ?_ | refine awp_exit ?_ | refine awp_cd ?_ | refine awp_ret ?_); simp (maxSteps := 4000000) only [go_sem, List.append_eq, List.cons_append, List.nil_append, Nat.reduceAdd, Nat.reduceMul, Nat.reduceSub, Nat.reduceLeDiff, Nat.reduceLT, Int.reduceAdd, Int.reduceToNat, Int.reduceLE, Int.reduceLT, Int.reduceNeg, reduceIte, postC, watchC, sll, slSt, slW])
    | (intro _h)
    | (refine awp_block ?_)
    | (refine awp_scope ?_)
    | (refine go_split (fun _h => ?_) (fun _h => ?_) <;> simp (maxSteps := 4000000) only [go_sem, List.append_eq, List.cons_append, List.nil_append, Nat.reduceAdd, Nat.reduceMul, Nat.reduceSub, Nat.reduceLeDiff, Nat.reduceLT, Int.reduceAdd, Int.reduceToNat, Int.reduceLE, Int.reduceLT, Int.reduceNeg, reduceIte, postC, watchC, sll, slSt, slW])
    | (show heapOK _ _ = true; kernel_rfl)
    | (omega)))
            all_goals first | omega | (simp [ints_append, ints_cons, ints_nil, rowsC_snoc, sl, hv, tab_length]; done) | trace_state
      · have e0 : (0 < (h : Int)) = True := eq_true (by omega)
        have hstep := hstep (by omega)
        have hprev := hprev (by omega)
        rw [if_neg h0]
        generalize spF p words (h - 1) = u at *
        generalize hv : spF p words h = v at *
        simp only [postC]; simp (maxSteps := 4000000) only [go_sem, List.append_eq, List.cons_append, List.nil_append, Nat.reduceAdd, Nat.reduceMul, Nat.reduceSub, Nat.reduceLeDiff, Nat.reduceLT, Int.reduceAdd, Int.reduceToNat, Int.reduceLE, Int.reduceLT, Int.reduceNeg, reduceIte, postC, watchC, sll, slSt, slW]
        (repeat' (first
    | (refine awp_seqK ?_)
    | (refine kt ?_)
    | (refine And.intro ?_ ?_)
    | ((first | refine awp_region ?_ | refine awp_draw (by kernel_rfl) (by kernel_rfl) ?_ | refine Imp.le2 ?_ | refine awp_label ?_ | refine awp_skip ?_ | refine awp_exit ?_ | refine awp_cd ?_ | refine awp_ret ?_); simp (maxSteps := 4000000) only [go_sem, List.append_eq, List.cons_append, List.nil_append, Nat.reduceAdd, Nat.reduceMul, Nat.reduceSub, Nat.reduceLeDiff, Nat.reduceLT, Int.reduceAdd, Int.reduceToNat, Int.reduceLE, Int.reduceLT, Int.reduceNeg, reduceIte, postC, watchC, sll, slSt, slW, e0, decide_true, hstep])
    | (intro _h)
    | (refine awp_block ?_)
    | (refine awp_scope ?_)
    | ((first | refine callK_of (hpk _ _ _ (by omega) (by omega) (by omega)) ?_); try simp (maxSteps := 4000000) only [go_sem, List.append_eq, List.cons_append, List.nil_append, Nat.reduceAdd, Nat.reduceMul, Nat.reduceSub, Nat.reduceLeDiff, Nat.reduceLT, Int.reduceAdd, Int.reduceToNat, Int.reduceLE, Int.reduceLT, Int.reduceNeg, reduceIte, postC, watchC, sll, slSt, slW, e0, decide_true, hstep])
    | (refine go_split (fun _h => ?_) (fun _h => ?_) <;> simp (maxSteps := 4000000) only [go_sem, List.append_eq, List.cons_append, List.nil_append, Nat.reduceAdd, Nat.reduceMul, Nat.reduceSub, Nat.reduceLeDiff, Nat.reduceLT, Int.reduceAdd, Int.reduceToNat, Int.reduceLE, Int.reduceLT, Int.reduceNeg, reduceIte, postC, watchC, sll, slSt, slW, e0, decide_true, hstep])
    | (show heapOK _ _ = true; kernel_rfl)
    | (omega)))
        (refine awp_adT 14 3 1 rfl ?_; simp only [adT, lset, hset, List.length_cons, List.length_nil, Nat.reduceAdd])
        refine awp_loopN p.errs.length (fun i => ⟨mkT 91 [(1, .int .i64 hours), (2, .int .i64 f), (3, slW words), (4, .ptr 0 0 0), (10, .osl 1 (h + 1) 0 (h + 1)), (11, .osl 2 h 0 h), (12, .int .i64 v), (13, .int .i64 h), (14, .osl 3 i 0 i), (15, .int .i64 i)], [some (.cells 46 1 0 (postC p)), some (.cells 3 1 (h + 1) (ints S1)), some (.cells 22 1 h (rowsC (tab h fun h => tab p.errs.length (rdF p f words h)))), some (.cells 3 1 i (ints (tab i (rdF p f words h))))], []⟩) (.le2 ?_) ?_
        · simp only [postC]; simp (maxSteps := 4000000) only [go_sem, List.append_eq, List.cons_append, List.nil_append, Nat.reduceAdd, Nat.reduceMul, Nat.reduceSub, Nat.reduceLeDiff, Nat.reduceLT, Int.reduceAdd, Int.reduceToNat, Int.reduceLE, Int.reduceLT, Int.reduceNeg, reduceIte, postC, watchC, sll, slSt, slW]
          rw [tab_zero]
          first | exact ⟨hS1, rfl⟩ | exact hS1
        · intro i hi
          rcases Nat.lt_or_eq_of_le hi with hi1 | hi1
          · have he := he i hi1
            have hin := hin i 0 hi1
            have hti : tab (i + 1) (rdF p f words h) = tab i (rdF p f words h) ++ [rdF p f words h i] := tab_succ
            have hlt1 : (tab i (rdF p f words h)).length = i := tab_length
            rw [hti, hin]
            by_cases hif : (i : Int) = f
            · rw [if_pos hif]
              have e2 : ((i : Int) = f) = True := eq_true hif
              simp only [postC]; simp (maxSteps := 4000000) only [go_sem, List.append_eq, List.cons_append, List.nil_append, Nat.reduceAdd, Nat.reduceMul, Nat.reduceSub, Nat.reduceLeDiff, Nat.reduceLT, Int.reduceAdd, Int.reduceToNat, Int.reduceLE, Int.reduceLT, Int.reduceNeg, reduceIte, postC, watchC, sll, slSt, slW]
              (repeat' (first
    | (refine awp_seqK ?_)
    | (refine kt ?_)
    | (refine And.intro ?_ ?_)
    | ((first | refine awp_region ?_ | refine awp_draw (by kernel_rfl) (by kernel_rfl) ?_ | refine Imp.le2 ?_ | refine awp_label ?_ | refine awp_skip ?_ | refine awp_exit ?_ | refine awp_cd ?_ | refine awp_ret ?_); simp (maxSteps := 4000000) only [go_sem, List.append_eq, List.cons_append, List.nil_append, Nat.reduceAdd, Nat.reduceMul, Nat.reduceSub, Nat.reduceLeDiff, Nat.reduceLT, Int.reduceAdd, Int.reduceToNat, Int.reduceLE, Int.reduceLT, Int.reduceNeg, reduceIte, postC, watchC, sll, slSt, slW, e2, decide_true])
    | (intro _h)
    | (refine awp_block ?_)
    | (refine awp_scope ?_)
    | ((first | refine callK_of (hpk _ _ _ (by omega) (by omega) (by omega)) ?_); try simp (maxSteps := 4000000) only [go_sem, List.append_eq, List.cons_append, List.nil_append, Nat.reduceAdd, Nat.reduceMul, Nat.reduceSub, Nat.reduceLeDiff, Nat.reduceLT, Int.reduceAdd, Int.reduceToNat, Int.reduceLE, Int.reduceLT, Int.reduceNeg, reduceIte, postC, watchC, sll, slSt, slW, e2, decide_true])
    | (refine go_split (fun _h => ?_) (fun _h => ?_) <;> simp (maxSteps := 4000000) only [go_sem, List.append_eq, List.cons_append, List.nil_append, Nat.reduceAdd, Nat.reduceMul, Nat.reduceSub, Nat.reduceLeDiff, Nat.reduceLT, Int.reduceAdd, Int.reduceToNat, Int.reduceLE, Int.reduceLT, Int.reduceNeg, reduceIte, postC, watchC, sll, slSt, slW, e2, decide_true])
    | (show heapOK _ _ = true; kernel_rfl)
    | (omega)))
              all_goals first | omega | (simp [ints_append, ints_cons, ints_nil]; done) | trace_state
            · rw [if_neg hif]
              have e2 : ((i : Int) = f) = False := eq_false hif
              simp only [postC]; simp (maxSteps := 4000000) only [go_sem, List.append_eq, List.cons_append, List.nil_append, Nat.reduceAdd, Nat.reduceMul, Nat.reduceSub, Nat.reduceLeDiff, Nat.reduceLT, Int.reduceAdd, Int.reduceToNat, Int.reduceLE, Int.reduceLT, Int.reduceNeg, reduceIte, postC, watchC, sll, slSt, slW]
              (repeat' (first
    | (refine awp_seqK ?_)
    | (refine kt ?_)
    | (refine And.intro ?_ ?_)
    | ((first | refine awp_region ?_ | refine awp_draw (by kernel_rfl) (by kernel_rfl) ?_ | refine Imp.le2 ?_ | refine awp_label ?_ | refine awp_skip ?_ | refine awp_exit ?_ | refine awp_cd ?_ | refine awp_ret ?_); simp (maxSteps := 4000000) only [go_sem, List.append_eq, List.cons_append, List.nil_append, Nat.reduceAdd, Nat.reduceMul, Nat.reduceSub, Nat.reduceLeDiff, Nat.reduceLT, Int.reduceAdd, Int.reduceToNat, Int.reduceLE, Int.reduceLT, Int.reduceNeg, reduceIte, postC, watchC, sll, slSt, slW, e2, decide_false])
    | (intro _h)
    | (refine awp_block ?_)
    | (refine awp_scope ?_)
    | ((first | refine callK_of (hpk _ _ _ (by omega) (by omega) (by omega)) ?_); try simp (maxSteps := 4000000) only [go_sem, List.append_eq, List.cons_append, List.nil_append, Nat.reduceAdd, Nat.reduceMul, Nat.reduceSub, Nat.reduceLeDiff, Nat.reduceLT, Int.reduceAdd, Int.reduceToNat, Int.reduceLE, Int.reduceLT, Int.reduceNeg, reduceIte, postC, watchC, sll, slSt, slW, e2, decide_false])
    | (refine go_split (fun _h => ?_) (fun _h => ?_) <;> simp (maxSteps := 4000000) only [go_sem, List.append_eq, List.cons_append, List.nil_append, Nat.reduceAdd, Nat.reduceMul, Nat.reduceSub, Nat.reduceLeDiff, Nat.reduceLT, Int.reduceAdd, Int.reduceToNat, Int.reduceLE, Int.reduceLT, Int.reduceNeg, reduceIte, postC, watchC, sll, slSt, slW, e2, decide_false])
    | (show heapOK _ _ = true; kernel_rfl)
    | (omega)))
              all_goals first | omega | (simp [ints_append, ints_cons, ints_nil]; done) | trace_state
          · subst hi1
            simp only [postC]; simp (maxSteps := 4000000) only [go_sem, List.append_eq, List.cons_append, List.nil_append, Nat.reduceAdd, Nat.reduceMul, Nat.reduceSub, Nat.reduceLeDiff, Nat.reduceLT, Int.reduceAdd, Int.reduceToNat, Int.reduceLE, Int.reduceLT, Int.reduceNeg, reduceIte, postC, watchC, sll, slSt, slW]
            (refine awp_frz 3 rfl (by simp (maxSteps := 4000000) only [go_sem, List.append_eq, List.cons_append, List.nil_append, Nat.reduceAdd, Nat.reduceMul, Nat.reduceSub, Nat.reduceLeDiff, Nat.reduceLT, Int.reduceAdd, Int.reduceToNat, Int.reduceLE, Int.reduceLT, Int.reduceNeg, reduceIte, postC, watchC, sll, slSt, slW]) (fun _ => rfl) ?_; simp only [frz, fzl, fz2, fz1, fz0, fzH, fzHs, fzO, fzB, List.map_cons, List.map_nil, if_true, if_false, reduceIte, Nat.reduceEqDiff, Nat.reduceAdd, Nat.succ_ne_self, Nat.zero_ne_one, Nat.one_ne_zero, reduceCtorEq, and_self])
            (repeat' (first
    | ((exfalso; omega))
    | (refine awp_seqK ?_)
    | (refine kt ?_)
    | (refine And.intro ?_ ?_)
    | ((first | refine awp_region ?_ | refine awp_draw (by kernel_rfl) (by kernel_rfl) ?_ | refine Imp.le2 ?_ | refine awp_label ?_ | refine awp_skip ?_ | refine awp_exit ?_ | refine awp_cd ?_ | refine awp_ret ?_); simp (maxSteps := 4000000) only [go_sem, List.append_eq, List.cons_append, List.nil_append, Nat.reduceAdd, Nat.reduceMul, Nat.reduceSub, Nat.reduceLeDiff, Nat.reduceLT, Int.reduceAdd, Int.reduceToNat, Int.reduceLE, Int.reduceLT, Int.reduceNeg, reduceIte, postC, watchC, sll, slSt, slW])
    | (intro _h)
    | (refine awp_block ?_)
    | (refine awp_scope ?_)
    | (refine go_split (fun _h => ?_) (fun _h => ?_) <;> simp (maxSteps := 4000000) only [go_sem, List.append_eq, List.cons_append, List.nil_append, Nat.reduceAdd, Nat.reduceMul, Nat.reduceSub, Nat.reduceLeDiff, Nat.reduceLT, Int.reduceAdd, Int.reduceToNat, Int.reduceLE, Int.reduceLT, Int.reduceNeg, reduceIte, postC, watchC, sll, slSt, slW])
    | (show heapOK _ _ = true; kernel_rfl)
    | (omega)))
            all_goals first | omega | (simp [ints_append, ints_cons, ints_nil, rowsC_snoc, sl, hv, tab_length]; done) | trace_state
    · have hlen : (tab h (spF p words)).length = h := tab_length
      simp only [postC]; simp (maxSteps := 4000000) only [go_sem, List.append_eq, List.cons_append, List.nil_append, Nat.reduceAdd, Nat.reduceMul, Nat.reduceSub, Nat.reduceLeDiff, Nat.reduceLT, Int.reduceAdd, Int.reduceToNat, Int.reduceLE, Int.reduceLT, Int.reduceNeg, reduceIte, postC, watchC, sll, slSt, slW]
      (repeat' (first
    | ((exfalso; omega))
    | (refine awp_seqK ?_)
    | (refine kt ?_)
    | (refine And.intro ?_ ?_)
    | ((first | refine awp_region ?_ | refine awp_draw (by kernel_rfl) (by kernel_rfl) ?_ | refine Imp.le2 ?_ | refine awp_label ?_ | refine awp_skip ?_ | refine awp_exit ?_ | refine awp_cd ?_ | refine awp_ret ?_); simp (maxSteps := 4000000) only [go_sem, List.append_eq, List.cons_append, List.nil_append, Nat.reduceAdd, Nat.reduceMul, Nat.reduceSub, Nat.reduceLeDiff, Nat.reduceLT, Int.reduceAdd, Int.reduceToNat, Int.reduceLE, Int.reduceLT, Int.reduceNeg, reduceIte, postC, watchC, sll, slSt, slW])
    | (intro _h)
    | (refine awp_block ?_)
    | (refine awp_scope ?_)
    | (refine go_split (fun _h => ?_) (fun _h => ?_) <;> simp (maxSteps := 4000000) only [go_sem, List.append_eq, List.cons_append, List.nil_append, Nat.reduceAdd, Nat.reduceMul, Nat.reduceSub, Nat.reduceLeDiff, Nat.reduceLT, Int.reduceAdd, Int.reduceToNat, Int.reduceLE, Int.reduceLT, Int.reduceNeg, reduceIte, postC, watchC, sll, slSt, slW])
    | (show heapOK _ _ = true; kernel_rfl)
    | (omega)))
      all_goals (subst hlt; first | rfl | omega | trace_state)
end Go.Am

/- Plain words for posts at work: a truth is among what may be. -/
namespace Go.Am
open Go.RowKit Go.Proofs
set_option linter.unusedSimpArgs false
set_option linter.unusedVariables false

theorem gAt_first {p : Post} {reads : List (List Int)} {f : Int} : gAt p reads 1 f = stepX p (reads.getD 0 []) true f (0, 1000) := by
  simp [gAt, stepG]
theorem gAt_succ {p : Post} {reads : List (List Int)} {f : Int} {h : Nat} : gAt p reads (h + 2) f = (gAt p reads (h + 1) f).bind (stepX p (reads.getD (h + 1) []) false f) := by
  show stepG p _ (decide (h + 1 = 0)) (gAt p reads (h + 1)) f = _
  rw [decide_eq_false (by omega)]; rfl
theorem reach_in {p : Post} {reads : List (List Int)} {f : Int} {sp : List Int} (hp : PostOK p) : ∀ h, (∀ j, j ≤ h → okT p reads f sp j) → inE (gAt p reads (h + 1) f) (sp.getD h 0).toNat = true
  | 0, hk => by
    obtain ⟨hv, ha⟩ := ends_iff.1 (hk 0 (Nat.le_refl _)).1
    rw [gAt_first, first_in (by omega)]
    rwa [show ((sp.getD 0 0).toNat : Int) = sp.getD 0 0 by omega]
  | h + 1, hk => by
    have ih := reach_in hp h (fun j hj => hk j (by omega))
    have k := hk (h + 1) (Nat.le_refl _)
    obtain ⟨hv, ha⟩ := ends_iff.1 k.1
    have hb := okT_bd (hk h (by omega))
    have hd := k.2.resolve_left (by omega)
    simp only [Nat.add_sub_cancel] at hd
    rw [gAt_succ, step_in hp (by omega) (fun z hz => gAt_ok (h + 1) f z hz), Bool.and_eq_true]
    refine ⟨?_, by rwa [show ((sp.getD (h + 1) 0).toNat : Int) = sp.getD (h + 1) 0 by omega]⟩
    unfold comesB
    refine decide_eq_true ((cnt_lt (by unfold fromLo fromHi; have := hp.gain; have := hp.drop; omega)).2.2 ⟨(sp.getD h 0).toNat, ?_, ?_, ih⟩)
    · unfold fromLo; omega
    · unfold fromHi; omega
theorem hull_mem {g : Int → Option (Int × Int)} {i : Nat} {x : Int × Int} (hx : g ((i : Int) - 1) = some x) : ∀ n, i < n → ∃ s, hull g n = some s ∧ s.1 ≤ x.1 ∧ x.2 ≤ s.2
  | 0, h => by omega
  | n + 1, h => by
    simp only [hull]
    rcases Nat.lt_or_eq_of_le (Nat.le_of_lt_succ h) with h1 | h1
    · obtain ⟨s, h2, h3, h4⟩ := hull_mem hx n h1
      rw [h2]
      cases g ((n : Int) - 1) with
      | none => exact ⟨s, rfl, h3, h4⟩
      | some y => exact ⟨_, rfl, by simp only [joinE]; omega, by simp only [joinE]; omega⟩
    · subst h1
      rw [hx]
      refine ⟨_, rfl, ?_, ?_⟩ <;> cases hull g i <;> simp only [joinE] <;> omega
theorem hull_in {g : Int → Option (Int × Int)} {f : Int} {v n : Nat} (hv : inE (g f) v = true) (hf : -1 ≤ f ∧ f ≤ (n : Int) - 1) : ∃ s, hull g (n + 1) = some s ∧ s.1 ≤ v ∧ (v : Int) ≤ s.2 := by
  cases hg : g f with
  | none => rw [hg] at hv; cases hv
  | some x =>
    rw [hg] at hv
    have h1 : x.1 ≤ v ∧ (v : Int) ≤ x.2 := of_decide_eq_true hv
    obtain ⟨s, h2, h3, h4⟩ := hull_mem (g := g) (i := (f + 1).toNat) (x := x) (by rw [show (((f + 1).toNat : Nat) : Int) - 1 = f by omega]; exact hg) (n + 1) (by omega)
    exact ⟨s, h2, by omega, by omega⟩
theorem flist_mem {g : Int → Option (Int × Int)} {f : Int} : ∀ n : Nat, f ∈ flist g n ↔ ∃ i : Nat, i < n ∧ f = (i : Int) - 1 ∧ (g f).isSome = true
  | 0 => by simp [flist]
  | n + 1 => by
    have ih := flist_mem (g := g) (f := f) n
    have key : (∃ i : Nat, i < n + 1 ∧ f = (i : Int) - 1 ∧ (g f).isSome = true) ↔ (∃ i : Nat, i < n ∧ f = (i : Int) - 1 ∧ (g f).isSome = true) ∨ (f = (n : Int) - 1 ∧ (g f).isSome = true) := by
      constructor
      · rintro ⟨i, h1, h2, h3⟩
        rcases Nat.lt_or_eq_of_le (Nat.le_of_lt_succ h1) with h4 | h4
        · exact .inl ⟨i, h4, h2, h3⟩
        · subst h4; exact .inr ⟨h2, h3⟩
      · rintro (⟨i, h1, h2, h3⟩ | ⟨h2, h3⟩)
        · exact ⟨i, by omega, h2, h3⟩
        · exact ⟨n, by omega, h2, h3⟩
    rw [key, ← ih]
    simp only [flist]
    cases hg : g ((n : Int) - 1) with
    | none =>
      constructor
      · exact .inl
      · rintro (h | ⟨h1, h2⟩)
        · exact h
        · subst h1; rw [hg] at h2; cases h2
    | some x =>
      rw [List.mem_append, List.mem_singleton]
      constructor
      · rintro (h | h)
        · exact .inl h
        · subst h; exact .inr ⟨rfl, by rw [hg]; rfl⟩
      · rintro (h | h)
        · exact .inl h
        · exact .inr h.1
theorem leftOf_le {p : Post} {v n : Int} (hp : PostOK p) (hn : 0 ≤ n) (h : p.fall ≤ v + n * p.gain) : leftOf p v ≤ n := by
  have hg := hp.gain
  by_cases h1 : p.fall ≤ v
  · unfold leftOf; rw [if_pos h1]; exact hn
  · by_cases h2 : p.gain = 0
    · rw [h2, Int.mul_zero] at h; omega
    · have := left_lt (p := p) (v := v) (by omega) (by omega) n
      omega
/-- How fast a truth rises. -/
theorem truth_rise {p : Post} {reads : List (List Int)} {f : Int} {sp : List Int} {k : Nat} : ∀ d, (∀ j, j ≤ k + d → okT p reads f sp j) → sp.getD (k + d) 0 ≤ sp.getD k 0 + d * p.gain
  | 0, _ => by simp
  | d + 1, h => by
    have ih := truth_rise (k := k) d (fun j hj => h j (by omega))
    have := (h (k + (d + 1)) (Nat.le_refl _)).2.resolve_left (by omega)
    rw [show k + (d + 1) - 1 = k + d by omega] at this
    have e : ((d + 1 : Nat) : Int) * p.gain = (d : Int) * p.gain + p.gain := by
      rw [Int.natCast_add, Int.add_mul]; simp
    rw [e]
    omega
/-- THE THEOREM's heart: the level is Call in time. -/
theorem safe_level {p : Post} {reads : List (List Int)} {f : Int} {sp : List Int} {h k : Nat} {hi : Int} (hp : PostOK p) (ht : ∀ j, j ≤ h → okT p reads f sp j) (hf : p.fall ≤ sp.getD h 0) (hk : k ≤ h) (ho : (h : Int) - k ≤ p.out) (hhi : sp.getD k 0 ≤ hi) : levelOf p hi = 3 := by
  have hr := truth_rise (k := k) (h - k) (fun j hj => ht j (by omega))
  rw [show k + (h - k) = h by omega] at hr
  have hl : leftOf p hi ≤ ((h - k : Nat) : Int) := leftOf_le hp (by omega) (by omega)
  unfold levelOf
  rw [if_pos (by omega)]
end Go.Am

/- The law AlarmSafe, as a contract: it returns true. -/
namespace Go.Am
open Go.RowKit Go.Proofs
attribute [local irreducible] AWP CallS Kt goK CallK stepK evOps SemF SemY Imp tab
set_option maxRecDepth 4000
set_option linter.unusedSimpArgs false
set_option linter.unusedVariables false
set_option maxHeartbeats 3200000

theorem nth_st0 {l : List (Int × Int × Int)} {i : Nat} {K : AV → Prop} : optK (nth (recs stC l) (i * 3)) K = (i < l.length ∧ K (.int .i64 (l.getD i default).1)) := nth_recs (sz := 3) (o := 0) (fun _ => rfl) (by omega)
theorem nth_st1 {l : List (Int × Int × Int)} {i : Nat} {K : AV → Prop} : optK (nth (recs stC l) (i * 3 + 1)) K = (i < l.length ∧ K (.int .i64 (l.getD i default).2.1)) := nth_recs (sz := 3) (o := 1) (fun _ => rfl) (by omega)
theorem nth_st2 {l : List (Int × Int × Int)} {i : Nat} {K : AV → Prop} : optK (nth (recs stC l) (i * 3 + 2)) K = (i < l.length ∧ K (.int .u8 (l.getD i default).2.2)) := nth_recs (sz := 3) (o := 2) (fun _ => rfl) (by omega)
attribute [go_sem] nth_st0 nth_st1 nth_st2

theorem mem_tab {α : Type} {n : Nat} {f : Nat → α} {x : α} (h : x ∈ tab n f) : ∃ i, i < n ∧ f i = x := by
  simp only [tab, List.mem_map, List.mem_range] at h
  exact h
theorem rdF_bd {p : Post} {f : Int} {words : List Int} {h i : Nat} (hp : PostOK p) (hw : wordsOK words) (hi : i < p.errs.length) : -1000 ≤ rdF p f words h i ∧ rdF p f words h i ≤ 2000 := by
  have hs := spF_bd hp hw h
  have he := hp.errs i hi
  unfold rdF
  split
  · exact pickV_bd hw (by omega) (by omega)
  · have := pickV_bd (lo := spF p words h - p.errs.getD i 0) (hi := spF p words h + p.errs.getD i 0) (words := words) (at_ := 7 * (h : Int) + i) hw (by omega) (by omega)
    omega
theorem truth_fault {p : Post} {f : Int} {words : List Int} {H : Nat} (hpb : postB p = true) (hw : wordsOK words) (hH : H ≤ 60) : faultP p (tab H fun h => tab p.errs.length (rdF p f words h)) = 0 := by
  have hp := postB_ok hpb
  unfold faultP
  rw [if_neg (by simp [hpb]), if_neg (by rw [tab_length]; omega), if_pos]
  rw [List.all_eq_true]
  intro r hr
  obtain ⟨h, _, rfl⟩ := mem_tab hr
  simp only [rowB, tab_length, decide_true, Bool.true_and, List.all_eq_true]
  intro x hx
  obtain ⟨i, hi, rfl⟩ := mem_tab hx
  exact decide_eq_true (rdF_bd hp hw hi)
theorem truth_ok {p : Post} {f : Int} {words : List Int} {H : Nat} (hp : PostOK p) (hw : wordsOK words) {h : Nat} (hh : h < H) : okT p (tab H fun h => tab p.errs.length (rdF p f words h)) f (tab H (spF p words)) h := by
  have hs := spF_bd hp hw h
  have hd := hp.drop
  have hg := hp.gain
  rw [okT_iff, ends_iff, tab_getD hh, tab_getD hh]
  refine ⟨⟨hs, decide_eq_true fun i hi hne => ?_⟩, ?_⟩
  · rw [tab_length] at hi
    have he := hp.errs i hi
    rw [tab_getD hi]
    unfold rdF
    rw [if_neg hne]
    have := pickV_bd (lo := spF p words h - p.errs.getD i 0) (hi := spF p words h + p.errs.getD i 0) (words := words) (at_ := 7 * (h : Int) + i) hw (by omega) (by omega)
    omega
  · cases h with
    | zero => exact .inl rfl
    | succ h =>
      right
      rw [show h + 1 - 1 = h by omega, tab_getD (show h < H by omega)]
      have hs' := spF_bd hp hw h
      have := pickV_bd (lo := max 0 (spF p words h - p.drop)) (hi := min 1000 (spF p words h + p.gain)) (words := words) (at_ := 3 * ((h + 1 : Nat) : Int)) hw (by omega) (by omega)
      simp only [spF]
      omega
/-- What the law looks at. -/
structure SafeF (p : Post) (reads : List (List Int)) (f : Int) (sp : List Int) (H : Nat) (L : List (Int × Int × Int)) (F : List Int) : Prop where
  sl : sp.length = H
  rl : reads.length = H
  ll : L.length = H
  fl : F.length ≤ 11
  lo : ∀ h, h < H → (L.getD h default).1 ≤ sp.getD h 0 ∧ sp.getD h 0 ≤ (L.getD h default).2.1
  lv : ∀ h k, h < H → p.fall ≤ sp.getD h 0 → k ≤ h → (h : Int) - k ≤ p.out → (L.getD k default).2.2 = 3
  mem : ∃ i, i < F.length ∧ F.getD i 0 = f
theorem safe_facts {p : Post} {reads : List (List Int)} {f : Int} {sp : List Int} {H : Nat} (hf : faultP p reads = 0) (hs : sp.length = H) (hr : reads.length = H) (hH : 1 ≤ H) (hfr : -1 ≤ f ∧ f ≤ (p.errs.length : Int) - 1) (hk : ∀ h, h < H → okT p reads f sp h) :
    proveB p reads f sp = true ∧ levelsE p reads = 0 ∧ SafeF p reads f sp H (levelsL p reads) (failedL p reads) := by
  obtain ⟨hp, hro⟩ := faultP_zero hf
  have hin : ∀ h, h < H → ∃ s, stAt p reads h = some s ∧ s.1 ≤ sp.getD h 0 ∧ sp.getD h 0 ≤ s.2 := fun h hh => by
    have h1 := reach_in hp h (fun j hj => hk j (by omega))
    have hb := okT_bd (hk h hh)
    obtain ⟨s, h2, h3, h4⟩ := hull_in (n := p.errs.length) h1 hfr
    exact ⟨s, h2, by omega, by omega⟩
  have hbk : brk p reads = none := by
    cases hb : brk p reads with
    | none => rfl
    | some k =>
      obtain ⟨h1, h2, _⟩ := brk_some hb
      obtain ⟨s, h3, _⟩ := hin k (by omega)
      rw [h2] at h3; cases h3
  have eL : levelsL p reads = states p reads H := by unfold levelsL; rw [if_pos hf, hbk, hr]
  have eE : levelsE p reads = 0 := by unfold levelsE; rw [if_pos hf, hbk]
  have eF : failedL p reads = flist (gAt p reads H) (p.errs.length + 1) := by unfold failedL; rw [if_pos hf, hbk, hr]
  have hget : ∀ h, h < H → (states p reads H).getD h default = stRec p (stAt p reads h) := fun h hh => by
    simp [states, List.getD_eq_getElem?_getD, hh]
  refine ⟨decide_eq_true ⟨hf, by omega, hfr, fun h hh => hk h (by omega)⟩, eE, ?_⟩
  rw [eL, eF]
  refine ⟨hs, hr, states_length, ?_, fun h hh => ?_, fun h k hh hfa hkh ho => ?_, ?_⟩
  · have := flist_le (g := gAt p reads H) (p.errs.length + 1)
    have := hp.len
    omega
  · obtain ⟨s, h1, h2, h3⟩ := hin h hh
    rw [hget h hh, h1]
    exact ⟨h2, h3⟩
  · obtain ⟨s, h1, h2, h3⟩ := hin k (by omega)
    rw [hget k (by omega), h1]
    exact safe_level hp (fun j hj => hk j (by omega)) hfa hkh ho h3
  · have h1 := reach_in hp (H - 1) (fun j hj => hk j (by omega))
    rw [show H - 1 + 1 = H by omega] at h1
    have h2 : f ∈ flist (gAt p reads H) (p.errs.length + 1) := by
      rw [flist_mem]
      refine ⟨(f + 1).toNat, by omega, by omega, ?_⟩
      cases hg : gAt p reads H f with
      | none => rw [hg] at h1; cases h1
      | some x => rfl
    obtain ⟨i, hi, e⟩ := List.mem_iff_getElem.1 h2
    exact ⟨i, hi, by simp [List.getD_eq_getElem?_getD, hi, e]⟩
def hasTo (F : List Int) (f : Int) (k : Nat) : Bool := (F.take k).any (fun x => decide (x = f))
theorem hasTo_zero {F : List Int} {f : Int} : hasTo F f 0 = false := by simp [hasTo]
theorem hasTo_succ {F : List Int} {f : Int} {k : Nat} (h : k < F.length) : hasTo F f (k + 1) = (hasTo F f k || decide (F.getD k 0 = f)) := by
  unfold hasTo
  rw [List.take_succ_eq_append_getElem h, List.any_append]
  simp [List.getD_eq_getElem?_getD, h]
theorem hasTo_all {F : List Int} {f : Int} (h : ∃ i, i < F.length ∧ F.getD i 0 = f) : hasTo F f F.length = true := by
  obtain ⟨i, h1, h2⟩ := h
  simp only [hasTo, List.take_length, List.any_eq_true, decide_eq_true_eq]
  exact ⟨F[i], List.getElem_mem h1, by rw [← h2]; simp [List.getD_eq_getElem?_getD, h1]⟩
end Go.Am

/- The law AlarmEnds, as a contract: it returns true. -/
namespace Go.Am
open Go.RowKit Go.Proofs
set_option maxRecDepth 4000
set_option linter.unusedSimpArgs false
set_option linter.unusedVariables false
set_option maxHeartbeats 1600000

theorem hull_ends {g : Int → Option (Int × Int)} (hg : GOK g) : ∀ (n : Nat) (s : Int × Int), hull g n = some s → s.1 ≤ s.2 ∧ (∃ i : Nat, i < n ∧ ∃ x, g ((i : Int) - 1) = some x ∧ x.1 = s.1) ∧ ∃ i : Nat, i < n ∧ ∃ x, g ((i : Int) - 1) = some x ∧ x.2 = s.2
  | 0, s, h => by cases h
  | n + 1, s, h => by
    simp only [hull] at h
    cases hx : g ((n : Int) - 1) with
    | none =>
      rw [hx] at h
      obtain ⟨h1, ⟨i, h2, h3⟩, ⟨j, h4, h5⟩⟩ := hull_ends hg n s h
      exact ⟨h1, ⟨i, by omega, h3⟩, ⟨j, by omega, h5⟩⟩
    | some x =>
      simp only [hx, Option.some.injEq] at h
      have hb := hg _ x hx
      cases hh : hull g n with
      | none =>
        rw [hh] at h
        simp only [joinE] at h
        subst h
        exact ⟨hb.2.1, ⟨n, by omega, x, hx, rfl⟩, ⟨n, by omega, x, hx, rfl⟩⟩
      | some r =>
        rw [hh] at h
        simp only [joinE] at h
        obtain ⟨h1, ⟨i, h2, y, h3, h3'⟩, ⟨j, h4, z, h5, h5'⟩⟩ := hull_ends hg n r hh
        subst h
        refine ⟨by simp only; omega, ?_, ?_⟩
        · by_cases hc : r.1 ≤ x.1
          · exact ⟨i, by omega, y, h3, by simp only; omega⟩
          · exact ⟨n, by omega, x, hx, by simp only; omega⟩
        · by_cases hc : x.2 ≤ r.2
          · exact ⟨j, by omega, z, h5, by simp only; omega⟩
          · exact ⟨n, by omega, x, hx, by simp only; omega⟩
theorem pick_has {g : Int → Option (Int × Int)} {v : Int} {n i : Nat} {x : Int × Int} (hi : i < n) (hx : g ((i : Int) - 1) = some x) (hv : x.1 ≤ v ∧ v ≤ x.2) : ∃ f, pickF g v n = some f := by
  cases h : pickF g v n with
  | some f => exact ⟨f, rfl⟩
  | none => exact absurd hv (pickF_none n h i hi x hx)
theorem pick_out {g : Int → Option (Int × Int)} {v : Int} {n : Nat} {s : Int × Int} (hs : hull g n = some s) (hv : v < s.1 ∨ s.2 < v) : pickF g v n = none := by
  cases h : pickF g v n with
  | none => rfl
  | some f =>
    obtain ⟨i, h1, _, ⟨x, h2, h3, h4⟩, _⟩ := pickF_some n h
    obtain ⟨s', h5, h6, h7⟩ := hull_mem h2 n h1
    rw [hs] at h5; cases h5
    omega
theorem truth_end {p : Post} {reads : List (List Int)} {h : Nat} {s : Int × Int} {v : Int} (hf : faultP p reads = 0) (hh : h < reads.length) (hs : stAt p reads h = some s) (hv : v = s.1 ∨ v = s.2) :
    ∃ f L, truthR p reads h v = (f, L, 0) ∧ L.length = h + 1 ∧ L.getD h 0 = v ∧ proveB p (reads.take (h + 1)) f L = true := by
  obtain ⟨hp, hr⟩ := faultP_zero hf
  unfold stAt at hs
  have hbd := hull_bd (gAt_ok (p := p) (reads := reads) (h + 1)) (p.errs.length + 1)
  rw [hs] at hbd
  simp only [hLo, hHi] at hbd
  obtain ⟨h1, ⟨i, h2, y, h3, h3'⟩, ⟨j, h4, z, h5, h5'⟩⟩ := hull_ends (gAt_ok (h + 1)) _ s hs
  have hy := gAt_ok (h + 1) _ y h3
  have hz := gAt_ok (h + 1) _ z h5
  obtain ⟨f, hpk⟩ : ∃ f, pickF (gAt p reads (h + 1)) v (p.errs.length + 1) = some f := by
    rcases hv with e | e
    · exact pick_has h2 h3 (by omega)
    · exact pick_has h4 h5 (by omega)
  obtain ⟨f1, f2, x, f3, f4⟩ := pick_is hpk
  refine ⟨f, backL (gAt p reads) p.gain f h v, ?_, backL_length _ _, (back_ok hp h v x f3 f4).1, back_proved hf hh ⟨f1, by omega⟩ f3 f4⟩
  unfold truthR
  rw [if_pos hf, if_pos ⟨⟨by omega, by omega⟩, by omega, by omega⟩, Int.toNat_natCast, hpk]
theorem truth_out {p : Post} {reads : List (List Int)} {h : Nat} {s : Int × Int} {v : Int} (hf : faultP p reads = 0) (hh : h < reads.length) (hs : stAt p reads h = some s) (hv : v < s.1 ∨ s.2 < v) :
    truthR p reads h v = (0, [], if 0 ≤ v ∧ v ≤ 1000 then 7 else 2) := by
  unfold stAt at hs
  have hpk := pick_out hs hv
  unfold truthR
  rw [if_pos hf]
  by_cases hc : 0 ≤ v ∧ v ≤ 1000
  · rw [if_pos ⟨⟨by omega, by omega⟩, hc⟩, Int.toNat_natCast, hpk, if_pos hc]
  · rw [if_neg (fun h => hc h.2), if_neg hc]
theorem inB_take {p : Post} {reads : List (List Int)} {m : Nat} (h : InB p reads) : InB p (reads.take m) := by
  refine ⟨h.e, by have := h.n; simp; omega, fun i hi => ?_⟩
  have e : (reads.take m).getD i [] = reads.getD i [] := by
    simp only [List.getD_eq_getElem?_getD, List.getElem?_take]
    rw [if_pos (by simp at hi; omega)]
  rw [e]; exact h.rows i (by simp at hi; omega)

attribute [local irreducible] AWP CallS Kt goK CallK stepK evOps SemF SemY Imp
theorem alarmEnds_c (p : Post) (reads : List (List Int)) (k : Int) (hb : InB p reads) (hk : 0 ≤ k ∧ k ≤ 255) : CallS Try.prog 11 [.agg (postC p), sll reads, .int .u8 k] (.bool true) := by
  have k1 := ready_c p reads hb
  have k3 := fun h v => truthAll_c p reads h v hb
  have k5 := levels_c p reads hb
  cases hrd : readyB p reads
  · rw [hrd] at k1
    simp only [postC, sl, sll] at k1
    (refine callS_of_awp (fun w args => Try.call11 ..) Try.func11 rfl (fun w0 m0 wz => ?_); simp only [Try.ntmps11, Try.results11, initT, junks, postC, watchC, sll, slSt, sl, List.toList_toArray, List.cons_append, List.nil_append, List.length_cons, List.length_nil, Nat.reduceAdd, Nat.reduceSub])
    (repeat' (first
    | (refine awp_seqK ?_)
    | (refine kt ?_)
    | (refine And.intro ?_ ?_)
    | ((first | refine awp_region ?_ | refine awp_draw (by kernel_rfl) (by kernel_rfl) ?_ | refine Imp.le2 ?_ | refine awp_label ?_ | refine awp_skip ?_ | refine awp_exit ?_ | refine awp_cd ?_ | refine awp_ret ?_); simp (maxSteps := 4000000) only [go_sem, List.append_eq, List.cons_append, List.nil_append, Nat.reduceAdd, Nat.reduceMul, Nat.reduceSub, Nat.reduceLeDiff, Nat.reduceLT, Int.reduceAdd, Int.reduceToNat, Int.reduceLE, Int.reduceLT, Int.reduceNeg, reduceIte, postC, watchC, sll, slSt])
    | (intro _h)
    | (refine awp_block ?_)
    | (refine awp_scope ?_)
    | ((first | refine callK_of (awake_c) ?_ | refine callK_of (k1) ?_); try simp (maxSteps := 4000000) only [go_sem, List.append_eq, List.cons_append, List.nil_append, Nat.reduceAdd, Nat.reduceMul, Nat.reduceSub, Nat.reduceLeDiff, Nat.reduceLT, Int.reduceAdd, Int.reduceToNat, Int.reduceLE, Int.reduceLT, Int.reduceNeg, reduceIte, postC, watchC, sll, slSt])
    | (refine go_split (fun _h => ?_) (fun _h => ?_) <;> simp (maxSteps := 4000000) only [go_sem, List.append_eq, List.cons_append, List.nil_append, Nat.reduceAdd, Nat.reduceMul, Nat.reduceSub, Nat.reduceLeDiff, Nat.reduceLT, Int.reduceAdd, Int.reduceToNat, Int.reduceLE, Int.reduceLT, Int.reduceNeg, reduceIte, postC, watchC, sll, slSt])
    | (show heapOK _ _ = true; kernel_rfl)
    | (show heapOK2 _ _ = true; kernel_rfl)
    | (omega)))
  · rw [hrd] at k1
    unfold readyB at hrd
    rw [Bool.and_eq_true] at hrd
    obtain ⟨hth, hf⟩ := hrd
    have hf := of_decide_eq_true hf
    obtain ⟨t1, t2, t3⟩ := thinB_true hth
    have k7 := Post_c p (by omega)
    have k8 := rows_c reads (by omega) (fun i hi => by have := t3 i hi; omega)
    obtain ⟨hp, hr⟩ := faultP_zero hf
    have hpl := hp.len
    rcases Nat.eq_zero_or_pos reads.length with hz | hz
    · have ez : ((reads.length : Int) = 0) = True := eq_true (by omega)
      simp only [postC, sl, sll] at k1
      (refine callS_of_awp (fun w args => Try.call11 ..) Try.func11 rfl (fun w0 m0 wz => ?_); simp only [Try.ntmps11, Try.results11, initT, junks, postC, watchC, sll, slSt, sl, List.toList_toArray, List.cons_append, List.nil_append, List.length_cons, List.length_nil, Nat.reduceAdd, Nat.reduceSub])
      (repeat' (first
    | (refine awp_seqK ?_)
    | (refine kt ?_)
    | (refine And.intro ?_ ?_)
    | ((first | refine awp_region ?_ | refine awp_draw (by kernel_rfl) (by kernel_rfl) ?_ | refine Imp.le2 ?_ | refine awp_label ?_ | refine awp_skip ?_ | refine awp_exit ?_ | refine awp_cd ?_ | refine awp_ret ?_); simp (maxSteps := 4000000) only [go_sem, List.append_eq, List.cons_append, List.nil_append, Nat.reduceAdd, Nat.reduceMul, Nat.reduceSub, Nat.reduceLeDiff, Nat.reduceLT, Int.reduceAdd, Int.reduceToNat, Int.reduceLE, Int.reduceLT, Int.reduceNeg, reduceIte, postC, watchC, sll, slSt, ez, decide_true])
    | (intro _h)
    | (refine awp_block ?_)
    | (refine awp_scope ?_)
    | ((first | refine callK_of (awake_c) ?_ | refine callK_of (k1) ?_); try simp (maxSteps := 4000000) only [go_sem, List.append_eq, List.cons_append, List.nil_append, Nat.reduceAdd, Nat.reduceMul, Nat.reduceSub, Nat.reduceLeDiff, Nat.reduceLT, Int.reduceAdd, Int.reduceToNat, Int.reduceLE, Int.reduceLT, Int.reduceNeg, reduceIte, postC, watchC, sll, slSt, ez, decide_true])
    | (refine go_split (fun _h => ?_) (fun _h => ?_) <;> simp (maxSteps := 4000000) only [go_sem, List.append_eq, List.cons_append, List.nil_append, Nat.reduceAdd, Nat.reduceMul, Nat.reduceSub, Nat.reduceLeDiff, Nat.reduceLT, Int.reduceAdd, Int.reduceToNat, Int.reduceLE, Int.reduceLT, Int.reduceNeg, reduceIte, postC, watchC, sll, slSt, ez, decide_true])
    | (show heapOK _ _ = true; kernel_rfl)
    | (show heapOK2 _ _ = true; kernel_rfl)
    | (omega)))
    · have ez : ((reads.length : Int) = 0) = False := eq_false (by omega)
      unfold levelsL levelsE at k5
      rw [if_pos hf, if_pos hf] at k5
      cases hbk : brk p reads with
      | some b =>
        simp only [hbk] at k5
        simp only [postC, sl, sll, slSt, List.length_nil, recs_nil] at k1 k5 k7 k8
        (refine callS_of_awp (fun w args => Try.call11 ..) Try.func11 rfl (fun w0 m0 wz => ?_); simp only [Try.ntmps11, Try.results11, initT, junks, postC, watchC, sll, slSt, sl, List.toList_toArray, List.cons_append, List.nil_append, List.length_cons, List.length_nil, Nat.reduceAdd, Nat.reduceSub])
        (repeat' (first
    | (refine awp_seqK ?_)
    | (refine kt ?_)
    | (refine And.intro ?_ ?_)
    | ((first | refine awp_region ?_ | refine awp_draw (by kernel_rfl) (by kernel_rfl) ?_ | refine Imp.le2 ?_ | refine awp_label ?_ | refine awp_skip ?_ | refine awp_exit ?_ | refine awp_cd ?_ | refine awp_ret ?_); simp (maxSteps := 4000000) only [go_sem, List.append_eq, List.cons_append, List.nil_append, Nat.reduceAdd, Nat.reduceMul, Nat.reduceSub, Nat.reduceLeDiff, Nat.reduceLT, Int.reduceAdd, Int.reduceToNat, Int.reduceLE, Int.reduceLT, Int.reduceNeg, reduceIte, postC, watchC, sll, slSt, ez, decide_false])
    | (intro _h)
    | (refine awp_block ?_)
    | (refine awp_scope ?_)
    | ((first | refine callK_of (awake_c) ?_ | refine callK_of (k1) ?_ | refine callK_of (k5) ?_ | refine callK_of (k7) ?_ | refine callK_of (k8) ?_); try simp (maxSteps := 4000000) only [go_sem, List.append_eq, List.cons_append, List.nil_append, Nat.reduceAdd, Nat.reduceMul, Nat.reduceSub, Nat.reduceLeDiff, Nat.reduceLT, Int.reduceAdd, Int.reduceToNat, Int.reduceLE, Int.reduceLT, Int.reduceNeg, reduceIte, postC, watchC, sll, slSt, ez, decide_false])
    | (refine go_split (fun _h => ?_) (fun _h => ?_) <;> simp (maxSteps := 4000000) only [go_sem, List.append_eq, List.cons_append, List.nil_append, Nat.reduceAdd, Nat.reduceMul, Nat.reduceSub, Nat.reduceLeDiff, Nat.reduceLT, Int.reduceAdd, Int.reduceToNat, Int.reduceLE, Int.reduceLT, Int.reduceNeg, reduceIte, postC, watchC, sll, slSt, ez, decide_false])
    | (show heapOK _ _ = true; kernel_rfl)
    | (show heapOK2 _ _ = true; kernel_rfl)
    | (omega)))
        trace_state
      | none =>
        simp only [hbk] at k5
        have hall := brk_none hbk
        have hll := states_length (p := p) (reads := reads) (k := reads.length)
        obtain ⟨h, er, hh⟩ : ∃ h : Nat, k.tmod (reads.length : Int) = (h : Int) ∧ h < reads.length := by
          have a1 := Int.tmod_nonneg (reads.length : Int) hk.1
          have a2 := Int.tmod_lt_of_pos k (show (0 : Int) < reads.length by omega)
          exact ⟨(k.tmod reads.length).toNat, by omega, by omega⟩
        obtain ⟨s, hs⟩ := Option.isSome_iff_exists.1 (hall h hh)
        have hbd := hull_bd (gAt_ok (p := p) (reads := reads) (h + 1)) (p.errs.length + 1)
        have hse := (hull_ends (gAt_ok (p := p) (reads := reads) (h + 1)) (p.errs.length + 1) s hs).1
        have hge : (states p reads reads.length).getD h default = (s.1, s.2, levelOf p s.2) := by
          simp [states, List.getD_eq_getElem?_getD, hh, stRec, hs, hLo, hHi]
        unfold stAt at hs
        rw [hs] at hbd
        simp only [hLo, hHi] at hbd
        obtain ⟨f1, L1, q1, q2, q3, q4⟩ := truth_end (v := s.1) hf hh hs (.inl rfl)
        obtain ⟨f2, L2, r1, r2, r3, r4⟩ := truth_end (v := s.2) hf hh hs (.inr rfl)
        have z3 := k3 h (s.1 - 1)
        rw [truth_out hf hh hs (.inl (by omega))] at z3
        have z4 := k3 h (s.2 + 1)
        rw [truth_out hf hh hs (.inr (by omega))] at z4
        have z1 := k3 h s.1
        rw [q1] at z1
        have z2 := k3 h s.2
        rw [r1] at z2
        have k6 := rows_c (reads.take (h + 1)) (by simp; omega) (fun i hi => by
          have e : (reads.take (h + 1)).getD i [] = reads.getD i [] := by
            simp only [List.getD_eq_getElem?_getD, List.getElem?_take]
            rw [if_pos (by simp at hi; omega)]
          rw [e]; have := t3 i (by simp at hi; omega); omega)
        have p1 := prove_c p (reads.take (h + 1)) f1 L1 (inB_take hb) (by omega)
        rw [q4] at p1
        have p2 := prove_c p (reads.take (h + 1)) f2 L2 (inB_take hb) (by omega)
        rw [r4] at p2
        have l1 := list_c L1 (by omega)
        have l2 := list_c L2 (by omega)
        have e3 : ((h : Int) + 1).toNat = h + 1 := by omega
        have e4 : (reads.take (h + 1)).length = h + 1 := by simp; omega
        have hE3 : ∃ E : Int, (if 0 ≤ s.1 - 1 ∧ s.1 - 1 ≤ 1000 then (7 : Int) else 2) = E ∧ ((E = 7 ∧ s.1 ≠ 0) ∨ (E = 2 ∧ s.1 = 0)) := by
          by_cases c : s.1 = 0
          · exact ⟨2, if_neg (by omega), .inr ⟨rfl, c⟩⟩
          · exact ⟨7, if_pos (by omega), .inl ⟨rfl, c⟩⟩
        have hE4 : ∃ E : Int, (if 0 ≤ s.2 + 1 ∧ s.2 + 1 ≤ 1000 then (7 : Int) else 2) = E ∧ ((E = 7 ∧ s.2 ≠ 1000) ∨ (E = 2 ∧ s.2 = 1000)) := by
          by_cases c : s.2 = 1000
          · exact ⟨2, if_neg (by omega), .inr ⟨rfl, c⟩⟩
          · exact ⟨7, if_pos (by omega), .inl ⟨rfl, c⟩⟩
        obtain ⟨E3, c3, hE3⟩ := hE3
        obtain ⟨E4, c4, hE4⟩ := hE4
        rw [c3] at z3
        rw [c4] at z4
        clear c3 c4 q1 r1 hall hs
        generalize states p reads reads.length = L at *
        simp only [postC, sl, sll, slSt, hll, e4, q2, r2, List.length_nil, ints_nil] at k1 k5 k6 k7 k8 z1 z2 z3 z4 p1 p2 l1 l2
        (refine callS_of_awp (fun w args => Try.call11 ..) Try.func11 rfl (fun w0 m0 wz => ?_); simp only [Try.ntmps11, Try.results11, initT, junks, postC, watchC, sll, slSt, sl, List.toList_toArray, List.cons_append, List.nil_append, List.length_cons, List.length_nil, Nat.reduceAdd, Nat.reduceSub])
        (repeat' (first
    | (refine awp_seqK ?_)
    | (refine kt ?_)
    | (refine And.intro ?_ ?_)
    | ((first | refine awp_region ?_ | refine awp_draw (by kernel_rfl) (by kernel_rfl) ?_ | refine Imp.le2 ?_ | refine awp_label ?_ | refine awp_skip ?_ | refine awp_exit ?_ | refine awp_cd ?_ | refine awp_ret ?_); simp (maxSteps := 4000000) only [go_sem, List.append_eq, List.cons_append, List.nil_append, Nat.reduceAdd, Nat.reduceMul, Nat.reduceSub, Nat.reduceLeDiff, Nat.reduceLT, Int.reduceAdd, Int.reduceToNat, Int.reduceLE, Int.reduceLT, Int.reduceNeg, reduceIte, postC, watchC, sll, slSt, ez, er, hge, decide_false, decide_true])
    | (intro _h)
    | (refine awp_block ?_)
    | (refine awp_scope ?_)
    | ((first | refine callK_of (awake_c) ?_ | refine callK_of (k1) ?_ | refine callK_of (k5) ?_ | refine callK_of (k7) ?_ | refine callK_of (k8) ?_); try simp (maxSteps := 4000000) only [go_sem, List.append_eq, List.cons_append, List.nil_append, Nat.reduceAdd, Nat.reduceMul, Nat.reduceSub, Nat.reduceLeDiff, Nat.reduceLT, Int.reduceAdd, Int.reduceToNat, Int.reduceLE, Int.reduceLT, Int.reduceNeg, reduceIte, postC, watchC, sll, slSt, ez, er, hge, decide_false, decide_true])
    | (refine go_split (fun _h => ?_) (fun _h => ?_) <;> simp (maxSteps := 4000000) only [go_sem, List.append_eq, List.cons_append, List.nil_append, Nat.reduceAdd, Nat.reduceMul, Nat.reduceSub, Nat.reduceLeDiff, Nat.reduceLT, Int.reduceAdd, Int.reduceToNat, Int.reduceLE, Int.reduceLT, Int.reduceNeg, reduceIte, postC, watchC, sll, slSt, ez, er, hge, decide_false, decide_true])
    | (show heapOK _ _ = true; kernel_rfl)
    | (show heapOK2 _ _ = true; kernel_rfl)
    | (omega)))
        refine AWP.le2 (s' := ⟨mkT 211 [(1, .psl false reads.length (rowsC reads)), (3, .ptr 0 0 0), (7, .psl false reads.length (recs stC L)), (9, .int .i64 h), (10, .ptr 1 0 0), (11, .int .i64 0)], [some (.cells 46 1 0 (postC p)), some (.cells 88 1 0 [.int .i64 s.1, .int .i64 s.2])], []⟩) (by simp only [postC]; simp (maxSteps := 4000000) only [go_sem, List.append_eq, List.cons_append, List.nil_append, Nat.reduceAdd, Nat.reduceMul, Nat.reduceSub, Nat.reduceLeDiff, Nat.reduceLT, Int.reduceAdd, Int.reduceToNat, Int.reduceLE, Int.reduceLT, Int.reduceNeg, reduceIte, postC, watchC, sll, slSt]) ?_
        simp only [postC]; simp (maxSteps := 4000000) only [go_sem, List.append_eq, List.cons_append, List.nil_append, Nat.reduceAdd, Nat.reduceMul, Nat.reduceSub, Nat.reduceLeDiff, Nat.reduceLT, Int.reduceAdd, Int.reduceToNat, Int.reduceLE, Int.reduceLT, Int.reduceNeg, reduceIte, postC, watchC, sll, slSt]
        (refine awp_rounds 3 ?_; rw [ar_s])
        (repeat' (first
    | ((rw [ar_s]))
    | (refine awp_seqK ?_)
    | (refine kt ?_)
    | (refine And.intro ?_ ?_)
    | ((first | refine awp_region ?_ | refine awp_draw (by kernel_rfl) (by kernel_rfl) ?_ | refine Imp.le2 ?_ | refine awp_label ?_ | refine awp_skip ?_ | refine awp_exit ?_ | refine awp_cd ?_ | refine awp_ret ?_); simp (maxSteps := 4000000) only [go_sem, List.append_eq, List.cons_append, List.nil_append, Nat.reduceAdd, Nat.reduceMul, Nat.reduceSub, Nat.reduceLeDiff, Nat.reduceLT, Int.reduceAdd, Int.reduceToNat, Int.reduceLE, Int.reduceLT, Int.reduceNeg, reduceIte, postC, watchC, sll, slSt, e3, hge, q3, r3])
    | (intro _h)
    | (refine awp_block ?_)
    | (refine awp_scope ?_)
    | ((first | refine callK_of (awake_c) ?_ | refine callK_of (k7) ?_ | refine callK_of (k8) ?_ | refine callK_of (z1) ?_ | refine callK_of (z2) ?_ | refine callK_of (z3) ?_ | refine callK_of (z4) ?_ | refine callK_of (k6) ?_ | refine callK_of (p1) ?_ | refine callK_of (p2) ?_ | refine callK_of (l1) ?_ | refine callK_of (l2) ?_); try simp (maxSteps := 4000000) only [go_sem, List.append_eq, List.cons_append, List.nil_append, Nat.reduceAdd, Nat.reduceMul, Nat.reduceSub, Nat.reduceLeDiff, Nat.reduceLT, Int.reduceAdd, Int.reduceToNat, Int.reduceLE, Int.reduceLT, Int.reduceNeg, reduceIte, postC, watchC, sll, slSt, e3, hge, q3, r3])
    | (refine go_split (fun _h => ?_) (fun _h => ?_) <;> simp (maxSteps := 4000000) only [go_sem, List.append_eq, List.cons_append, List.nil_append, Nat.reduceAdd, Nat.reduceMul, Nat.reduceSub, Nat.reduceLeDiff, Nat.reduceLT, Int.reduceAdd, Int.reduceToNat, Int.reduceLE, Int.reduceLT, Int.reduceNeg, reduceIte, postC, watchC, sll, slSt, e3, hge, q3, r3])
    | (show heapOK _ _ = true; kernel_rfl)
    | (show heapOK2 _ _ = true; kernel_rfl)
    | (omega)))
        all_goals first
          | omega
          | (exfalso; omega)
          | trace_state
end Go.Am
