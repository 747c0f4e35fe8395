/- Parts TrC of the proof, one behind the other. No statement is proved here. -/
import Derived.Test.YtghlpjfpfjpddaaGreatE6
/- AwayCalled where the order is in time. -/
namespace Go.Am
open Go.RowKit Go.Proofs
attribute [local irreducible] AWP CallS Kt goK CallK stepK evOps SemF SemY Imp
set_option maxRecDepth 4000
set_option linter.unusedSimpArgs false
set_option linter.unusedVariables false
set_option maxHeartbeats 3200000

instance {l : List Int} : Still (ints l) := ⟨fun y hy => by
  simp only [ints, List.mem_map] at hy
  obtain ⟨n, _, rfl⟩ := hy
  rfl⟩
instance {l : List Home} : Still (recs homeC l) := ⟨fun y hy => by
  simp only [recs, List.mem_flatMap] at hy
  obtain ⟨h, _, hy⟩ := hy
  simp only [homeC, List.mem_cons, List.not_mem_nil, or_false] at hy
  rcases hy with rfl | rfl | rfl | rfl | rfl | rfl <;> rfl⟩
instance {l : List Hall} : Still (recs hallC l) := ⟨fun y hy => by
  simp only [recs, List.mem_flatMap] at hy
  obtain ⟨h, _, hy⟩ := hy
  simp only [hallC, List.mem_cons, List.not_mem_nil, or_false] at hy
  rcases hy with rfl | rfl | rfl <;> rfl⟩
theorem called_out (t : Town) (words : List Int) (hR : readyB t = false) : CallS Tryz.prog 3 [.agg (townC t), slU words] (.bool true) := by
  have hre := ready_c t
  have hA := awake_c
  rw [hR] at hre
  simp only [townC, slH, slL, slU] at hre ⊢
  (refine callS_of_awp (fun w args => Tryz.call3 ..) Tryz.func3 rfl (fun w0 m0 wz => ?_); simp only [Tryz.ntmps3, Tryz.results3, initT, junks, homeC, hallC, slH, slL, townC, sl, List.toList_toArray, List.cons_append, List.nil_append, List.length_cons, List.length_nil, Nat.reduceAdd, Nat.reduceSub])
  (repeat' (first
    | (refine awp_seqK ?_)
    | (refine kt ?_)
    | (refine And.intro ?_ ?_)
    | ((first | refine awp_region ?_ | refine awp_draw (by kernel_rfl) (by kernel_rfl) ?_ | refine Imp.le2 ?_ | refine awp_label ?_ | refine awp_skip ?_ | refine awp_exit ?_ | refine awp_cd ?_ | refine awp_ret ?_ | refine callK_of (hre) ?_ | refine callK_of (hA) ?_ | refine go_split (fun _h => ?_) (fun _h => ?_)) <;> try simp (maxSteps := 4000000) only [go_sem, seval])
    | (intro _h)
    | (refine awp_block ?_)
    | (refine awp_scope ?_)
    | (refine cond_b (fun _h => ?_) (fun _h => ?_))
    | (show heapOK _ _ = true; kernel_rfl)
    | (show heapOK2 _ _ = true; kernel_rfl)
    | (omega)))
theorem called_early (t : Town) (words : List Int) (hw : WordsOK words) (hR : readyB t = true) (hL : lateN t = 0) : CallS Tryz.prog 3 [.agg (townC t), slU words] (.bool true) := by
  have hre := ready_c t
  have hA := awake_c
  rw [hR] at hre
  obtain ⟨hb, h0⟩ : townOK t ∧ faultT t = 0 := by
    unfold readyB at hR
    simp only [Bool.and_eq_true, decide_eq_true_eq] at hR
    exact ⟨(thinB_ok hR.1).1, hR.2⟩
  have ht := faultT_zero h0
  have hln := ht.homes
  have hhl := ht.halls
  have hto := Town_c t hb
  have ho := ordL_ord (t := t)
  have hol := ho.len
  have hot := Order_c t hb
  have eo : orderE t = 0 := by simp [orderE, h0, hL]
  rw [show orderV t = sl (ordL t) by simp [orderV, eo], eo] at hot
  have hlt := Late_c t hb
  have el : lateE t = 7 := by simp [lateE, h0, hL]
  rw [show lateV t = .nils by simp [lateV, el], el] at hlt
  have hod := rOrdered_c t (ordL t) hb (by omega)
  rw [decide_eq_true ho] at hod
  have hli := list_c (ordL t) (by omega)
  have hcf := called_f t words ht hw
  have hm := timW ht hw
  have hcl : (callsW t words t.homes.length).length = t.homes.length := hm.lc
  have hpl : (prepsW t words t.homes.length).length = t.homes.length := hm.lp
  have hth := There_c t (ordL t) (callsW t words t.homes.length) (prepsW t words t.homes.length) hb (by omega) (by omega) (by omega)
  have et : thereE t (ordL t) (callsW t words t.homes.length) (prepsW t words t.homes.length) = 0 := by simp [thereE, h0, ho, hm]
  rw [show thereV t (ordL t) (callsW t words t.homes.length) (prepsW t words t.homes.length) = sl (thOut t (ordL t) (callsW t words t.homes.length) (prepsW t words t.homes.length) (ordL t).length) by simp [thereV, et], et] at hth
  have hlaw := fun h hh => early_law ht hL hm (h := h) hh
  have hll := thOut_length (t := t) (calls := callsW t words t.homes.length) (preps := prepsW t words t.homes.length) ho _ (Nat.le_refl _)
  have hbd : ∀ h, h < t.homes.length → 0 ≤ (thOut t (ordL t) (callsW t words t.homes.length) (prepsW t words t.homes.length) (ordL t).length).getD h 0 ∧ (thOut t (ordL t) (callsW t words t.homes.length) (prepsW t words t.homes.length) (ordL t).length).getD h 0 ≤ 100000 := fun h hh => thOut_in ht ho hm _ (Nat.le_refl _) h hh
  generalize thOut t (ordL t) (callsW t words t.homes.length) (prepsW t words t.homes.length) (ordL t).length = out at *
  generalize callsW t words t.homes.length = C at *
  generalize prepsW t words t.homes.length = R at *
  generalize ordW t.homes.length words t.homes.length = W at *
  generalize ordL t = O at *
  simp only [townC, slH, slL, slU, sl, hol, hcl, hpl, hll] at hre hto hot hlt hod hli hcf hth ⊢
  (refine callS_of_awp (fun w args => Tryz.call3 ..) Tryz.func3 rfl (fun w0 m0 wz => ?_); simp only [Tryz.ntmps3, Tryz.results3, initT, junks, homeC, hallC, slH, slL, townC, sl, List.toList_toArray, List.cons_append, List.nil_append, List.length_cons, List.length_nil, Nat.reduceAdd, Nat.reduceSub])
  (repeat' (first
    | (refine awp_ownN 2 rfl ?_; simp (maxSteps := 4000000) only [go_sem, seval, List.take_succ_cons, List.take_zero, hol, hcl, hpl, hll]; (repeat refine And.intro (by omega) ?_); refine own_go (hcf) [] rfl ?_ ?_ rfl ?_ <;> try simp (maxSteps := 4000000) only [go_sem, seval, Nat.lt_irrefl, hol, hcl, hpl, hll] <;> try decide)
    | (refine awp_frz (c := .region 16 _ _) 3 rfl (by simp (maxSteps := 4000000) only [go_sem, seval, hol, hcl, hpl, hll]) (fun _ => rfl) ?_; simp only [frz, fq_pure, fzB_c, fzB_m, fzB_d, fzB_l, fzO, fzH, fzHs, fzl, fz2, fz1, fz0, List.map_cons, List.map_nil, if_true, if_false, reduceIte, Nat.reduceEqDiff, Nat.reduceAdd, Nat.succ_ne_self, Nat.zero_ne_one, Nat.one_ne_zero, reduceCtorEq, and_self])
    | (refine awp_frz (c := .region 16 _ _) 4 rfl (by simp (maxSteps := 4000000) only [go_sem, seval, hol, hcl, hpl, hll]) (fun _ => rfl) ?_; simp only [frz, fq_pure, fzB_c, fzB_m, fzB_d, fzB_l, fzO, fzH, fzHs, fzl, fz2, fz1, fz0, List.map_cons, List.map_nil, if_true, if_false, reduceIte, Nat.reduceEqDiff, Nat.reduceAdd, Nat.succ_ne_self, Nat.zero_ne_one, Nat.one_ne_zero, reduceCtorEq, and_self])
    | ((exfalso; omega))
    | ((omega))
    | (refine awp_seqK ?_)
    | (refine kt ?_)
    | (refine And.intro ?_ ?_)
    | ((first | refine awp_region ?_ | refine awp_draw (by kernel_rfl) (by kernel_rfl) ?_ | refine Imp.le2 ?_ | refine awp_label ?_ | refine awp_skip ?_ | refine awp_exit ?_ | refine awp_cd ?_ | refine awp_ret ?_ | refine callK_of (hre) ?_ | refine callK_of (hto) ?_ | refine callK_of (hot) ?_ | refine callK_of (hlt) ?_ | refine callK_of (hod) ?_ | refine callK_of (hli) ?_ | refine callK_of (hth) ?_ | refine go_split (fun _h => ?_) (fun _h => ?_)) <;> try simp (maxSteps := 4000000) only [go_sem, seval, hol, hcl, hpl, hll])
    | (intro _h)
    | (refine awp_block ?_)
    | (refine awp_scope ?_)
    | (refine cond_b (fun _h => ?_) (fun _h => ?_))
    | (show heapOK _ _ = true; kernel_rfl)
    | (show heapOK2 _ _ = true; kernel_rfl)
    | (omega)))
  refine awp_loopN t.homes.length (fun h => ⟨mkT 195 [(2, .ptr 0 0 0), (6, .int .i64 0), (10, .nils), (13, .psl false t.homes.length (ints out)), (15, .bool false), (16, .int .i64 h)], [some (.cells 27 1 0 [.psl false t.homes.length (recs homeC t.homes), .psl false t.halls.length (recs hallC t.halls), .int .i64 t.seats, .int .i64 t.clo, .int .i64 t.chi]), none, some (.cells 3 1 t.homes.length (ints W)), none, none], []⟩) (.le2 ?_) ?_
  · simp (maxSteps := 4000000) only [go_sem, seval]
    all_goals first | rfl | exact ⟨rfl, rfl⟩
  · intro h hh
    rcases Nat.lt_or_eq_of_le hh with hh1 | hh1
    · have hlw := hlaw h hh1
      obtain ⟨v, hv⟩ : ∃ v, out.getD h 0 = v := ⟨_, rfl⟩
      have hob := hbd h hh1
      rw [hv] at hlw hob
      have hgo := (ht.home h hh1).gone
      have hpe := (ht.home h hh1).people
      simp (maxSteps := 4000000) only [go_sem, seval]
      (repeat' (first
    | ((exfalso; omega))
    | ((omega))
    | (refine awp_seqK ?_)
    | (refine kt ?_)
    | (refine And.intro ?_ ?_)
    | ((first | refine awp_region ?_ | refine awp_draw (by kernel_rfl) (by kernel_rfl) ?_ | refine Imp.le2 ?_ | refine awp_label ?_ | refine awp_skip ?_ | refine awp_exit ?_ | refine awp_cd ?_ | refine awp_ret ?_ | refine go_split (fun _h => ?_) (fun _h => ?_)) <;> try simp (maxSteps := 4000000) only [go_sem, seval, hll, hv])
    | (intro _h)
    | (refine awp_block ?_)
    | (refine awp_scope ?_)
    | (refine cond_b (fun _h => ?_) (fun _h => ?_))
    | (show heapOK _ _ = true; kernel_rfl)
    | (show heapOK2 _ _ = true; kernel_rfl)
    | (omega)))
      refine awp_loopN t.halls.length (fun k => ⟨mkT 195 [(2, .ptr 0 0 0), (6, .int .i64 0), (10, .nils), (13, .psl false t.homes.length (ints out)), (15, .bool false), (16, .int .i64 h), (17, .bool (fineN t v h k)), (18, .int .i64 k)], [some (.cells 27 1 0 [.psl false t.homes.length (recs homeC t.homes), .psl false t.halls.length (recs hallC t.halls), .int .i64 t.seats, .int .i64 t.clo, .int .i64 t.chi]), none, some (.cells 3 1 t.homes.length (ints W)), none, none], []⟩) (.le2 ?_) ?_
      · simp only [fineN]; simp (maxSteps := 4000000) only [go_sem, seval]
        all_goals first | rfl | exact ⟨rfl, rfl⟩
      · intro k hk
        rcases Nat.lt_or_eq_of_le hk with hk1 | hk1
        · have htk := takes_c t k h hk1 hh1
          have hfs : fineN t v h (k + 1) = (fineN t v h k || (decide (andn (t.homes.getD h default).pets (t.halls.getD k default).pets = 0) && (decide ((t.homes.getD h default).people ≤ (t.halls.getD k default).room) && decide (v + (t.halls.getD k default).drive ≤ (t.homes.getD h default).gone)))) := rfl
          have hdr := (ht.hall k hk1).drive
          have hrm := (ht.hall k hk1).room
          rw [hfs]
          generalize fineN t v h k = fb at *
          simp only [townC, slH, slL] at htk
          simp (maxSteps := 4000000) only [go_sem, seval]
          (repeat' (first
    | ((exfalso; omega))
    | ((omega))
    | (refine awp_seqK ?_)
    | (refine kt ?_)
    | (refine And.intro ?_ ?_)
    | ((first | refine awp_region ?_ | refine awp_draw (by kernel_rfl) (by kernel_rfl) ?_ | refine Imp.le2 ?_ | refine awp_label ?_ | refine awp_skip ?_ | refine awp_exit ?_ | refine awp_cd ?_ | refine awp_ret ?_ | refine callK_of (htk) ?_ | refine go_split (fun _h => ?_) (fun _h => ?_)) <;> try simp (maxSteps := 4000000) only [go_sem, seval, hll, hv])
    | (intro _h)
    | (refine awp_block ?_)
    | (refine awp_scope ?_)
    | (refine cond_b (fun _h => ?_) (fun _h => ?_))
    | (show heapOK _ _ = true; kernel_rfl)
    | (show heapOK2 _ _ = true; kernel_rfl)
    | (omega)))
          all_goals first | rfl | exact ⟨rfl, rfl⟩ | (simp only [‹fb = true›, Bool.true_or]; done) | (simp only [‹fb = false›, Bool.false_or]; symm; simp only [Bool.and_eq_true, decide_eq_true_eq, Bool.and_eq_false_iff, decide_eq_false_iff_not]; first | exact ⟨‹_›, ‹_›, ‹_›⟩ | exact .inl ‹_› | exact .inr (.inl ‹_›) | exact .inr (.inr ‹_›)) | trace_state
        · subst hk1
          simp (maxSteps := 4000000) only [go_sem, seval]
          (repeat' (first
    | ((exfalso; omega))
    | ((omega))
    | (refine awp_seqK ?_)
    | (refine kt ?_)
    | (refine And.intro ?_ ?_)
    | ((first | refine awp_region ?_ | refine awp_draw (by kernel_rfl) (by kernel_rfl) ?_ | refine Imp.le2 ?_ | refine awp_label ?_ | refine awp_skip ?_ | refine awp_exit ?_ | refine awp_cd ?_ | refine awp_ret ?_ | refine go_split (fun _h => ?_) (fun _h => ?_)) <;> try simp (maxSteps := 4000000) only [go_sem, seval, hlw])
    | (intro _h)
    | (refine awp_block ?_)
    | (refine awp_scope ?_)
    | (refine cond_b (fun _h => ?_) (fun _h => ?_))
    | (show heapOK _ _ = true; kernel_rfl)
    | (show heapOK2 _ _ = true; kernel_rfl)
    | (omega)))
          refine awp_loopN 0 (fun i => ⟨mkT 195 [(2, .ptr 0 0 0), (6, .int .i64 0), (10, .nils), (13, .psl false t.homes.length (ints out)), (15, .bool false), (16, .int .i64 h), (19, .int .i64 i)], [some (.cells 27 1 0 [.psl false t.homes.length (recs homeC t.homes), .psl false t.halls.length (recs hallC t.halls), .int .i64 t.seats, .int .i64 t.clo, .int .i64 t.chi]), none, some (.cells 3 1 t.homes.length (ints W)), none, none], []⟩) (.le2 ?_) ?_
          · simp (maxSteps := 4000000) only [go_sem, seval]
            all_goals first | rfl | exact ⟨rfl, rfl⟩
          · intro i hi
            have hi0 : i = 0 := by omega
            subst hi0
            simp (maxSteps := 4000000) only [go_sem, seval]
            (repeat' (first
    | ((exfalso; omega))
    | ((omega))
    | (refine awp_seqK ?_)
    | (refine kt ?_)
    | (refine And.intro ?_ ?_)
    | ((first | refine awp_region ?_ | refine awp_draw (by kernel_rfl) (by kernel_rfl) ?_ | refine Imp.le2 ?_ | refine awp_label ?_ | refine awp_skip ?_ | refine awp_exit ?_ | refine awp_cd ?_ | refine awp_ret ?_ | refine go_split (fun _h => ?_) (fun _h => ?_)) <;> try simp (maxSteps := 4000000) only [go_sem, seval])
    | (intro _h)
    | (refine awp_block ?_)
    | (refine awp_scope ?_)
    | (refine cond_b (fun _h => ?_) (fun _h => ?_))
    | (show heapOK _ _ = true; kernel_rfl)
    | (show heapOK2 _ _ = true; kernel_rfl)
    | (omega)))
            all_goals first | rfl | exact ⟨rfl, rfl⟩ | omega | trace_state
    · subst hh1
      simp (maxSteps := 4000000) only [go_sem, seval]
      (repeat' (first
    | ((exfalso; omega))
    | ((omega))
    | (refine awp_seqK ?_)
    | (refine kt ?_)
    | (refine And.intro ?_ ?_)
    | ((first | refine awp_region ?_ | refine awp_draw (by kernel_rfl) (by kernel_rfl) ?_ | refine Imp.le2 ?_ | refine awp_label ?_ | refine awp_skip ?_ | refine awp_exit ?_ | refine awp_cd ?_ | refine awp_ret ?_ | refine callK_of (hA) ?_ | refine go_split (fun _h => ?_) (fun _h => ?_)) <;> try simp (maxSteps := 4000000) only [go_sem, seval, hll])
    | (intro _h)
    | (refine awp_block ?_)
    | (refine awp_scope ?_)
    | (refine cond_b (fun _h => ?_) (fun _h => ?_))
    | (show heapOK _ _ = true; kernel_rfl)
    | (show heapOK2 _ _ = true; kernel_rfl)
    | (omega)))
      all_goals trace_state
end Go.Am
