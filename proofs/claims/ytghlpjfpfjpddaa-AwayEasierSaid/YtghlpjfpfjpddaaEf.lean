/- Parts Tn1e, Tn2, Tn2e of the proof, one behind the other. No statement is proved here. -/
import Derived.Test.YtghlpjfpfjpddaaEd
/- The law AwayEasier, as a contract: it returns true. Case 1e. -/
namespace Go.Am
open Go.RowKit Go.Proofs
attribute [local irreducible] AWP CallS Kt goK CallK stepK evOps SemF SemY Imp
set_option maxRecDepth 4000
set_option linter.unusedSimpArgs false
set_option linter.unusedVariables false
set_option maxHeartbeats 3200000

theorem easy_1e (t : Town) (plan : List Bus) (wh at0 by0 : Int) (hw : 0 ≤ wh ∧ wh ≤ 255) (ha : 0 ≤ at0 ∧ at0 ≤ 255) (hy : 0 ≤ by0 ∧ by0 ≤ 65535) (hR : readyB t = true) (hS : shortB plan = true) (c6 : wh.tmod 6 = 1) (hl0 : t.halls = []) : CallS Try.prog 4 [.agg (townC t), slB plan, .int .u8 wh, .int .u8 at0, .int .u16 by0] (.bool true) := by
  have hre := ready_c t
  have hsh := short_c plan
  have hA := awake_c
  rw [hR] at hre
  rw [hS] at hsh
  obtain ⟨hb, h0⟩ := ready_ok hR
  obtain ⟨hP, hP1, hP2⟩ := shortB_ok hS
  have ht := faultT_zero h0
  have hln := ht.homes
  have hhl := ht.halls
  have hsea := ht.seats
  have hcal := ht.call
  obtain ⟨q, hqn, hqe⟩ := at_mod (n := t.homes.length) ha.1 (by omega)
  obtain ⟨q1, q2, q3, q4⟩ := ht.home q hqn
  obtain ⟨v, hv⟩ : ∃ v, min 10000 ((t.homes.getD q default).gone + by0) = v := ⟨_, rfl⟩
  obtain ⟨h, hh⟩ : ∃ h : Home, h = ⟨(t.homes.getD q default).people, (t.homes.getD q default).pets, (t.homes.getD q default).lo, (t.homes.getD q default).hi, (t.homes.getD q default).walk, v⟩ := ⟨_, rfl⟩
  have hX : Easier t (setH t q h) := easier_home ht hqn (by subst hh; exact ⟨q1, by simp only; omega, q3, by simp only; omega⟩) (by subst hh; rfl) (by subst hh; rfl) (by subst hh; simp only; omega) (by subst hh; simp only; omega)
  have hsp : splice (recs homeC t.homes) (q * 6 + 5) [.int .i64 v] = recs homeC (isp t.homes q h) := sp_recs (d := default) (sz := 6) (fun _ => rfl) hqn (by omega) (by subst hh; rfl)
  have hHl : (isp t.homes q h).length = t.homes.length := isp_length hqn
  unfold setH at hX
  generalize isp t.homes q h = H at *
  obtain ⟨X, hXe⟩ : ∃ X : Town, X = ⟨H, t.halls, t.seats, t.clo, t.chi⟩ := ⟨_, rfl⟩
  rw [← hXe] at hX
  have hxb : townOK X := ⟨by have := hX.hl; omega, by have := hX.ll; omega⟩
  have hx0 := townOK_fault hX.ok
  have hto := Town_c t hb
  have htx := Town_c X hxb
  have hpl := Plan_c t hb
  have hpx := Plan_c X hxb
  have hpt := planTo_c plan hP
  have hpr := prove_c t plan hb hP
  have hpq := prove_c X plan hxb hP
  have hPL := planL_sh2 h0
  have hp2 := prove_c X (planL t) hxb hPL
  have hmo := easier_prove h0 hX plan
  generalize proveB t plan = b1 at *
  generalize proveB X plan = b2 at *
  have hl00 : t.halls.length = 0 := by rw [hl0]; rfl
  by_cases hE : planE t = 0
  · -- a plan there is
    obtain ⟨p1, p2, p3⟩ := easier_plan h0 hX hE
    have eQ : proveB X (planL t) = true := by simp [proveB, hx0, p3]
    rw [eQ] at hp2
    simp only [planV, hE, p1, if_true] at hpl hpx
    have eN : (((planL t).length : Int) < (planL X).length) = False := eq_false (by omega)
    generalize planL t = P at *
    generalize planL X = P2 at *
    subst hXe
    simp only [slB, townC, slH, slL, sl, hl0, List.length_nil, recs_nil, hHl] at hre hsh hto htx hpl hpx hpt hpr hpq hp2 ⊢
    replace htx := htx.deep (xs := [.agg [_, .psl true 0 [], _, _, _]]) ⟨deep_agg ⟨.refl _, deep_psl trivial, .refl _, .refl _, .refl _, trivial⟩, trivial⟩
    (refine callS_of_awp (fun w args => Try.call4 ..) Try.func4 rfl (fun w0 m0 wz => ?_); simp only [Try.ntmps4, Try.results4, initT, junks, homeC, hallC, slH, slL, townC, sl, List.toList_toArray, List.cons_append, List.nil_append, List.length_cons, List.length_nil, Nat.reduceAdd, Nat.reduceSub])
    (repeat' (first
    | (refine awp_frz (c := .region 21 _ _) 2 rfl (by simp (maxSteps := 4000000) only [go_sem, seval, c6, hqe, hv, hsp, hHl, eN, decide_true, decide_false]) (fun _ => rfl) ?_; simp only [frz, fq_pure, fzB_c, fzB_m, fzB_d, fzB_l, fzO, fzH, fzHs, fzl, fz2, fz1, fz0, List.map_cons, List.map_nil, if_true, if_false, reduceIte, Nat.reduceEqDiff, Nat.reduceAdd, Nat.succ_ne_self, Nat.zero_ne_one, Nat.one_ne_zero, reduceCtorEq, and_self])
    | ((exfalso; omega))
    | ((omega))
    | (refine awp_seqK ?_)
    | (refine kt ?_)
    | (refine And.intro ?_ ?_)
    | ((first | refine awp_region ?_ | refine awp_draw (by kernel_rfl) (by kernel_rfl) ?_ | refine Imp.le2 ?_ | refine awp_label ?_ | refine awp_skip ?_ | refine awp_exit ?_ | refine awp_cd ?_ | refine awp_ret ?_ | refine callK_of (hre) ?_ | refine callK_of (hsh) ?_ | refine callK_of (hto) ?_ | refine callK_of (hpl) ?_ | refine callK_of (htx) ?_ | refine callK_of (hpx) ?_ | refine callK_of (hp2) ?_ | refine callK_of (hpt) ?_ | refine callK_of (hpr) ?_ | refine callK_of (hpq) ?_ | refine callK_of (hA) ?_ | refine go_split (fun _h => ?_) (fun _h => ?_)) <;> try simp (maxSteps := 4000000) only [go_sem, seval, c6, hqe, hv, hsp, hHl, eN, decide_true, decide_false])
    | (intro _h)
    | (refine awp_block ?_)
    | (refine awp_scope ?_)
    | (refine cond_b (fun _h => ?_) (fun _h => ?_))
    | (show heapOK _ _ = true; kernel_rfl)
    | (show heapOK2 _ _ = true; kernel_rfl)
    | (omega)))
    all_goals first
      | (exfalso; have := hmo (by assumption); simp_all; done)
      | trace_state
  by_cases hEX : planE X = 0
  · -- now there is one
    have hE9 := planE_nine h0 hE
    have eV : planV t = .nils := by simp [planV, hE9]
    rw [hE9, eV] at hpl
    simp only [planV, hEX, if_true] at hpx
    generalize planL X = P2 at *
    subst hXe
    simp only [slB, townC, slH, slL, sl, hl0, List.length_nil, recs_nil, hHl] at hre hsh hto htx hpl hpx hpt hpr hpq ⊢
    replace htx := htx.deep (xs := [.agg [_, .psl true 0 [], _, _, _]]) ⟨deep_agg ⟨.refl _, deep_psl trivial, .refl _, .refl _, .refl _, trivial⟩, trivial⟩
    (refine callS_of_awp (fun w args => Try.call4 ..) Try.func4 rfl (fun w0 m0 wz => ?_); simp only [Try.ntmps4, Try.results4, initT, junks, homeC, hallC, slH, slL, townC, sl, List.toList_toArray, List.cons_append, List.nil_append, List.length_cons, List.length_nil, Nat.reduceAdd, Nat.reduceSub])
    (repeat' (first
    | (refine awp_frz (c := .region 21 _ _) 2 rfl (by simp (maxSteps := 4000000) only [go_sem, seval, c6, hqe, hv, hsp, hHl, decide_true, decide_false]) (fun _ => rfl) ?_; simp only [frz, fq_pure, fzB_c, fzB_m, fzB_d, fzB_l, fzO, fzH, fzHs, fzl, fz2, fz1, fz0, List.map_cons, List.map_nil, if_true, if_false, reduceIte, Nat.reduceEqDiff, Nat.reduceAdd, Nat.succ_ne_self, Nat.zero_ne_one, Nat.one_ne_zero, reduceCtorEq, and_self])
    | ((exfalso; omega))
    | ((omega))
    | (refine awp_seqK ?_)
    | (refine kt ?_)
    | (refine And.intro ?_ ?_)
    | ((first | refine awp_region ?_ | refine awp_draw (by kernel_rfl) (by kernel_rfl) ?_ | refine Imp.le2 ?_ | refine awp_label ?_ | refine awp_skip ?_ | refine awp_exit ?_ | refine awp_cd ?_ | refine awp_ret ?_ | refine callK_of (hre) ?_ | refine callK_of (hsh) ?_ | refine callK_of (hto) ?_ | refine callK_of (hpl) ?_ | refine callK_of (htx) ?_ | refine callK_of (hpx) ?_ | refine callK_of (hpt) ?_ | refine callK_of (hpr) ?_ | refine callK_of (hpq) ?_ | refine callK_of (hA) ?_ | refine go_split (fun _h => ?_) (fun _h => ?_)) <;> try simp (maxSteps := 4000000) only [go_sem, seval, c6, hqe, hv, hsp, hHl, decide_true, decide_false])
    | (intro _h)
    | (refine awp_block ?_)
    | (refine awp_scope ?_)
    | (refine cond_b (fun _h => ?_) (fun _h => ?_))
    | (show heapOK _ _ = true; kernel_rfl)
    | (show heapOK2 _ _ = true; kernel_rfl)
    | (omega)))
    all_goals first
      | (exfalso; have := hmo (by assumption); simp_all; done)
      | trace_state
  · -- there is none
    have hE9 := planE_nine h0 hE
    have eV : planV t = .nils := by simp [planV, hE9]
    rw [hE9, eV] at hpl
    have eVX : planV X = .nils := by simp [planV, hEX]
    rw [eVX] at hpx
    generalize planE X = ex at *
    subst hXe
    simp only [slB, townC, slH, slL, sl, hl0, List.length_nil, recs_nil, hHl] at hre hsh hto htx hpl hpx hpt hpr hpq ⊢
    replace htx := htx.deep (xs := [.agg [_, .psl true 0 [], _, _, _]]) ⟨deep_agg ⟨.refl _, deep_psl trivial, .refl _, .refl _, .refl _, trivial⟩, trivial⟩
    (refine callS_of_awp (fun w args => Try.call4 ..) Try.func4 rfl (fun w0 m0 wz => ?_); simp only [Try.ntmps4, Try.results4, initT, junks, homeC, hallC, slH, slL, townC, sl, List.toList_toArray, List.cons_append, List.nil_append, List.length_cons, List.length_nil, Nat.reduceAdd, Nat.reduceSub])
    (repeat' (first
    | (refine awp_frz (c := .region 21 _ _) 2 rfl (by simp (maxSteps := 4000000) only [go_sem, seval, c6, hqe, hv, hsp, hHl, decide_true, decide_false]) (fun _ => rfl) ?_; simp only [frz, fq_pure, fzB_c, fzB_m, fzB_d, fzB_l, fzO, fzH, fzHs, fzl, fz2, fz1, fz0, List.map_cons, List.map_nil, if_true, if_false, reduceIte, Nat.reduceEqDiff, Nat.reduceAdd, Nat.succ_ne_self, Nat.zero_ne_one, Nat.one_ne_zero, reduceCtorEq, and_self])
    | ((exfalso; omega))
    | ((omega))
    | (refine awp_seqK ?_)
    | (refine kt ?_)
    | (refine And.intro ?_ ?_)
    | ((first | refine awp_region ?_ | refine awp_draw (by kernel_rfl) (by kernel_rfl) ?_ | refine Imp.le2 ?_ | refine awp_label ?_ | refine awp_skip ?_ | refine awp_exit ?_ | refine awp_cd ?_ | refine awp_ret ?_ | refine callK_of (hre) ?_ | refine callK_of (hsh) ?_ | refine callK_of (hto) ?_ | refine callK_of (hpl) ?_ | refine callK_of (htx) ?_ | refine callK_of (hpx) ?_ | refine callK_of (hpt) ?_ | refine callK_of (hpr) ?_ | refine callK_of (hpq) ?_ | refine callK_of (hA) ?_ | refine go_split (fun _h => ?_) (fun _h => ?_)) <;> try simp (maxSteps := 4000000) only [go_sem, seval, c6, hqe, hv, hsp, hHl, decide_true, decide_false])
    | (intro _h)
    | (refine awp_block ?_)
    | (refine awp_scope ?_)
    | (refine cond_b (fun _h => ?_) (fun _h => ?_))
    | (show heapOK _ _ = true; kernel_rfl)
    | (show heapOK2 _ _ = true; kernel_rfl)
    | (omega)))
    all_goals first
      | (exfalso; have := hmo (by assumption); simp_all; done)
      | trace_state
end Go.Am

/- The law AwayEasier, as a contract: it returns true. Case 2. -/
namespace Go.Am
open Go.RowKit Go.Proofs
attribute [local irreducible] AWP CallS Kt goK CallK stepK evOps SemF SemY Imp
set_option maxRecDepth 4000
set_option linter.unusedSimpArgs false
set_option linter.unusedVariables false
set_option maxHeartbeats 3200000

theorem easy_2 (t : Town) (plan : List Bus) (wh at0 by0 : Int) (hw : 0 ≤ wh ∧ wh ≤ 255) (ha : 0 ≤ at0 ∧ at0 ≤ 255) (hy : 0 ≤ by0 ∧ by0 ≤ 65535) (hR : readyB t = true) (hS : shortB plan = true) (c6 : wh.tmod 6 = 2) (hk0 : 0 < t.halls.length) : CallS Try.prog 4 [.agg (townC t), slB plan, .int .u8 wh, .int .u8 at0, .int .u16 by0] (.bool true) := by
  have hre := ready_c t
  have hsh := short_c plan
  have hA := awake_c
  rw [hR] at hre
  rw [hS] at hsh
  obtain ⟨hb, h0⟩ := ready_ok hR
  obtain ⟨hP, hP1, hP2⟩ := shortB_ok hS
  have ht := faultT_zero h0
  have hln := ht.homes
  have hhl := ht.halls
  have hsea := ht.seats
  have hcal := ht.call
  obtain ⟨q, hqn, hqe⟩ := at_mod (n := t.homes.length) ha.1 (by omega)
  obtain ⟨q1, q2, q3, q4⟩ := ht.home q hqn
  obtain ⟨d, hd⟩ : ∃ d, by0.tmod 5 = d := ⟨_, rfl⟩
  have hd2 : 0 ≤ d ∧ d < 5 := by rw [← hd]; exact tmod_bd (by omega) (by omega)
  obtain ⟨s, hs⟩ : ∃ s, max t.clo (t.chi - d) = s := ⟨_, rfl⟩
  have hX := easier_call ht (c := s) (by omega) (by omega)
  obtain ⟨X, hXe⟩ : ∃ X : Town, X = ⟨t.homes, t.halls, t.seats, t.clo, s⟩ := ⟨_, rfl⟩
  rw [← hXe] at hX
  have hxb : townOK X := ⟨by have := hX.hl; omega, by have := hX.ll; omega⟩
  have hx0 := townOK_fault hX.ok
  have hto := Town_c t hb
  have htx := Town_c X hxb
  have hpl := Plan_c t hb
  have hpx := Plan_c X hxb
  have hpt := planTo_c plan hP
  have hpr := prove_c t plan hb hP
  have hpq := prove_c X plan hxb hP
  have hPL := planL_sh2 h0
  have hp2 := prove_c X (planL t) hxb hPL
  have hmo := easier_prove h0 hX plan
  generalize proveB t plan = b1 at *
  generalize proveB X plan = b2 at *
  by_cases hE : planE t = 0
  · -- a plan there is
    obtain ⟨p1, p2, p3⟩ := easier_plan h0 hX hE
    have eQ : proveB X (planL t) = true := by simp [proveB, hx0, p3]
    rw [eQ] at hp2
    simp only [planV, hE, p1, if_true] at hpl hpx
    have eN : (((planL t).length : Int) < (planL X).length) = False := eq_false (by omega)
    generalize planL t = P at *
    generalize planL X = P2 at *
    subst hXe
    simp only [slB, townC, slH, slL, sl] at hre hsh hto htx hpl hpx hpt hpr hpq hp2 ⊢
    (refine callS_of_awp (fun w args => Try.call4 ..) Try.func4 rfl (fun w0 m0 wz => ?_); simp only [Try.ntmps4, Try.results4, initT, junks, homeC, hallC, slH, slL, townC, sl, List.toList_toArray, List.cons_append, List.nil_append, List.length_cons, List.length_nil, Nat.reduceAdd, Nat.reduceSub])
    (repeat' (first
    | (refine awp_frz (c := .region 21 _ _) 2 rfl (by simp (maxSteps := 4000000) only [go_sem, seval, c6, hqe, hd, hs, eN, decide_true, decide_false]) (fun _ => rfl) ?_; simp only [frz, fq_pure, fzB_c, fzB_m, fzB_d, fzB_l, fzO, fzH, fzHs, fzl, fz2, fz1, fz0, List.map_cons, List.map_nil, if_true, if_false, reduceIte, Nat.reduceEqDiff, Nat.reduceAdd, Nat.succ_ne_self, Nat.zero_ne_one, Nat.one_ne_zero, reduceCtorEq, and_self])
    | (refine awp_frz (c := .region 22 _ _) 3 rfl (by simp (maxSteps := 4000000) only [go_sem, seval, c6, hqe, hd, hs, eN, decide_true, decide_false]) (fun _ => rfl) ?_; simp only [frz, fq_pure, fzB_c, fzB_m, fzB_d, fzB_l, fzO, fzH, fzHs, fzl, fz2, fz1, fz0, List.map_cons, List.map_nil, if_true, if_false, reduceIte, Nat.reduceEqDiff, Nat.reduceAdd, Nat.succ_ne_self, Nat.zero_ne_one, Nat.one_ne_zero, reduceCtorEq, and_self])
    | ((exfalso; omega))
    | ((omega))
    | (refine awp_seqK ?_)
    | (refine kt ?_)
    | (refine And.intro ?_ ?_)
    | ((first | refine awp_region ?_ | refine awp_draw (by kernel_rfl) (by kernel_rfl) ?_ | refine Imp.le2 ?_ | refine awp_label ?_ | refine awp_skip ?_ | refine awp_exit ?_ | refine awp_cd ?_ | refine awp_ret ?_ | refine callK_of (hre) ?_ | refine callK_of (hsh) ?_ | refine callK_of (hto) ?_ | refine callK_of (hpl) ?_ | refine callK_of (htx) ?_ | refine callK_of (hpx) ?_ | refine callK_of (hp2) ?_ | refine callK_of (hpt) ?_ | refine callK_of (hpr) ?_ | refine callK_of (hpq) ?_ | refine callK_of (hA) ?_ | refine go_split (fun _h => ?_) (fun _h => ?_)) <;> try simp (maxSteps := 4000000) only [go_sem, seval, c6, hqe, hd, hs, eN, decide_true, decide_false])
    | (intro _h)
    | (refine awp_block ?_)
    | (refine awp_scope ?_)
    | (refine cond_b (fun _h => ?_) (fun _h => ?_))
    | (show heapOK _ _ = true; kernel_rfl)
    | (show heapOK2 _ _ = true; kernel_rfl)
    | (omega)))
    all_goals first
      | (exfalso; have := hmo (by assumption); simp_all; done)
      | trace_state
  by_cases hEX : planE X = 0
  · -- now there is one
    have hE9 := planE_nine h0 hE
    have eV : planV t = .nils := by simp [planV, hE9]
    rw [hE9, eV] at hpl
    simp only [planV, hEX, if_true] at hpx
    generalize planL X = P2 at *
    subst hXe
    simp only [slB, townC, slH, slL, sl] at hre hsh hto htx hpl hpx hpt hpr hpq ⊢
    (refine callS_of_awp (fun w args => Try.call4 ..) Try.func4 rfl (fun w0 m0 wz => ?_); simp only [Try.ntmps4, Try.results4, initT, junks, homeC, hallC, slH, slL, townC, sl, List.toList_toArray, List.cons_append, List.nil_append, List.length_cons, List.length_nil, Nat.reduceAdd, Nat.reduceSub])
    (repeat' (first
    | (refine awp_frz (c := .region 21 _ _) 2 rfl (by simp (maxSteps := 4000000) only [go_sem, seval, c6, hqe, hd, hs, decide_true, decide_false]) (fun _ => rfl) ?_; simp only [frz, fq_pure, fzB_c, fzB_m, fzB_d, fzB_l, fzO, fzH, fzHs, fzl, fz2, fz1, fz0, List.map_cons, List.map_nil, if_true, if_false, reduceIte, Nat.reduceEqDiff, Nat.reduceAdd, Nat.succ_ne_self, Nat.zero_ne_one, Nat.one_ne_zero, reduceCtorEq, and_self])
    | (refine awp_frz (c := .region 22 _ _) 3 rfl (by simp (maxSteps := 4000000) only [go_sem, seval, c6, hqe, hd, hs, decide_true, decide_false]) (fun _ => rfl) ?_; simp only [frz, fq_pure, fzB_c, fzB_m, fzB_d, fzB_l, fzO, fzH, fzHs, fzl, fz2, fz1, fz0, List.map_cons, List.map_nil, if_true, if_false, reduceIte, Nat.reduceEqDiff, Nat.reduceAdd, Nat.succ_ne_self, Nat.zero_ne_one, Nat.one_ne_zero, reduceCtorEq, and_self])
    | ((exfalso; omega))
    | ((omega))
    | (refine awp_seqK ?_)
    | (refine kt ?_)
    | (refine And.intro ?_ ?_)
    | ((first | refine awp_region ?_ | refine awp_draw (by kernel_rfl) (by kernel_rfl) ?_ | refine Imp.le2 ?_ | refine awp_label ?_ | refine awp_skip ?_ | refine awp_exit ?_ | refine awp_cd ?_ | refine awp_ret ?_ | refine callK_of (hre) ?_ | refine callK_of (hsh) ?_ | refine callK_of (hto) ?_ | refine callK_of (hpl) ?_ | refine callK_of (htx) ?_ | refine callK_of (hpx) ?_ | refine callK_of (hpt) ?_ | refine callK_of (hpr) ?_ | refine callK_of (hpq) ?_ | refine callK_of (hA) ?_ | refine go_split (fun _h => ?_) (fun _h => ?_)) <;> try simp (maxSteps := 4000000) only [go_sem, seval, c6, hqe, hd, hs, decide_true, decide_false])
    | (intro _h)
    | (refine awp_block ?_)
    | (refine awp_scope ?_)
    | (refine cond_b (fun _h => ?_) (fun _h => ?_))
    | (show heapOK _ _ = true; kernel_rfl)
    | (show heapOK2 _ _ = true; kernel_rfl)
    | (omega)))
    all_goals first
      | (exfalso; have := hmo (by assumption); simp_all; done)
      | trace_state
  · -- there is none
    have hE9 := planE_nine h0 hE
    have eV : planV t = .nils := by simp [planV, hE9]
    rw [hE9, eV] at hpl
    have eVX : planV X = .nils := by simp [planV, hEX]
    rw [eVX] at hpx
    generalize planE X = ex at *
    subst hXe
    simp only [slB, townC, slH, slL, sl] at hre hsh hto htx hpl hpx hpt hpr hpq ⊢
    (refine callS_of_awp (fun w args => Try.call4 ..) Try.func4 rfl (fun w0 m0 wz => ?_); simp only [Try.ntmps4, Try.results4, initT, junks, homeC, hallC, slH, slL, townC, sl, List.toList_toArray, List.cons_append, List.nil_append, List.length_cons, List.length_nil, Nat.reduceAdd, Nat.reduceSub])
    (repeat' (first
    | (refine awp_frz (c := .region 21 _ _) 2 rfl (by simp (maxSteps := 4000000) only [go_sem, seval, c6, hqe, hd, hs, decide_true, decide_false]) (fun _ => rfl) ?_; simp only [frz, fq_pure, fzB_c, fzB_m, fzB_d, fzB_l, fzO, fzH, fzHs, fzl, fz2, fz1, fz0, List.map_cons, List.map_nil, if_true, if_false, reduceIte, Nat.reduceEqDiff, Nat.reduceAdd, Nat.succ_ne_self, Nat.zero_ne_one, Nat.one_ne_zero, reduceCtorEq, and_self])
    | (refine awp_frz (c := .region 22 _ _) 3 rfl (by simp (maxSteps := 4000000) only [go_sem, seval, c6, hqe, hd, hs, decide_true, decide_false]) (fun _ => rfl) ?_; simp only [frz, fq_pure, fzB_c, fzB_m, fzB_d, fzB_l, fzO, fzH, fzHs, fzl, fz2, fz1, fz0, List.map_cons, List.map_nil, if_true, if_false, reduceIte, Nat.reduceEqDiff, Nat.reduceAdd, Nat.succ_ne_self, Nat.zero_ne_one, Nat.one_ne_zero, reduceCtorEq, and_self])
    | ((exfalso; omega))
    | ((omega))
    | (refine awp_seqK ?_)
    | (refine kt ?_)
    | (refine And.intro ?_ ?_)
    | ((first | refine awp_region ?_ | refine awp_draw (by kernel_rfl) (by kernel_rfl) ?_ | refine Imp.le2 ?_ | refine awp_label ?_ | refine awp_skip ?_ | refine awp_exit ?_ | refine awp_cd ?_ | refine awp_ret ?_ | refine callK_of (hre) ?_ | refine callK_of (hsh) ?_ | refine callK_of (hto) ?_ | refine callK_of (hpl) ?_ | refine callK_of (htx) ?_ | refine callK_of (hpx) ?_ | refine callK_of (hpt) ?_ | refine callK_of (hpr) ?_ | refine callK_of (hpq) ?_ | refine callK_of (hA) ?_ | refine go_split (fun _h => ?_) (fun _h => ?_)) <;> try simp (maxSteps := 4000000) only [go_sem, seval, c6, hqe, hd, hs, decide_true, decide_false])
    | (intro _h)
    | (refine awp_block ?_)
    | (refine awp_scope ?_)
    | (refine cond_b (fun _h => ?_) (fun _h => ?_))
    | (show heapOK _ _ = true; kernel_rfl)
    | (show heapOK2 _ _ = true; kernel_rfl)
    | (omega)))
    all_goals first
      | (exfalso; have := hmo (by assumption); simp_all; done)
      | trace_state
end Go.Am

/- The law AwayEasier, as a contract: it returns true. Case 2e. -/
namespace Go.Am
open Go.RowKit Go.Proofs
attribute [local irreducible] AWP CallS Kt goK CallK stepK evOps SemF SemY Imp
set_option maxRecDepth 4000
set_option linter.unusedSimpArgs false
set_option linter.unusedVariables false
set_option maxHeartbeats 3200000

theorem easy_2e (t : Town) (plan : List Bus) (wh at0 by0 : Int) (hw : 0 ≤ wh ∧ wh ≤ 255) (ha : 0 ≤ at0 ∧ at0 ≤ 255) (hy : 0 ≤ by0 ∧ by0 ≤ 65535) (hR : readyB t = true) (hS : shortB plan = true) (c6 : wh.tmod 6 = 2) (hl0 : t.halls = []) : CallS Try.prog 4 [.agg (townC t), slB plan, .int .u8 wh, .int .u8 at0, .int .u16 by0] (.bool true) := by
  have hre := ready_c t
  have hsh := short_c plan
  have hA := awake_c
  rw [hR] at hre
  rw [hS] at hsh
  obtain ⟨hb, h0⟩ := ready_ok hR
  obtain ⟨hP, hP1, hP2⟩ := shortB_ok hS
  have ht := faultT_zero h0
  have hln := ht.homes
  have hhl := ht.halls
  have hsea := ht.seats
  have hcal := ht.call
  obtain ⟨q, hqn, hqe⟩ := at_mod (n := t.homes.length) ha.1 (by omega)
  obtain ⟨q1, q2, q3, q4⟩ := ht.home q hqn
  obtain ⟨d, hd⟩ : ∃ d, by0.tmod 5 = d := ⟨_, rfl⟩
  have hd2 : 0 ≤ d ∧ d < 5 := by rw [← hd]; exact tmod_bd (by omega) (by omega)
  obtain ⟨s, hs⟩ : ∃ s, max t.clo (t.chi - d) = s := ⟨_, rfl⟩
  have hX := easier_call ht (c := s) (by omega) (by omega)
  obtain ⟨X, hXe⟩ : ∃ X : Town, X = ⟨t.homes, t.halls, t.seats, t.clo, s⟩ := ⟨_, rfl⟩
  rw [← hXe] at hX
  have hxb : townOK X := ⟨by have := hX.hl; omega, by have := hX.ll; omega⟩
  have hx0 := townOK_fault hX.ok
  have hto := Town_c t hb
  have htx := Town_c X hxb
  have hpl := Plan_c t hb
  have hpx := Plan_c X hxb
  have hpt := planTo_c plan hP
  have hpr := prove_c t plan hb hP
  have hpq := prove_c X plan hxb hP
  have hPL := planL_sh2 h0
  have hp2 := prove_c X (planL t) hxb hPL
  have hmo := easier_prove h0 hX plan
  generalize proveB t plan = b1 at *
  generalize proveB X plan = b2 at *
  have hl00 : t.halls.length = 0 := by rw [hl0]; rfl
  by_cases hE : planE t = 0
  · -- a plan there is
    obtain ⟨p1, p2, p3⟩ := easier_plan h0 hX hE
    have eQ : proveB X (planL t) = true := by simp [proveB, hx0, p3]
    rw [eQ] at hp2
    simp only [planV, hE, p1, if_true] at hpl hpx
    have eN : (((planL t).length : Int) < (planL X).length) = False := eq_false (by omega)
    generalize planL t = P at *
    generalize planL X = P2 at *
    subst hXe
    simp only [slB, townC, slH, slL, sl, hl0, List.length_nil, recs_nil] at hre hsh hto htx hpl hpx hpt hpr hpq hp2 ⊢
    replace htx := htx.deep (xs := [.agg [_, .psl true 0 [], _, _, _]]) ⟨deep_agg ⟨.refl _, deep_psl trivial, .refl _, .refl _, .refl _, trivial⟩, trivial⟩
    (refine callS_of_awp (fun w args => Try.call4 ..) Try.func4 rfl (fun w0 m0 wz => ?_); simp only [Try.ntmps4, Try.results4, initT, junks, homeC, hallC, slH, slL, townC, sl, List.toList_toArray, List.cons_append, List.nil_append, List.length_cons, List.length_nil, Nat.reduceAdd, Nat.reduceSub])
    (repeat' (first
    | (refine awp_frz (c := .region 21 _ _) 2 rfl (by simp (maxSteps := 4000000) only [go_sem, seval, c6, hqe, hd, hs, eN, decide_true, decide_false]) (fun _ => rfl) ?_; simp only [frz, fq_pure, fzB_c, fzB_m, fzB_d, fzB_l, fzO, fzH, fzHs, fzl, fz2, fz1, fz0, List.map_cons, List.map_nil, if_true, if_false, reduceIte, Nat.reduceEqDiff, Nat.reduceAdd, Nat.succ_ne_self, Nat.zero_ne_one, Nat.one_ne_zero, reduceCtorEq, and_self])
    | ((exfalso; omega))
    | ((omega))
    | (refine awp_seqK ?_)
    | (refine kt ?_)
    | (refine And.intro ?_ ?_)
    | ((first | refine awp_region ?_ | refine awp_draw (by kernel_rfl) (by kernel_rfl) ?_ | refine Imp.le2 ?_ | refine awp_label ?_ | refine awp_skip ?_ | refine awp_exit ?_ | refine awp_cd ?_ | refine awp_ret ?_ | refine callK_of (hre) ?_ | refine callK_of (hsh) ?_ | refine callK_of (hto) ?_ | refine callK_of (hpl) ?_ | refine callK_of (htx) ?_ | refine callK_of (hpx) ?_ | refine callK_of (hp2) ?_ | refine callK_of (hpt) ?_ | refine callK_of (hpr) ?_ | refine callK_of (hpq) ?_ | refine callK_of (hA) ?_ | refine go_split (fun _h => ?_) (fun _h => ?_)) <;> try simp (maxSteps := 4000000) only [go_sem, seval, c6, hqe, hd, hs, eN, decide_true, decide_false])
    | (intro _h)
    | (refine awp_block ?_)
    | (refine awp_scope ?_)
    | (refine cond_b (fun _h => ?_) (fun _h => ?_))
    | (show heapOK _ _ = true; kernel_rfl)
    | (show heapOK2 _ _ = true; kernel_rfl)
    | (omega)))
    all_goals first
      | (exfalso; have := hmo (by assumption); simp_all; done)
      | trace_state
  by_cases hEX : planE X = 0
  · -- now there is one
    have hE9 := planE_nine h0 hE
    have eV : planV t = .nils := by simp [planV, hE9]
    rw [hE9, eV] at hpl
    simp only [planV, hEX, if_true] at hpx
    generalize planL X = P2 at *
    subst hXe
    simp only [slB, townC, slH, slL, sl, hl0, List.length_nil, recs_nil] at hre hsh hto htx hpl hpx hpt hpr hpq ⊢
    replace htx := htx.deep (xs := [.agg [_, .psl true 0 [], _, _, _]]) ⟨deep_agg ⟨.refl _, deep_psl trivial, .refl _, .refl _, .refl _, trivial⟩, trivial⟩
    (refine callS_of_awp (fun w args => Try.call4 ..) Try.func4 rfl (fun w0 m0 wz => ?_); simp only [Try.ntmps4, Try.results4, initT, junks, homeC, hallC, slH, slL, townC, sl, List.toList_toArray, List.cons_append, List.nil_append, List.length_cons, List.length_nil, Nat.reduceAdd, Nat.reduceSub])
    (repeat' (first
    | (refine awp_frz (c := .region 21 _ _) 2 rfl (by simp (maxSteps := 4000000) only [go_sem, seval, c6, hqe, hd, hs, decide_true, decide_false]) (fun _ => rfl) ?_; simp only [frz, fq_pure, fzB_c, fzB_m, fzB_d, fzB_l, fzO, fzH, fzHs, fzl, fz2, fz1, fz0, List.map_cons, List.map_nil, if_true, if_false, reduceIte, Nat.reduceEqDiff, Nat.reduceAdd, Nat.succ_ne_self, Nat.zero_ne_one, Nat.one_ne_zero, reduceCtorEq, and_self])
    | ((exfalso; omega))
    | ((omega))
    | (refine awp_seqK ?_)
    | (refine kt ?_)
    | (refine And.intro ?_ ?_)
    | ((first | refine awp_region ?_ | refine awp_draw (by kernel_rfl) (by kernel_rfl) ?_ | refine Imp.le2 ?_ | refine awp_label ?_ | refine awp_skip ?_ | refine awp_exit ?_ | refine awp_cd ?_ | refine awp_ret ?_ | refine callK_of (hre) ?_ | refine callK_of (hsh) ?_ | refine callK_of (hto) ?_ | refine callK_of (hpl) ?_ | refine callK_of (htx) ?_ | refine callK_of (hpx) ?_ | refine callK_of (hpt) ?_ | refine callK_of (hpr) ?_ | refine callK_of (hpq) ?_ | refine callK_of (hA) ?_ | refine go_split (fun _h => ?_) (fun _h => ?_)) <;> try simp (maxSteps := 4000000) only [go_sem, seval, c6, hqe, hd, hs, decide_true, decide_false])
    | (intro _h)
    | (refine awp_block ?_)
    | (refine awp_scope ?_)
    | (refine cond_b (fun _h => ?_) (fun _h => ?_))
    | (show heapOK _ _ = true; kernel_rfl)
    | (show heapOK2 _ _ = true; kernel_rfl)
    | (omega)))
    all_goals first
      | (exfalso; have := hmo (by assumption); simp_all; done)
      | trace_state
  · -- there is none
    have hE9 := planE_nine h0 hE
    have eV : planV t = .nils := by simp [planV, hE9]
    rw [hE9, eV] at hpl
    have eVX : planV X = .nils := by simp [planV, hEX]
    rw [eVX] at hpx
    generalize planE X = ex at *
    subst hXe
    simp only [slB, townC, slH, slL, sl, hl0, List.length_nil, recs_nil] at hre hsh hto htx hpl hpx hpt hpr hpq ⊢
    replace htx := htx.deep (xs := [.agg [_, .psl true 0 [], _, _, _]]) ⟨deep_agg ⟨.refl _, deep_psl trivial, .refl _, .refl _, .refl _, trivial⟩, trivial⟩
    (refine callS_of_awp (fun w args => Try.call4 ..) Try.func4 rfl (fun w0 m0 wz => ?_); simp only [Try.ntmps4, Try.results4, initT, junks, homeC, hallC, slH, slL, townC, sl, List.toList_toArray, List.cons_append, List.nil_append, List.length_cons, List.length_nil, Nat.reduceAdd, Nat.reduceSub])
    (repeat' (first
    | (refine awp_frz (c := .region 21 _ _) 2 rfl (by simp (maxSteps := 4000000) only [go_sem, seval, c6, hqe, hd, hs, decide_true, decide_false]) (fun _ => rfl) ?_; simp only [frz, fq_pure, fzB_c, fzB_m, fzB_d, fzB_l, fzO, fzH, fzHs, fzl, fz2, fz1, fz0, List.map_cons, List.map_nil, if_true, if_false, reduceIte, Nat.reduceEqDiff, Nat.reduceAdd, Nat.succ_ne_self, Nat.zero_ne_one, Nat.one_ne_zero, reduceCtorEq, and_self])
    | ((exfalso; omega))
    | ((omega))
    | (refine awp_seqK ?_)
    | (refine kt ?_)
    | (refine And.intro ?_ ?_)
    | ((first | refine awp_region ?_ | refine awp_draw (by kernel_rfl) (by kernel_rfl) ?_ | refine Imp.le2 ?_ | refine awp_label ?_ | refine awp_skip ?_ | refine awp_exit ?_ | refine awp_cd ?_ | refine awp_ret ?_ | refine callK_of (hre) ?_ | refine callK_of (hsh) ?_ | refine callK_of (hto) ?_ | refine callK_of (hpl) ?_ | refine callK_of (htx) ?_ | refine callK_of (hpx) ?_ | refine callK_of (hpt) ?_ | refine callK_of (hpr) ?_ | refine callK_of (hpq) ?_ | refine callK_of (hA) ?_ | refine go_split (fun _h => ?_) (fun _h => ?_)) <;> try simp (maxSteps := 4000000) only [go_sem, seval, c6, hqe, hd, hs, decide_true, decide_false])
    | (intro _h)
    | (refine awp_block ?_)
    | (refine awp_scope ?_)
    | (refine cond_b (fun _h => ?_) (fun _h => ?_))
    | (show heapOK _ _ = true; kernel_rfl)
    | (show heapOK2 _ _ = true; kernel_rfl)
    | (omega)))
    all_goals first
      | (exfalso; have := hmo (by assumption); simp_all; done)
      | trace_state
end Go.Am
