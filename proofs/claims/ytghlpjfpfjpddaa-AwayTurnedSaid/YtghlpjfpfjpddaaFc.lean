/- Parts TqE of the proof, one behind the other. No statement is proved here. -/
import Derived.Test.YtghlpjfpfjpddaaFa
/- A case of the law AwayTurned. -/
namespace Go.Am
open Go.RowKit Go.Proofs
attribute [local irreducible] AWP CallS Kt goK CallK stepK evOps SemF SemY Imp
set_option maxRecDepth 4000
set_option linter.unusedSimpArgs false
set_option linter.unusedVariables false
set_option maxHeartbeats 3200000
theorem turned_mp (t : Town) (wa hs : Int) (h1 : 0 ≤ wa ∧ wa ≤ 255) (h2 : 0 ≤ hs ∧ hs ≤ 255) (hR : readyB t = true) (hm : 0 < t.halls.length) (hE : planE t = 0) : CallS Try.prog 5 [.agg (townC t), .int .u8 wa, .int .u8 hs] (.bool true) := by
  have hre := ready_c t
  have hA := awake_c
  rw [hR] at hre
  obtain ⟨hb, h0⟩ := ready_ok hR
  have ht := faultT_zero h0
  have hln := ht.homes
  have hhl := ht.halls
  have hto := Town_c t hb
  obtain ⟨k, hk, hke⟩ := at_mod (n := t.homes.length) h1.1 (by omega)
  have hw1 : window (recs homeC t.homes) (k * 6) (((t.homes.length : Int) - k).toNat * 6) = recs homeC (t.homes.drop k) := win_drop (l := t.homes) (sz := 6) (k := k) (fun _ => rfl) (by omega) (by omega)
  have hw2 : window (recs homeC t.homes) 0 (k * 6) = recs homeC (t.homes.take k) := win_take (l := t.homes) (sz := 6) (k := k) (fun _ => rfl) (by omega)
  have hap : recs homeC (t.homes.drop k) ++ recs homeC (t.homes.take k) = recs homeC (rot t.homes k) := by rw [rot, recs_app]
  have hl1 : (recs homeC (t.homes.drop k)).length = ((t.homes.length : Int) - k).toNat * 6 := by rw [recs_length (sz := 6) (fun _ => rfl), List.length_drop]; omega
  have hl2 : (recs homeC (t.homes.take k)).length = k * 6 := by rw [recs_length (sz := 6) (fun _ => rfl), List.length_take]; omega
  have hnn : ((t.homes.length : Int) - k).toNat + k = t.homes.length := by omega
  have hrl : (rot t.homes k).length = t.homes.length := rot_length (by omega)
  obtain ⟨i, hi1, hie⟩ := at_mod (n := t.halls.length) h2.1 hm
  have hi : i ≤ t.halls.length := by omega
  have gw1 : window (recs hallC t.halls) (i * 3) (((t.halls.length : Int) - i).toNat * 3) = recs hallC (t.halls.drop i) := win_drop (l := t.halls) (sz := 3) (k := i) (fun _ => rfl) (by omega) (by omega)
  have gw2 : window (recs hallC t.halls) 0 (i * 3) = recs hallC (t.halls.take i) := win_take (l := t.halls) (sz := 3) (k := i) (fun _ => rfl) (by omega)
  have gap : recs hallC (t.halls.drop i) ++ recs hallC (t.halls.take i) = recs hallC (rot t.halls i) := by rw [rot, recs_app]
  have gl1 : (recs hallC (t.halls.drop i)).length = ((t.halls.length : Int) - i).toNat * 3 := by rw [recs_length (sz := 3) (fun _ => rfl), List.length_drop]; omega
  have gl2 : (recs hallC (t.halls.take i)).length = i * 3 := by rw [recs_length (sz := 3) (fun _ => rfl), List.length_take]; omega
  have gnn : ((t.halls.length : Int) - i).toNat + i = t.halls.length := by omega
  have grl : (rot t.halls i).length = t.halls.length := rot_length (by omega)
  have hxo := turn_ok (k := k) (i := i) (by omega) hi ht
  have hx0 := townOK_fault hxo
  have hworst := fun j hj => turn_wl (k := k) (i := i) (j := j) (by omega) hi hj
  obtain ⟨tp1, tp2⟩ := turn_plan (k := k) (i := i) (by omega) hi h0
  have tor := turn_order (k := k) (i := i) (by omega) hi h0
  have two := orderE_two h0
  have wl1 : (worstL t).length = t.homes.length := by simp [worstL]
  have wl2 : (worstL (turnT t k i)).length = t.homes.length := by simp [worstL, turnT, hrl]
  have hwt := Worst_c t hb
  have hwx := Worst_c (turnT t k i) hxo.ok
  have hpt := Plan_c t hb
  have hpx := Plan_c (turnT t k i) hxo.ok
  have hot := Order_c t hb
  have hox := Order_c (turnT t k i) hxo.ok
  rw [h0, if_pos rfl] at hwt
  rw [hx0, if_pos rfl] at hwx
  have ov : orderV t = if orderE t = 0 then sl (ordL t) else .nils := rfl
  have ovx : orderV (turnT t k i) = if orderE t = 0 then sl (ordL (turnT t k i)) else .nils := by unfold orderV; rw [tor]
  rw [ov] at hot
  rw [ovx, tor] at hox
  have hlen := tp2 hE
  rw [show planV t = slB (planL t) by unfold planV; rw [if_pos hE], hE] at hpt
  rw [show planV (turnT t k i) = slB (planL (turnT t k i)) by unfold planV; rw [if_pos (by rw [tp1]; exact hE)], tp1, hE] at hpx
  have pl1 := pl_B (l := planL t)
  have pl2 := pl_B (l := planL (turnT t k i))
  simp only [slB, hlen] at hpt hpx
  generalize worstL (turnT t k i) = wx at *
  generalize worstL t = wt at *
  generalize ordL (turnT t k i) = ox at *
  generalize ordL t = ot at *
  have e1 : (turnT t k i).homes = rot t.homes k := rfl
  have e2 : (turnT t k i).halls = rot t.halls i := rfl
  have e3 : (turnT t k i).seats = t.seats := rfl
  have e4 : (turnT t k i).clo = t.clo := rfl
  have e5 : (turnT t k i).chi = t.chi := rfl
  simp only [townC, slH, slL, e1, e2, e3, e4, e5, hrl, grl, sl, wl1, wl2] at hwx hpx hox hwt hpt hot
  clear tor tp1 tp2 hxo hx0 ov ovx e1 e2 e3 e4 e5
  rcases two with ho | ho <;> (
    simp only [ho, if_true, if_false, Int.reduceEq, reduceCtorEq, sl] at hot hox
    simp only [townC, slH, slL, sl] at hre hto ⊢
    (refine callS_of_awp (fun w args => Try.call5 ..) Try.func5 rfl (fun w0 m0 wz => ?_); simp only [Try.ntmps5, Try.results5, initT, junks, homeC, hallC, slH, slL, townC, sl, List.toList_toArray, List.cons_append, List.nil_append, List.length_cons, List.length_nil, Nat.reduceAdd, Nat.reduceSub])
    (repeat' (first
    | (refine awp_frz (c := .region 11 _ _) 2 rfl (by simp (maxSteps := 4000000) only [go_sem, seval, hke, hw1, hw2, hap, hl1, hl2, hnn, hie, gw1, gw2, gap, gl1, gl2, gnn, wl1, wl2]) (fun _ => rfl) ?_; simp only [frz, fq_pure, fzB_c, fzB_m, fzB_d, fzB_l, fzO, fzH, fzHs, fzl, fz2, fz1, fz0, List.map_cons, List.map_nil, if_true, if_false, reduceIte, Nat.reduceEqDiff, Nat.reduceAdd, Nat.succ_ne_self, Nat.zero_ne_one, Nat.one_ne_zero, reduceCtorEq, and_self])
    | (refine awp_frz (c := .region 11 _ _) 3 rfl (by simp (maxSteps := 4000000) only [go_sem, seval, hke, hw1, hw2, hap, hl1, hl2, hnn, hie, gw1, gw2, gap, gl1, gl2, gnn, wl1, wl2]) (fun _ => rfl) ?_; simp only [frz, fq_pure, fzB_c, fzB_m, fzB_d, fzB_l, fzO, fzH, fzHs, fzl, fz2, fz1, fz0, List.map_cons, List.map_nil, if_true, if_false, reduceIte, Nat.reduceEqDiff, Nat.reduceAdd, Nat.succ_ne_self, Nat.zero_ne_one, Nat.one_ne_zero, reduceCtorEq, and_self])
    | ((exfalso; omega))
    | ((omega))
    | (refine awp_seqK ?_)
    | (refine kt ?_)
    | (refine And.intro ?_ ?_)
    | ((first | refine awp_region ?_ | refine awp_draw (by kernel_rfl) (by kernel_rfl) ?_ | refine Imp.le2 ?_ | refine awp_label ?_ | refine awp_skip ?_ | refine awp_exit ?_ | refine awp_cd ?_ | refine awp_ret ?_ | refine callK_of (hre) ?_ | refine callK_of (hto) ?_ | refine callK_of (hwt) ?_ | refine callK_of (hwx) ?_ | refine callK_of (hpt) ?_ | refine callK_of (hpx) ?_ | refine callK_of (hot) ?_ | refine callK_of (hox) ?_ | refine go_split (fun _h => ?_) (fun _h => ?_)) <;> try simp (maxSteps := 4000000) only [go_sem, seval, hke, hw1, hw2, hap, hl1, hl2, hnn, hie, gw1, gw2, gap, gl1, gl2, gnn, wl1, wl2])
    | (intro _h)
    | (refine awp_block ?_)
    | (refine awp_scope ?_)
    | (refine cond_b (fun _h => ?_) (fun _h => ?_))
    | (show heapOK _ _ = true; kernel_rfl)
    | (show heapOK2 _ _ = true; kernel_rfl)
    | (omega)))
    refine awp_loopN t.homes.length (fun j => ⟨mkT 174 [(7, .int .i64 t.homes.length), (8, .int .i64 k), (12, .psl false t.homes.length (ints wt)), (14, .psl false t.homes.length (ints wx)), (24, .int .i64 j)], [some (.cells 27 1 0 [.psl false t.homes.length (recs homeC t.homes), .psl false t.halls.length (recs hallC t.halls), .int .i64 t.seats, .int .i64 t.clo, .int .i64 t.chi]), some (.cells 40 1 0 [.psl false t.homes.length (recs homeC (rot t.homes k)), .psl false t.halls.length (recs hallC (rot t.halls i)), .int .i64 t.seats, .int .i64 t.clo, .int .i64 t.chi]), none, none], []⟩) (.le2 ?_) ?_
    · simp (maxSteps := 4000000) only [go_sem, seval]
      all_goals first | rfl | exact ⟨rfl, rfl⟩
    · intro j hj
      rcases Nat.lt_or_eq_of_le hj with hj1 | hj1
      · have hw := hworst j hj1
        have hmo : ((j : Int) + (k : Int)).tmod (t.homes.length : Int) = (((j + k) % t.homes.length : Nat) : Int) := rfl
        have hml := Nat.mod_lt (j + k) (show 0 < t.homes.length by omega)
        generalize (j + k) % t.homes.length = q at *
        simp (maxSteps := 4000000) only [go_sem, seval]
        (repeat' (first
    | ((exfalso; omega))
    | ((omega))
    | (refine awp_seqK ?_)
    | (refine kt ?_)
    | (refine And.intro ?_ ?_)
    | ((first | refine awp_region ?_ | refine awp_draw (by kernel_rfl) (by kernel_rfl) ?_ | refine Imp.le2 ?_ | refine awp_label ?_ | refine awp_skip ?_ | refine awp_exit ?_ | refine awp_cd ?_ | refine awp_ret ?_ | refine go_split (fun _h => ?_) (fun _h => ?_)) <;> try simp (maxSteps := 4000000) only [go_sem, seval, hmo, hw, wl1, wl2])
    | (intro _h)
    | (refine awp_block ?_)
    | (refine awp_scope ?_)
    | (refine cond_b (fun _h => ?_) (fun _h => ?_))
    | (show heapOK _ _ = true; kernel_rfl)
    | (show heapOK2 _ _ = true; kernel_rfl)
    | (omega)))
      · subst hj1
        simp (maxSteps := 4000000) only [go_sem, seval]
        (repeat' (first
    | ((exfalso; omega))
    | ((omega))
    | (refine awp_seqK ?_)
    | (refine kt ?_)
    | (refine And.intro ?_ ?_)
    | ((first | refine awp_region ?_ | refine awp_draw (by kernel_rfl) (by kernel_rfl) ?_ | refine Imp.le2 ?_ | refine awp_label ?_ | refine awp_skip ?_ | refine awp_exit ?_ | refine awp_cd ?_ | refine awp_ret ?_ | refine callK_of (hA) ?_ | refine go_split (fun _h => ?_) (fun _h => ?_)) <;> try simp (maxSteps := 4000000) only [go_sem, seval])
    | (intro _h)
    | (refine awp_block ?_)
    | (refine awp_scope ?_)
    | (refine cond_b (fun _h => ?_) (fun _h => ?_))
    | (show heapOK _ _ = true; kernel_rfl)
    | (show heapOK2 _ _ = true; kernel_rfl)
    | (omega))))
end Go.Am
