/- Parts RpC, RaQ of the proof, one behind the other. No statement is proved here. -/
import Derived.Test.YtaofjkcenmnldaaK7
import Derived.Test.YtaofjkcenmnldaaK8
import Derived.Test.YtaofjkcenmnldaaK9
set_option linter.unusedVariables false -- all
set_option linter.unusedSimpArgs false
/- Contracts: a slope with one truth of all its beds, by the number of its columns. -/
namespace Go.Am
open Go.RowKit Go.Proofs
attribute [local irreducible] AWP CallS Kt goK CallK stepK evOps SemF SemY Imp
set_option maxRecDepth 4000
set_option linter.unusedSimpArgs false
set_option linter.unusedVariables false
set_option maxHeartbeats 3200000
theorem sure_5 (s : Slope) (m : Nat) (h : SlopeOK s m) (words : List Int) (hw : wordsOK words) (hn : s.cols.length = 5) : CallS Try.prog 12 [.agg (slopeC s), slW words] (.agg (slopeC (sureS s m words))) := by
  have hcm := h.cm
  have hwt := Wetter_o s m h (by omega)
  have hlen := h.len
  have hbed := fun i j (hi : i < s.cols.length) (hj : j < m) => h.bed (i := i) (j := j) hi hj
  have hpk := fun (wd : List Int) (hwd : wordsOK wd) (i k : Nat) (hi : i < s.cols.length) (hk : k < m) => (Picked_c s m h wd hwd i k hi hk).subD (xs := [.agg (slopeC s), .agg [.int .i64 i, .psl true 1 [.int .i64 (k : Int)]], slW wd]) ⟨.inl ⟨by simp [avSub], by simp⟩, .inr ⟨_, _, rfl, rfl, by simp [subL, avSub, sl, ints]⟩, .inl ⟨by simp [avSub, slW], by simp [slW]⟩, trivial⟩
  have hwk := wdR_ok h hw
  have hst : ∀ i, wdR s m words (i + 1) = (rowR (s.cols.getD i []) (wdR s m words i) m).2 := fun _ => rfl
  have hnw : ∀ i, newR s m words i = (rowR (s.cols.getD i []) (wdR s m words i) m).1 := fun _ => rfl
  have hwd0 : wdR s m words 0 = words := rfl
  have hrok := fun i (hi : i < s.cols.length) k (hk : k ≤ m) => rowR_ok (hlen i hi) (hwk i (by omega)) (fun j hj => hbed i j hi hj) k hk
  have hres : sureS s m words = ⟨tab s.cols.length (newR s m words), s.least⟩ := rfl
  rw [hres]
  obtain ⟨rw0, hrw⟩ : ∃ rw0 : Nat → List Bed, (fun j => s.cols.getD j []) = rw0 := ⟨_, rfl⟩
  have hrj : ∀ j, s.cols.getD j [] = rw0 j := fun j => by rw [← hrw]
  have hBd : ∀ i, blkB s i = tab i fun j => some (.cells 66 8 0 (recs bedC (s.cols.getD j []))) := fun _ => rfl
  have hbA : ∀ i j, bedAt s i j = (rw0 i).getD j default := fun i j => by rw [← hrj]; rfl
  have hnl : ∀ j, j < 5 → (newR s m words j).length = m := fun j hj => by rw [hnw]; exact (hrok j (by omega) m (Nat.le_refl _)).1
  rw [hn] at hwt
  simp only [hrj, hbA] at hlen hbed hpk hBd hst hnw hrok
  generalize newR s m words = nw at *
  generalize wdR s m words = wds at *
  simp only [hn] at hlen hbed hpk hwk hrok ⊢
  have c1 : slB (nw 0) = .psl false m (recs bedC (nw 0)) := by unfold slB; rw [hnl 0 (by omega)]
  have c2 : slB (nw 1) = .psl false m (recs bedC (nw 1)) := by unfold slB; rw [hnl 1 (by omega)]
  have c3 : slB (nw 2) = .psl false m (recs bedC (nw 2)) := by unfold slB; rw [hnl 2 (by omega)]
  have c4 : slB (nw 3) = .psl false m (recs bedC (nw 3)) := by unfold slB; rw [hnl 3 (by omega)]
  have c5 : slB (nw 4) = .psl false m (recs bedC (nw 4)) := by unfold slB; rw [hnl 4 (by omega)]
  simp only [hBd, refB, tab5, List.cons_append, List.nil_append, Nat.reduceAdd, Nat.add_zero] at hwt
  simp only [slopeC, slC, slW, slRe, hn, tab5, colC, List.map_cons, List.map_nil, c1, c2, c3, c4, c5, List.length_cons, List.length_nil, Nat.reduceAdd] at hwt hpk ⊢
  have hcc : s.cols.map slB = colC s.cols := rfl
  simp only [hcc] at hwt hpk ⊢
  (refine callS_of_awp (fun w args => Try.call12 ..) Try.func12 rfl (fun w0 m0 wz => ?_); simp only [Try.ntmps12, Try.results12, initT, junks, sl, List.toList_toArray, List.cons_append, List.nil_append, List.length_cons, List.length_nil, Nat.reduceAdd, Nat.reduceSub])
  (repeat' (first
 | (refine awp_ownN (id := 1) 1 rfl ?_; simp (maxSteps := 4000000) only [go_sem, seval, List.take_succ_cons, List.take_zero, hn])
 | (refine own_go (hwt) [] rfl ?_ ?_ rfl ?_ <;> try simp (maxSteps := 4000000) only [go_sem, seval, Nat.lt_irrefl, hn] <;> try decide)
 | refine awp_seqK ?_
 | refine kt ?_
 | refine And.intro ?_ ?_
 | ((first | refine awp_stp rfl ?_ | refine awp_draw (by kernel_rfl) (by kernel_rfl) ?_ | refine Imp.le2 ?_ | refine go_split (fun _h => ?_) (fun _h => ?_)) <;> try simp (maxSteps := 4000000) only [go_sem, seval, hn])
 | intro _h
 | refine awp_block ?_
 | refine awp_scope ?_
 | refine cond_b ?_ ?_
 | (show heapOK _ _ = true; kernel_rfl)
 | (show heapOK2 _ _ = true; kernel_rfl)
 | (omega)))
  refine awp_loopN 5 (fun i => ⟨mkT 84 [(1, .psl false (wds i).length (u16s (wds i))), (2, .ptr 0 0 0), (4, .ptr 1 0 0), (5, .ptr 11 0 0), (6, .int .i64 i)], [some (.cells 24 1 0 [.psl false 5 (colC s.cols), .int .i64 s.least]), some (.cells 24 1 0 [.nils, .int .i64 0]), none, none, none, some (.cells 33 1 5 (tab 5 fun j => if j < i then .psl false m (recs bedC (nw j)) else .osl (6 + j) 0 0 m))] ++ tab 5 (fun j => if j < i then none else some (.cells 66 8 0 (recs bedC (rw0 j)))) ++ [some (.cells 24 1 0 [.osl 5 5 0 5, .int .i64 s.least])], []⟩) (.le2 ?_) ?_
  · simp only [hwd0, tab5, List.cons_append, List.nil_append, Nat.reduceAdd, Nat.add_zero, Nat.not_lt_zero, Nat.lt_irrefl, Nat.zero_lt_succ, Nat.zero_lt_one, if_true, if_false, reduceIte]; simp (maxSteps := 4000000) only [go_sem, seval]
    all_goals first | rfl | exact ⟨rfl, rfl⟩ | trace_state
  · intro i hi
    rcases Nat.lt_or_eq_of_le hi with hi1 | hi1
    · have hm := hlen i hi1
      have hbd := fun j hj => hbed i j hi1 hj
      have hri := hrj i
      have hpi := fun wd hwd k hk => hpk wd hwd i k hi1 hk
      have hri2 := hrok i hi1
      have hsi := hst i
      have hni := hnw i
      rcases (by omega : i = 0 ∨ i = 1 ∨ i = 2 ∨ i = 3 ∨ i = 4) with rfl | rfl | rfl | rfl | rfl
      · simp only [tab5, List.cons_append, List.nil_append, Nat.reduceAdd, Nat.add_zero, Nat.not_lt_zero, Nat.lt_irrefl, Nat.zero_lt_succ, Nat.zero_lt_one, if_true, if_false, reduceIte]; simp (maxSteps := 4000000) only [go_sem, seval]
        (repeat' (first
 | ((omega))
 | ((exfalso; omega))
 | refine awp_seqK ?_
 | refine kt ?_
 | refine And.intro ?_ ?_
 | ((first | refine awp_stp rfl ?_ | refine awp_draw (by kernel_rfl) (by kernel_rfl) ?_ | refine Imp.le2 ?_ | refine go_split (fun _h => ?_) (fun _h => ?_)) <;> try simp (maxSteps := 4000000) only [go_sem, seval, hn, hri, hm])
 | intro _h
 | refine awp_block ?_
 | refine awp_scope ?_
 | refine cond_b ?_ ?_
 | (show heapOK _ _ = true; kernel_rfl)
 | (show heapOK2 _ _ = true; kernel_rfl)
 | (omega)))
        refine awp_loopN m (fun k => ⟨mkT 84 [(1, .psl false (rowR (rw0 0) (wds 0) k).2.length (u16s (rowR (rw0 0) (wds 0) k).2)), (2, .ptr 0 0 0), (4, .ptr 1 0 0), (5, .ptr 11 0 0), (6, .int .i64 0), (7, .int .i64 k)], [some (.cells 24 1 0 [.psl false 5 (colC s.cols), .int .i64 s.least]), some (.cells 24 1 0 [.nils, .int .i64 0]), none, none, none, some (.cells 33 1 5 [.osl 6 0 0 m, .osl 7 0 0 m, .osl 8 0 0 m, .osl 9 0 0 m, .osl 10 0 0 m]), some (.cells 66 8 0 (recs bedC (rowR (rw0 0) (wds 0) k).1)), some (.cells 66 8 0 (recs bedC (rw0 1))), some (.cells 66 8 0 (recs bedC (rw0 2))), some (.cells 66 8 0 (recs bedC (rw0 3))), some (.cells 66 8 0 (recs bedC (rw0 4))), some (.cells 24 1 0 [.osl 5 5 0 5, .int .i64 s.least])], []⟩) (.le2 ?_) ?_
        · have e0 : rowR (rw0 0) (wds 0) 0 = (rw0 0, wds 0) := rfl
          simp only [e0]; simp (maxSteps := 4000000) only [go_sem, seval]
          all_goals first | rfl | exact ⟨rfl, rfl⟩ | trace_state
        · intro k hk
          rcases Nat.lt_or_eq_of_le hk with hk1 | hk1
          · have hb := hbd k hk1
            obtain ⟨g1, g2, g3, g4⟩ := hri2 k hk
            have hGk := g4 k (Nat.le_refl _)
            have hro : rowR (rw0 0) (wds 0) (k + 1) = (isp (rowR (rw0 0) (wds 0) k).1 k (sureB ((rw0 0).getD k default) (pickR ((rw0 0).getD k default) (rowR (rw0 0) (wds 0) k).2)), stepW (rowR (rw0 0) (wds 0) k).2) := rfl
            rw [hro]
            clear g3 g4
            generalize rowR (rw0 0) (wds 0) k = R at *
            obtain ⟨G, wd⟩ := R
            simp only at g1 g2 hGk ⊢
            have hpc := hpi wd g2 k hk1
            obtain ⟨b, hbe⟩ : ∃ b, (rw0 0).getD k default = b := ⟨_, rfl⟩
            rw [hbe] at hpc hGk ⊢
            obtain ⟨x, hx⟩ : ∃ x, pickR b wd = x := ⟨_, rfl⟩
            rw [hx] at hpc ⊢
            have r1 : recs realC [x] = realC x := by simp [recs]
            have hkG : k < G.length := by omega
            have hs1 := sp_bed1 (x := x) hkG hGk
            have hs2 := sp_bed2 (b := b) (x := x) hkG
            have hs3 := sp_bed3 (b := b) (x := x) hkG
            have hl1 : (isp G k (bed1 b x)).length = m := by rw [isp_length hkG]; exact g1
            have hl2 : (isp G k (bed2 b x)).length = m := by rw [isp_length hkG]; exact g1
            have hwl := g2.1
            simp only [List.length_cons, List.length_nil, r1, realC] at hpc
            have ci : ((0 : Nat) : Int) = (0 : Int) := rfl
            try simp only [ci] at hpc
            unfold stepW
            by_cases hw0 : wd.length = 0
            · rw [if_pos hw0]
              have eW : ((wd.length : Int) > 0) = False := eq_false (by omega)
              simp (maxSteps := 4000000) only [go_sem, seval]
              (repeat' (first
 | ((omega))
 | ((exfalso; omega))
 | refine awp_seqK ?_
 | refine kt ?_
 | refine And.intro ?_ ?_
 | ((first | refine awp_stp rfl ?_ | refine awp_draw (by kernel_rfl) (by kernel_rfl) ?_ | refine Imp.le2 ?_ | refine callK_of (hpc) ?_ | refine go_split (fun _h => ?_) (fun _h => ?_)) <;> try simp (maxSteps := 4000000) only [go_sem, seval, hn, hri, hm, eW, hs1, hs2, hs3, realC, decide_false])
 | intro _h
 | refine awp_block ?_
 | refine awp_scope ?_
 | refine cond_b ?_ ?_
 | (show heapOK _ _ = true; kernel_rfl)
 | (show heapOK2 _ _ = true; kernel_rfl)
 | (omega)))
              all_goals first | rfl | exact ⟨rfl, rfl⟩ | trace_state
            · rw [if_neg hw0]
              have eW : ((wd.length : Int) > 0) = True := eq_true (by omega)
              simp (maxSteps := 4000000) only [go_sem, seval]
              have hwn : window (u16s wd) 1 ((wd.length : Int) - 1).toNat = u16s (wd.drop 1) := by
                unfold window
                rw [u16s_drop, List.take_of_length_le (by rw [u16s_length, List.length_drop]; omega)]
              have hwm : ((wd.length : Int) - 1).toNat = wd.length - 1 := by omega
              have hll : (wd.drop 1 ++ [wd.getD 0 0]).length = wd.length := by simp; omega
              have hdl : (wd.drop 1).length = wd.length - 1 := by simp
              have hsn : u16s (wd.drop 1) ++ [.int .u16 (wd.getD 0 0)] = u16s (wd.drop 1 ++ [wd.getD 0 0]) := by simp [u16s]
              generalize wd.drop 1 ++ [wd.getD 0 0] = wd2 at *
              generalize hwd1 : wd.drop 1 = wd1 at *
              by_cases hw1 : wd.length = 1
              · have hd0 : wd1 = [] := List.length_eq_zero_iff.1 (by omega)
                have hu0 : u16s wd1 = [] := by rw [hd0]; rfl
                rw [hu0, List.nil_append] at hsn
                rw [hu0] at hwn
                have eL : wd.length - 1 = 0 := by omega
                rw [eL] at hwm
                rw [hw1] at hll
                (repeat' (first
 | (refine awp_frz (c := .region 13 _ _) 14 rfl (by simp (maxSteps := 4000000) only [go_sem, seval, hn, hri, hm, eW, hs1, hs2, hs3, hwn, hwm, hsn, hll, realC, decide_true]) (fun _ => rfl) ?_; simp only [frz, fq_pure, fzB_c, fzB_m, fzB_d, fzB_l, fzO, fzH, fzHs, fzl, fz2, fz1, fz0, List.map_cons, List.map_nil, if_true, if_false, reduceIte, Nat.reduceEqDiff, Nat.reduceAdd, Nat.succ_ne_self, Nat.zero_ne_one, Nat.one_ne_zero, reduceCtorEq, and_self])
 | ((omega))
 | ((exfalso; omega))
 | refine awp_seqK ?_
 | refine kt ?_
 | refine And.intro ?_ ?_
 | ((first | refine awp_stp rfl ?_ | refine awp_draw (by kernel_rfl) (by kernel_rfl) ?_ | refine Imp.le2 ?_ | refine callK_of (hpc) ?_ | refine go_split (fun _h => ?_) (fun _h => ?_)) <;> try simp (maxSteps := 4000000) only [go_sem, seval, hn, hri, hm, eW, hs1, hs2, hs3, hwn, hwm, hsn, hll, realC, decide_true])
 | intro _h
 | refine awp_block ?_
 | refine awp_scope ?_
 | refine cond_b ?_ ?_
 | (show heapOK _ _ = true; kernel_rfl)
 | (show heapOK2 _ _ = true; kernel_rfl)
 | (omega)))
                all_goals first | rfl | exact ⟨rfl, rfl⟩ | omega | trace_state
              · have eL : wd.length - 1 + 1 = wd.length := by omega
                rw [hwm] at hwn
                have hul : (u16s wd1).length = wd.length - 1 := by rw [u16s_length, hdl]
                (repeat' (first
 | (refine awp_frz (c := .region 13 _ _) 13 rfl (by simp (maxSteps := 4000000) only [go_sem, seval, hn, hri, hm, eW, hs1, hs2, hs3, hwn, hwm, hsn, hll, hdl, hul, eL, realC, decide_true]) (fun _ => rfl) ?_; simp only [frz, fq_pure, fzB_c, fzB_m, fzB_d, fzB_l, fzO, fzH, fzHs, fzl, fz2, fz1, fz0, List.map_cons, List.map_nil, if_true, if_false, reduceIte, Nat.reduceEqDiff, Nat.reduceAdd, Nat.succ_ne_self, Nat.zero_ne_one, Nat.one_ne_zero, reduceCtorEq, and_self])
 | ((omega))
 | ((exfalso; omega))
 | refine awp_seqK ?_
 | refine kt ?_
 | refine And.intro ?_ ?_
 | ((first | refine awp_stp rfl ?_ | refine awp_draw (by kernel_rfl) (by kernel_rfl) ?_ | refine Imp.le2 ?_ | refine callK_of (hpc) ?_ | refine go_split (fun _h => ?_) (fun _h => ?_)) <;> try simp (maxSteps := 4000000) only [go_sem, seval, hn, hri, hm, eW, hs1, hs2, hs3, hwn, hwm, hsn, hll, hdl, hul, eL, realC, decide_true])
 | intro _h
 | refine awp_block ?_
 | refine awp_scope ?_
 | refine cond_b ?_ ?_
 | (show heapOK _ _ = true; kernel_rfl)
 | (show heapOK2 _ _ = true; kernel_rfl)
 | (omega)))
                all_goals first | rfl | exact ⟨rfl, rfl⟩ | omega | trace_state
          · rw [hk1]
            obtain ⟨g1, g2, g3, g4⟩ := hri2 m (Nat.le_refl _)
            clear g3 g4
            simp only [hsi, Nat.zero_add, Nat.reduceAdd]
            rw [← hni] at g1
            rw [← hni]
            simp only [hsi, Nat.zero_add, Nat.reduceAdd] at *
            have hnlen : (nw 0).length = m := g1
            generalize (rowR (rw0 0) (wds 0) m).2 = wd at *
            simp (maxSteps := 4000000) only [go_sem, seval]
            (repeat' (first
 | (refine awp_frz (c := .region 4 _ _) 6 rfl (by simp (maxSteps := 4000000) only [go_sem, seval, hn, hri, hm]) (fun _ => rfl) ?_; simp only [frz, fq_pure, fzB_c, fzB_m, fzB_d, fzB_l, fzO, fzH, fzHs, fzl, fz2, fz1, fz0, List.map_cons, List.map_nil, if_true, if_false, reduceIte, Nat.reduceEqDiff, Nat.reduceAdd, Nat.succ_ne_self, Nat.zero_ne_one, Nat.one_ne_zero, reduceCtorEq, and_self])
 | ((omega))
 | ((exfalso; omega))
 | refine awp_seqK ?_
 | refine kt ?_
 | refine And.intro ?_ ?_
 | ((first | refine awp_stp rfl ?_ | refine awp_draw (by kernel_rfl) (by kernel_rfl) ?_ | refine Imp.le2 ?_ | refine go_split (fun _h => ?_) (fun _h => ?_)) <;> try simp (maxSteps := 4000000) only [go_sem, seval, hn, hri, hm])
 | intro _h
 | refine awp_block ?_
 | refine awp_scope ?_
 | refine cond_b ?_ ?_
 | (show heapOK _ _ = true; kernel_rfl)
 | (show heapOK2 _ _ = true; kernel_rfl)
 | (omega)))
            all_goals trace_state
      · simp only [tab5, List.cons_append, List.nil_append, Nat.reduceAdd, Nat.add_zero, Nat.not_lt_zero, Nat.lt_irrefl, Nat.zero_lt_succ, Nat.zero_lt_one, if_true, if_false, reduceIte]; simp (maxSteps := 4000000) only [go_sem, seval]
        (repeat' (first
 | ((omega))
 | ((exfalso; omega))
 | refine awp_seqK ?_
 | refine kt ?_
 | refine And.intro ?_ ?_
 | ((first | refine awp_stp rfl ?_ | refine awp_draw (by kernel_rfl) (by kernel_rfl) ?_ | refine Imp.le2 ?_ | refine go_split (fun _h => ?_) (fun _h => ?_)) <;> try simp (maxSteps := 4000000) only [go_sem, seval, hn, hri, hm])
 | intro _h
 | refine awp_block ?_
 | refine awp_scope ?_
 | refine cond_b ?_ ?_
 | (show heapOK _ _ = true; kernel_rfl)
 | (show heapOK2 _ _ = true; kernel_rfl)
 | (omega)))
        refine awp_loopN m (fun k => ⟨mkT 84 [(1, .psl false (rowR (rw0 1) (wds 1) k).2.length (u16s (rowR (rw0 1) (wds 1) k).2)), (2, .ptr 0 0 0), (4, .ptr 1 0 0), (5, .ptr 11 0 0), (6, .int .i64 1), (7, .int .i64 k)], [some (.cells 24 1 0 [.psl false 5 (colC s.cols), .int .i64 s.least]), some (.cells 24 1 0 [.nils, .int .i64 0]), none, none, none, some (.cells 33 1 5 [.psl false m (recs bedC (nw 0)), .osl 7 0 0 m, .osl 8 0 0 m, .osl 9 0 0 m, .osl 10 0 0 m]), none, some (.cells 66 8 0 (recs bedC (rowR (rw0 1) (wds 1) k).1)), some (.cells 66 8 0 (recs bedC (rw0 2))), some (.cells 66 8 0 (recs bedC (rw0 3))), some (.cells 66 8 0 (recs bedC (rw0 4))), some (.cells 24 1 0 [.osl 5 5 0 5, .int .i64 s.least])], []⟩) (.le2 ?_) ?_
        · have e0 : rowR (rw0 1) (wds 1) 0 = (rw0 1, wds 1) := rfl
          simp only [e0]; simp (maxSteps := 4000000) only [go_sem, seval]
          all_goals first | rfl | exact ⟨rfl, rfl⟩ | trace_state
        · intro k hk
          rcases Nat.lt_or_eq_of_le hk with hk1 | hk1
          · have hb := hbd k hk1
            obtain ⟨g1, g2, g3, g4⟩ := hri2 k hk
            have hGk := g4 k (Nat.le_refl _)
            have hro : rowR (rw0 1) (wds 1) (k + 1) = (isp (rowR (rw0 1) (wds 1) k).1 k (sureB ((rw0 1).getD k default) (pickR ((rw0 1).getD k default) (rowR (rw0 1) (wds 1) k).2)), stepW (rowR (rw0 1) (wds 1) k).2) := rfl
            rw [hro]
            clear g3 g4
            generalize rowR (rw0 1) (wds 1) k = R at *
            obtain ⟨G, wd⟩ := R
            simp only at g1 g2 hGk ⊢
            have hpc := hpi wd g2 k hk1
            obtain ⟨b, hbe⟩ : ∃ b, (rw0 1).getD k default = b := ⟨_, rfl⟩
            rw [hbe] at hpc hGk ⊢
            obtain ⟨x, hx⟩ : ∃ x, pickR b wd = x := ⟨_, rfl⟩
            rw [hx] at hpc ⊢
            have r1 : recs realC [x] = realC x := by simp [recs]
            have hkG : k < G.length := by omega
            have hs1 := sp_bed1 (x := x) hkG hGk
            have hs2 := sp_bed2 (b := b) (x := x) hkG
            have hs3 := sp_bed3 (b := b) (x := x) hkG
            have hl1 : (isp G k (bed1 b x)).length = m := by rw [isp_length hkG]; exact g1
            have hl2 : (isp G k (bed2 b x)).length = m := by rw [isp_length hkG]; exact g1
            have hwl := g2.1
            simp only [List.length_cons, List.length_nil, r1, realC] at hpc
            have ci : ((1 : Nat) : Int) = (1 : Int) := rfl
            try simp only [ci] at hpc
            unfold stepW
            by_cases hw0 : wd.length = 0
            · rw [if_pos hw0]
              have eW : ((wd.length : Int) > 0) = False := eq_false (by omega)
              simp (maxSteps := 4000000) only [go_sem, seval]
              (repeat' (first
 | ((omega))
 | ((exfalso; omega))
 | refine awp_seqK ?_
 | refine kt ?_
 | refine And.intro ?_ ?_
 | ((first | refine awp_stp rfl ?_ | refine awp_draw (by kernel_rfl) (by kernel_rfl) ?_ | refine Imp.le2 ?_ | refine callK_of (hpc) ?_ | refine go_split (fun _h => ?_) (fun _h => ?_)) <;> try simp (maxSteps := 4000000) only [go_sem, seval, hn, hri, hm, eW, hs1, hs2, hs3, realC, decide_false])
 | intro _h
 | refine awp_block ?_
 | refine awp_scope ?_
 | refine cond_b ?_ ?_
 | (show heapOK _ _ = true; kernel_rfl)
 | (show heapOK2 _ _ = true; kernel_rfl)
 | (omega)))
              all_goals first | rfl | exact ⟨rfl, rfl⟩ | trace_state
            · rw [if_neg hw0]
              have eW : ((wd.length : Int) > 0) = True := eq_true (by omega)
              simp (maxSteps := 4000000) only [go_sem, seval]
              have hwn : window (u16s wd) 1 ((wd.length : Int) - 1).toNat = u16s (wd.drop 1) := by
                unfold window
                rw [u16s_drop, List.take_of_length_le (by rw [u16s_length, List.length_drop]; omega)]
              have hwm : ((wd.length : Int) - 1).toNat = wd.length - 1 := by omega
              have hll : (wd.drop 1 ++ [wd.getD 0 0]).length = wd.length := by simp; omega
              have hdl : (wd.drop 1).length = wd.length - 1 := by simp
              have hsn : u16s (wd.drop 1) ++ [.int .u16 (wd.getD 0 0)] = u16s (wd.drop 1 ++ [wd.getD 0 0]) := by simp [u16s]
              generalize wd.drop 1 ++ [wd.getD 0 0] = wd2 at *
              generalize hwd1 : wd.drop 1 = wd1 at *
              by_cases hw1 : wd.length = 1
              · have hd0 : wd1 = [] := List.length_eq_zero_iff.1 (by omega)
                have hu0 : u16s wd1 = [] := by rw [hd0]; rfl
                rw [hu0, List.nil_append] at hsn
                rw [hu0] at hwn
                have eL : wd.length - 1 = 0 := by omega
                rw [eL] at hwm
                rw [hw1] at hll
                (repeat' (first
 | (refine awp_frz (c := .region 13 _ _) 14 rfl (by simp (maxSteps := 4000000) only [go_sem, seval, hn, hri, hm, eW, hs1, hs2, hs3, hwn, hwm, hsn, hll, realC, decide_true]) (fun _ => rfl) ?_; simp only [frz, fq_pure, fzB_c, fzB_m, fzB_d, fzB_l, fzO, fzH, fzHs, fzl, fz2, fz1, fz0, List.map_cons, List.map_nil, if_true, if_false, reduceIte, Nat.reduceEqDiff, Nat.reduceAdd, Nat.succ_ne_self, Nat.zero_ne_one, Nat.one_ne_zero, reduceCtorEq, and_self])
 | ((omega))
 | ((exfalso; omega))
 | refine awp_seqK ?_
 | refine kt ?_
 | refine And.intro ?_ ?_
 | ((first | refine awp_stp rfl ?_ | refine awp_draw (by kernel_rfl) (by kernel_rfl) ?_ | refine Imp.le2 ?_ | refine callK_of (hpc) ?_ | refine go_split (fun _h => ?_) (fun _h => ?_)) <;> try simp (maxSteps := 4000000) only [go_sem, seval, hn, hri, hm, eW, hs1, hs2, hs3, hwn, hwm, hsn, hll, realC, decide_true])
 | intro _h
 | refine awp_block ?_
 | refine awp_scope ?_
 | refine cond_b ?_ ?_
 | (show heapOK _ _ = true; kernel_rfl)
 | (show heapOK2 _ _ = true; kernel_rfl)
 | (omega)))
                all_goals first | rfl | exact ⟨rfl, rfl⟩ | omega | trace_state
              · have eL : wd.length - 1 + 1 = wd.length := by omega
                rw [hwm] at hwn
                have hul : (u16s wd1).length = wd.length - 1 := by rw [u16s_length, hdl]
                (repeat' (first
 | (refine awp_frz (c := .region 13 _ _) 13 rfl (by simp (maxSteps := 4000000) only [go_sem, seval, hn, hri, hm, eW, hs1, hs2, hs3, hwn, hwm, hsn, hll, hdl, hul, eL, realC, decide_true]) (fun _ => rfl) ?_; simp only [frz, fq_pure, fzB_c, fzB_m, fzB_d, fzB_l, fzO, fzH, fzHs, fzl, fz2, fz1, fz0, List.map_cons, List.map_nil, if_true, if_false, reduceIte, Nat.reduceEqDiff, Nat.reduceAdd, Nat.succ_ne_self, Nat.zero_ne_one, Nat.one_ne_zero, reduceCtorEq, and_self])
 | ((omega))
 | ((exfalso; omega))
 | refine awp_seqK ?_
 | refine kt ?_
 | refine And.intro ?_ ?_
 | ((first | refine awp_stp rfl ?_ | refine awp_draw (by kernel_rfl) (by kernel_rfl) ?_ | refine Imp.le2 ?_ | refine callK_of (hpc) ?_ | refine go_split (fun _h => ?_) (fun _h => ?_)) <;> try simp (maxSteps := 4000000) only [go_sem, seval, hn, hri, hm, eW, hs1, hs2, hs3, hwn, hwm, hsn, hll, hdl, hul, eL, realC, decide_true])
 | intro _h
 | refine awp_block ?_
 | refine awp_scope ?_
 | refine cond_b ?_ ?_
 | (show heapOK _ _ = true; kernel_rfl)
 | (show heapOK2 _ _ = true; kernel_rfl)
 | (omega)))
                all_goals first | rfl | exact ⟨rfl, rfl⟩ | omega | trace_state
          · rw [hk1]
            obtain ⟨g1, g2, g3, g4⟩ := hri2 m (Nat.le_refl _)
            clear g3 g4
            simp only [hsi, Nat.zero_add, Nat.reduceAdd]
            rw [← hni] at g1
            rw [← hni]
            simp only [hsi, Nat.zero_add, Nat.reduceAdd] at *
            have hnlen : (nw 1).length = m := g1
            generalize (rowR (rw0 1) (wds 1) m).2 = wd at *
            simp (maxSteps := 4000000) only [go_sem, seval]
            (repeat' (first
 | (refine awp_frz (c := .region 4 _ _) 7 rfl (by simp (maxSteps := 4000000) only [go_sem, seval, hn, hri, hm]) (fun _ => rfl) ?_; simp only [frz, fq_pure, fzB_c, fzB_m, fzB_d, fzB_l, fzO, fzH, fzHs, fzl, fz2, fz1, fz0, List.map_cons, List.map_nil, if_true, if_false, reduceIte, Nat.reduceEqDiff, Nat.reduceAdd, Nat.succ_ne_self, Nat.zero_ne_one, Nat.one_ne_zero, reduceCtorEq, and_self])
 | ((omega))
 | ((exfalso; omega))
 | refine awp_seqK ?_
 | refine kt ?_
 | refine And.intro ?_ ?_
 | ((first | refine awp_stp rfl ?_ | refine awp_draw (by kernel_rfl) (by kernel_rfl) ?_ | refine Imp.le2 ?_ | refine go_split (fun _h => ?_) (fun _h => ?_)) <;> try simp (maxSteps := 4000000) only [go_sem, seval, hn, hri, hm])
 | intro _h
 | refine awp_block ?_
 | refine awp_scope ?_
 | refine cond_b ?_ ?_
 | (show heapOK _ _ = true; kernel_rfl)
 | (show heapOK2 _ _ = true; kernel_rfl)
 | (omega)))
            all_goals trace_state
      · simp only [tab5, List.cons_append, List.nil_append, Nat.reduceAdd, Nat.add_zero, Nat.not_lt_zero, Nat.lt_irrefl, Nat.zero_lt_succ, Nat.zero_lt_one, if_true, if_false, reduceIte]; simp (maxSteps := 4000000) only [go_sem, seval]
        (repeat' (first
 | ((omega))
 | ((exfalso; omega))
 | refine awp_seqK ?_
 | refine kt ?_
 | refine And.intro ?_ ?_
 | ((first | refine awp_stp rfl ?_ | refine awp_draw (by kernel_rfl) (by kernel_rfl) ?_ | refine Imp.le2 ?_ | refine go_split (fun _h => ?_) (fun _h => ?_)) <;> try simp (maxSteps := 4000000) only [go_sem, seval, hn, hri, hm])
 | intro _h
 | refine awp_block ?_
 | refine awp_scope ?_
 | refine cond_b ?_ ?_
 | (show heapOK _ _ = true; kernel_rfl)
 | (show heapOK2 _ _ = true; kernel_rfl)
 | (omega)))
        refine awp_loopN m (fun k => ⟨mkT 84 [(1, .psl false (rowR (rw0 2) (wds 2) k).2.length (u16s (rowR (rw0 2) (wds 2) k).2)), (2, .ptr 0 0 0), (4, .ptr 1 0 0), (5, .ptr 11 0 0), (6, .int .i64 2), (7, .int .i64 k)], [some (.cells 24 1 0 [.psl false 5 (colC s.cols), .int .i64 s.least]), some (.cells 24 1 0 [.nils, .int .i64 0]), none, none, none, some (.cells 33 1 5 [.psl false m (recs bedC (nw 0)), .psl false m (recs bedC (nw 1)), .osl 8 0 0 m, .osl 9 0 0 m, .osl 10 0 0 m]), none, none, some (.cells 66 8 0 (recs bedC (rowR (rw0 2) (wds 2) k).1)), some (.cells 66 8 0 (recs bedC (rw0 3))), some (.cells 66 8 0 (recs bedC (rw0 4))), some (.cells 24 1 0 [.osl 5 5 0 5, .int .i64 s.least])], []⟩) (.le2 ?_) ?_
        · have e0 : rowR (rw0 2) (wds 2) 0 = (rw0 2, wds 2) := rfl
          simp only [e0]; simp (maxSteps := 4000000) only [go_sem, seval]
          all_goals first | rfl | exact ⟨rfl, rfl⟩ | trace_state
        · intro k hk
          rcases Nat.lt_or_eq_of_le hk with hk1 | hk1
          · have hb := hbd k hk1
            obtain ⟨g1, g2, g3, g4⟩ := hri2 k hk
            have hGk := g4 k (Nat.le_refl _)
            have hro : rowR (rw0 2) (wds 2) (k + 1) = (isp (rowR (rw0 2) (wds 2) k).1 k (sureB ((rw0 2).getD k default) (pickR ((rw0 2).getD k default) (rowR (rw0 2) (wds 2) k).2)), stepW (rowR (rw0 2) (wds 2) k).2) := rfl
            rw [hro]
            clear g3 g4
            generalize rowR (rw0 2) (wds 2) k = R at *
            obtain ⟨G, wd⟩ := R
            simp only at g1 g2 hGk ⊢
            have hpc := hpi wd g2 k hk1
            obtain ⟨b, hbe⟩ : ∃ b, (rw0 2).getD k default = b := ⟨_, rfl⟩
            rw [hbe] at hpc hGk ⊢
            obtain ⟨x, hx⟩ : ∃ x, pickR b wd = x := ⟨_, rfl⟩
            rw [hx] at hpc ⊢
            have r1 : recs realC [x] = realC x := by simp [recs]
            have hkG : k < G.length := by omega
            have hs1 := sp_bed1 (x := x) hkG hGk
            have hs2 := sp_bed2 (b := b) (x := x) hkG
            have hs3 := sp_bed3 (b := b) (x := x) hkG
            have hl1 : (isp G k (bed1 b x)).length = m := by rw [isp_length hkG]; exact g1
            have hl2 : (isp G k (bed2 b x)).length = m := by rw [isp_length hkG]; exact g1
            have hwl := g2.1
            simp only [List.length_cons, List.length_nil, r1, realC] at hpc
            have ci : ((2 : Nat) : Int) = (2 : Int) := rfl
            try simp only [ci] at hpc
            unfold stepW
            by_cases hw0 : wd.length = 0
            · rw [if_pos hw0]
              have eW : ((wd.length : Int) > 0) = False := eq_false (by omega)
              simp (maxSteps := 4000000) only [go_sem, seval]
              (repeat' (first
 | ((omega))
 | ((exfalso; omega))
 | refine awp_seqK ?_
 | refine kt ?_
 | refine And.intro ?_ ?_
 | ((first | refine awp_stp rfl ?_ | refine awp_draw (by kernel_rfl) (by kernel_rfl) ?_ | refine Imp.le2 ?_ | refine callK_of (hpc) ?_ | refine go_split (fun _h => ?_) (fun _h => ?_)) <;> try simp (maxSteps := 4000000) only [go_sem, seval, hn, hri, hm, eW, hs1, hs2, hs3, realC, decide_false])
 | intro _h
 | refine awp_block ?_
 | refine awp_scope ?_
 | refine cond_b ?_ ?_
 | (show heapOK _ _ = true; kernel_rfl)
 | (show heapOK2 _ _ = true; kernel_rfl)
 | (omega)))
              all_goals first | rfl | exact ⟨rfl, rfl⟩ | trace_state
            · rw [if_neg hw0]
              have eW : ((wd.length : Int) > 0) = True := eq_true (by omega)
              simp (maxSteps := 4000000) only [go_sem, seval]
              have hwn : window (u16s wd) 1 ((wd.length : Int) - 1).toNat = u16s (wd.drop 1) := by
                unfold window
                rw [u16s_drop, List.take_of_length_le (by rw [u16s_length, List.length_drop]; omega)]
              have hwm : ((wd.length : Int) - 1).toNat = wd.length - 1 := by omega
              have hll : (wd.drop 1 ++ [wd.getD 0 0]).length = wd.length := by simp; omega
              have hdl : (wd.drop 1).length = wd.length - 1 := by simp
              have hsn : u16s (wd.drop 1) ++ [.int .u16 (wd.getD 0 0)] = u16s (wd.drop 1 ++ [wd.getD 0 0]) := by simp [u16s]
              generalize wd.drop 1 ++ [wd.getD 0 0] = wd2 at *
              generalize hwd1 : wd.drop 1 = wd1 at *
              by_cases hw1 : wd.length = 1
              · have hd0 : wd1 = [] := List.length_eq_zero_iff.1 (by omega)
                have hu0 : u16s wd1 = [] := by rw [hd0]; rfl
                rw [hu0, List.nil_append] at hsn
                rw [hu0] at hwn
                have eL : wd.length - 1 = 0 := by omega
                rw [eL] at hwm
                rw [hw1] at hll
                (repeat' (first
 | (refine awp_frz (c := .region 13 _ _) 14 rfl (by simp (maxSteps := 4000000) only [go_sem, seval, hn, hri, hm, eW, hs1, hs2, hs3, hwn, hwm, hsn, hll, realC, decide_true]) (fun _ => rfl) ?_; simp only [frz, fq_pure, fzB_c, fzB_m, fzB_d, fzB_l, fzO, fzH, fzHs, fzl, fz2, fz1, fz0, List.map_cons, List.map_nil, if_true, if_false, reduceIte, Nat.reduceEqDiff, Nat.reduceAdd, Nat.succ_ne_self, Nat.zero_ne_one, Nat.one_ne_zero, reduceCtorEq, and_self])
 | ((omega))
 | ((exfalso; omega))
 | refine awp_seqK ?_
 | refine kt ?_
 | refine And.intro ?_ ?_
 | ((first | refine awp_stp rfl ?_ | refine awp_draw (by kernel_rfl) (by kernel_rfl) ?_ | refine Imp.le2 ?_ | refine callK_of (hpc) ?_ | refine go_split (fun _h => ?_) (fun _h => ?_)) <;> try simp (maxSteps := 4000000) only [go_sem, seval, hn, hri, hm, eW, hs1, hs2, hs3, hwn, hwm, hsn, hll, realC, decide_true])
 | intro _h
 | refine awp_block ?_
 | refine awp_scope ?_
 | refine cond_b ?_ ?_
 | (show heapOK _ _ = true; kernel_rfl)
 | (show heapOK2 _ _ = true; kernel_rfl)
 | (omega)))
                all_goals first | rfl | exact ⟨rfl, rfl⟩ | omega | trace_state
              · have eL : wd.length - 1 + 1 = wd.length := by omega
                rw [hwm] at hwn
                have hul : (u16s wd1).length = wd.length - 1 := by rw [u16s_length, hdl]
                (repeat' (first
 | (refine awp_frz (c := .region 13 _ _) 13 rfl (by simp (maxSteps := 4000000) only [go_sem, seval, hn, hri, hm, eW, hs1, hs2, hs3, hwn, hwm, hsn, hll, hdl, hul, eL, realC, decide_true]) (fun _ => rfl) ?_; simp only [frz, fq_pure, fzB_c, fzB_m, fzB_d, fzB_l, fzO, fzH, fzHs, fzl, fz2, fz1, fz0, List.map_cons, List.map_nil, if_true, if_false, reduceIte, Nat.reduceEqDiff, Nat.reduceAdd, Nat.succ_ne_self, Nat.zero_ne_one, Nat.one_ne_zero, reduceCtorEq, and_self])
 | ((omega))
 | ((exfalso; omega))
 | refine awp_seqK ?_
 | refine kt ?_
 | refine And.intro ?_ ?_
 | ((first | refine awp_stp rfl ?_ | refine awp_draw (by kernel_rfl) (by kernel_rfl) ?_ | refine Imp.le2 ?_ | refine callK_of (hpc) ?_ | refine go_split (fun _h => ?_) (fun _h => ?_)) <;> try simp (maxSteps := 4000000) only [go_sem, seval, hn, hri, hm, eW, hs1, hs2, hs3, hwn, hwm, hsn, hll, hdl, hul, eL, realC, decide_true])
 | intro _h
 | refine awp_block ?_
 | refine awp_scope ?_
 | refine cond_b ?_ ?_
 | (show heapOK _ _ = true; kernel_rfl)
 | (show heapOK2 _ _ = true; kernel_rfl)
 | (omega)))
                all_goals first | rfl | exact ⟨rfl, rfl⟩ | omega | trace_state
          · rw [hk1]
            obtain ⟨g1, g2, g3, g4⟩ := hri2 m (Nat.le_refl _)
            clear g3 g4
            simp only [hsi, Nat.zero_add, Nat.reduceAdd]
            rw [← hni] at g1
            rw [← hni]
            simp only [hsi, Nat.zero_add, Nat.reduceAdd] at *
            have hnlen : (nw 2).length = m := g1
            generalize (rowR (rw0 2) (wds 2) m).2 = wd at *
            simp (maxSteps := 4000000) only [go_sem, seval]
            (repeat' (first
 | (refine awp_frz (c := .region 4 _ _) 8 rfl (by simp (maxSteps := 4000000) only [go_sem, seval, hn, hri, hm]) (fun _ => rfl) ?_; simp only [frz, fq_pure, fzB_c, fzB_m, fzB_d, fzB_l, fzO, fzH, fzHs, fzl, fz2, fz1, fz0, List.map_cons, List.map_nil, if_true, if_false, reduceIte, Nat.reduceEqDiff, Nat.reduceAdd, Nat.succ_ne_self, Nat.zero_ne_one, Nat.one_ne_zero, reduceCtorEq, and_self])
 | ((omega))
 | ((exfalso; omega))
 | refine awp_seqK ?_
 | refine kt ?_
 | refine And.intro ?_ ?_
 | ((first | refine awp_stp rfl ?_ | refine awp_draw (by kernel_rfl) (by kernel_rfl) ?_ | refine Imp.le2 ?_ | refine go_split (fun _h => ?_) (fun _h => ?_)) <;> try simp (maxSteps := 4000000) only [go_sem, seval, hn, hri, hm])
 | intro _h
 | refine awp_block ?_
 | refine awp_scope ?_
 | refine cond_b ?_ ?_
 | (show heapOK _ _ = true; kernel_rfl)
 | (show heapOK2 _ _ = true; kernel_rfl)
 | (omega)))
            all_goals trace_state
      · simp only [tab5, List.cons_append, List.nil_append, Nat.reduceAdd, Nat.add_zero, Nat.not_lt_zero, Nat.lt_irrefl, Nat.zero_lt_succ, Nat.zero_lt_one, if_true, if_false, reduceIte]; simp (maxSteps := 4000000) only [go_sem, seval]
        (repeat' (first
 | ((omega))
 | ((exfalso; omega))
 | refine awp_seqK ?_
 | refine kt ?_
 | refine And.intro ?_ ?_
 | ((first | refine awp_stp rfl ?_ | refine awp_draw (by kernel_rfl) (by kernel_rfl) ?_ | refine Imp.le2 ?_ | refine go_split (fun _h => ?_) (fun _h => ?_)) <;> try simp (maxSteps := 4000000) only [go_sem, seval, hn, hri, hm])
 | intro _h
 | refine awp_block ?_
 | refine awp_scope ?_
 | refine cond_b ?_ ?_
 | (show heapOK _ _ = true; kernel_rfl)
 | (show heapOK2 _ _ = true; kernel_rfl)
 | (omega)))
        refine awp_loopN m (fun k => ⟨mkT 84 [(1, .psl false (rowR (rw0 3) (wds 3) k).2.length (u16s (rowR (rw0 3) (wds 3) k).2)), (2, .ptr 0 0 0), (4, .ptr 1 0 0), (5, .ptr 11 0 0), (6, .int .i64 3), (7, .int .i64 k)], [some (.cells 24 1 0 [.psl false 5 (colC s.cols), .int .i64 s.least]), some (.cells 24 1 0 [.nils, .int .i64 0]), none, none, none, some (.cells 33 1 5 [.psl false m (recs bedC (nw 0)), .psl false m (recs bedC (nw 1)), .psl false m (recs bedC (nw 2)), .osl 9 0 0 m, .osl 10 0 0 m]), none, none, none, some (.cells 66 8 0 (recs bedC (rowR (rw0 3) (wds 3) k).1)), some (.cells 66 8 0 (recs bedC (rw0 4))), some (.cells 24 1 0 [.osl 5 5 0 5, .int .i64 s.least])], []⟩) (.le2 ?_) ?_
        · have e0 : rowR (rw0 3) (wds 3) 0 = (rw0 3, wds 3) := rfl
          simp only [e0]; simp (maxSteps := 4000000) only [go_sem, seval]
          all_goals first | rfl | exact ⟨rfl, rfl⟩ | trace_state
        · intro k hk
          rcases Nat.lt_or_eq_of_le hk with hk1 | hk1
          · have hb := hbd k hk1
            obtain ⟨g1, g2, g3, g4⟩ := hri2 k hk
            have hGk := g4 k (Nat.le_refl _)
            have hro : rowR (rw0 3) (wds 3) (k + 1) = (isp (rowR (rw0 3) (wds 3) k).1 k (sureB ((rw0 3).getD k default) (pickR ((rw0 3).getD k default) (rowR (rw0 3) (wds 3) k).2)), stepW (rowR (rw0 3) (wds 3) k).2) := rfl
            rw [hro]
            clear g3 g4
            generalize rowR (rw0 3) (wds 3) k = R at *
            obtain ⟨G, wd⟩ := R
            simp only at g1 g2 hGk ⊢
            have hpc := hpi wd g2 k hk1
            obtain ⟨b, hbe⟩ : ∃ b, (rw0 3).getD k default = b := ⟨_, rfl⟩
            rw [hbe] at hpc hGk ⊢
            obtain ⟨x, hx⟩ : ∃ x, pickR b wd = x := ⟨_, rfl⟩
            rw [hx] at hpc ⊢
            have r1 : recs realC [x] = realC x := by simp [recs]
            have hkG : k < G.length := by omega
            have hs1 := sp_bed1 (x := x) hkG hGk
            have hs2 := sp_bed2 (b := b) (x := x) hkG
            have hs3 := sp_bed3 (b := b) (x := x) hkG
            have hl1 : (isp G k (bed1 b x)).length = m := by rw [isp_length hkG]; exact g1
            have hl2 : (isp G k (bed2 b x)).length = m := by rw [isp_length hkG]; exact g1
            have hwl := g2.1
            simp only [List.length_cons, List.length_nil, r1, realC] at hpc
            have ci : ((3 : Nat) : Int) = (3 : Int) := rfl
            try simp only [ci] at hpc
            unfold stepW
            by_cases hw0 : wd.length = 0
            · rw [if_pos hw0]
              have eW : ((wd.length : Int) > 0) = False := eq_false (by omega)
              simp (maxSteps := 4000000) only [go_sem, seval]
              (repeat' (first
 | ((omega))
 | ((exfalso; omega))
 | refine awp_seqK ?_
 | refine kt ?_
 | refine And.intro ?_ ?_
 | ((first | refine awp_stp rfl ?_ | refine awp_draw (by kernel_rfl) (by kernel_rfl) ?_ | refine Imp.le2 ?_ | refine callK_of (hpc) ?_ | refine go_split (fun _h => ?_) (fun _h => ?_)) <;> try simp (maxSteps := 4000000) only [go_sem, seval, hn, hri, hm, eW, hs1, hs2, hs3, realC, decide_false])
 | intro _h
 | refine awp_block ?_
 | refine awp_scope ?_
 | refine cond_b ?_ ?_
 | (show heapOK _ _ = true; kernel_rfl)
 | (show heapOK2 _ _ = true; kernel_rfl)
 | (omega)))
              all_goals first | rfl | exact ⟨rfl, rfl⟩ | trace_state
            · rw [if_neg hw0]
              have eW : ((wd.length : Int) > 0) = True := eq_true (by omega)
              simp (maxSteps := 4000000) only [go_sem, seval]
              have hwn : window (u16s wd) 1 ((wd.length : Int) - 1).toNat = u16s (wd.drop 1) := by
                unfold window
                rw [u16s_drop, List.take_of_length_le (by rw [u16s_length, List.length_drop]; omega)]
              have hwm : ((wd.length : Int) - 1).toNat = wd.length - 1 := by omega
              have hll : (wd.drop 1 ++ [wd.getD 0 0]).length = wd.length := by simp; omega
              have hdl : (wd.drop 1).length = wd.length - 1 := by simp
              have hsn : u16s (wd.drop 1) ++ [.int .u16 (wd.getD 0 0)] = u16s (wd.drop 1 ++ [wd.getD 0 0]) := by simp [u16s]
              generalize wd.drop 1 ++ [wd.getD 0 0] = wd2 at *
              generalize hwd1 : wd.drop 1 = wd1 at *
              by_cases hw1 : wd.length = 1
              · have hd0 : wd1 = [] := List.length_eq_zero_iff.1 (by omega)
                have hu0 : u16s wd1 = [] := by rw [hd0]; rfl
                rw [hu0, List.nil_append] at hsn
                rw [hu0] at hwn
                have eL : wd.length - 1 = 0 := by omega
                rw [eL] at hwm
                rw [hw1] at hll
                (repeat' (first
 | (refine awp_frz (c := .region 13 _ _) 14 rfl (by simp (maxSteps := 4000000) only [go_sem, seval, hn, hri, hm, eW, hs1, hs2, hs3, hwn, hwm, hsn, hll, realC, decide_true]) (fun _ => rfl) ?_; simp only [frz, fq_pure, fzB_c, fzB_m, fzB_d, fzB_l, fzO, fzH, fzHs, fzl, fz2, fz1, fz0, List.map_cons, List.map_nil, if_true, if_false, reduceIte, Nat.reduceEqDiff, Nat.reduceAdd, Nat.succ_ne_self, Nat.zero_ne_one, Nat.one_ne_zero, reduceCtorEq, and_self])
 | ((omega))
 | ((exfalso; omega))
 | refine awp_seqK ?_
 | refine kt ?_
 | refine And.intro ?_ ?_
 | ((first | refine awp_stp rfl ?_ | refine awp_draw (by kernel_rfl) (by kernel_rfl) ?_ | refine Imp.le2 ?_ | refine callK_of (hpc) ?_ | refine go_split (fun _h => ?_) (fun _h => ?_)) <;> try simp (maxSteps := 4000000) only [go_sem, seval, hn, hri, hm, eW, hs1, hs2, hs3, hwn, hwm, hsn, hll, realC, decide_true])
 | intro _h
 | refine awp_block ?_
 | refine awp_scope ?_
 | refine cond_b ?_ ?_
 | (show heapOK _ _ = true; kernel_rfl)
 | (show heapOK2 _ _ = true; kernel_rfl)
 | (omega)))
                all_goals first | rfl | exact ⟨rfl, rfl⟩ | omega | trace_state
              · have eL : wd.length - 1 + 1 = wd.length := by omega
                rw [hwm] at hwn
                have hul : (u16s wd1).length = wd.length - 1 := by rw [u16s_length, hdl]
                (repeat' (first
 | (refine awp_frz (c := .region 13 _ _) 13 rfl (by simp (maxSteps := 4000000) only [go_sem, seval, hn, hri, hm, eW, hs1, hs2, hs3, hwn, hwm, hsn, hll, hdl, hul, eL, realC, decide_true]) (fun _ => rfl) ?_; simp only [frz, fq_pure, fzB_c, fzB_m, fzB_d, fzB_l, fzO, fzH, fzHs, fzl, fz2, fz1, fz0, List.map_cons, List.map_nil, if_true, if_false, reduceIte, Nat.reduceEqDiff, Nat.reduceAdd, Nat.succ_ne_self, Nat.zero_ne_one, Nat.one_ne_zero, reduceCtorEq, and_self])
 | ((omega))
 | ((exfalso; omega))
 | refine awp_seqK ?_
 | refine kt ?_
 | refine And.intro ?_ ?_
 | ((first | refine awp_stp rfl ?_ | refine awp_draw (by kernel_rfl) (by kernel_rfl) ?_ | refine Imp.le2 ?_ | refine callK_of (hpc) ?_ | refine go_split (fun _h => ?_) (fun _h => ?_)) <;> try simp (maxSteps := 4000000) only [go_sem, seval, hn, hri, hm, eW, hs1, hs2, hs3, hwn, hwm, hsn, hll, hdl, hul, eL, realC, decide_true])
 | intro _h
 | refine awp_block ?_
 | refine awp_scope ?_
 | refine cond_b ?_ ?_
 | (show heapOK _ _ = true; kernel_rfl)
 | (show heapOK2 _ _ = true; kernel_rfl)
 | (omega)))
                all_goals first | rfl | exact ⟨rfl, rfl⟩ | omega | trace_state
          · rw [hk1]
            obtain ⟨g1, g2, g3, g4⟩ := hri2 m (Nat.le_refl _)
            clear g3 g4
            simp only [hsi, Nat.zero_add, Nat.reduceAdd]
            rw [← hni] at g1
            rw [← hni]
            simp only [hsi, Nat.zero_add, Nat.reduceAdd] at *
            have hnlen : (nw 3).length = m := g1
            generalize (rowR (rw0 3) (wds 3) m).2 = wd at *
            simp (maxSteps := 4000000) only [go_sem, seval]
            (repeat' (first
 | (refine awp_frz (c := .region 4 _ _) 9 rfl (by simp (maxSteps := 4000000) only [go_sem, seval, hn, hri, hm]) (fun _ => rfl) ?_; simp only [frz, fq_pure, fzB_c, fzB_m, fzB_d, fzB_l, fzO, fzH, fzHs, fzl, fz2, fz1, fz0, List.map_cons, List.map_nil, if_true, if_false, reduceIte, Nat.reduceEqDiff, Nat.reduceAdd, Nat.succ_ne_self, Nat.zero_ne_one, Nat.one_ne_zero, reduceCtorEq, and_self])
 | ((omega))
 | ((exfalso; omega))
 | refine awp_seqK ?_
 | refine kt ?_
 | refine And.intro ?_ ?_
 | ((first | refine awp_stp rfl ?_ | refine awp_draw (by kernel_rfl) (by kernel_rfl) ?_ | refine Imp.le2 ?_ | refine go_split (fun _h => ?_) (fun _h => ?_)) <;> try simp (maxSteps := 4000000) only [go_sem, seval, hn, hri, hm])
 | intro _h
 | refine awp_block ?_
 | refine awp_scope ?_
 | refine cond_b ?_ ?_
 | (show heapOK _ _ = true; kernel_rfl)
 | (show heapOK2 _ _ = true; kernel_rfl)
 | (omega)))
            all_goals trace_state
      · simp only [tab5, List.cons_append, List.nil_append, Nat.reduceAdd, Nat.add_zero, Nat.not_lt_zero, Nat.lt_irrefl, Nat.zero_lt_succ, Nat.zero_lt_one, if_true, if_false, reduceIte]; simp (maxSteps := 4000000) only [go_sem, seval]
        (repeat' (first
 | ((omega))
 | ((exfalso; omega))
 | refine awp_seqK ?_
 | refine kt ?_
 | refine And.intro ?_ ?_
 | ((first | refine awp_stp rfl ?_ | refine awp_draw (by kernel_rfl) (by kernel_rfl) ?_ | refine Imp.le2 ?_ | refine go_split (fun _h => ?_) (fun _h => ?_)) <;> try simp (maxSteps := 4000000) only [go_sem, seval, hn, hri, hm])
 | intro _h
 | refine awp_block ?_
 | refine awp_scope ?_
 | refine cond_b ?_ ?_
 | (show heapOK _ _ = true; kernel_rfl)
 | (show heapOK2 _ _ = true; kernel_rfl)
 | (omega)))
        refine awp_loopN m (fun k => ⟨mkT 84 [(1, .psl false (rowR (rw0 4) (wds 4) k).2.length (u16s (rowR (rw0 4) (wds 4) k).2)), (2, .ptr 0 0 0), (4, .ptr 1 0 0), (5, .ptr 11 0 0), (6, .int .i64 4), (7, .int .i64 k)], [some (.cells 24 1 0 [.psl false 5 (colC s.cols), .int .i64 s.least]), some (.cells 24 1 0 [.nils, .int .i64 0]), none, none, none, some (.cells 33 1 5 [.psl false m (recs bedC (nw 0)), .psl false m (recs bedC (nw 1)), .psl false m (recs bedC (nw 2)), .psl false m (recs bedC (nw 3)), .osl 10 0 0 m]), none, none, none, none, some (.cells 66 8 0 (recs bedC (rowR (rw0 4) (wds 4) k).1)), some (.cells 24 1 0 [.osl 5 5 0 5, .int .i64 s.least])], []⟩) (.le2 ?_) ?_
        · have e0 : rowR (rw0 4) (wds 4) 0 = (rw0 4, wds 4) := rfl
          simp only [e0]; simp (maxSteps := 4000000) only [go_sem, seval]
          all_goals first | rfl | exact ⟨rfl, rfl⟩ | trace_state
        · intro k hk
          rcases Nat.lt_or_eq_of_le hk with hk1 | hk1
          · have hb := hbd k hk1
            obtain ⟨g1, g2, g3, g4⟩ := hri2 k hk
            have hGk := g4 k (Nat.le_refl _)
            have hro : rowR (rw0 4) (wds 4) (k + 1) = (isp (rowR (rw0 4) (wds 4) k).1 k (sureB ((rw0 4).getD k default) (pickR ((rw0 4).getD k default) (rowR (rw0 4) (wds 4) k).2)), stepW (rowR (rw0 4) (wds 4) k).2) := rfl
            rw [hro]
            clear g3 g4
            generalize rowR (rw0 4) (wds 4) k = R at *
            obtain ⟨G, wd⟩ := R
            simp only at g1 g2 hGk ⊢
            have hpc := hpi wd g2 k hk1
            obtain ⟨b, hbe⟩ : ∃ b, (rw0 4).getD k default = b := ⟨_, rfl⟩
            rw [hbe] at hpc hGk ⊢
            obtain ⟨x, hx⟩ : ∃ x, pickR b wd = x := ⟨_, rfl⟩
            rw [hx] at hpc ⊢
            have r1 : recs realC [x] = realC x := by simp [recs]
            have hkG : k < G.length := by omega
            have hs1 := sp_bed1 (x := x) hkG hGk
            have hs2 := sp_bed2 (b := b) (x := x) hkG
            have hs3 := sp_bed3 (b := b) (x := x) hkG
            have hl1 : (isp G k (bed1 b x)).length = m := by rw [isp_length hkG]; exact g1
            have hl2 : (isp G k (bed2 b x)).length = m := by rw [isp_length hkG]; exact g1
            have hwl := g2.1
            simp only [List.length_cons, List.length_nil, r1, realC] at hpc
            have ci : ((4 : Nat) : Int) = (4 : Int) := rfl
            try simp only [ci] at hpc
            unfold stepW
            by_cases hw0 : wd.length = 0
            · rw [if_pos hw0]
              have eW : ((wd.length : Int) > 0) = False := eq_false (by omega)
              simp (maxSteps := 4000000) only [go_sem, seval]
              (repeat' (first
 | ((omega))
 | ((exfalso; omega))
 | refine awp_seqK ?_
 | refine kt ?_
 | refine And.intro ?_ ?_
 | ((first | refine awp_stp rfl ?_ | refine awp_draw (by kernel_rfl) (by kernel_rfl) ?_ | refine Imp.le2 ?_ | refine callK_of (hpc) ?_ | refine go_split (fun _h => ?_) (fun _h => ?_)) <;> try simp (maxSteps := 4000000) only [go_sem, seval, hn, hri, hm, eW, hs1, hs2, hs3, realC, decide_false])
 | intro _h
 | refine awp_block ?_
 | refine awp_scope ?_
 | refine cond_b ?_ ?_
 | (show heapOK _ _ = true; kernel_rfl)
 | (show heapOK2 _ _ = true; kernel_rfl)
 | (omega)))
              all_goals first | rfl | exact ⟨rfl, rfl⟩ | trace_state
            · rw [if_neg hw0]
              have eW : ((wd.length : Int) > 0) = True := eq_true (by omega)
              simp (maxSteps := 4000000) only [go_sem, seval]
              have hwn : window (u16s wd) 1 ((wd.length : Int) - 1).toNat = u16s (wd.drop 1) := by
                unfold window
                rw [u16s_drop, List.take_of_length_le (by rw [u16s_length, List.length_drop]; omega)]
              have hwm : ((wd.length : Int) - 1).toNat = wd.length - 1 := by omega
              have hll : (wd.drop 1 ++ [wd.getD 0 0]).length = wd.length := by simp; omega
              have hdl : (wd.drop 1).length = wd.length - 1 := by simp
              have hsn : u16s (wd.drop 1) ++ [.int .u16 (wd.getD 0 0)] = u16s (wd.drop 1 ++ [wd.getD 0 0]) := by simp [u16s]
              generalize wd.drop 1 ++ [wd.getD 0 0] = wd2 at *
              generalize hwd1 : wd.drop 1 = wd1 at *
              by_cases hw1 : wd.length = 1
              · have hd0 : wd1 = [] := List.length_eq_zero_iff.1 (by omega)
                have hu0 : u16s wd1 = [] := by rw [hd0]; rfl
                rw [hu0, List.nil_append] at hsn
                rw [hu0] at hwn
                have eL : wd.length - 1 = 0 := by omega
                rw [eL] at hwm
                rw [hw1] at hll
                (repeat' (first
 | (refine awp_frz (c := .region 13 _ _) 14 rfl (by simp (maxSteps := 4000000) only [go_sem, seval, hn, hri, hm, eW, hs1, hs2, hs3, hwn, hwm, hsn, hll, realC, decide_true]) (fun _ => rfl) ?_; simp only [frz, fq_pure, fzB_c, fzB_m, fzB_d, fzB_l, fzO, fzH, fzHs, fzl, fz2, fz1, fz0, List.map_cons, List.map_nil, if_true, if_false, reduceIte, Nat.reduceEqDiff, Nat.reduceAdd, Nat.succ_ne_self, Nat.zero_ne_one, Nat.one_ne_zero, reduceCtorEq, and_self])
 | ((omega))
 | ((exfalso; omega))
 | refine awp_seqK ?_
 | refine kt ?_
 | refine And.intro ?_ ?_
 | ((first | refine awp_stp rfl ?_ | refine awp_draw (by kernel_rfl) (by kernel_rfl) ?_ | refine Imp.le2 ?_ | refine callK_of (hpc) ?_ | refine go_split (fun _h => ?_) (fun _h => ?_)) <;> try simp (maxSteps := 4000000) only [go_sem, seval, hn, hri, hm, eW, hs1, hs2, hs3, hwn, hwm, hsn, hll, realC, decide_true])
 | intro _h
 | refine awp_block ?_
 | refine awp_scope ?_
 | refine cond_b ?_ ?_
 | (show heapOK _ _ = true; kernel_rfl)
 | (show heapOK2 _ _ = true; kernel_rfl)
 | (omega)))
                all_goals first | rfl | exact ⟨rfl, rfl⟩ | omega | trace_state
              · have eL : wd.length - 1 + 1 = wd.length := by omega
                rw [hwm] at hwn
                have hul : (u16s wd1).length = wd.length - 1 := by rw [u16s_length, hdl]
                (repeat' (first
 | (refine awp_frz (c := .region 13 _ _) 13 rfl (by simp (maxSteps := 4000000) only [go_sem, seval, hn, hri, hm, eW, hs1, hs2, hs3, hwn, hwm, hsn, hll, hdl, hul, eL, realC, decide_true]) (fun _ => rfl) ?_; simp only [frz, fq_pure, fzB_c, fzB_m, fzB_d, fzB_l, fzO, fzH, fzHs, fzl, fz2, fz1, fz0, List.map_cons, List.map_nil, if_true, if_false, reduceIte, Nat.reduceEqDiff, Nat.reduceAdd, Nat.succ_ne_self, Nat.zero_ne_one, Nat.one_ne_zero, reduceCtorEq, and_self])
 | ((omega))
 | ((exfalso; omega))
 | refine awp_seqK ?_
 | refine kt ?_
 | refine And.intro ?_ ?_
 | ((first | refine awp_stp rfl ?_ | refine awp_draw (by kernel_rfl) (by kernel_rfl) ?_ | refine Imp.le2 ?_ | refine callK_of (hpc) ?_ | refine go_split (fun _h => ?_) (fun _h => ?_)) <;> try simp (maxSteps := 4000000) only [go_sem, seval, hn, hri, hm, eW, hs1, hs2, hs3, hwn, hwm, hsn, hll, hdl, hul, eL, realC, decide_true])
 | intro _h
 | refine awp_block ?_
 | refine awp_scope ?_
 | refine cond_b ?_ ?_
 | (show heapOK _ _ = true; kernel_rfl)
 | (show heapOK2 _ _ = true; kernel_rfl)
 | (omega)))
                all_goals first | rfl | exact ⟨rfl, rfl⟩ | omega | trace_state
          · rw [hk1]
            obtain ⟨g1, g2, g3, g4⟩ := hri2 m (Nat.le_refl _)
            clear g3 g4
            simp only [hsi, Nat.zero_add, Nat.reduceAdd]
            rw [← hni] at g1
            rw [← hni]
            simp only [hsi, Nat.zero_add, Nat.reduceAdd] at *
            have hnlen : (nw 4).length = m := g1
            generalize (rowR (rw0 4) (wds 4) m).2 = wd at *
            simp (maxSteps := 4000000) only [go_sem, seval]
            (repeat' (first
 | (refine awp_frz (c := .region 4 _ _) 10 rfl (by simp (maxSteps := 4000000) only [go_sem, seval, hn, hri, hm]) (fun _ => rfl) ?_; simp only [frz, fq_pure, fzB_c, fzB_m, fzB_d, fzB_l, fzO, fzH, fzHs, fzl, fz2, fz1, fz0, List.map_cons, List.map_nil, if_true, if_false, reduceIte, Nat.reduceEqDiff, Nat.reduceAdd, Nat.succ_ne_self, Nat.zero_ne_one, Nat.one_ne_zero, reduceCtorEq, and_self])
 | ((omega))
 | ((exfalso; omega))
 | refine awp_seqK ?_
 | refine kt ?_
 | refine And.intro ?_ ?_
 | ((first | refine awp_stp rfl ?_ | refine awp_draw (by kernel_rfl) (by kernel_rfl) ?_ | refine Imp.le2 ?_ | refine go_split (fun _h => ?_) (fun _h => ?_)) <;> try simp (maxSteps := 4000000) only [go_sem, seval, hn, hri, hm])
 | intro _h
 | refine awp_block ?_
 | refine awp_scope ?_
 | refine cond_b ?_ ?_
 | (show heapOK _ _ = true; kernel_rfl)
 | (show heapOK2 _ _ = true; kernel_rfl)
 | (omega)))
            all_goals trace_state
    · subst hi1
      simp only [tab5, List.cons_append, List.nil_append, Nat.reduceAdd, Nat.add_zero, Nat.not_lt_zero, Nat.lt_irrefl, Nat.zero_lt_succ, Nat.zero_lt_one, if_true, if_false, reduceIte]; simp (maxSteps := 4000000) only [go_sem, seval]
      (repeat' (first
 | ((omega))
 | ((exfalso; omega))
 | refine awp_seqK ?_
 | refine kt ?_
 | refine And.intro ?_ ?_
 | ((first | refine awp_stp rfl ?_ | refine awp_draw (by kernel_rfl) (by kernel_rfl) ?_ | refine Imp.le2 ?_ | refine go_split (fun _h => ?_) (fun _h => ?_)) <;> try simp (maxSteps := 4000000) only [go_sem, seval, hn])
 | intro _h
 | refine awp_block ?_
 | refine awp_scope ?_
 | refine cond_b ?_ ?_
 | (show heapOK _ _ = true; kernel_rfl)
 | (show heapOK2 _ _ = true; kernel_rfl)
 | (omega)))
      all_goals trace_state
end Go.Am

/- Contracts: a slope with one truth of all its beds, whole. -/
namespace Go.Am
open Go.RowKit Go.Proofs
attribute [local irreducible] AWP CallS Kt goK CallK stepK evOps SemF SemY Imp
set_option maxRecDepth 4000
set_option linter.unusedSimpArgs false
set_option linter.unusedVariables false
set_option maxHeartbeats 3200000
theorem sure_c (s : Slope) (m : Nat) (h : SlopeOK s m) (words : List Int) (hw : wordsOK words) (h5 : s.cols.length ≤ 5) : CallS Try.prog 12 [.agg (slopeC s), slW words] (.agg (slopeC (sureS s m words))) := by
  have hcn := h.cn
  rcases (by omega : s.cols.length = 1 ∨ s.cols.length = 2 ∨ s.cols.length = 3 ∨ s.cols.length = 4 ∨ s.cols.length = 5) with hn | hn | hn | hn | hn
  · exact sure_1 s m h words hw hn
  · exact sure_2 s m h words hw hn
  · exact sure_3 s m h words hw hn
  · exact sure_4 s m h words hw hn
  · exact sure_5 s m h words hw hn
end Go.Am
