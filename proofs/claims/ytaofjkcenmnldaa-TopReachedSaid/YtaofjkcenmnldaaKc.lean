/- Parts RcA, RcB, RwT of the proof, one behind the other. No statement is proved here. -/
import Derived.Test.YtaofjkcenmnldaaKa
import Derived.Test.YtaofjkcenmnldaaKb
import Derived.Test.YtaofjkcenmnldaaK2
import Derived.KernelRfl
import Derived.Carry
import Derived.OpenShut
import Derived.SizedLaws
set_option linter.unusedVariables false -- all
set_option linter.unusedSimpArgs false
/- The law TopReached, as a contract: it returns true. -/
namespace Go.Am
open Go.RowKit Go.Proofs
attribute [local irreducible] AWP CallS Kt goK CallK stepK evOps SemF SemY Imp
set_option maxRecDepth 4000
set_option linter.unusedSimpArgs false
set_option linter.unusedVariables false
set_option maxHeartbeats 3200000
/-- What may be handed in. -/
structure InB (s : Slope) (v : Valley) (fac : Int) (words : List Int) : Prop where
  c : s.cols.length ≤ 9223372036854775807
  r : ∀ i, i < s.cols.length → (s.cols.getD i []).length ≤ 9223372036854775807
  p : v.parcels.length ≤ 9223372036854775807
  l : v.slides.length ≤ 9223372036854775807
  w : ∀ k, k < v.slides.length → (v.slides.getD k default).way.length ≤ 9223372036854775807
  f : 0 ≤ fac ∧ fac ≤ 65535
  words : wordsOK words
theorem nth_Sd0z {l : List Slid} {K : AV → Prop} : optK (nth (recs slidC l) 0) K = (0 < l.length ∧ K (.psl false (l.getD 0 default).way.length (ints (l.getD 0 default).way))) := by
  have := nth_Sd0 (l := l) (i := 0) (K := K)
  rwa [Nat.zero_mul] at this
theorem sp_reach {v : Valley} {a b : Int} (h : 0 < v.slides.length) : splice (recs slidC v.slides) 2 [.int .i64 a, .int .i64 b] = recs slidC (reach v a b).slides := by
  have := sp_recs (enc := slidC) (l := v.slides) (d := default) (sz := 4) (i := 0) (o := 2) (fun _ => rfl) h (ys := [.int .i64 a, .int .i64 b]) (by simp) (a' := ⟨(v.slides.getD 0 default).way, (v.slides.getD 0 default).rate, a, b⟩) rfl
  rw [show 0 * 4 + 2 = 2 by omega] at this
  exact this
theorem reach_main (s : Slope) (v : Valley) (fac : Int) (words : List Int) (ib : InB s v fac words) (h1 : thinB s = true) (h2 : rightB s = true) (h3 : s.cols.length ≤ 5) (h4 : (s.cols.getD 0 []).length ≤ 3) (hT : ThinV v) (h5 : CallS Try.prog 6 [.agg (valC v)] (.bool true)) (h6 : 0 < v.slides.length) (h7 : s.cols.length ≤ (v.slides.getD 0 default).way.length) (h8 : faultV v = 0) :
    CallS Try.prog 3 [.agg (slopeC s), .agg (valC v), .int .u16 fac, slW words] (.bool true) := by
  have k1 := Thin_c s ib.c ib.r
  have k2 := Right_c s h1
  have k3 := Fault_c v hT
  rw [h1] at k1
  rw [h2] at k2
  rw [h8] at k3
  have hse := settles_c
  have hS := rightB_ok h2
  have hV := faultV_ok h8
  have hw := ib.words
  have hf := ib.f
  have hcn := hS.cn
  have hls := hS.lst
  have hpn := hV.pn
  have hsn := hV.sn
  have hv15 := hT.w
  obtain ⟨lst, hlst⟩ : ∃ lst : Nat, s.least = lst := ⟨s.least.toNat, by omega⟩
  obtain ⟨fa, hfa⟩ : ∃ fa, fac.tmod 10001 = fa := ⟨_, rfl⟩
  have hfb := tmod_bd (a := fac) (b := 10001) hf.1 (by omega)
  rw [hfa] at hfb
  have hfb2 : 0 ≤ fa ∧ fa ≤ 10000 := by omega
  obtain ⟨m, hm⟩ : ∃ m, (s.cols.getD 0 []).length = m := ⟨_, rfl⟩
  rw [hm] at hS h4
  have k4 := Slope_c s m hS
  have k5 := Moves_c s m fa hS hfb2 lst hlst
  have k6 := sure_c s m hS words hw h3
  have hSu := sureS_of hS hw
  have k7 := moving_c (sureS s m words) m fa hSu.ok lst (by rw [hSu.lst]; exact hlst) hfb2
  have q1 := mov_low hS hSu hfb2 hlst
  have q2 := mov_high hS hSu hfb2 hlst
  have q3 : (movL (costV s fa leastV) m lst s.cols.length).length ≤ s.cols.length := by
    unfold movL
    have := List.length_filter_le (accF (costV s fa leastV) m lst s.cols.length s.cols.length) (List.range s.cols.length)
    simpa using this
  generalize hA : movL (costV s fa mostV) m lst s.cols.length = A at *
  generalize hB : movL (costV s fa leastV) m lst s.cols.length = B at *
  generalize cntV (sureS s m words) fa m lst (sureS s m words).cols.length = n at *
  have lA := natI_length (l := A)
  have lB := natI_length (l := B)
  generalize sureS s m words = T at *
  have r1 := reach_law (v := v) (a := (A.length : Int)) (b := (B.length : Int)) (n := (n : Int)) hV h6 hv15 (by omega) (by omega)
  have hX := reach_ok (v := v) (a := (A.length : Int)) (b := (B.length : Int)) hV h6 (by omega)
  have hXw := reach_way (v := v) (a := (A.length : Int)) (b := (B.length : Int)) h6 hv15
  have hXl := reach_len (v := v) (a := (A.length : Int)) (b := (B.length : Int)) h6
  have hsp := sp_reach (v := v) (a := (A.length : Int)) (b := (B.length : Int)) h6
  have hXT : ThinV (reach v (A.length : Int) (B.length : Int)) := ⟨hT.p, by rw [hXl]; exact hT.s, hXw⟩
  obtain ⟨r2, r3, r4⟩ := r1
  have k8 := EndsZ_o (reach v (A.length : Int) (B.length : Int)) (by omega)
  have k9 := Valley_c (reach v (A.length : Int) (B.length : Int)) hXT
  have k10 := Zones_c (reach v (A.length : Int) (B.length : Int)) hX hXw
  have k11 := Danger_c (reach v (A.length : Int) (B.length : Int)) (isp (loL (reach v (A.length : Int) (B.length : Int))) 0 (n : Int)) hX r2 r3 hXw
  have hXd : reach v (A.length : Int) (B.length : Int) = ⟨v.parcels, (reach v (A.length : Int) (B.length : Int)).slides, v.s0, v.s1, v.s2⟩ := rfl
  have hlo : (reach v (A.length : Int) (B.length : Int)).slides.map (fun s => s.lo) = loL (reach v (A.length : Int) (B.length : Int)) := rfl
  have hlol : (loL (reach v (A.length : Int) (B.length : Int))).length = v.slides.length := by rw [← hXl]; simp [loL]
  rw [hlo] at k8
  generalize hXs : reach v (A.length : Int) (B.length : Int) = X at *
  have hzm := fun a b h => zoneV_mono (v := X) (a := a) (b := b) h
  have dl := dangV_length hX (loL_ok hX) hXw
  have dt : (dangV X (isp (loL X) 0 (n : Int))).length = v.parcels.length := by
    have := dangV_length hX (tr := isp (loL X) 0 (n : Int)) (v := X) ⟨by omega, fun k hk => by
      have e1 := r3 k (by omega)
      have e2 := (hX.sl k (by omega)).rng
      omega⟩ hXw
    rw [this, hXd]
  have dh := dangV_length hX (hiL_ok hX) hXw
  have hXp : X.parcels = v.parcels := by rw [hXd]
  rw [hXp] at dl dh
  generalize dangV X (loL X) = D1 at *
  generalize dangV X (hiL X) = D3 at *
  generalize hLT : isp (loL X) 0 (n : Int) = LT at *
  generalize dangV X LT = D2 at *
  have z1 : (D1.map (zoneV X)).length = v.parcels.length := by rw [List.length_map]; exact dl
  have z2 : (D2.map (zoneV X)).length = v.parcels.length := by rw [List.length_map]; exact dt
  have z3 : (D3.map (zoneV X)).length = v.parcels.length := by rw [List.length_map]; exact dh
  have zg1 : ∀ p, p < v.parcels.length → (D1.map (zoneV X)).getD p 0 = zoneV X (D1.getD p 0) := fun p hp => by simp [List.getD_eq_getElem?_getD, show p < D1.length by omega]
  have zg2 : ∀ p, p < v.parcels.length → (D2.map (zoneV X)).getD p 0 = zoneV X (D2.getD p 0) := fun p hp => by simp [List.getD_eq_getElem?_getD, show p < D2.length by omega]
  have zg3 : ∀ p, p < v.parcels.length → (D3.map (zoneV X)).getD p 0 = zoneV X (D3.getD p 0) := fun p hp => by simp [List.getD_eq_getElem?_getD, show p < D3.length by omega]
  have rg1 : ∀ p, p < v.parcels.length → (rangV D1 D3).getD p default = (D1.getD p 0, D3.getD p 0) := fun p hp => tab_getD (by omega)
  have rg2 : ∀ p, p < v.parcels.length → (rangV (D1.map (zoneV X)) (D3.map (zoneV X))).getD p default = ((D1.map (zoneV X)).getD p 0, (D3.map (zoneV X)).getD p 0) := fun p hp => tab_getD (by omega)
  have rl1 : (rangV D1 D3).length = v.parcels.length := by unfold rangV; rw [tab_length]; exact dl
  have rl2 : (rangV (D1.map (zoneV X)) (D3.map (zoneV X))).length = v.parcels.length := by unfold rangV; rw [tab_length]; exact z1
  have zle : ∀ p, p < v.parcels.length → (D1.map (zoneV X)).getD p 0 ≤ (D2.map (zoneV X)).getD p 0 ∧ (D2.map (zoneV X)).getD p 0 ≤ (D3.map (zoneV X)).getD p 0 := fun p hp => by
    rw [zg1 p hp, zg2 p hp, zg3 p hp]
    exact ⟨hzm _ _ (r4 p hp).1, hzm _ _ (r4 p hp).2⟩
  clear zg1 zg2 zg3 hzm
  generalize D1.map (zoneV X) = Z1 at *
  generalize D2.map (zoneV X) = Z2 at *
  generalize D3.map (zoneV X) = Z3 at *
  generalize rangV D1 D3 = RD at *
  generalize rangV Z1 Z3 = RZ at *
  obtain ⟨np, hnp⟩ : ∃ np, v.parcels.length = np := ⟨_, rfl⟩
  obtain ⟨ns, hns⟩ : ∃ ns, v.slides.length = ns := ⟨_, rfl⟩
  obtain ⟨nc, hnc⟩ : ∃ nc, s.cols.length = nc := ⟨_, rfl⟩
  obtain ⟨wl, hwl⟩ : ∃ wl, (v.slides.getD 0 default).way.length = wl := ⟨_, rfl⟩
  obtain ⟨XS, hXS⟩ : ∃ XS, X.slides = XS := ⟨_, rfl⟩
  obtain ⟨LO, hLO⟩ : ∃ LO, loL X = LO := ⟨_, rfl⟩
  have hXv : valC X = [slP v.parcels, slS XS, .int .i64 v.s0, .int .i64 v.s1, .int .i64 v.s2] := by rw [hXd, ← hXS]; rfl
  rw [hXv] at k8 k9 k10 k11
  rw [hXl] at k8
  rw [hXS] at hsp hXl
  rw [hLO] at k8 hLT hlol
  simp only [hnp, hns, hnc, hwl] at k1 k2 k3 k4 k5 k6 k7 k8 k9 k10 k11 h5 h3 h6 h7 hcn hpn hsn hv15 hsp hXl hlol dl dt dh rl1 rl2 z1 z2 z3 q1 q2 q3 r4 zle rg1 rg2
  have hXSl : XS.length = ns := hXl
  have spt : splice (ints LO) 0 [.int .i64 (n : Int)] = ints LT := by rw [sp_ints, hLT]
  have lLT : LT.length = ns := by rw [← hLT, isp_length (by omega)]; exact hlol
  have g1 : ((nc : Int) > 5) = False := eq_false (by omega)
  have g2 : ((m : Int) > 3) = False := eq_false (by omega)
  have g3 : ((ns : Int) = 0) = False := eq_false (by omega)
  have g4 : ((wl : Int) < (nc : Int)) = False := eq_false (by omega)
  have g5 : ((A.length : Int) > (B.length : Int)) = False := eq_false (by omega)
  have g6 : ((B.length : Int) > (nc : Int)) = False := eq_false (by omega)
  have g7 : ((n : Int) < (A.length : Int)) = False := eq_false (by omega)
  have g8 : ((n : Int) > (B.length : Int)) = False := eq_false (by omega)
  simp only [slopeC, slC, valC, slP, slS, slW, slRg, sl, hnc, hnp, hns, hXSl, lA, lB, rl1, rl2, lLT, dt, z2] at k1 k2 k3 k4 k5 k6 k7 k8 k9 k10 k11 h5 ⊢
  (refine callS_of_awp (fun w args => Try.call3 ..) Try.func3 rfl (fun w0 m0 wz => ?_); simp only [Try.ntmps3, Try.results3, initT, junks, sl, List.toList_toArray, List.cons_append, List.nil_append, List.length_cons, List.length_nil, Nat.reduceAdd, Nat.reduceSub])
  (repeat' (first
 | (refine awp_frz (c := .region 13 _ _) 3 rfl (by simp (maxSteps := 4000000) only [go_sem, seval, hnc, hm, hns, hnp, hwl, hfa, nth_Sd0z, g1, g2, g3, g4, g5, g6, g7, g8, hsp, spt, hlol, decide_true, decide_false, Bool.not_true]) (fun _ => rfl) ?_; simp only [frz, fq_pure, fzB_c, fzB_m, fzB_d, fzB_l, fzO, fzH, fzHs, fzl, fz2, fz1, fz0, List.map_cons, List.map_nil, if_true, if_false, reduceIte, Nat.reduceEqDiff, Nat.reduceAdd, Nat.succ_ne_self, Nat.zero_ne_one, Nat.one_ne_zero, reduceCtorEq, and_self])
 | (refine awp_ownN (id := 13) 1 rfl ?_; simp (maxSteps := 4000000) only [go_sem, seval, List.take_succ_cons, List.take_zero, hnc, hm, hns, hnp, hwl, hfa, nth_Sd0z, g1, g2, g3, g4, g5, g6, g7, g8, hsp, spt, hlol, decide_true, decide_false, Bool.not_true])
 | (refine own_go (k8) [] rfl ?_ ?_ rfl ?_ <;> try simp (maxSteps := 4000000) only [go_sem, seval, Nat.lt_irrefl, hnc, hm, hns, hnp, hwl, hfa, nth_Sd0z, g1, g2, g3, g4, g5, g6, g7, g8, hsp, spt, hlol, decide_true, decide_false, Bool.not_true] <;> try decide)
 | (refine awp_frz (c := .region 16 _ _) 5 rfl (by simp (maxSteps := 4000000) only [go_sem, seval, hnc, hm, hns, hnp, hwl, hfa, nth_Sd0z, g1, g2, g3, g4, g5, g6, g7, g8, hsp, spt, hlol, decide_true, decide_false, Bool.not_true]) (fun _ => rfl) ?_; simp only [frz, fq_pure, fzB_c, fzB_m, fzB_d, fzB_l, fzO, fzH, fzHs, fzl, fz2, fz1, fz0, List.map_cons, List.map_nil, if_true, if_false, reduceIte, Nat.reduceEqDiff, Nat.reduceAdd, Nat.succ_ne_self, Nat.zero_ne_one, Nat.one_ne_zero, reduceCtorEq, and_self])
 | ((omega))
 | ((exfalso; omega))
 | refine awp_seqK ?_
 | refine kt ?_
 | refine And.intro ?_ ?_
 | ((first | refine awp_stp rfl ?_ | refine awp_draw (by kernel_rfl) (by kernel_rfl) ?_ | refine Imp.le2 ?_ | refine callK_of (k1) ?_ | refine callK_of (k2) ?_ | refine callK_of (h5) ?_ | refine callK_of (k3) ?_ | refine callK_of (k4) ?_ | refine callK_of (k5) ?_ | refine callK_of (k6) ?_ | refine callK_of (k7) ?_ | refine callK_of (k9) ?_ | refine callK_of (k10) ?_ | refine callK_of (k11) ?_ | refine go_split (fun _h => ?_) (fun _h => ?_)) <;> try simp (maxSteps := 4000000) only [go_sem, seval, hnc, hm, hns, hnp, hwl, hfa, nth_Sd0z, g1, g2, g3, g4, g5, g6, g7, g8, hsp, spt, hlol, decide_true, decide_false, Bool.not_true])
 | intro _h
 | refine awp_block ?_
 | refine awp_scope ?_
 | refine cond_b ?_ ?_
 | (show heapOK _ _ = true; kernel_rfl)
 | (show heapOK2 _ _ = true; kernel_rfl)
 | (omega)))
  refine awp_loopN np (fun i => ⟨mkT 240 [(16, .psl false np (recs rngC RD)), (17, .psl false np (recs rngC RZ)), (19, .psl false np (ints D2)), (20, .psl false np (ints Z2)), (22, .int .i64 i)], [], []⟩) (.le2 ?_) ?_
  · simp (maxSteps := 4000000) only [go_sem, seval]
    all_goals first | rfl | exact ⟨rfl, rfl⟩ | trace_state
  · intro i hi
    rcases Nat.lt_or_eq_of_le hi with hi1 | hi1
    · have e1 := rg1 i hi1
      have e2 := rg2 i hi1
      have e3 := r4 i hi1
      have e4 := zle i hi1
      obtain ⟨x1, hx1⟩ : ∃ x, D1.getD i 0 = x := ⟨_, rfl⟩
      obtain ⟨x2, hx2⟩ : ∃ x, D2.getD i 0 = x := ⟨_, rfl⟩
      obtain ⟨x3, hx3⟩ : ∃ x, D3.getD i 0 = x := ⟨_, rfl⟩
      obtain ⟨y1, hy1⟩ : ∃ x, Z1.getD i 0 = x := ⟨_, rfl⟩
      obtain ⟨y2, hy2⟩ : ∃ x, Z2.getD i 0 = x := ⟨_, rfl⟩
      obtain ⟨y3, hy3⟩ : ∃ x, Z3.getD i 0 = x := ⟨_, rfl⟩
      rw [hx1, hx3] at e1
      rw [hy1, hy3] at e2
      rw [hx1, hx2, hx3] at e3
      rw [hy1, hy2, hy3] at e4
      have f1 : (x2 < x1) = False := eq_false (by omega)
      have f2 : (x2 > x3) = False := eq_false (by omega)
      have f3 : (y2 < y1) = False := eq_false (by omega)
      have f4 : (y2 > y3) = False := eq_false (by omega)
      simp (maxSteps := 4000000) only [go_sem, seval]
      (repeat' (first
 | ((omega))
 | ((exfalso; omega))
 | refine awp_seqK ?_
 | refine kt ?_
 | refine And.intro ?_ ?_
 | ((first | refine awp_stp rfl ?_ | refine awp_draw (by kernel_rfl) (by kernel_rfl) ?_ | refine Imp.le2 ?_ | refine go_split (fun _h => ?_) (fun _h => ?_)) <;> try simp (maxSteps := 4000000) only [go_sem, seval, e1, e2, hx2, hy2, f1, f2, f3, f4, rl1, rl2, dt, z2, decide_false])
 | intro _h
 | refine awp_block ?_
 | refine awp_scope ?_
 | refine cond_b ?_ ?_
 | (show heapOK _ _ = true; kernel_rfl)
 | (show heapOK2 _ _ = true; kernel_rfl)
 | (omega)))
      all_goals first | rfl | exact ⟨rfl, rfl⟩ | trace_state
    · rw [hi1]
      simp (maxSteps := 4000000) only [go_sem, seval]
      (repeat' (first
 | ((omega))
 | ((exfalso; omega))
 | refine awp_seqK ?_
 | refine kt ?_
 | refine And.intro ?_ ?_
 | ((first | refine awp_stp rfl ?_ | refine awp_draw (by kernel_rfl) (by kernel_rfl) ?_ | refine Imp.le2 ?_ | refine callK_of (hse) ?_ | refine go_split (fun _h => ?_) (fun _h => ?_)) <;> try simp (maxSteps := 4000000) only [go_sem, seval])
 | intro _h
 | refine awp_block ?_
 | refine awp_scope ?_
 | refine cond_b ?_ ?_
 | (show heapOK _ _ = true; kernel_rfl)
 | (show heapOK2 _ _ = true; kernel_rfl)
 | (omega)))
      all_goals trace_state
end Go.Am

/- The law TopReached, as a contract: it returns true, whatever is handed in. -/
namespace Go.Am
open Go.RowKit Go.Proofs
attribute [local irreducible] AWP CallS Kt goK CallK stepK evOps SemF SemY Imp
set_option maxRecDepth 4000
set_option linter.unusedSimpArgs false
set_option linter.unusedVariables false
set_option maxHeartbeats 3200000
theorem topReached_c (s : Slope) (v : Valley) (fac : Int) (words : List Int) (ib : InB s v fac words) : CallS Try.prog 3 [.agg (slopeC s), .agg (valC v), .int .u16 fac, slW words] (.bool true) := by
  have k1 := Thin_c s ib.c ib.r
  have hse := settles_c
  have hc := ib.c
  have hl := ib.l
  cases c1 : thinB s
  · rw [c1] at k1
    simp only [slopeC, slC, valC, slP, slS, slW, sl] at k1 ⊢
    (refine callS_of_awp (fun w args => Try.call3 ..) Try.func3 rfl (fun w0 m0 wz => ?_); simp only [Try.ntmps3, Try.results3, initT, junks, sl, List.toList_toArray, List.cons_append, List.nil_append, List.length_cons, List.length_nil, Nat.reduceAdd, Nat.reduceSub])
    (repeat' (first
 | ((omega))
 | ((exfalso; omega))
 | refine awp_seqK ?_
 | refine kt ?_
 | refine And.intro ?_ ?_
 | ((first | refine awp_stp rfl ?_ | refine awp_draw (by kernel_rfl) (by kernel_rfl) ?_ | refine Imp.le2 ?_ | refine callK_of (k1) ?_ | refine callK_of (hse) ?_ | refine go_split (fun _h => ?_) (fun _h => ?_)) <;> try simp (maxSteps := 4000000) only [go_sem, seval, nth_Sd0z, decide_true, decide_false, Bool.not_true, Bool.not_false])
 | intro _h
 | refine awp_block ?_
 | refine awp_scope ?_
 | refine cond_b ?_ ?_
 | (show heapOK _ _ = true; kernel_rfl)
 | (show heapOK2 _ _ = true; kernel_rfl)
 | (omega)))
    all_goals trace_state
  have k2 := Right_c s c1
  rw [c1] at k1
  cases c2 : rightB s
  · rw [c2] at k2
    simp only [slopeC, slC, valC, slP, slS, slW, sl] at k1 k2 ⊢
    (refine callS_of_awp (fun w args => Try.call3 ..) Try.func3 rfl (fun w0 m0 wz => ?_); simp only [Try.ntmps3, Try.results3, initT, junks, sl, List.toList_toArray, List.cons_append, List.nil_append, List.length_cons, List.length_nil, Nat.reduceAdd, Nat.reduceSub])
    (repeat' (first
 | ((omega))
 | ((exfalso; omega))
 | refine awp_seqK ?_
 | refine kt ?_
 | refine And.intro ?_ ?_
 | ((first | refine awp_stp rfl ?_ | refine awp_draw (by kernel_rfl) (by kernel_rfl) ?_ | refine Imp.le2 ?_ | refine callK_of (k1) ?_ | refine callK_of (k2) ?_ | refine callK_of (hse) ?_ | refine go_split (fun _h => ?_) (fun _h => ?_)) <;> try simp (maxSteps := 4000000) only [go_sem, seval, nth_Sd0z, decide_true, decide_false, Bool.not_true, Bool.not_false])
 | intro _h
 | refine awp_block ?_
 | refine awp_scope ?_
 | refine cond_b ?_ ?_
 | (show heapOK _ _ = true; kernel_rfl)
 | (show heapOK2 _ _ = true; kernel_rfl)
 | (omega)))
    all_goals trace_state
  rw [c2] at k2
  have hS := rightB_ok c2
  have hcn := hS.cn
  by_cases c3 : s.cols.length ≤ 5
  rotate_left
  · have g1 : ((s.cols.length : Int) > 5) = True := eq_true (by omega)
    simp only [slopeC, slC, valC, slP, slS, slW, sl] at k1 k2 ⊢
    (refine callS_of_awp (fun w args => Try.call3 ..) Try.func3 rfl (fun w0 m0 wz => ?_); simp only [Try.ntmps3, Try.results3, initT, junks, sl, List.toList_toArray, List.cons_append, List.nil_append, List.length_cons, List.length_nil, Nat.reduceAdd, Nat.reduceSub])
    (repeat' (first
 | ((omega))
 | ((exfalso; omega))
 | refine awp_seqK ?_
 | refine kt ?_
 | refine And.intro ?_ ?_
 | ((first | refine awp_stp rfl ?_ | refine awp_draw (by kernel_rfl) (by kernel_rfl) ?_ | refine Imp.le2 ?_ | refine callK_of (k1) ?_ | refine callK_of (k2) ?_ | refine callK_of (hse) ?_ | refine go_split (fun _h => ?_) (fun _h => ?_)) <;> try simp (maxSteps := 4000000) only [go_sem, seval, nth_Sd0z, g1, decide_true, decide_false, Bool.not_true, Bool.not_false])
 | intro _h
 | refine awp_block ?_
 | refine awp_scope ?_
 | refine cond_b ?_ ?_
 | (show heapOK _ _ = true; kernel_rfl)
 | (show heapOK2 _ _ = true; kernel_rfl)
 | (omega)))
    all_goals trace_state
  have g1 : ((s.cols.length : Int) > 5) = False := eq_false (by omega)
  by_cases c4 : (s.cols.getD 0 []).length ≤ 3
  rotate_left
  · have g2 : (((s.cols.getD 0 []).length : Int) > 3) = True := eq_true (by omega)
    simp only [slopeC, slC, valC, slP, slS, slW, sl] at k1 k2 ⊢
    (refine callS_of_awp (fun w args => Try.call3 ..) Try.func3 rfl (fun w0 m0 wz => ?_); simp only [Try.ntmps3, Try.results3, initT, junks, sl, List.toList_toArray, List.cons_append, List.nil_append, List.length_cons, List.length_nil, Nat.reduceAdd, Nat.reduceSub])
    (repeat' (first
 | ((omega))
 | ((exfalso; omega))
 | refine awp_seqK ?_
 | refine kt ?_
 | refine And.intro ?_ ?_
 | ((first | refine awp_stp rfl ?_ | refine awp_draw (by kernel_rfl) (by kernel_rfl) ?_ | refine Imp.le2 ?_ | refine callK_of (k1) ?_ | refine callK_of (k2) ?_ | refine callK_of (hse) ?_ | refine go_split (fun _h => ?_) (fun _h => ?_)) <;> try simp (maxSteps := 4000000) only [go_sem, seval, nth_Sd0z, g1, g2, decide_true, decide_false, Bool.not_true, Bool.not_false])
 | intro _h
 | refine awp_block ?_
 | refine awp_scope ?_
 | refine cond_b ?_ ?_
 | (show heapOK _ _ = true; kernel_rfl)
 | (show heapOK2 _ _ = true; kernel_rfl)
 | (omega)))
    all_goals trace_state
  have g2 : (((s.cols.getD 0 []).length : Int) > 3) = False := eq_false (by omega)
  obtain ⟨b, hb, k3⟩ := Thin8_c v ib.p ib.l ib.w
  cases b with
  | false =>
    simp only [slopeC, slC, valC, slP, slS, slW, sl] at k1 k2 k3 ⊢
    (refine callS_of_awp (fun w args => Try.call3 ..) Try.func3 rfl (fun w0 m0 wz => ?_); simp only [Try.ntmps3, Try.results3, initT, junks, sl, List.toList_toArray, List.cons_append, List.nil_append, List.length_cons, List.length_nil, Nat.reduceAdd, Nat.reduceSub])
    (repeat' (first
 | ((omega))
 | ((exfalso; omega))
 | refine awp_seqK ?_
 | refine kt ?_
 | refine And.intro ?_ ?_
 | ((first | refine awp_stp rfl ?_ | refine awp_draw (by kernel_rfl) (by kernel_rfl) ?_ | refine Imp.le2 ?_ | refine callK_of (k1) ?_ | refine callK_of (k2) ?_ | refine callK_of (k3) ?_ | refine callK_of (hse) ?_ | refine go_split (fun _h => ?_) (fun _h => ?_)) <;> try simp (maxSteps := 4000000) only [go_sem, seval, nth_Sd0z, g1, g2, decide_true, decide_false, Bool.not_true, Bool.not_false])
 | intro _h
 | refine awp_block ?_
 | refine awp_scope ?_
 | refine cond_b ?_ ?_
 | (show heapOK _ _ = true; kernel_rfl)
 | (show heapOK2 _ _ = true; kernel_rfl)
 | (omega)))
    all_goals trace_state
  | true =>
  have hT := hb rfl
  by_cases c5 : 0 < v.slides.length
  rotate_left
  · have g3 : ((v.slides.length : Int) = 0) = True := eq_true (by omega)
    simp only [slopeC, slC, valC, slP, slS, slW, sl] at k1 k2 k3 ⊢
    (refine callS_of_awp (fun w args => Try.call3 ..) Try.func3 rfl (fun w0 m0 wz => ?_); simp only [Try.ntmps3, Try.results3, initT, junks, sl, List.toList_toArray, List.cons_append, List.nil_append, List.length_cons, List.length_nil, Nat.reduceAdd, Nat.reduceSub])
    (repeat' (first
 | ((omega))
 | ((exfalso; omega))
 | refine awp_seqK ?_
 | refine kt ?_
 | refine And.intro ?_ ?_
 | ((first | refine awp_stp rfl ?_ | refine awp_draw (by kernel_rfl) (by kernel_rfl) ?_ | refine Imp.le2 ?_ | refine callK_of (k1) ?_ | refine callK_of (k2) ?_ | refine callK_of (k3) ?_ | refine callK_of (hse) ?_ | refine go_split (fun _h => ?_) (fun _h => ?_)) <;> try simp (maxSteps := 4000000) only [go_sem, seval, nth_Sd0z, g1, g2, g3, decide_true, decide_false, Bool.not_true, Bool.not_false])
 | intro _h
 | refine awp_block ?_
 | refine awp_scope ?_
 | refine cond_b ?_ ?_
 | (show heapOK _ _ = true; kernel_rfl)
 | (show heapOK2 _ _ = true; kernel_rfl)
 | (omega)))
    all_goals trace_state
  have g3 : ((v.slides.length : Int) = 0) = False := eq_false (by omega)
  by_cases c6 : s.cols.length ≤ (v.slides.getD 0 default).way.length
  rotate_left
  · have g4 : (((v.slides.getD 0 default).way.length : Int) < (s.cols.length : Int)) = True := eq_true (by omega)
    simp only [slopeC, slC, valC, slP, slS, slW, sl] at k1 k2 k3 ⊢
    (refine callS_of_awp (fun w args => Try.call3 ..) Try.func3 rfl (fun w0 m0 wz => ?_); simp only [Try.ntmps3, Try.results3, initT, junks, sl, List.toList_toArray, List.cons_append, List.nil_append, List.length_cons, List.length_nil, Nat.reduceAdd, Nat.reduceSub])
    (repeat' (first
 | ((omega))
 | ((exfalso; omega))
 | refine awp_seqK ?_
 | refine kt ?_
 | refine And.intro ?_ ?_
 | ((first | refine awp_stp rfl ?_ | refine awp_draw (by kernel_rfl) (by kernel_rfl) ?_ | refine Imp.le2 ?_ | refine callK_of (k1) ?_ | refine callK_of (k2) ?_ | refine callK_of (k3) ?_ | refine callK_of (hse) ?_ | refine go_split (fun _h => ?_) (fun _h => ?_)) <;> try simp (maxSteps := 4000000) only [go_sem, seval, nth_Sd0z, g1, g2, g3, g4, decide_true, decide_false, Bool.not_true, Bool.not_false])
 | intro _h
 | refine awp_block ?_
 | refine awp_scope ?_
 | refine cond_b ?_ ?_
 | (show heapOK _ _ = true; kernel_rfl)
 | (show heapOK2 _ _ = true; kernel_rfl)
 | (omega)))
    all_goals trace_state
  have g4 : (((v.slides.getD 0 default).way.length : Int) < (s.cols.length : Int)) = False := eq_false (by omega)
  by_cases c7 : faultV v = 0
  rotate_left
  · have k4 := Fault_c v hT
    have g5 : (faultV v = 0) = False := eq_false c7
    simp only [slopeC, slC, valC, slP, slS, slW, sl] at k1 k2 k3 k4 ⊢
    (refine callS_of_awp (fun w args => Try.call3 ..) Try.func3 rfl (fun w0 m0 wz => ?_); simp only [Try.ntmps3, Try.results3, initT, junks, sl, List.toList_toArray, List.cons_append, List.nil_append, List.length_cons, List.length_nil, Nat.reduceAdd, Nat.reduceSub])
    (repeat' (first
 | ((omega))
 | ((exfalso; omega))
 | refine awp_seqK ?_
 | refine kt ?_
 | refine And.intro ?_ ?_
 | ((first | refine awp_stp rfl ?_ | refine awp_draw (by kernel_rfl) (by kernel_rfl) ?_ | refine Imp.le2 ?_ | refine callK_of (k1) ?_ | refine callK_of (k2) ?_ | refine callK_of (k3) ?_ | refine callK_of (k4) ?_ | refine callK_of (hse) ?_ | refine go_split (fun _h => ?_) (fun _h => ?_)) <;> try simp (maxSteps := 4000000) only [go_sem, seval, nth_Sd0z, g1, g2, g3, g4, g5, decide_true, decide_false, Bool.not_true, Bool.not_false])
 | intro _h
 | refine awp_block ?_
 | refine awp_scope ?_
 | refine cond_b ?_ ?_
 | (show heapOK _ _ = true; kernel_rfl)
 | (show heapOK2 _ _ = true; kernel_rfl)
 | (omega)))
    all_goals trace_state
  exact reach_main s v fac words ib c1 c2 c3 c4 hT k3 c5 c6 c7
end Go.Am

/- What the arguments of the law TopReached can be read as. -/
namespace Go.Am
open Go.RowKit Go.Proofs Go.ChangeShapes Go.WideShapes Go.Deep
section
variable {H : Type} {en : TypeId × Value → H} {P : Program} {w : World} {base : Nat} {sp : Nat → Bool} {held : Bool}
theorem arg_slice {rc : Reach} {b0 : Nat} {t e : TypeId} {v : Value} {d : DataW H} {p : List MemPlace} {α : Type} {x : α → AV} {ok : α → Prop} (hu : P.underlying t = some (.slice e)) (r : Reads P t 1 (fun a => [x a]) ok)
    (hv : Value.okWide P w rc b0 t v) (h : DataW.Trod en P w base sp held t v d p) : ∃ a, ok a ∧ PRep (fun c => c < w.heap.size) w (x a) v := by
  refine arg_one r ?_ h
  cases v
  case agg cs => exact absurd hv (by simp [Value.okWide, Cell.okWide, Cell.ok, hu])
  all_goals rfl
theorem arg_int {rc : Reach} {b0 : Nat} {t : TypeId} {k : IntKind} {v : Value} {d : DataW H} {p : List MemPlace} {α : Type} {x : α → AV} {ok : α → Prop} (hu : P.underlying t = some (.int k)) (r : Reads P t 1 (fun a => [x a]) ok)
    (hv : Value.okWide P w rc b0 t v) (h : DataW.Trod en P w base sp held t v d p) : ∃ a, ok a ∧ PRep (fun c => c < w.heap.size) w (x a) v := by
  refine arg_one r ?_ h
  cases v
  case agg cs => exact absurd hv (by simp [Value.okWide, Cell.okWide, Cell.ok, hu])
  all_goals rfl
variable {enc : TypeId × Value → H} {spare : Nat → Bool}
/-- A list of words, with how many there are. -/
theorem arg_words {rc : Reach} {b0 : Nat} {t e : TypeId} {v : Value} {d : DataW H} {p : List MemPlace} {ok : List Int → Prop} (hu : P.underlying t = some (.slice e)) (r : Reads P t 1 (fun l : List Int => [slW l]) ok)
    (hv : Value.okWide P w rc b0 t v) (h : DataW.Trod en P w base sp held t v d p) : ∃ l, ok l ∧ PRep (fun c => c < w.heap.size) w (slW l) v ∧ (l.length = 0 ∨ ∃ elems spare, d = .slice elems spare ∧ l.length = elems.length) := by
  obtain ⟨l, h1, h2⟩ := arg_slice hu r hv h
  refine ⟨l, h1, h2, ?_⟩
  have hvc : v.cells.toList = [v] := by
    cases v
    case agg cs => exact absurd hv (by simp [Value.okWide, Cell.okWide, Cell.ok, hu])
    all_goals rfl
  obtain ⟨fuel, hf⟩ := h
  rw [hvc] at hf
  rcases Go.Deep.open_slice hu hf with ⟨e1, _⟩ | ⟨a, len, cap, m, n, D, Pl, e1, hb, hl, hm, hmm, hx, hi⟩
  · have e2 : v = .slice none 0 0 := by simpa using e1
    subst e2
    generalize hs : slW l = x at h2
    unfold slW at hs
    cases h2 with
    | nils => cases hs
    | psle q1 q2 q3 =>
      simp only [AV.psl.injEq] at hs
      omega
  · have e2 : v = .slice (some a) len cap := by simpa using e1
    subst e2
    simp only [Prod.mk.injEq] at hx
    generalize hs : slW l = x at h2
    unfold slW at hs
    have hll : l.length = len := by
      cases h2 with
      | psle q1 q2 q3 => simp only [AV.psl.injEq] at hs; exact hs.2.1
      | psl vs q1 q2 q3 q4 q5 => simp only [AV.psl.injEq] at hs; exact hs.2.1
    exact .inr ⟨_, _, hx.1, by simp [hll]⟩
theorem reads_arr3 {t e : TypeId} {α : Type} {enc : α → List AV} {ok : α → Prop} (hu : P.underlying t = some (.array 3 e)) (hc : P.cellsOf t = 3) (r : Reads P e 1 enc ok) : Reads P t 3 (fun p : α × α × α => enc p.1 ++ (enc p.2.1 ++ enc p.2.2)) (fun p => ok p.1 ∧ ok p.2.1 ∧ ok p.2.2) := by
  refine ⟨hc, fun p => by simp [r.len], fun {H en w base sp held fuel cs x} h => ?_⟩
  obtain ⟨xs, n, _, _, hl, hxl, hf⟩ := DataW.trod_array hu h
  have g : ∀ i, i < 3 → ∃ a, ok a ∧ RL w (enc a) ((cs.drop i).take 1) := fun i hi => by
    have h1 := hf i hi
    rw [r.cells, Nat.mul_one, List.getElem?_eq_getElem (by omega)] at h1
    exact r.read h1
  obtain ⟨a0, p0, q0⟩ := g 0 (by omega)
  obtain ⟨a1, p1, q1⟩ := g 1 (by omega)
  obtain ⟨a2, p2, q2⟩ := g 2 (by omega)
  refine ⟨(a0, a1, a2), ⟨p0, p1, p2⟩, ?_⟩
  rw [hc] at hl
  match cs, hl with
  | [c0, c1, c2], _ => exact q0.append (q1.append q2)
variable {enc : TypeId × Value → H} {spare : Nat → Bool}
theorem trodAll_4 {t0 t1 t2 t3 : TypeId} {args : Array Value} {ds : List (DataW H)} {ps : List MemPlace} (h : DataW.TrodAll enc P w base spare held [t0, t1, t2, t3] args.toList ds ps) :
    ∃ v0 v1 v2 v3 d0 d1 d2 d3 p0 p1 p2 p3, args = #[v0, v1, v2, v3] ∧ ds = [d0, d1, d2, d3] ∧ ps = p0 ++ p1 ++ p2 ++ p3 ∧ DataW.Trod enc P w base spare held t0 v0 d0 p0 ∧ DataW.Trod enc P w base spare held t1 v1 d1 p1 ∧ DataW.Trod enc P w base spare held t2 v2 d2 p2 ∧ DataW.Trod enc P w base spare held t3 v3 d3 p3 := by
  obtain ⟨v0, _, d0, _, p0, _, hargs, rfl, rfl, h0, r0⟩ := trodAll_cons h
  obtain ⟨v1, _, d1, _, p1, _, rfl, rfl, rfl, h1, r1⟩ := trodAll_cons r0
  obtain ⟨v2, _, d2, _, p2, _, rfl, rfl, rfl, h2, r2⟩ := trodAll_cons r1
  obtain ⟨v3, _, d3, _, p3, _, rfl, rfl, rfl, h3, r3⟩ := trodAll_cons r2
  obtain ⟨rfl, rfl, rfl⟩ := trodAll_nil r3
  exact ⟨v0, v1, v2, v3, d0, d1, d2, d3, p0, p1, p2, p3, by cases args; simp_all, rfl, by simp, h0, h1, h2, h3⟩
end
theorem okI_u16 {n : Int} (h : okI .u16 n) : 0 ≤ n ∧ n ≤ 65535 := by
  unfold okI at h
  simpa [Lit.wf, IntKind.has, IntKind.min, IntKind.max, IntKind.signed, IntKind.bits] using h
theorem rd3 : Reads Try.prog 3 1 (fun n : Int => [.int .i64 n]) (okI .i64) := reads_int Try.underlying3 (by kernel_rfl)
theorem rd4 : Reads Try.prog 4 1 (fun b : Bool => [.bool b]) (fun _ => True) := reads_bool Try.underlying4 (by kernel_rfl)
theorem rd30 : Reads Try.prog 30 1 (fun n : Int => [.int .u16 n]) (okI .u16) := reads_int Try.underlying30 (by kernel_rfl)
theorem rd31 : Reads Try.prog 31 1 (fun l : List Int => [slW l]) (fun l => ∀ i, i < l.length → 0 ≤ l.getD i 0 ∧ l.getD i 0 ≤ 65535) :=
  (reads_slice Try.underlying31 (by kernel_rfl) (by omega) rd30).conv id _ _ (fun _ => rfl) (fun l => by simp only [slW, u16s, id]; congr 2; induction l with | nil => rfl | cons a l ih => simp_all) (fun l h i hi => by
    have hi : i < l.length := hi
    rw [show (id l).getD i 0 = l[i] by simp [List.getD_eq_getElem?_getD, hi]]
    exact okI_u16 (h.2 _ (List.getElem_mem hi)))
theorem rd64 : Reads Try.prog 64 2 (fun p : Int × Int => [.int .i64 p.1, .int .i64 p.2]) (fun _ => True) :=
  (reads_struct Try.underlying64 (by kernel_rfl) (readsF_cons rfl rd3 (readsF_cons rfl rd3 readsF_nil))).conv (fun p => (p.1, p.2.1)) _ _ (fun _ => rfl) (fun _ => rfl) (fun _ _ => trivial)
theorem rd37 : Reads Try.prog 37 2 (fun p : Int × Int => [.int .i64 p.1, .int .i64 p.2]) (fun _ => True) :=
  (reads_struct Try.underlying37 (by kernel_rfl) (readsF_cons rfl rd3 (readsF_cons rfl rd3 readsF_nil))).conv (fun p => (p.1, p.2.1)) _ _ (fun _ => rfl) (fun _ => rfl) (fun _ _ => trivial)
theorem rd66 : Reads Try.prog 66 8 bedC (fun _ => True) :=
  (reads_struct Try.underlying66 (by kernel_rfl) (readsF_cons rfl rd3 (readsF_cons rfl rd3 (readsF_cons rfl rd64 (readsF_cons rfl rd64 (readsF_cons rfl rd64 readsF_nil)))))).conv (fun p => ⟨p.1, p.2.1, p.2.2.1.1, p.2.2.1.2, p.2.2.2.1.1, p.2.2.2.1.2, p.2.2.2.2.1.1, p.2.2.2.2.1.2⟩) _ _ (fun _ => rfl) (fun _ => rfl) (fun _ _ => trivial)
theorem rd33 : Reads Try.prog 33 1 (fun l : List Bed => [slB l]) (fun l => l.length ≤ 9223372036854775807) :=
  (reads_slice Try.underlying33 (by kernel_rfl) (by omega) rd66).conv id _ _ (fun _ => rfl) (fun l => rfl) (fun _ h => h.1)
theorem rd22 : Reads Try.prog 22 1 (fun l : List (List Bed) => [slC l]) (fun l => l.length ≤ 9223372036854775807 ∧ ∀ i, i < l.length → (l.getD i []).length ≤ 9223372036854775807) :=
  (reads_slice Try.underlying22 (by kernel_rfl) (by omega) rd33).conv id _ _ (fun _ => rfl) (fun l => by simp only [slC, colC, id]; congr 2; induction l with | nil => rfl | cons a l ih => simp_all) (fun l h => ⟨h.1, fun i hi => by
    have hi : i < l.length := hi
    rw [show (id l).getD i [] = l[i] by simp [List.getD_eq_getElem?_getD, hi]]
    exact h.2 _ (List.getElem_mem hi)⟩)
theorem rd24 : Reads Try.prog 24 2 slopeC (fun s => s.cols.length ≤ 9223372036854775807 ∧ ∀ i, i < s.cols.length → (s.cols.getD i []).length ≤ 9223372036854775807) :=
  (reads_struct Try.underlying24 (by kernel_rfl) (readsF_cons rfl rd22 (readsF_cons rfl rd3 readsF_nil))).conv (fun p => ⟨p.1, p.2.1⟩) _ _ (fun _ => rfl) (fun _ => rfl) (fun _ h => h.1)
theorem rd35 : Reads Try.prog 35 1 (fun l : List Int => [sl l]) (fun l => l.length ≤ 9223372036854775807) :=
  (reads_slice Try.underlying35 (by kernel_rfl) (by omega) rd3).conv id _ _ (fun _ => rfl) (fun l => by simp only [sl, ints, id]; congr 2; induction l with | nil => rfl | cons a l ih => simp_all) (fun _ h => h.1)
theorem rd39 : Reads Try.prog 39 4 slidC (fun q => q.way.length ≤ 9223372036854775807) :=
  (reads_struct Try.underlying39 (by kernel_rfl) (readsF_cons rfl rd35 (readsF_cons rfl rd3 (readsF_cons rfl rd37 readsF_nil)))).conv (fun p => ⟨p.1, p.2.1, p.2.2.1.1, p.2.2.1.2⟩) _ _ (fun _ => rfl) (fun _ => rfl) (fun _ h => h.1)
theorem rd26 : Reads Try.prog 26 1 (fun l : List Slid => [slS l]) (fun l => l.length ≤ 9223372036854775807 ∧ ∀ i, i < l.length → (l.getD i default).way.length ≤ 9223372036854775807) :=
  (reads_slice Try.underlying26 (by kernel_rfl) (by omega) rd39).conv id _ _ (fun _ => rfl) (fun l => rfl) (fun l h => ⟨h.1, fun i hi => by
    have hi : i < l.length := hi
    rw [show (id l).getD i default = l[i] by simp [List.getD_eq_getElem?_getD, hi]]
    exact h.2 _ (List.getElem_mem hi)⟩)
theorem rd69 : Reads Try.prog 69 4 parcC (fun _ => True) :=
  (reads_struct Try.underlying69 (by kernel_rfl) (readsF_cons rfl rd3 (readsF_cons rfl rd3 (readsF_cons rfl rd3 (readsF_cons rfl rd4 readsF_nil))))).conv (fun p => ⟨p.1, p.2.1, p.2.2.1, p.2.2.2.1⟩) _ _ (fun _ => rfl) (fun _ => rfl) (fun _ _ => trivial)
theorem rd25 : Reads Try.prog 25 1 (fun l : List Parc => [slP l]) (fun l => l.length ≤ 9223372036854775807) :=
  (reads_slice Try.underlying25 (by kernel_rfl) (by omega) rd69).conv id _ _ (fun _ => rfl) (fun l => rfl) (fun _ h => h.1)
theorem rd27 : Reads Try.prog 27 3 (fun p : Int × Int × Int => [.int .i64 p.1, .int .i64 p.2.1, .int .i64 p.2.2]) (fun _ => True) :=
  (reads_arr3 Try.underlying27 (by kernel_rfl) rd3).conv id _ _ (fun _ => rfl) (fun _ => rfl) (fun _ _ => trivial)
theorem rd29 : Reads Try.prog 29 5 valC (fun v => v.parcels.length ≤ 9223372036854775807 ∧ v.slides.length ≤ 9223372036854775807 ∧ ∀ k, k < v.slides.length → (v.slides.getD k default).way.length ≤ 9223372036854775807) :=
  (reads_struct Try.underlying29 (by kernel_rfl) (readsF_cons rfl rd25 (readsF_cons rfl rd26 (readsF_cons rfl rd27 readsF_nil)))).conv (fun p => ⟨p.1, p.2.1, p.2.2.1.1, p.2.2.1.2.1, p.2.2.1.2.2⟩) _ _ (fun _ => rfl) (fun _ => rfl) (fun _ h => ⟨h.1, h.2.1.1, h.2.1.2⟩)
theorem bytes30 : Try.prog.bytesOf 30 = 2 := by kernel_rfl
end Go.Am
