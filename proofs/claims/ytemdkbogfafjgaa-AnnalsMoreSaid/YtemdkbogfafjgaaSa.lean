/- Parts UjF, VwD of the proof, one behind the other. No statement is proved here. -/
import Derived.Test.YtemdkbogfafjgaaS9
import Derived.Test.YtemdkbogfafjgaaS8
import Derived.Test.YtemdkbogfafjgaaS6
import Derived.Test.YtemdkbogfafjgaaT4
/- The law AnnalsMore, as a contract: it returns true, if awake does. -/
namespace Go.Am
open Go.RowKit Go.Proofs
attribute [local irreducible] AWP CallS Kt goK CallK stepK evOps SemF SemY Imp
set_option maxRecDepth 4000
set_option linter.unusedSimpArgs false
set_option linter.unusedVariables false
set_option maxHeartbeats 3200000

theorem nth_G0 {l : List (Int × Int)} {i : Nat} {K : AV → Prop} : optK (nth (recs rngC l) (i * 2)) K = (i < l.length ∧ K (.int .i64 (l.getD i default).1)) := nth_recs (sz := 2) (o := 0) (fun _ => rfl) (by omega)
theorem nth_G1 {l : List (Int × Int)} {i : Nat} {K : AV → Prop} : optK (nth (recs rngC l) (i * 2 + 1)) K = (i < l.length ∧ K (.int .i64 (l.getD i default).2)) := nth_recs (sz := 2) (o := 1) (fun _ => rfl) (by omega)
attribute [go_sem] nth_G0 nth_G1
/-- What Days, Ways and Surely say of annals and of others that say more. -/
structure MoreP (t u : Ann) (i k : Nat) : Prop where
  fd : (fiV u).1 = true → (fiV t).1 = true
  fm : (fiV u).1 = true → (fiV (mirA u)).1 = true
  low : (fiV u).1 = true → ∀ j, j < t.reports.length → (fiV t).2.getD j 0 ≤ (fiV u).2.getD j 0
  high : (fiV u).1 = true → ∀ j, j < t.reports.length → (fiV (mirA t)).2.getD j 0 ≤ (fiV (mirA u)).2.getD j 0
  way : (fiV u).1 = true → (waV t).1.length ≠ 0 ∧ (waV u).1.length ≠ 0
  ways : (waV t).1.length ≤ 100 → (waV u).1.length ≤ (waV t).1.length ∧ ∀ s ∈ (waV u).1, s ∈ (waV t).1
  len : ∀ s ∈ (waV t).1, s.length = t.reports.length
  su : (fiV u).1 = true → ((suV u ⟨i, k⟩).1 = true ∨ (suV u ⟨i, k⟩).2 = true)
  one : (suV u ⟨i, k⟩).1 = true → (suV t ⟨i, k⟩).1 = true
  other : (suV u ⟨i, k⟩).2 = true → (suV t ⟨i, k⟩).2 = true
theorem more_p {t : Ann} {c : Clm} (ht : AnnOK t) (hu : AnnOK (addC t c)) {i k : Nat} (hi : i < t.reports.length) (hk : k < t.reports.length) : MoreP t (addC t c) i k := by
  have h := addC_wid (t := t) (c := c)
  have hfd := h.fd ht hu
  refine ⟨hfd, fiV_mir hu (mirA_ok hu), fun hv j hj => h.low ht hu hv hj, fun hv j hj => h.high ht hu hv hj, fun hv => ⟨(way_fd ht).1 (hfd hv), (way_fd hu).1 hv⟩, fun hl => ⟨h.ways ht hu hl, fun s hs => ?_⟩, fun s hs => ?_, fun hv => ?_, h.one ht hu hi hk, h.other ht hu hi hk⟩
  · obtain ⟨C, D, hc, he, hm⟩ := h.way ht hu s hs hl
    rw [he]; exact hm
  · obtain ⟨C, D, _, rfl⟩ := (waV_spec ht).2.mem s hs
    exact SL_len
  · have h1 := sure_fd hu (i := i) (k := k) hi hk
    rw [hv] at h1
    simpa [Bool.or_eq_true] using h1.symm
theorem sureX (x1 y1 x2 y2 : Bool) (h1 : x2 = true → x1 = true) (h2 : y2 = true → y1 = true) (h3 : x2 = true ∨ y2 = true) : ((if x1 = true then (if y1 = true then (3 : Int) else 1) else 2) = 3 ∨ (if x1 = true then (if y1 = true then (3 : Int) else 1) else 2) = (if x2 = true then (if y2 = true then (3 : Int) else 1) else 2)) := by
  revert x1 y1 x2 y2; decide
theorem take_any {l : List (List Int)} {s : List Int} {k : Nat} (h : k < l.length) : (l.take (k + 1)).any (fun x => decide (x = s)) = ((l.take k).any (fun x => decide (x = s)) || decide (l.getD k [] = s)) := by
  rw [List.take_succ_eq_append_getElem h, List.any_append]
  simp [List.getD_eq_getElem?_getD, h]
theorem addC_c (t : Ann) (c : Clm) : annC (addC t c) = [.psl false t.reports.length (recs rptC t.reports), .psl false (t.claims.length + 1) (recs clmC t.claims ++ clmC c), .int .i64 t.rest] := by
  simp [addC, annC, slR, slC, recs]
theorem pl_Cs {l : List Clm} {a b c : Int} : pureL (recs clmC l ++ [.int .u8 a, .int .i64 b, .int .i64 c]) = True := by
  have e : recs clmC l ++ [.int .u8 a, .int .i64 b, .int .i64 c] = recs clmC (l ++ [⟨a, b, c⟩]) := by rw [recs_snoc]; rfl
  rw [e]; exact pl_C
attribute [go_sem] pl_Cs
theorem moreLaw (hA : CallS Try.prog 17 [] (.bool true)) (t : Ann) (c : Clm) (hkd : ∀ c ∈ t.claims, 0 ≤ c.kind) (hcd : 0 ≤ c.kind) (x y : Int) (hx : 0 ≤ x ∧ x ≤ 255) (hy : 0 ≤ y ∧ y ≤ 255) : CallS Try.prog 7 [.agg (annC t), .agg (clmC c), .int .u8 x, .int .u8 y] (.bool true) := by
  have hre := ready_c t
  cases hR : readyB t with
  | false =>
    rw [hR] at hre
    simp only [annC, slR, slC] at hre ⊢
    (refine callS_of_awp (fun w args => Try.call7 ..) Try.func7 rfl (fun w0 m0 wz => ?_); simp only [Try.ntmps7, Try.results7, initT, junks, rptC, clmC, slR, slC, annC, sl, List.toList_toArray, List.cons_append, List.nil_append, List.length_cons, List.length_nil, Nat.reduceAdd, Nat.reduceSub])
    (repeat' (first
    | (refine awp_seqK ?_)
    | (refine kt ?_)
    | (refine And.intro ?_ ?_)
    | ((first | refine awp_region ?_ | refine awp_draw (by kernel_rfl) (by kernel_rfl) ?_ | refine Imp.le2 ?_ | refine awp_label ?_ | refine awp_skip ?_ | refine awp_exit ?_ | refine awp_cd ?_ | refine awp_ret ?_ | refine callK_of (hre) ?_ | refine callK_of (hA) ?_ | refine go_split (fun _h => ?_) (fun _h => ?_)) <;> try simp (maxSteps := 4000000) only [go_sem, seval])
    | (intro _h)
    | (refine awp_block ?_)
    | (refine awp_scope ?_)
    | (refine cond_b (fun _h => ?_) (fun _h => ?_))
    | (show heapOK _ _ = true; kernel_rfl)
    | (show heapOK2 _ _ = true; kernel_rfl)
    | (omega)))
    all_goals trace_state
  | true =>
    rw [hR] at hre
    have hb : annOK t := thinB_ok (by simp only [readyB, Bool.and_eq_true] at hR; exact hR.1)
    have h0 : faultA t = 0 := by simp only [readyB, Bool.and_eq_true, decide_eq_true_eq] at hR; exact hR.2
    have ht := faultA_ok hkd h0
    have hr := ht.reports
    have hcl := ht.claims
    have hbu : annOK (addC t c) := ⟨hb.1, by simp only [addC, List.length_append, List.length_cons, List.length_nil]; omega⟩
    have hfu := fault_c (addC t c) hbu
    simp only [annC, slR, slC] at hre ⊢
    rw [addC_c] at hfu
    simp only [clmC] at hfu ⊢
    (refine callS_of_awp (fun w args => Try.call7 ..) Try.func7 rfl (fun w0 m0 wz => ?_); simp only [Try.ntmps7, Try.results7, initT, junks, rptC, clmC, slR, slC, annC, sl, List.toList_toArray, List.cons_append, List.nil_append, List.length_cons, List.length_nil, Nat.reduceAdd, Nat.reduceSub])
    (repeat' (first
    | (refine awp_seqK ?_)
    | (refine kt ?_)
    | (refine And.intro ?_ ?_)
    | ((first | refine awp_region ?_ | refine Imp.le2 ?_ | refine awp_label ?_ | refine awp_skip ?_ | refine awp_exit ?_ | refine awp_cd ?_ | refine awp_ret ?_ | refine callK_of (hre) ?_ | refine go_split (fun _h => ?_) (fun _h => ?_)) <;> try simp (maxSteps := 4000000) only [go_sem, seval])
    | (intro _h)
    | (refine awp_block ?_)
    | (refine awp_scope ?_)
    | (refine cond_b (fun _h => ?_) (fun _h => ?_))
    | (show heapOK _ _ = true; kernel_rfl)
    | (show heapOK2 _ _ = true; kernel_rfl)
    | (omega)))
    refine awp_mid ⟨mkT 218 [(2, .int .u8 x), (3, .int .u8 y), (4, .ptr 0 0 0), (9, .ptr 2 0 0)], [some (.cells 25 1 0 [.psl false t.reports.length (recs rptC t.reports), .psl false t.claims.length (recs clmC t.claims), .int .i64 t.rest]), none, some (.cells 25 1 0 [.psl false t.reports.length (recs rptC t.reports), .psl false (t.claims.length + 1) (recs clmC t.claims ++ clmC c), .int .i64 t.rest])], []⟩ ?_ ?_
    · have hn : t.claims.length = 0 ∨ 0 < t.claims.length := by omega
      rcases hn with hn | hn
      · have hn2 : t.claims = [] := List.length_eq_zero_iff.1 hn
        simp only [hn2, List.length_nil, recs_nil] at hre hfu ⊢
        (repeat' (first
    | ((omega))
    | ((exfalso; omega))
    | (refine awp_seqK ?_)
    | (refine kt ?_)
    | (refine And.intro ?_ ?_)
    | ((first | refine awp_region ?_ | refine awp_draw (by kernel_rfl) (by kernel_rfl) ?_ | refine awp_label ?_ | refine awp_skip ?_ | refine awp_exit ?_ | refine awp_cd ?_ | refine awp_ret ?_ | refine go_split (fun _h => ?_) (fun _h => ?_)) <;> try simp (maxSteps := 4000000) only [go_sem, seval])
    | (intro _h)
    | (refine awp_block ?_)
    | (refine awp_scope ?_)
    | (refine cond_b (fun _h => ?_) (fun _h => ?_))
    | (show heapOK _ _ = true; kernel_rfl)
    | (show heapOK2 _ _ = true; kernel_rfl)
    | (omega)))
        (refine Imp.trans (Imp.frz 4 rfl ?_ (fun _ => rfl)) (.le2 ?_); (focus (simp (maxSteps := 4000000) only [go_sem, seval])); simp only [frz, fzl, fz2, fz1, fz0, fzH, fzHs, fzO, fzB, List.map_cons, List.map_nil, if_true, if_false, reduceIte, Nat.reduceEqDiff, Nat.reduceAdd, Nat.succ_ne_self, Nat.zero_ne_one, Nat.one_ne_zero, reduceCtorEq, and_self]; simp (maxSteps := 4000000) only [go_sem, seval])
      · (repeat' (first
    | ((omega))
    | ((exfalso; omega))
    | (refine awp_seqK ?_)
    | (refine kt ?_)
    | (refine And.intro ?_ ?_)
    | ((first | refine awp_region ?_ | refine awp_draw (by kernel_rfl) (by kernel_rfl) ?_ | refine awp_label ?_ | refine awp_skip ?_ | refine awp_exit ?_ | refine awp_cd ?_ | refine awp_ret ?_ | refine go_split (fun _h => ?_) (fun _h => ?_)) <;> try simp (maxSteps := 4000000) only [go_sem, seval])
    | (intro _h)
    | (refine awp_block ?_)
    | (refine awp_scope ?_)
    | (refine cond_b (fun _h => ?_) (fun _h => ?_))
    | (show heapOK _ _ = true; kernel_rfl)
    | (show heapOK2 _ _ = true; kernel_rfl)
    | (omega)))
        (refine Imp.trans (Imp.frz 3 rfl ?_ (fun _ => rfl)) (.le2 ?_); (focus (simp (maxSteps := 4000000) only [go_sem, seval])); simp only [frz, fzl, fz2, fz1, fz0, fzH, fzHs, fzO, fzB, List.map_cons, List.map_nil, if_true, if_false, reduceIte, Nat.reduceEqDiff, Nat.reduceAdd, Nat.succ_ne_self, Nat.zero_ne_one, Nat.one_ne_zero, reduceCtorEq, and_self]; simp (maxSteps := 4000000) only [go_sem, seval])
    · clear hre
      by_cases hf0 : faultA (addC t c) = 0
      · have hkd2 : ∀ d ∈ (addC t c).claims, 0 ≤ d.kind := fun d hd => by
          simp only [addC, List.mem_append, List.mem_singleton] at hd
          rcases hd with hd | rfl
          · exact hkd d hd
          · exact hcd
        have hu := faultA_ok hkd2 hf0
        rw [hf0] at hfu
        have hcu := hu.claims
        simp only [addC, List.length_append, List.length_cons, List.length_nil] at hcu
        have hx1 := rem_c (x := x) (n := t.reports.length) hx.1
        have hy1 := rem_c (x := y) (n := t.reports.length) hy.1
        have hi := Nat.mod_lt x.toNat (show 0 < t.reports.length by omega)
        have hk := Nat.mod_lt y.toNat (show 0 < t.reports.length by omega)
        generalize x.toNat % t.reports.length = i at *
        generalize y.toNat % t.reports.length = k at *
        have hM := more_p ht hu hi hk
        have han := annals_c t hb
        have hbn := annals_c (addC t c) hbu
        have hda := Days_c t hb (fun _ => ht) (fun _ h => fiV_mir ht (mirA_ok ht) h)
        have hdb := Days_c (addC t c) hbu (fun _ => hu) (fun _ h => fiV_mir hu (mirA_ok hu) h)
        have hwa := Ways_c t hb (fun _ => ht)
        have hwb := Ways_c (addC t c) hbu (fun _ => hu)
        have e1 : dayE t = if (fiV t).1 = true then 0 else 9 := by unfold dayE; rw [if_pos h0]
        have e2 : dayE (addC t c) = if (fiV (addC t c)).1 = true then 0 else 9 := by unfold dayE; rw [if_pos hf0]
        have e3 : dayV t = if dayE t = 0 then slG (tab t.reports.length (dayF (fiV t).2 (fiV (mirA t)).2)) else .nils := rfl
        have e4 : dayV (addC t c) = if dayE (addC t c) = 0 then slG (tab t.reports.length (dayF (fiV (addC t c)).2 (fiV (mirA (addC t c))).2)) else .nils := rfl
        rw [e3, e1] at hda
        rw [e4, e2] at hdb
        rw [addC_c] at hbn hdb hwb
        clear e1 e2 e3 e4
        cases hF : (fiV (addC t c)).1 with
        | false =>
          rw [hF] at hdb
          simp only [Bool.false_eq_true, if_false] at hdb
          rw [if_neg (by omega)] at hdb
          cases hG : (fiV t).1
          all_goals
            rw [hG] at hda
            simp only [Bool.false_eq_true, if_false, if_true] at hda
            try rw [if_neg (by omega)] at hda
            simp only [annC, slR, slC, slG, clmC] at han hbn hda hdb ⊢
            (repeat' (first
    | ((omega))
    | ((exfalso; omega))
    | (refine awp_seqK ?_)
    | (refine kt ?_)
    | (refine And.intro ?_ ?_)
    | ((first | refine awp_region ?_ | refine awp_draw (by kernel_rfl) (by kernel_rfl) ?_ | refine Imp.le2 ?_ | refine awp_label ?_ | refine awp_skip ?_ | refine awp_exit ?_ | refine awp_cd ?_ | refine awp_ret ?_ | refine callK_of (hfu) ?_ | refine callK_of (han) ?_ | refine callK_of (hbn) ?_ | refine callK_of (hda) ?_ | refine callK_of (hdb) ?_ | refine callK_of (hA) ?_ | refine go_split (fun _h => ?_) (fun _h => ?_)) <;> try simp (maxSteps := 4000000) only [go_sem, seval])
    | (intro _h)
    | (refine awp_block ?_)
    | (refine awp_scope ?_)
    | (refine cond_b (fun _h => ?_) (fun _h => ?_))
    | (show heapOK _ _ = true; kernel_rfl)
    | (show heapOK2 _ _ = true; kernel_rfl)
    | (omega)))
            all_goals trace_state
        | true =>
          obtain ⟨m1, m2, m3, m4, m5, m6, m6l, m7, m8, m9⟩ := hM
          have hG := m1 hF
          have m3 := m3 hF
          have m4 := m4 hF
          obtain ⟨m51, m52⟩ := m5 hF
          have m7 := m7 hF
          rw [hF] at hdb
          rw [hG] at hda
          simp only [if_true] at hda hdb
          have htb1 := fun (j : Nat) (hj : j < t.reports.length) => show (tab t.reports.length (dayF (fiV t).2 (fiV (mirA t)).2)).getD j default = ((fiV t).2.getD j 0, 100000 - (fiV (mirA t)).2.getD j 0) by
            simp [tab, dayF, List.getD_eq_getElem?_getD, hj]
          have htb2 := fun (j : Nat) (hj : j < t.reports.length) => show (tab t.reports.length (dayF (fiV (addC t c)).2 (fiV (mirA (addC t c))).2)).getD j default = ((fiV (addC t c)).2.getD j 0, 100000 - (fiV (mirA (addC t c))).2.getD j 0) by
            simp [tab, dayF, List.getD_eq_getElem?_getD, hj]
          have hab1 : ∀ j, j < t.reports.length → ((tab t.reports.length (dayF (fiV t).2 (fiV (mirA t)).2)).getD j default).1 ≤ ((tab t.reports.length (dayF (fiV (addC t c)).2 (fiV (mirA (addC t c))).2)).getD j default).1 := fun j hj => by
            rw [htb1 j hj, htb2 j hj]; exact m3 j hj
          have hab2 : ∀ j, j < t.reports.length → ((tab t.reports.length (dayF (fiV (addC t c)).2 (fiV (mirA (addC t c))).2)).getD j default).2 ≤ ((tab t.reports.length (dayF (fiV t).2 (fiV (mirA t)).2)).getD j default).2 := fun j hj => by
            rw [htb1 j hj, htb2 j hj]; have := m4 j hj; simp only; omega
          have hla : (tab t.reports.length (dayF (fiV t).2 (fiV (mirA t)).2)).length = t.reports.length := tab_length
          have hlb : (tab t.reports.length (dayF (fiV (addC t c)).2 (fiV (mirA (addC t c))).2)).length = t.reports.length := tab_length
          have hlu : (addC t c).reports.length = t.reports.length := rfl
          clear htb1 htb2 m3 m4
          generalize tab t.reports.length (dayF (fiV t).2 (fiV (mirA t)).2) = T1 at *
          generalize tab t.reports.length (dayF (fiV (addC t c)).2 (fiV (mirA (addC t c))).2) = T2 at *
          have hsa := Surely_c t i k hb (fun _ => ht)
          have hsb := Surely_c (addC t c) i k hbu (fun _ => hu)
          have e1 : i ≠ k → sureE t i k = 0 := fun hik => by
            unfold sureE; rw [if_pos h0, if_pos ⟨⟨by omega, by omega⟩, ⟨by omega, by omega⟩, by omega⟩, if_neg]
            intro h
            rcases m7 with h7 | h7
            · have := m8 h7; rw [h] at this; cases this
            · have := m9 h7; rw [h] at this; cases this
          have e2 : i ≠ k → sureE (addC t c) i k = 0 := fun hik => by
            unfold sureE; rw [if_pos hf0, if_pos ⟨⟨by omega, by rw [hlu]; omega⟩, ⟨by omega, by rw [hlu]; omega⟩, by omega⟩, if_neg]
            intro h
            rcases m7 with h7 | h7
            · rw [h] at h7; cases h7
            · rw [h] at h7; cases h7
          have e3 : i ≠ k → sureV t i k = 3 ∨ sureV t i k = sureV (addC t c) i k := fun hik => by
            unfold sureV; rw [if_pos (e1 hik), if_pos (e2 hik)]; exact sureX _ _ _ _ m8 m9 m7
          rw [addC_c] at hsb
          generalize sureE t i k = E1 at *
          generalize sureE (addC t c) i k = E2 at *
          generalize sureV t i k = V1 at *
          generalize sureV (addC t c) i k = V2 at *
          have w1 : wayE t = if (waV t).1.length = 0 then 9 else if 100 < (waV t).1.length then 3 else 0 := by unfold wayE; rw [if_pos h0]
          have w2 : wayE (addC t c) = if (waV (addC t c)).1.length = 0 then 9 else if 100 < (waV (addC t c)).1.length then 3 else 0 := by unfold wayE; rw [if_pos hf0]
          have w3 : wayV t = if wayE t = 0 then slW (waV t).1 else .nils := rfl
          have w4 : wayV (addC t c) = if wayE (addC t c) = 0 then slW (waV (addC t c)).1 else .nils := rfl
          rw [w3, w1, if_neg m51] at hwa
          rw [w4, w2, if_neg m52] at hwb
          clear w1 w2 w3 w4
          generalize (waV t).1 = L at *
          generalize (waV (addC t c)).1 = M at *
          clear hF hG m1 m2 m7 m8 m9
          simp only [annC, slR, slC, slG, clmC, slW, hla, hlb] at han hbn hda hdb hwa hwb hsa hsb ⊢
          (repeat' (first
    | ((omega))
    | ((exfalso; omega))
    | (refine awp_seqK ?_)
    | (refine kt ?_)
    | (refine And.intro ?_ ?_)
    | ((first | refine awp_region ?_ | refine awp_draw (by kernel_rfl) (by kernel_rfl) ?_ | refine Imp.le2 ?_ | refine awp_label ?_ | refine awp_skip ?_ | refine awp_exit ?_ | refine awp_cd ?_ | refine awp_ret ?_ | refine callK_of (hfu) ?_ | refine callK_of (han) ?_ | refine callK_of (hbn) ?_ | refine callK_of (hda) ?_ | refine callK_of (hdb) ?_ | refine callK_of (hA) ?_ | refine go_split (fun _h => ?_) (fun _h => ?_)) <;> try simp (maxSteps := 4000000) only [go_sem, seval, hla, hlb])
    | (intro _h)
    | (refine awp_block ?_)
    | (refine awp_scope ?_)
    | (refine cond_b (fun _h => ?_) (fun _h => ?_))
    | (show heapOK _ _ = true; kernel_rfl)
    | (show heapOK2 _ _ = true; kernel_rfl)
    | (omega)))
          refine awp_loopN t.reports.length (fun j => ⟨mkT 218 [(2, .int .u8 x), (3, .int .u8 y), (4, .ptr 0 0 0), (9, .ptr 2 0 0), (10, .psl false t.reports.length (recs rngC T1)), (12, .psl false t.reports.length (recs rngC T2)), (14, .int .i64 j)], [some (.cells 25 1 0 [.psl false t.reports.length (recs rptC t.reports), .psl false t.claims.length (recs clmC t.claims), .int .i64 t.rest]), none, some (.cells 25 1 0 [.psl false t.reports.length (recs rptC t.reports), .psl false (t.claims.length + 1) (recs clmC t.claims ++ [.int .u8 c.kind, .int .i64 c.a, .int .i64 c.b]), .int .i64 t.rest])], []⟩) (.le2 ?_) ?_
          · simp (maxSteps := 4000000) only [go_sem, seval]
            all_goals first | rfl | trace_state
          · intro j hj
            rcases Nat.lt_or_eq_of_le hj with hj1 | hj1
            · have ha1 := hab1 j hj1
              have ha2 := hab2 j hj1
              simp (maxSteps := 4000000) only [go_sem, seval]
              (repeat' (first
    | ((omega))
    | ((exfalso; omega))
    | (refine awp_seqK ?_)
    | (refine kt ?_)
    | (refine And.intro ?_ ?_)
    | ((first | refine awp_region ?_ | refine awp_draw (by kernel_rfl) (by kernel_rfl) ?_ | refine Imp.le2 ?_ | refine awp_label ?_ | refine awp_skip ?_ | refine awp_exit ?_ | refine awp_cd ?_ | refine awp_ret ?_ | refine go_split (fun _h => ?_) (fun _h => ?_)) <;> try simp (maxSteps := 4000000) only [go_sem, seval, hla, hlb])
    | (intro _h)
    | (refine awp_block ?_)
    | (refine awp_scope ?_)
    | (refine cond_b (fun _h => ?_) (fun _h => ?_))
    | (show heapOK _ _ = true; kernel_rfl)
    | (show heapOK2 _ _ = true; kernel_rfl)
    | (omega)))
              all_goals trace_state
            · subst hj1
              clear hab1 hab2 hla hlb hda hdb
              by_cases hL : 100 < L.length
              · rw [if_pos hL, if_neg (by omega)] at hwa
                by_cases hM : 100 < M.length
                · rw [if_pos hM, if_neg (by omega)] at hwb
                  by_cases hik : i = k
                  · subst hik
                    simp (maxSteps := 4000000) only [go_sem, seval]
                    (repeat' (first
    | ((omega))
    | ((exfalso; omega))
    | (refine awp_seqK ?_)
    | (refine kt ?_)
    | (refine And.intro ?_ ?_)
    | ((first | refine awp_region ?_ | refine awp_draw (by kernel_rfl) (by kernel_rfl) ?_ | refine Imp.le2 ?_ | refine awp_label ?_ | refine awp_skip ?_ | refine awp_exit ?_ | refine awp_cd ?_ | refine awp_ret ?_ | refine callK_of (han) ?_ | refine callK_of (hbn) ?_ | refine callK_of (hwa) ?_ | refine callK_of (hwb) ?_ | refine callK_of (hA) ?_ | refine go_split (fun _h => ?_) (fun _h => ?_)) <;> try simp (maxSteps := 4000000) only [go_sem, seval, hx1, hy1])
    | (intro _h)
    | (refine awp_block ?_)
    | (refine awp_scope ?_)
    | (refine cond_b (fun _h => ?_) (fun _h => ?_))
    | (show heapOK _ _ = true; kernel_rfl)
    | (show heapOK2 _ _ = true; kernel_rfl)
    | (omega)))
                    all_goals trace_state
                  · obtain rfl := e1 hik
                    obtain rfl := e2 hik
                    have e3 := e3 hik
                    clear e1 e2
                    simp (maxSteps := 4000000) only [go_sem, seval]
                    (repeat' (first
    | ((omega))
    | ((exfalso; omega))
    | (refine awp_seqK ?_)
    | (refine kt ?_)
    | (refine And.intro ?_ ?_)
    | ((first | refine awp_region ?_ | refine awp_draw (by kernel_rfl) (by kernel_rfl) ?_ | refine Imp.le2 ?_ | refine awp_label ?_ | refine awp_skip ?_ | refine awp_exit ?_ | refine awp_cd ?_ | refine awp_ret ?_ | refine callK_of (han) ?_ | refine callK_of (hbn) ?_ | refine callK_of (hwa) ?_ | refine callK_of (hwb) ?_ | refine callK_of (hsa) ?_ | refine callK_of (hsb) ?_ | refine callK_of (hA) ?_ | refine go_split (fun _h => ?_) (fun _h => ?_)) <;> try simp (maxSteps := 4000000) only [go_sem, seval, hx1, hy1])
    | (intro _h)
    | (refine awp_block ?_)
    | (refine awp_scope ?_)
    | (refine cond_b (fun _h => ?_) (fun _h => ?_))
    | (show heapOK _ _ = true; kernel_rfl)
    | (show heapOK2 _ _ = true; kernel_rfl)
    | (omega)))
                    all_goals trace_state
                · rw [if_neg hM, if_pos rfl] at hwb
                  by_cases hik : i = k
                  · subst hik
                    simp (maxSteps := 4000000) only [go_sem, seval]
                    (repeat' (first
    | ((omega))
    | ((exfalso; omega))
    | (refine awp_seqK ?_)
    | (refine kt ?_)
    | (refine And.intro ?_ ?_)
    | ((first | refine awp_region ?_ | refine awp_draw (by kernel_rfl) (by kernel_rfl) ?_ | refine Imp.le2 ?_ | refine awp_label ?_ | refine awp_skip ?_ | refine awp_exit ?_ | refine awp_cd ?_ | refine awp_ret ?_ | refine callK_of (han) ?_ | refine callK_of (hbn) ?_ | refine callK_of (hwa) ?_ | refine callK_of (hwb) ?_ | refine callK_of (hA) ?_ | refine go_split (fun _h => ?_) (fun _h => ?_)) <;> try simp (maxSteps := 4000000) only [go_sem, seval, hx1, hy1])
    | (intro _h)
    | (refine awp_block ?_)
    | (refine awp_scope ?_)
    | (refine cond_b (fun _h => ?_) (fun _h => ?_))
    | (show heapOK _ _ = true; kernel_rfl)
    | (show heapOK2 _ _ = true; kernel_rfl)
    | (omega)))
                    all_goals trace_state
                  · obtain rfl := e1 hik
                    obtain rfl := e2 hik
                    have e3 := e3 hik
                    clear e1 e2
                    simp (maxSteps := 4000000) only [go_sem, seval]
                    (repeat' (first
    | ((omega))
    | ((exfalso; omega))
    | (refine awp_seqK ?_)
    | (refine kt ?_)
    | (refine And.intro ?_ ?_)
    | ((first | refine awp_region ?_ | refine awp_draw (by kernel_rfl) (by kernel_rfl) ?_ | refine Imp.le2 ?_ | refine awp_label ?_ | refine awp_skip ?_ | refine awp_exit ?_ | refine awp_cd ?_ | refine awp_ret ?_ | refine callK_of (han) ?_ | refine callK_of (hbn) ?_ | refine callK_of (hwa) ?_ | refine callK_of (hwb) ?_ | refine callK_of (hsa) ?_ | refine callK_of (hsb) ?_ | refine callK_of (hA) ?_ | refine go_split (fun _h => ?_) (fun _h => ?_)) <;> try simp (maxSteps := 4000000) only [go_sem, seval, hx1, hy1])
    | (intro _h)
    | (refine awp_block ?_)
    | (refine awp_scope ?_)
    | (refine cond_b (fun _h => ?_) (fun _h => ?_))
    | (show heapOK _ _ = true; kernel_rfl)
    | (show heapOK2 _ _ = true; kernel_rfl)
    | (omega)))
                    all_goals trace_state
              · obtain ⟨m61, m62⟩ := m6 (by omega)
                rw [if_neg hL, if_pos rfl] at hwa
                rw [if_neg (show ¬ 100 < M.length by omega), if_pos rfl] at hwb
                simp (maxSteps := 4000000) only [go_sem, seval]
                (repeat' (first
    | ((omega))
    | ((exfalso; omega))
    | (refine awp_seqK ?_)
    | (refine kt ?_)
    | (refine And.intro ?_ ?_)
    | ((first | refine awp_region ?_ | refine awp_draw (by kernel_rfl) (by kernel_rfl) ?_ | refine Imp.le2 ?_ | refine awp_label ?_ | refine awp_skip ?_ | refine awp_exit ?_ | refine awp_cd ?_ | refine awp_ret ?_ | refine callK_of (han) ?_ | refine callK_of (hbn) ?_ | refine callK_of (hwa) ?_ | refine callK_of (hwb) ?_ | refine callK_of (hA) ?_ | refine go_split (fun _h => ?_) (fun _h => ?_)) <;> try simp (maxSteps := 4000000) only [go_sem, seval, hx1, hy1])
    | (intro _h)
    | (refine awp_block ?_)
    | (refine awp_scope ?_)
    | (refine cond_b (fun _h => ?_) (fun _h => ?_))
    | (show heapOK _ _ = true; kernel_rfl)
    | (show heapOK2 _ _ = true; kernel_rfl)
    | (omega)))
                refine awp_loopN M.length (fun j => ⟨mkT 218 [(2, .int .u8 x), (3, .int .u8 y), (4, .ptr 0 0 0), (9, .ptr 2 0 0), (15, .psl false L.length (rowsC L)), (17, .psl false M.length (rowsC M)), (19, .int .i64 j)], [some (.cells 25 1 0 [.psl false t.reports.length (recs rptC t.reports), .psl false t.claims.length (recs clmC t.claims), .int .i64 t.rest]), none, some (.cells 25 1 0 [.psl false t.reports.length (recs rptC t.reports), .psl false (t.claims.length + 1) (recs clmC t.claims ++ [.int .u8 c.kind, .int .i64 c.a, .int .i64 c.b]), .int .i64 t.rest])], []⟩) (.le2 ?_) ?_
                · simp (maxSteps := 4000000) only [go_sem, seval]
                  all_goals first | rfl | trace_state
                · intro j hj
                  rcases Nat.lt_or_eq_of_le hj with hj1 | hj1
                  · have hn1 := fun K => rows_nth (l := M) hj1 (K := K)
                    have hm : M.getD j [] ∈ L := m62 _ (mem_row.2 ⟨j, hj1, rfl⟩)
                    generalize M.getD j [] = s at *
                    simp (maxSteps := 4000000) only [go_sem, seval]
                    (repeat' (first
    | ((omega))
    | ((exfalso; omega))
    | (refine awp_seqK ?_)
    | (refine kt ?_)
    | (refine And.intro ?_ ?_)
    | ((first | refine awp_region ?_ | refine awp_draw (by kernel_rfl) (by kernel_rfl) ?_ | refine Imp.le2 ?_ | refine awp_label ?_ | refine awp_skip ?_ | refine awp_exit ?_ | refine awp_cd ?_ | refine awp_ret ?_ | refine go_split (fun _h => ?_) (fun _h => ?_)) <;> try simp (maxSteps := 4000000) only [go_sem, seval])
    | (intro _h)
    | (refine awp_block ?_)
    | (refine awp_scope ?_)
    | (refine cond_b (fun _h => ?_) (fun _h => ?_))
    | (show heapOK _ _ = true; kernel_rfl)
    | (show heapOK2 _ _ = true; kernel_rfl)
    | (omega)))
                    refine awp_loopN L.length (fun q => ⟨mkT 218 [(2, .int .u8 x), (3, .int .u8 y), (4, .ptr 0 0 0), (9, .ptr 2 0 0), (15, .psl false L.length (rowsC L)), (17, .psl false M.length (rowsC M)), (19, .int .i64 j), (20, .bool ((L.take q).any fun x => decide (x = s))), (21, .int .i64 q)], [some (.cells 25 1 0 [.psl false t.reports.length (recs rptC t.reports), .psl false t.claims.length (recs clmC t.claims), .int .i64 t.rest]), none, some (.cells 25 1 0 [.psl false t.reports.length (recs rptC t.reports), .psl false (t.claims.length + 1) (recs clmC t.claims ++ [.int .u8 c.kind, .int .i64 c.a, .int .i64 c.b]), .int .i64 t.rest])], []⟩) (.le2 ?_) ?_
                    · simp (maxSteps := 4000000) only [go_sem, seval]
                      all_goals first | rfl | trace_state
                    · intro q hq
                      rcases Nat.lt_or_eq_of_le hq with hq1 | hq1
                      · have hn2 := fun K => rows_nth (l := L) hq1 (K := K)
                        have hq3 := m6l _ (mem_row.2 ⟨q, hq1, rfl⟩)
                        have hq2 := ints_c (L.getD q []) s (by omega)
                        have hta := take_any (s := s) hq1
                        generalize L.getD q [] = z at *
                        cases hb1 : (L.take q).any fun x => decide (x = s) with
                        | true =>
                          rw [hb1] at hta
                          simp only [Bool.true_or] at hta
                          simp (maxSteps := 4000000) only [go_sem, seval]
                          (repeat' (first
    | ((omega))
    | ((exfalso; omega))
    | (refine awp_seqK ?_)
    | (refine kt ?_)
    | (refine And.intro ?_ ?_)
    | ((first | refine awp_region ?_ | refine awp_draw (by kernel_rfl) (by kernel_rfl) ?_ | refine Imp.le2 ?_ | refine awp_label ?_ | refine awp_skip ?_ | refine awp_exit ?_ | refine awp_cd ?_ | refine awp_ret ?_ | refine callK_of (hq2) ?_ | refine go_split (fun _h => ?_) (fun _h => ?_)) <;> try simp (maxSteps := 4000000) only [go_sem, seval, hn1, hn2, hta])
    | (intro _h)
    | (refine awp_block ?_)
    | (refine awp_scope ?_)
    | (refine cond_b (fun _h => ?_) (fun _h => ?_))
    | (show heapOK _ _ = true; kernel_rfl)
    | (show heapOK2 _ _ = true; kernel_rfl)
    | (omega)))
                          all_goals trace_state
                        | false =>
                          rw [hb1] at hta
                          simp only [Bool.false_or] at hta
                          simp only [sl] at hq2
                          simp (maxSteps := 4000000) only [go_sem, seval]
                          (repeat' (first
    | ((omega))
    | ((exfalso; omega))
    | (refine awp_seqK ?_)
    | (refine kt ?_)
    | (refine And.intro ?_ ?_)
    | ((first | refine awp_region ?_ | refine awp_draw (by kernel_rfl) (by kernel_rfl) ?_ | refine Imp.le2 ?_ | refine awp_label ?_ | refine awp_skip ?_ | refine awp_exit ?_ | refine awp_cd ?_ | refine awp_ret ?_ | refine callK_of (hq2) ?_ | refine go_split (fun _h => ?_) (fun _h => ?_)) <;> try simp (maxSteps := 4000000) only [go_sem, seval, hn1, hn2, hta])
    | (intro _h)
    | (refine awp_block ?_)
    | (refine awp_scope ?_)
    | (refine cond_b (fun _h => ?_) (fun _h => ?_))
    | (show heapOK _ _ = true; kernel_rfl)
    | (show heapOK2 _ _ = true; kernel_rfl)
    | (omega)))
                          all_goals first | exact (decide_eq_true ‹_›).symm | exact (decide_eq_false ‹_›).symm | exact decide_eq_true ‹_› | exact decide_eq_false ‹_› | trace_state
                      · subst hq1
                        have hta : ((L.take L.length).any fun x => decide (x = s)) = true := by
                          rw [List.take_length, List.any_eq_true]; exact ⟨s, hm, by simp⟩
                        rw [hta]
                        simp (maxSteps := 4000000) only [go_sem, seval]
                        (repeat' (first
    | ((omega))
    | ((exfalso; omega))
    | (refine awp_seqK ?_)
    | (refine kt ?_)
    | (refine And.intro ?_ ?_)
    | ((first | refine awp_region ?_ | refine awp_draw (by kernel_rfl) (by kernel_rfl) ?_ | refine Imp.le2 ?_ | refine awp_label ?_ | refine awp_skip ?_ | refine awp_exit ?_ | refine awp_cd ?_ | refine awp_ret ?_ | refine go_split (fun _h => ?_) (fun _h => ?_)) <;> try simp (maxSteps := 4000000) only [go_sem, seval])
    | (intro _h)
    | (refine awp_block ?_)
    | (refine awp_scope ?_)
    | (refine cond_b (fun _h => ?_) (fun _h => ?_))
    | (show heapOK _ _ = true; kernel_rfl)
    | (show heapOK2 _ _ = true; kernel_rfl)
    | (omega)))
                        all_goals trace_state
                  · subst hj1
                    by_cases hik : i = k
                    · subst hik
                      simp (maxSteps := 4000000) only [go_sem, seval]
                      (repeat' (first
    | ((omega))
    | ((exfalso; omega))
    | (refine awp_seqK ?_)
    | (refine kt ?_)
    | (refine And.intro ?_ ?_)
    | ((first | refine awp_region ?_ | refine awp_draw (by kernel_rfl) (by kernel_rfl) ?_ | refine Imp.le2 ?_ | refine awp_label ?_ | refine awp_skip ?_ | refine awp_exit ?_ | refine awp_cd ?_ | refine awp_ret ?_ | refine callK_of (han) ?_ | refine callK_of (hbn) ?_ | refine callK_of (hA) ?_ | refine go_split (fun _h => ?_) (fun _h => ?_)) <;> try simp (maxSteps := 4000000) only [go_sem, seval, hx1, hy1])
    | (intro _h)
    | (refine awp_block ?_)
    | (refine awp_scope ?_)
    | (refine cond_b (fun _h => ?_) (fun _h => ?_))
    | (show heapOK _ _ = true; kernel_rfl)
    | (show heapOK2 _ _ = true; kernel_rfl)
    | (omega)))
                      all_goals trace_state
                    · obtain rfl := e1 hik
                      obtain rfl := e2 hik
                      have e3 := e3 hik
                      clear e1 e2
                      simp (maxSteps := 4000000) only [go_sem, seval]
                      (repeat' (first
    | ((omega))
    | ((exfalso; omega))
    | (refine awp_seqK ?_)
    | (refine kt ?_)
    | (refine And.intro ?_ ?_)
    | ((first | refine awp_region ?_ | refine awp_draw (by kernel_rfl) (by kernel_rfl) ?_ | refine Imp.le2 ?_ | refine awp_label ?_ | refine awp_skip ?_ | refine awp_exit ?_ | refine awp_cd ?_ | refine awp_ret ?_ | refine callK_of (han) ?_ | refine callK_of (hbn) ?_ | refine callK_of (hsa) ?_ | refine callK_of (hsb) ?_ | refine callK_of (hA) ?_ | refine go_split (fun _h => ?_) (fun _h => ?_)) <;> try simp (maxSteps := 4000000) only [go_sem, seval, hx1, hy1])
    | (intro _h)
    | (refine awp_block ?_)
    | (refine awp_scope ?_)
    | (refine cond_b (fun _h => ?_) (fun _h => ?_))
    | (show heapOK _ _ = true; kernel_rfl)
    | (show heapOK2 _ _ = true; kernel_rfl)
    | (omega)))
                      all_goals trace_state
      · simp only [clmC]
        (repeat' (first
    | ((omega))
    | ((exfalso; omega))
    | (refine awp_seqK ?_)
    | (refine kt ?_)
    | (refine And.intro ?_ ?_)
    | ((first | refine awp_region ?_ | refine awp_draw (by kernel_rfl) (by kernel_rfl) ?_ | refine Imp.le2 ?_ | refine awp_label ?_ | refine awp_skip ?_ | refine awp_exit ?_ | refine awp_cd ?_ | refine awp_ret ?_ | refine callK_of (hfu) ?_ | refine callK_of (hA) ?_ | refine go_split (fun _h => ?_) (fun _h => ?_)) <;> try simp (maxSteps := 4000000) only [go_sem, seval])
    | (intro _h)
    | (refine awp_block ?_)
    | (refine awp_scope ?_)
    | (refine cond_b (fun _h => ?_) (fun _h => ?_))
    | (show heapOK _ _ = true; kernel_rfl)
    | (show heapOK2 _ _ = true; kernel_rfl)
    | (omega)))
        all_goals trace_state
end Go.Am

/- The law AnnalsMore, as a contract: it returns true. -/
namespace Go.Am
open Go.RowKit Go.Proofs
theorem annalsMore_c (t : Ann) (c : Clm) (x y : Int) (ht : AnnR t) (hc : okC c) (hx : okI .u8 x) (hy : okI .u8 y) : CallS Try.prog 7 [.agg (annC t), .agg (clmC c), .int .u8 x, .int .u8 y] (.bool true) :=
  moreLaw awake_c t c (fun c hc => (ht.claims c hc).1.1) hc.1.1 x y (okI_u8 hx) (okI_u8 hy)
end Go.Am
