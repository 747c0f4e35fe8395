/- Parts TrD, TrE of the proof, one behind the other. No statement is proved here. -/
import Derived.Test.YtghlpjfpfjpddaaGreatE7
/- AwayCalled where the order is late. -/
namespace Go.Am
open Go.RowKit Go.Proofs
attribute [local irreducible] AWP CallS Kt goK CallK stepK evOps SemF SemY Imp
set_option maxRecDepth 4000
set_option linter.unusedSimpArgs false
set_option linter.unusedVariables false
set_option maxHeartbeats 3200000

theorem tab_self {l : List Int} {n : Nat} {f : Nat → Int} (h : l.length = n) (hf : ∀ j, j < n → f j = l.getD j 0) : tab n f = l := by
  apply List.ext_getElem
  · rw [tab_length, h]
  · intro i h1 h2
    rw [tab_length] at h1
    have := tab_getD (f := f) (d := 0) h1
    rw [hf i h1] at this
    simpa [List.getD_eq_getElem?_getD, h2, show i < (tab n f).length by rw [tab_length]; exact h1] using this
def someN (t : Town) (out late : List Int) : Nat → Bool
  | 0 => false
  | h + 1 => someN t out late h || (decide ((h : Int) ∈ late) && !fineN t (out.getD h 0) h t.halls.length)
theorem some_iff {t : Town} {out late : List Int} : ∀ {n h : Nat}, h < n → (h : Int) ∈ late → fineN t (out.getD h 0) h t.halls.length = false → someN t out late n = true
  | 0, h, h1, _, _ => by omega
  | n + 1, h, h1, h2, h3 => by
    simp only [someN, Bool.or_eq_true, Bool.and_eq_true, decide_eq_true_eq, Bool.not_eq_true']
    rcases Nat.lt_or_eq_of_le (Nat.le_of_lt_succ h1) with h4 | h4
    · exact .inl (some_iff h4 h2 h3)
    · subst h4; exact .inr ⟨h2, h3⟩
def hasN (late : List Int) (h : Nat) (i : Nat) : Bool := decide ((h : Int) ∈ late.take i)
theorem hasN_zero {late : List Int} {h : Nat} : hasN late h 0 = false := by simp [hasN]
theorem hasN_all {late : List Int} {h : Nat} : hasN late h late.length = decide ((h : Int) ∈ late) := by simp [hasN]
theorem hasN_succ {late : List Int} {h i : Nat} (hi : i < late.length) : hasN late h (i + 1) = (hasN late h i || decide (late.getD i 0 = (h : Int))) := by
  have e : late.take (i + 1) = late.take i ++ [late.getD i 0] := by
    rw [List.take_succ_eq_append_getElem hi]; simp [List.getD_eq_getElem?_getD, hi]
  unfold hasN
  rw [e]
  simp only [List.mem_append, List.mem_singleton]
  by_cases a : (h : Int) ∈ late.take i
  · simp [a]
  · by_cases b : (h : Int) = late.getD i 0
    · rw [decide_eq_true (.inr b), decide_eq_true b.symm, Bool.or_true]
    · rw [decide_eq_false (p := (h : Int) ∈ late.take i ∨ (h : Int) = late.getD i 0) (fun x => x.elim a b), decide_eq_false (p := (h : Int) ∈ late.take i) a, decide_eq_false (p := late.getD i 0 = (h : Int)) (fun x => b x.symm)]; rfl
theorem called_late (t : Town) (words : List Int) (hw : WordsOK words) (hR : readyB t = true) (hL : lateN t ≠ 0) : CallS Tryz.prog 3 [.agg (townC t), slU words] (.bool true) := by
  have hre := ready_c t
  have hA := awake_c
  rw [hR] at hre
  obtain ⟨hb, h0⟩ : townOK t ∧ faultT t = 0 := by
    unfold readyB at hR
    simp only [Bool.and_eq_true, decide_eq_true_eq] at hR
    exact ⟨(thinB_ok hR.1).1, hR.2⟩
  have ht := faultT_zero h0
  have hln := ht.homes
  have hhl := ht.halls
  have hch := ht.call
  have hto := Town_c t hb
  have hot := Order_c t hb
  have hbd0 := lateN_bd (t := t)
  have eo : orderE t = 11 := by simp [orderE, h0]; omega
  rw [show orderV t = .nils by simp [orderV, eo], eo] at hot
  have hlt := Late_c t hb
  have el : lateE t = 0 := by simp [lateE, h0, hL]
  rw [show lateV t = sl (lateL t) by simp [lateV, el], el] at hlt
  have hol := (ordL_ord (t := t)).len
  have hlL : (lateL t).length = (lateN t).toNat := by simp only [lateL, List.length_take, isort_length (show (lateN t).toNat ≤ (ordL t).length by omega)]; omega
  have hlp : 0 < (lateL t).length := by omega
  have hcf := called_f t words ht hw
  have hm := timW ht hw
  have hcl : (callsW t words t.homes.length).length = t.homes.length := hm.lc
  have hpl : (prepsW t words t.homes.length).length = t.homes.length := hm.lp
  have hwo := ordW_ord hw (n := t.homes.length) (by omega) t.homes.length (Nat.le_refl _)
  have hwl := hwo.len
  generalize callsW t words t.homes.length = C at *
  generalize prepsW t words t.homes.length = R at *
  generalize ordW t.homes.length words t.homes.length = W at *
  obtain ⟨CX, hCX⟩ : ∃ CX : Nat → List Int, CX = fun i => tab t.homes.length fun j => if j < i then t.chi else C.getD j 0 := ⟨_, rfl⟩
  obtain ⟨RX, hRX⟩ : ∃ RX : Nat → List Int, RX = fun i => tab t.homes.length fun j => if j < i then (t.homes.getD j default).hi else R.getD j 0 := ⟨_, rfl⟩
  have c0 : CX 0 = C := by rw [hCX]; exact tab_self hcl (fun j _ => if_neg (by omega))
  have r0 : RX 0 = R := by rw [hRX]; exact tab_self hpl (fun j _ => if_neg (by omega))
  have cl : ∀ i, (CX i).length = t.homes.length := fun i => by rw [hCX]; exact tab_length
  have rl : ∀ i, (RX i).length = t.homes.length := fun i => by rw [hRX]; exact tab_length
  have cs : ∀ i, i < t.homes.length → isp (CX i) i t.chi = CX (i + 1) := fun i hi => by
    rw [hCX]; simp only
    rw [isp_tab hi]
    refine tab_congr fun j hj => ?_
    by_cases e : j = i
    · subst e; simp
    · by_cases e2 : j < i
      · simp [e, e2, show j < i + 1 by omega]
      · simp [e, e2, show ¬ j < i + 1 by omega]
  have rs : ∀ i, i < t.homes.length → isp (RX i) i (t.homes.getD i default).hi = RX (i + 1) := fun i hi => by
    rw [hRX]; simp only
    rw [isp_tab hi]
    refine tab_congr fun j hj => ?_
    by_cases e : j = i
    · subst e; simp
    · by_cases e2 : j < i
      · simp [e, e2, show j < i + 1 by omega]
      · simp [e, e2, show ¬ j < i + 1 by omega]
  have cf : ∀ i, i < t.homes.length → (CX t.homes.length).getD i 0 = t.chi := fun i hi => by rw [hCX]; simp only; rw [tab_getD hi, if_pos hi]
  have rf : ∀ i, i < t.homes.length → (RX t.homes.length).getD i 0 = (t.homes.getD i default).hi := fun i hi => by rw [hRX]; simp only; rw [tab_getD hi, if_pos hi]
  have hm2 : Tim t (CX t.homes.length) (RX t.homes.length) := ⟨cl _, rl _, fun i hi => by rw [cf i hi]; omega, fun i hi => by rw [rf i hi]; have := (ht.home i hi).prep; omega⟩
  have clN := cl t.homes.length
  have rlN := rl t.homes.length
  have hth := There_c t W (CX t.homes.length) (RX t.homes.length) hb (by omega) (by omega) (by omega)
  have et : thereE t W (CX t.homes.length) (RX t.homes.length) = 0 := by simp [thereE, h0, hwo, hm2]
  rw [show thereV t W (CX t.homes.length) (RX t.homes.length) = sl (thOut t W (CX t.homes.length) (RX t.homes.length) W.length) by simp [thereV, et], et] at hth
  obtain ⟨q, hq1, hq2, hq3⟩ := late_law ht hL hwo cf rf
  have hbd : ∀ h, h < t.homes.length → 0 ≤ (thOut t W (CX t.homes.length) (RX t.homes.length) W.length).getD h 0 ∧ (thOut t W (CX t.homes.length) (RX t.homes.length) W.length).getD h 0 ≤ 100000 := fun h hh => thOut_in ht hwo hm2 _ (Nat.le_refl _) h hh
  have hll := thOut_length (t := t) (calls := CX t.homes.length) (preps := RX t.homes.length) hwo _ (Nat.le_refl _)
  generalize thOut t W (CX t.homes.length) (RX t.homes.length) W.length = out at *
  have hsome := some_iff hq1 hq2 hq3
  generalize lateL t = late at *
  clear hCX hRX
  simp only [townC, slH, slL, slU, sl, hol, hcl, hpl, hll, hwl, clN, rlN] at hre hto hot hlt hcf hth ⊢
  (refine callS_of_awp (fun w args => Tryz.call3 ..) Tryz.func3 rfl (fun w0 m0 wz => ?_); simp only [Tryz.ntmps3, Tryz.results3, initT, junks, homeC, hallC, slH, slL, townC, sl, List.toList_toArray, List.cons_append, List.nil_append, List.length_cons, List.length_nil, Nat.reduceAdd, Nat.reduceSub])
  (repeat' (first
    | (refine awp_ownN 2 rfl ?_; simp (maxSteps := 4000000) only [go_sem, seval, List.take_succ_cons, List.take_zero, hol, hcl, hpl, hll, hwl]; (repeat refine And.intro (by omega) ?_); refine own_go (hcf) [] rfl ?_ ?_ rfl ?_ <;> try simp (maxSteps := 4000000) only [go_sem, seval, Nat.lt_irrefl, hol, hcl, hpl, hll, hwl] <;> try decide)
    | ((exfalso; omega))
    | ((omega))
    | (refine awp_seqK ?_)
    | (refine kt ?_)
    | (refine And.intro ?_ ?_)
    | ((first | refine awp_region ?_ | refine awp_draw (by kernel_rfl) (by kernel_rfl) ?_ | refine Imp.le2 ?_ | refine awp_label ?_ | refine awp_skip ?_ | refine awp_exit ?_ | refine awp_cd ?_ | refine awp_ret ?_ | refine callK_of (hre) ?_ | refine callK_of (hto) ?_ | refine callK_of (hot) ?_ | refine callK_of (hlt) ?_ | refine go_split (fun _h => ?_) (fun _h => ?_)) <;> try simp (maxSteps := 4000000) only [go_sem, seval, hol, hcl, hpl, hll, hwl])
    | (intro _h)
    | (refine awp_block ?_)
    | (refine awp_scope ?_)
    | (refine cond_b (fun _h => ?_) (fun _h => ?_))
    | (show heapOK _ _ = true; kernel_rfl)
    | (show heapOK2 _ _ = true; kernel_rfl)
    | (omega)))
  refine awp_loopN t.homes.length (fun i => ⟨mkT 195 [(2, .ptr 0 0 0), (6, .int .i64 11), (7, .osl 2 t.homes.length 0 t.homes.length), (8, .osl 3 t.homes.length 0 t.homes.length), (9, .osl 4 t.homes.length 0 t.homes.length), (10, .psl false late.length (ints late)), (12, .int .i64 i)], [some (.cells 27 1 0 [.psl false t.homes.length (recs homeC t.homes), .psl false t.halls.length (recs hallC t.halls), .int .i64 t.seats, .int .i64 t.clo, .int .i64 t.chi]), none, some (.cells 3 1 t.homes.length (ints W)), some (.cells 3 1 t.homes.length (ints (CX i))), some (.cells 3 1 t.homes.length (ints (RX i)))], []⟩) (.le2 ?_) ?_
  · simp only [c0, r0]; simp (maxSteps := 4000000) only [go_sem, seval]
    all_goals first | rfl | exact ⟨rfl, rfl⟩ | exact ⟨rfl, rfl, rfl⟩
  · intro i hi
    have cli := cl i
    have rli := rl i
    rcases Nat.lt_or_eq_of_le hi with hi1 | hi1
    · have csi := cs i hi1
      have rsi := rs i hi1
      simp (maxSteps := 4000000) only [go_sem, seval]
      (repeat' (first
    | ((exfalso; omega))
    | ((omega))
    | (refine awp_seqK ?_)
    | (refine kt ?_)
    | (refine And.intro ?_ ?_)
    | ((first | refine awp_region ?_ | refine awp_draw (by kernel_rfl) (by kernel_rfl) ?_ | refine Imp.le2 ?_ | refine awp_label ?_ | refine awp_skip ?_ | refine awp_exit ?_ | refine awp_cd ?_ | refine awp_ret ?_ | refine go_split (fun _h => ?_) (fun _h => ?_)) <;> try simp (maxSteps := 4000000) only [go_sem, seval, cli, rli, csi, rsi])
    | (intro _h)
    | (refine awp_block ?_)
    | (refine awp_scope ?_)
    | (refine cond_b (fun _h => ?_) (fun _h => ?_))
    | (show heapOK _ _ = true; kernel_rfl)
    | (show heapOK2 _ _ = true; kernel_rfl)
    | (omega)))
      all_goals trace_state
    · subst hi1
      simp (maxSteps := 4000000) only [go_sem, seval]
      (repeat' (first
    | (refine awp_frz (c := .region 16 _ _) 2 rfl (by simp (maxSteps := 4000000) only [go_sem, seval, clN, rlN, hwl]) (fun _ => rfl) ?_; simp only [frz, fq_pure, fzB_c, fzB_m, fzB_d, fzB_l, fzO, fzH, fzHs, fzl, fz2, fz1, fz0, List.map_cons, List.map_nil, if_true, if_false, reduceIte, Nat.reduceEqDiff, Nat.reduceAdd, Nat.succ_ne_self, Nat.zero_ne_one, Nat.one_ne_zero, reduceCtorEq, and_self])
    | (refine awp_frz (c := .region 16 _ _) 3 rfl (by simp (maxSteps := 4000000) only [go_sem, seval, clN, rlN, hwl]) (fun _ => rfl) ?_; simp only [frz, fq_pure, fzB_c, fzB_m, fzB_d, fzB_l, fzO, fzH, fzHs, fzl, fz2, fz1, fz0, List.map_cons, List.map_nil, if_true, if_false, reduceIte, Nat.reduceEqDiff, Nat.reduceAdd, Nat.succ_ne_self, Nat.zero_ne_one, Nat.one_ne_zero, reduceCtorEq, and_self])
    | (refine awp_frz (c := .region 16 _ _) 4 rfl (by simp (maxSteps := 4000000) only [go_sem, seval, clN, rlN, hwl]) (fun _ => rfl) ?_; simp only [frz, fq_pure, fzB_c, fzB_m, fzB_d, fzB_l, fzO, fzH, fzHs, fzl, fz2, fz1, fz0, List.map_cons, List.map_nil, if_true, if_false, reduceIte, Nat.reduceEqDiff, Nat.reduceAdd, Nat.succ_ne_self, Nat.zero_ne_one, Nat.one_ne_zero, reduceCtorEq, and_self])
    | ((exfalso; omega))
    | ((omega))
    | (refine awp_seqK ?_)
    | (refine kt ?_)
    | (refine And.intro ?_ ?_)
    | ((first | refine awp_region ?_ | refine awp_draw (by kernel_rfl) (by kernel_rfl) ?_ | refine Imp.le2 ?_ | refine awp_label ?_ | refine awp_skip ?_ | refine awp_exit ?_ | refine awp_cd ?_ | refine awp_ret ?_ | refine callK_of (hto) ?_ | refine callK_of (hth) ?_ | refine go_split (fun _h => ?_) (fun _h => ?_)) <;> try simp (maxSteps := 4000000) only [go_sem, seval, clN, rlN, hwl])
    | (intro _h)
    | (refine awp_block ?_)
    | (refine awp_scope ?_)
    | (refine cond_b (fun _h => ?_) (fun _h => ?_))
    | (show heapOK _ _ = true; kernel_rfl)
    | (show heapOK2 _ _ = true; kernel_rfl)
    | (omega)))
      refine awp_loopN t.homes.length (fun h => ⟨mkT 195 [(2, .ptr 0 0 0), (6, .int .i64 11), (10, .psl false late.length (ints late)), (13, .psl false t.homes.length (ints out)), (15, .bool (someN t out late h)), (16, .int .i64 h)], [some (.cells 27 1 0 [.psl false t.homes.length (recs homeC t.homes), .psl false t.halls.length (recs hallC t.halls), .int .i64 t.seats, .int .i64 t.clo, .int .i64 t.chi]), none, none, none, none], []⟩) (.le2 ?_) ?_
      · simp only [someN]; simp (maxSteps := 4000000) only [go_sem, seval]
        all_goals first | rfl | exact ⟨rfl, rfl⟩
      · intro h hh
        rcases Nat.lt_or_eq_of_le hh with hh1 | hh1
        · obtain ⟨v, hv⟩ : ∃ v, out.getD h 0 = v := ⟨_, rfl⟩
          have hob := hbd h hh1
          rw [hv] at hob
          have hgo := (ht.home h hh1).gone
          have hpe := (ht.home h hh1).people
          have hse : someN t out late (h + 1) = (someN t out late h || (decide ((h : Int) ∈ late) && !fineN t v h t.halls.length)) := by rw [← hv]; rfl
          generalize someN t out late h = sh at *
          simp (maxSteps := 4000000) only [go_sem, seval]
          (repeat' (first
    | ((exfalso; omega))
    | ((omega))
    | (refine awp_seqK ?_)
    | (refine kt ?_)
    | (refine And.intro ?_ ?_)
    | ((first | refine awp_region ?_ | refine awp_draw (by kernel_rfl) (by kernel_rfl) ?_ | refine Imp.le2 ?_ | refine awp_label ?_ | refine awp_skip ?_ | refine awp_exit ?_ | refine awp_cd ?_ | refine awp_ret ?_ | refine go_split (fun _h => ?_) (fun _h => ?_)) <;> try simp (maxSteps := 4000000) only [go_sem, seval, hll, hv])
    | (intro _h)
    | (refine awp_block ?_)
    | (refine awp_scope ?_)
    | (refine cond_b (fun _h => ?_) (fun _h => ?_))
    | (show heapOK _ _ = true; kernel_rfl)
    | (show heapOK2 _ _ = true; kernel_rfl)
    | (omega)))
          refine awp_loopN t.halls.length (fun k => ⟨mkT 195 [(2, .ptr 0 0 0), (6, .int .i64 11), (10, .psl false late.length (ints late)), (13, .psl false t.homes.length (ints out)), (15, .bool sh), (16, .int .i64 h), (17, .bool (fineN t v h k)), (18, .int .i64 k)], [some (.cells 27 1 0 [.psl false t.homes.length (recs homeC t.homes), .psl false t.halls.length (recs hallC t.halls), .int .i64 t.seats, .int .i64 t.clo, .int .i64 t.chi]), none, none, none, none], []⟩) (.le2 ?_) ?_
          · simp only [fineN]; simp (maxSteps := 4000000) only [go_sem, seval]
            all_goals first | rfl | exact ⟨rfl, rfl⟩
          · intro k hk
            rcases Nat.lt_or_eq_of_le hk with hk1 | hk1
            · have htk := takes_c t k h hk1 hh1
              have hfs : fineN t v h (k + 1) = (fineN t v h k || (decide (andn (t.homes.getD h default).pets (t.halls.getD k default).pets = 0) && (decide ((t.homes.getD h default).people ≤ (t.halls.getD k default).room) && decide (v + (t.halls.getD k default).drive ≤ (t.homes.getD h default).gone)))) := rfl
              have hdr := (ht.hall k hk1).drive
              have hrm := (ht.hall k hk1).room
              rw [hfs]
              generalize fineN t v h k = fb at *
              simp only [townC, slH, slL] at htk
              simp (maxSteps := 4000000) only [go_sem, seval]
              (repeat' (first
    | ((exfalso; omega))
    | ((omega))
    | (refine awp_seqK ?_)
    | (refine kt ?_)
    | (refine And.intro ?_ ?_)
    | ((first | refine awp_region ?_ | refine awp_draw (by kernel_rfl) (by kernel_rfl) ?_ | refine Imp.le2 ?_ | refine awp_label ?_ | refine awp_skip ?_ | refine awp_exit ?_ | refine awp_cd ?_ | refine awp_ret ?_ | refine callK_of (htk) ?_ | refine go_split (fun _h => ?_) (fun _h => ?_)) <;> try simp (maxSteps := 4000000) only [go_sem, seval, hll, hv])
    | (intro _h)
    | (refine awp_block ?_)
    | (refine awp_scope ?_)
    | (refine cond_b (fun _h => ?_) (fun _h => ?_))
    | (show heapOK _ _ = true; kernel_rfl)
    | (show heapOK2 _ _ = true; kernel_rfl)
    | (omega)))
              all_goals first | rfl | exact ⟨rfl, rfl⟩ | (simp only [‹fb = true›, Bool.true_or]; done) | (simp only [‹fb = false›, Bool.false_or]; symm; simp only [Bool.and_eq_true, decide_eq_true_eq, Bool.and_eq_false_iff, decide_eq_false_iff_not]; first | exact ⟨‹_›, ‹_›, ‹_›⟩ | exact .inl ‹_› | exact .inr (.inl ‹_›) | exact .inr (.inr ‹_›)) | trace_state
            · subst hk1
              generalize fineN t v h t.halls.length = fb at *
              simp (maxSteps := 4000000) only [go_sem, seval]
              (repeat' (first
    | ((exfalso; omega))
    | ((omega))
    | (refine awp_seqK ?_)
    | (refine kt ?_)
    | (refine And.intro ?_ ?_)
    | ((first | refine awp_region ?_ | refine awp_draw (by kernel_rfl) (by kernel_rfl) ?_ | refine Imp.le2 ?_ | refine awp_label ?_ | refine awp_skip ?_ | refine awp_exit ?_ | refine awp_cd ?_ | refine awp_ret ?_ | refine go_split (fun _h => ?_) (fun _h => ?_)) <;> try simp (maxSteps := 4000000) only [go_sem, seval])
    | (intro _h)
    | (refine awp_block ?_)
    | (refine awp_scope ?_)
    | (refine cond_b (fun _h => ?_) (fun _h => ?_))
    | (show heapOK _ _ = true; kernel_rfl)
    | (show heapOK2 _ _ = true; kernel_rfl)
    | (omega)))
              all_goals
                refine awp_loopN late.length (fun i => ⟨mkT 195 [(2, .ptr 0 0 0), (6, .int .i64 11), (10, .psl false late.length (ints late)), (13, .psl false t.homes.length (ints out)), (15, .bool (sh || (hasN late h i && !fb))), (16, .int .i64 h), (17, .bool fb), (19, .int .i64 i)], [some (.cells 27 1 0 [.psl false t.homes.length (recs homeC t.homes), .psl false t.halls.length (recs hallC t.halls), .int .i64 t.seats, .int .i64 t.clo, .int .i64 t.chi]), none, none, none, none], []⟩) (.le2 ?_) ?_
                · simp only [hasN_zero, Bool.false_and, Bool.or_false]; simp (maxSteps := 4000000) only [go_sem, seval]
                  all_goals first | rfl | exact ⟨rfl, rfl⟩
                · intro i hi
                  rcases Nat.lt_or_eq_of_le hi with hi1 | hi1
                  · rw [hasN_succ hi1]
                    generalize hasN late h i = ha at *
                    obtain ⟨w, hw9⟩ : ∃ w, late.getD i 0 = w := ⟨_, rfl⟩
                    cases sh <;> cases ha <;> cases fb <;> simp only [Bool.false_or, Bool.true_or, Bool.or_false, Bool.or_true, Bool.false_and, Bool.true_and, Bool.not_true, Bool.not_false, Bool.and_true, Bool.and_false] <;> (
                      try rw [hw9]
                      simp (maxSteps := 4000000) only [go_sem, seval]
                      (repeat' (first
    | ((exfalso; omega))
    | ((omega))
    | (refine awp_seqK ?_)
    | (refine kt ?_)
    | (refine And.intro ?_ ?_)
    | ((first | refine awp_region ?_ | refine awp_draw (by kernel_rfl) (by kernel_rfl) ?_ | refine Imp.le2 ?_ | refine awp_label ?_ | refine awp_skip ?_ | refine awp_exit ?_ | refine awp_cd ?_ | refine awp_ret ?_ | refine go_split (fun _h => ?_) (fun _h => ?_)) <;> try simp (maxSteps := 4000000) only [go_sem, seval, hw9])
    | (intro _h)
    | (refine awp_block ?_)
    | (refine awp_scope ?_)
    | (refine cond_b (fun _h => ?_) (fun _h => ?_))
    | (show heapOK _ _ = true; kernel_rfl)
    | (show heapOK2 _ _ = true; kernel_rfl)
    | (omega)))
                      all_goals first | rfl | exact ⟨rfl, rfl⟩ | (simp [*]; done) | trace_state)
                  · subst hi1
                    rw [hasN_all]
                    rw [hse]
                    generalize (sh || (decide ((h : Int) ∈ late) && !fb)) = s2
                    simp (maxSteps := 4000000) only [go_sem, seval]
                    (repeat' (first
    | ((exfalso; omega))
    | ((omega))
    | (refine awp_seqK ?_)
    | (refine kt ?_)
    | (refine And.intro ?_ ?_)
    | ((first | refine awp_region ?_ | refine awp_draw (by kernel_rfl) (by kernel_rfl) ?_ | refine Imp.le2 ?_ | refine awp_label ?_ | refine awp_skip ?_ | refine awp_exit ?_ | refine awp_cd ?_ | refine awp_ret ?_ | refine go_split (fun _h => ?_) (fun _h => ?_)) <;> try simp (maxSteps := 4000000) only [go_sem, seval])
    | (intro _h)
    | (refine awp_block ?_)
    | (refine awp_scope ?_)
    | (refine cond_b (fun _h => ?_) (fun _h => ?_))
    | (show heapOK _ _ = true; kernel_rfl)
    | (show heapOK2 _ _ = true; kernel_rfl)
    | (omega)))
                    all_goals first | rfl | exact ⟨rfl, rfl⟩ | omega | trace_state
        · subst hh1
          rw [hsome]
          simp (maxSteps := 4000000) only [go_sem, seval]
          (repeat' (first
    | ((exfalso; omega))
    | ((omega))
    | (refine awp_seqK ?_)
    | (refine kt ?_)
    | (refine And.intro ?_ ?_)
    | ((first | refine awp_region ?_ | refine awp_draw (by kernel_rfl) (by kernel_rfl) ?_ | refine Imp.le2 ?_ | refine awp_label ?_ | refine awp_skip ?_ | refine awp_exit ?_ | refine awp_cd ?_ | refine awp_ret ?_ | refine callK_of (hA) ?_ | refine go_split (fun _h => ?_) (fun _h => ?_)) <;> try simp (maxSteps := 4000000) only [go_sem, seval, hll])
    | (intro _h)
    | (refine awp_block ?_)
    | (refine awp_scope ?_)
    | (refine cond_b (fun _h => ?_) (fun _h => ?_))
    | (show heapOK _ _ = true; kernel_rfl)
    | (show heapOK2 _ _ = true; kernel_rfl)
    | (omega)))
          all_goals trace_state
end Go.Am

/- The law AwayCalled, as a contract: it returns true. -/
namespace Go.Am
open Go.RowKit Go.Proofs
attribute [local irreducible] AWP CallS Kt goK CallK stepK evOps SemF SemY Imp
set_option maxRecDepth 4000
set_option linter.unusedSimpArgs false
set_option linter.unusedVariables false
set_option maxHeartbeats 3200000

theorem awayCalled_c (t : Town) (words : List Int) (hw : WordsOK words) : CallS Tryz.prog 3 [.agg (townC t), slU words] (.bool true) := by
  cases hR : readyB t with
  | false => exact called_out t words hR
  | true =>
    by_cases hL : lateN t = 0
    · exact called_early t words hw hR hL
    · exact called_late t words hw hR hL
end Go.Am
