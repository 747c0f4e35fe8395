/- Parts TpC of the proof, one behind the other. No statement is proved here. -/
import Derived.Test.YtghlpjfpfjpddaaFg
/- The core of the law AwayFewest, where the plan is right. -/
namespace Go.Am
open Go.RowKit Go.Proofs
attribute [local irreducible] AWP CallS Kt goK CallK stepK evOps SemF SemY Imp
set_option maxRecDepth 4000
set_option linter.unusedSimpArgs false
set_option linter.unusedVariables false
set_option maxHeartbeats 3200000

theorem few_true (t : Town) (plan : List Bus) (one two : Int) (h1 : 0 ≤ one ∧ one ≤ 255) (h2 : 0 ≤ two ∧ two ≤ 255) (hR : readyB t = true) (hS : shortB plan = true) (hE : planE t = 0) (hq : proveB t plan = true) : CallS Try.prog 3 [.agg (townC t), slB plan, .int .u8 one, .int .u8 two] (.bool true) := by
  have hre := ready_c t
  have hsh := short_c plan
  have hA := awake_c
  rw [hR] at hre
  rw [hS] at hsh
  obtain ⟨hb, h0⟩ := ready_ok hR
  obtain ⟨hP, hP1, hP2⟩ := shortB_ok hS
  have ht := faultT_zero h0
  have hln := ht.homes
  have hhl := ht.halls
  have hsea := ht.seats
  have hto := Town_c t hb
  have hpl := Plan_c t hb
  have hpt := planTo_c plan hP
  have hpr := prove_c t plan hb hP
  have hPL := planL_sh2 h0
  have hrp := (plan_right h0 hE).1
  obtain ⟨s1, s2, s3⟩ := right_sum ht hrp
  have hR8 := (refR_iff ht).1 hrp
  have s1 : peoN t t.homes.length ≤ (planL t).length * t.seats := s1
  have hfew := fun Q => few_not h0 hE (Q := Q)
  have hfp : proveB t plan = true → (planL t).length ≤ plan.length := fun h => by
    rcases Nat.lt_or_ge plan.length (planL t).length with h3 | h3
    · rw [hfew plan h3] at h; cases h
    · exact h3
  have hbk := back_c (planL t) hPL
  have hPB := rightB_some hrp
  simp only [planV, hE, if_true] at hpl
  generalize planL t = P at *
  rw [hq] at hpr
  have hpb := fun k hk => peoN_bd ht k hk
  simp only [slB, townC, slH, slL, sl] at hre hsh hto hpl hpt hpr ⊢
  (refine callS_of_awp (fun w args => Try.call3 ..) Try.func3 rfl (fun w0 m0 wz => ?_); simp only [Try.ntmps3, Try.results3, initT, junks, homeC, hallC, slH, slL, townC, sl, List.toList_toArray, List.cons_append, List.nil_append, List.length_cons, List.length_nil, Nat.reduceAdd, Nat.reduceSub])
  (repeat' (first
    | (refine awp_seqK ?_)
    | (refine kt ?_)
    | (refine And.intro ?_ ?_)
    | ((first | refine awp_region ?_ | refine awp_draw (by kernel_rfl) (by kernel_rfl) ?_ | refine Imp.le2 ?_ | refine awp_label ?_ | refine awp_skip ?_ | refine awp_exit ?_ | refine awp_cd ?_ | refine awp_ret ?_ | refine callK_of (hre) ?_ | refine callK_of (hsh) ?_ | refine callK_of (hto) ?_ | refine callK_of (hpl) ?_ | refine callK_of (hpt) ?_ | refine callK_of (hpr) ?_ | refine callK_of (hA) ?_ | refine go_split (fun _h => ?_) (fun _h => ?_)) <;> try simp (maxSteps := 4000000) only [go_sem, seval, decide_true, decide_false])
    | (intro _h)
    | (refine awp_block ?_)
    | (refine awp_scope ?_)
    | (refine cond_b (fun _h => ?_) (fun _h => ?_))
    | (show heapOK _ _ = true; kernel_rfl)
    | (show heapOK2 _ _ = true; kernel_rfl)
    | (omega)))
  refine awp_loopN t.homes.length (fun k => ⟨mkT 245 [(1, slB plan), (2, .int .u8 one), (3, .int .u8 two), (4, .ptr 0 0 0), (9, slB P), (11, .int .i64 (peoN t k)), (12, .int .i64 k)], [some (.cells 27 1 0 (townC t))], []⟩) (.le2 ?_) ?_
  · simp only [townC, slH, slL, slB, sl, peoN, sumN]; simp (maxSteps := 4000000) only [go_sem, seval]
    try (first | rfl | exact ⟨rfl, rfl⟩)
  · intro k hk
    have hpk := hpb k hk
    rcases Nat.lt_or_eq_of_le hk with hk1 | hk1
    · have hp1 := (ht.home k hk1).people
      have hst : peoN t k + (t.homes.getD k default).people = peoN t (k + 1) := rfl
      simp only [townC, slH, slL, slB, sl]; simp (maxSteps := 4000000) only [go_sem, seval]
      (repeat' (first
    | ((exfalso; omega))
    | ((omega))
    | (refine awp_seqK ?_)
    | (refine kt ?_)
    | (refine And.intro ?_ ?_)
    | ((first | refine awp_region ?_ | refine awp_draw (by kernel_rfl) (by kernel_rfl) ?_ | refine Imp.le2 ?_ | refine awp_label ?_ | refine awp_skip ?_ | refine awp_exit ?_ | refine awp_cd ?_ | refine awp_ret ?_ | refine go_split (fun _h => ?_) (fun _h => ?_)) <;> try simp (maxSteps := 4000000) only [go_sem, seval, hst])
    | (intro _h)
    | (refine awp_block ?_)
    | (refine awp_scope ?_)
    | (refine cond_b (fun _h => ?_) (fun _h => ?_))
    | (show heapOK _ _ = true; kernel_rfl)
    | (show heapOK2 _ _ = true; kernel_rfl)
    | (omega)))
      all_goals trace_state
    · subst hk1
      have e1 : ((P.length : Int) * t.seats < peoN t t.homes.length) = False := eq_false (by omega)
      have e2 : ((P.length : Int) < 1) = False := eq_false (by omega)
      have e3 : ((t.homes.length : Int) < P.length) = False := eq_false (by omega)
      have e4 : ((plan.length : Int) < P.length) = False := eq_false (by have := hfp hq; omega)
      obtain ⟨a, haP, hae⟩ := at_mod (n := P.length) h1.1 (by omega)
      obtain ⟨b, hbP, hbe⟩ := at_mod (n := P.length) h2.1 (by omega)
      have m1 := mul_bd (a := (P.length : Int)) (b := t.seats) (A := 8) (B := 200) (by omega) (by omega) (by omega) hsea.2
      simp only [townC, slH, slL, slB, sl]; simp (maxSteps := 4000000) only [go_sem, seval]
      (repeat' (first
    | ((exfalso; omega))
    | ((omega))
    | (refine awp_seqK ?_)
    | (refine kt ?_)
    | (refine And.intro ?_ ?_)
    | ((first | refine awp_region ?_ | refine awp_draw (by kernel_rfl) (by kernel_rfl) ?_ | refine Imp.le2 ?_ | refine awp_label ?_ | refine awp_skip ?_ | refine awp_exit ?_ | refine awp_cd ?_ | refine awp_ret ?_ | refine callK_of (hto) ?_ | refine callK_of (hpt) ?_ | refine callK_of (hpr) ?_ | refine callK_of (hA) ?_ | refine go_split (fun _h => ?_) (fun _h => ?_)) <;> try simp (maxSteps := 4000000) only [go_sem, seval, e1, e2, e3, e4, hae, hbe, decide_true, decide_false])
    | (intro _h)
    | (refine awp_block ?_)
    | (refine awp_scope ?_)
    | (refine cond_b (fun _h => ?_) (fun _h => ?_))
    | (show heapOK _ _ = true; kernel_rfl)
    | (show heapOK2 _ _ = true; kernel_rfl)
    | (omega)))
      all_goals
        obtain ⟨A, hAe⟩ : ∃ A, P.getD a default = A := ⟨_, rfl⟩
        obtain ⟨B, hBe⟩ : ∃ B, P.getD b default = B := ⟨_, rfl⟩
        have hAl := hPL.2 _ (getD_mem (d := default) haP)
        have hBl := hPL.2 _ (getD_mem (d := default) hbP)
        have hA8 := rise_le (hR8.one a haP)
        have hB8 := rise_le (hR8.one b hbP)
        rw [hAe] at hAl hA8
        rw [hBe] at hBl hB8
        refine awp_loopN t.halls.length (fun h => ⟨mkT 245 [(4, .ptr 0 0 0), (9, slB P), (13, .int .i64 a), (14, .int .i64 b), (15, .int .i64 h)], [some (.cells 27 1 0 (townC t))], []⟩) (.le2 ?_) ?_
        · simp only [townC, slH, slL, slB, sl]; simp (maxSteps := 4000000) only [go_sem, seval]
          try (first | rfl | exact ⟨rfl, rfl⟩)
        · intro h hh
          rcases Nat.lt_or_eq_of_le hh with hh1 | hh1
          · simp only [townC, slH, slL, slB, sl]; simp (maxSteps := 4000000) only [go_sem, seval]
            (repeat' (first
    | ((exfalso; omega))
    | ((omega))
    | (refine awp_seqK ?_)
    | (refine kt ?_)
    | (refine And.intro ?_ ?_)
    | ((first | refine awp_region ?_ | refine awp_draw (by kernel_rfl) (by kernel_rfl) ?_ | refine Imp.le2 ?_ | refine awp_label ?_ | refine awp_skip ?_ | refine awp_exit ?_ | refine awp_cd ?_ | refine awp_ret ?_ | refine go_split (fun _h => ?_) (fun _h => ?_)) <;> try simp (maxSteps := 4000000) only [go_sem, seval, hAe, hBe, busC])
    | (intro _h)
    | (refine awp_block ?_)
    | (refine awp_scope ?_)
    | (refine cond_b (fun _h => ?_) (fun _h => ?_))
    | (show heapOK _ _ = true; kernel_rfl)
    | (show heapOK2 _ _ = true; kernel_rfl)
    | (omega)))
            refine awp_adH 1 2 3 1 rfl rfl ?_
            refine awp_loopJ (fun y : Nat × List Int => y.1 ≤ t.homes.length ∧ y.2.length ≤ y.1 * (A.homes.length + B.homes.length)) (fun y => ⟨mkT 245 [(4, .ptr 0 0 0), (9, slB P), (13, .int .i64 a), (14, .int .i64 b), (15, .int .i64 h), (16, .nils), (17, .ptr 1 0 0), (18, .int .i64 y.1)], [some (.cells 27 1 0 (townC t)), some (.cells 49 1 0 [.int .i64 (max A.leave B.leave), .int .i64 h, .osl 2 y.2.length 0 y.2.length]), some (.cells 3 1 y.2.length (ints y.2))], []⟩) (fun y => t.homes.length - y.1) (0, []) ⟨Nat.zero_le _, by simp⟩ (.le2 ?_) ?_
            · simp only [townC, slH, slL, slB, sl]; simp (maxSteps := 4000000) only [go_sem, seval, adH]
              all_goals trace_state
            · rintro ⟨x, hs⟩ ⟨hx, hhs⟩
              simp only at hx hhs
              rcases Nat.lt_or_eq_of_le hx with hx1 | hx1
              · obtain ⟨W, hW⟩ : ∃ W, W = A.homes.length + B.homes.length := ⟨_, rfl⟩
                rw [← hW] at hhs ⊢
                have hWx : (x + 1) * W = x * W + W := Nat.succ_mul x W
                have hWb : x * W ≤ 8 * W := Nat.mul_le_mul_right W (by omega)
                simp only [townC, slH, slL, slB, sl]; simp (maxSteps := 4000000) only [go_sem, seval]
                (repeat' (first
    | ((exfalso; omega))
    | ((omega))
    | (refine awp_seqK ?_)
    | (refine kt ?_)
    | (refine And.intro ?_ ?_)
    | ((first | refine awp_region ?_ | refine awp_draw (by kernel_rfl) (by kernel_rfl) ?_ | refine Imp.le2 ?_ | refine awp_label ?_ | refine awp_skip ?_ | refine awp_exit ?_ | refine awp_cd ?_ | refine awp_ret ?_ | refine go_split (fun _h => ?_) (fun _h => ?_)) <;> try simp (maxSteps := 4000000) only [go_sem, seval])
    | (intro _h)
    | (refine awp_block ?_)
    | (refine awp_scope ?_)
    | (refine cond_b (fun _h => ?_) (fun _h => ?_))
    | (show heapOK _ _ = true; kernel_rfl)
    | (show heapOK2 _ _ = true; kernel_rfl)
    | (omega)))
                refine awp_loopJ (fun y : Nat × List Int => y.1 ≤ W ∧ y.2.length ≤ x * W + y.1) (fun y => ⟨mkT 245 [(4, .ptr 0 0 0), (9, slB P), (13, .int .i64 a), (14, .int .i64 b), (15, .int .i64 h), (16, .nils), (17, .ptr 1 0 0), (18, .int .i64 x), (19, .int .i64 y.1)], [some (.cells 27 1 0 (townC t)), some (.cells 49 1 0 [.int .i64 (max A.leave B.leave), .int .i64 h, .osl 2 y.2.length 0 y.2.length]), some (.cells 3 1 y.2.length (ints y.2))], []⟩) (fun y => W - y.1) (0, hs) ⟨Nat.zero_le _, by simp only; omega⟩ (.le2 ?_) ?_
                · simp only [townC, slH, slL, slB, sl]; simp (maxSteps := 4000000) only [go_sem, seval]
                  all_goals trace_state
                · rintro ⟨i, gs⟩ ⟨hi, hgs⟩
                  simp only at hi hgs
                  have hap : ints gs ++ [.int .i64 (x : Int)] = ints (gs ++ [(x : Int)]) := by simp [ints_append, ints_cons, ints_nil]
                  rcases Nat.lt_or_eq_of_le hi with hi1 | hi1
                  · have ei : ((i : Int) - (A.homes.length : Int)).toNat = i - A.homes.length := by omega
                    have ei2 : (i : Int).toNat = i := by omega
                    simp only [townC, slH, slL, slB, sl]; simp (maxSteps := 4000000) only [go_sem, seval]
                    (repeat' (first
    | ((exfalso; omega))
    | ((omega))
    | (refine awp_seqK ?_)
    | (refine kt ?_)
    | (refine And.intro ?_ ?_)
    | ((first | refine awp_region ?_ | refine awp_draw (by kernel_rfl) (by kernel_rfl) ?_ | refine Imp.le2 ?_ | refine awp_label ?_ | refine awp_skip ?_ | refine awp_exit ?_ | refine awp_cd ?_ | refine awp_ret ?_ | refine go_split (fun _h => ?_) (fun _h => ?_)) <;> try simp (maxSteps := 4000000) only [go_sem, seval, hAe, hBe, busC, sl, hap, ei, ei2])
    | (intro _h)
    | (refine awp_block ?_)
    | (refine awp_scope ?_)
    | (refine cond_b (fun _h => ?_) (fun _h => ?_))
    | (show heapOK _ _ = true; kernel_rfl)
    | (show heapOK2 _ _ = true; kernel_rfl)
    | (omega)))
                    all_goals first
                      | (refine ⟨(i + 1, gs), ⟨by simp only; omega, by simp only; omega⟩, by simp only; omega, .le2 ?_⟩
                         (try simp only [townC, slH, slL, slB, sl]); simp (maxSteps := 4000000) only [go_sem, seval]
                         all_goals first | rfl | exact ⟨rfl, rfl⟩ | omega)
                      | (refine ⟨(i + 1, gs ++ [(x : Int)]), ⟨by simp only; omega, by simp only [List.length_append, List.length_singleton]; omega⟩, by simp only; omega, .le2 ?_⟩
                         (try simp only [townC, slH, slL, slB, sl, List.length_append, List.length_singleton]); simp (maxSteps := 4000000) only [go_sem, seval, List.length_append, List.length_singleton]
                         all_goals first | rfl | exact ⟨rfl, rfl⟩ | omega)
                      | trace_state
                  · subst hi1
                    simp only [townC, slH, slL, slB, sl]; simp (maxSteps := 4000000) only [go_sem, seval]
                    (repeat' (first
    | ((exfalso; omega))
    | ((omega))
    | (refine awp_seqK ?_)
    | (refine kt ?_)
    | (refine And.intro ?_ ?_)
    | ((first | refine awp_region ?_ | refine awp_draw (by kernel_rfl) (by kernel_rfl) ?_ | refine Imp.le2 ?_ | refine awp_label ?_ | refine awp_skip ?_ | refine awp_exit ?_ | refine awp_cd ?_ | refine awp_ret ?_ | refine go_split (fun _h => ?_) (fun _h => ?_)) <;> try simp (maxSteps := 4000000) only [go_sem, seval, hAe, hBe, busC, sl])
    | (intro _h)
    | (refine awp_block ?_)
    | (refine awp_scope ?_)
    | (refine cond_b (fun _h => ?_) (fun _h => ?_))
    | (show heapOK _ _ = true; kernel_rfl)
    | (show heapOK2 _ _ = true; kernel_rfl)
    | (omega)))
                    all_goals first
                      | (refine ⟨(x + 1, gs), ⟨by simp only; omega, by simp only; omega⟩, by simp only; omega, .le2 ?_⟩
                         (try simp only [townC, slH, slL, slB, sl]); simp (maxSteps := 4000000) only [go_sem, seval]
                         try (first | rfl | exact ⟨rfl, rfl⟩ | omega))
                      | trace_state
              · subst hx1
                simp only [townC, slH, slL, slB, sl]; simp (maxSteps := 4000000) only [go_sem, seval]
                (repeat' (first
    | (refine awp_frz (c := .region 29 _ _) 2 rfl (by simp (maxSteps := 4000000) only [go_sem, seval, hAe, hBe, busC]) (fun _ => rfl) ?_; simp only [frz, fzl, fz2, fz1, fz0, fzH, fzHs, fzO, fzB, List.map_cons, List.map_nil, if_true, if_false, reduceIte, Nat.reduceEqDiff, Nat.reduceAdd, Nat.succ_ne_self, Nat.zero_ne_one, Nat.one_ne_zero, reduceCtorEq, and_self])
    | ((exfalso; omega))
    | ((omega))
    | (refine awp_seqK ?_)
    | (refine kt ?_)
    | (refine And.intro ?_ ?_)
    | ((first | refine awp_region ?_ | refine awp_draw (by kernel_rfl) (by kernel_rfl) ?_ | refine Imp.le2 ?_ | refine awp_label ?_ | refine awp_skip ?_ | refine awp_exit ?_ | refine awp_cd ?_ | refine awp_ret ?_ | refine go_split (fun _h => ?_) (fun _h => ?_)) <;> try simp (maxSteps := 4000000) only [go_sem, seval, hAe, hBe, busC])
    | (intro _h)
    | (refine awp_block ?_)
    | (refine awp_scope ?_)
    | (refine cond_b (fun _h => ?_) (fun _h => ?_))
    | (show heapOK _ _ = true; kernel_rfl)
    | (show heapOK2 _ _ = true; kernel_rfl)
    | (omega)))
                have hwin : ∀ k, k < P.length → window (recs busC P) (k * 3) 3 = busC (P.getD k default) := fun k hk => recs_window (d := default) (sz := 3) (fun _ => rfl) hk
                have hhsl : hs.length ≤ 1000000 := by
                  have : t.homes.length * (A.homes.length + B.homes.length) ≤ 8 * (A.homes.length + B.homes.length) := Nat.mul_le_mul_right _ (by omega)
                  omega
                refine awp_loopJ (fun y : Nat × Nat × List Bus => y.1 ≤ P.length ∧ y.2.2.length = y.2.1 + 1 ∧ y.2.2.length + (if a < y.1 then 1 else 0) + (if b < y.1 then 1 else 0) = y.1 + 1 ∧ ∀ c ∈ y.2.2, c.homes.length ≤ 1000000) (fun y => ⟨mkT 245 [(4, .ptr 0 0 0), (9, slB P), (13, .int .i64 a), (14, .int .i64 b), (15, .int .i64 h), (16, .osl 3 y.2.1 0 y.2.2.length), (20, .int .i64 y.1)], [some (.cells 27 1 0 (townC t)), none, none, some (.cells 49 3 y.2.1 (recs busC y.2.2))], []⟩) (fun y => P.length - y.1) (0, 0, [⟨max A.leave B.leave, h, hs⟩]) ⟨Nat.zero_le _, rfl, rfl, fun c hc => by simp only [List.mem_singleton] at hc; subst hc; exact hhsl⟩ (.le2 ?_) ?_
                · simp only [townC, slH, slL, slB, sl]; simp (maxSteps := 4000000) only [go_sem, seval]
                  all_goals first | rfl | exact ⟨rfl, rfl⟩ | (simp [recs, busC, sl]; done)
                · rintro ⟨k, g, js⟩ ⟨hk, hg, hc, hj⟩
                  simp only at hk hg hc hj
                  rcases Nat.lt_or_eq_of_le hk with hk1 | hk1
                  · obtain ⟨c, hce⟩ : ∃ c, P.getD k default = c := ⟨_, rfl⟩
                    have hcm : c ∈ P := by rw [← hce]; exact getD_mem (d := default) hk1
                    have hb1 := back_c [c] ⟨by simp, fun d hd => by simp only [List.mem_singleton] at hd; subst hd; exact hPL.2 _ hcm⟩
                    have eB : slB [c] = .psl false 1 (busC c) := by simp [slB, recs]
                    rw [eB] at hb1
                    have hw1 := hwin k hk1
                    rw [hce] at hw1
                    have ek : ((k : Int) + 1 - (k : Int)).toNat = 1 := by omega
                    have hbl : (busC c).length = 3 := rfl
                    have hsn : recs busC js ++ busC c = recs busC (js ++ [c]) := by simp [recs]
                    have hpc : c.homes.length ≤ 1000000 := hPL.2 _ hcm
                    simp only [townC, slH, slL, slB, sl]; simp (maxSteps := 4000000) only [go_sem, seval]
                    (repeat' (first
    | ((exfalso; omega))
    | ((omega))
    | (refine awp_seqK ?_)
    | (refine kt ?_)
    | (refine And.intro ?_ ?_)
    | ((first | refine awp_region ?_ | refine awp_draw (by kernel_rfl) (by kernel_rfl) ?_ | refine Imp.le2 ?_ | refine awp_label ?_ | refine awp_skip ?_ | refine awp_exit ?_ | refine awp_cd ?_ | refine awp_ret ?_ | refine callK_of (hb1) ?_ | refine go_split (fun _h => ?_) (fun _h => ?_)) <;> try simp (maxSteps := 4000000) only [go_sem, seval, hw1, ek, hbl, hsn])
    | (intro _h)
    | (refine awp_block ?_)
    | (refine awp_scope ?_)
    | (refine cond_b (fun _h => ?_) (fun _h => ?_))
    | (show heapOK _ _ = true; kernel_rfl)
    | (show heapOK2 _ _ = true; kernel_rfl)
    | (omega)))
                    all_goals first
                      | (refine ⟨(k + 1, g, js), ⟨by simp only; omega, by simp only; omega, by simp only; split at hc <;> split at hc <;> split <;> split <;> omega, hj⟩, by simp only; omega, .le2 ?_⟩
                         (try simp only [townC, slH, slL, slB, sl]); simp (maxSteps := 4000000) only [go_sem, seval]
                         all_goals first | rfl | exact ⟨rfl, rfl⟩ | omega)
                      | (refine ⟨(k + 1, g + 1, js ++ [c]), ⟨by simp only; omega, by simp only [List.length_append, List.length_singleton]; omega, by simp only [List.length_append, List.length_singleton]; split at hc <;> split at hc <;> split <;> split <;> omega, fun d hd => by simp only [List.mem_append, List.mem_singleton] at hd; rcases hd with h | h; exact hj d h; subst h; exact hpc⟩, by simp only; omega, .le2 ?_⟩
                         (try simp only [townC, slH, slL, slB, sl, List.length_append, List.length_singleton]); simp (maxSteps := 4000000) only [go_sem, seval, List.length_append, List.length_singleton]
                         all_goals first | rfl | exact ⟨rfl, rfl⟩ | omega)
                      | trace_state
                  · subst hk1
                    rw [if_pos haP, if_pos hbP] at hc
                    have hjs : PlanS js := ⟨by omega, hj⟩
                    have hpj := planTo_c js hjs
                    have hrj := prove_c t js hb hjs
                    rw [hfew js (by omega)] at hrj
                    simp only [slB, townC, slH, slL, sl] at hpj hrj
                    simp only [townC, slH, slL, slB, sl]; simp (maxSteps := 4000000) only [go_sem, seval]
                    (repeat' (first
    | (refine awp_frz (c := .region 35 _ _) 3 rfl (by simp (maxSteps := 4000000) only [go_sem, seval]) (fun _ => rfl) ?_; simp only [frz, fq_pure, fzB_c, fzB_m, fzB_d, fzB_l, fzO, fzH, fzHs, fzl, fz2, fz1, fz0, List.map_cons, List.map_nil, if_true, if_false, reduceIte, Nat.reduceEqDiff, Nat.reduceAdd, Nat.succ_ne_self, Nat.zero_ne_one, Nat.one_ne_zero, reduceCtorEq, and_self])
    | ((exfalso; omega))
    | ((omega))
    | (refine awp_seqK ?_)
    | (refine kt ?_)
    | (refine And.intro ?_ ?_)
    | ((first | refine awp_region ?_ | refine awp_draw (by kernel_rfl) (by kernel_rfl) ?_ | refine Imp.le2 ?_ | refine awp_label ?_ | refine awp_skip ?_ | refine awp_exit ?_ | refine awp_cd ?_ | refine awp_ret ?_ | refine callK_of (hto) ?_ | refine callK_of (hpj) ?_ | refine callK_of (hrj) ?_ | refine go_split (fun _h => ?_) (fun _h => ?_)) <;> try simp (maxSteps := 4000000) only [go_sem, seval])
    | (intro _h)
    | (refine awp_block ?_)
    | (refine awp_scope ?_)
    | (refine cond_b (fun _h => ?_) (fun _h => ?_))
    | (show heapOK _ _ = true; kernel_rfl)
    | (show heapOK2 _ _ = true; kernel_rfl)
    | (omega)))
                    all_goals trace_state
          · subst hh1
            simp only [townC, slH, slL, slB, sl]; simp (maxSteps := 4000000) only [go_sem, seval]
            (repeat' (first
    | ((exfalso; omega))
    | ((omega))
    | (refine awp_seqK ?_)
    | (refine kt ?_)
    | (refine And.intro ?_ ?_)
    | ((first | refine awp_region ?_ | refine awp_draw (by kernel_rfl) (by kernel_rfl) ?_ | refine Imp.le2 ?_ | refine awp_label ?_ | refine awp_skip ?_ | refine awp_exit ?_ | refine awp_cd ?_ | refine awp_ret ?_ | refine callK_of (hA) ?_ | refine go_split (fun _h => ?_) (fun _h => ?_)) <;> try simp (maxSteps := 4000000) only [go_sem, seval])
    | (intro _h)
    | (refine awp_block ?_)
    | (refine awp_scope ?_)
    | (refine cond_b (fun _h => ?_) (fun _h => ?_))
    | (show heapOK _ _ = true; kernel_rfl)
    | (show heapOK2 _ _ = true; kernel_rfl)
    | (omega)))
            all_goals trace_state
end Go.Am
