/- Parts TdH, RwA, TgA, Wa, TgB of the proof, one behind the other. No statement is proved here. -/
import Derived.Test.YtghlpjfpfjpddaaE2
import Derived.Test.YtghlpjfpfjpddaaN3
import Derived.Test.YtghlpjfpfjpddaaE1
import Derived.KernelRfl
import Derived.Carry
import Derived.Test.YtghlpjfpfjpddaaN4
import Derived.Test.YtghlpjfpfjpddaaProg
/- Contracts of the away functions: a plan. -/
namespace Go.Am
open Go.RowKit Go.Proofs
attribute [local irreducible] AWP CallS Kt goK CallK stepK evOps SemF SemY Imp
set_option maxRecDepth 4000
set_option linter.unusedSimpArgs false
set_option linter.unusedVariables false
set_option maxHeartbeats 3200000

theorem ey_x {X : Ctx} {H' : List (Option ABlk)} {b id : Nat} {y : Bool} {s : St} : endY X b y H' (.exit id) s = recK .busy (hget s.H b) fun fn T ps asg body d => y = false ∧ Le2 X ⟨[], hset s.H b (.loop .done (some (.exit id)) fn T ps asg body d), []⟩ ⟨[], H', []⟩ := nrfl rfl
attribute [go_sem] ey_x
def planE (t : Town) : Int := if faultT t ≠ 0 then faultT t else if 1000 ≤ needV t (stBeg t t.homes.length t.halls.length) then 9 else 0
def planL (t : Town) : List Bus := planF t 256 (stBeg t t.homes.length t.halls.length)
def planV (t : Town) : AV := if planE t = 0 then slB (planL t) else .nils
theorem stBeg_ok {t : Town} (ht : TownOK t) {n : Nat} (hn : n ≤ t.homes.length) : StOK t (stBeg t n t.halls.length) := by
  have h0 := ht.hall 0
  have h1 := ht.hall 1
  have h2 := ht.hall 2
  refine ⟨?_, fun i => ?_⟩
  · have : 2 ^ n ≤ 2 ^ t.homes.length := Nat.pow_le_pow_right (by omega) hn
    have := Nat.two_pow_pos n
    show 2 ^ n - 1 < _
    omega
  · simp only [Sta.room, stBeg]
    by_cases a : 0 < t.halls.length
    · have b0 := (h0 a).room
      by_cases c : 1 < t.halls.length
      · have b1 := (h1 c).room
        by_cases d : 2 < t.halls.length
        · have b2 := (h2 d).room
          simp only [a, c, d, if_true]; split <;> (try split) <;> omega
        · simp only [a, c, d, if_true, if_false]; split <;> (try split) <;> omega
      · simp only [a, c, show ¬ 2 < t.halls.length by omega, if_true, if_false]; split <;> (try split) <;> omega
    · simp only [a, show ¬ 1 < t.halls.length by omega, show ¬ 2 < t.halls.length by omega, if_false]; split <;> (try split) <;> omega
def plH (t : Town) (s : Sta) (L : List Bus) (K : Kmap) : List (Option ABlk) :=
  [some (.cells 40 1 0 (townC t)), some (.cells 32 1 0 [.osl 7 L.length 0 L.length]), none, some (.map (kmC K)), plB t 3, some (.cells 93 1 0 [.ptr 4 0 0]), some (.cells 98 1 0 (stC s)), some (.cells 48 3 L.length (recs busC L))]
def rT : List AV := mkT 47 [(1, .ptr 0 0 0), (2, .ptr 1 0 0), (5, .ptr 5 0 0), (6, .ptr 6 0 0), (30, .fn (.func 76) [] [.ptr 9 0 0, .ptr 8 0 0])]
def plT : List AV := mkT 47 [(1, .ptr 0 0 0), (2, .ptr 1 0 0), (5, .ptr 5 0 0), (6, .ptr 6 0 0)]
theorem Plan_c (t : Town) (hb : townOK t) : CallS Try.prog 17 [.agg (townC t)] (.tup [planV t, .int .i64 (planE t)]) := by
  have hch := check_c t hb
  by_cases h0 : faultT t = 0
  · have ht := faultT_zero h0
    have hln := ht.homes
    have e0 : (faultT t = 0) = True := eq_true h0
    have hpl := planning_c t ht
    have hbe := begin_c t t.homes.length [] ht (by omega)
    have hso := stBeg_ok ht (Nat.le_refl _)
    have hfw := fewest_c t ht _ [] hso GoodK.nil
    have hK := fwK_good (hso.lt ht) (GoodK.nil (t := t))
    generalize hs0 : stBeg t t.homes.length t.halls.length = s0 at *
    generalize fwK t s0 [] = K at *
    have hnb := needV_bd (t := t) (s := s0)
    simp only [h0, plH, plT, plB, planC, busC, sl, townC, slH, slL, stC] at hch hpl hbe hfw
    by_cases hl : 1000 ≤ needV t s0
    · have e1 : planE t = 9 := by simp [planE, h0, hs0, hl]
      have e2 : (1000 ≤ needV t s0) = True := eq_true hl
      rw [show planV t = .nils by simp [planV, e1], e1]
      (refine callS_of_awp (fun w args => Try.call17 ..) Try.func17 rfl (fun w0 m0 wz => ?_); simp only [Try.ntmps17, Try.results17, initT, junks, homeC, hallC, slH, slL, townC, sl, List.toList_toArray, List.cons_append, List.nil_append, List.length_cons, List.length_nil, Nat.reduceAdd, Nat.reduceSub])
      (repeat' (first
    | (refine awp_ownN 1 rfl ?_; simp (maxSteps := 4000000) only [go_sem, seval, List.take_succ_cons, List.take_zero, e0, decide_true, e2]; (repeat refine And.intro (by omega) ?_); refine own_go (hpl) [] rfl ?_ ?_ rfl ?_ <;> try simp (maxSteps := 4000000) only [go_sem, seval, Nat.lt_irrefl, e0, decide_true, e2] <;> try decide)
    | (refine awp_ownN 4 rfl ?_; simp (maxSteps := 4000000) only [go_sem, seval, List.take_succ_cons, List.take_zero, e0, decide_true, e2]; (repeat refine And.intro (by omega) ?_); refine own_go (hbe) [4, 3] rfl ?_ ?_ rfl ?_ <;> try simp (maxSteps := 4000000) only [go_sem, seval, Nat.lt_irrefl, e0, decide_true, e2] <;> try decide)
    | (refine awp_ownN 2 rfl ?_; simp (maxSteps := 4000000) only [go_sem, seval, List.take_succ_cons, List.take_zero, e0, decide_true, e2]; (repeat refine And.intro (by omega) ?_); refine own_go (hfw) [4, 3] rfl ?_ ?_ rfl ?_ <;> try simp (maxSteps := 4000000) only [go_sem, seval, Nat.lt_irrefl, e0, decide_true, e2] <;> try decide)
    | (refine awp_seqK ?_)
    | (refine kt ?_)
    | (refine And.intro ?_ ?_)
    | ((first | refine awp_region ?_ | refine awp_draw (by kernel_rfl) (by kernel_rfl) ?_ | refine Imp.le2 ?_ | refine awp_label ?_ | refine awp_skip ?_ | refine awp_exit ?_ | refine awp_cd ?_ | refine awp_ret ?_ | refine callK_of (hch) ?_ | refine go_split (fun _h => ?_) (fun _h => ?_)) <;> try simp (maxSteps := 4000000) only [go_sem, seval, e0, decide_true, e2])
    | (intro _h)
    | (refine awp_block ?_)
    | (refine awp_scope ?_)
    | (refine cond_b (fun _h => ?_) (fun _h => ?_))
    | (show heapOK _ _ = true; kernel_rfl)
    | (show heapOK2 _ _ = true; kernel_rfl)
    | (omega)))
      all_goals trace_state
    · have e1 : planE t = 0 := by simp [planE, h0, hs0, hl]
      have e2 : (1000 ≤ needV t s0) = False := eq_false hl
      simp only [planV, e1, if_true, slB, planL, hs0]
      have hPl : (planF t 256 s0).length ≤ 256 := planF_le 256 s0
      generalize hP : planF t 256 s0 = P at *
      (refine callS_of_awpZ (fun w args => Try.call17 ..) Try.func17 rfl (fun w0 wz => ?_); simp only [Try.ntmps17, Try.results17, initT, junks, homeC, hallC, slH, slL, townC, sl, List.toList_toArray, List.cons_append, List.nil_append, List.length_cons, List.length_nil, Nat.reduceAdd, Nat.reduceSub])
      (repeat' (first
    | (refine awp_ownN 1 rfl ?_; simp (maxSteps := 4000000) only [go_sem, seval, List.take_succ_cons, List.take_zero, e0, decide_true, e2, decide_false]; (repeat refine And.intro (by omega) ?_); refine own_go (hpl) [] rfl ?_ ?_ rfl ?_ <;> try simp (maxSteps := 4000000) only [go_sem, seval, Nat.lt_irrefl, e0, decide_true, e2, decide_false] <;> try decide)
    | (refine awp_ownN 4 rfl ?_; simp (maxSteps := 4000000) only [go_sem, seval, List.take_succ_cons, List.take_zero, e0, decide_true, e2, decide_false]; (repeat refine And.intro (by omega) ?_); refine own_go (hbe) [4, 3] rfl ?_ ?_ rfl ?_ <;> try simp (maxSteps := 4000000) only [go_sem, seval, Nat.lt_irrefl, e0, decide_true, e2, decide_false] <;> try decide)
    | (refine awp_ownN 2 rfl ?_; simp (maxSteps := 4000000) only [go_sem, seval, List.take_succ_cons, List.take_zero, e0, decide_true, e2, decide_false]; (repeat refine And.intro (by omega) ?_); refine own_go (hfw) [4, 3] rfl ?_ ?_ rfl ?_ <;> try simp (maxSteps := 4000000) only [go_sem, seval, Nat.lt_irrefl, e0, decide_true, e2, decide_false] <;> try decide)
    | (refine awp_seqK ?_)
    | (refine kt ?_)
    | (refine And.intro ?_ ?_)
    | ((first | refine awp_region ?_ | refine awp_draw (by kernel_rfl) (by kernel_rfl) ?_ | refine Imp.le2 ?_ | refine awp_label ?_ | refine awp_skip ?_ | refine awp_exit ?_ | refine awp_cd ?_ | refine awp_ret ?_ | refine callK_of (hch) ?_ | refine go_split (fun _h => ?_) (fun _h => ?_)) <;> try simp (maxSteps := 4000000) only [go_sem, seval, e0, decide_true, e2, decide_false])
    | (intro _h)
    | (refine awp_block ?_)
    | (refine awp_scope ?_)
    | (refine cond_b (fun _h => ?_) (fun _h => ?_))
    | (show heapOK _ _ = true; kernel_rfl)
    | (show heapOK2 _ _ = true; kernel_rfl)
    | (omega)))
      refine awp_adH 1 0 48 3 rfl rfl ?_
      simp only [adH, hget, hset, lset, List.length_cons, List.length_nil, Nat.reduceAdd]
      refine awp_loopJ (fun x : Nat × Sta × Kmap × List Bus => StOK t x.2.1 ∧ x.2.1.rest < x.1 ∧ GoodK t x.2.2.1 ∧ needV t x.2.1 < 1000 ∧ x.2.2.2 ++ planF t x.1 x.2.1 = P) (fun x => ⟨plT, plH t x.2.1 x.2.2.2 x.2.2.1, []⟩) (fun x => x.2.1.rest) (256, s0, K, []) ⟨hso, hso.lt ht, hK, by simp only; omega, hP⟩ (.le2 ?_) ?_
      · simp only [plH, plT, rT, plB, planC, busC, sl, townC, slH, slL, stC]; simp (maxSteps := 4000000) only [go_sem, seval]
        try (first | rfl | exact ⟨rfl, rfl⟩)
      · rintro ⟨f, s, K, L⟩ ⟨hs, hf, hK, hnV, hLP⟩
        simp only at hs hf hK hnV hLP
        have hLl : L.length ≤ 256 := by rw [← hLP] at hPl; simp only [List.length_append] at hPl; omega
        cases f with
        | zero => omega
        | succ f =>
          have hr8 := hs.lt ht
          simp only [planF] at hLP
          by_cases h0 : s.rest = 0
          · rw [if_pos h0, List.append_nil] at hLP
            subst hLP
            have eZ : ((s.rest : Int) = 0) = True := eq_true (by omega)
            simp only [plH, plT, rT, plB, planC, busC, sl, townC, slH, slL, stC]; simp (maxSteps := 4000000) only [go_sem, seval]
            (repeat' (first
    | (refine awp_seqK ?_)
    | (refine kt ?_)
    | (refine And.intro ?_ ?_)
    | ((first | refine awp_region ?_ | refine awp_draw (by kernel_rfl) (by kernel_rfl) ?_ | refine Imp.le2 ?_ | refine awp_label ?_ | refine awp_skip ?_ | refine awp_exit ?_ | refine awp_cd ?_ | refine awp_ret ?_ | refine go_split (fun _h => ?_) (fun _h => ?_)) <;> try simp (maxSteps := 4000000) only [go_sem, seval, eZ, decide_true, Bool.not_true])
    | (intro _h)
    | (refine awp_block ?_)
    | (refine awp_scope ?_)
    | (refine cond_b (fun _h => ?_) (fun _h => ?_))
    | (show heapOK _ _ = true; kernel_rfl)
    | (show heapOK2 _ _ = true; kernel_rfl)
    | (omega)))
            all_goals trace_state
          · rw [if_neg h0] at hLP
            have eZ : ((s.rest : Int) = 0) = False := eq_false (by omega)
            obtain ⟨p, hp1, hp2, hp3⟩ := find_some hr8 h0 hnV
            rw [hp1] at hLP
            simp only at hLP
            have hE1 := findM_find (t := t) (s := s) (nextL t s) K
            rw [hp1] at hE1
            have hpr := nextL_rest hr8 h0 hp2
            have hps : StOK t p.2 := by
              obtain ⟨x, j, h1, h2, h3, h4⟩ := (nextL_mem hr8).1 hp2
              rw [h4]; exact toSt_ok ht hs h0 h1 h2 h3
            have hnx := next_c t s K
            have hE : findM t s (nextL t s) K = (some p, (findM t s (nextL t s) K).2) := by rw [← hE1]
            have hKE := findM_good (t := t) hr8 (nextL t s) K (fun q hq => by have := nextL_rest hr8 h0 hq; omega) hK
            generalize (findM t s (nextL t s) K).2 = KE at hE hKE
            have e1 := low_nat hr8
            have e2 : andn s.rest (lowB s.rest : Nat) = ((othB s.rest : Nat) : Int) := andn_nat2 hr8 (lowB_lt hr8)
            have hhl := ht.halls
            simp only [plH, plT, rT, plB, planC, busC, sl, townC, slH, slL, stC] at hnx
            simp only [plH, plT, rT, plB, planC, busC, sl, townC, slH, slL, stC]; simp (maxSteps := 4000000) only [go_sem, seval]
            (repeat' (first
    | (refine awp_ownN 2 rfl ?_; simp (maxSteps := 4000000) only [go_sem, seval, List.take_succ_cons, List.take_zero, eZ, decide_false, Bool.not_false]; (repeat refine And.intro (by omega) ?_); refine own_go (hnx) [4, 3] rfl ?_ ?_ rfl ?_ <;> try simp (maxSteps := 4000000) only [go_sem, seval, Nat.lt_irrefl, eZ, decide_false, Bool.not_false] <;> try decide)
    | (refine awp_seqK ?_)
    | (refine kt ?_)
    | (refine And.intro ?_ ?_)
    | ((first | refine awp_region ?_ | refine awp_draw (by kernel_rfl) (by kernel_rfl) ?_ | refine Imp.le2 ?_ | refine awp_label ?_ | refine awp_skip ?_ | refine awp_exit ?_ | refine awp_cd ?_ | refine awp_ret ?_ | refine go_split (fun _h => ?_) (fun _h => ?_)) <;> try simp (maxSteps := 4000000) only [go_sem, seval, eZ, decide_false, Bool.not_false])
    | (intro _h)
    | (refine awp_block ?_)
    | (refine awp_scope ?_)
    | (refine cond_b (fun _h => ?_) (fun _h => ?_))
    | (show heapOK _ _ = true; kernel_rfl)
    | (show heapOK2 _ _ = true; kernel_rfl)
    | (omega)))
            refine AWP.le2 (s' := ⟨rT, plH t s L K ++ [some (.cells 93 1 0 [.ptr 4 0 0]), some (.cells 98 1 0 (stC s))], []⟩) (by simp only [plH, plT, rT, plB, planC, busC, sl, townC, slH, slL, stC]; simp (maxSteps := 4000000) only [go_sem, seval]) ?_
            refine awp_rangeZ (gf := 76) (first := []) (caps := [.ptr 9 0 0, .ptr 8 0 0]) (by simp only [rT]; simp (maxSteps := 4000000) only [go_sem, seval]) 10 rfl ?_
            intro ca cb hca hcb
            refine ⟨.tup [], plH t p.2 (L ++ [p.1]) KE ++ ([some (.cells 93 1 0 [.ptr 4 0 0]), some (.cells 98 1 0 (stC s))] ++ [some (.dfr true), some (.loop .done (some (.exit 2)) 0 rT #[31, 32] ca cb 10)]), .done, some (.exit 2), .exit 2, ?_, ?_, by simp, rfl, ?_⟩
            · simp only [plH, plT, rT, plB, planC, busC, sl, townC, slH, slL, stC]
              simp (maxSteps := 4000000) only [go_sem, seval]
              (refine semF_of_awp (ys := []) (fun w args => Try.call76 ..) Try.func76 rfl (fun w0 m0 wz => ?_); simp only [Try.ntmps76, Try.results76, initT, junks, homeC, hallC, slH, slL, townC, sl, List.toList_toArray, List.cons_append, List.nil_append, List.length_cons, List.length_nil, Nat.reduceAdd, Nat.reduceSub])
              (repeat' (first
    | (refine awp_seqK ?_)
    | (refine kt ?_)
    | (refine And.intro ?_ ?_)
    | ((first | refine awp_region ?_ | refine awp_draw (by kernel_rfl) (by kernel_rfl) ?_ | refine Imp.le2 ?_ | refine awp_label ?_ | refine awp_skip ?_ | refine awp_exit ?_ | refine awp_cd ?_ | refine awp_ret ?_ | refine go_split (fun _h => ?_) (fun _h => ?_)) <;> try simp (maxSteps := 4000000) only [go_sem, seval, e1, e2])
    | (intro _h)
    | (refine awp_block ?_)
    | (refine awp_scope ?_)
    | (refine cond_b (fun _h => ?_) (fun _h => ?_))
    | (show heapOK _ _ = true; kernel_rfl)
    | (show heapOK2 _ _ = true; kernel_rfl)
    | (omega)))
              refine awp_loopJ (fun x : Nat × Kmap => x.1 &&& othB s.rest = x.1 ∧ GoodK t x.2 ∧ findM t s (candL t s (subsR (othB s.rest) x.1)) x.2 = (some p, KE))
                (fun x => ⟨mkT 79 [(0, .fn (.yield 11) [] []), (1, .ptr 9 0 0), (2, .ptr 8 0 0), (4, .int .u8 (lowB s.rest : Nat)), (5, .int .u8 (othB s.rest : Nat)), (6, .int .u8 (x.1 : Nat))], plH t s L x.2 ++ ([some (.cells 93 1 0 [.ptr 4 0 0]), some (.cells 98 1 0 (stC s))] ++ [some (.dfr true), some (.loop .ready none 0 rT #[31, 32] ca cb 10)]), []⟩) (fun x => x.1) (othB s.rest, K) ⟨Nat.and_self _, hK, hE⟩ (.le2 ?_) ?_
              · simp only [plH, plT, rT, plB, planC, busC, sl, townC, slH, slL, stC]; simp (maxSteps := 4000000) only [go_sem, seval]
                try (first | rfl | exact ⟨rfl, rfl⟩)
              · rintro ⟨x, K1⟩ ⟨hx, hK1, hF⟩
                simp only at hx hK1 hF
                rw [subsR_step] at hF
                simp only [candL] at hF
                have hx8 : x < 256 := by have := sub_le hx; have := ndiff_lt (b := lowB s.rest) hr8; unfold othB at *; omega
                have hmk := mask_sub hr8 hx
                have hmk2 := sub_le hmk
                have e3 : u8or (lowB s.rest : Nat) (x : Nat) = ((lowB s.rest ||| x : Nat) : Int) := u8or_nat (lowB_lt hr8) hx8
                have htok := fun i => toSt_ok (x := x) (i := i) ht hs h0 hx
                generalize hM : lowB s.rest ||| x = M at *
                have e4 : andn s.rest M = ((ndiff s.rest M : Nat) : Int) := andn_nat2 hr8 (by omega)
                simp only [plH, plT, rT, plB, planC, busC, sl, townC, slH, slL, stC]; simp (maxSteps := 4000000) only [go_sem, seval]
                (repeat' (first
    | (refine awp_seqK ?_)
    | (refine kt ?_)
    | (refine And.intro ?_ ?_)
    | ((first | refine awp_region ?_ | refine awp_draw (by kernel_rfl) (by kernel_rfl) ?_ | refine Imp.le2 ?_ | refine awp_label ?_ | refine awp_skip ?_ | refine awp_exit ?_ | refine awp_cd ?_ | refine awp_ret ?_ | refine go_split (fun _h => ?_) (fun _h => ?_)) <;> try simp (maxSteps := 4000000) only [go_sem, seval])
    | (intro _h)
    | (refine awp_block ?_)
    | (refine awp_scope ?_)
    | (refine cond_b (fun _h => ?_) (fun _h => ?_))
    | (show heapOK _ _ = true; kernel_rfl)
    | (show heapOK2 _ _ = true; kernel_rfl)
    | (omega)))
                refine awp_loopJ (fun y : Nat × Kmap => y.1 ≤ t.halls.length ∧ GoodK t y.2 ∧ findM t s (hallsL t s M (t.halls.length - y.1) y.1 ++ candL t s (if x = 0 then [] else subsR (othB s.rest) ((x - 1) &&& othB s.rest))) y.2 = (some p, KE))
                  (fun y => ⟨mkT 79 [(0, .fn (.yield 11) [] []), (1, .ptr 9 0 0), (2, .ptr 8 0 0), (4, .int .u8 (lowB s.rest : Nat)), (5, .int .u8 (othB s.rest : Nat)), (6, .int .u8 (x : Nat)), (31, .int .i64 t.halls.length), (32, .int .i64 y.1)], plH t s L y.2 ++ ([some (.cells 93 1 0 [.ptr 4 0 0]), some (.cells 98 1 0 (stC s))] ++ [some (.dfr true), some (.loop .ready none 0 rT #[31, 32] ca cb 10)]), []⟩) (fun y => t.halls.length - y.1) (0, K1) ⟨Nat.zero_le _, hK1, hF⟩ (.le2 ?_) ?_
                · simp only [plH, plT, rT, plB, planC, busC, sl, townC, slH, slL, stC]; simp (maxSteps := 4000000) only [go_sem, seval]
                  try (first | rfl | exact ⟨rfl, rfl⟩)
                · rintro ⟨i, K1⟩ ⟨hi, hK1, hF⟩
                  simp only at hi hK1 hF
                  rcases Nat.lt_or_eq_of_le hi with hi1 | hi1
                  · rw [show t.halls.length - i = (t.halls.length - (i + 1)) + 1 by omega] at hF
                    simp only [hallsL] at hF
                    have hmask : M < 2 ^ t.homes.length := by have := hs.rest; omega
                    have hbus := bus_c t M i K1 ht hmask
                    have hin := lst_in hmask hln.2
                    have hl8 : (lst M).length ≤ 8 := lstN_le 8
                    have hbI : BusIn t (mkBus t M i) := ⟨hin, ⟨by simp [mkBus], by simp [mkBus]; omega⟩, by have := leaveL_bd ht hin (lst M).length (Nat.le_refl _); simp only [mkBus]; omega, by simp only [mkBus]; omega⟩
                    have hpe := people_c t (mkBus t M i) K1 ht hbI.homes hbI.len
                    have hma := may_c t (mkBus t M i) K1 ht hbI
                    have hpb := pplL_bd ht hin (lst M).length (Nat.le_refl _)
                    have hpl : ppl t (mkBus t M i).homes = ppl t (lst M) := rfl
                    have hpl2 : pplL t (lst M) (lst M).length = ppl t (lst M) := rfl
                    rw [hpl] at hpe
                    rw [hpl2] at hpb
                    have hfit : fitsB t s M i = (decide (ppl t (lst M) ≤ s.room i) && mayB t (mkBus t M i)) := rfl
                    have hrm : (if i = 0 then s.r0 else if i = 1 then s.r1 else s.r2) = s.room i := rfl
                    have hrb := hs.room i
                    have hi3 : i < 3 := by omega
                    have hsp := fun (x : AV) (a b c v : Int) => sp_room (x := x) (a := a) (b := b) (c := c) (v := v) hi3
                    have hr0 : (if i = 0 then s.room i - ppl t (lst M) else s.r0) = (toSt t s M i).r0 := rfl
                    have hr1 : (if i = 1 then s.room i - ppl t (lst M) else s.r1) = (toSt t s M i).r1 := rfl
                    have hr2 : (if i = 2 then s.room i - ppl t (lst M) else s.r2) = (toSt t s M i).r2 := rfl
                    have hto : (toSt t s M i).rest = ndiff s.rest M := rfl
                    have hsto := htok i hi1
                    rw [← hto] at e4
                    clear hpl hpl2
                    generalize mkBus t M i = b at *
                    generalize toSt t s M i = to at *
                    generalize ppl t (lst M) = pp at *
                    have key : (pp ≤ s.room i ∧ mayB t b = true ∧ fitsB t s M i = true) ∨ (pp ≤ s.room i ∧ mayB t b = false ∧ fitsB t s M i = false) ∨ (¬ pp ≤ s.room i ∧ fitsB t s M i = false) := by
                      rw [hfit]
                      by_cases h1 : pp ≤ s.room i
                      · cases h2 : mayB t b
                        · exact .inr (.inl ⟨h1, rfl, by simp⟩)
                        · exact .inl ⟨h1, rfl, by simp [h1]⟩
                      · exact .inr (.inr ⟨h1, by simp [h1]⟩)
                    rcases key with ⟨k1, k2, k3⟩ | ⟨k1, k2, k3⟩ | ⟨k1, k3⟩
                    · rw [if_pos k3] at hF
                      have eR : (pp ≤ s.room i) = True := eq_true k1
                      replace hsto := hsto k3
                      have hf1 := fewest_c t ht s K1 hs hK1
                      have hK2 := fwK_good hr8 hK1
                      have hf2 := fewest_c t ht to (fwK t s K1) hsto hK2
                      have hK3 := fwK_good (hsto.lt ht) hK2
                      have hvb := needV_bd (t := t) (s := to)
                      simp only [List.cons_append, findM] at hF
                      generalize fwK t to (fwK t s K1) = K3 at *
                      generalize fwK t s K1 = K2 at *
                      generalize needV t s = v1 at *
                      generalize needV t to = v2 at *
                      rw [k2] at hma
                      simp only [plH, plT, rT, plB, planC, busC, sl, townC, slH, slL, stC] at hbus hpe hma hf1 hf2 ⊢
                      by_cases hv : v1 = 1 + v2
                      · rw [if_pos hv] at hF
                        simp only [Prod.mk.injEq, Option.some.injEq] at hF
                        obtain ⟨rfl, rfl⟩ := hF
                        have eV : (v1 = 1 + v2) = True := eq_true hv
                        simp (maxSteps := 4000000) only [go_sem, seval]
                        (repeat' (first
    | (refine awp_ownN 5 rfl ?_; simp (maxSteps := 4000000) only [go_sem, seval, List.take_succ_cons, List.take_zero, e3, e4, hrm, eR, decide_true, hsp, hr0, hr1, hr2]; (repeat refine And.intro (by omega) ?_); refine own_go (hbus) [4, 3] rfl ?_ ?_ rfl ?_ <;> try simp (maxSteps := 4000000) only [go_sem, seval, Nat.lt_irrefl, e3, e4, hrm, eR, decide_true, hsp, hr0, hr1, hr2] <;> try decide)
    | (refine awp_ownN 2 rfl ?_; simp (maxSteps := 4000000) only [go_sem, seval, List.take_succ_cons, List.take_zero, e3, e4, hrm, eR, decide_true, hsp, hr0, hr1, hr2]; (repeat refine And.intro (by omega) ?_); refine own_go (hpe) [4, 3] rfl ?_ ?_ rfl ?_ <;> try simp (maxSteps := 4000000) only [go_sem, seval, Nat.lt_irrefl, e3, e4, hrm, eR, decide_true, hsp, hr0, hr1, hr2] <;> try decide)
    | (refine awp_ownN (id := 9) 9 rfl ?_; simp (maxSteps := 4000000) only [go_sem, seval, List.take_succ_cons, List.take_zero, e3, e4, hrm, eR, decide_true, hsp, hr0, hr1, hr2])
    | (refine own_go (hma) [4, 3] rfl ?_ ?_ rfl ?_ <;> try simp (maxSteps := 4000000) only [go_sem, seval, Nat.lt_irrefl, e3, e4, hrm, eR, decide_true, hsp, hr0, hr1, hr2] <;> try decide)
    | ((exfalso; omega))
    | ((refine awp_ownN 3 rfl ?_; simp (maxSteps := 4000000) only [go_sem, seval, List.take_succ_cons, List.take_zero]; refine callH_yield false (plH t to (L ++ [b]) K3 ++ ([some (.cells 93 1 0 [.ptr 4 0 0]), some (.cells 98 1 0 (stC s))] ++ [some (.dfr true), some (.loop .done (some (.exit 2)) 0 rT #[31, 32] ca cb 10)]) ++ [some (.cells 48 1 0 (busC b)), some (.cells 98 1 0 (stC to))]) ?_ ?_ <;> simp only [plH, plT, rT, plB, planC, busC, sl, townC, slH, slL, stC] <;> (try simp (maxSteps := 4000000) only [go_sem, seval])))
    | (refine awp_seqK ?_)
    | (refine kt ?_)
    | (refine And.intro ?_ ?_)
    | ((first | refine awp_region ?_ | refine awp_draw (by kernel_rfl) (by kernel_rfl) ?_ | refine Imp.le2 ?_ | refine awp_label ?_ | refine awp_skip ?_ | refine awp_exit ?_ | refine awp_cd ?_ | refine awp_ret ?_ | refine go_split (fun _h => ?_) (fun _h => ?_)) <;> try simp (maxSteps := 4000000) only [go_sem, seval, e3, e4, hrm, eR, decide_true, hsp, hr0, hr1, hr2])
    | (intro _h)
    | (refine awp_block ?_)
    | (refine awp_scope ?_)
    | (refine cond_b (fun _h => ?_) (fun _h => ?_))
    | (show heapOK _ _ = true; kernel_rfl)
    | (show heapOK2 _ _ = true; kernel_rfl)
    | (omega)))
                        · refine semY_of_awpZ rfl rfl ?_
                          intro B w0 l m w
                          refine awp_code hca ?_
                          (repeat' (first
    | (refine awp_seqK ?_)
    | (refine kt ?_)
    | (refine And.intro ?_ ?_)
    | ((first | refine awp_region ?_ | refine awp_draw (by kernel_rfl) (by kernel_rfl) ?_ | refine Imp.le2 ?_ | refine awp_label ?_ | refine awp_skip ?_ | refine awp_exit ?_ | refine awp_cd ?_ | refine awp_ret ?_ | refine go_split (fun _h => ?_) (fun _h => ?_)) <;> try simp (maxSteps := 4000000) only [go_sem, seval])
    | (intro _h)
    | (refine awp_block ?_)
    | (refine awp_scope ?_)
    | (refine cond_b (fun _h => ?_) (fun _h => ?_))
    | (show heapOK _ _ = true; kernel_rfl)
    | (show heapOK2 _ _ = true; kernel_rfl)
    | (omega)))
                          refine awp_code hcb ?_
                          (repeat' (first
    | (refine awp_seqK ?_)
    | (refine kt ?_)
    | (refine And.intro ?_ ?_)
    | ((first | refine awp_region ?_ | refine Imp.le2 ?_ | refine awp_label ?_ | refine awp_skip ?_ | refine awp_exit ?_ | refine awp_cd ?_ | refine awp_ret ?_ | refine go_split (fun _h => ?_) (fun _h => ?_)) <;> try simp (maxSteps := 4000000) only [go_sem, seval])
    | (intro _h)
    | (refine awp_block ?_)
    | (refine awp_scope ?_)
    | (refine cond_b (fun _h => ?_) (fun _h => ?_))
    | (show heapOK _ _ = true; kernel_rfl)
    | (show heapOK2 _ _ = true; kernel_rfl)
    | (omega)))
                          ((repeat refine awp_seqK ?_); refine awp_draws [(2, [3]), (2, [3])] (by kernel_rfl) (by kernel_rfl) ?_; simp (maxSteps := 4000000) only [go_sem, seval, sg_cons, sg_nil, List.take_succ_cons, List.take_zero, List.drop_succ_cons, List.drop_zero])
                          (refine own_go (hf1) [4, 3] rfl (by simp (maxSteps := 4000000) only [go_sem, seval]) (by simp (maxSteps := 4000000) only [go_sem, seval, Nat.lt_irrefl] <;> decide) rfl ?_; simp (maxSteps := 4000000) only [go_sem, seval]; refine And.intro (frm_of (by repeat (first | exact rfl | exact ⟨_, rfl⟩ | refine And.intro ?_ ?_))) ?_; try simp (maxSteps := 4000000) only [go_sem, seval, sg_cons, sg_nil, List.take_succ_cons, List.take_zero, List.drop_succ_cons, List.drop_zero])
                          (refine own_go (hf2) [4, 3] rfl (by simp (maxSteps := 4000000) only [go_sem, seval]) (by simp (maxSteps := 4000000) only [go_sem, seval, Nat.lt_irrefl] <;> decide) rfl ?_; simp (maxSteps := 4000000) only [go_sem, seval]; refine And.intro (frm_of (by repeat (first | exact rfl | exact ⟨_, rfl⟩ | refine And.intro ?_ ?_))) ?_; try simp (maxSteps := 4000000) only [go_sem, seval, sg_cons, sg_nil, List.take_succ_cons, List.take_zero, List.drop_succ_cons, List.drop_zero])
                          have hsn : recs busC L ++ [.int .i64 b.leave, .int .i64 b.hall, .psl false b.homes.length (ints b.homes)] = recs busC (L ++ [b]) := by rw [recs_snoc]; rfl
                          have hlb : (L ++ [b]).length = L.length + 1 := by simp
                          have e23 : ((2 : Nat) = 3) = False := eq_false (by decide)
                          (repeat' (first
    | (refine awp_seqK ?_)
    | (refine kt ?_)
    | (refine And.intro ?_ ?_)
    | ((first | refine awp_region ?_ | refine awp_draw (by kernel_rfl) (by kernel_rfl) ?_ | refine Imp.le2 ?_ | refine awp_label ?_ | refine awp_skip ?_ | refine awp_exit ?_ | refine awp_cd ?_ | refine awp_ret ?_ | refine go_split (fun _h => ?_) (fun _h => ?_)) <;> try simp (maxSteps := 4000000) only [go_sem, seval, eV, decide_true, hsn, hlb, e23, if_false])
    | (intro _h)
    | (refine awp_block ?_)
    | (refine awp_scope ?_)
    | (refine cond_b (fun _h => ?_) (fun _h => ?_))
    | (show heapOK _ _ = true; kernel_rfl)
    | (show heapOK2 _ _ = true; kernel_rfl)
    | (omega)))
                          all_goals trace_state
                      · rw [if_neg hv] at hF
                        have eV : (v1 = 1 + v2) = False := eq_false hv
                        simp (maxSteps := 4000000) only [go_sem, seval]
                        (repeat' (first
    | (refine awp_ownN 5 rfl ?_; simp (maxSteps := 4000000) only [go_sem, seval, List.take_succ_cons, List.take_zero, e3, e4, hrm, eR, decide_true, hsp, hr0, hr1, hr2]; (repeat refine And.intro (by omega) ?_); refine own_go (hbus) [4, 3] rfl ?_ ?_ rfl ?_ <;> try simp (maxSteps := 4000000) only [go_sem, seval, Nat.lt_irrefl, e3, e4, hrm, eR, decide_true, hsp, hr0, hr1, hr2] <;> try decide)
    | (refine awp_ownN 2 rfl ?_; simp (maxSteps := 4000000) only [go_sem, seval, List.take_succ_cons, List.take_zero, e3, e4, hrm, eR, decide_true, hsp, hr0, hr1, hr2]; (repeat refine And.intro (by omega) ?_); refine own_go (hpe) [4, 3] rfl ?_ ?_ rfl ?_ <;> try simp (maxSteps := 4000000) only [go_sem, seval, Nat.lt_irrefl, e3, e4, hrm, eR, decide_true, hsp, hr0, hr1, hr2] <;> try decide)
    | (refine awp_ownN (id := 9) 9 rfl ?_; simp (maxSteps := 4000000) only [go_sem, seval, List.take_succ_cons, List.take_zero, e3, e4, hrm, eR, decide_true, hsp, hr0, hr1, hr2])
    | (refine own_go (hma) [4, 3] rfl ?_ ?_ rfl ?_ <;> try simp (maxSteps := 4000000) only [go_sem, seval, Nat.lt_irrefl, e3, e4, hrm, eR, decide_true, hsp, hr0, hr1, hr2] <;> try decide)
    | ((exfalso; omega))
    | ((refine awp_ownN 3 rfl ?_; simp (maxSteps := 4000000) only [go_sem, seval, List.take_succ_cons, List.take_zero]; refine callH_yield true (plH t s L K3 ++ ([some (.cells 93 1 0 [.ptr 4 0 0]), some (.cells 98 1 0 (stC s))] ++ [some (.dfr true), some (.loop .ready none 0 rT #[31, 32] ca cb 10)]) ++ [some (.cells 48 1 0 (busC b)), some (.cells 98 1 0 (stC to))]) ?_ ?_ <;> simp only [plH, plT, rT, plB, planC, busC, sl, townC, slH, slL, stC] <;> (try simp (maxSteps := 4000000) only [go_sem, seval])))
    | (refine awp_seqK ?_)
    | (refine kt ?_)
    | (refine And.intro ?_ ?_)
    | ((first | refine awp_region ?_ | refine awp_draw (by kernel_rfl) (by kernel_rfl) ?_ | refine Imp.le2 ?_ | refine awp_label ?_ | refine awp_skip ?_ | refine awp_exit ?_ | refine awp_cd ?_ | refine awp_ret ?_ | refine go_split (fun _h => ?_) (fun _h => ?_)) <;> try simp (maxSteps := 4000000) only [go_sem, seval, e3, e4, hrm, eR, decide_true, hsp, hr0, hr1, hr2])
    | (intro _h)
    | (refine awp_block ?_)
    | (refine awp_scope ?_)
    | (refine cond_b (fun _h => ?_) (fun _h => ?_))
    | (show heapOK _ _ = true; kernel_rfl)
    | (show heapOK2 _ _ = true; kernel_rfl)
    | (omega)))
                        · refine semY_of_awpZ rfl rfl ?_
                          intro B w0 l m w
                          refine awp_code hca ?_
                          (repeat' (first
    | (refine awp_seqK ?_)
    | (refine kt ?_)
    | (refine And.intro ?_ ?_)
    | ((first | refine awp_region ?_ | refine awp_draw (by kernel_rfl) (by kernel_rfl) ?_ | refine Imp.le2 ?_ | refine awp_label ?_ | refine awp_skip ?_ | refine awp_exit ?_ | refine awp_cd ?_ | refine awp_ret ?_ | refine go_split (fun _h => ?_) (fun _h => ?_)) <;> try simp (maxSteps := 4000000) only [go_sem, seval])
    | (intro _h)
    | (refine awp_block ?_)
    | (refine awp_scope ?_)
    | (refine cond_b (fun _h => ?_) (fun _h => ?_))
    | (show heapOK _ _ = true; kernel_rfl)
    | (show heapOK2 _ _ = true; kernel_rfl)
    | (omega)))
                          refine awp_code hcb ?_
                          (repeat' (first
    | (refine awp_seqK ?_)
    | (refine kt ?_)
    | (refine And.intro ?_ ?_)
    | ((first | refine awp_region ?_ | refine Imp.le2 ?_ | refine awp_label ?_ | refine awp_skip ?_ | refine awp_exit ?_ | refine awp_cd ?_ | refine awp_ret ?_ | refine go_split (fun _h => ?_) (fun _h => ?_)) <;> try simp (maxSteps := 4000000) only [go_sem, seval])
    | (intro _h)
    | (refine awp_block ?_)
    | (refine awp_scope ?_)
    | (refine cond_b (fun _h => ?_) (fun _h => ?_))
    | (show heapOK _ _ = true; kernel_rfl)
    | (show heapOK2 _ _ = true; kernel_rfl)
    | (omega)))
                          ((repeat refine awp_seqK ?_); refine awp_draws [(2, [3]), (2, [3])] (by kernel_rfl) (by kernel_rfl) ?_; simp (maxSteps := 4000000) only [go_sem, seval, sg_cons, sg_nil, List.take_succ_cons, List.take_zero, List.drop_succ_cons, List.drop_zero])
                          (refine own_go (hf1) [4, 3] rfl (by simp (maxSteps := 4000000) only [go_sem, seval]) (by simp (maxSteps := 4000000) only [go_sem, seval, Nat.lt_irrefl] <;> decide) rfl ?_; simp (maxSteps := 4000000) only [go_sem, seval]; refine And.intro (frm_of (by repeat (first | exact rfl | exact ⟨_, rfl⟩ | refine And.intro ?_ ?_))) ?_; try simp (maxSteps := 4000000) only [go_sem, seval, sg_cons, sg_nil, List.take_succ_cons, List.take_zero, List.drop_succ_cons, List.drop_zero])
                          (refine own_go (hf2) [4, 3] rfl (by simp (maxSteps := 4000000) only [go_sem, seval]) (by simp (maxSteps := 4000000) only [go_sem, seval, Nat.lt_irrefl] <;> decide) rfl ?_; simp (maxSteps := 4000000) only [go_sem, seval]; refine And.intro (frm_of (by repeat (first | exact rfl | exact ⟨_, rfl⟩ | refine And.intro ?_ ?_))) ?_; try simp (maxSteps := 4000000) only [go_sem, seval, sg_cons, sg_nil, List.take_succ_cons, List.take_zero, List.drop_succ_cons, List.drop_zero])
                          (repeat' (first
    | (refine awp_seqK ?_)
    | (refine kt ?_)
    | (refine And.intro ?_ ?_)
    | ((first | refine awp_region ?_ | refine awp_draw (by kernel_rfl) (by kernel_rfl) ?_ | refine Imp.le2 ?_ | refine awp_label ?_ | refine awp_skip ?_ | refine awp_exit ?_ | refine awp_cd ?_ | refine awp_ret ?_ | refine go_split (fun _h => ?_) (fun _h => ?_)) <;> try simp (maxSteps := 4000000) only [go_sem, seval, eV, decide_false])
    | (intro _h)
    | (refine awp_block ?_)
    | (refine awp_scope ?_)
    | (refine cond_b (fun _h => ?_) (fun _h => ?_))
    | (show heapOK _ _ = true; kernel_rfl)
    | (show heapOK2 _ _ = true; kernel_rfl)
    | (omega)))
                        · refine ⟨(i + 1, K3), ⟨by simp only; omega, hK3, hF⟩, by simp only; omega, .le2 ?_⟩
                          simp only [plH, plT, rT, plB, planC, busC, sl, townC, slH, slL, stC]; simp (maxSteps := 4000000) only [go_sem, seval]
                          try (first | rfl | exact ⟨rfl, rfl⟩)
                    · rw [if_neg (by rw [k3]; simp)] at hF
                      have eR : (pp ≤ s.room i) = True := eq_true k1
                      rw [k2] at hma
                      simp only [plH, plT, rT, plB, planC, busC, sl, townC, slH, slL, stC] at hbus hpe hma ⊢
                      simp (maxSteps := 4000000) only [go_sem, seval]
                      (repeat' (first
    | (refine awp_ownN 5 rfl ?_; simp (maxSteps := 4000000) only [go_sem, seval, List.take_succ_cons, List.take_zero, e3, e4, hrm, eR, decide_true]; (repeat refine And.intro (by omega) ?_); refine own_go (hbus) [4, 3] rfl ?_ ?_ rfl ?_ <;> try simp (maxSteps := 4000000) only [go_sem, seval, Nat.lt_irrefl, e3, e4, hrm, eR, decide_true] <;> try decide)
    | (refine awp_ownN 2 rfl ?_; simp (maxSteps := 4000000) only [go_sem, seval, List.take_succ_cons, List.take_zero, e3, e4, hrm, eR, decide_true]; (repeat refine And.intro (by omega) ?_); refine own_go (hpe) [4, 3] rfl ?_ ?_ rfl ?_ <;> try simp (maxSteps := 4000000) only [go_sem, seval, Nat.lt_irrefl, e3, e4, hrm, eR, decide_true] <;> try decide)
    | (refine awp_ownN (id := 9) 9 rfl ?_; simp (maxSteps := 4000000) only [go_sem, seval, List.take_succ_cons, List.take_zero, e3, e4, hrm, eR, decide_true])
    | (refine own_go (hma) [4, 3] rfl ?_ ?_ rfl ?_ <;> try simp (maxSteps := 4000000) only [go_sem, seval, Nat.lt_irrefl, e3, e4, hrm, eR, decide_true] <;> try decide)
    | ((exfalso; omega))
    | (refine awp_seqK ?_)
    | (refine kt ?_)
    | (refine And.intro ?_ ?_)
    | ((first | refine awp_region ?_ | refine awp_draw (by kernel_rfl) (by kernel_rfl) ?_ | refine Imp.le2 ?_ | refine awp_label ?_ | refine awp_skip ?_ | refine awp_exit ?_ | refine awp_cd ?_ | refine awp_ret ?_ | refine go_split (fun _h => ?_) (fun _h => ?_)) <;> try simp (maxSteps := 4000000) only [go_sem, seval, e3, e4, hrm, eR, decide_true])
    | (intro _h)
    | (refine awp_block ?_)
    | (refine awp_scope ?_)
    | (refine cond_b (fun _h => ?_) (fun _h => ?_))
    | (show heapOK _ _ = true; kernel_rfl)
    | (show heapOK2 _ _ = true; kernel_rfl)
    | (omega)))
                      refine ⟨(i + 1, K1), ⟨by simp only; omega, hK1, hF⟩, by simp only; omega, .le2 ?_⟩
                      simp only [plH, plT, rT, plB, planC, busC, sl, townC, slH, slL, stC]; simp (maxSteps := 4000000) only [go_sem, seval]
                      try (first | rfl | exact ⟨rfl, rfl⟩)
                    · rw [if_neg (by rw [k3]; simp)] at hF
                      have eR : (pp ≤ s.room i) = False := eq_false k1
                      simp only [plH, plT, rT, plB, planC, busC, sl, townC, slH, slL, stC] at hbus hpe hma ⊢
                      simp (maxSteps := 4000000) only [go_sem, seval]
                      (repeat' (first
    | (refine awp_ownN 5 rfl ?_; simp (maxSteps := 4000000) only [go_sem, seval, List.take_succ_cons, List.take_zero, e3, e4, hrm, eR, decide_false]; (repeat refine And.intro (by omega) ?_); refine own_go (hbus) [4, 3] rfl ?_ ?_ rfl ?_ <;> try simp (maxSteps := 4000000) only [go_sem, seval, Nat.lt_irrefl, e3, e4, hrm, eR, decide_false] <;> try decide)
    | (refine awp_ownN 2 rfl ?_; simp (maxSteps := 4000000) only [go_sem, seval, List.take_succ_cons, List.take_zero, e3, e4, hrm, eR, decide_false]; (repeat refine And.intro (by omega) ?_); refine own_go (hpe) [4, 3] rfl ?_ ?_ rfl ?_ <;> try simp (maxSteps := 4000000) only [go_sem, seval, Nat.lt_irrefl, e3, e4, hrm, eR, decide_false] <;> try decide)
    | ((exfalso; omega))
    | (refine awp_seqK ?_)
    | (refine kt ?_)
    | (refine And.intro ?_ ?_)
    | ((first | refine awp_region ?_ | refine awp_draw (by kernel_rfl) (by kernel_rfl) ?_ | refine Imp.le2 ?_ | refine awp_label ?_ | refine awp_skip ?_ | refine awp_exit ?_ | refine awp_cd ?_ | refine awp_ret ?_ | refine go_split (fun _h => ?_) (fun _h => ?_)) <;> try simp (maxSteps := 4000000) only [go_sem, seval, e3, e4, hrm, eR, decide_false])
    | (intro _h)
    | (refine awp_block ?_)
    | (refine awp_scope ?_)
    | (refine cond_b (fun _h => ?_) (fun _h => ?_))
    | (show heapOK _ _ = true; kernel_rfl)
    | (show heapOK2 _ _ = true; kernel_rfl)
    | (omega)))
                      refine ⟨(i + 1, K1), ⟨by simp only; omega, hK1, hF⟩, by simp only; omega, .le2 ?_⟩
                      simp only [plH, plT, rT, plB, planC, busC, sl, townC, slH, slL, stC]; simp (maxSteps := 4000000) only [go_sem, seval]
                      try (first | rfl | exact ⟨rfl, rfl⟩)
                  · subst hi1
                    rw [Nat.sub_self] at hF
                    simp only [hallsL, List.nil_append] at hF
                    by_cases hx0 : x = 0
                    · subst hx0
                      rw [if_pos rfl] at hF
                      simp only [candL, findM, Prod.mk.injEq, reduceCtorEq, false_and] at hF
                    · rw [if_neg hx0] at hF
                      have eX : ((x : Int) = 0) = False := eq_false (by omega)
                      have e5 : IntKind.u8.wrap ((x : Int) - 1) = ((x - 1 : Nat) : Int) := sub_nat hx8 hx0
                      have e6 : u8and ((x - 1 : Nat) : Int) (othB s.rest : Nat) = (((x - 1) &&& othB s.rest : Nat) : Int) := u8and_nat (by omega) (ndiff_lt hr8)
                      simp only [plH, plT, rT, plB, planC, busC, sl, townC, slH, slL, stC]; simp (maxSteps := 4000000) only [go_sem, seval]
                      (repeat' (first
    | ((exfalso; omega))
    | (refine awp_seqK ?_)
    | (refine kt ?_)
    | (refine And.intro ?_ ?_)
    | ((first | refine awp_region ?_ | refine awp_draw (by kernel_rfl) (by kernel_rfl) ?_ | refine Imp.le2 ?_ | refine awp_label ?_ | refine awp_skip ?_ | refine awp_exit ?_ | refine awp_cd ?_ | refine awp_ret ?_ | refine go_split (fun _h => ?_) (fun _h => ?_)) <;> try simp (maxSteps := 4000000) only [go_sem, seval, eX, e5, e6, decide_false])
    | (intro _h)
    | (refine awp_block ?_)
    | (refine awp_scope ?_)
    | (refine cond_b (fun _h => ?_) (fun _h => ?_))
    | (show heapOK _ _ = true; kernel_rfl)
    | (show heapOK2 _ _ = true; kernel_rfl)
    | (omega)))
                      have hax : (x - 1) &&& othB s.rest ≤ x - 1 := Nat.and_le_left
                      refine ⟨((x - 1) &&& othB s.rest, K1), ⟨by simp only; rw [Nat.and_assoc, Nat.and_self], hK1, hF⟩, by simp only; omega, .le2 ?_⟩
                      simp only [plH, plT, rT, plB, planC, busC, sl, townC, slH, slL, stC]; simp (maxSteps := 4000000) only [go_sem, seval]
                      try (first | rfl | exact ⟨rfl, rfl⟩)
            · rfl
            · simp only [plH, plT, rT, plB, planC, busC, sl, townC, slH, slL, stC]
              simp (maxSteps := 4000000) only [go_sem, seval]
              refine ⟨(f, p.2, KE, L ++ [p.1]), ⟨hps, by simp only; omega, ?_, by simp only; have := needV_bd (t := t) (s := p.2); omega, by rw [List.append_assoc]; exact hLP⟩, by simp only; exact hpr, ?_⟩
              · exact hKE
              · simp only [plH, plT, rT, plB, planC, busC, sl, townC, slH, slL, stC]
                refine Imp.hide (fun _ => rfl) ?_ ?_
                · simp (maxSteps := 4000000) only [go_sem, seval]
                · simp [hidD, hget]
  · have e0 : (faultT t = 0) = False := eq_false h0
    have e1 : planE t = faultT t := by simp [planE, h0]
    simp only [planV, e1, h0, if_false]
    simp only [townC, slH, slL] at hch
    (refine callS_of_awp (fun w args => Try.call17 ..) Try.func17 rfl (fun w0 m0 wz => ?_); simp only [Try.ntmps17, Try.results17, initT, junks, homeC, hallC, slH, slL, townC, sl, List.toList_toArray, List.cons_append, List.nil_append, List.length_cons, List.length_nil, Nat.reduceAdd, Nat.reduceSub])
    (repeat' (first
    | (refine awp_seqK ?_)
    | (refine kt ?_)
    | (refine And.intro ?_ ?_)
    | ((first | refine awp_region ?_ | refine awp_draw (by kernel_rfl) (by kernel_rfl) ?_ | refine Imp.le2 ?_ | refine awp_label ?_ | refine awp_skip ?_ | refine awp_exit ?_ | refine awp_cd ?_ | refine awp_ret ?_ | refine callK_of (hch) ?_ | refine go_split (fun _h => ?_) (fun _h => ?_)) <;> try simp (maxSteps := 4000000) only [go_sem, seval, e0, decide_false])
    | (intro _h)
    | (refine awp_block ?_)
    | (refine awp_scope ?_)
    | (refine cond_b (fun _h => ?_) (fun _h => ?_))
    | (show heapOK _ _ = true; kernel_rfl)
    | (show heapOK2 _ _ = true; kernel_rfl)
    | (omega)))
end Go.Am

/- What the arguments of the away laws can be read as. -/
namespace Go.Am
open Go.RowKit Go.Proofs Go.ChangeShapes
section
variable {H : Type} {en : TypeId × Value → H} {P : Program} {w : World} {base : Nat} {sp : Nat → Bool} {held : Bool}
theorem arg_slice {rc : Reach} {b0 : Nat} {t e : TypeId} {v : Value} {d : DataW H} {p : List MemPlace} {α : Type} {x : α → AV} {ok : α → Prop} (hu : P.underlying t = some (.slice e)) (r : Reads P t 1 (fun a => [x a]) ok)
    (hv : Value.okWide P w rc b0 t v) (h : DataW.Trod en P w base sp held t v d p) : ∃ a, ok a ∧ PRep (fun c => c < w.heap.size) w (x a) v := by
  refine arg_one r ?_ h
  cases v
  case agg cs => exact absurd hv (by simp [Value.okWide, Cell.okWide, Cell.ok, hu])
  all_goals rfl
theorem arg_int {rc : Reach} {b0 : Nat} {t : TypeId} {k : IntKind} {v : Value} {d : DataW H} {p : List MemPlace} {α : Type} {x : α → AV} {ok : α → Prop} (hu : P.underlying t = some (.int k)) (r : Reads P t 1 (fun a => [x a]) ok)
    (hv : Value.okWide P w rc b0 t v) (h : DataW.Trod en P w base sp held t v d p) : ∃ a, ok a ∧ PRep (fun c => c < w.heap.size) w (x a) v := by
  refine arg_one r ?_ h
  cases v
  case agg cs => exact absurd hv (by simp [Value.okWide, Cell.okWide, Cell.ok, hu])
  all_goals rfl
theorem arg_bool {rc : Reach} {b0 : Nat} {t : TypeId} {v : Value} {d : DataW H} {p : List MemPlace} {α : Type} {x : α → AV} {ok : α → Prop} (hu : P.underlying t = some .bool) (r : Reads P t 1 (fun a => [x a]) ok)
    (hv : Value.okWide P w rc b0 t v) (h : DataW.Trod en P w base sp held t v d p) : ∃ a, ok a ∧ PRep (fun c => c < w.heap.size) w (x a) v := by
  refine arg_one r ?_ h
  cases v
  case agg cs => exact absurd hv (by simp [Value.okWide, Cell.okWide, Cell.ok, hu])
  all_goals rfl
variable {enc : TypeId × Value → H} {spare : Nat → Bool}
theorem trodAll_five {t0 t1 t2 t3 t4 : TypeId} {args : Array Value} {ds : List (DataW H)} {ps : List MemPlace} (h : DataW.TrodAll enc P w base spare held [t0, t1, t2, t3, t4] args.toList ds ps) :
    ∃ v0 v1 v2 v3 v4 d0 d1 d2 d3 d4 p0 p1 p2 p3 p4, args = #[v0, v1, v2, v3, v4] ∧ ds = [d0, d1, d2, d3, d4] ∧ ps = p0 ++ p1 ++ p2 ++ p3 ++ p4 ∧ DataW.Trod enc P w base spare held t0 v0 d0 p0 ∧ DataW.Trod enc P w base spare held t1 v1 d1 p1 ∧
      DataW.Trod enc P w base spare held t2 v2 d2 p2 ∧ DataW.Trod enc P w base spare held t3 v3 d3 p3 ∧ DataW.Trod enc P w base spare held t4 v4 d4 p4 := by
  obtain ⟨v0, _, d0, _, p0, _, hargs, rfl, rfl, h0, r0⟩ := trodAll_cons h
  obtain ⟨v1, _, d1, _, p1, _, rfl, rfl, rfl, h1, r1⟩ := trodAll_cons r0
  obtain ⟨v2, _, d2, _, p2, _, rfl, rfl, rfl, h2, r2⟩ := trodAll_cons r1
  obtain ⟨v3, _, d3, _, p3, _, rfl, rfl, rfl, h3, r3⟩ := trodAll_cons r2
  obtain ⟨v4, _, d4, _, p4, _, rfl, rfl, rfl, h4, r4⟩ := trodAll_cons r3
  obtain ⟨rfl, rfl, rfl⟩ := trodAll_nil r4
  exact ⟨v0, v1, v2, v3, v4, d0, d1, d2, d3, d4, p0, p1, p2, p3, p4, by cases args; simp_all, rfl, by simp, h0, h1, h2, h3, h4⟩
end
theorem okI_u8 {n : Int} (h : okI .u8 n) : 0 ≤ n ∧ n ≤ 255 := by
  unfold okI at h
  simpa [Lit.wf, IntKind.has, IntKind.min, IntKind.max, IntKind.signed, IntKind.bits] using h
theorem okI_i8 {n : Int} (h : okI .i8 n) : -128 ≤ n ∧ n ≤ 127 := by
  unfold okI at h
  simpa [Lit.wf, IntKind.has, IntKind.min, IntKind.max, IntKind.signed, IntKind.bits] using h
theorem okI_u16 {n : Int} (h : okI .u16 n) : 0 ≤ n ∧ n ≤ 65535 := by
  unfold okI at h
  simpa [Lit.wf, IntKind.has, IntKind.min, IntKind.max, IntKind.signed, IntKind.bits] using h
theorem okI_i64 {n : Int} (h : okI .i64 n) : -9223372036854775808 ≤ n ∧ n ≤ 9223372036854775807 := by
  unfold okI at h
  simpa [Lit.wf, IntKind.has, IntKind.min, IntKind.max, IntKind.signed, IntKind.bits] using h
theorem rd3 : Reads Try.prog 3 1 (fun n : Int => [.int .i64 n]) (okI .i64) := reads_int Try.underlying3 (by kernel_rfl)
theorem rd4 : Reads Try.prog 4 1 (fun b : Bool => [.bool b]) (fun _ => True) := reads_bool Try.underlying4 (by kernel_rfl)
theorem rd5 : Reads Try.prog 5 1 (fun n : Int => [.int .u8 n]) (okI .u8) := reads_int Try.underlying5 (by kernel_rfl)
theorem rd61 : Reads Try.prog 61 1 (fun n : Int => [.int .i8 n]) (okI .i8) := reads_int Try.underlying61 (by kernel_rfl)
theorem rd52 : Reads Try.prog 52 1 (fun n : Int => [.int .u16 n]) (okI .u16) := reads_int Try.underlying52 (by kernel_rfl)
/-- Numbers that an int can be. -/
def okL (l : List Int) : Prop := l.length ≤ 9223372036854775807 ∧ ∀ a ∈ l, -9223372036854775808 ≤ a ∧ a ≤ 9223372036854775807
theorem rd46 : Reads Try.prog 46 1 (fun l : List Int => [sl l]) okL :=
  (reads_slice Try.underlying46 (by kernel_rfl) (by omega) rd3).conv id _ _ (fun _ => rfl) (fun l => by simp only [sl, ints, id]; congr 2; induction l with | nil => rfl | cons a l ih => simp_all) (fun l h => ⟨h.1, fun a ha => okI_i64 (h.2 a ha)⟩)

theorem rd76 : Reads Try.prog 76 1 (fun l : List Int => [slU l]) (fun l => l.length ≤ 9223372036854775807 ∧ ∀ a ∈ l, 0 ≤ a ∧ a ≤ 65535) :=
  (reads_slice Try.underlying76 (by kernel_rfl) (by omega) rd52).conv id _ _ (fun _ => rfl) (fun l => by simp only [slU, u16s, id]; congr 2; induction l with | nil => rfl | cons a l ih => simp_all) (fun l h => ⟨h.1, fun a ha => okI_u16 (h.2 a ha)⟩)
theorem rd25 : Reads Try.prog 25 2 (fun p : Int × Int => [.int .i64 p.1, .int .i64 p.2]) (fun _ => True) :=
  (reads_struct Try.underlying25 (by kernel_rfl) (readsF_cons rfl rd3 (readsF_cons rfl rd3 readsF_nil))).conv (fun p => (p.1, p.2.1)) _ _ (fun _ => rfl) (fun _ => rfl) (fun _ _ => trivial)
theorem rd45 : Reads Try.prog 45 6 homeC (fun h => 0 ≤ h.pets ∧ h.pets ≤ 255) :=
  (reads_struct Try.underlying45 (by kernel_rfl) (readsF_cons rfl rd3 (readsF_cons rfl rd5 (readsF_cons rfl rd25 (readsF_cons rfl rd3 (readsF_cons rfl rd3 readsF_nil)))))).conv (fun p => ⟨p.1, p.2.1, p.2.2.1.1, p.2.2.1.2, p.2.2.2.1, p.2.2.2.2.1⟩) _ _ (fun _ => rfl) (fun _ => rfl) (fun _ h => okI_u8 h.2.1)
theorem rd56 : Reads Try.prog 56 3 hallC (fun h => 0 ≤ h.pets ∧ h.pets ≤ 255) :=
  (reads_struct Try.underlying56 (by kernel_rfl) (readsF_cons rfl rd3 (readsF_cons rfl rd5 (readsF_cons rfl rd3 readsF_nil)))).conv (fun p => ⟨p.1, p.2.1, p.2.2.1⟩) _ _ (fun _ => rfl) (fun _ => rfl) (fun _ h => okI_u8 h.2.1)
theorem rd22 : Reads Try.prog 22 1 (fun l : List Home => [slH l]) (fun l => l.length ≤ 9223372036854775807 ∧ ∀ h ∈ l, 0 ≤ h.pets ∧ h.pets ≤ 255) :=
  (reads_slice Try.underlying22 (by kernel_rfl) (by omega) rd45).conv id _ _ (fun _ => rfl) (fun l => rfl) (fun l h => h)
theorem rd23 : Reads Try.prog 23 1 (fun l : List Hall => [slL l]) (fun l => l.length ≤ 9223372036854775807 ∧ ∀ h ∈ l, 0 ≤ h.pets ∧ h.pets ≤ 255) :=
  (reads_slice Try.underlying23 (by kernel_rfl) (by omega) rd56).conv id _ _ (fun _ => rfl) (fun l => rfl) (fun l h => h)
/-- A town as it can be handed in. -/
structure TownR (t : Town) : Prop where
  homes : ∀ h ∈ t.homes, 0 ≤ h.pets ∧ h.pets ≤ 255
  halls : ∀ h ∈ t.halls, 0 ≤ h.pets ∧ h.pets ≤ 255
theorem rd27 : Reads Try.prog 27 5 townC TownR :=
  (reads_struct Try.underlying27 (by kernel_rfl) (readsF_cons rfl rd22 (readsF_cons rfl rd23 (readsF_cons rfl rd3 (readsF_cons rfl rd25 readsF_nil))))).conv (fun p => ⟨p.1, p.2.1, p.2.2.1, p.2.2.2.1.1, p.2.2.2.1.2⟩) _ _ (fun _ => rfl) (fun _ => rfl) (fun _ h => ⟨h.1.2, h.2.1.2⟩)
theorem rd49 : Reads Try.prog 49 3 busC (fun b => okL b.homes ∧ (-9223372036854775808 ≤ b.leave ∧ b.leave ≤ 9223372036854775807) ∧ -9223372036854775808 ≤ b.hall ∧ b.hall ≤ 9223372036854775807) :=
  (reads_struct Try.underlying49 (by kernel_rfl) (readsF_cons rfl rd3 (readsF_cons rfl rd3 (readsF_cons rfl rd46 readsF_nil)))).conv (fun p => ⟨p.1, p.2.1, p.2.2.1⟩) _ _ (fun _ => rfl) (fun _ => rfl) (fun _ h => ⟨h.2.2.1, okI_i64 h.1, okI_i64 h.2.1⟩)
def okP (l : List Bus) : Prop := l.length ≤ 9223372036854775807 ∧ ∀ b ∈ l, okL b.homes ∧ (-9223372036854775808 ≤ b.leave ∧ b.leave ≤ 9223372036854775807) ∧ -9223372036854775808 ≤ b.hall ∧ b.hall ≤ 9223372036854775807
theorem rd28 : Reads Try.prog 28 1 (fun l : List Bus => [.psl false l.length (recs busC l)]) okP :=
  (reads_slice Try.underlying28 (by kernel_rfl) (by omega) rd49).conv id _ _ (fun _ => rfl) (fun l => rfl) (fun l h => h)
end Go.Am

/- Lists that are known to be full, and lists: contracts say less of them. -/
namespace Go.Am
open Go.RowKit
set_option linter.unusedSimpArgs false
set_option linter.unusedVariables false

/-- Lists that are known to be full, and lists. -/
inductive Deep : AV → AV → Prop
  | refl (x : AV) : Deep x x
  | psl {f f' : Bool} {n : Nat} {xs ys : List AV} (hf : f' = true → f = true) (hl : xs.length = ys.length) (h : ∀ j (a : j < xs.length) (b : j < ys.length), Deep xs[j] ys[j]) : Deep (.psl f n xs) (.psl f' n ys)
  | agg {xs ys : List AV} (hl : xs.length = ys.length) (h : ∀ j (a : j < xs.length) (b : j < ys.length), Deep xs[j] ys[j]) : Deep (.agg xs) (.agg ys)
theorem prep_deep {ok : Nat → Prop} {w : World} {x y : AV} (d : Deep x y) : ∀ {v : Value}, PRep ok w x v → PRep ok w y v := by
  induction d with
  | refl x => exact fun p => p
  | psl hf hl h ih =>
    intro v p
    cases p with
    | psle h1 h2 h3 =>
      have e := List.eq_nil_of_length_eq_zero hl.symm
      subst e
      exact .psle h1 (fun e => h2 (hf e)) h3
    | psl vs h1 h2 hok hc hr =>
      exact .psl vs h1 (fun e => h2 (hf e)) hok (fun j hj => hc j (by omega)) (fun j hj => ih j (by omega) hj (hr j (by omega)))
  | agg hl h ih =>
    intro v p
    cases p with
    | agg us h1 ho r1 => exact .agg us (by omega) ho (fun j a b => ih j (by omega) a (r1 j (by omega) b))
/-- Lists of values, one by one. -/
def deepL : List AV → List AV → Prop
  | [], [] => True
  | x :: xs, y :: ys => Deep x y ∧ deepL xs ys
  | _, _ => False
theorem deepL_spec : ∀ {xs ys : List AV}, deepL xs ys → xs.length = ys.length ∧ ∀ j (a : j < xs.length) (b : j < ys.length), Deep xs[j] ys[j]
  | [], [], _ => ⟨rfl, fun j a => by simp at a⟩
  | x :: xs, y :: ys, h => by
    obtain ⟨h1, h2⟩ := h
    obtain ⟨h3, h4⟩ := deepL_spec h2
    refine ⟨by simp [h3], fun j a b => ?_⟩
    cases j with
    | zero => exact h1
    | succ j => exact h4 j (by simpa using a) (by simpa using b)
  | [], _ :: _, h => h.elim
  | _ :: _, [], h => h.elim
theorem deep_psl {f : Bool} {n : Nat} {xs ys : List AV} (h : deepL xs ys) : Deep (.psl f n xs) (.psl false n ys) := .psl (fun e => by cases e) (deepL_spec h).1 (deepL_spec h).2
theorem deep_agg {xs ys : List AV} (h : deepL xs ys) : Deep (.agg xs) (.agg ys) := .agg (deepL_spec h).1 (deepL_spec h).2
theorem CallS.deep {P : Program} {f : FuncId} {xs ys : List AV} {r : AV} (h : CallS P f ys r) (hs : deepL xs ys) : CallS P f xs r :=
  ⟨h.1, fun w vs ok h1 h2 h3 => h.2 w vs ok h1 ((deepL_spec hs).1.symm.trans h2) fun j a b => prep_deep ((deepL_spec hs).2 j (by rw [(deepL_spec hs).1]; exact a) a) (h3 j (by rw [(deepL_spec hs).1]; exact a) b)⟩

end Go.Am

/- What the chapter shows (awake), in parts, by running them: the town, its latest minutes, the order, a plan that is right. -/
namespace Go.Am
open Go.RowKit Go.Proofs

def entA (g : FuncId) : Bool := Nat.ble 3 g && Nat.ble g 134
theorem entA_all : (List.range' 3 132).all (entB Try.prog) = true := by kernel_rfl
theorem entA_ok (g : FuncId) (h : entA g = true) : Enters Try.prog g := by
  simp only [entA, Bool.and_eq_true, Nat.ble_eq] at h
  refine enters_of ?_
  have := List.all_eq_true.1 entA_all g (by rw [List.mem_range']; exact ⟨g - 3, by omega, by omega⟩)
  exact this
theorem mixedA : Try.prog.follows .mixedOrders = true := by kernel_rfl
abbrev pmA : FuncId → Bool := fun g => !(Nat.beq g 50 || (Nat.beq g 51 || (Nat.beq g 52 || Nat.beq g 53)))
def town0 : AV := .agg [.psl true 3 [.int .i64 4, .int .u8 1, .int .i64 10, .int .i64 20, .int .i64 5, .int .i64 100, .int .i64 2, .int .u8 0, .int .i64 5, .int .i64 10, .int .i64 0, .int .i64 60, .int .i64 3, .int .u8 2, .int .i64 5, .int .i64 10, .int .i64 2, .int .i64 80], .psl true 2 [.int .i64 6, .int .u8 1, .int .i64 30, .int .i64 10, .int .u8 3, .int .i64 45], .int .i64 7, .int .i64 2, .int .i64 3]
def fleet0 : AV := .psl true 2 [.int .i64 34, .int .i64 1, .psl true 2 [.int .i64 0, .int .i64 2], .int .i64 19, .int .i64 0, .psl true 1 [.int .i64 1]]
set_option maxRecDepth 100000 in
theorem village_c : CallS Try.prog 47 [] town0 :=
  callS_run (eqt := fun _ => true) (pm := pmA) (ent := entA) (lf := 2000) (n := 60) (fun t _ => eqOK t) entA_ok mixedA (by kernel_rfl)
set_option maxRecDepth 100000 in
theorem fleet_c : CallS Try.prog 48 [] fleet0 :=
  callS_run (eqt := fun _ => true) (pm := pmA) (ent := entA) (lf := 2000) (n := 60) (fun t _ => eqOK t) entA_ok mixedA (by kernel_rfl)
set_option maxRecDepth 100000 in
theorem worst0_c : CallS Try.prog 22 [town0] (.tup [.psl false 3 [.int .i64 34, .int .i64 19, .int .i64 21], .int .i64 0]) :=
  callS_run (eqt := fun _ => true) (pm := pmA) (ent := entA) (lf := 2000) (n := 60) (fun t _ => eqOK t) entA_ok mixedA (by kernel_rfl)
set_option maxRecDepth 100000 in
theorem order0_c : CallS Try.prog 23 [town0] (.tup [.psl false 3 [.int .i64 1, .int .i64 2, .int .i64 0], .int .i64 0]) :=
  callS_run (eqt := fun _ => true) (pm := pmA) (ent := entA) (lf := 2000) (n := 60) (fun t _ => eqOK t) entA_ok mixedA (by kernel_rfl)
set_option maxRecDepth 100000 in
theorem prove0_c : CallS Try.prog 19 [town0, fleet0] (.bool true) :=
  callS_run (eqt := fun _ => true) (pm := pmA) (ent := entA) (lf := 2000) (n := 60) (fun t _ => eqOK t) entA_ok mixedA (by kernel_rfl)
end Go.Am

/- What the chapter shows (awake), as a contract. -/
namespace Go.Am
open Go.RowKit Go.Proofs
attribute [local irreducible] AWP CallS Kt goK CallK stepK evOps SemF SemY Imp
set_option maxRecDepth 4000
set_option linter.unusedSimpArgs false
set_option linter.unusedVariables false
set_option maxHeartbeats 1600000

/-- The town of the chapter. -/
def vil : Town := ⟨[⟨4, 1, 10, 20, 5, 100⟩, ⟨2, 0, 5, 10, 0, 60⟩, ⟨3, 2, 5, 10, 2, 80⟩], [⟨6, 1, 30⟩, ⟨10, 3, 45⟩], 7, 2, 3⟩
theorem vil_deep : Deep town0 (.agg (townC vil)) := deep_agg ⟨deep_psl (by rw [show recs homeC vil.homes = _ from rfl]; repeat (first | exact trivial | refine And.intro (.refl _) ?_)), deep_psl (by rw [show recs hallC vil.halls = _ from rfl]; repeat (first | exact trivial | refine And.intro (.refl _) ?_)), .refl _, .refl _, .refl _, trivial⟩
set_option maxRecDepth 100000 in
theorem vil_plan : planE vil = 0 ∧ (planL vil).length = 2 := by
  have h : (decide (planE vil = 0) && Nat.beq (planL vil).length 2) = true := by kernel_rfl
  simpa using h
theorem plan0_c : CallS Try.prog 17 [town0] (.tup [slB (planL vil), .int .i64 0]) := by
  have h := Plan_c vil ⟨by simp [vil], by simp [vil]⟩
  rw [show planV vil = slB (planL vil) by unfold planV; rw [if_pos vil_plan.1], vil_plan.1] at h
  exact h.deep ⟨vil_deep, trivial⟩
theorem awake_c : CallS Try.prog 16 [] (.bool true) := by
  have h1 := ints_c [34, 19, 21] [34, 19, 21] (by simp)
  have h2 := ints_c [1, 2, 0] [1, 2, 0] (by simp)
  have hp := plan0_c
  have hl := vil_plan.2
  have hv := village_c
  have hw := worst0_c
  have ho := order0_c
  have hf := fleet_c
  have hr := prove0_c
  simp only [decide_true] at h1 h2
  have hX := pl_B (l := planL vil)
  simp only [slB, hl] at hp
  generalize recs busC (planL vil) = X at *
  simp only [town0, fleet0] at hv hw hp ho hf hr
  simp only [sl, ints_length, ints_cons, ints_nil, List.length_cons, List.length_nil, Nat.reduceAdd, Nat.zero_add] at h1 h2
  have hx : pureL X = True := hX
  have g1 : CallS Try.prog 34 [.psl false 3 [.int .i64 34, .int .i64 19, .int .i64 21], .psl true 3 [.int .i64 34, .int .i64 19, .int .i64 21]] (.bool true) := h1.deep ⟨.refl _, deep_psl ⟨.refl _, .refl _, .refl _, trivial⟩, trivial⟩
  have g2 : CallS Try.prog 34 [.psl false 3 [.int .i64 1, .int .i64 2, .int .i64 0], .psl true 3 [.int .i64 1, .int .i64 2, .int .i64 0]] (.bool true) := h2.deep ⟨.refl _, deep_psl ⟨.refl _, .refl _, .refl _, trivial⟩, trivial⟩
  (refine callS_of_awp (fun w args => Try.call16 ..) Try.func16 rfl (fun w0 m0 wz => ?_); simp only [Try.ntmps16, Try.results16, initT, junks, homeC, hallC, slH, slL, townC, sl, List.toList_toArray, List.cons_append, List.nil_append, List.length_cons, List.length_nil, Nat.reduceAdd, Nat.reduceSub])
  (repeat' (first
    | (refine awp_seqK ?_)
    | (refine kt ?_)
    | (refine And.intro ?_ ?_)
    | ((first | refine awp_region ?_ | refine awp_draw (by kernel_rfl) (by kernel_rfl) ?_ | refine Imp.le2 ?_ | refine awp_label ?_ | refine awp_skip ?_ | refine awp_exit ?_ | refine awp_cd ?_ | refine awp_ret ?_ | refine callK_of (hv) ?_ | refine callK_of (hw) ?_ | refine callK_of (hp) ?_ | refine callK_of (ho) ?_ | refine callK_of (hf) ?_ | refine callK_of (hr) ?_ | refine callK_of (g1) ?_ | refine callK_of (g2) ?_ | refine go_split (fun _h => ?_) (fun _h => ?_)) <;> try simp (maxSteps := 4000000) only [go_sem, seval, hx])
    | (intro _h)
    | (refine awp_block ?_)
    | (refine awp_scope ?_)
    | (refine cond_b (fun _h => ?_) (fun _h => ?_))
    | (show heapOK _ _ = true; kernel_rfl)
    | (show heapOK2 _ _ = true; kernel_rfl)
    | (omega)))
  all_goals trace_state
theorem thinB_ok {t : Town} (h : thinB t = true) : townOK t ∧ t.homes.length ≤ 12 ∧ t.halls.length ≤ 6 := by
  have := of_decide_eq_true h
  exact ⟨⟨by omega, by omega⟩, by omega, by omega⟩
end Go.Am
