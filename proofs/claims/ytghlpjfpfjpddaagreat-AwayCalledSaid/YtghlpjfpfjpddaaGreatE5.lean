/- Parts TcB, TcC, TqA, TcD of the proof, one behind the other. No statement is proved here. -/
import Derived.Test.YtghlpjfpfjpddaaGreatE4
import Derived.Test.YtghlpjfpfjpddaaGreatE3
import Derived.IntWalk
/- Contracts: sorting as slices does, with a comparison; the order of calls. -/
namespace Go.Am
open Go.RowKit Go.Proofs
attribute [local irreducible] AWP CallS Kt goK CallK stepK evOps SemF SemY Imp
set_option maxRecDepth 4000
set_option linter.unusedSimpArgs false
set_option linter.unusedVariables false
set_option maxHeartbeats 1600000

def byI (t : Town) (a : Int) : Int := byT t (t.homes.getD a.toNat default)
def ltT (t : Town) (a b : Int) : Bool := decide (byI t a < byI t b)
theorem byI_bd {t : Town} (ht : TownOK t) {a : Int} (h : 0 ≤ a ∧ a < t.homes.length) : -1 ≤ byI t a ∧ byI t a ≤ 10000 :=
  byN_bd (ht.home a.toNat (by omega)) _ (fun i hi => ht.hall i hi)
theorem cmp_c (t : Town) (ht : TownOK t) (a b : Int) (ha : 0 ≤ a ∧ a < t.homes.length) (hb : 0 ≤ b ∧ b < t.homes.length) : CallS Tryz.prog 45 [.int .i64 a, .int .i64 b, .pptr (townC t) 0] (.int .i64 (byI t a - byI t b)) := by
  have h1 := by_c t (t.homes.getD a.toNat default) ht (ht.home a.toNat (by omega))
  have h2 := by_c t (t.homes.getD b.toNat default) ht (ht.home b.toNat (by omega))
  have h3 := byI_bd ht ha
  have h4 := byI_bd ht hb
  have e1 : byT t (t.homes.getD a.toNat default) = byI t a := rfl
  have e2 : byT t (t.homes.getD b.toNat default) = byI t b := rfl
  rw [e1] at h1
  rw [e2] at h2
  simp only [townC, slH, slL, homeC] at h1 h2
  (refine callS_of_awp (fun w args => Tryz.call45 ..) Tryz.func45 rfl (fun w0 m0 wz => ?_); simp only [Tryz.ntmps45, Tryz.results45, initT, junks, homeC, hallC, slH, slL, townC, sl, List.toList_toArray, List.cons_append, List.nil_append, List.length_cons, List.length_nil, Nat.reduceAdd, Nat.reduceSub])
  (repeat' (first
    | (refine awp_seqK ?_)
    | (refine kt ?_)
    | (refine And.intro ?_ ?_)
    | ((first | refine awp_region ?_ | refine awp_draw (by kernel_rfl) (by kernel_rfl) ?_ | refine Imp.le2 ?_ | refine awp_label ?_ | refine awp_skip ?_ | refine awp_exit ?_ | refine awp_cd ?_ | refine awp_ret ?_ | refine callK_of (h1) ?_ | refine callK_of (h2) ?_ | refine go_split (fun _h => ?_) (fun _h => ?_)) <;> try simp (maxSteps := 4000000) only [go_sem, seval])
    | (intro _h)
    | (refine awp_block ?_)
    | (refine awp_scope ?_)
    | (refine cond_b (fun _h => ?_) (fun _h => ?_))
    | (show heapOK _ _ = true; kernel_rfl)
    | (show heapOK2 _ _ = true; kernel_rfl)
    | (omega)))
theorem isortC_c (t : Town) (ht : TownOK t) (l : List Int) (g : Nat) (hl : ∀ x ∈ l, 0 ≤ x ∧ x < t.homes.length) (h1 : 1 ≤ l.length ∧ l.length ≤ 12) :
    SemF Tryz.prog 87 [.osl 0 g 0 l.length, .int .i64 0, .int .i64 l.length, .fn (.func 45) [] [.pptr (townC t) 0]] [some (.cells 3 1 g (ints l))] (.tup []) [some (.cells 3 1 g (ints (isort (ltT t) l l.length)))] := by
  (refine semF_of_awp (ys := []) (fun w args => Tryz.call87 ..) Tryz.func87 rfl (fun w0 m0 wz => ?_); simp only [Tryz.ntmps87, Tryz.results87, initT, junks, homeC, hallC, slH, slL, townC, sl, List.toList_toArray, List.cons_append, List.nil_append, List.length_cons, List.length_nil, Nat.reduceAdd, Nat.reduceSub])
  (repeat' (first
    | (refine awp_seqK ?_)
    | (refine kt ?_)
    | (refine And.intro ?_ ?_)
    | ((first | refine awp_region ?_ | refine awp_draw (by kernel_rfl) (by kernel_rfl) ?_ | refine Imp.le2 ?_ | refine awp_label ?_ | refine awp_skip ?_ | refine awp_exit ?_ | refine awp_cd ?_ | refine awp_ret ?_ | refine go_split (fun _h => ?_) (fun _h => ?_)) <;> try simp (maxSteps := 4000000) only [go_sem, seval])
    | (intro _h)
    | (refine awp_block ?_)
    | (refine awp_scope ?_)
    | (refine cond_b (fun _h => ?_) (fun _h => ?_))
    | (show heapOK _ _ = true; kernel_rfl)
    | (show heapOK2 _ _ = true; kernel_rfl)
    | (omega)))
  refine awp_loopN (l.length - 1) (fun k => ⟨mkT 53 [(0, .osl 0 g 0 l.length), (1, .int .i64 0), (2, .int .i64 l.length), (3, .fn (.func 45) [] [.pptr (townC t) 0]), (8, .int .i64 ((k : Int) + 1))], [some (.cells 3 1 g (ints (isort (ltT t) l (k + 1))))], []⟩) (.le2 ?_) ?_
  · simp only [townC, slH, slL]; simp (maxSteps := 4000000) only [go_sem, seval]
    rfl
  · intro k hk
    have hpk := isort_perm (lt := ltT t) (l := l) (k + 1) (by omega)
    have hlk := hpk.length_eq
    simp only [townC, slH, slL]; simp (maxSteps := 4000000) only [go_sem, seval]
    by_cases hk1 : k + 1 < l.length
    · (repeat' (first
    | ((exfalso; omega))
    | (refine awp_seqK ?_)
    | (refine kt ?_)
    | (refine And.intro ?_ ?_)
    | ((first | refine awp_region ?_ | refine awp_draw (by kernel_rfl) (by kernel_rfl) ?_ | refine Imp.le2 ?_ | refine awp_label ?_ | refine awp_skip ?_ | refine awp_exit ?_ | refine awp_cd ?_ | refine awp_ret ?_ | refine go_split (fun _h => ?_) (fun _h => ?_)) <;> try simp (maxSteps := 4000000) only [go_sem, seval])
    | (intro _h)
    | (refine awp_block ?_)
    | (refine awp_scope ?_)
    | (refine cond_b (fun _h => ?_) (fun _h => ?_))
    | (show heapOK _ _ = true; kernel_rfl)
    | (show heapOK2 _ _ = true; kernel_rfl)
    | (omega)))
      refine awp_loopJ (fun x : Nat × List Int => sink (ltT t) x.1 x.2 = isort (ltT t) l (k + 1 + 1) ∧ x.2.length = l.length ∧ x.1 ≤ k + 1 ∧ ∀ y ∈ x.2, 0 ≤ y ∧ y < t.homes.length) (fun x => ⟨mkT 53 [(0, .osl 0 g 0 l.length), (1, .int .i64 0), (2, .int .i64 l.length), (3, .fn (.func 45) [] [.pptr (townC t) 0]), (8, .int .i64 ((k : Int) + 1)), (9, .int .i64 (x.1 : Int))], [some (.cells 3 1 g (ints x.2))], []⟩) (fun x => x.1) (k + 1, isort (ltT t) l (k + 1)) ⟨rfl, hlk, by simp, fun y hy => hl y (hpk.mem_iff.1 hy)⟩ (.le2 ?_) ?_
      · simp only [townC, slH, slL]; simp (maxSteps := 4000000) only [go_sem, seval]
        first | rfl | omega | exact ⟨by omega, rfl⟩
      · rintro ⟨j, L⟩ ⟨hs, hL, hj, hin⟩
        simp only at hs hL hj hin
        cases j with
        | zero =>
          simp only [sink] at hs
          simp only [townC, slH, slL]; simp (maxSteps := 4000000) only [go_sem, seval]
          (repeat' (first
    | ((exfalso; omega))
    | (refine awp_seqK ?_)
    | (refine kt ?_)
    | (refine And.intro ?_ ?_)
    | ((first | refine awp_region ?_ | refine awp_draw (by kernel_rfl) (by kernel_rfl) ?_ | refine Imp.le2 ?_ | refine awp_label ?_ | refine awp_skip ?_ | refine awp_exit ?_ | refine awp_cd ?_ | refine awp_ret ?_ | refine go_split (fun _h => ?_) (fun _h => ?_)) <;> try simp (maxSteps := 4000000) only [go_sem, seval])
    | (intro _h)
    | (refine awp_block ?_)
    | (refine awp_scope ?_)
    | (refine cond_b (fun _h => ?_) (fun _h => ?_))
    | (show heapOK _ _ = true; kernel_rfl)
    | (show heapOK2 _ _ = true; kernel_rfl)
    | (omega)))
          all_goals rw [hs]
        | succ q =>
          have e1 : ((q + 1 : Nat) : Int) - 1 = q := by omega
          have hcm := cmp_c t ht (L.getD (q + 1) 0) (L.getD q 0) (hin _ (getD_mem (by omega))) (hin _ (getD_mem (by omega)))
          simp only [townC, slH, slL] at hcm
          simp only [sink, ltT, decide_eq_true_eq] at hs
          simp only [townC, slH, slL]; simp (maxSteps := 4000000) only [go_sem, seval]
          (repeat' (first
    | ((omega))
    | (refine awp_seqK ?_)
    | (refine kt ?_)
    | (refine And.intro ?_ ?_)
    | ((first | refine awp_region ?_ | refine awp_draw (by kernel_rfl) (by kernel_rfl) ?_ | refine Imp.le2 ?_ | refine awp_label ?_ | refine awp_skip ?_ | refine awp_exit ?_ | refine awp_cd ?_ | refine awp_ret ?_ | refine callK_of (hcm) ?_ | refine go_split (fun _h => ?_) (fun _h => ?_)) <;> try simp (maxSteps := 4000000) only [go_sem, seval, e1, hL])
    | (intro _h)
    | (refine awp_block ?_)
    | (refine awp_scope ?_)
    | (refine cond_b (fun _h => ?_) (fun _h => ?_))
    | (show heapOK _ _ = true; kernel_rfl)
    | (show heapOK2 _ _ = true; kernel_rfl)
    | (omega)))
          all_goals first
            | (rw [isp_length (by omega)]; omega)
            | (rw [if_pos (by omega)] at hs
               refine ⟨(q, swp2 L q), ⟨hs, by rw [swp2_length (by omega)]; exact hL, by simp only; omega, fun y hy => hin y ((swp2_perm (by omega)).mem_iff.1 hy)⟩, by simp only; omega, .le2 ?_⟩
               simp only [swp2]; simp (maxSteps := 4000000) only [go_sem, seval])
            | (rw [if_neg (by omega)] at hs; rw [hs])
    · have e : k + 1 = l.length := by omega
      (repeat' (first
    | ((exfalso; omega))
    | (refine awp_seqK ?_)
    | (refine kt ?_)
    | (refine And.intro ?_ ?_)
    | ((first | refine awp_region ?_ | refine awp_draw (by kernel_rfl) (by kernel_rfl) ?_ | refine Imp.le2 ?_ | refine awp_label ?_ | refine awp_skip ?_ | refine awp_exit ?_ | refine awp_cd ?_ | refine awp_ret ?_ | refine go_split (fun _h => ?_) (fun _h => ?_)) <;> try simp (maxSteps := 4000000) only [go_sem, seval])
    | (intro _h)
    | (refine awp_block ?_)
    | (refine awp_scope ?_)
    | (refine cond_b (fun _h => ?_) (fun _h => ?_))
    | (show heapOK _ _ = true; kernel_rfl)
    | (show heapOK2 _ _ = true; kernel_rfl)
    | (omega)))
      all_goals rw [e]
theorem stable_c (t : Town) (ht : TownOK t) (l : List Int) (g : Nat) (hl : ∀ x ∈ l, 0 ≤ x ∧ x < t.homes.length) (h1 : 1 ≤ l.length ∧ l.length ≤ 12) :
    SemF Tryz.prog 62 [.osl 0 g 0 l.length, .int .i64 l.length, .fn (.func 45) [] [.pptr (townC t) 0]] [some (.cells 3 1 g (ints l))] (.tup []) [some (.cells 3 1 g (ints (isort (ltT t) l l.length)))] := by
  have hs := isortC_c t ht l g hl h1
  have e1 : ((20 : Int) ≤ l.length) = False := eq_false (by omega)
  have e2 : ((20 : Int) < l.length) = False := eq_false (by omega)
  simp only [townC, slH, slL] at hs
  (refine semF_of_awp (ys := []) (fun w args => Tryz.call62 ..) Tryz.func62 rfl (fun w0 m0 wz => ?_); simp only [Tryz.ntmps62, Tryz.results62, initT, junks, homeC, hallC, slH, slL, townC, sl, List.toList_toArray, List.cons_append, List.nil_append, List.length_cons, List.length_nil, Nat.reduceAdd, Nat.reduceSub])
  (repeat' (first
    | (refine awp_seqK ?_)
    | (refine kt ?_)
    | (refine And.intro ?_ ?_)
    | ((first | refine awp_region ?_ | refine awp_draw (by kernel_rfl) (by kernel_rfl) ?_ | refine Imp.le2 ?_ | refine awp_label ?_ | refine awp_skip ?_ | refine awp_exit ?_ | refine awp_cd ?_ | refine awp_ret ?_ | refine go_split (fun _h => ?_) (fun _h => ?_)) <;> try simp (maxSteps := 4000000) only [go_sem, seval])
    | (intro _h)
    | (refine awp_block ?_)
    | (refine awp_scope ?_)
    | (refine cond_b (fun _h => ?_) (fun _h => ?_))
    | (show heapOK _ _ = true; kernel_rfl)
    | (show heapOK2 _ _ = true; kernel_rfl)
    | (omega)))
  (refine awp_rounds 1 ?_; rw [ar_s])
  (repeat' (first
    | (refine awp_ownN (id := 6) 4 rfl ?_; simp (maxSteps := 4000000) only [go_sem, seval, List.take_succ_cons, List.take_zero, e1, e2, decide_false])
    | (refine own_go (hs) [0] rfl ?_ ?_ rfl ?_ <;> try simp (maxSteps := 4000000) only [go_sem, seval, Nat.lt_irrefl, e1, e2, decide_false] <;> try decide)
    | (refine awp_seqK ?_)
    | (refine kt ?_)
    | (refine And.intro ?_ ?_)
    | ((first | refine awp_region ?_ | refine awp_draw (by kernel_rfl) (by kernel_rfl) ?_ | refine Imp.le2 ?_ | refine awp_label ?_ | refine awp_skip ?_ | refine awp_exit ?_ | refine awp_cd ?_ | refine awp_ret ?_ | refine go_split (fun _h => ?_) (fun _h => ?_)) <;> try simp (maxSteps := 4000000) only [go_sem, seval, e1, e2, decide_false])
    | (intro _h)
    | (refine awp_block ?_)
    | (refine awp_scope ?_)
    | (refine cond_b (fun _h => ?_) (fun _h => ?_))
    | (show heapOK _ _ = true; kernel_rfl)
    | (show heapOK2 _ _ = true; kernel_rfl)
    | (omega)))
  (refine awp_rounds 1 ?_; rw [ar_s])
  (repeat' (first
    | (refine awp_seqK ?_)
    | (refine kt ?_)
    | (refine And.intro ?_ ?_)
    | ((first | refine awp_region ?_ | refine awp_draw (by kernel_rfl) (by kernel_rfl) ?_ | refine Imp.le2 ?_ | refine awp_label ?_ | refine awp_skip ?_ | refine awp_exit ?_ | refine awp_cd ?_ | refine awp_ret ?_ | refine go_split (fun _h => ?_) (fun _h => ?_)) <;> try simp (maxSteps := 4000000) only [go_sem, seval, e1, e2, decide_false])
    | (intro _h)
    | (refine awp_block ?_)
    | (refine awp_scope ?_)
    | (refine cond_b (fun _h => ?_) (fun _h => ?_))
    | (show heapOK _ _ = true; kernel_rfl)
    | (show heapOK2 _ _ = true; kernel_rfl)
    | (omega)))
theorem sortC_c (t : Town) (ht : TownOK t) (l : List Int) (g : Nat) (hl : ∀ x ∈ l, 0 ≤ x ∧ x < t.homes.length) (h1 : 1 ≤ l.length ∧ l.length ≤ 12) :
    SemF Tryz.prog 44 [.osl 0 g 0 l.length, .fn (.func 45) [] [.pptr (townC t) 0]] [some (.cells 3 1 g (ints l))] (.tup []) [some (.cells 3 1 g (ints (isort (ltT t) l l.length)))] := by
  have hs := stable_c t ht l g hl h1
  simp only [townC, slH, slL] at hs
  (refine semF_of_awp (ys := []) (fun w args => Tryz.call44 ..) Tryz.func44 rfl (fun w0 m0 wz => ?_); simp only [Tryz.ntmps44, Tryz.results44, initT, junks, homeC, hallC, slH, slL, townC, sl, List.toList_toArray, List.cons_append, List.nil_append, List.length_cons, List.length_nil, Nat.reduceAdd, Nat.reduceSub])
  (repeat' (first
    | (refine awp_ownN 4 rfl ?_; simp (maxSteps := 4000000) only [go_sem, seval, List.take_succ_cons, List.take_zero]; (repeat refine And.intro (by omega) ?_); refine own_go (hs) [0] rfl ?_ ?_ rfl ?_ <;> try simp (maxSteps := 4000000) only [go_sem, seval, Nat.lt_irrefl] <;> try decide)
    | (refine awp_seqK ?_)
    | (refine kt ?_)
    | (refine And.intro ?_ ?_)
    | ((first | refine awp_region ?_ | refine awp_draw (by kernel_rfl) (by kernel_rfl) ?_ | refine Imp.le2 ?_ | refine awp_label ?_ | refine awp_skip ?_ | refine awp_exit ?_ | refine awp_cd ?_ | refine awp_ret ?_ | refine go_split (fun _h => ?_) (fun _h => ?_)) <;> try simp (maxSteps := 4000000) only [go_sem, seval])
    | (intro _h)
    | (refine awp_block ?_)
    | (refine awp_scope ?_)
    | (refine cond_b (fun _h => ?_) (fun _h => ?_))
    | (show heapOK _ _ = true; kernel_rfl)
    | (show heapOK2 _ _ = true; kernel_rfl)
    | (omega)))
end Go.Am

/- Contracts of the away functions: the order of calls; the reference of it. -/
namespace Go.Am
open Go.RowKit Go.Proofs
attribute [local irreducible] AWP CallS Kt goK CallK stepK evOps SemF SemY Imp
set_option maxRecDepth 4000
set_option linter.unusedSimpArgs false
set_option linter.unusedVariables false
set_option maxHeartbeats 1600000

/-- The order of calls. -/
def ordL (t : Town) : List Int := isort (ltT t) (upTo t.homes.length) t.homes.length
theorem ordL_perm {t : Town} : (ordL t).Perm (upTo t.homes.length) := isort_perm _ (by rw [upTo_length]; omega)
theorem ordL_ord {t : Town} : Ord t.homes.length (ordL t) :=
  ⟨by rw [ordL_perm.length_eq, upTo_length], fun x hx => upTo_mem.1 (ordL_perm.mem_iff.1 hx), ordL_perm.nodup_iff.2 upTo_nodup⟩
/-- How many of the first ones cannot all be called, from a place on. -/
def lateF (t : Town) : Nat → Nat → Int
  | 0, _ => 0
  | f + 1, i => if ((i : Int) + 1) * t.chi > byI t ((ordL t).getD i 0) then i + 1 else lateF t f (i + 1)
def lateN (t : Town) : Int := lateF t t.homes.length 0
theorem order_c (t : Town) (ht : TownOK t) : SemF Tryz.prog 23 [.agg (townC t)] [] (.tup [.osl 1 t.homes.length 0 t.homes.length, .int .i64 (lateN t)]) [none, some (.cells 3 1 t.homes.length (ints (ordL t)))] := by
  obtain ⟨hh1, hh2⟩ := ht.homes
  have hc := ht.call
  have hul := upTo_length (n := t.homes.length)
  have hso := sortC_c t ht (upTo t.homes.length) t.homes.length (fun x hx => upTo_mem.1 hx) (by omega)
  rw [upTo_length] at hso
  have eo : isort (ltT t) (upTo t.homes.length) t.homes.length = ordL t := rfl
  rw [eo] at hso
  simp only [townC, slH, slL] at hso
  (refine semF_of_awp (ys := [.osl 1 t.homes.length 0 t.homes.length, .int .i64 (lateN t)]) (fun w args => Tryz.call23 ..) Tryz.func23 rfl (fun w0 m0 wz => ?_); simp only [Tryz.ntmps23, Tryz.results23, initT, junks, homeC, hallC, slH, slL, townC, sl, List.toList_toArray, List.cons_append, List.nil_append, List.length_cons, List.length_nil, Nat.reduceAdd, Nat.reduceSub])
  ((repeat refine awp_seqK ?_); refine awp_region ?_; simp (maxSteps := 4000000) only [go_sem, seval]; refine kt ?_)
  (refine awp_frz 0 rfl (by simp (maxSteps := 4000000) only [go_sem, seval]) (fun _ => rfl) ?_; simp only [frz, fzl, fz2, fz1, fz0, fzH, fzHs, fzO, fzB, List.map_cons, List.map_nil, if_true, if_false, reduceIte, Nat.reduceEqDiff, Nat.reduceAdd, Nat.succ_ne_self, Nat.zero_ne_one, Nat.one_ne_zero, reduceCtorEq, and_self])
  (repeat' (first
    | (refine awp_seqK ?_)
    | (refine kt ?_)
    | (refine And.intro ?_ ?_)
    | ((first | refine awp_region ?_ | refine awp_draw (by kernel_rfl) (by kernel_rfl) ?_ | refine Imp.le2 ?_ | refine awp_label ?_ | refine awp_skip ?_ | refine awp_exit ?_ | refine awp_cd ?_ | refine awp_ret ?_ | refine go_split (fun _h => ?_) (fun _h => ?_)) <;> try simp (maxSteps := 4000000) only [go_sem, seval])
    | (intro _h)
    | (refine awp_block ?_)
    | (refine awp_scope ?_)
    | (refine cond_b (fun _h => ?_) (fun _h => ?_))
    | (show heapOK _ _ = true; kernel_rfl)
    | (show heapOK2 _ _ = true; kernel_rfl)
    | (omega)))
  (refine awp_adT 2 3 1 rfl ?_; simp only [adT, lset, hset, List.length_cons, List.length_nil, Nat.reduceAdd])
  refine awp_loopN t.homes.length (fun k => ⟨mkT 47 [(1, .pptr (townC t) 0), (2, .osl 1 k 0 k), (3, .int .i64 0), (8, slH t.homes), (9, .int .i64 t.homes.length), (10, .int .i64 k)], [none, some (.cells 3 1 k (ints (upTo k)))], []⟩) (.le2 ?_) ?_
  · simp only [townC, slH, slL]; simp (maxSteps := 4000000) only [go_sem, seval]
    rfl
  · intro k hk
    rcases Nat.lt_or_eq_of_le hk with hk1 | hk1
    · have hlk : (upTo k).length = k := upTo_length
      have hs : ints (upTo k) ++ [.int .i64 (k : Int)] = ints (upTo (k + 1)) := by rw [upTo_succ]; simp [ints_append, ints_cons, ints_nil]
      simp only [townC, slH, slL]; simp (maxSteps := 4000000) only [go_sem, seval]
      (repeat' (first
    | ((omega))
    | (refine awp_seqK ?_)
    | (refine kt ?_)
    | (refine And.intro ?_ ?_)
    | ((first | refine awp_region ?_ | refine awp_draw (by kernel_rfl) (by kernel_rfl) ?_ | refine Imp.le2 ?_ | refine awp_label ?_ | refine awp_skip ?_ | refine awp_exit ?_ | refine awp_cd ?_ | refine awp_ret ?_ | refine go_split (fun _h => ?_) (fun _h => ?_)) <;> try simp (maxSteps := 4000000) only [go_sem, seval, hlk, hs])
    | (intro _h)
    | (refine awp_block ?_)
    | (refine awp_scope ?_)
    | (refine cond_b (fun _h => ?_) (fun _h => ?_))
    | (show heapOK _ _ = true; kernel_rfl)
    | (show heapOK2 _ _ = true; kernel_rfl)
    | (omega)))
      all_goals trace_state
    · subst hk1
      simp only [townC, slH, slL]; simp (maxSteps := 4000000) only [go_sem, seval]
      (repeat' (first
    | ((exfalso; omega))
    | (refine awp_ownN 2 rfl ?_; simp (maxSteps := 4000000) only [go_sem, seval, List.take_succ_cons, List.take_zero]; (repeat refine And.intro (by omega) ?_); refine own_go (hso) [1] rfl ?_ ?_ rfl ?_ <;> try simp (maxSteps := 4000000) only [go_sem, seval, Nat.lt_irrefl] <;> try decide)
    | (refine awp_seqK ?_)
    | (refine kt ?_)
    | (refine And.intro ?_ ?_)
    | ((first | refine awp_region ?_ | refine awp_draw (by kernel_rfl) (by kernel_rfl) ?_ | refine Imp.le2 ?_ | refine awp_label ?_ | refine awp_skip ?_ | refine awp_exit ?_ | refine awp_cd ?_ | refine awp_ret ?_ | refine go_split (fun _h => ?_) (fun _h => ?_)) <;> try simp (maxSteps := 4000000) only [go_sem, seval])
    | (intro _h)
    | (refine awp_block ?_)
    | (refine awp_scope ?_)
    | (refine cond_b (fun _h => ?_) (fun _h => ?_))
    | (show heapOK _ _ = true; kernel_rfl)
    | (show heapOK2 _ _ = true; kernel_rfl)
    | (omega)))
      have hol : (ordL t).length = t.homes.length := ordL_ord.len
      refine awp_loopJ (fun i : Nat => i ≤ t.homes.length ∧ lateF t (t.homes.length - i) i = lateN t) (fun i => ⟨mkT 47 [(1, .pptr (townC t) 0), (2, .osl 1 t.homes.length 0 t.homes.length), (3, .int .i64 0), (21, .osl 1 t.homes.length 0 t.homes.length), (22, .int .i64 t.homes.length), (23, .int .i64 i)], [none, some (.cells 3 1 t.homes.length (ints (ordL t)))], []⟩) (fun i => t.homes.length - i) 0 ⟨Nat.zero_le _, rfl⟩ (.le2 ?_) ?_
      · simp only [townC, slH, slL]; simp (maxSteps := 4000000) only [go_sem, seval]
        try rfl
      · rintro i ⟨hi, hf⟩
        by_cases hi1 : i < t.homes.length
        · have hor := ordL_ord.at (l := ordL t) (k := i) (by omega)
          have hby := by_c t (t.homes.getD ((ordL t).getD i 0).toNat default) ht (ht.home _ (by omega))
          have e1 : byT t (t.homes.getD ((ordL t).getD i 0).toNat default) = byI t ((ordL t).getD i 0) := rfl
          rw [e1] at hby
          have hm := mul_bd (a := (i : Int) + 1) (A := 8) (b := t.chi) (B := 60) (by omega) (by omega) (by omega) (by omega)
          rw [show t.homes.length - i = (t.homes.length - (i + 1)) + 1 by omega] at hf
          simp only [lateF] at hf
          simp only [townC, slH, slL, homeC] at hby
          simp only [townC, slH, slL]; simp (maxSteps := 4000000) only [go_sem, seval]
          (repeat' (first
    | ((omega))
    | (refine awp_seqK ?_)
    | (refine kt ?_)
    | (refine And.intro ?_ ?_)
    | ((first | refine awp_region ?_ | refine awp_draw (by kernel_rfl) (by kernel_rfl) ?_ | refine Imp.le2 ?_ | refine awp_label ?_ | refine awp_skip ?_ | refine awp_exit ?_ | refine awp_cd ?_ | refine awp_ret ?_ | refine callK_of (hby) ?_ | refine go_split (fun _h => ?_) (fun _h => ?_)) <;> try simp (maxSteps := 4000000) only [go_sem, seval, hol])
    | (intro _h)
    | (refine awp_block ?_)
    | (refine awp_scope ?_)
    | (refine cond_b (fun _h => ?_) (fun _h => ?_))
    | (show heapOK _ _ = true; kernel_rfl)
    | (show heapOK2 _ _ = true; kernel_rfl)
    | (omega)))
          all_goals (refine ⟨i + 1, ⟨by omega, by rw [if_neg (by omega)] at hf; exact hf⟩, by omega, .le2 ?_⟩; simp (maxSteps := 4000000) only [go_sem, seval]; try rfl)
        · have e : i = t.homes.length := by omega
          subst e
          simp only [townC, slH, slL]; simp (maxSteps := 4000000) only [go_sem, seval]
          rw [Nat.sub_self] at hf
          simp only [lateF] at hf
          (repeat' (first
    | ((exfalso; omega))
    | (refine awp_seqK ?_)
    | (refine kt ?_)
    | (refine And.intro ?_ ?_)
    | ((first | refine awp_region ?_ | refine awp_draw (by kernel_rfl) (by kernel_rfl) ?_ | refine Imp.le2 ?_ | refine awp_label ?_ | refine awp_skip ?_ | refine awp_exit ?_ | refine awp_cd ?_ | refine awp_ret ?_ | refine go_split (fun _h => ?_) (fun _h => ?_)) <;> try simp (maxSteps := 4000000) only [go_sem, seval])
    | (intro _h)
    | (refine awp_block ?_)
    | (refine awp_scope ?_)
    | (refine cond_b (fun _h => ?_) (fun _h => ?_))
    | (show heapOK _ _ = true; kernel_rfl)
    | (show heapOK2 _ _ = true; kernel_rfl)
    | (omega)))
          all_goals exact hf
theorem lateF_bd {t : Town} : ∀ (f i : Nat), lateF t f i = 0 ∨ ((i : Int) < lateF t f i ∧ lateF t f i ≤ i + f)
  | 0, _ => .inl rfl
  | f + 1, i => by
    simp only [lateF]
    split
    · right; omega
    · rcases lateF_bd (t := t) f (i + 1) with h | h
      · exact .inl h
      · right; omega
theorem lateN_bd {t : Town} : 0 ≤ lateN t ∧ lateN t ≤ t.homes.length := by
  have := lateF_bd (t := t) t.homes.length 0
  unfold lateN
  omega
def orderE (t : Town) : Int := if faultT t ≠ 0 then faultT t else if 0 < lateN t then 11 else 0
def orderV (t : Town) : AV := if orderE t = 0 then sl (ordL t) else .nils
theorem Order_c (t : Town) (hb : townOK t) : CallS Tryz.prog 6 [.agg (townC t)] (.tup [orderV t, .int .i64 (orderE t)]) := by
  have hch := check_c t hb
  by_cases h0 : faultT t = 0
  · have ht := faultT_zero h0
    have hlen := ht.homes
    have ho := order_c t ht
    have hol : (ordL t).length = t.homes.length := ordL_ord.len
    have e0 : (faultT t = 0) = True := eq_true h0
    simp only [townC, slH, slL, h0] at hch ho
    by_cases hl : 0 < lateN t
    · have e1 : orderE t = 11 := by simp [orderE, h0, hl]
      have e2 : (0 < lateN t) = True := eq_true hl
      rw [show orderV t = .nils by simp [orderV, e1], e1]
      (refine callS_of_awp (fun w args => Tryz.call6 ..) Tryz.func6 rfl (fun w0 m0 wz => ?_); simp only [Tryz.ntmps6, Tryz.results6, initT, junks, homeC, hallC, slH, slL, townC, sl, List.toList_toArray, List.cons_append, List.nil_append, List.length_cons, List.length_nil, Nat.reduceAdd, Nat.reduceSub])
      (repeat' (first
    | (refine awp_ownN 1 rfl ?_; simp (maxSteps := 4000000) only [go_sem, seval, List.take_succ_cons, List.take_zero, e0, decide_true, e2]; (repeat refine And.intro (by omega) ?_); refine own_go (ho) [] rfl ?_ ?_ rfl ?_ <;> try simp (maxSteps := 4000000) only [go_sem, seval, Nat.lt_irrefl, e0, decide_true, e2] <;> try decide)
    | (refine awp_seqK ?_)
    | (refine kt ?_)
    | (refine And.intro ?_ ?_)
    | ((first | refine awp_region ?_ | refine awp_draw (by kernel_rfl) (by kernel_rfl) ?_ | refine Imp.le2 ?_ | refine awp_label ?_ | refine awp_skip ?_ | refine awp_exit ?_ | refine awp_cd ?_ | refine awp_ret ?_ | refine callK_of (hch) ?_ | refine go_split (fun _h => ?_) (fun _h => ?_)) <;> try simp (maxSteps := 4000000) only [go_sem, seval, e0, decide_true, e2])
    | (intro _h)
    | (refine awp_block ?_)
    | (refine awp_scope ?_)
    | (refine cond_b (fun _h => ?_) (fun _h => ?_))
    | (show heapOK _ _ = true; kernel_rfl)
    | (show heapOK2 _ _ = true; kernel_rfl)
    | (omega)))
      all_goals trace_state
    · have e1 : orderE t = 0 := by simp [orderE, h0, hl]
      have e2 : (0 < lateN t) = False := eq_false hl
      simp only [orderV, e1, if_true, sl]
      (refine callS_of_awp (fun w args => Tryz.call6 ..) Tryz.func6 rfl (fun w0 m0 wz => ?_); simp only [Tryz.ntmps6, Tryz.results6, initT, junks, homeC, hallC, slH, slL, townC, sl, List.toList_toArray, List.cons_append, List.nil_append, List.length_cons, List.length_nil, Nat.reduceAdd, Nat.reduceSub])
      (repeat' (first
    | (refine awp_ownN 1 rfl ?_; simp (maxSteps := 4000000) only [go_sem, seval, List.take_succ_cons, List.take_zero, e0, decide_true, e2, decide_false]; (repeat refine And.intro (by omega) ?_); refine own_go (ho) [] rfl ?_ ?_ rfl ?_ <;> try simp (maxSteps := 4000000) only [go_sem, seval, Nat.lt_irrefl, e0, decide_true, e2, decide_false] <;> try decide)
    | (refine awp_seqK ?_)
    | (refine kt ?_)
    | (refine And.intro ?_ ?_)
    | ((first | refine awp_region ?_ | refine awp_draw (by kernel_rfl) (by kernel_rfl) ?_ | refine Imp.le2 ?_ | refine awp_label ?_ | refine awp_skip ?_ | refine awp_exit ?_ | refine awp_cd ?_ | refine awp_ret ?_ | refine callK_of (hch) ?_ | refine go_split (fun _h => ?_) (fun _h => ?_)) <;> try simp (maxSteps := 4000000) only [go_sem, seval, e0, decide_true, e2, decide_false])
    | (intro _h)
    | (refine awp_block ?_)
    | (refine awp_scope ?_)
    | (refine cond_b (fun _h => ?_) (fun _h => ?_))
    | (show heapOK _ _ = true; kernel_rfl)
    | (show heapOK2 _ _ = true; kernel_rfl)
    | (omega)))
      all_goals trace_state
  · have e0 : (faultT t = 0) = False := eq_false h0
    have e1 : orderE t = faultT t := by simp [orderE, h0]
    simp only [orderV, e1, h0, if_false]
    simp only [townC, slH, slL] at hch
    (refine callS_of_awp (fun w args => Tryz.call6 ..) Tryz.func6 rfl (fun w0 m0 wz => ?_); simp only [Tryz.ntmps6, Tryz.results6, initT, junks, homeC, hallC, slH, slL, townC, sl, List.toList_toArray, List.cons_append, List.nil_append, List.length_cons, List.length_nil, Nat.reduceAdd, Nat.reduceSub])
    (repeat' (first
    | (refine awp_seqK ?_)
    | (refine kt ?_)
    | (refine And.intro ?_ ?_)
    | ((first | refine awp_region ?_ | refine awp_draw (by kernel_rfl) (by kernel_rfl) ?_ | refine Imp.le2 ?_ | refine awp_label ?_ | refine awp_skip ?_ | refine awp_exit ?_ | refine awp_cd ?_ | refine awp_ret ?_ | refine callK_of (hch) ?_ | refine go_split (fun _h => ?_) (fun _h => ?_)) <;> try simp (maxSteps := 4000000) only [go_sem, seval, e0, decide_false])
    | (intro _h)
    | (refine awp_block ?_)
    | (refine awp_scope ?_)
    | (refine cond_b (fun _h => ?_) (fun _h => ?_))
    | (show heapOK _ _ = true; kernel_rfl)
    | (show heapOK2 _ _ = true; kernel_rfl)
    | (omega)))
end Go.Am

/- A list that is turned; sorting by a key gives rising keys. No program is in sight. -/
namespace Go.Am
open Go.RowKit Go.Proofs
set_option linter.unusedSimpArgs false
set_option linter.unusedVariables false

def rot {α : Type} (l : List α) (k : Nat) : List α := l.drop k ++ l.take k
theorem rot_length {α : Type} {l : List α} {k : Nat} (hk : k ≤ l.length) : (rot l k).length = l.length := by
  simp only [rot, List.length_append, List.length_drop, List.length_take]; omega
theorem rot_perm {α : Type} {l : List α} {k : Nat} : (rot l k).Perm l := by
  have := List.perm_append_comm (l₁ := l.drop k) (l₂ := l.take k)
  rw [List.take_append_drop] at this
  exact this
theorem rot_getD {α : Type} {l : List α} {k j : Nat} {d : α} (hk : k ≤ l.length) (hj : j < l.length) : (rot l k).getD j d = l.getD ((j + k) % l.length) d := by
  unfold rot
  by_cases h : j + k < l.length
  · rw [Nat.mod_eq_of_lt h]
    simp only [List.getD_eq_getElem?_getD]
    rw [List.getElem?_append_left (by rw [List.length_drop]; omega), List.getElem?_drop, Nat.add_comm]
  · have e : (j + k) % l.length = j + k - l.length := by
      rw [Nat.mod_eq_sub_mod (by omega), Nat.mod_eq_of_lt (by omega)]
    rw [e]
    simp only [List.getD_eq_getElem?_getD]
    rw [List.getElem?_append_right (by rw [List.length_drop]; omega), List.length_drop, List.getElem?_take]
    rw [if_pos (by omega), show j - (l.length - k) = j + k - l.length by omega]
theorem rot_rot {α : Type} {l : List α} {k : Nat} (hk : k ≤ l.length) : rot (rot l k) (l.length - k) = l := by
  have e : l.length - k = (l.drop k).length := by rw [List.length_drop]
  unfold rot
  rw [e, List.drop_left, List.take_left, List.take_append_drop]

/-! ### Sorting by a key -/
theorem swp2_getD {l : List Int} {j i : Nat} (h : j + 1 < l.length) : (swp2 l j).getD i 0 = if i = j then l.getD (j + 1) 0 else if i = j + 1 then l.getD j 0 else l.getD i 0 := by
  unfold swp2
  rw [isp_getD (by rw [isp_length h]; omega), isp_getD h]
theorem sink_sorted {key : Int → Int} : ∀ (j : Nat) (L : List Int), j < L.length → (∀ a b, a < b → b < j → key (L.getD a 0) ≤ key (L.getD b 0)) →
    (∀ a b, a < b → b ≤ j → key ((sink (fun x y => decide (key x < key y)) j L).getD a 0) ≤ key ((sink (fun x y => decide (key x < key y)) j L).getD b 0)) ∧
    (∀ a, j < a → (sink (fun x y => decide (key x < key y)) j L).getD a 0 = L.getD a 0) ∧
    (∀ M, (∀ a, a ≤ j → key (L.getD a 0) ≤ M) → ∀ a, a ≤ j → key ((sink (fun x y => decide (key x < key y)) j L).getD a 0) ≤ M)
  | 0, L, _, _ => ⟨fun a b h1 h2 => by omega, fun a _ => rfl, fun M h a ha => h a ha⟩
  | j + 1, L, hj, hs => by
    simp only [sink, decide_eq_true_eq]
    split
    · rename_i hlt
      have hg := fun i => swp2_getD (l := L) (j := j) (i := i) hj
      have hl := swp2_length (l := L) (j := j) hj
      obtain ⟨i1, i2, i3⟩ := sink_sorted (key := key) j (swp2 L j) (by omega) (fun a b h1 h2 => by
        rw [hg, hg, if_neg (by omega), if_neg (by omega), if_neg (by omega), if_neg (by omega)]
        exact hs a b h1 (by omega))
      have top : (sink (fun x y => decide (key x < key y)) j (swp2 L j)).getD (j + 1) 0 = L.getD j 0 := by
        rw [i2 (j + 1) (by omega), hg, if_neg (by omega), if_pos rfl]
      have low : ∀ a, a ≤ j → key ((swp2 L j).getD a 0) ≤ key (L.getD j 0) := fun a ha => by
        rw [hg]
        rcases Nat.lt_or_eq_of_le ha with h | h
        · rw [if_neg (by omega), if_neg (by omega)]
          exact hs a j h (by omega)
        · rw [if_pos h]; omega
      refine ⟨fun a b h1 h2 => ?_, fun a ha => ?_, fun M hM a ha => ?_⟩
      · rcases Nat.lt_or_eq_of_le h2 with h | h
        · exact i1 a b h1 (by omega)
        · subst h
          rw [top]
          exact i3 _ low a (by omega)
      · rw [i2 a (by omega), hg, if_neg (by omega), if_neg (by omega)]
      · rcases Nat.lt_or_eq_of_le ha with h | h
        · refine i3 M (fun b hb => ?_) a (by omega)
          rw [hg]
          split
          · exact hM _ (by omega)
          · rw [if_neg (by omega)]; exact hM _ (by omega)
        · subst h
          rw [top]; exact hM j (by omega)
    · rename_i hlt
      refine ⟨fun a b h1 h2 => ?_, fun a _ => rfl, fun M hM a ha => hM a ha⟩
      rcases Nat.lt_or_eq_of_le h2 with h | h
      · exact hs a b h1 h
      · subst h
        rcases Nat.lt_or_eq_of_le (show a ≤ j by omega) with h3 | h3
        · have := hs a j h3 (by omega); omega
        · subst h3; omega
theorem isort_sorted {key : Int → Int} {L : List Int} : ∀ k, k ≤ L.length → ∀ a b, a < b → b < k → key ((isort (fun x y => decide (key x < key y)) L k).getD a 0) ≤ key ((isort (fun x y => decide (key x < key y)) L k).getD b 0)
  | 0, _, a, b, _, h => by omega
  | k + 1, hk, a, b, h1, h2 => by
    have ih := isort_sorted (key := key) (L := L) k (by omega)
    simp only [isort]
    exact (sink_sorted (key := key) k _ (by rw [isort_length (by omega)]; omega) ih).1 a b h1 (by omega)

/-! ### The minutes by which the homes have to be called -/
/-- They rise. -/
def minL (t : Town) : List Int := (ordL t).map (byI t)
theorem minL_sorted {t : Town} : (minL t).Pairwise (· ≤ ·) := by
  have hl : (ordL t).length = t.homes.length := ordL_ord.len
  have h := isort_sorted (key := byI t) (L := upTo t.homes.length) t.homes.length (by rw [upTo_length]; omega)
  unfold minL
  rw [List.pairwise_iff_getElem]
  intro i j hi hj hij
  rw [List.length_map] at hi hj
  have h1 := h i j hij (by omega)
  have e : isort (fun x y => decide (byI t x < byI t y)) (upTo t.homes.length) t.homes.length = ordL t := rfl
  rw [e] at h1
  simpa [List.getD_eq_getElem?_getD, hi, hj] using h1
theorem minL_perm {t : Town} : (minL t).Perm (t.homes.map (byT t)) := by
  have h := (ordL_perm (t := t)).map (byI t)
  have e : (upTo t.homes.length).map (byI t) = t.homes.map (byT t) := by
    apply List.ext_getElem
    · rw [List.length_map, List.length_map, upTo_length]
    · intro i h1 h2
      rw [List.length_map] at h1 h2
      have h3 := tab_getD (n := t.homes.length) (f := fun i => (i : Int)) (d := 0) h2
      have h4 : (upTo t.homes.length)[i] = (i : Int) := by
        have : (upTo t.homes.length).getD i 0 = (i : Int) := h3
        simpa [List.getD_eq_getElem?_getD, h1] using this
      simp only [List.getElem_map, h4, byI]
      congr 1
      simp [List.getD_eq_getElem?_getD, h2]
  rw [e] at h
  exact h
theorem lateF_pos {t : Town} : ∀ (f i : Nat), (0 < lateF t f i ↔ ∃ j, i ≤ j ∧ j < i + f ∧ ((j : Int) + 1) * t.chi > byI t ((ordL t).getD j 0)) ∧ 0 ≤ lateF t f i
  | 0, i => ⟨⟨fun h => by simp [lateF] at h, fun ⟨j, h1, h2, _⟩ => by omega⟩, by simp [lateF]⟩
  | f + 1, i => by
    simp only [lateF]
    split
    · rename_i h
      exact ⟨⟨fun _ => ⟨i, by omega, by omega, h⟩, fun _ => by omega⟩, by omega⟩
    · rename_i h
      have ih := lateF_pos (t := t) f (i + 1)
      refine ⟨⟨fun h1 => ?_, fun ⟨j, h1, h2, h3⟩ => ?_⟩, ih.2⟩
      · obtain ⟨j, h1, h2, h3⟩ := ih.1.1 h1
        exact ⟨j, by omega, by omega, h3⟩
      · rcases Nat.lt_or_eq_of_le h1 with h4 | h4
        · exact ih.1.2 ⟨j, by omega, by omega, h3⟩
        · subst h4; exact absurd h3 h
theorem late_iff {t : Town} : 0 < lateN t ↔ ∃ j, j < t.homes.length ∧ ((j : Int) + 1) * t.chi > (minL t).getD j 0 := by
  have hl : (ordL t).length = t.homes.length := ordL_ord.len
  have e : ∀ j, j < t.homes.length → (minL t).getD j 0 = byI t ((ordL t).getD j 0) := fun j hj => by
    simp [minL, List.getD_eq_getElem?_getD, show j < (ordL t).length by omega]
  unfold lateN
  rw [(lateF_pos t.homes.length 0).1]
  constructor
  · rintro ⟨j, _, h1, h2⟩
    exact ⟨j, by omega, by rw [e j (by omega)]; exact h2⟩
  · rintro ⟨j, h1, h2⟩
    exact ⟨j, by omega, by omega, by rw [e j h1] at h2; exact h2⟩
def byF (h : Home) (a : Int) (l : Hall) : Int := if fitB h l then max a (h.gone - l.drive - h.hi - h.walk) else a
theorem byN_fold {h : Home} {ls : List Hall} : ∀ k, k ≤ ls.length → byN h ls k = (ls.take k).foldl (byF h) (-1)
  | 0, _ => by simp [byN]
  | k + 1, hk => by
    have ih := byN_fold (h := h) (ls := ls) k (by omega)
    have e : ls.take (k + 1) = ls.take k ++ [ls.getD k default] := by
      rw [List.take_succ_eq_append_getElem (by omega)]; simp [List.getD_eq_getElem?_getD, show k < ls.length by omega]
    rw [e, List.foldl_append, ← ih]
    rfl
theorem byT_fold {t : Town} {h : Home} : byT t h = t.halls.foldl (byF h) (-1) := by
  unfold byT
  rw [byN_fold _ (Nat.le_refl _), List.take_length]
theorem byT_perm {t x : Town} (hp : x.halls.Perm t.halls) {h : Home} : byT x h = byT t h := by
  rw [byT_fold, byT_fold]
  refine hp.foldl_eq' (fun a _ b _ z => ?_) (-1)
  simp only [byF]
  split <;> split <;> omega
theorem late_perm {t x : Town} (hh : x.homes.Perm t.homes) (hl : x.halls.Perm t.halls) (hc : x.chi = t.chi) : 0 < lateN x ↔ 0 < lateN t := by
  have e : minL x = minL t := by
    have hb : x.homes.map (byT x) = x.homes.map (byT t) := List.map_congr_left fun h _ => byT_perm hl
    have p : (minL x).Perm (minL t) := by
      refine minL_perm.trans ?_
      rw [hb]
      exact (hh.map _).trans minL_perm.symm
    exact p.eq_of_pairwise (fun a b _ _ h1 h2 => by omega) minL_sorted minL_sorted
  rw [late_iff, late_iff, e, hc, hh.length_eq]
end Go.Am

/- Contracts of the away functions: those who cannot all be called. -/
namespace Go.Am
open Go.RowKit Go.Proofs
theorem prep_take {ok : Nat → Prop} {w : World} {n : Nat} {xs : List AV} {v : Value} (p : PRep ok w (.psl false n xs) v) (m : Nat) : PRep ok w (.psl false n (xs.take m)) v := by
  cases p with
  | psle h1 h2 h3 => rw [List.take_nil]; exact .psle h1 h2 h3
  | psl vs h1 h2 hok hc hr =>
    refine .psl vs h1 h2 hok (fun j hj => hc j ?_) (fun j hj => ?_)
    · simp at hj; omega
    · have : j < xs.length := by simp at hj; omega
      rw [List.getElem_take]
      exact hr j this
theorem CallS.take1 {P : Program} {f : FuncId} {us0 : List AV} {n : Nat} {xs ys : List AV} (h : CallS P f us0 (.tup (.psl false n xs :: ys))) (m : Nat) : CallS P f us0 (.tup (.psl false n (xs.take m) :: ys)) := by
  refine ⟨h.1, fun w vs ok a b c => (h.2 w vs ok a b c).mono ?_⟩
  rintro e w' ⟨v, rfl, hv, hb⟩
  refine ⟨v, rfl, ?_, hb⟩
  cases hv with
  | tup us h1 r1 =>
    refine .tup us h1 fun j a b => ?_
    cases j with
    | zero => exact prep_take (r1 0 (by simp) b) m
    | succ j => exact r1 (j + 1) (by simpa using a) b
attribute [local irreducible] AWP CallS Kt goK CallK stepK evOps SemF SemY Imp
set_option maxRecDepth 4000
set_option linter.unusedSimpArgs false
set_option linter.unusedVariables false
set_option maxHeartbeats 1600000

def ltI (a b : Int) : Bool := decide (a < b)
theorem nan_c (a : Int) : CallS Tryz.prog 95 [.int .i64 a] (.bool false) := by
  (refine callS_of_awp (fun w args => Tryz.call95 ..) Tryz.func95 rfl (fun w0 m0 wz => ?_); simp only [Tryz.ntmps95, Tryz.results95, initT, junks, homeC, hallC, slH, slL, townC, sl, List.toList_toArray, List.cons_append, List.nil_append, List.length_cons, List.length_nil, Nat.reduceAdd, Nat.reduceSub])
  (repeat' (first
    | (refine awp_seqK ?_)
    | (refine kt ?_)
    | (refine And.intro ?_ ?_)
    | ((first | refine awp_region ?_ | refine awp_draw (by kernel_rfl) (by kernel_rfl) ?_ | refine Imp.le2 ?_ | refine awp_label ?_ | refine awp_skip ?_ | refine awp_exit ?_ | refine awp_cd ?_ | refine awp_ret ?_ | refine go_split (fun _h => ?_) (fun _h => ?_)) <;> try simp (maxSteps := 4000000) only [go_sem, seval])
    | (intro _h)
    | (refine awp_block ?_)
    | (refine awp_scope ?_)
    | (refine cond_b (fun _h => ?_) (fun _h => ?_))
    | (show heapOK _ _ = true; kernel_rfl)
    | (show heapOK2 _ _ = true; kernel_rfl)
    | (omega)))
theorem less_c (a b : Int) : CallS Tryz.prog 71 [.int .i64 a, .int .i64 b] (.bool (decide (a < b))) := by
  (refine callS_of_awp (fun w args => Tryz.call71 ..) Tryz.func71 rfl (fun w0 m0 wz => ?_); simp only [Tryz.ntmps71, Tryz.results71, initT, junks, homeC, hallC, slH, slL, townC, sl, List.toList_toArray, List.cons_append, List.nil_append, List.length_cons, List.length_nil, Nat.reduceAdd, Nat.reduceSub])
  (repeat' (first
    | (refine awp_seqK ?_)
    | (refine kt ?_)
    | (refine And.intro ?_ ?_)
    | ((first | refine awp_region ?_ | refine awp_draw (by kernel_rfl) (by kernel_rfl) ?_ | refine Imp.le2 ?_ | refine awp_label ?_ | refine awp_skip ?_ | refine awp_exit ?_ | refine awp_cd ?_ | refine awp_ret ?_ | refine callK_of (nan_c _) ?_ | refine go_split (fun _h => ?_) (fun _h => ?_)) <;> try simp (maxSteps := 4000000) only [go_sem, seval])
    | (intro _h)
    | (refine awp_block ?_)
    | (refine awp_scope ?_)
    | (refine cond_b (fun _h => ?_) (fun _h => ?_))
    | (show heapOK _ _ = true; kernel_rfl)
    | (show heapOK2 _ _ = true; kernel_rfl)
    | (omega)))
theorem isortO_c (l : List Int) (g m : Nat) (h1 : 1 ≤ m ∧ m ≤ l.length ∧ l.length ≤ 12) :
    SemF Tryz.prog 65 [.osl 0 g 0 m, .int .i64 0, .int .i64 m] [some (.cells 3 1 g (ints l))] (.tup []) [some (.cells 3 1 g (ints (isort ltI l m)))] := by
  (refine semF_of_awp (ys := []) (fun w args => Tryz.call65 ..) Tryz.func65 rfl (fun w0 m0 wz => ?_); simp only [Tryz.ntmps65, Tryz.results65, initT, junks, homeC, hallC, slH, slL, townC, sl, List.toList_toArray, List.cons_append, List.nil_append, List.length_cons, List.length_nil, Nat.reduceAdd, Nat.reduceSub])
  (repeat' (first
    | (refine awp_seqK ?_)
    | (refine kt ?_)
    | (refine And.intro ?_ ?_)
    | ((first | refine awp_region ?_ | refine awp_draw (by kernel_rfl) (by kernel_rfl) ?_ | refine Imp.le2 ?_ | refine awp_label ?_ | refine awp_skip ?_ | refine awp_exit ?_ | refine awp_cd ?_ | refine awp_ret ?_ | refine go_split (fun _h => ?_) (fun _h => ?_)) <;> try simp (maxSteps := 4000000) only [go_sem, seval])
    | (intro _h)
    | (refine awp_block ?_)
    | (refine awp_scope ?_)
    | (refine cond_b (fun _h => ?_) (fun _h => ?_))
    | (show heapOK _ _ = true; kernel_rfl)
    | (show heapOK2 _ _ = true; kernel_rfl)
    | (omega)))
  refine awp_loopN (m - 1) (fun k => ⟨mkT 49 [(0, .osl 0 g 0 m), (1, .int .i64 0), (2, .int .i64 m), (6, .int .i64 ((k : Int) + 1))], [some (.cells 3 1 g (ints (isort ltI l (k + 1))))], []⟩) (.le2 ?_) ?_
  · simp (maxSteps := 4000000) only [go_sem, seval]
    rfl
  · intro k hk
    have hpk := isort_perm (lt := ltI) (l := l) (k + 1) (by omega)
    have hlk := hpk.length_eq
    simp (maxSteps := 4000000) only [go_sem, seval]
    by_cases hk1 : k + 1 < m
    · (repeat' (first
    | ((exfalso; omega))
    | (refine awp_seqK ?_)
    | (refine kt ?_)
    | (refine And.intro ?_ ?_)
    | ((first | refine awp_region ?_ | refine awp_draw (by kernel_rfl) (by kernel_rfl) ?_ | refine Imp.le2 ?_ | refine awp_label ?_ | refine awp_skip ?_ | refine awp_exit ?_ | refine awp_cd ?_ | refine awp_ret ?_ | refine go_split (fun _h => ?_) (fun _h => ?_)) <;> try simp (maxSteps := 4000000) only [go_sem, seval])
    | (intro _h)
    | (refine awp_block ?_)
    | (refine awp_scope ?_)
    | (refine cond_b (fun _h => ?_) (fun _h => ?_))
    | (show heapOK _ _ = true; kernel_rfl)
    | (show heapOK2 _ _ = true; kernel_rfl)
    | (omega)))
      refine awp_loopJ (fun x : Nat × List Int => sink ltI x.1 x.2 = isort ltI l (k + 1 + 1) ∧ x.2.length = l.length ∧ x.1 ≤ k + 1) (fun x => ⟨mkT 49 [(0, .osl 0 g 0 m), (1, .int .i64 0), (2, .int .i64 m), (6, .int .i64 ((k : Int) + 1)), (7, .int .i64 (x.1 : Int))], [some (.cells 3 1 g (ints x.2))], []⟩) (fun x => x.1) (k + 1, isort ltI l (k + 1)) ⟨rfl, hlk, by simp⟩ (.le2 ?_) ?_
      · simp (maxSteps := 4000000) only [go_sem, seval]
        first | rfl | omega | exact ⟨by omega, rfl⟩
      · rintro ⟨j, L⟩ ⟨hs, hL, hj⟩
        simp only at hs hL hj
        cases j with
        | zero =>
          simp only [sink] at hs
          simp (maxSteps := 4000000) only [go_sem, seval]
          (repeat' (first
    | ((exfalso; omega))
    | (refine awp_seqK ?_)
    | (refine kt ?_)
    | (refine And.intro ?_ ?_)
    | ((first | refine awp_region ?_ | refine awp_draw (by kernel_rfl) (by kernel_rfl) ?_ | refine Imp.le2 ?_ | refine awp_label ?_ | refine awp_skip ?_ | refine awp_exit ?_ | refine awp_cd ?_ | refine awp_ret ?_ | refine go_split (fun _h => ?_) (fun _h => ?_)) <;> try simp (maxSteps := 4000000) only [go_sem, seval])
    | (intro _h)
    | (refine awp_block ?_)
    | (refine awp_scope ?_)
    | (refine cond_b (fun _h => ?_) (fun _h => ?_))
    | (show heapOK _ _ = true; kernel_rfl)
    | (show heapOK2 _ _ = true; kernel_rfl)
    | (omega)))
          all_goals rw [hs]
        | succ q =>
          have e1 : ((q + 1 : Nat) : Int) - 1 = q := by omega
          simp only [sink, ltI, decide_eq_true_eq] at hs
          simp (maxSteps := 4000000) only [go_sem, seval]
          (repeat' (first
    | ((omega))
    | (refine awp_seqK ?_)
    | (refine kt ?_)
    | (refine And.intro ?_ ?_)
    | ((first | refine awp_region ?_ | refine awp_draw (by kernel_rfl) (by kernel_rfl) ?_ | refine Imp.le2 ?_ | refine awp_label ?_ | refine awp_skip ?_ | refine awp_exit ?_ | refine awp_cd ?_ | refine awp_ret ?_ | refine callK_of (less_c _ _) ?_ | refine go_split (fun _h => ?_) (fun _h => ?_)) <;> try simp (maxSteps := 4000000) only [go_sem, seval, e1, hL])
    | (intro _h)
    | (refine awp_block ?_)
    | (refine awp_scope ?_)
    | (refine cond_b (fun _h => ?_) (fun _h => ?_))
    | (show heapOK _ _ = true; kernel_rfl)
    | (show heapOK2 _ _ = true; kernel_rfl)
    | (omega)))
          all_goals first
            | (rw [isp_length (by omega)]; omega)
            | (rw [if_pos (by omega)] at hs
               refine ⟨(q, swp2 L q), ⟨hs, by rw [swp2_length (by omega)]; exact hL, by simp only; omega⟩, by simp only; omega, .le2 ?_⟩
               simp only [swp2]; simp (maxSteps := 4000000) only [go_sem, seval])
            | (rw [if_neg (by omega)] at hs; rw [hs])
            | trace_state
    · have e : k + 1 = m := by omega
      (repeat' (first
    | ((exfalso; omega))
    | (refine awp_seqK ?_)
    | (refine kt ?_)
    | (refine And.intro ?_ ?_)
    | ((first | refine awp_region ?_ | refine awp_draw (by kernel_rfl) (by kernel_rfl) ?_ | refine Imp.le2 ?_ | refine awp_label ?_ | refine awp_skip ?_ | refine awp_exit ?_ | refine awp_cd ?_ | refine awp_ret ?_ | refine go_split (fun _h => ?_) (fun _h => ?_)) <;> try simp (maxSteps := 4000000) only [go_sem, seval])
    | (intro _h)
    | (refine awp_block ?_)
    | (refine awp_scope ?_)
    | (refine cond_b (fun _h => ?_) (fun _h => ?_))
    | (show heapOK _ _ = true; kernel_rfl)
    | (show heapOK2 _ _ = true; kernel_rfl)
    | (omega)))
      all_goals rw [e]
theorem len_c (n : Nat) (h : 1 ≤ n ∧ n ≤ 8) : ∃ k : Int, CallS Tryz.prog 48 [.int .u64 n] (.int .i64 k) := by
  obtain ⟨h1, h2⟩ := h
  have r : ∀ k n : Int, pcallX (xcall Tryz.prog (fun _ => true) pmA entA 2000 60) 48 [.int .u64 n] = some (.int .i64 k) → CallS Tryz.prog 48 [.int .u64 n] (.int .i64 k) := fun k n h => callS_run (eqt := fun _ => true) (pm := pmA) (ent := entA) (lf := 2000) (n := 60) (fun t _ => eqOK t) entA_ok mixedA h
  rcases (by omega : n = 1 ∨ n = 2 ∨ n = 3 ∨ n = 4 ∨ n = 5 ∨ n = 6 ∨ n = 7 ∨ n = 8) with rfl | rfl | rfl | rfl | rfl | rfl | rfl | rfl
  · exact ⟨1, r _ _ (by kernel_rfl)⟩
  · exact ⟨2, r _ _ (by kernel_rfl)⟩
  · exact ⟨2, r _ _ (by kernel_rfl)⟩
  · exact ⟨3, r _ _ (by kernel_rfl)⟩
  · exact ⟨3, r _ _ (by kernel_rfl)⟩
  · exact ⟨3, r _ _ (by kernel_rfl)⟩
  · exact ⟨3, r _ _ (by kernel_rfl)⟩
  · exact ⟨4, r _ _ (by kernel_rfl)⟩
theorem pdq_c (l : List Int) (g m : Nat) (k : Int) (h1 : 1 ≤ m ∧ m ≤ l.length ∧ l.length ≤ 12) :
    SemF Tryz.prog 47 [.osl 0 g 0 m, .int .i64 0, .int .i64 m, .int .i64 k] [some (.cells 3 1 g (ints l))] (.tup []) [some (.cells 3 1 g (ints (isort ltI l m)))] := by
  have hs := isortO_c l g m h1
  have e1 : ((m : Int) ≤ 12) = True := eq_true (by omega)
  (refine semF_of_awp (ys := []) (fun w args => Tryz.call47 ..) Tryz.func47 rfl (fun w0 m0 wz => ?_); simp only [Tryz.ntmps47, Tryz.results47, initT, junks, homeC, hallC, slH, slL, townC, sl, List.toList_toArray, List.cons_append, List.nil_append, List.length_cons, List.length_nil, Nat.reduceAdd, Nat.reduceSub])
  (repeat' (first
    | (refine awp_seqK ?_)
    | (refine kt ?_)
    | (refine And.intro ?_ ?_)
    | ((first | refine awp_region ?_ | refine awp_draw (by kernel_rfl) (by kernel_rfl) ?_ | refine Imp.le2 ?_ | refine awp_label ?_ | refine awp_skip ?_ | refine awp_exit ?_ | refine awp_cd ?_ | refine awp_ret ?_ | refine go_split (fun _h => ?_) (fun _h => ?_)) <;> try simp (maxSteps := 4000000) only [go_sem, seval])
    | (intro _h)
    | (refine awp_block ?_)
    | (refine awp_scope ?_)
    | (refine cond_b (fun _h => ?_) (fun _h => ?_))
    | (show heapOK _ _ = true; kernel_rfl)
    | (show heapOK2 _ _ = true; kernel_rfl)
    | (omega)))
  (refine awp_rounds 1 ?_; rw [ar_s])
  (repeat' (first
    | (refine awp_ownN (id := 4) 3 rfl ?_; simp (maxSteps := 4000000) only [go_sem, seval, List.take_succ_cons, List.take_zero, e1, decide_true])
    | (refine own_go (hs) [0] rfl ?_ ?_ rfl ?_ <;> try simp (maxSteps := 4000000) only [go_sem, seval, Nat.lt_irrefl, e1, decide_true] <;> try decide)
    | (refine awp_seqK ?_)
    | (refine kt ?_)
    | (refine And.intro ?_ ?_)
    | ((first | refine awp_region ?_ | refine awp_draw (by kernel_rfl) (by kernel_rfl) ?_ | refine Imp.le2 ?_ | refine awp_label ?_ | refine awp_skip ?_ | refine awp_exit ?_ | refine awp_cd ?_ | refine awp_ret ?_ | refine go_split (fun _h => ?_) (fun _h => ?_)) <;> try simp (maxSteps := 4000000) only [go_sem, seval, e1, decide_true])
    | (intro _h)
    | (refine awp_block ?_)
    | (refine awp_scope ?_)
    | (refine cond_b (fun _h => ?_) (fun _h => ?_))
    | (show heapOK _ _ = true; kernel_rfl)
    | (show heapOK2 _ _ = true; kernel_rfl)
    | (omega)))
theorem Sort_c (l : List Int) (g m : Nat) (h1 : 1 ≤ m ∧ m ≤ l.length ∧ l.length ≤ 8) :
    SemF Tryz.prog 26 [.osl 0 g 0 m] [some (.cells 3 1 g (ints l))] (.tup []) [some (.cells 3 1 g (ints (isort ltI l m)))] := by
  obtain ⟨k, hk⟩ := len_c m (by omega)
  have hs := pdq_c l g m k (by omega)
  have e1 : IntKind.u64.wrap (m : Int) = m := Go.IntWalk.u64_in m (by omega)
  (refine semF_of_awp (ys := []) (fun w args => Tryz.call26 ..) Tryz.func26 rfl (fun w0 m0 wz => ?_); simp only [Tryz.ntmps26, Tryz.results26, initT, junks, homeC, hallC, slH, slL, townC, sl, List.toList_toArray, List.cons_append, List.nil_append, List.length_cons, List.length_nil, Nat.reduceAdd, Nat.reduceSub])
  (repeat' (first
    | (refine awp_ownN (id := 1) 5 rfl ?_; simp (maxSteps := 4000000) only [go_sem, seval, List.take_succ_cons, List.take_zero, e1])
    | (refine own_go (hs) [0] rfl ?_ ?_ rfl ?_ <;> try simp (maxSteps := 4000000) only [go_sem, seval, Nat.lt_irrefl, e1] <;> try decide)
    | (refine awp_seqK ?_)
    | (refine kt ?_)
    | (refine And.intro ?_ ?_)
    | ((first | refine awp_region ?_ | refine awp_draw (by kernel_rfl) (by kernel_rfl) ?_ | refine Imp.le2 ?_ | refine awp_label ?_ | refine awp_skip ?_ | refine awp_exit ?_ | refine awp_cd ?_ | refine awp_ret ?_ | refine callK_of (hk) ?_ | refine go_split (fun _h => ?_) (fun _h => ?_)) <;> try simp (maxSteps := 4000000) only [go_sem, seval, e1])
    | (intro _h)
    | (refine awp_block ?_)
    | (refine awp_scope ?_)
    | (refine cond_b (fun _h => ?_) (fun _h => ?_))
    | (show heapOK _ _ = true; kernel_rfl)
    | (show heapOK2 _ _ = true; kernel_rfl)
    | (omega)))
/-- Those who cannot all be called. -/
def lateE (t : Town) : Int := if faultT t ≠ 0 then faultT t else if lateN t = 0 then 7 else 0
def lateL (t : Town) : List Int := (isort ltI (ordL t) (lateN t).toNat).take (lateN t).toNat
def lateV (t : Town) : AV := if lateE t = 0 then sl (lateL t) else .nils
theorem Late_c (t : Town) (hb : townOK t) : CallS Tryz.prog 9 [.agg (townC t)] (.tup [lateV t, .int .i64 (lateE t)]) := by
  have hch := check_c t hb
  by_cases h0 : faultT t = 0
  · have ht := faultT_zero h0
    have hlen := ht.homes
    have ho := order_c t ht
    have hol : (ordL t).length = t.homes.length := ordL_ord.len
    have hbd := lateN_bd (t := t)
    have e0 : (faultT t = 0) = True := eq_true h0
    simp only [townC, slH, slL, h0] at hch ho
    by_cases hl : lateN t = 0
    · have e1 : lateE t = 7 := by simp [lateE, h0, hl]
      have e2 : (lateN t = 0) = True := eq_true hl
      rw [show lateV t = .nils by simp [lateV, e1], e1]
      (refine callS_of_awp (fun w args => Tryz.call9 ..) Tryz.func9 rfl (fun w0 m0 wz => ?_); simp only [Tryz.ntmps9, Tryz.results9, initT, junks, homeC, hallC, slH, slL, townC, sl, List.toList_toArray, List.cons_append, List.nil_append, List.length_cons, List.length_nil, Nat.reduceAdd, Nat.reduceSub])
      (repeat' (first
    | (refine awp_ownN 1 rfl ?_; simp (maxSteps := 4000000) only [go_sem, seval, List.take_succ_cons, List.take_zero, e0, decide_true, e2]; (repeat refine And.intro (by omega) ?_); refine own_go (ho) [] rfl ?_ ?_ rfl ?_ <;> try simp (maxSteps := 4000000) only [go_sem, seval, Nat.lt_irrefl, e0, decide_true, e2] <;> try decide)
    | (refine awp_seqK ?_)
    | (refine kt ?_)
    | (refine And.intro ?_ ?_)
    | ((first | refine awp_region ?_ | refine awp_draw (by kernel_rfl) (by kernel_rfl) ?_ | refine Imp.le2 ?_ | refine awp_label ?_ | refine awp_skip ?_ | refine awp_exit ?_ | refine awp_cd ?_ | refine awp_ret ?_ | refine callK_of (hch) ?_ | refine go_split (fun _h => ?_) (fun _h => ?_)) <;> try simp (maxSteps := 4000000) only [go_sem, seval, e0, decide_true, e2])
    | (intro _h)
    | (refine awp_block ?_)
    | (refine awp_scope ?_)
    | (refine cond_b (fun _h => ?_) (fun _h => ?_))
    | (show heapOK _ _ = true; kernel_rfl)
    | (show heapOK2 _ _ = true; kernel_rfl)
    | (omega)))
    · have e1 : lateE t = 0 := by simp [lateE, h0, hl]
      have e2 : (lateN t = 0) = False := eq_false hl
      have hso := Sort_c (ordL t) t.homes.length (lateN t).toNat (by omega)
      have hll : (isort ltI (ordL t) (lateN t).toNat).length = t.homes.length := by rw [isort_length (by omega), hol]
      have hlL : (lateL t).length = (lateN t).toNat := by simp only [lateL, List.length_take]; omega
      have inner : CallS Tryz.prog 9 [.agg (townC t)] (.tup [.psl false (lateN t).toNat (ints (isort ltI (ordL t) (lateN t).toNat)), .int .i64 0]) := by
        (refine callS_of_awp (fun w args => Tryz.call9 ..) Tryz.func9 rfl (fun w0 m0 wz => ?_); simp only [Tryz.ntmps9, Tryz.results9, initT, junks, homeC, hallC, slH, slL, townC, sl, List.toList_toArray, List.cons_append, List.nil_append, List.length_cons, List.length_nil, Nat.reduceAdd, Nat.reduceSub])
        (repeat' (first
    | (refine awp_ownN (id := 4) 1 rfl ?_; simp (maxSteps := 4000000) only [go_sem, seval, List.take_succ_cons, List.take_zero, e0, decide_true, e2, decide_false, hol])
    | (refine own_go (ho) [] rfl ?_ ?_ rfl ?_ <;> try simp (maxSteps := 4000000) only [go_sem, seval, Nat.lt_irrefl, e0, decide_true, e2, decide_false, hol] <;> try decide)
    | (refine awp_ownN (id := 8) 1 rfl ?_; simp (maxSteps := 4000000) only [go_sem, seval, List.take_succ_cons, List.take_zero, e0, decide_true, e2, decide_false, hol])
    | (refine own_go (hso) [2] rfl ?_ ?_ rfl ?_ <;> try simp (maxSteps := 4000000) only [go_sem, seval, Nat.lt_irrefl, e0, decide_true, e2, decide_false, hol] <;> try decide)
    | (refine awp_seqK ?_)
    | (refine kt ?_)
    | (refine And.intro ?_ ?_)
    | ((first | refine awp_region ?_ | refine awp_draw (by kernel_rfl) (by kernel_rfl) ?_ | refine Imp.le2 ?_ | refine awp_label ?_ | refine awp_skip ?_ | refine awp_exit ?_ | refine awp_cd ?_ | refine awp_ret ?_ | refine callK_of (hch) ?_ | refine go_split (fun _h => ?_) (fun _h => ?_)) <;> try simp (maxSteps := 4000000) only [go_sem, seval, e0, decide_true, e2, decide_false, hol])
    | (intro _h)
    | (refine awp_block ?_)
    | (refine awp_scope ?_)
    | (refine cond_b (fun _h => ?_) (fun _h => ?_))
    | (show heapOK _ _ = true; kernel_rfl)
    | (show heapOK2 _ _ = true; kernel_rfl)
    | (omega)))
      have h9 := inner.take1 (lateN t).toNat
      rw [show lateV t = sl (lateL t) by simp [lateV, e1], e1]
      rw [show (ints (isort ltI (ordL t) (lateN t).toNat)).take (lateN t).toNat = ints (lateL t) by simp [ints, lateL, List.map_take]] at h9
      simp only [sl, hlL]
      simpa only [townC, slH, slL] using h9
  · have e0 : (faultT t = 0) = False := eq_false h0
    have e1 : lateE t = faultT t := by simp [lateE, h0]
    simp only [lateV, e1, h0, if_false]
    simp only [townC, slH, slL] at hch
    (refine callS_of_awp (fun w args => Tryz.call9 ..) Tryz.func9 rfl (fun w0 m0 wz => ?_); simp only [Tryz.ntmps9, Tryz.results9, initT, junks, homeC, hallC, slH, slL, townC, sl, List.toList_toArray, List.cons_append, List.nil_append, List.length_cons, List.length_nil, Nat.reduceAdd, Nat.reduceSub])
    (repeat' (first
    | (refine awp_seqK ?_)
    | (refine kt ?_)
    | (refine And.intro ?_ ?_)
    | ((first | refine awp_region ?_ | refine awp_draw (by kernel_rfl) (by kernel_rfl) ?_ | refine Imp.le2 ?_ | refine awp_label ?_ | refine awp_skip ?_ | refine awp_exit ?_ | refine awp_cd ?_ | refine awp_ret ?_ | refine callK_of (hch) ?_ | refine go_split (fun _h => ?_) (fun _h => ?_)) <;> try simp (maxSteps := 4000000) only [go_sem, seval, e0, decide_false])
    | (intro _h)
    | (refine awp_block ?_)
    | (refine awp_scope ?_)
    | (refine cond_b (fun _h => ?_) (fun _h => ?_))
    | (show heapOK _ _ = true; kernel_rfl)
    | (show heapOK2 _ _ = true; kernel_rfl)
    | (omega)))
end Go.Am
