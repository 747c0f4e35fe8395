/- Parts TcB, TcC of the proof, one behind the other. No statement is proved here. -/
import Derived.Test.YtghlpjfpfjpddaaE5
/- Contracts: sorting as slices does, with a comparison; the order of calls. -/
namespace Go.Am
open Go.RowKit Go.Proofs
attribute [local irreducible] AWP CallS Kt goK CallK stepK evOps SemF SemY Imp
set_option maxRecDepth 4000
set_option linter.unusedSimpArgs false
set_option linter.unusedVariables false
set_option maxHeartbeats 1600000

def byI (t : Town) (a : Int) : Int := byT t (t.homes.getD a.toNat default)
def ltT (t : Town) (a b : Int) : Bool := decide (byI t a < byI t b)
theorem byI_bd {t : Town} (ht : TownOK t) {a : Int} (h : 0 ≤ a ∧ a < t.homes.length) : -1 ≤ byI t a ∧ byI t a ≤ 10000 :=
  byN_bd (ht.home a.toNat (by omega)) _ (fun i hi => ht.hall i hi)
theorem cmp_c (t : Town) (ht : TownOK t) (a b : Int) (ha : 0 ≤ a ∧ a < t.homes.length) (hb : 0 ≤ b ∧ b < t.homes.length) : CallS Try.prog 82 [.int .i64 a, .int .i64 b, .pptr (townC t) 0] (.int .i64 (byI t a - byI t b)) := by
  have h1 := by_c t (t.homes.getD a.toNat default) ht (ht.home a.toNat (by omega))
  have h2 := by_c t (t.homes.getD b.toNat default) ht (ht.home b.toNat (by omega))
  have h3 := byI_bd ht ha
  have h4 := byI_bd ht hb
  have e1 : byT t (t.homes.getD a.toNat default) = byI t a := rfl
  have e2 : byT t (t.homes.getD b.toNat default) = byI t b := rfl
  rw [e1] at h1
  rw [e2] at h2
  simp only [townC, slH, slL, homeC] at h1 h2
  (refine callS_of_awp (fun w args => Try.call82 ..) Try.func82 rfl (fun w0 m0 wz => ?_); simp only [Try.ntmps82, Try.results82, initT, junks, homeC, hallC, slH, slL, townC, sl, List.toList_toArray, List.cons_append, List.nil_append, List.length_cons, List.length_nil, Nat.reduceAdd, Nat.reduceSub])
  (repeat' (first
    | (refine awp_seqK ?_)
    | (refine kt ?_)
    | (refine And.intro ?_ ?_)
    | ((first | refine awp_region ?_ | refine awp_draw (by kernel_rfl) (by kernel_rfl) ?_ | refine Imp.le2 ?_ | refine awp_label ?_ | refine awp_skip ?_ | refine awp_exit ?_ | refine awp_cd ?_ | refine awp_ret ?_ | refine callK_of (h1) ?_ | refine callK_of (h2) ?_ | refine go_split (fun _h => ?_) (fun _h => ?_)) <;> try simp (maxSteps := 4000000) only [go_sem, seval])
    | (intro _h)
    | (refine awp_block ?_)
    | (refine awp_scope ?_)
    | (refine cond_b (fun _h => ?_) (fun _h => ?_))
    | (show heapOK _ _ = true; kernel_rfl)
    | (show heapOK2 _ _ = true; kernel_rfl)
    | (omega)))
theorem isortC_c (t : Town) (ht : TownOK t) (l : List Int) (g : Nat) (hl : ∀ x ∈ l, 0 ≤ x ∧ x < t.homes.length) (h1 : 1 ≤ l.length ∧ l.length ≤ 12) :
    SemF Try.prog 123 [.osl 0 g 0 l.length, .int .i64 0, .int .i64 l.length, .fn (.func 82) [] [.pptr (townC t) 0]] [some (.cells 3 1 g (ints l))] (.tup []) [some (.cells 3 1 g (ints (isort (ltT t) l l.length)))] := by
  (refine semF_of_awp (ys := []) (fun w args => Try.call123 ..) Try.func123 rfl (fun w0 m0 wz => ?_); simp only [Try.ntmps123, Try.results123, initT, junks, homeC, hallC, slH, slL, townC, sl, List.toList_toArray, List.cons_append, List.nil_append, List.length_cons, List.length_nil, Nat.reduceAdd, Nat.reduceSub])
  (repeat' (first
    | (refine awp_seqK ?_)
    | (refine kt ?_)
    | (refine And.intro ?_ ?_)
    | ((first | refine awp_region ?_ | refine awp_draw (by kernel_rfl) (by kernel_rfl) ?_ | refine Imp.le2 ?_ | refine awp_label ?_ | refine awp_skip ?_ | refine awp_exit ?_ | refine awp_cd ?_ | refine awp_ret ?_ | refine go_split (fun _h => ?_) (fun _h => ?_)) <;> try simp (maxSteps := 4000000) only [go_sem, seval])
    | (intro _h)
    | (refine awp_block ?_)
    | (refine awp_scope ?_)
    | (refine cond_b (fun _h => ?_) (fun _h => ?_))
    | (show heapOK _ _ = true; kernel_rfl)
    | (show heapOK2 _ _ = true; kernel_rfl)
    | (omega)))
  refine awp_loopN (l.length - 1) (fun k => ⟨mkT 53 [(0, .osl 0 g 0 l.length), (1, .int .i64 0), (2, .int .i64 l.length), (3, .fn (.func 82) [] [.pptr (townC t) 0]), (8, .int .i64 ((k : Int) + 1))], [some (.cells 3 1 g (ints (isort (ltT t) l (k + 1))))], []⟩) (.le2 ?_) ?_
  · simp only [townC, slH, slL]; simp (maxSteps := 4000000) only [go_sem, seval]
    rfl
  · intro k hk
    have hpk := isort_perm (lt := ltT t) (l := l) (k + 1) (by omega)
    have hlk := hpk.length_eq
    simp only [townC, slH, slL]; simp (maxSteps := 4000000) only [go_sem, seval]
    by_cases hk1 : k + 1 < l.length
    · (repeat' (first
    | ((exfalso; omega))
    | (refine awp_seqK ?_)
    | (refine kt ?_)
    | (refine And.intro ?_ ?_)
    | ((first | refine awp_region ?_ | refine awp_draw (by kernel_rfl) (by kernel_rfl) ?_ | refine Imp.le2 ?_ | refine awp_label ?_ | refine awp_skip ?_ | refine awp_exit ?_ | refine awp_cd ?_ | refine awp_ret ?_ | refine go_split (fun _h => ?_) (fun _h => ?_)) <;> try simp (maxSteps := 4000000) only [go_sem, seval])
    | (intro _h)
    | (refine awp_block ?_)
    | (refine awp_scope ?_)
    | (refine cond_b (fun _h => ?_) (fun _h => ?_))
    | (show heapOK _ _ = true; kernel_rfl)
    | (show heapOK2 _ _ = true; kernel_rfl)
    | (omega)))
      refine awp_loopJ (fun x : Nat × List Int => sink (ltT t) x.1 x.2 = isort (ltT t) l (k + 1 + 1) ∧ x.2.length = l.length ∧ x.1 ≤ k + 1 ∧ ∀ y ∈ x.2, 0 ≤ y ∧ y < t.homes.length) (fun x => ⟨mkT 53 [(0, .osl 0 g 0 l.length), (1, .int .i64 0), (2, .int .i64 l.length), (3, .fn (.func 82) [] [.pptr (townC t) 0]), (8, .int .i64 ((k : Int) + 1)), (9, .int .i64 (x.1 : Int))], [some (.cells 3 1 g (ints x.2))], []⟩) (fun x => x.1) (k + 1, isort (ltT t) l (k + 1)) ⟨rfl, hlk, by simp, fun y hy => hl y (hpk.mem_iff.1 hy)⟩ (.le2 ?_) ?_
      · simp only [townC, slH, slL]; simp (maxSteps := 4000000) only [go_sem, seval]
        first | rfl | omega | exact ⟨by omega, rfl⟩
      · rintro ⟨j, L⟩ ⟨hs, hL, hj, hin⟩
        simp only at hs hL hj hin
        cases j with
        | zero =>
          simp only [sink] at hs
          simp only [townC, slH, slL]; simp (maxSteps := 4000000) only [go_sem, seval]
          (repeat' (first
    | ((exfalso; omega))
    | (refine awp_seqK ?_)
    | (refine kt ?_)
    | (refine And.intro ?_ ?_)
    | ((first | refine awp_region ?_ | refine awp_draw (by kernel_rfl) (by kernel_rfl) ?_ | refine Imp.le2 ?_ | refine awp_label ?_ | refine awp_skip ?_ | refine awp_exit ?_ | refine awp_cd ?_ | refine awp_ret ?_ | refine go_split (fun _h => ?_) (fun _h => ?_)) <;> try simp (maxSteps := 4000000) only [go_sem, seval])
    | (intro _h)
    | (refine awp_block ?_)
    | (refine awp_scope ?_)
    | (refine cond_b (fun _h => ?_) (fun _h => ?_))
    | (show heapOK _ _ = true; kernel_rfl)
    | (show heapOK2 _ _ = true; kernel_rfl)
    | (omega)))
          all_goals rw [hs]
        | succ q =>
          have e1 : ((q + 1 : Nat) : Int) - 1 = q := by omega
          have hcm := cmp_c t ht (L.getD (q + 1) 0) (L.getD q 0) (hin _ (getD_mem (by omega))) (hin _ (getD_mem (by omega)))
          simp only [townC, slH, slL] at hcm
          simp only [sink, ltT, decide_eq_true_eq] at hs
          simp only [townC, slH, slL]; simp (maxSteps := 4000000) only [go_sem, seval]
          (repeat' (first
    | ((omega))
    | (refine awp_seqK ?_)
    | (refine kt ?_)
    | (refine And.intro ?_ ?_)
    | ((first | refine awp_region ?_ | refine awp_draw (by kernel_rfl) (by kernel_rfl) ?_ | refine Imp.le2 ?_ | refine awp_label ?_ | refine awp_skip ?_ | refine awp_exit ?_ | refine awp_cd ?_ | refine awp_ret ?_ | refine callK_of (hcm) ?_ | refine go_split (fun _h => ?_) (fun _h => ?_)) <;> try simp (maxSteps := 4000000) only [go_sem, seval, e1, hL])
    | (intro _h)
    | (refine awp_block ?_)
    | (refine awp_scope ?_)
    | (refine cond_b (fun _h => ?_) (fun _h => ?_))
    | (show heapOK _ _ = true; kernel_rfl)
    | (show heapOK2 _ _ = true; kernel_rfl)
    | (omega)))
          all_goals first
            | (rw [isp_length (by omega)]; omega)
            | (rw [if_pos (by omega)] at hs
               refine ⟨(q, swp2 L q), ⟨hs, by rw [swp2_length (by omega)]; exact hL, by simp only; omega, fun y hy => hin y ((swp2_perm (by omega)).mem_iff.1 hy)⟩, by simp only; omega, .le2 ?_⟩
               simp only [swp2]; simp (maxSteps := 4000000) only [go_sem, seval])
            | (rw [if_neg (by omega)] at hs; rw [hs])
    · have e : k + 1 = l.length := by omega
      (repeat' (first
    | ((exfalso; omega))
    | (refine awp_seqK ?_)
    | (refine kt ?_)
    | (refine And.intro ?_ ?_)
    | ((first | refine awp_region ?_ | refine awp_draw (by kernel_rfl) (by kernel_rfl) ?_ | refine Imp.le2 ?_ | refine awp_label ?_ | refine awp_skip ?_ | refine awp_exit ?_ | refine awp_cd ?_ | refine awp_ret ?_ | refine go_split (fun _h => ?_) (fun _h => ?_)) <;> try simp (maxSteps := 4000000) only [go_sem, seval])
    | (intro _h)
    | (refine awp_block ?_)
    | (refine awp_scope ?_)
    | (refine cond_b (fun _h => ?_) (fun _h => ?_))
    | (show heapOK _ _ = true; kernel_rfl)
    | (show heapOK2 _ _ = true; kernel_rfl)
    | (omega)))
      all_goals rw [e]
theorem stable_c (t : Town) (ht : TownOK t) (l : List Int) (g : Nat) (hl : ∀ x ∈ l, 0 ≤ x ∧ x < t.homes.length) (h1 : 1 ≤ l.length ∧ l.length ≤ 12) :
    SemF Try.prog 102 [.osl 0 g 0 l.length, .int .i64 l.length, .fn (.func 82) [] [.pptr (townC t) 0]] [some (.cells 3 1 g (ints l))] (.tup []) [some (.cells 3 1 g (ints (isort (ltT t) l l.length)))] := by
  have hs := isortC_c t ht l g hl h1
  have e1 : ((20 : Int) ≤ l.length) = False := eq_false (by omega)
  have e2 : ((20 : Int) < l.length) = False := eq_false (by omega)
  simp only [townC, slH, slL] at hs
  (refine semF_of_awp (ys := []) (fun w args => Try.call102 ..) Try.func102 rfl (fun w0 m0 wz => ?_); simp only [Try.ntmps102, Try.results102, initT, junks, homeC, hallC, slH, slL, townC, sl, List.toList_toArray, List.cons_append, List.nil_append, List.length_cons, List.length_nil, Nat.reduceAdd, Nat.reduceSub])
  (repeat' (first
    | (refine awp_seqK ?_)
    | (refine kt ?_)
    | (refine And.intro ?_ ?_)
    | ((first | refine awp_region ?_ | refine awp_draw (by kernel_rfl) (by kernel_rfl) ?_ | refine Imp.le2 ?_ | refine awp_label ?_ | refine awp_skip ?_ | refine awp_exit ?_ | refine awp_cd ?_ | refine awp_ret ?_ | refine go_split (fun _h => ?_) (fun _h => ?_)) <;> try simp (maxSteps := 4000000) only [go_sem, seval])
    | (intro _h)
    | (refine awp_block ?_)
    | (refine awp_scope ?_)
    | (refine cond_b (fun _h => ?_) (fun _h => ?_))
    | (show heapOK _ _ = true; kernel_rfl)
    | (show heapOK2 _ _ = true; kernel_rfl)
    | (omega)))
  (refine awp_rounds 1 ?_; rw [ar_s])
  (repeat' (first
    | (refine awp_ownN (id := 6) 4 rfl ?_; simp (maxSteps := 4000000) only [go_sem, seval, List.take_succ_cons, List.take_zero, e1, e2, decide_false])
    | (refine own_go (hs) [0] rfl ?_ ?_ rfl ?_ <;> try simp (maxSteps := 4000000) only [go_sem, seval, Nat.lt_irrefl, e1, e2, decide_false] <;> try decide)
    | (refine awp_seqK ?_)
    | (refine kt ?_)
    | (refine And.intro ?_ ?_)
    | ((first | refine awp_region ?_ | refine awp_draw (by kernel_rfl) (by kernel_rfl) ?_ | refine Imp.le2 ?_ | refine awp_label ?_ | refine awp_skip ?_ | refine awp_exit ?_ | refine awp_cd ?_ | refine awp_ret ?_ | refine go_split (fun _h => ?_) (fun _h => ?_)) <;> try simp (maxSteps := 4000000) only [go_sem, seval, e1, e2, decide_false])
    | (intro _h)
    | (refine awp_block ?_)
    | (refine awp_scope ?_)
    | (refine cond_b (fun _h => ?_) (fun _h => ?_))
    | (show heapOK _ _ = true; kernel_rfl)
    | (show heapOK2 _ _ = true; kernel_rfl)
    | (omega)))
  (refine awp_rounds 1 ?_; rw [ar_s])
  (repeat' (first
    | (refine awp_seqK ?_)
    | (refine kt ?_)
    | (refine And.intro ?_ ?_)
    | ((first | refine awp_region ?_ | refine awp_draw (by kernel_rfl) (by kernel_rfl) ?_ | refine Imp.le2 ?_ | refine awp_label ?_ | refine awp_skip ?_ | refine awp_exit ?_ | refine awp_cd ?_ | refine awp_ret ?_ | refine go_split (fun _h => ?_) (fun _h => ?_)) <;> try simp (maxSteps := 4000000) only [go_sem, seval, e1, e2, decide_false])
    | (intro _h)
    | (refine awp_block ?_)
    | (refine awp_scope ?_)
    | (refine cond_b (fun _h => ?_) (fun _h => ?_))
    | (show heapOK _ _ = true; kernel_rfl)
    | (show heapOK2 _ _ = true; kernel_rfl)
    | (omega)))
theorem sortC_c (t : Town) (ht : TownOK t) (l : List Int) (g : Nat) (hl : ∀ x ∈ l, 0 ≤ x ∧ x < t.homes.length) (h1 : 1 ≤ l.length ∧ l.length ≤ 12) :
    SemF Try.prog 81 [.osl 0 g 0 l.length, .fn (.func 82) [] [.pptr (townC t) 0]] [some (.cells 3 1 g (ints l))] (.tup []) [some (.cells 3 1 g (ints (isort (ltT t) l l.length)))] := by
  have hs := stable_c t ht l g hl h1
  simp only [townC, slH, slL] at hs
  (refine semF_of_awp (ys := []) (fun w args => Try.call81 ..) Try.func81 rfl (fun w0 m0 wz => ?_); simp only [Try.ntmps81, Try.results81, initT, junks, homeC, hallC, slH, slL, townC, sl, List.toList_toArray, List.cons_append, List.nil_append, List.length_cons, List.length_nil, Nat.reduceAdd, Nat.reduceSub])
  (repeat' (first
    | (refine awp_ownN 4 rfl ?_; simp (maxSteps := 4000000) only [go_sem, seval, List.take_succ_cons, List.take_zero]; (repeat refine And.intro (by omega) ?_); refine own_go (hs) [0] rfl ?_ ?_ rfl ?_ <;> try simp (maxSteps := 4000000) only [go_sem, seval, Nat.lt_irrefl] <;> try decide)
    | (refine awp_seqK ?_)
    | (refine kt ?_)
    | (refine And.intro ?_ ?_)
    | ((first | refine awp_region ?_ | refine awp_draw (by kernel_rfl) (by kernel_rfl) ?_ | refine Imp.le2 ?_ | refine awp_label ?_ | refine awp_skip ?_ | refine awp_exit ?_ | refine awp_cd ?_ | refine awp_ret ?_ | refine go_split (fun _h => ?_) (fun _h => ?_)) <;> try simp (maxSteps := 4000000) only [go_sem, seval])
    | (intro _h)
    | (refine awp_block ?_)
    | (refine awp_scope ?_)
    | (refine cond_b (fun _h => ?_) (fun _h => ?_))
    | (show heapOK _ _ = true; kernel_rfl)
    | (show heapOK2 _ _ = true; kernel_rfl)
    | (omega)))
end Go.Am

/- Contracts of the away functions: the order of calls; the reference of it. -/
namespace Go.Am
open Go.RowKit Go.Proofs
attribute [local irreducible] AWP CallS Kt goK CallK stepK evOps SemF SemY Imp
set_option maxRecDepth 4000
set_option linter.unusedSimpArgs false
set_option linter.unusedVariables false
set_option maxHeartbeats 1600000

/-- The order of calls. -/
def ordL (t : Town) : List Int := isort (ltT t) (upTo t.homes.length) t.homes.length
theorem ordL_perm {t : Town} : (ordL t).Perm (upTo t.homes.length) := isort_perm _ (by rw [upTo_length]; omega)
theorem ordL_ord {t : Town} : Ord t.homes.length (ordL t) :=
  ⟨by rw [ordL_perm.length_eq, upTo_length], fun x hx => upTo_mem.1 (ordL_perm.mem_iff.1 hx), ordL_perm.nodup_iff.2 upTo_nodup⟩
/-- How many of the first ones cannot all be called, from a place on. -/
def lateF (t : Town) : Nat → Nat → Int
  | 0, _ => 0
  | f + 1, i => if ((i : Int) + 1) * t.chi > byI t ((ordL t).getD i 0) then i + 1 else lateF t f (i + 1)
def lateN (t : Town) : Int := lateF t t.homes.length 0
theorem order_c (t : Town) (ht : TownOK t) : SemF Try.prog 57 [.agg (townC t)] [] (.tup [.osl 1 t.homes.length 0 t.homes.length, .int .i64 (lateN t)]) [none, some (.cells 3 1 t.homes.length (ints (ordL t)))] := by
  obtain ⟨hh1, hh2⟩ := ht.homes
  have hc := ht.call
  have hul := upTo_length (n := t.homes.length)
  have hso := sortC_c t ht (upTo t.homes.length) t.homes.length (fun x hx => upTo_mem.1 hx) (by omega)
  rw [upTo_length] at hso
  have eo : isort (ltT t) (upTo t.homes.length) t.homes.length = ordL t := rfl
  rw [eo] at hso
  simp only [townC, slH, slL] at hso
  (refine semF_of_awp (ys := [.osl 1 t.homes.length 0 t.homes.length, .int .i64 (lateN t)]) (fun w args => Try.call57 ..) Try.func57 rfl (fun w0 m0 wz => ?_); simp only [Try.ntmps57, Try.results57, initT, junks, homeC, hallC, slH, slL, townC, sl, List.toList_toArray, List.cons_append, List.nil_append, List.length_cons, List.length_nil, Nat.reduceAdd, Nat.reduceSub])
  ((repeat refine awp_seqK ?_); refine awp_region ?_; simp (maxSteps := 4000000) only [go_sem, seval]; refine kt ?_)
  (refine awp_frz 0 rfl (by simp (maxSteps := 4000000) only [go_sem, seval]) (fun _ => rfl) ?_; simp only [frz, fzl, fz2, fz1, fz0, fzH, fzHs, fzO, fzB, List.map_cons, List.map_nil, if_true, if_false, reduceIte, Nat.reduceEqDiff, Nat.reduceAdd, Nat.succ_ne_self, Nat.zero_ne_one, Nat.one_ne_zero, reduceCtorEq, and_self])
  (repeat' (first
    | (refine awp_seqK ?_)
    | (refine kt ?_)
    | (refine And.intro ?_ ?_)
    | ((first | refine awp_region ?_ | refine awp_draw (by kernel_rfl) (by kernel_rfl) ?_ | refine Imp.le2 ?_ | refine awp_label ?_ | refine awp_skip ?_ | refine awp_exit ?_ | refine awp_cd ?_ | refine awp_ret ?_ | refine go_split (fun _h => ?_) (fun _h => ?_)) <;> try simp (maxSteps := 4000000) only [go_sem, seval])
    | (intro _h)
    | (refine awp_block ?_)
    | (refine awp_scope ?_)
    | (refine cond_b (fun _h => ?_) (fun _h => ?_))
    | (show heapOK _ _ = true; kernel_rfl)
    | (show heapOK2 _ _ = true; kernel_rfl)
    | (omega)))
  (refine awp_adT 2 3 1 rfl ?_; simp only [adT, lset, hset, List.length_cons, List.length_nil, Nat.reduceAdd])
  refine awp_loopN t.homes.length (fun k => ⟨mkT 47 [(1, .pptr (townC t) 0), (2, .osl 1 k 0 k), (3, .int .i64 0), (8, slH t.homes), (9, .int .i64 t.homes.length), (10, .int .i64 k)], [none, some (.cells 3 1 k (ints (upTo k)))], []⟩) (.le2 ?_) ?_
  · simp only [townC, slH, slL]; simp (maxSteps := 4000000) only [go_sem, seval]
    rfl
  · intro k hk
    rcases Nat.lt_or_eq_of_le hk with hk1 | hk1
    · have hlk : (upTo k).length = k := upTo_length
      have hs : ints (upTo k) ++ [.int .i64 (k : Int)] = ints (upTo (k + 1)) := by rw [upTo_succ]; simp [ints_append, ints_cons, ints_nil]
      simp only [townC, slH, slL]; simp (maxSteps := 4000000) only [go_sem, seval]
      (repeat' (first
    | ((omega))
    | (refine awp_seqK ?_)
    | (refine kt ?_)
    | (refine And.intro ?_ ?_)
    | ((first | refine awp_region ?_ | refine awp_draw (by kernel_rfl) (by kernel_rfl) ?_ | refine Imp.le2 ?_ | refine awp_label ?_ | refine awp_skip ?_ | refine awp_exit ?_ | refine awp_cd ?_ | refine awp_ret ?_ | refine go_split (fun _h => ?_) (fun _h => ?_)) <;> try simp (maxSteps := 4000000) only [go_sem, seval, hlk, hs])
    | (intro _h)
    | (refine awp_block ?_)
    | (refine awp_scope ?_)
    | (refine cond_b (fun _h => ?_) (fun _h => ?_))
    | (show heapOK _ _ = true; kernel_rfl)
    | (show heapOK2 _ _ = true; kernel_rfl)
    | (omega)))
      all_goals trace_state
    · subst hk1
      simp only [townC, slH, slL]; simp (maxSteps := 4000000) only [go_sem, seval]
      (repeat' (first
    | ((exfalso; omega))
    | (refine awp_ownN 2 rfl ?_; simp (maxSteps := 4000000) only [go_sem, seval, List.take_succ_cons, List.take_zero]; (repeat refine And.intro (by omega) ?_); refine own_go (hso) [1] rfl ?_ ?_ rfl ?_ <;> try simp (maxSteps := 4000000) only [go_sem, seval, Nat.lt_irrefl] <;> try decide)
    | (refine awp_seqK ?_)
    | (refine kt ?_)
    | (refine And.intro ?_ ?_)
    | ((first | refine awp_region ?_ | refine awp_draw (by kernel_rfl) (by kernel_rfl) ?_ | refine Imp.le2 ?_ | refine awp_label ?_ | refine awp_skip ?_ | refine awp_exit ?_ | refine awp_cd ?_ | refine awp_ret ?_ | refine go_split (fun _h => ?_) (fun _h => ?_)) <;> try simp (maxSteps := 4000000) only [go_sem, seval])
    | (intro _h)
    | (refine awp_block ?_)
    | (refine awp_scope ?_)
    | (refine cond_b (fun _h => ?_) (fun _h => ?_))
    | (show heapOK _ _ = true; kernel_rfl)
    | (show heapOK2 _ _ = true; kernel_rfl)
    | (omega)))
      have hol : (ordL t).length = t.homes.length := ordL_ord.len
      refine awp_loopJ (fun i : Nat => i ≤ t.homes.length ∧ lateF t (t.homes.length - i) i = lateN t) (fun i => ⟨mkT 47 [(1, .pptr (townC t) 0), (2, .osl 1 t.homes.length 0 t.homes.length), (3, .int .i64 0), (21, .osl 1 t.homes.length 0 t.homes.length), (22, .int .i64 t.homes.length), (23, .int .i64 i)], [none, some (.cells 3 1 t.homes.length (ints (ordL t)))], []⟩) (fun i => t.homes.length - i) 0 ⟨Nat.zero_le _, rfl⟩ (.le2 ?_) ?_
      · simp only [townC, slH, slL]; simp (maxSteps := 4000000) only [go_sem, seval]
        try rfl
      · rintro i ⟨hi, hf⟩
        by_cases hi1 : i < t.homes.length
        · have hor := ordL_ord.at (l := ordL t) (k := i) (by omega)
          have hby := by_c t (t.homes.getD ((ordL t).getD i 0).toNat default) ht (ht.home _ (by omega))
          have e1 : byT t (t.homes.getD ((ordL t).getD i 0).toNat default) = byI t ((ordL t).getD i 0) := rfl
          rw [e1] at hby
          have hm := mul_bd (a := (i : Int) + 1) (A := 8) (b := t.chi) (B := 60) (by omega) (by omega) (by omega) (by omega)
          rw [show t.homes.length - i = (t.homes.length - (i + 1)) + 1 by omega] at hf
          simp only [lateF] at hf
          simp only [townC, slH, slL, homeC] at hby
          simp only [townC, slH, slL]; simp (maxSteps := 4000000) only [go_sem, seval]
          (repeat' (first
    | ((omega))
    | (refine awp_seqK ?_)
    | (refine kt ?_)
    | (refine And.intro ?_ ?_)
    | ((first | refine awp_region ?_ | refine awp_draw (by kernel_rfl) (by kernel_rfl) ?_ | refine Imp.le2 ?_ | refine awp_label ?_ | refine awp_skip ?_ | refine awp_exit ?_ | refine awp_cd ?_ | refine awp_ret ?_ | refine callK_of (hby) ?_ | refine go_split (fun _h => ?_) (fun _h => ?_)) <;> try simp (maxSteps := 4000000) only [go_sem, seval, hol])
    | (intro _h)
    | (refine awp_block ?_)
    | (refine awp_scope ?_)
    | (refine cond_b (fun _h => ?_) (fun _h => ?_))
    | (show heapOK _ _ = true; kernel_rfl)
    | (show heapOK2 _ _ = true; kernel_rfl)
    | (omega)))
          all_goals (refine ⟨i + 1, ⟨by omega, by rw [if_neg (by omega)] at hf; exact hf⟩, by omega, .le2 ?_⟩; simp (maxSteps := 4000000) only [go_sem, seval]; try rfl)
        · have e : i = t.homes.length := by omega
          subst e
          simp only [townC, slH, slL]; simp (maxSteps := 4000000) only [go_sem, seval]
          rw [Nat.sub_self] at hf
          simp only [lateF] at hf
          (repeat' (first
    | ((exfalso; omega))
    | (refine awp_seqK ?_)
    | (refine kt ?_)
    | (refine And.intro ?_ ?_)
    | ((first | refine awp_region ?_ | refine awp_draw (by kernel_rfl) (by kernel_rfl) ?_ | refine Imp.le2 ?_ | refine awp_label ?_ | refine awp_skip ?_ | refine awp_exit ?_ | refine awp_cd ?_ | refine awp_ret ?_ | refine go_split (fun _h => ?_) (fun _h => ?_)) <;> try simp (maxSteps := 4000000) only [go_sem, seval])
    | (intro _h)
    | (refine awp_block ?_)
    | (refine awp_scope ?_)
    | (refine cond_b (fun _h => ?_) (fun _h => ?_))
    | (show heapOK _ _ = true; kernel_rfl)
    | (show heapOK2 _ _ = true; kernel_rfl)
    | (omega)))
          all_goals exact hf
theorem lateF_bd {t : Town} : ∀ (f i : Nat), lateF t f i = 0 ∨ ((i : Int) < lateF t f i ∧ lateF t f i ≤ i + f)
  | 0, _ => .inl rfl
  | f + 1, i => by
    simp only [lateF]
    split
    · right; omega
    · rcases lateF_bd (t := t) f (i + 1) with h | h
      · exact .inl h
      · right; omega
theorem lateN_bd {t : Town} : 0 ≤ lateN t ∧ lateN t ≤ t.homes.length := by
  have := lateF_bd (t := t) t.homes.length 0
  unfold lateN
  omega
def orderE (t : Town) : Int := if faultT t ≠ 0 then faultT t else if 0 < lateN t then 11 else 0
def orderV (t : Town) : AV := if orderE t = 0 then sl (ordL t) else .nils
theorem Order_c (t : Town) (hb : townOK t) : CallS Try.prog 23 [.agg (townC t)] (.tup [orderV t, .int .i64 (orderE t)]) := by
  have hch := check_c t hb
  by_cases h0 : faultT t = 0
  · have ht := faultT_zero h0
    have hlen := ht.homes
    have ho := order_c t ht
    have hol : (ordL t).length = t.homes.length := ordL_ord.len
    have e0 : (faultT t = 0) = True := eq_true h0
    simp only [townC, slH, slL, h0] at hch ho
    by_cases hl : 0 < lateN t
    · have e1 : orderE t = 11 := by simp [orderE, h0, hl]
      have e2 : (0 < lateN t) = True := eq_true hl
      rw [show orderV t = .nils by simp [orderV, e1], e1]
      (refine callS_of_awp (fun w args => Try.call23 ..) Try.func23 rfl (fun w0 m0 wz => ?_); simp only [Try.ntmps23, Try.results23, initT, junks, homeC, hallC, slH, slL, townC, sl, List.toList_toArray, List.cons_append, List.nil_append, List.length_cons, List.length_nil, Nat.reduceAdd, Nat.reduceSub])
      (repeat' (first
    | (refine awp_ownN 1 rfl ?_; simp (maxSteps := 4000000) only [go_sem, seval, List.take_succ_cons, List.take_zero, e0, decide_true, e2]; (repeat refine And.intro (by omega) ?_); refine own_go (ho) [] rfl ?_ ?_ rfl ?_ <;> try simp (maxSteps := 4000000) only [go_sem, seval, Nat.lt_irrefl, e0, decide_true, e2] <;> try decide)
    | (refine awp_seqK ?_)
    | (refine kt ?_)
    | (refine And.intro ?_ ?_)
    | ((first | refine awp_region ?_ | refine awp_draw (by kernel_rfl) (by kernel_rfl) ?_ | refine Imp.le2 ?_ | refine awp_label ?_ | refine awp_skip ?_ | refine awp_exit ?_ | refine awp_cd ?_ | refine awp_ret ?_ | refine callK_of (hch) ?_ | refine go_split (fun _h => ?_) (fun _h => ?_)) <;> try simp (maxSteps := 4000000) only [go_sem, seval, e0, decide_true, e2])
    | (intro _h)
    | (refine awp_block ?_)
    | (refine awp_scope ?_)
    | (refine cond_b (fun _h => ?_) (fun _h => ?_))
    | (show heapOK _ _ = true; kernel_rfl)
    | (show heapOK2 _ _ = true; kernel_rfl)
    | (omega)))
      all_goals trace_state
    · have e1 : orderE t = 0 := by simp [orderE, h0, hl]
      have e2 : (0 < lateN t) = False := eq_false hl
      simp only [orderV, e1, if_true, sl]
      (refine callS_of_awp (fun w args => Try.call23 ..) Try.func23 rfl (fun w0 m0 wz => ?_); simp only [Try.ntmps23, Try.results23, initT, junks, homeC, hallC, slH, slL, townC, sl, List.toList_toArray, List.cons_append, List.nil_append, List.length_cons, List.length_nil, Nat.reduceAdd, Nat.reduceSub])
      (repeat' (first
    | (refine awp_ownN 1 rfl ?_; simp (maxSteps := 4000000) only [go_sem, seval, List.take_succ_cons, List.take_zero, e0, decide_true, e2, decide_false]; (repeat refine And.intro (by omega) ?_); refine own_go (ho) [] rfl ?_ ?_ rfl ?_ <;> try simp (maxSteps := 4000000) only [go_sem, seval, Nat.lt_irrefl, e0, decide_true, e2, decide_false] <;> try decide)
    | (refine awp_seqK ?_)
    | (refine kt ?_)
    | (refine And.intro ?_ ?_)
    | ((first | refine awp_region ?_ | refine awp_draw (by kernel_rfl) (by kernel_rfl) ?_ | refine Imp.le2 ?_ | refine awp_label ?_ | refine awp_skip ?_ | refine awp_exit ?_ | refine awp_cd ?_ | refine awp_ret ?_ | refine callK_of (hch) ?_ | refine go_split (fun _h => ?_) (fun _h => ?_)) <;> try simp (maxSteps := 4000000) only [go_sem, seval, e0, decide_true, e2, decide_false])
    | (intro _h)
    | (refine awp_block ?_)
    | (refine awp_scope ?_)
    | (refine cond_b (fun _h => ?_) (fun _h => ?_))
    | (show heapOK _ _ = true; kernel_rfl)
    | (show heapOK2 _ _ = true; kernel_rfl)
    | (omega)))
      all_goals trace_state
  · have e0 : (faultT t = 0) = False := eq_false h0
    have e1 : orderE t = faultT t := by simp [orderE, h0]
    simp only [orderV, e1, h0, if_false]
    simp only [townC, slH, slL] at hch
    (refine callS_of_awp (fun w args => Try.call23 ..) Try.func23 rfl (fun w0 m0 wz => ?_); simp only [Try.ntmps23, Try.results23, initT, junks, homeC, hallC, slH, slL, townC, sl, List.toList_toArray, List.cons_append, List.nil_append, List.length_cons, List.length_nil, Nat.reduceAdd, Nat.reduceSub])
    (repeat' (first
    | (refine awp_seqK ?_)
    | (refine kt ?_)
    | (refine And.intro ?_ ?_)
    | ((first | refine awp_region ?_ | refine awp_draw (by kernel_rfl) (by kernel_rfl) ?_ | refine Imp.le2 ?_ | refine awp_label ?_ | refine awp_skip ?_ | refine awp_exit ?_ | refine awp_cd ?_ | refine awp_ret ?_ | refine callK_of (hch) ?_ | refine go_split (fun _h => ?_) (fun _h => ?_)) <;> try simp (maxSteps := 4000000) only [go_sem, seval, e0, decide_false])
    | (intro _h)
    | (refine awp_block ?_)
    | (refine awp_scope ?_)
    | (refine cond_b (fun _h => ?_) (fun _h => ?_))
    | (show heapOK _ _ = true; kernel_rfl)
    | (show heapOK2 _ _ = true; kernel_rfl)
    | (omega)))
end Go.Am
