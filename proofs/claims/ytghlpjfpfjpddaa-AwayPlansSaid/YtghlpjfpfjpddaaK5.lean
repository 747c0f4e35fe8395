/- Parts TdC, TdD, TdE, TdF, TdG, TgA, TiA, TiB, TdH of the proof, one behind the other. No statement is proved here. -/
import Derived.Test.YtghlpjfpfjpddaaK4
import Derived.Test.YtghlpjfpfjpddaaK3
set_option linter.unusedVariables false -- all
set_option linter.unusedSimpArgs false
/- Contracts of the away functions: whether a bus may be in a plan. -/
namespace Go.Am
open Go.RowKit Go.Proofs
attribute [local irreducible] AWP CallS Kt goK CallK stepK evOps SemF SemY Imp
set_option maxRecDepth 4000
set_option linter.unusedSimpArgs false
set_option linter.unusedVariables false
set_option maxHeartbeats 1600000
theorem allA_she (t : Town) (b : Bus) (K : List (Sta × Int)) (x : Int) (q : Bool) (hq : SemF Try.prog 121 ([.int .i64 x] ++ [.ptr 2 0 0, .ptr 3 0 0]) [plB t 1, some (.map (kmC K)), some (.cells 93 1 0 [.ptr 0 0 0]), some (.cells 48 1 0 (busC b))] (.bool q) [plB t 1, some (.map (kmC K)), some (.cells 93 1 0 [.ptr 0 0 0]), some (.cells 48 1 0 (busC b))]) : SemF Try.prog 86 [.int .i64 x, .ptr 4 0 0] [plB t 1, some (.map (kmC K)), some (.cells 93 1 0 [.ptr 0 0 0]), some (.cells 48 1 0 (busC b)), some (.cells 114 1 0 [.fn (.func 121) [] [.ptr 2 0 0, .ptr 3 0 0]])] (.bool (!q)) [plB t 1, some (.map (kmC K)), some (.cells 93 1 0 [.ptr 0 0 0]), some (.cells 48 1 0 (busC b)), some (.cells 114 1 0 [.fn (.func 121) [] [.ptr 2 0 0, .ptr 3 0 0]])] := by
  simp only [List.cons_append, List.nil_append] at hq
  simp only [plB, planC, busC, sl, townC, slH, slL] at hq
  simp only [plB, planC, busC, sl, townC, slH, slL]
  (refine semF_of_awp (ys := [.bool (!q)]) (fun w args => Try.call86 ..) Try.func86 rfl (fun w0 m0 wz => ?_); simp only [Try.ntmps86, Try.results86, initT, junks, homeC, hallC, slH, slL, townC, sl, List.toList_toArray, List.cons_append, List.nil_append, List.length_cons, List.length_nil, Nat.reduceAdd, Nat.reduceSub])
  (repeat' (first
 | (refine awp_ownN 2 rfl ?_; simp (maxSteps := 4000000) only [go_sem, seval, List.take_succ_cons, List.take_zero]; (repeat refine And.intro (by omega) ?_); refine own_go (hq) [0, 1, 2, 3] rfl ?_ ?_ rfl ?_ <;> try simp (maxSteps := 4000000) only [go_sem, seval, Nat.lt_irrefl] <;> try decide)
 | refine awp_seqK ?_
 | refine kt ?_
 | refine And.intro ?_ ?_
 | ((first | refine awp_stp rfl ?_ | refine awp_draw (by kernel_rfl) (by kernel_rfl) ?_ | refine Imp.le2 ?_ | refine go_split (fun _h => ?_) (fun _h => ?_)) <;> try simp (maxSteps := 4000000) only [go_sem, seval])
 | intro _h
 | refine awp_block ?_
 | refine awp_scope ?_
 | refine cond_b ?_ ?_
 | (show heapOK _ _ = true; kernel_rfl)
 | (show heapOK2 _ _ = true; kernel_rfl)
 | (omega))) <;> simp [*]
theorem idxA_she (t : Town) (b : Bus) (K : List (Sta × Int)) (l : List Int) (q : Int → Bool) (hl : l.length ≤ 1000000) (hq : ∀ i, i < l.length → SemF Try.prog 86 [.int .i64 (l.getD i 0), .ptr 4 0 0] [plB t 1, some (.map (kmC K)), some (.cells 93 1 0 [.ptr 0 0 0]), some (.cells 48 1 0 (busC b)), some (.cells 114 1 0 [.fn (.func 121) [] [.ptr 2 0 0, .ptr 3 0 0]])] (.bool (q (l.getD i 0))) [plB t 1, some (.map (kmC K)), some (.cells 93 1 0 [.ptr 0 0 0]), some (.cells 48 1 0 (busC b)), some (.cells 114 1 0 [.fn (.func 121) [] [.ptr 2 0 0, .ptr 3 0 0]])]) :
    SemF Try.prog 104 [sl l, .fn (.func 86) [] [.ptr 4 0 0]] [plB t 1, some (.map (kmC K)), some (.cells 93 1 0 [.ptr 0 0 0]), some (.cells 48 1 0 (busC b)), some (.cells 114 1 0 [.fn (.func 121) [] [.ptr 2 0 0, .ptr 3 0 0]])] (.int .i64 (idxOf q l)) [plB t 1, some (.map (kmC K)), some (.cells 93 1 0 [.ptr 0 0 0]), some (.cells 48 1 0 (busC b)), some (.cells 114 1 0 [.fn (.func 121) [] [.ptr 2 0 0, .ptr 3 0 0]])] := by
  simp only [plB, planC, busC, sl, townC, slH, slL] at hq
  simp only [plB, planC, busC, sl, townC, slH, slL]
  (refine semF_of_awp (ys := [.int .i64 (idxOf q l)]) (fun w args => Try.call104 ..) Try.func104 rfl (fun w0 m0 wz => ?_); simp only [Try.ntmps104, Try.results104, initT, junks, homeC, hallC, slH, slL, townC, sl, List.toList_toArray, List.cons_append, List.nil_append, List.length_cons, List.length_nil, Nat.reduceAdd, Nat.reduceSub])
  (repeat' (first
 | refine awp_seqK ?_
 | refine kt ?_
 | refine And.intro ?_ ?_
 | ((first | refine awp_stp rfl ?_ | refine awp_draw (by kernel_rfl) (by kernel_rfl) ?_ | refine Imp.le2 ?_ | refine go_split (fun _h => ?_) (fun _h => ?_)) <;> try simp (maxSteps := 4000000) only [go_sem, seval])
 | intro _h
 | refine awp_block ?_
 | refine awp_scope ?_
 | refine cond_b ?_ ?_
 | (show heapOK _ _ = true; kernel_rfl)
 | (show heapOK2 _ _ = true; kernel_rfl)
 | (omega)))
  refine awp_loopJ (fun i : Nat => i ≤ l.length ∧ ∀ j, j < i → q (l.getD j 0) = false) (fun i => ⟨mkT 19 [(0, sl l), (1, .fn (.func 86) [] [.ptr 4 0 0]), (6, sl l), (7, .int .i64 l.length), (8, .int .i64 i)], [plB t 1, some (.map (kmC K)), some (.cells 93 1 0 [.ptr 0 0 0]), some (.cells 48 1 0 (busC b)), some (.cells 114 1 0 [.fn (.func 121) [] [.ptr 2 0 0, .ptr 3 0 0]])], []⟩) (fun i => l.length - i) 0 ⟨Nat.zero_le _, by simp⟩ (.le2 ?_) ?_
  · simp only [plB, planC, busC, sl, townC, slH, slL]; simp (maxSteps := 4000000) only [go_sem, seval]
  · rintro i ⟨hi, hj⟩
    simp only [plB, planC, busC, sl, townC, slH, slL]; simp (maxSteps := 4000000) only [go_sem, seval]
    have hqi := hq i
    (repeat' (first
 | (refine awp_ownN 5 rfl ?_; simp (maxSteps := 4000000) only [go_sem, seval, List.take_succ_cons, List.take_zero]; (repeat refine And.intro (by omega) ?_); refine own_go (hqi (by omega)) [0, 1, 2, 3, 4] rfl ?_ ?_ rfl ?_ <;> try simp (maxSteps := 4000000) only [go_sem, seval, Nat.lt_irrefl] <;> try decide)
 | refine awp_seqK ?_
 | refine kt ?_
 | refine And.intro ?_ ?_
 | ((first | refine awp_stp rfl ?_ | refine awp_draw (by kernel_rfl) (by kernel_rfl) ?_ | refine Imp.le2 ?_ | refine go_split (fun _h => ?_) (fun _h => ?_)) <;> try simp (maxSteps := 4000000) only [go_sem, seval])
 | intro _h
 | refine awp_block ?_
 | refine awp_scope ?_
 | refine cond_b ?_ ?_
 | (show heapOK _ _ = true; kernel_rfl)
 | (show heapOK2 _ _ = true; kernel_rfl)
 | (omega)))
    · exact idxOf_some (by omega) ‹_› hj
    · refine ⟨i + 1, ⟨by omega, fun j hji => ?_⟩, by omega, .le2 ?_⟩
      · rcases Nat.lt_succ_iff_lt_or_eq.1 hji with h | rfl
        · exact hj j h
        · assumption
      · simp (maxSteps := 4000000) only [go_sem, seval]
        omega
    · exact idxOf_none (d := 0) (fun j hjl => hj j (by omega))
theorem hasA_she (t : Town) (b : Bus) (K : List (Sta × Int)) (l : List Int) (q : Int → Bool) (hl : l.length ≤ 1000000) (hq : ∀ i, i < l.length → SemF Try.prog 86 [.int .i64 (l.getD i 0), .ptr 4 0 0] [plB t 1, some (.map (kmC K)), some (.cells 93 1 0 [.ptr 0 0 0]), some (.cells 48 1 0 (busC b)), some (.cells 114 1 0 [.fn (.func 121) [] [.ptr 2 0 0, .ptr 3 0 0]])] (.bool (q (l.getD i 0))) [plB t 1, some (.map (kmC K)), some (.cells 93 1 0 [.ptr 0 0 0]), some (.cells 48 1 0 (busC b)), some (.cells 114 1 0 [.fn (.func 121) [] [.ptr 2 0 0, .ptr 3 0 0]])]) :
    SemF Try.prog 85 [sl l, .fn (.func 86) [] [.ptr 4 0 0]] [plB t 1, some (.map (kmC K)), some (.cells 93 1 0 [.ptr 0 0 0]), some (.cells 48 1 0 (busC b)), some (.cells 114 1 0 [.fn (.func 121) [] [.ptr 2 0 0, .ptr 3 0 0]])] (.bool (l.any q)) [plB t 1, some (.map (kmC K)), some (.cells 93 1 0 [.ptr 0 0 0]), some (.cells 48 1 0 (busC b)), some (.cells 114 1 0 [.fn (.func 121) [] [.ptr 2 0 0, .ptr 3 0 0]])] := by
  have h := idxA_she t b K l q hl hq
  rw [← idxOf_ge]
  simp only [plB, planC, busC, sl, townC, slH, slL] at h
  simp only [plB, planC, busC, sl, townC, slH, slL]
  (refine semF_of_awp (ys := [.bool (decide (0 ≤ idxOf q l))]) (fun w args => Try.call85 ..) Try.func85 rfl (fun w0 m0 wz => ?_); simp only [Try.ntmps85, Try.results85, initT, junks, homeC, hallC, slH, slL, townC, sl, List.toList_toArray, List.cons_append, List.nil_append, List.length_cons, List.length_nil, Nat.reduceAdd, Nat.reduceSub])
  (repeat' (first
 | (refine awp_ownN 2 rfl ?_; simp (maxSteps := 4000000) only [go_sem, seval, List.take_succ_cons, List.take_zero]; (repeat refine And.intro (by omega) ?_); refine own_go (h) [0, 1, 2, 3, 4] rfl ?_ ?_ rfl ?_ <;> try simp (maxSteps := 4000000) only [go_sem, seval, Nat.lt_irrefl] <;> try decide)
 | refine awp_seqK ?_
 | refine kt ?_
 | refine And.intro ?_ ?_
 | ((first | refine awp_stp rfl ?_ | refine awp_draw (by kernel_rfl) (by kernel_rfl) ?_ | refine Imp.le2 ?_ | refine go_split (fun _h => ?_) (fun _h => ?_)) <;> try simp (maxSteps := 4000000) only [go_sem, seval])
 | intro _h
 | refine awp_block ?_
 | refine awp_scope ?_
 | refine cond_b ?_ ?_
 | (show heapOK _ _ = true; kernel_rfl)
 | (show heapOK2 _ _ = true; kernel_rfl)
 | (omega))) <;> simp [*]
theorem allB_she (t : Town) (b : Bus) (K : List (Sta × Int)) (l : List Int) (q : Int → Bool) (hl : l.length ≤ 1000000) (hq : ∀ i, i < l.length → SemF Try.prog 121 ([.int .i64 (l.getD i 0)] ++ [.ptr 2 0 0, .ptr 3 0 0]) [plB t 1, some (.map (kmC K)), some (.cells 93 1 0 [.ptr 0 0 0]), some (.cells 48 1 0 (busC b))] (.bool (q (l.getD i 0))) [plB t 1, some (.map (kmC K)), some (.cells 93 1 0 [.ptr 0 0 0]), some (.cells 48 1 0 (busC b))]) :
    SemF Try.prog 60 [sl l, .fn (.func 121) [] [.ptr 2 0 0, .ptr 3 0 0]] [plB t 1, some (.map (kmC K)), some (.cells 93 1 0 [.ptr 0 0 0]), some (.cells 48 1 0 (busC b))] (.bool (l.all q)) [plB t 1, some (.map (kmC K)), some (.cells 93 1 0 [.ptr 0 0 0]), some (.cells 48 1 0 (busC b))] := by
  have hany : l.all q = !l.any (fun x => !q x) := by simp [List.all_eq_not_any_not]
  rw [hany]
  have h := hasA_she t b K l (fun x => !q x) hl (fun i hi => allA_she t b K (l.getD i 0) (q (l.getD i 0)) (hq i hi))
  simp only [plB, planC, busC, sl, townC, slH, slL] at h
  simp only [plB, planC, busC, sl, townC, slH, slL]
  (refine semF_of_awp (ys := [.bool (!l.any (fun x => !q x))]) (fun w args => Try.call60 ..) Try.func60 rfl (fun w0 m0 wz => ?_); simp only [Try.ntmps60, Try.results60, initT, junks, homeC, hallC, slH, slL, townC, sl, List.toList_toArray, List.cons_append, List.nil_append, List.length_cons, List.length_nil, Nat.reduceAdd, Nat.reduceSub])
  (repeat' (first
 | (refine awp_ownN 2 rfl ?_; simp (maxSteps := 4000000) only [go_sem, seval, List.take_succ_cons, List.take_zero]; (repeat refine And.intro (by omega) ?_); refine own_go (h) [0, 1, 2, 3, 4] rfl ?_ ?_ rfl ?_ <;> try simp (maxSteps := 4000000) only [go_sem, seval, Nat.lt_irrefl] <;> try decide)
 | refine awp_seqK ?_
 | refine kt ?_
 | refine And.intro ?_ ?_
 | ((first | refine awp_stp rfl ?_ | refine awp_draw (by kernel_rfl) (by kernel_rfl) ?_ | refine Imp.le2 ?_ | refine go_split (fun _h => ?_) (fun _h => ?_)) <;> try simp (maxSteps := 4000000) only [go_sem, seval])
 | intro _h
 | refine awp_block ?_
 | refine awp_scope ?_
 | refine cond_b ?_ ?_
 | (show heapOK _ _ = true; kernel_rfl)
 | (show heapOK2 _ _ = true; kernel_rfl)
 | (omega))) <;> simp only [*, Bool.not_true, Bool.not_false]
theorem allA_tim (t : Town) (b : Bus) (K : List (Sta × Int)) (x : Int) (q : Bool) (hq : SemF Try.prog 122 ([.int .i64 x] ++ [.ptr 3 0 0, .ptr 2 0 0]) [plB t 1, some (.map (kmC K)), some (.cells 93 1 0 [.ptr 0 0 0]), some (.cells 48 1 0 (busC b))] (.bool q) [plB t 1, some (.map (kmC K)), some (.cells 93 1 0 [.ptr 0 0 0]), some (.cells 48 1 0 (busC b))]) : SemF Try.prog 86 [.int .i64 x, .ptr 4 0 0] [plB t 1, some (.map (kmC K)), some (.cells 93 1 0 [.ptr 0 0 0]), some (.cells 48 1 0 (busC b)), some (.cells 114 1 0 [.fn (.func 122) [] [.ptr 3 0 0, .ptr 2 0 0]])] (.bool (!q)) [plB t 1, some (.map (kmC K)), some (.cells 93 1 0 [.ptr 0 0 0]), some (.cells 48 1 0 (busC b)), some (.cells 114 1 0 [.fn (.func 122) [] [.ptr 3 0 0, .ptr 2 0 0]])] := by
  simp only [List.cons_append, List.nil_append] at hq
  simp only [plB, planC, busC, sl, townC, slH, slL] at hq
  simp only [plB, planC, busC, sl, townC, slH, slL]
  (refine semF_of_awp (ys := [.bool (!q)]) (fun w args => Try.call86 ..) Try.func86 rfl (fun w0 m0 wz => ?_); simp only [Try.ntmps86, Try.results86, initT, junks, homeC, hallC, slH, slL, townC, sl, List.toList_toArray, List.cons_append, List.nil_append, List.length_cons, List.length_nil, Nat.reduceAdd, Nat.reduceSub])
  (repeat' (first
 | (refine awp_ownN 2 rfl ?_; simp (maxSteps := 4000000) only [go_sem, seval, List.take_succ_cons, List.take_zero]; (repeat refine And.intro (by omega) ?_); refine own_go (hq) [0, 1, 2, 3] rfl ?_ ?_ rfl ?_ <;> try simp (maxSteps := 4000000) only [go_sem, seval, Nat.lt_irrefl] <;> try decide)
 | refine awp_seqK ?_
 | refine kt ?_
 | refine And.intro ?_ ?_
 | ((first | refine awp_stp rfl ?_ | refine awp_draw (by kernel_rfl) (by kernel_rfl) ?_ | refine Imp.le2 ?_ | refine go_split (fun _h => ?_) (fun _h => ?_)) <;> try simp (maxSteps := 4000000) only [go_sem, seval])
 | intro _h
 | refine awp_block ?_
 | refine awp_scope ?_
 | refine cond_b ?_ ?_
 | (show heapOK _ _ = true; kernel_rfl)
 | (show heapOK2 _ _ = true; kernel_rfl)
 | (omega))) <;> simp [*]
theorem idxA_tim (t : Town) (b : Bus) (K : List (Sta × Int)) (l : List Int) (q : Int → Bool) (hl : l.length ≤ 1000000) (hq : ∀ i, i < l.length → SemF Try.prog 86 [.int .i64 (l.getD i 0), .ptr 4 0 0] [plB t 1, some (.map (kmC K)), some (.cells 93 1 0 [.ptr 0 0 0]), some (.cells 48 1 0 (busC b)), some (.cells 114 1 0 [.fn (.func 122) [] [.ptr 3 0 0, .ptr 2 0 0]])] (.bool (q (l.getD i 0))) [plB t 1, some (.map (kmC K)), some (.cells 93 1 0 [.ptr 0 0 0]), some (.cells 48 1 0 (busC b)), some (.cells 114 1 0 [.fn (.func 122) [] [.ptr 3 0 0, .ptr 2 0 0]])]) :
    SemF Try.prog 104 [sl l, .fn (.func 86) [] [.ptr 4 0 0]] [plB t 1, some (.map (kmC K)), some (.cells 93 1 0 [.ptr 0 0 0]), some (.cells 48 1 0 (busC b)), some (.cells 114 1 0 [.fn (.func 122) [] [.ptr 3 0 0, .ptr 2 0 0]])] (.int .i64 (idxOf q l)) [plB t 1, some (.map (kmC K)), some (.cells 93 1 0 [.ptr 0 0 0]), some (.cells 48 1 0 (busC b)), some (.cells 114 1 0 [.fn (.func 122) [] [.ptr 3 0 0, .ptr 2 0 0]])] := by
  simp only [plB, planC, busC, sl, townC, slH, slL] at hq
  simp only [plB, planC, busC, sl, townC, slH, slL]
  (refine semF_of_awp (ys := [.int .i64 (idxOf q l)]) (fun w args => Try.call104 ..) Try.func104 rfl (fun w0 m0 wz => ?_); simp only [Try.ntmps104, Try.results104, initT, junks, homeC, hallC, slH, slL, townC, sl, List.toList_toArray, List.cons_append, List.nil_append, List.length_cons, List.length_nil, Nat.reduceAdd, Nat.reduceSub])
  (repeat' (first
 | refine awp_seqK ?_
 | refine kt ?_
 | refine And.intro ?_ ?_
 | ((first | refine awp_stp rfl ?_ | refine awp_draw (by kernel_rfl) (by kernel_rfl) ?_ | refine Imp.le2 ?_ | refine go_split (fun _h => ?_) (fun _h => ?_)) <;> try simp (maxSteps := 4000000) only [go_sem, seval])
 | intro _h
 | refine awp_block ?_
 | refine awp_scope ?_
 | refine cond_b ?_ ?_
 | (show heapOK _ _ = true; kernel_rfl)
 | (show heapOK2 _ _ = true; kernel_rfl)
 | (omega)))
  refine awp_loopJ (fun i : Nat => i ≤ l.length ∧ ∀ j, j < i → q (l.getD j 0) = false) (fun i => ⟨mkT 19 [(0, sl l), (1, .fn (.func 86) [] [.ptr 4 0 0]), (6, sl l), (7, .int .i64 l.length), (8, .int .i64 i)], [plB t 1, some (.map (kmC K)), some (.cells 93 1 0 [.ptr 0 0 0]), some (.cells 48 1 0 (busC b)), some (.cells 114 1 0 [.fn (.func 122) [] [.ptr 3 0 0, .ptr 2 0 0]])], []⟩) (fun i => l.length - i) 0 ⟨Nat.zero_le _, by simp⟩ (.le2 ?_) ?_
  · simp only [plB, planC, busC, sl, townC, slH, slL]; simp (maxSteps := 4000000) only [go_sem, seval]
  · rintro i ⟨hi, hj⟩
    simp only [plB, planC, busC, sl, townC, slH, slL]; simp (maxSteps := 4000000) only [go_sem, seval]
    have hqi := hq i
    (repeat' (first
 | (refine awp_ownN 5 rfl ?_; simp (maxSteps := 4000000) only [go_sem, seval, List.take_succ_cons, List.take_zero]; (repeat refine And.intro (by omega) ?_); refine own_go (hqi (by omega)) [0, 1, 2, 3, 4] rfl ?_ ?_ rfl ?_ <;> try simp (maxSteps := 4000000) only [go_sem, seval, Nat.lt_irrefl] <;> try decide)
 | refine awp_seqK ?_
 | refine kt ?_
 | refine And.intro ?_ ?_
 | ((first | refine awp_stp rfl ?_ | refine awp_draw (by kernel_rfl) (by kernel_rfl) ?_ | refine Imp.le2 ?_ | refine go_split (fun _h => ?_) (fun _h => ?_)) <;> try simp (maxSteps := 4000000) only [go_sem, seval])
 | intro _h
 | refine awp_block ?_
 | refine awp_scope ?_
 | refine cond_b ?_ ?_
 | (show heapOK _ _ = true; kernel_rfl)
 | (show heapOK2 _ _ = true; kernel_rfl)
 | (omega)))
    · exact idxOf_some (by omega) ‹_› hj
    · refine ⟨i + 1, ⟨by omega, fun j hji => ?_⟩, by omega, .le2 ?_⟩
      · rcases Nat.lt_succ_iff_lt_or_eq.1 hji with h | rfl
        · exact hj j h
        · assumption
      · simp (maxSteps := 4000000) only [go_sem, seval]
        omega
    · exact idxOf_none (d := 0) (fun j hjl => hj j (by omega))
theorem hasA_tim (t : Town) (b : Bus) (K : List (Sta × Int)) (l : List Int) (q : Int → Bool) (hl : l.length ≤ 1000000) (hq : ∀ i, i < l.length → SemF Try.prog 86 [.int .i64 (l.getD i 0), .ptr 4 0 0] [plB t 1, some (.map (kmC K)), some (.cells 93 1 0 [.ptr 0 0 0]), some (.cells 48 1 0 (busC b)), some (.cells 114 1 0 [.fn (.func 122) [] [.ptr 3 0 0, .ptr 2 0 0]])] (.bool (q (l.getD i 0))) [plB t 1, some (.map (kmC K)), some (.cells 93 1 0 [.ptr 0 0 0]), some (.cells 48 1 0 (busC b)), some (.cells 114 1 0 [.fn (.func 122) [] [.ptr 3 0 0, .ptr 2 0 0]])]) :
    SemF Try.prog 85 [sl l, .fn (.func 86) [] [.ptr 4 0 0]] [plB t 1, some (.map (kmC K)), some (.cells 93 1 0 [.ptr 0 0 0]), some (.cells 48 1 0 (busC b)), some (.cells 114 1 0 [.fn (.func 122) [] [.ptr 3 0 0, .ptr 2 0 0]])] (.bool (l.any q)) [plB t 1, some (.map (kmC K)), some (.cells 93 1 0 [.ptr 0 0 0]), some (.cells 48 1 0 (busC b)), some (.cells 114 1 0 [.fn (.func 122) [] [.ptr 3 0 0, .ptr 2 0 0]])] := by
  have h := idxA_tim t b K l q hl hq
  rw [← idxOf_ge]
  simp only [plB, planC, busC, sl, townC, slH, slL] at h
  simp only [plB, planC, busC, sl, townC, slH, slL]
  (refine semF_of_awp (ys := [.bool (decide (0 ≤ idxOf q l))]) (fun w args => Try.call85 ..) Try.func85 rfl (fun w0 m0 wz => ?_); simp only [Try.ntmps85, Try.results85, initT, junks, homeC, hallC, slH, slL, townC, sl, List.toList_toArray, List.cons_append, List.nil_append, List.length_cons, List.length_nil, Nat.reduceAdd, Nat.reduceSub])
  (repeat' (first
 | (refine awp_ownN 2 rfl ?_; simp (maxSteps := 4000000) only [go_sem, seval, List.take_succ_cons, List.take_zero]; (repeat refine And.intro (by omega) ?_); refine own_go (h) [0, 1, 2, 3, 4] rfl ?_ ?_ rfl ?_ <;> try simp (maxSteps := 4000000) only [go_sem, seval, Nat.lt_irrefl] <;> try decide)
 | refine awp_seqK ?_
 | refine kt ?_
 | refine And.intro ?_ ?_
 | ((first | refine awp_stp rfl ?_ | refine awp_draw (by kernel_rfl) (by kernel_rfl) ?_ | refine Imp.le2 ?_ | refine go_split (fun _h => ?_) (fun _h => ?_)) <;> try simp (maxSteps := 4000000) only [go_sem, seval])
 | intro _h
 | refine awp_block ?_
 | refine awp_scope ?_
 | refine cond_b ?_ ?_
 | (show heapOK _ _ = true; kernel_rfl)
 | (show heapOK2 _ _ = true; kernel_rfl)
 | (omega))) <;> simp [*]
theorem allB_tim (t : Town) (b : Bus) (K : List (Sta × Int)) (l : List Int) (q : Int → Bool) (hl : l.length ≤ 1000000) (hq : ∀ i, i < l.length → SemF Try.prog 122 ([.int .i64 (l.getD i 0)] ++ [.ptr 3 0 0, .ptr 2 0 0]) [plB t 1, some (.map (kmC K)), some (.cells 93 1 0 [.ptr 0 0 0]), some (.cells 48 1 0 (busC b))] (.bool (q (l.getD i 0))) [plB t 1, some (.map (kmC K)), some (.cells 93 1 0 [.ptr 0 0 0]), some (.cells 48 1 0 (busC b))]) :
    SemF Try.prog 60 [sl l, .fn (.func 122) [] [.ptr 3 0 0, .ptr 2 0 0]] [plB t 1, some (.map (kmC K)), some (.cells 93 1 0 [.ptr 0 0 0]), some (.cells 48 1 0 (busC b))] (.bool (l.all q)) [plB t 1, some (.map (kmC K)), some (.cells 93 1 0 [.ptr 0 0 0]), some (.cells 48 1 0 (busC b))] := by
  have hany : l.all q = !l.any (fun x => !q x) := by simp [List.all_eq_not_any_not]
  rw [hany]
  have h := hasA_tim t b K l (fun x => !q x) hl (fun i hi => allA_tim t b K (l.getD i 0) (q (l.getD i 0)) (hq i hi))
  simp only [plB, planC, busC, sl, townC, slH, slL] at h
  simp only [plB, planC, busC, sl, townC, slH, slL]
  (refine semF_of_awp (ys := [.bool (!l.any (fun x => !q x))]) (fun w args => Try.call60 ..) Try.func60 rfl (fun w0 m0 wz => ?_); simp only [Try.ntmps60, Try.results60, initT, junks, homeC, hallC, slH, slL, townC, sl, List.toList_toArray, List.cons_append, List.nil_append, List.length_cons, List.length_nil, Nat.reduceAdd, Nat.reduceSub])
  (repeat' (first
 | (refine awp_ownN 2 rfl ?_; simp (maxSteps := 4000000) only [go_sem, seval, List.take_succ_cons, List.take_zero]; (repeat refine And.intro (by omega) ?_); refine own_go (h) [0, 1, 2, 3, 4] rfl ?_ ?_ rfl ?_ <;> try simp (maxSteps := 4000000) only [go_sem, seval, Nat.lt_irrefl] <;> try decide)
 | refine awp_seqK ?_
 | refine kt ?_
 | refine And.intro ?_ ?_
 | ((first | refine awp_stp rfl ?_ | refine awp_draw (by kernel_rfl) (by kernel_rfl) ?_ | refine Imp.le2 ?_ | refine go_split (fun _h => ?_) (fun _h => ?_)) <;> try simp (maxSteps := 4000000) only [go_sem, seval])
 | intro _h
 | refine awp_block ?_
 | refine awp_scope ?_
 | refine cond_b ?_ ?_
 | (show heapOK _ _ = true; kernel_rfl)
 | (show heapOK2 _ _ = true; kernel_rfl)
 | (omega))) <;> simp only [*, Bool.not_true, Bool.not_false]
/-- What a bus needs to be looked at: its homes and its hall are there. -/
structure BusIn (t : Town) (b : Bus) : Prop where
  homes : ∀ x ∈ b.homes, 0 ≤ x ∧ x < t.homes.length
  hall : 0 ≤ b.hall ∧ b.hall < t.halls.length
  leave : 0 ≤ b.leave ∧ b.leave ≤ 10000
  len : b.homes.length ≤ 1000000
def sheB (t : Town) (b : Bus) (x : Int) : Bool := decide (andn (t.homes.getD x.toNat default).pets (t.halls.getD b.hall.toNat default).pets = 0)
def timB (t : Town) (b : Bus) (x : Int) : Bool := decide ((worstL t).getD x.toNat 0 ≤ b.leave ∧ b.leave + (t.halls.getD b.hall.toNat default).drive ≤ (t.homes.getD x.toNat default).gone)
theorem she1_c (t : Town) (b : Bus) (K : List (Sta × Int)) (ht : TownOK t) (hb : BusIn t b) (x : Int) (hx : 0 ≤ x ∧ x < t.homes.length) :
    SemF Try.prog 121 [.int .i64 x, .ptr 2 0 0, .ptr 3 0 0] [plB t 1, some (.map (kmC K)), some (.cells 93 1 0 [.ptr 0 0 0]), some (.cells 48 1 0 (busC b))] (.bool (sheB t b x)) [plB t 1, some (.map (kmC K)), some (.cells 93 1 0 [.ptr 0 0 0]), some (.cells 48 1 0 (busC b))] := by
  have hh := hb.hall
  have htk := taken_c (t.homes.getD x.toNat default) (t.halls.getD b.hall.toNat default)
  have e : decide (andn (t.homes.getD x.toNat default).pets (t.halls.getD b.hall.toNat default).pets = 0) = sheB t b x := rfl
  rw [e] at htk
  simp only [homeC, hallC] at htk
  simp only [plB, planC, busC, sl, townC, slH, slL]
  (refine semF_of_awp (ys := [.bool (sheB t b x)]) (fun w args => Try.call121 ..) Try.func121 rfl (fun w0 m0 wz => ?_); simp only [Try.ntmps121, Try.results121, initT, junks, homeC, hallC, slH, slL, townC, sl, List.toList_toArray, List.cons_append, List.nil_append, List.length_cons, List.length_nil, Nat.reduceAdd, Nat.reduceSub])
  (repeat' (first
 | refine awp_seqK ?_
 | refine kt ?_
 | refine And.intro ?_ ?_
 | ((first | refine awp_stp rfl ?_ | refine awp_draw (by kernel_rfl) (by kernel_rfl) ?_ | refine Imp.le2 ?_ | refine callK_of (htk) ?_ | refine go_split (fun _h => ?_) (fun _h => ?_)) <;> try simp (maxSteps := 4000000) only [go_sem, seval])
 | intro _h
 | refine awp_block ?_
 | refine awp_scope ?_
 | refine cond_b ?_ ?_
 | (show heapOK _ _ = true; kernel_rfl)
 | (show heapOK2 _ _ = true; kernel_rfl)
 | (omega)))
  all_goals exact Eq.symm ‹_›
theorem tim1_c (t : Town) (b : Bus) (K : List (Sta × Int)) (ht : TownOK t) (hb : BusIn t b) (x : Int) (hx : 0 ≤ x ∧ x < t.homes.length) :
    SemF Try.prog 122 [.int .i64 x, .ptr 3 0 0, .ptr 2 0 0] [plB t 1, some (.map (kmC K)), some (.cells 93 1 0 [.ptr 0 0 0]), some (.cells 48 1 0 (busC b))] (.bool (timB t b x)) [plB t 1, some (.map (kmC K)), some (.cells 93 1 0 [.ptr 0 0 0]), some (.cells 48 1 0 (busC b))] := by
  have hh := hb.hall
  have hlv := hb.leave
  have hwl := worstL_length (t := t)
  have hd := (ht.hall b.hall.toNat (by omega)).drive
  unfold timB
  simp only [plB, planC, busC, sl, townC, slH, slL]
  (refine semF_of_awp (ys := [.bool (decide ((worstL t).getD x.toNat 0 ≤ b.leave ∧ b.leave + (t.halls.getD b.hall.toNat default).drive ≤ (t.homes.getD x.toNat default).gone))]) (fun w args => Try.call122 ..) Try.func122 rfl (fun w0 m0 wz => ?_); simp only [Try.ntmps122, Try.results122, initT, junks, homeC, hallC, slH, slL, townC, sl, List.toList_toArray, List.cons_append, List.nil_append, List.length_cons, List.length_nil, Nat.reduceAdd, Nat.reduceSub])
  (repeat' (first
 | refine awp_seqK ?_
 | refine kt ?_
 | refine And.intro ?_ ?_
 | ((first | refine awp_stp rfl ?_ | refine awp_draw (by kernel_rfl) (by kernel_rfl) ?_ | refine Imp.le2 ?_ | refine go_split (fun _h => ?_) (fun _h => ?_)) <;> try simp (maxSteps := 4000000) only [go_sem, seval])
 | intro _h
 | refine awp_block ?_
 | refine awp_scope ?_
 | refine cond_b ?_ ?_
 | (show heapOK _ _ = true; kernel_rfl)
 | (show heapOK2 _ _ = true; kernel_rfl)
 | (omega)))
  all_goals first
    | exact (decide_eq_true ⟨‹_›, ‹_›⟩).symm
    | exact (decide_eq_false (by omega)).symm
theorem sheltered_c (t : Town) (b : Bus) (K : List (Sta × Int)) (ht : TownOK t) (hb : BusIn t b) :
    SemF Try.prog 98 [.ptr 0 0 0, .agg (busC b)] [plB t 1, some (.map (kmC K))] (.bool (b.homes.all (sheB t b))) [plB t 1, some (.map (kmC K))] := by
  have h := allB_she t b K b.homes (sheB t b) hb.len (fun i hi => she1_c t b K ht hb _ (hb.homes _ (getD_mem hi)))
  simp only [plB, planC, busC, sl, townC, slH, slL] at h ⊢
  (refine semF_of_awp (ys := [.bool (b.homes.all (sheB t b))]) (fun w args => Try.call98 ..) Try.func98 rfl (fun w0 m0 wz => ?_); simp only [Try.ntmps98, Try.results98, initT, junks, homeC, hallC, slH, slL, townC, sl, List.toList_toArray, List.cons_append, List.nil_append, List.length_cons, List.length_nil, Nat.reduceAdd, Nat.reduceSub])
  (repeat' (first
 | (refine awp_ownN 3 rfl ?_; simp (maxSteps := 4000000) only [go_sem, seval, List.take_succ_cons, List.take_zero]; (repeat refine And.intro (by omega) ?_); refine own_go (h) [0, 1, 2, 3] rfl ?_ ?_ rfl ?_ <;> try simp (maxSteps := 4000000) only [go_sem, seval, Nat.lt_irrefl] <;> try decide)
 | refine awp_seqK ?_
 | refine kt ?_
 | refine And.intro ?_ ?_
 | ((first | refine awp_stp rfl ?_ | refine awp_draw (by kernel_rfl) (by kernel_rfl) ?_ | refine Imp.le2 ?_ | refine go_split (fun _h => ?_) (fun _h => ?_)) <;> try simp (maxSteps := 4000000) only [go_sem, seval])
 | intro _h
 | refine awp_block ?_
 | refine awp_scope ?_
 | refine cond_b ?_ ?_
 | (show heapOK _ _ = true; kernel_rfl)
 | (show heapOK2 _ _ = true; kernel_rfl)
 | (omega)))
  all_goals exact Eq.symm ‹_›
theorem timely_c (t : Town) (b : Bus) (K : List (Sta × Int)) (ht : TownOK t) (hb : BusIn t b) :
    SemF Try.prog 99 [.ptr 0 0 0, .agg (busC b)] [plB t 1, some (.map (kmC K))] (.bool (b.homes.all (timB t b))) [plB t 1, some (.map (kmC K))] := by
  have h := allB_tim t b K b.homes (timB t b) hb.len (fun i hi => tim1_c t b K ht hb _ (hb.homes _ (getD_mem hi)))
  simp only [plB, planC, busC, sl, townC, slH, slL] at h ⊢
  (refine semF_of_awp (ys := [.bool (b.homes.all (timB t b))]) (fun w args => Try.call99 ..) Try.func99 rfl (fun w0 m0 wz => ?_); simp only [Try.ntmps99, Try.results99, initT, junks, homeC, hallC, slH, slL, townC, sl, List.toList_toArray, List.cons_append, List.nil_append, List.length_cons, List.length_nil, Nat.reduceAdd, Nat.reduceSub])
  (repeat' (first
 | (refine awp_ownN 3 rfl ?_; simp (maxSteps := 4000000) only [go_sem, seval, List.take_succ_cons, List.take_zero]; (repeat refine And.intro (by omega) ?_); refine own_go (h) [0, 1, 2, 3] rfl ?_ ?_ rfl ?_ <;> try simp (maxSteps := 4000000) only [go_sem, seval, Nat.lt_irrefl] <;> try decide)
 | refine awp_seqK ?_
 | refine kt ?_
 | refine And.intro ?_ ?_
 | ((first | refine awp_stp rfl ?_ | refine awp_draw (by kernel_rfl) (by kernel_rfl) ?_ | refine Imp.le2 ?_ | refine go_split (fun _h => ?_) (fun _h => ?_)) <;> try simp (maxSteps := 4000000) only [go_sem, seval])
 | intro _h
 | refine awp_block ?_
 | refine awp_scope ?_
 | refine cond_b ?_ ?_
 | (show heapOK _ _ = true; kernel_rfl)
 | (show heapOK2 _ _ = true; kernel_rfl)
 | (omega)))
  all_goals exact Eq.symm ‹_›
theorem seated_c (t : Town) (b : Bus) (K : List (Sta × Int)) (ht : TownOK t) (hb : BusIn t b) :
    SemF Try.prog 97 [.ptr 0 0 0, .agg (busC b)] [plB t 1, some (.map (kmC K))] (.bool (decide (ppl t b.homes ≤ t.seats))) [plB t 1, some (.map (kmC K))] := by
  have h := people_c t b K ht hb.homes hb.len
  simp only [plB, planC, busC, sl, townC, slH, slL] at h ⊢
  (refine semF_of_awp (ys := [.bool (decide (ppl t b.homes ≤ t.seats))]) (fun w args => Try.call97 ..) Try.func97 rfl (fun w0 m0 wz => ?_); simp only [Try.ntmps97, Try.results97, initT, junks, homeC, hallC, slH, slL, townC, sl, List.toList_toArray, List.cons_append, List.nil_append, List.length_cons, List.length_nil, Nat.reduceAdd, Nat.reduceSub])
  (repeat' (first
 | refine awp_seqK ?_
 | refine kt ?_
 | refine And.intro ?_ ?_
 | ((first | refine awp_stp rfl ?_ | refine Imp.le2 ?_ | refine go_split (fun _h => ?_) (fun _h => ?_)) <;> try simp (maxSteps := 4000000) only [go_sem, seval])
 | intro _h
 | refine awp_block ?_
 | refine awp_scope ?_
 | refine cond_b ?_ ?_
 | (show heapOK _ _ = true; kernel_rfl)
 | (show heapOK2 _ _ = true; kernel_rfl)
 | (omega)))
  ((repeat refine awp_seqK ?_); refine awp_draws [(2, [])] (by kernel_rfl) (by kernel_rfl) ?_; simp (maxSteps := 4000000) only [go_sem, seval, sg_cons, sg_nil, List.take_succ_cons, List.take_zero, List.drop_succ_cons, List.drop_zero])
  (refine own_go (h) [0, 1] rfl (by simp (maxSteps := 4000000) only [go_sem, seval]) (by simp (maxSteps := 4000000) only [go_sem, seval, Nat.lt_irrefl] <;> decide) rfl ?_; simp (maxSteps := 4000000) only [go_sem, seval]; refine And.intro (frm_of (by repeat (first | exact rfl | exact ⟨_, rfl⟩ | refine And.intro ?_ ?_))) ?_; try simp (maxSteps := 4000000) only [go_sem, seval, sg_cons, sg_nil, List.take_succ_cons, List.take_zero, List.drop_succ_cons, List.drop_zero])
  (repeat' (first
 | refine awp_seqK ?_
 | refine kt ?_
 | refine And.intro ?_ ?_
 | ((first | refine awp_stp rfl ?_ | refine awp_draw (by kernel_rfl) (by kernel_rfl) ?_ | refine Imp.le2 ?_ | refine go_split (fun _h => ?_) (fun _h => ?_)) <;> try simp (maxSteps := 4000000) only [go_sem, seval])
 | intro _h
 | refine awp_block ?_
 | refine awp_scope ?_
 | refine cond_b ?_ ?_
 | (show heapOK _ _ = true; kernel_rfl)
 | (show heapOK2 _ _ = true; kernel_rfl)
 | (omega)))
  all_goals first
    | exact (decide_eq_true ‹_›).symm
    | exact (decide_eq_false ‹_›).symm
theorem reas_c (t : Town) (b : Bus) (K : List (Sta × Int)) (f : FuncId) (q : Bool) (hq : SemF Try.prog f [.ptr 0 0 0, .agg (busC b)] [plB t 1, some (.map (kmC K))] (.bool q) [plB t 1, some (.map (kmC K))]) :
    SemF Try.prog 100 [.agg [.fn (.func f) [] []], .ptr 2 0 0, .ptr 3 0 0] [plB t 1, some (.map (kmC K)), some (.cells 93 1 0 [.ptr 0 0 0]), some (.cells 48 1 0 (busC b))] (.bool q) [plB t 1, some (.map (kmC K)), some (.cells 93 1 0 [.ptr 0 0 0]), some (.cells 48 1 0 (busC b))] := by
  simp only [plB, planC, busC, sl, townC, slH, slL] at hq ⊢
  (refine semF_of_awp (ys := [.bool q]) (fun w args => Try.call100 ..) Try.func100 rfl (fun w0 m0 wz => ?_); simp only [Try.ntmps100, Try.results100, initT, junks, homeC, hallC, slH, slL, townC, sl, List.toList_toArray, List.cons_append, List.nil_append, List.length_cons, List.length_nil, Nat.reduceAdd, Nat.reduceSub])
  (repeat' (first
 | (refine awp_ownN 4 rfl ?_; simp (maxSteps := 4000000) only [go_sem, seval, List.take_succ_cons, List.take_zero]; (repeat refine And.intro (by omega) ?_); refine own_go (hq) [0, 1] rfl ?_ ?_ rfl ?_ <;> try simp (maxSteps := 4000000) only [go_sem, seval, Nat.lt_irrefl] <;> try decide)
 | refine awp_seqK ?_
 | refine kt ?_
 | refine And.intro ?_ ?_
 | ((first | refine awp_stp rfl ?_ | refine awp_draw (by kernel_rfl) (by kernel_rfl) ?_ | refine Imp.le2 ?_ | refine go_split (fun _h => ?_) (fun _h => ?_)) <;> try simp (maxSteps := 4000000) only [go_sem, seval])
 | intro _h
 | refine awp_block ?_
 | refine awp_scope ?_
 | refine cond_b ?_ ?_
 | (show heapOK _ _ = true; kernel_rfl)
 | (show heapOK2 _ _ = true; kernel_rfl)
 | (omega)))
  all_goals exact Eq.symm ‹_›
theorem reasN_c (t : Town) (b : Bus) (K : List (Sta × Int)) (f : FuncId) (q : Bool) (hq : SemF Try.prog f [.ptr 0 0 0, .agg (busC b)] [plB t 1, some (.map (kmC K))] (.bool q) [plB t 1, some (.map (kmC K))]) :
    SemF Try.prog 120 [.agg [.fn (.func f) [] []], .ptr 4 0 0] [plB t 1, some (.map (kmC K)), some (.cells 93 1 0 [.ptr 0 0 0]), some (.cells 48 1 0 (busC b)), some (.cells 146 1 0 [.fn (.func 100) [] [.ptr 2 0 0, .ptr 3 0 0]])] (.bool (!q)) [plB t 1, some (.map (kmC K)), some (.cells 93 1 0 [.ptr 0 0 0]), some (.cells 48 1 0 (busC b)), some (.cells 146 1 0 [.fn (.func 100) [] [.ptr 2 0 0, .ptr 3 0 0]])] := by
  have h := reas_c t b K f q hq
  simp only [plB, planC, busC, sl, townC, slH, slL] at h ⊢
  (refine semF_of_awp (ys := [.bool (!q)]) (fun w args => Try.call120 ..) Try.func120 rfl (fun w0 m0 wz => ?_); simp only [Try.ntmps120, Try.results120, initT, junks, homeC, hallC, slH, slL, townC, sl, List.toList_toArray, List.cons_append, List.nil_append, List.length_cons, List.length_nil, Nat.reduceAdd, Nat.reduceSub])
  (repeat' (first
 | (refine awp_ownN 2 rfl ?_; simp (maxSteps := 4000000) only [go_sem, seval, List.take_succ_cons, List.take_zero]; (repeat refine And.intro (by omega) ?_); refine own_go (h) [0, 1, 2, 3] rfl ?_ ?_ rfl ?_ <;> try simp (maxSteps := 4000000) only [go_sem, seval, Nat.lt_irrefl] <;> try decide)
 | refine awp_seqK ?_
 | refine kt ?_
 | refine And.intro ?_ ?_
 | ((first | refine awp_stp rfl ?_ | refine awp_draw (by kernel_rfl) (by kernel_rfl) ?_ | refine Imp.le2 ?_ | refine go_split (fun _h => ?_) (fun _h => ?_)) <;> try simp (maxSteps := 4000000) only [go_sem, seval])
 | intro _h
 | refine awp_block ?_
 | refine awp_scope ?_
 | refine cond_b ?_ ?_
 | (show heapOK _ _ = true; kernel_rfl)
 | (show heapOK2 _ _ = true; kernel_rfl)
 | (omega))) <;> simp [*]
def reaI (q1 q2 q3 : Bool) : Int := if q1 = false then 0 else if q2 = false then 1 else if q3 = false then 2 else -1
theorem reaI_ge {q1 q2 q3 : Bool} : decide (0 ≤ reaI q1 q2 q3) = !(q1 && q2 && q3) := by cases q1 <;> cases q2 <;> cases q3 <;> rfl
theorem reasI_c (t : Town) (b : Bus) (K : List (Sta × Int)) (q1 q2 q3 : Bool) (h1 : SemF Try.prog 97 [.ptr 0 0 0, .agg (busC b)] [plB t 1, some (.map (kmC K))] (.bool q1) [plB t 1, some (.map (kmC K))])
    (h2 : SemF Try.prog 98 [.ptr 0 0 0, .agg (busC b)] [plB t 1, some (.map (kmC K))] (.bool q2) [plB t 1, some (.map (kmC K))]) (h3 : SemF Try.prog 99 [.ptr 0 0 0, .agg (busC b)] [plB t 1, some (.map (kmC K))] (.bool q3) [plB t 1, some (.map (kmC K))]) :
    SemF Try.prog 131 [.psl true 3 [.fn (.func 97) [] [], .fn (.func 98) [] [], .fn (.func 99) [] []], .fn (.func 120) [] [.ptr 4 0 0]] [plB t 1, some (.map (kmC K)), some (.cells 93 1 0 [.ptr 0 0 0]), some (.cells 48 1 0 (busC b)), some (.cells 146 1 0 [.fn (.func 100) [] [.ptr 2 0 0, .ptr 3 0 0]])] (.int .i64 (reaI q1 q2 q3)) [plB t 1, some (.map (kmC K)), some (.cells 93 1 0 [.ptr 0 0 0]), some (.cells 48 1 0 (busC b)), some (.cells 146 1 0 [.fn (.func 100) [] [.ptr 2 0 0, .ptr 3 0 0]])] := by
  have g1 := reasN_c t b K 97 q1 h1
  have g2 := reasN_c t b K 98 q2 h2
  have g3 := reasN_c t b K 99 q3 h3
  simp only [plB, planC, busC, sl, townC, slH, slL] at g1 g2 g3 ⊢
  cases q1
  · (refine semF_of_awp (ys := [.int .i64 0]) (fun w args => Try.call131 ..) Try.func131 rfl (fun w0 m0 wz => ?_); simp only [Try.ntmps131, Try.results131, initT, junks, homeC, hallC, slH, slL, townC, sl, List.toList_toArray, List.cons_append, List.nil_append, List.length_cons, List.length_nil, Nat.reduceAdd, Nat.reduceSub])
    (repeat' (first
 | refine awp_seqK ?_
 | refine kt ?_
 | refine And.intro ?_ ?_
 | ((first | refine awp_stp rfl ?_ | refine awp_draw (by kernel_rfl) (by kernel_rfl) ?_ | refine Imp.le2 ?_ | refine go_split (fun _h => ?_) (fun _h => ?_)) <;> try simp (maxSteps := 4000000) only [go_sem, seval])
 | intro _h
 | refine awp_block ?_
 | refine awp_scope ?_
 | refine cond_b ?_ ?_
 | (show heapOK _ _ = true; kernel_rfl)
 | (show heapOK2 _ _ = true; kernel_rfl)
 | (omega)))
    (refine awp_rounds 4 ?_; rw [ar_s])
    (repeat' (first
 | (refine awp_ownN 5 rfl ?_; simp (maxSteps := 4000000) only [go_sem, seval, List.take_succ_cons, List.take_zero]; (repeat refine And.intro (by omega) ?_); refine own_go (g1) [0, 1, 2, 3, 4] rfl ?_ ?_ rfl ?_ <;> try simp (maxSteps := 4000000) only [go_sem, seval, Nat.lt_irrefl] <;> try decide)
 | refine awp_seqK ?_
 | refine kt ?_
 | refine And.intro ?_ ?_
 | ((first | refine awp_stp rfl ?_ | refine awp_draw (by kernel_rfl) (by kernel_rfl) ?_ | refine Imp.le2 ?_ | refine go_split (fun _h => ?_) (fun _h => ?_)) <;> try simp (maxSteps := 4000000) only [go_sem, seval])
 | intro _h
 | refine awp_block ?_
 | refine awp_scope ?_
 | refine cond_b ?_ ?_
 | (show heapOK _ _ = true; kernel_rfl)
 | (show heapOK2 _ _ = true; kernel_rfl)
 | (omega)))
  · cases q2
    · (refine semF_of_awp (ys := [.int .i64 1]) (fun w args => Try.call131 ..) Try.func131 rfl (fun w0 m0 wz => ?_); simp only [Try.ntmps131, Try.results131, initT, junks, homeC, hallC, slH, slL, townC, sl, List.toList_toArray, List.cons_append, List.nil_append, List.length_cons, List.length_nil, Nat.reduceAdd, Nat.reduceSub])
      (repeat' (first
 | refine awp_seqK ?_
 | refine kt ?_
 | refine And.intro ?_ ?_
 | ((first | refine awp_stp rfl ?_ | refine awp_draw (by kernel_rfl) (by kernel_rfl) ?_ | refine Imp.le2 ?_ | refine go_split (fun _h => ?_) (fun _h => ?_)) <;> try simp (maxSteps := 4000000) only [go_sem, seval])
 | intro _h
 | refine awp_block ?_
 | refine awp_scope ?_
 | refine cond_b ?_ ?_
 | (show heapOK _ _ = true; kernel_rfl)
 | (show heapOK2 _ _ = true; kernel_rfl)
 | (omega)))
      (refine awp_rounds 4 ?_; rw [ar_s])
      (repeat' (first
 | (refine awp_ownN 5 rfl ?_; simp (maxSteps := 4000000) only [go_sem, seval, List.take_succ_cons, List.take_zero]; (repeat refine And.intro (by omega) ?_); refine own_go (g1) [0, 1, 2, 3, 4] rfl ?_ ?_ rfl ?_ <;> try simp (maxSteps := 4000000) only [go_sem, seval, Nat.lt_irrefl] <;> try decide)
 | (refine awp_ownN 5 rfl ?_; simp (maxSteps := 4000000) only [go_sem, seval, List.take_succ_cons, List.take_zero]; (repeat refine And.intro (by omega) ?_); refine own_go (g2) [0, 1, 2, 3, 4] rfl ?_ ?_ rfl ?_ <;> try simp (maxSteps := 4000000) only [go_sem, seval, Nat.lt_irrefl] <;> try decide)
 | refine awp_seqK ?_
 | refine kt ?_
 | refine And.intro ?_ ?_
 | ((first | refine awp_stp rfl ?_ | refine awp_draw (by kernel_rfl) (by kernel_rfl) ?_ | refine Imp.le2 ?_ | refine go_split (fun _h => ?_) (fun _h => ?_)) <;> try simp (maxSteps := 4000000) only [go_sem, seval])
 | intro _h
 | refine awp_block ?_
 | refine awp_scope ?_
 | refine cond_b ?_ ?_
 | (show heapOK _ _ = true; kernel_rfl)
 | (show heapOK2 _ _ = true; kernel_rfl)
 | (omega)))
    · cases q3
      · (refine semF_of_awp (ys := [.int .i64 2]) (fun w args => Try.call131 ..) Try.func131 rfl (fun w0 m0 wz => ?_); simp only [Try.ntmps131, Try.results131, initT, junks, homeC, hallC, slH, slL, townC, sl, List.toList_toArray, List.cons_append, List.nil_append, List.length_cons, List.length_nil, Nat.reduceAdd, Nat.reduceSub])
        (repeat' (first
 | refine awp_seqK ?_
 | refine kt ?_
 | refine And.intro ?_ ?_
 | ((first | refine awp_stp rfl ?_ | refine awp_draw (by kernel_rfl) (by kernel_rfl) ?_ | refine Imp.le2 ?_ | refine go_split (fun _h => ?_) (fun _h => ?_)) <;> try simp (maxSteps := 4000000) only [go_sem, seval])
 | intro _h
 | refine awp_block ?_
 | refine awp_scope ?_
 | refine cond_b ?_ ?_
 | (show heapOK _ _ = true; kernel_rfl)
 | (show heapOK2 _ _ = true; kernel_rfl)
 | (omega)))
        (refine awp_rounds 4 ?_; rw [ar_s])
        (repeat' (first
 | (refine awp_ownN 5 rfl ?_; simp (maxSteps := 4000000) only [go_sem, seval, List.take_succ_cons, List.take_zero]; (repeat refine And.intro (by omega) ?_); refine own_go (g1) [0, 1, 2, 3, 4] rfl ?_ ?_ rfl ?_ <;> try simp (maxSteps := 4000000) only [go_sem, seval, Nat.lt_irrefl] <;> try decide)
 | (refine awp_ownN 5 rfl ?_; simp (maxSteps := 4000000) only [go_sem, seval, List.take_succ_cons, List.take_zero]; (repeat refine And.intro (by omega) ?_); refine own_go (g2) [0, 1, 2, 3, 4] rfl ?_ ?_ rfl ?_ <;> try simp (maxSteps := 4000000) only [go_sem, seval, Nat.lt_irrefl] <;> try decide)
 | (refine awp_ownN 5 rfl ?_; simp (maxSteps := 4000000) only [go_sem, seval, List.take_succ_cons, List.take_zero]; (repeat refine And.intro (by omega) ?_); refine own_go (g3) [0, 1, 2, 3, 4] rfl ?_ ?_ rfl ?_ <;> try simp (maxSteps := 4000000) only [go_sem, seval, Nat.lt_irrefl] <;> try decide)
 | refine awp_seqK ?_
 | refine kt ?_
 | refine And.intro ?_ ?_
 | ((first | refine awp_stp rfl ?_ | refine awp_draw (by kernel_rfl) (by kernel_rfl) ?_ | refine Imp.le2 ?_ | refine go_split (fun _h => ?_) (fun _h => ?_)) <;> try simp (maxSteps := 4000000) only [go_sem, seval])
 | intro _h
 | refine awp_block ?_
 | refine awp_scope ?_
 | refine cond_b ?_ ?_
 | (show heapOK _ _ = true; kernel_rfl)
 | (show heapOK2 _ _ = true; kernel_rfl)
 | (omega)))
      · (refine semF_of_awp (ys := [.int .i64 (-1)]) (fun w args => Try.call131 ..) Try.func131 rfl (fun w0 m0 wz => ?_); simp only [Try.ntmps131, Try.results131, initT, junks, homeC, hallC, slH, slL, townC, sl, List.toList_toArray, List.cons_append, List.nil_append, List.length_cons, List.length_nil, Nat.reduceAdd, Nat.reduceSub])
        (repeat' (first
 | refine awp_seqK ?_
 | refine kt ?_
 | refine And.intro ?_ ?_
 | ((first | refine awp_stp rfl ?_ | refine awp_draw (by kernel_rfl) (by kernel_rfl) ?_ | refine Imp.le2 ?_ | refine go_split (fun _h => ?_) (fun _h => ?_)) <;> try simp (maxSteps := 4000000) only [go_sem, seval])
 | intro _h
 | refine awp_block ?_
 | refine awp_scope ?_
 | refine cond_b ?_ ?_
 | (show heapOK _ _ = true; kernel_rfl)
 | (show heapOK2 _ _ = true; kernel_rfl)
 | (omega)))
        (refine awp_rounds 4 ?_; rw [ar_s])
        (repeat' (first
 | (refine awp_ownN 5 rfl ?_; simp (maxSteps := 4000000) only [go_sem, seval, List.take_succ_cons, List.take_zero]; (repeat refine And.intro (by omega) ?_); refine own_go (g1) [0, 1, 2, 3, 4] rfl ?_ ?_ rfl ?_ <;> try simp (maxSteps := 4000000) only [go_sem, seval, Nat.lt_irrefl] <;> try decide)
 | (refine awp_ownN 5 rfl ?_; simp (maxSteps := 4000000) only [go_sem, seval, List.take_succ_cons, List.take_zero]; (repeat refine And.intro (by omega) ?_); refine own_go (g2) [0, 1, 2, 3, 4] rfl ?_ ?_ rfl ?_ <;> try simp (maxSteps := 4000000) only [go_sem, seval, Nat.lt_irrefl] <;> try decide)
 | (refine awp_ownN 5 rfl ?_; simp (maxSteps := 4000000) only [go_sem, seval, List.take_succ_cons, List.take_zero]; (repeat refine And.intro (by omega) ?_); refine own_go (g3) [0, 1, 2, 3, 4] rfl ?_ ?_ rfl ?_ <;> try simp (maxSteps := 4000000) only [go_sem, seval, Nat.lt_irrefl] <;> try decide)
 | refine awp_seqK ?_
 | refine kt ?_
 | refine And.intro ?_ ?_
 | ((first | refine awp_stp rfl ?_ | refine awp_draw (by kernel_rfl) (by kernel_rfl) ?_ | refine Imp.le2 ?_ | refine go_split (fun _h => ?_) (fun _h => ?_)) <;> try simp (maxSteps := 4000000) only [go_sem, seval])
 | intro _h
 | refine awp_block ?_
 | refine awp_scope ?_
 | refine cond_b ?_ ?_
 | (show heapOK _ _ = true; kernel_rfl)
 | (show heapOK2 _ _ = true; kernel_rfl)
 | (omega)))
theorem reasH_c (t : Town) (b : Bus) (K : List (Sta × Int)) (q1 q2 q3 : Bool) (h1 : SemF Try.prog 97 [.ptr 0 0 0, .agg (busC b)] [plB t 1, some (.map (kmC K))] (.bool q1) [plB t 1, some (.map (kmC K))])
    (h2 : SemF Try.prog 98 [.ptr 0 0 0, .agg (busC b)] [plB t 1, some (.map (kmC K))] (.bool q2) [plB t 1, some (.map (kmC K))]) (h3 : SemF Try.prog 99 [.ptr 0 0 0, .agg (busC b)] [plB t 1, some (.map (kmC K))] (.bool q3) [plB t 1, some (.map (kmC K))]) :
    SemF Try.prog 119 [.psl true 3 [.fn (.func 97) [] [], .fn (.func 98) [] [], .fn (.func 99) [] []], .fn (.func 120) [] [.ptr 4 0 0]] [plB t 1, some (.map (kmC K)), some (.cells 93 1 0 [.ptr 0 0 0]), some (.cells 48 1 0 (busC b)), some (.cells 146 1 0 [.fn (.func 100) [] [.ptr 2 0 0, .ptr 3 0 0]])] (.bool (!(q1 && q2 && q3))) [plB t 1, some (.map (kmC K)), some (.cells 93 1 0 [.ptr 0 0 0]), some (.cells 48 1 0 (busC b)), some (.cells 146 1 0 [.fn (.func 100) [] [.ptr 2 0 0, .ptr 3 0 0]])] := by
  have h := reasI_c t b K q1 q2 q3 h1 h2 h3
  rw [← reaI_ge]
  simp only [plB, planC, busC, sl, townC, slH, slL] at h ⊢
  (refine semF_of_awp (ys := [.bool (decide (0 ≤ reaI q1 q2 q3))]) (fun w args => Try.call119 ..) Try.func119 rfl (fun w0 m0 wz => ?_); simp only [Try.ntmps119, Try.results119, initT, junks, homeC, hallC, slH, slL, townC, sl, List.toList_toArray, List.cons_append, List.nil_append, List.length_cons, List.length_nil, Nat.reduceAdd, Nat.reduceSub])
  (repeat' (first
 | (refine awp_ownN 2 rfl ?_; simp (maxSteps := 4000000) only [go_sem, seval, List.take_succ_cons, List.take_zero]; (repeat refine And.intro (by omega) ?_); refine own_go (h) [0, 1, 2, 3, 4] rfl ?_ ?_ rfl ?_ <;> try simp (maxSteps := 4000000) only [go_sem, seval, Nat.lt_irrefl] <;> try decide)
 | refine awp_seqK ?_
 | refine kt ?_
 | refine And.intro ?_ ?_
 | ((first | refine awp_stp rfl ?_ | refine awp_draw (by kernel_rfl) (by kernel_rfl) ?_ | refine Imp.le2 ?_ | refine go_split (fun _h => ?_) (fun _h => ?_)) <;> try simp (maxSteps := 4000000) only [go_sem, seval])
 | intro _h
 | refine awp_block ?_
 | refine awp_scope ?_
 | refine cond_b ?_ ?_
 | (show heapOK _ _ = true; kernel_rfl)
 | (show heapOK2 _ _ = true; kernel_rfl)
 | (omega))) <;> simp [*]
theorem reasA_c (t : Town) (b : Bus) (K : List (Sta × Int)) (q1 q2 q3 : Bool) (h1 : SemF Try.prog 97 [.ptr 0 0 0, .agg (busC b)] [plB t 1, some (.map (kmC K))] (.bool q1) [plB t 1, some (.map (kmC K))])
    (h2 : SemF Try.prog 98 [.ptr 0 0 0, .agg (busC b)] [plB t 1, some (.map (kmC K))] (.bool q2) [plB t 1, some (.map (kmC K))]) (h3 : SemF Try.prog 99 [.ptr 0 0 0, .agg (busC b)] [plB t 1, some (.map (kmC K))] (.bool q3) [plB t 1, some (.map (kmC K))]) :
    SemF Try.prog 96 [.psl true 3 [.fn (.func 97) [] [], .fn (.func 98) [] [], .fn (.func 99) [] []], .fn (.func 100) [] [.ptr 2 0 0, .ptr 3 0 0]] [plB t 1, some (.map (kmC K)), some (.cells 93 1 0 [.ptr 0 0 0]), some (.cells 48 1 0 (busC b))] (.bool (q1 && q2 && q3)) [plB t 1, some (.map (kmC K)), some (.cells 93 1 0 [.ptr 0 0 0]), some (.cells 48 1 0 (busC b))] := by
  have h := reasH_c t b K q1 q2 q3 h1 h2 h3
  generalize (q1 && q2 && q3) = q at *
  simp only [plB, planC, busC, sl, townC, slH, slL] at h ⊢
  (refine semF_of_awp (ys := [.bool q]) (fun w args => Try.call96 ..) Try.func96 rfl (fun w0 m0 wz => ?_); simp only [Try.ntmps96, Try.results96, initT, junks, homeC, hallC, slH, slL, townC, sl, List.toList_toArray, List.cons_append, List.nil_append, List.length_cons, List.length_nil, Nat.reduceAdd, Nat.reduceSub])
  (repeat' (first
 | (refine awp_ownN 2 rfl ?_; simp (maxSteps := 4000000) only [go_sem, seval, List.take_succ_cons, List.take_zero]; (repeat refine And.intro (by omega) ?_); refine own_go (h) [0, 1, 2, 3, 4] rfl ?_ ?_ rfl ?_ <;> try simp (maxSteps := 4000000) only [go_sem, seval, Nat.lt_irrefl] <;> try decide)
 | refine awp_seqK ?_
 | refine kt ?_
 | refine And.intro ?_ ?_
 | ((first | refine awp_stp rfl ?_ | refine awp_draw (by kernel_rfl) (by kernel_rfl) ?_ | refine Imp.le2 ?_ | refine go_split (fun _h => ?_) (fun _h => ?_)) <;> try simp (maxSteps := 4000000) only [go_sem, seval])
 | intro _h
 | refine awp_block ?_
 | refine awp_scope ?_
 | refine cond_b ?_ ?_
 | (show heapOK _ _ = true; kernel_rfl)
 | (show heapOK2 _ _ = true; kernel_rfl)
 | (omega))) <;> (have h9 : (!!q) = q := Bool.not_not q; rw [← h9]; exact Eq.symm ‹_›)
def mayB (t : Town) (b : Bus) : Bool := decide (ppl t b.homes ≤ t.seats) && b.homes.all (sheB t b) && b.homes.all (timB t b)
theorem may_c (t : Town) (b : Bus) (K : List (Sta × Int)) (ht : TownOK t) (hb : BusIn t b) :
    SemF Try.prog 79 [.ptr 0 0 0, .agg (busC b)] [plB t 1, some (.map (kmC K))] (.bool (mayB t b)) [plB t 1, some (.map (kmC K))] := by
  have h := reasA_c t b K _ _ _ (seated_c t b K ht hb) (sheltered_c t b K ht hb) (timely_c t b K ht hb)
  have e : (decide (ppl t b.homes ≤ t.seats) && b.homes.all (sheB t b) && b.homes.all (timB t b)) = mayB t b := rfl
  rw [e] at h
  generalize mayB t b = q at *
  simp only [plB, planC, busC, sl, townC, slH, slL] at h ⊢
  (refine semF_of_awp (ys := [.bool q]) (fun w args => Try.call79 ..) Try.func79 rfl (fun w0 m0 wz => ?_); simp only [Try.ntmps79, Try.results79, initT, junks, homeC, hallC, slH, slL, townC, sl, List.toList_toArray, List.cons_append, List.nil_append, List.length_cons, List.length_nil, Nat.reduceAdd, Nat.reduceSub])
  (repeat' (first
 | (refine awp_ownN 5 rfl ?_; simp (maxSteps := 4000000) only [go_sem, seval, List.take_succ_cons, List.take_zero]; (repeat refine And.intro (by omega) ?_); refine own_go (h) [0, 1, 2, 3] rfl ?_ ?_ rfl ?_ <;> try simp (maxSteps := 4000000) only [go_sem, seval, Nat.lt_irrefl] <;> try decide)
 | refine awp_seqK ?_
 | refine kt ?_
 | refine And.intro ?_ ?_
 | ((first | refine awp_stp rfl ?_ | refine awp_draw (by kernel_rfl) (by kernel_rfl) ?_ | refine Imp.le2 ?_ | refine go_split (fun _h => ?_) (fun _h => ?_)) <;> try simp (maxSteps := 4000000) only [go_sem, seval])
 | intro _h
 | refine awp_block ?_
 | refine awp_scope ?_
 | refine cond_b ?_ ?_
 | (show heapOK _ _ = true; kernel_rfl)
 | (show heapOK2 _ _ = true; kernel_rfl)
 | (omega)))
  all_goals exact Eq.symm ‹_›
end Go.Am

/- Contracts of the away functions: a town that is planned, the state before any bus. -/
namespace Go.Am
open Go.RowKit Go.Proofs
attribute [local irreducible] AWP CallS Kt goK CallK stepK evOps SemF SemY Imp
set_option maxRecDepth 4000
set_option linter.unusedSimpArgs false
set_option linter.unusedVariables false
set_option maxHeartbeats 1600000
theorem sp_room {x : AV} {a b c v : Int} {i : Nat} (h : i < 3) : splice [x, .int .i64 a, .int .i64 b, .int .i64 c] (1 + i) [.int .i64 v] = [x, .int .i64 (if i = 0 then v else a), .int .i64 (if i = 1 then v else b), .int .i64 (if i = 2 then v else c)] := by
  rcases (by omega : i = 0 ∨ i = 1 ∨ i = 2) with rfl | rfl | rfl <;> simp [splice]
theorem nth_room {x : AV} {a b c : Int} {i : Nat} {K : AV → Prop} : optK (nth [x, .int .i64 a, .int .i64 b, .int .i64 c] (1 + i)) K = (i < 3 ∧ K (.int .i64 (if i = 0 then a else if i = 1 then b else c))) := by
  by_cases h : i < 3
  · rcases (by omega : i = 0 ∨ i = 1 ∨ i = 2) with rfl | rfl | rfl <;> simp [nth, optK]
  · rw [← nth_is, List.getElem?_eq_none (by simp; omega)]
    simp [optK, h]
theorem planning_c (t : Town) (ht : TownOK t) : SemF Try.prog 50 [.agg (townC t)] [] (.ptr 2 0 0) [none, some (.map (kmC [])), plB t 1] := by
  have hw := worst_c t ht
  simp only [plB, planC, busC, sl, townC, slH, slL] at hw ⊢
  (refine semF_of_awp (ys := [.ptr 2 0 0]) (fun w args => Try.call50 ..) Try.func50 rfl (fun w0 m0 wz => ?_); simp only [Try.ntmps50, Try.results50, initT, junks, homeC, hallC, slH, slL, townC, sl, List.toList_toArray, List.cons_append, List.nil_append, List.length_cons, List.length_nil, Nat.reduceAdd, Nat.reduceSub])
  (repeat' (first
 | refine awp_seqK ?_
 | refine kt ?_
 | refine And.intro ?_ ?_
 | ((first | refine awp_stp rfl ?_ | refine awp_draw (by kernel_rfl) (by kernel_rfl) ?_ | refine Imp.le2 ?_ | refine callK_of (hw) ?_ | refine go_split (fun _h => ?_) (fun _h => ?_)) <;> try simp (maxSteps := 4000000) only [go_sem, seval])
 | intro _h
 | refine awp_block ?_
 | refine awp_scope ?_
 | refine cond_b ?_ ?_
 | (show heapOK _ _ = true; kernel_rfl)
 | (show heapOK2 _ _ = true; kernel_rfl)
 | (omega)))
  all_goals rfl
def stBeg (t : Town) (n k : Nat) : Sta := ⟨2 ^ n - 1, if 0 < k then (t.halls.getD 0 default).room else 0, if 1 < k then (t.halls.getD 1 default).room else 0, if 2 < k then (t.halls.getD 2 default).room else 0⟩
theorem all_homes {n : Nat} (h : n ≤ 8) : IntKind.u8.wrap (IntKind.u8.wrap (1 * 2 ^ (min n IntKind.u8.bits)) - 1) = ((2 ^ n - 1 : Nat) : Int) := by
  rcases (by omega : n = 0 ∨ n = 1 ∨ n = 2 ∨ n = 3 ∨ n = 4 ∨ n = 5 ∨ n = 6 ∨ n = 7 ∨ n = 8) with rfl | rfl | rfl | rfl | rfl | rfl | rfl | rfl | rfl <;> rfl
theorem begin_c (t : Town) (n : Nat) (K : List (Sta × Int)) (ht : TownOK t) (hn : n ≤ 8) :
    SemF Try.prog 51 [.ptr 0 0 0, .int .i64 n] [plB t 1, some (.map (kmC K))] (.agg (stC (stBeg t n t.halls.length))) [plB t 1, some (.map (kmC K))] := by
  have hl := ht.halls
  have e0 := all_homes hn
  simp only [plB, planC, busC, sl, townC, slH, slL, stC]
  (refine semF_of_awp (ys := [.agg (stC (stBeg t n t.halls.length))]) (fun w args => Try.call51 ..) Try.func51 rfl (fun w0 m0 wz => ?_); simp only [Try.ntmps51, Try.results51, initT, junks, homeC, hallC, slH, slL, townC, sl, List.toList_toArray, List.cons_append, List.nil_append, List.length_cons, List.length_nil, Nat.reduceAdd, Nat.reduceSub])
  (repeat' (first
 | refine awp_seqK ?_
 | refine kt ?_
 | refine And.intro ?_ ?_
 | ((first | refine awp_stp rfl ?_ | refine awp_draw (by kernel_rfl) (by kernel_rfl) ?_ | refine Imp.le2 ?_ | refine go_split (fun _h => ?_) (fun _h => ?_)) <;> try simp (maxSteps := 4000000) only [go_sem, seval])
 | intro _h
 | refine awp_block ?_
 | refine awp_scope ?_
 | refine cond_b ?_ ?_
 | (show heapOK _ _ = true; kernel_rfl)
 | (show heapOK2 _ _ = true; kernel_rfl)
 | (omega)))
  have e0 := all_homes hn
  have er : ∀ k, (stBeg t n k).rest = 2 ^ n - 1 := fun _ => rfl
  refine awp_loopN t.halls.length (fun k => ⟨mkT 30 [(0, .ptr 0 0 0), (4, .ptr 2 0 0), (5, .ptr 3 0 0), (16, slL t.halls), (17, .int .i64 t.halls.length), (18, .int .i64 k)], [plB t 1, some (.map (kmC K)), some (.cells 98 1 0 [.int .u8 0, .int .i64 0, .int .i64 0, .int .i64 0]), some (.cells 98 1 0 (stC (stBeg t n k)))], []⟩) (.le2 ?_) ?_
  · simp only [plB, planC, busC, sl, townC, slH, slL, stC, er, ← e0]; simp (maxSteps := 4000000) only [go_sem, seval]
    first | rfl | exact ⟨rfl, rfl⟩
  · intro k hk
    rcases Nat.lt_or_eq_of_le hk with hk1 | hk1
    · have hk3 : k < 3 := by omega
      have hsp := fun (x : AV) (a b c v : Int) => sp_room (x := x) (a := a) (b := b) (c := c) (v := v) hk3
      have e : stC (stBeg t n (k + 1)) = [.int .u8 (stBeg t n k).rest, .int .i64 (if k = 0 then (t.halls.getD k default).room else (stBeg t n k).r0), .int .i64 (if k = 1 then (t.halls.getD k default).room else (stBeg t n k).r1), .int .i64 (if k = 2 then (t.halls.getD k default).room else (stBeg t n k).r2)] := by
        rcases (by omega : k = 0 ∨ k = 1 ∨ k = 2) with rfl | rfl | rfl <;> simp [stBeg, stC]
      rw [e]
      simp only [plB, planC, busC, sl, townC, slH, slL, stC]; simp (maxSteps := 4000000) only [go_sem, seval]
      (repeat' (first
 | ((exfalso; omega))
 | refine awp_seqK ?_
 | refine kt ?_
 | refine And.intro ?_ ?_
 | ((first | refine awp_stp rfl ?_ | refine awp_draw (by kernel_rfl) (by kernel_rfl) ?_ | refine Imp.le2 ?_ | refine go_split (fun _h => ?_) (fun _h => ?_)) <;> try simp (maxSteps := 4000000) only [go_sem, seval, hsp])
 | intro _h
 | refine awp_block ?_
 | refine awp_scope ?_
 | refine cond_b ?_ ?_
 | (show heapOK _ _ = true; kernel_rfl)
 | (show heapOK2 _ _ = true; kernel_rfl)
 | (omega)))
      all_goals trace_state
    · subst hk1
      simp only [plB, planC, busC, sl, townC, slH, slL, stC]; simp (maxSteps := 4000000) only [go_sem, seval]
      (repeat' (first
 | ((exfalso; omega))
 | refine awp_seqK ?_
 | refine kt ?_
 | refine And.intro ?_ ?_
 | ((first | refine awp_stp rfl ?_ | refine awp_draw (by kernel_rfl) (by kernel_rfl) ?_ | refine Imp.le2 ?_ | refine go_split (fun _h => ?_) (fun _h => ?_)) <;> try simp (maxSteps := 4000000) only [go_sem, seval])
 | intro _h
 | refine awp_block ?_
 | refine awp_scope ?_
 | refine cond_b ?_ ?_
 | (show heapOK _ _ = true; kernel_rfl)
 | (show heapOK2 _ _ = true; kernel_rfl)
 | (omega)))
      all_goals trace_state
end Go.Am

/- Plain words: the fewest buses that a state needs, as the program finds them, with a map of what is known. No program is in sight. -/
namespace Go.Am
set_option linter.unusedSimpArgs false
set_option linter.unusedVariables false
def subsR (o m : Nat) : List Nat := subsF o m m
theorem subsR_step {o m : Nat} : subsR o m = m :: if m = 0 then [] else subsR o ((m - 1) &&& o) := by
  unfold subsR
  cases m with
  | zero => simp [subsF]
  | succ k =>
    simp only [subsF, Nat.succ_ne_zero, if_false, Nat.add_one_sub_one]
    have : k &&& o ≤ k := Nat.and_le_left
    rw [subsF_fuel k (k &&& o) (k &&& o) this (Nat.le_refl _)]
theorem subs_R {o : Nat} (h : o < 256) : subs o = subsR o o := subsF_fuel _ _ _ (by omega) (Nat.le_refl _)
/-- The state behind a bus. -/
def toSt (t : Town) (s : Sta) (m i : Nat) : Sta :=
  ⟨ndiff s.rest m, if i = 0 then s.room i - ppl t (lst m) else s.r0, if i = 1 then s.room i - ppl t (lst m) else s.r1, if i = 2 then s.room i - ppl t (lst m) else s.r2⟩
def fitsB (t : Town) (s : Sta) (m i : Nat) : Bool := decide (ppl t (lst m) ≤ s.room i) && mayB t (mkBus t m i)
def hallsL (t : Town) (s : Sta) (m : Nat) : Nat → Nat → List (Bus × Sta)
  | 0, _ => []
  | f + 1, i => if fitsB t s m i = true then (mkBus t m i, toSt t s m i) :: hallsL t s m f (i + 1) else hallsL t s m f (i + 1)
def candL (t : Town) (s : Sta) : List Nat → List (Bus × Sta)
  | [] => []
  | x :: l => hallsL t s (lowB s.rest ||| x) t.halls.length 0 ++ candL t s l
def othB (m : Nat) : Nat := ndiff m (lowB m)
def nextL (t : Town) (s : Sta) : List (Bus × Sta) := candL t s (subsR (othB s.rest) (othB s.rest))
abbrev Kmap := List (Sta × Int)
def foldM (g : Sta → Kmap → Int × Kmap) : List (Bus × Sta) → Int × Kmap → Int × Kmap
  | [], a => a
  | p :: l, a => foldM g l (min a.1 (1 + (g p.2 a.2).1), (g p.2 a.2).2)
def needM (t : Town) : Nat → Sta → Kmap → Int × Kmap
  | 0, _, K => (0, K)
  | f + 1, s, K => if s.rest = 0 then (0, K) else match gmGet K s with
    | some n => (n, K)
    | none => ((foldM (needM t f) (nextL t s) (1000, K)).1, gmPut (foldM (needM t f) (nextL t s) (1000, K)).2 s (foldM (needM t f) (nextL t s) (1000, K)).1)
/-- The same, without a map. -/
def foldV (g : Sta → Int) : List (Bus × Sta) → Int → Int
  | [], a => a
  | p :: l, a => foldV g l (min a (1 + g p.2))
def needF (t : Town) : Nat → Sta → Int
  | 0, _ => 0
  | f + 1, s => if s.rest = 0 then 0 else foldV (needF t f) (nextL t s) 1000
def needV (t : Town) (s : Sta) : Int := needF t (s.rest + 1) s
def GoodK (t : Town) (K : Kmap) : Prop := ∀ s n, gmGet K s = some n → n = needV t s
theorem byteb {p : Nat → Bool} (h : (List.range 256).all p = true) {m : Nat} (hm : m < 256) : p m = true := List.all_eq_true.1 h m (by simpa using hm)
theorem low_pos {m : Nat} (hm : m < 256) (h0 : m ≠ 0) : lowB m ≠ 0 := by
  have := byteb (p := fun m => Nat.beq m 0 || !Nat.beq (lowB m) 0) (by kernel_rfl) hm
  simp only [Bool.or_eq_true, Bool.not_eq_true'] at this
  rcases this with h | h
  · exact absurd (Nat.eq_of_beq_eq_true h) h0
  · intro e; rw [e] at h; cases h
theorem low_and {m : Nat} (hm : m < 256) : lowB m &&& m = lowB m := by
  have := byteb (p := fun m => Nat.beq (Nat.land (lowB m) m) (lowB m)) (by kernel_rfl) hm
  exact Nat.eq_of_beq_eq_true this
theorem sub_le {a b : Nat} (h : a &&& b = a) : a ≤ b := by rw [← h]; exact Nat.and_le_right
theorem oth_and {m : Nat} (hm : m < 256) : othB m &&& m = othB m := by
  unfold othB ndiff
  rw [Nat.and_assoc, Nat.and_comm (255 ^^^ lowB m) m, ← Nat.and_assoc, Nat.and_self]
theorem or_and {a b m : Nat} (ha : a &&& m = a) (hb : b &&& m = b) : (a ||| b) &&& m = a ||| b := by
  rw [Nat.and_or_distrib_right, ha, hb]
theorem and_tr {a b c : Nat} (h1 : a &&& b = a) (h2 : b &&& c = b) : a &&& c = a := by
  rw [← h1, Nat.and_assoc, h2]
theorem mask_sub {m x : Nat} (hm : m < 256) (hx : x &&& othB m = x) : (lowB m ||| x) &&& m = lowB m ||| x := or_and (low_and hm) (and_tr hx (oth_and hm))
/-- What is left is less. -/
theorem ndiff_less {r m : Nat} (hr : r < 256) (h0 : r ≠ 0) (x : Nat) (hm : m = lowB r ||| x) : ndiff r m < r := by
  have h1 : ndiff r m &&& r = ndiff r m := by
    unfold ndiff
    rw [Nat.and_assoc, Nat.and_comm (255 ^^^ m) r, ← Nat.and_assoc, Nat.and_self]
  have h2 := sub_le h1
  have hlow := low_pos hr h0
  obtain ⟨i, hi⟩ := Nat.exists_testBit_of_ne_zero hlow
  have hir : r.testBit i = true := by
    have := low_and hr
    rw [← this, Nat.testBit_and, Bool.and_eq_true] at hi
    exact hi.2
  have hi8 : i < 8 := by
    by_cases h : i < 8
    · exact h
    · rw [Nat.testBit_lt_two_pow (Nat.lt_of_lt_of_le hr (show 2 ^ 8 ≤ 2 ^ i from Nat.pow_le_pow_right (by omega) (by omega)))] at hir
      cases hir
  have h3 : ndiff r m ≠ r := by
    intro e
    have h4 := ndiff_bit (a := r) (b := m) hi8
    rw [e, hm, Nat.testBit_or, hi, hir] at h4
    cases h4
  omega
theorem hallsL_rest {t : Town} {s : Sta} {m : Nat} {p : Bus × Sta} : ∀ f i, p ∈ hallsL t s m f i → p.2.rest = ndiff s.rest m
  | 0, _, h => by simp [hallsL] at h
  | f + 1, i, h => by
    simp only [hallsL] at h
    split at h
    · rcases List.mem_cons.1 h with rfl | h
      · rfl
      · exact hallsL_rest f _ h
    · exact hallsL_rest f _ h
theorem candL_rest {t : Town} {s : Sta} {p : Bus × Sta} (hr : s.rest < 256) (h0 : s.rest ≠ 0) : ∀ l, p ∈ candL t s l → p.2.rest < s.rest
  | [], h => by simp [candL] at h
  | x :: l, h => by
    simp only [candL, List.mem_append] at h
    rcases h with h | h
    · rw [hallsL_rest _ _ h]; exact ndiff_less hr h0 x rfl
    · exact candL_rest hr h0 l h
theorem nextL_rest {t : Town} {s : Sta} {p : Bus × Sta} (hr : s.rest < 256) (h0 : s.rest ≠ 0) (h : p ∈ nextL t s) : p.2.rest < s.rest := candL_rest hr h0 _ h
theorem foldV_congr {g g' : Sta → Int} : ∀ (l : List (Bus × Sta)) (a : Int), (∀ p ∈ l, g p.2 = g' p.2) → foldV g l a = foldV g' l a
  | [], a, _ => rfl
  | p :: l, a, h => by
    simp only [foldV]
    rw [h p (by simp)]
    exact foldV_congr l _ (fun q hq => h q (by simp [hq]))
theorem needF_fuel {t : Town} : ∀ (f g : Nat) (s : Sta), s.rest < 256 → s.rest < f → s.rest < g → needF t f s = needF t g s
  | 0, _, s, _, h, _ => by omega
  | f + 1, 0, s, _, _, h => by omega
  | f + 1, g + 1, s, hr, hf, hg => by
    simp only [needF]
    by_cases h0 : s.rest = 0
    · rw [if_pos h0, if_pos h0]
    · rw [if_neg h0, if_neg h0]
      refine foldV_congr _ _ (fun p hp => ?_)
      have := nextL_rest hr h0 hp
      exact needF_fuel f g p.2 (by omega) (by omega) (by omega)
theorem needV_eq {t : Town} {s : Sta} (hr : s.rest < 256) : needV t s = if s.rest = 0 then 0 else foldV (needV t) (nextL t s) 1000 := by
  have e : needV t s = if s.rest = 0 then 0 else foldV (needF t s.rest) (nextL t s) 1000 := rfl
  rw [e]
  by_cases h0 : s.rest = 0
  · rw [if_pos h0, if_pos h0]
  · rw [if_neg h0, if_neg h0]
    refine foldV_congr _ _ (fun p hp => ?_)
    have := nextL_rest hr h0 hp
    show needF t s.rest p.2 = needF t (p.2.rest + 1) p.2
    exact needF_fuel _ _ _ (by omega) (by omega) (by omega)
theorem foldV_bd {g : Sta → Int} : ∀ (l : List (Bus × Sta)) (a : Int), (∀ p ∈ l, 0 ≤ g p.2) → 0 ≤ a ∧ a ≤ 1000 → 0 ≤ foldV g l a ∧ foldV g l a ≤ 1000
  | [], a, _, h => h
  | p :: l, a, hg, h => by
    simp only [foldV]
    have := hg p (by simp)
    exact foldV_bd l _ (fun q hq => hg q (by simp [hq])) (by omega)
theorem needF_bd {t : Town} : ∀ (f : Nat) (s : Sta), 0 ≤ needF t f s ∧ needF t f s ≤ 1000
  | 0, s => by simp [needF]
  | f + 1, s => by
    simp only [needF]
    split
    · simp
    · exact foldV_bd _ _ (fun p _ => (needF_bd f p.2).1) (by simp)
theorem needV_bd {t : Town} {s : Sta} : 0 ≤ needV t s ∧ needV t s ≤ 1000 := needF_bd _ _
theorem gmGet_put {K : Kmap} {s s' : Sta} {n : Int} : gmGet (gmPut K s n) s' = if s = s' then some n else gmGet K s' := by
  induction K with
  | nil => simp [gmPut, gmGet]
  | cons e K ih =>
    simp only [gmPut]
    by_cases h : e.1 = s
    · subst h
      simp only [if_true, gmGet]
      by_cases h2 : e.1 = s'
      · simp [h2]
      · simp [h2]
    · rw [if_neg h]
      simp only [gmGet]
      by_cases h2 : e.1 = s'
      · subst h2; simp [Ne.symm h]
      · rw [if_neg h2, if_neg h2, ih]
theorem GoodK.put {t : Town} {K : Kmap} {s : Sta} {n : Int} (h : GoodK t K) (hn : n = needV t s) : GoodK t (gmPut K s n) := fun s' n' e => by
  rw [gmGet_put] at e
  by_cases h2 : s = s'
  · subst h2; simp at e; omega
  · rw [if_neg h2] at e; exact h s' n' e
theorem GoodK.nil {t : Town} : GoodK t [] := fun s n e => by simp [gmGet] at e
/-- With the map it is as without it. -/
theorem foldM_good {t : Town} {f : Nat} {r : Nat} (ih : ∀ s K, s.rest < 256 → s.rest < r → GoodK t K → (needM t f s K).1 = needV t s ∧ GoodK t (needM t f s K).2) (hr : r ≤ 256) : ∀ (l : List (Bus × Sta)) (a : Int × Kmap), (∀ p ∈ l, p.2.rest < r) → GoodK t a.2 →
    (foldM (needM t f) l a).1 = foldV (needV t) l a.1 ∧ GoodK t (foldM (needM t f) l a).2
  | [], a, _, h => ⟨rfl, h⟩
  | p :: l, a, hl, h => by
    simp only [foldM, foldV]
    obtain ⟨h1, h2⟩ := ih p.2 a.2 (by have := hl p (by simp); omega) (hl p (by simp)) h
    have := foldM_good ih hr l (min a.1 (1 + (needM t f p.2 a.2).1), (needM t f p.2 a.2).2) (fun q hq => hl q (by simp [hq])) h2
    rw [h1] at this
    rw [h1]; exact this
theorem needM_good {t : Town} : ∀ (f : Nat) (s : Sta) (K : Kmap), s.rest < 256 → s.rest < f → GoodK t K → (needM t f s K).1 = needV t s ∧ GoodK t (needM t f s K).2
  | 0, s, K, _, h, _ => by omega
  | f + 1, s, K, hr, hf, hK => by
    simp only [needM]
    rw [needV_eq hr]
    by_cases h0 : s.rest = 0
    · rw [if_pos h0, if_pos h0]; exact ⟨rfl, hK⟩
    · rw [if_neg h0, if_neg h0]
      cases hg : gmGet K s with
      | some n =>
        have := hK s n hg
        rw [needV_eq hr, if_neg h0] at this
        exact ⟨this, hK⟩
      | none =>
        have := foldM_good (t := t) (f := f) (r := s.rest) (fun s' K' h1 h2 h3 => needM_good f s' K' h1 (by omega) h3) (by omega) (nextL t s) (1000, K) (fun p hp => nextL_rest hr h0 hp) hK
        refine ⟨this.1, this.2.put ?_⟩
        rw [this.1, needV_eq hr, if_neg h0]
end Go.Am

/- Contracts of the away functions: the fewest buses that a state needs. -/
namespace Go.Am
open Go.RowKit Go.Proofs
attribute [local irreducible] AWP CallS Kt goK CallK stepK evOps SemF SemY Imp
set_option maxRecDepth 4000
set_option linter.unusedSimpArgs false
set_option linter.unusedVariables false
set_option maxHeartbeats 1600000
theorem tkb98 : tkb Try.prog 98 = some [false, false, false, false] := by kernel_rfl
theorem keyT {a b c d : Int} : keyOK Try.prog 98 (.agg [.int .u8 a, .int .i64 b, .int .i64 c, .int .i64 d]) := ⟨eqOK 98, tkb98⟩
theorem mup_st {m : Kmap} {s : Sta} {v : Int} {f : List (AV × AV) → Prop} : mupK (kmC m) (.agg [.int .u8 s.rest, .int .i64 s.r0, .int .i64 s.r1, .int .i64 s.r2]) (.int .i64 v) f = f (kmC (gmPut m s v)) := mup_km
structure StOK (t : Town) (s : Sta) : Prop where
  rest : s.rest < 2 ^ t.homes.length
  room : ∀ i, 0 ≤ s.room i ∧ s.room i ≤ 2000
attribute [go_sem] nth_room
theorem next_c (t : Town) (s : Sta) (K : Kmap) : SemF Try.prog 53 [.ptr 0 0 0, .agg (stC s)] [plB t 1, some (.map (kmC K))] (.fn (.func 76) [] [.ptr 3 0 0, .ptr 2 0 0]) [plB t 1, some (.map (kmC K)), some (.cells 93 1 0 [.ptr 0 0 0]), some (.cells 98 1 0 (stC s))] := by
  simp only [plB, planC, busC, sl, townC, slH, slL, stC]
  (refine semF_of_awp (ys := [.fn (.func 76) [] [.ptr 3 0 0, .ptr 2 0 0]]) (fun w args => Try.call53 ..) Try.func53 rfl (fun w0 m0 wz => ?_); simp only [Try.ntmps53, Try.results53, initT, junks, homeC, hallC, slH, slL, townC, sl, List.toList_toArray, List.cons_append, List.nil_append, List.length_cons, List.length_nil, Nat.reduceAdd, Nat.reduceSub])
  (repeat' (first
 | refine awp_seqK ?_
 | refine kt ?_
 | refine And.intro ?_ ?_
 | ((first | refine awp_stp rfl ?_ | refine awp_draw (by kernel_rfl) (by kernel_rfl) ?_ | refine Imp.le2 ?_ | refine go_split (fun _h => ?_) (fun _h => ?_)) <;> try simp (maxSteps := 4000000) only [go_sem, seval])
 | intro _h
 | refine awp_block ?_
 | refine awp_scope ?_
 | refine cond_b ?_ ?_
 | (show heapOK _ _ = true; kernel_rfl)
 | (show heapOK2 _ _ = true; kernel_rfl)
 | (omega)))
def nH (t : Town) (s : Sta) (n : Int) (K : Kmap) : List (Option ABlk) :=
  [plB t 1, some (.map (kmC K)), some (.cells 93 1 0 [.ptr 0 0 0]), some (.cells 100 1 0 [.fn (.func 74) [] [.ptr 2 0 0, .ptr 3 0 0]]), some (.cells 98 1 0 (stC s)), some (.cells 3 1 0 [.int .i64 n]), some (.cells 93 1 0 [.ptr 0 0 0]), some (.cells 98 1 0 (stC s))]
def nT : List AV := mkT 43 [(1, .ptr 2 0 0), (2, .ptr 3 0 0), (3, .ptr 4 0 0), (7, .ptr 5 0 0), (26, .fn (.func 76) [] [.ptr 7 0 0, .ptr 6 0 0])]
def h74 (t : Town) (K : Kmap) : List (Option ABlk) := [plB t 1, some (.map (kmC K)), some (.cells 93 1 0 [.ptr 0 0 0]), some (.cells 100 1 0 [.fn (.func 74) [] [.ptr 2 0 0, .ptr 3 0 0]])]
theorem need_c (t : Town) (ht : TownOK t) : ∀ (f : Nat) (s : Sta) (K : Kmap), StOK t s → s.rest < f → GoodK t K →
    SemF Try.prog 74 [.agg (stC s), .ptr 2 0 0, .ptr 3 0 0] (h74 t K) (.int .i64 (needM t f s K).1) (h74 t (needM t f s K).2) := by
  intro f
  induction f with
  | zero => intro s K _ h _; omega
  | succ f ih =>
    intro s K hs hf hK
    by_cases h0 : s.rest = 0
    · have e : needM t (f + 1) s K = (0, K) := by simp only [needM]; rw [if_pos h0]
      rw [e]
      have e0 : ((s.rest : Int) = 0) = True := eq_true (by omega)
      simp only [h74, plB, planC, busC, sl, townC, slH, slL, stC]
      (refine semF_of_awp (ys := [.int .i64 0]) (fun w args => Try.call74 ..) Try.func74 rfl (fun w0 m0 wz => ?_); simp only [Try.ntmps74, Try.results74, initT, junks, homeC, hallC, slH, slL, townC, sl, List.toList_toArray, List.cons_append, List.nil_append, List.length_cons, List.length_nil, Nat.reduceAdd, Nat.reduceSub])
      (repeat' (first
 | refine awp_seqK ?_
 | refine kt ?_
 | refine And.intro ?_ ?_
 | ((first | refine awp_stp rfl ?_ | refine awp_draw (by kernel_rfl) (by kernel_rfl) ?_ | refine Imp.le2 ?_ | refine go_split (fun _h => ?_) (fun _h => ?_)) <;> try simp (maxSteps := 4000000) only [go_sem, seval, e0, decide_true])
 | intro _h
 | refine awp_block ?_
 | refine awp_scope ?_
 | refine cond_b ?_ ?_
 | (show heapOK _ _ = true; kernel_rfl)
 | (show heapOK2 _ _ = true; kernel_rfl)
 | (omega)))
    · have e0 : ((s.rest : Int) = 0) = False := eq_false (by omega)
      cases hg : gmGet K s with
      | some n =>
        have e : needM t (f + 1) s K = (n, K) := by simp only [needM]; rw [if_neg h0]; simp [hg]
        rw [e]
        have hmg := fun z (f : AV → Bool → Prop) => mget_ks (z := z) (f := f) hg
        simp only [h74, plB, planC, busC, sl, townC, slH, slL, stC] at hmg ⊢
        (refine semF_of_awp (ys := [.int .i64 n]) (fun w args => Try.call74 ..) Try.func74 rfl (fun w0 m0 wz => ?_); simp only [Try.ntmps74, Try.results74, initT, junks, homeC, hallC, slH, slL, townC, sl, List.toList_toArray, List.cons_append, List.nil_append, List.length_cons, List.length_nil, Nat.reduceAdd, Nat.reduceSub])
        (repeat' (first
 | ((show zeroOK _ = true; rfl))
 | ((exact keyT))
 | refine awp_seqK ?_
 | refine kt ?_
 | refine And.intro ?_ ?_
 | ((first | refine awp_stp rfl ?_ | refine awp_draw (by kernel_rfl) (by kernel_rfl) ?_ | refine Imp.le2 ?_ | refine go_split (fun _h => ?_) (fun _h => ?_)) <;> try simp (maxSteps := 4000000) only [go_sem, seval, e0, decide_false, hmg])
 | intro _h
 | refine awp_block ?_
 | refine awp_scope ?_
 | refine cond_b ?_ ?_
 | (show heapOK _ _ = true; kernel_rfl)
 | (show heapOK2 _ _ = true; kernel_rfl)
 | (omega)))
      | none =>
        have hmg := fun z (f : AV → Bool → Prop) => mget_kn (z := z) (f := f) hg
        have e : needM t (f + 1) s K = ((foldM (needM t f) (nextL t s) (1000, K)).1, gmPut (foldM (needM t f) (nextL t s) (1000, K)).2 s (foldM (needM t f) (nextL t s) (1000, K)).1) := by simp only [needM]; rw [if_neg h0]; simp [hg]
        rw [e]
        have hnx := next_c t s K
        have hln := ht.homes
        have hhl := ht.halls
        have hr8 : s.rest < 256 := Nat.lt_of_lt_of_le hs.rest (show 2 ^ t.homes.length ≤ 2 ^ 8 from Nat.pow_le_pow_right (by omega) (by omega))
        have e1 := low_nat hr8
        have e2 : andn s.rest (lowB s.rest : Nat) = ((othB s.rest : Nat) : Int) := andn_nat2 hr8 (lowB_lt hr8)
        generalize hE : foldM (needM t f) (nextL t s) (1000, K) = E
        obtain ⟨nE, KE⟩ := E
        simp only
        simp only [h74, plB, planC, busC, sl, townC, slH, slL, stC] at hmg hnx ⊢
        (refine semF_of_awp (ys := [.int .i64 nE]) (fun w args => Try.call74 ..) Try.func74 rfl (fun w0 m0 wz => ?_); simp only [Try.ntmps74, Try.results74, initT, junks, homeC, hallC, slH, slL, townC, sl, List.toList_toArray, List.cons_append, List.nil_append, List.length_cons, List.length_nil, Nat.reduceAdd, Nat.reduceSub])
        (repeat' (first
 | ((show zeroOK _ = true; rfl))
 | ((exact keyT))
 | (refine awp_ownN 2 rfl ?_; simp (maxSteps := 4000000) only [go_sem, seval, List.take_succ_cons, List.take_zero, e0, decide_false, hmg]; (repeat refine And.intro (by omega) ?_); refine own_go (hnx) [0, 1] rfl ?_ ?_ rfl ?_ <;> try simp (maxSteps := 4000000) only [go_sem, seval, Nat.lt_irrefl, e0, decide_false, hmg] <;> try decide)
 | refine awp_seqK ?_
 | refine kt ?_
 | refine And.intro ?_ ?_
 | ((first | refine awp_stp rfl ?_ | refine awp_draw (by kernel_rfl) (by kernel_rfl) ?_ | refine Imp.le2 ?_ | refine go_split (fun _h => ?_) (fun _h => ?_)) <;> try simp (maxSteps := 4000000) only [go_sem, seval, e0, decide_false, hmg])
 | intro _h
 | refine awp_block ?_
 | refine awp_scope ?_
 | refine cond_b ?_ ?_
 | (show heapOK _ _ = true; kernel_rfl)
 | (show heapOK2 _ _ = true; kernel_rfl)
 | (omega)))
        refine AWP.le2 (s' := ⟨nT, nH t s 1000 K, []⟩) (by simp only [nT, nH, plB, planC, busC, sl, townC, slH, slL, stC]; simp (maxSteps := 4000000) only [go_sem, seval]) ?_
        refine awp_rangeZ (gf := 76) (first := []) (caps := [.ptr 7 0 0, .ptr 6 0 0]) (by simp only [nT]; simp (maxSteps := 4000000) only [go_sem, seval]) 8 rfl ?_
        intro ca cb hca hcb
        refine ⟨.tup [], nH t s nE KE ++ [some (.dfr true), some (.loop .ready none 0 nT #[27, 28] ca cb 8)], .ready, none, .normal, ?_, ?_, by simp, rfl, ?_⟩
        · simp only [nH, nT, plB, planC, busC, sl, townC, slH, slL, stC]
          simp (maxSteps := 4000000) only [go_sem, seval]
          (refine semF_of_awp (ys := []) (fun w args => Try.call76 ..) Try.func76 rfl (fun w0 m0 wz => ?_); simp only [Try.ntmps76, Try.results76, initT, junks, homeC, hallC, slH, slL, townC, sl, List.toList_toArray, List.cons_append, List.nil_append, List.length_cons, List.length_nil, Nat.reduceAdd, Nat.reduceSub])
          (repeat' (first
 | refine awp_seqK ?_
 | refine kt ?_
 | refine And.intro ?_ ?_
 | ((first | refine awp_stp rfl ?_ | refine awp_draw (by kernel_rfl) (by kernel_rfl) ?_ | refine Imp.le2 ?_ | refine go_split (fun _h => ?_) (fun _h => ?_)) <;> try simp (maxSteps := 4000000) only [go_sem, seval, e1, e2])
 | intro _h
 | refine awp_block ?_
 | refine awp_scope ?_
 | refine cond_b ?_ ?_
 | (show heapOK _ _ = true; kernel_rfl)
 | (show heapOK2 _ _ = true; kernel_rfl)
 | (omega)))
          refine awp_loopJ (fun x : Nat × Int × Kmap => x.1 &&& othB s.rest = x.1 ∧ (0 ≤ x.2.1 ∧ x.2.1 ≤ 1000) ∧ GoodK t x.2.2 ∧ foldM (needM t f) (candL t s (subsR (othB s.rest) x.1)) x.2 = (nE, KE))
            (fun x => ⟨mkT 79 [(0, .fn (.yield 9) [] []), (1, .ptr 7 0 0), (2, .ptr 6 0 0), (4, .int .u8 (lowB s.rest : Nat)), (5, .int .u8 (othB s.rest : Nat)), (6, .int .u8 (x.1 : Nat))], nH t s x.2.1 x.2.2 ++ [some (.dfr true), some (.loop .ready none 0 nT #[27, 28] ca cb 8)], []⟩) (fun x => x.1) (othB s.rest, 1000, K) ⟨Nat.and_self _, by simp, hK, hE⟩ (.le2 ?_) ?_
          · simp only [nH, nT, plB, planC, busC, sl, townC, slH, slL, stC]; simp (maxSteps := 4000000) only [go_sem, seval]
            try (first | rfl | exact ⟨rfl, rfl⟩)
          · rintro ⟨x, n, K1⟩ ⟨hx, hn, hK1, hF⟩
            simp only at hx hn hK1 hF
            rw [subsR_step] at hF
            simp only [candL] at hF
            have hx8 : x < 256 := by have := sub_le hx; have := ndiff_lt (b := lowB s.rest) hr8; unfold othB at *; omega
            have hmk := mask_sub hr8 hx
            have hmk2 := sub_le hmk
            have e3 : u8or (lowB s.rest : Nat) (x : Nat) = ((lowB s.rest ||| x : Nat) : Int) := u8or_nat (lowB_lt hr8) hx8
            generalize hM : lowB s.rest ||| x = M at *
            have e4 : andn s.rest M = ((ndiff s.rest M : Nat) : Int) := andn_nat2 hr8 (by omega)
            simp only [nH, nT, plB, planC, busC, sl, townC, slH, slL, stC]; simp (maxSteps := 4000000) only [go_sem, seval]
            (repeat' (first
 | refine awp_seqK ?_
 | refine kt ?_
 | refine And.intro ?_ ?_
 | ((first | refine awp_stp rfl ?_ | refine awp_draw (by kernel_rfl) (by kernel_rfl) ?_ | refine Imp.le2 ?_ | refine go_split (fun _h => ?_) (fun _h => ?_)) <;> try simp (maxSteps := 4000000) only [go_sem, seval])
 | intro _h
 | refine awp_block ?_
 | refine awp_scope ?_
 | refine cond_b ?_ ?_
 | (show heapOK _ _ = true; kernel_rfl)
 | (show heapOK2 _ _ = true; kernel_rfl)
 | (omega)))
            refine awp_loopJ (fun y : Nat × Int × Kmap => y.1 ≤ t.halls.length ∧ (0 ≤ y.2.1 ∧ y.2.1 ≤ 1000) ∧ GoodK t y.2.2 ∧ foldM (needM t f) (hallsL t s M (t.halls.length - y.1) y.1 ++ candL t s (if x = 0 then [] else subsR (othB s.rest) ((x - 1) &&& othB s.rest))) y.2 = (nE, KE))
              (fun y => ⟨mkT 79 [(0, .fn (.yield 9) [] []), (1, .ptr 7 0 0), (2, .ptr 6 0 0), (4, .int .u8 (lowB s.rest : Nat)), (5, .int .u8 (othB s.rest : Nat)), (6, .int .u8 (x : Nat)), (31, .int .i64 t.halls.length), (32, .int .i64 y.1)], nH t s y.2.1 y.2.2 ++ [some (.dfr true), some (.loop .ready none 0 nT #[27, 28] ca cb 8)], []⟩) (fun y => t.halls.length - y.1) (0, n, K1) ⟨Nat.zero_le _, hn, hK1, hF⟩ (.le2 ?_) ?_
            · simp only [nH, nT, plB, planC, busC, sl, townC, slH, slL, stC]; simp (maxSteps := 4000000) only [go_sem, seval]
              try (first | rfl | exact ⟨rfl, rfl⟩)
            · rintro ⟨i, n, K1⟩ ⟨hi, hn, hK1, hF⟩
              simp only at hi hn hK1 hF
              rcases Nat.lt_or_eq_of_le hi with hi1 | hi1
              · rw [show t.halls.length - i = (t.halls.length - (i + 1)) + 1 by omega] at hF
                simp only [hallsL] at hF
                have hmask : M < 2 ^ t.homes.length := by have := hs.rest; omega
                have hbus := bus_c t M i K1 ht hmask
                have hin := lst_in hmask hln.2
                have hl8 : (lst M).length ≤ 8 := lstN_le 8
                have hbI : BusIn t (mkBus t M i) := ⟨hin, ⟨by simp [mkBus], by simp [mkBus]; omega⟩, by have := leaveL_bd ht hin (lst M).length (Nat.le_refl _); simp only [mkBus]; omega, by simp only [mkBus]; omega⟩
                have hpe := people_c t (mkBus t M i) K1 ht hbI.homes hbI.len
                have hma := may_c t (mkBus t M i) K1 ht hbI
                have hpb := pplL_bd ht hin (lst M).length (Nat.le_refl _)
                have hpl : ppl t (mkBus t M i).homes = ppl t (lst M) := rfl
                have hpl2 : pplL t (lst M) (lst M).length = ppl t (lst M) := rfl
                rw [hpl] at hpe
                rw [hpl2] at hpb
                have hfit : fitsB t s M i = (decide (ppl t (lst M) ≤ s.room i) && mayB t (mkBus t M i)) := rfl
                have hrm : (if i = 0 then s.r0 else if i = 1 then s.r1 else s.r2) = s.room i := rfl
                have hrb := hs.room i
                have hi3 : i < 3 := by omega
                have hsp := fun (x : AV) (a b c v : Int) => sp_room (x := x) (a := a) (b := b) (c := c) (v := v) hi3
                have hr0 : (if i = 0 then s.room i - ppl t (lst M) else s.r0) = (toSt t s M i).r0 := rfl
                have hr1 : (if i = 1 then s.room i - ppl t (lst M) else s.r1) = (toSt t s M i).r1 := rfl
                have hr2 : (if i = 2 then s.room i - ppl t (lst M) else s.r2) = (toSt t s M i).r2 := rfl
                have hto : (toSt t s M i).rest = ndiff s.rest M := rfl
                have htl : ndiff s.rest M < s.rest := ndiff_less hr8 h0 x hM.symm
                have hroom : ppl t (lst M) ≤ s.room i → ∀ j, 0 ≤ (toSt t s M i).room j ∧ (toSt t s M i).room j ≤ 2000 := fun h j => by
                  have h1 := hs.room 0
                  have h2 := hs.room 1
                  have h3 := hs.room 2
                  have h4 := hs.room i
                  simp only [toSt, Sta.room] at h h1 h2 h3 h4 ⊢
                  simp only [Nat.succ_ne_zero, if_true, if_false, reduceIte, Nat.reduceEqDiff, Nat.one_ne_zero] at h1 h2 h3
                  rcases (by omega : i = 0 ∨ i = 1 ∨ i = 2) with rfl | rfl | rfl <;> simp at h h4 ⊢ <;> (split <;> (try split) <;> omega)
                rw [← hto] at e4 htl
                clear hpl hpl2
                generalize mkBus t M i = b at *
                generalize toSt t s M i = to at *
                generalize ppl t (lst M) = pp at *
                have key : (pp ≤ s.room i ∧ mayB t b = true ∧ fitsB t s M i = true) ∨ (pp ≤ s.room i ∧ mayB t b = false ∧ fitsB t s M i = false) ∨ (¬ pp ≤ s.room i ∧ fitsB t s M i = false) := by
                  rw [hfit]
                  by_cases h1 : pp ≤ s.room i
                  · cases h2 : mayB t b
                    · exact .inr (.inl ⟨h1, rfl, by simp⟩)
                    · exact .inl ⟨h1, rfl, by simp [h1]⟩
                  · exact .inr (.inr ⟨h1, by simp [h1]⟩)
                rcases key with ⟨k1, k2, k3⟩ | ⟨k1, k2, k3⟩ | ⟨k1, k3⟩
                · rw [if_pos k3] at hF
                  have eR : (pp ≤ s.room i) = True := eq_true k1
                  have hsto : StOK t to := ⟨by rw [hto] at htl ⊢; have := hs.rest; omega, hroom k1⟩
                  have hih := ih to K1 hsto (by omega) hK1
                  obtain ⟨hg1, hg2⟩ := needM_good f to K1 (by omega) (by omega) hK1
                  have hvb := needV_bd (t := t) (s := to)
                  rw [← hg1] at hvb
                  simp only [List.cons_append, foldM] at hF
                  generalize needM t f to K1 = R at *
                  obtain ⟨v, K2⟩ := R
                  simp only at hF hih hg1 hg2 hvb
                  rw [k2] at hma
                  simp only [h74, nH, nT, plB, planC, busC, sl, townC, slH, slL, stC] at hbus hpe hma hih ⊢
                  simp (maxSteps := 4000000) only [go_sem, seval]
                  (repeat' (first
 | (refine awp_ownN 5 rfl ?_; simp (maxSteps := 4000000) only [go_sem, seval, List.take_succ_cons, List.take_zero, e3, e4, hrm, eR, decide_true, hsp, hr0, hr1, hr2]; (repeat refine And.intro (by omega) ?_); refine own_go (hbus) [0, 1] rfl ?_ ?_ rfl ?_ <;> try simp (maxSteps := 4000000) only [go_sem, seval, Nat.lt_irrefl, e3, e4, hrm, eR, decide_true, hsp, hr0, hr1, hr2] <;> try decide)
 | (refine awp_ownN 2 rfl ?_; simp (maxSteps := 4000000) only [go_sem, seval, List.take_succ_cons, List.take_zero, e3, e4, hrm, eR, decide_true, hsp, hr0, hr1, hr2]; (repeat refine And.intro (by omega) ?_); refine own_go (hpe) [0, 1] rfl ?_ ?_ rfl ?_ <;> try simp (maxSteps := 4000000) only [go_sem, seval, Nat.lt_irrefl, e3, e4, hrm, eR, decide_true, hsp, hr0, hr1, hr2] <;> try decide)
 | (refine awp_ownN (id := 9) 9 rfl ?_; simp (maxSteps := 4000000) only [go_sem, seval, List.take_succ_cons, List.take_zero, e3, e4, hrm, eR, decide_true, hsp, hr0, hr1, hr2])
 | (refine own_go (hma) [0, 1] rfl ?_ ?_ rfl ?_ <;> try simp (maxSteps := 4000000) only [go_sem, seval, Nat.lt_irrefl, e3, e4, hrm, eR, decide_true, hsp, hr0, hr1, hr2] <;> try decide)
 | ((exfalso; omega))
 | ((refine awp_ownN 3 rfl ?_; simp (maxSteps := 4000000) only [go_sem, seval, List.take_succ_cons, List.take_zero]; refine callH_yield true (nH t s (min n (1 + v)) K2 ++ [some (.dfr true), some (.loop .ready none 0 nT #[27, 28] ca cb 8), some (.cells 48 1 0 (busC b)), some (.cells 98 1 0 (stC to))]) ?_ ?_ <;> simp only [nH, nT, plB, planC, busC, sl, townC, slH, slL, stC] <;> (try simp (maxSteps := 4000000) only [go_sem, seval])))
 | refine awp_seqK ?_
 | refine kt ?_
 | refine And.intro ?_ ?_
 | ((first | refine awp_stp rfl ?_ | refine awp_draw (by kernel_rfl) (by kernel_rfl) ?_ | refine Imp.le2 ?_ | refine go_split (fun _h => ?_) (fun _h => ?_)) <;> try simp (maxSteps := 4000000) only [go_sem, seval, e3, e4, hrm, eR, decide_true, hsp, hr0, hr1, hr2])
 | intro _h
 | refine awp_block ?_
 | refine awp_scope ?_
 | refine cond_b ?_ ?_
 | (show heapOK _ _ = true; kernel_rfl)
 | (show heapOK2 _ _ = true; kernel_rfl)
 | (omega)))
                  · refine semY_of_awpZ rfl rfl ?_
                    intro B w0 l m w
                    refine awp_code hca ?_
                    (repeat' (first
 | refine awp_seqK ?_
 | refine kt ?_
 | refine And.intro ?_ ?_
 | ((first | refine awp_stp rfl ?_ | refine awp_draw (by kernel_rfl) (by kernel_rfl) ?_ | refine Imp.le2 ?_ | refine go_split (fun _h => ?_) (fun _h => ?_)) <;> try simp (maxSteps := 4000000) only [go_sem, seval])
 | intro _h
 | refine awp_block ?_
 | refine awp_scope ?_
 | refine cond_b ?_ ?_
 | (show heapOK _ _ = true; kernel_rfl)
 | (show heapOK2 _ _ = true; kernel_rfl)
 | (omega)))
                    refine awp_code hcb ?_
                    (repeat' (first
 | refine awp_seqK ?_
 | refine kt ?_
 | refine And.intro ?_ ?_
 | ((first | refine awp_stp rfl ?_ | refine Imp.le2 ?_ | refine go_split (fun _h => ?_) (fun _h => ?_)) <;> try simp (maxSteps := 4000000) only [go_sem, seval])
 | intro _h
 | refine awp_block ?_
 | refine awp_scope ?_
 | refine cond_b ?_ ?_
 | (show heapOK _ _ = true; kernel_rfl)
 | (show heapOK2 _ _ = true; kernel_rfl)
 | (omega)))
                    ((repeat refine awp_seqK ?_); refine awp_draws [(3, [1])] (by kernel_rfl) (by kernel_rfl) ?_; simp (maxSteps := 4000000) only [go_sem, seval, sg_cons, sg_nil, List.take_succ_cons, List.take_zero, List.drop_succ_cons, List.drop_zero])
                    (refine own_go (hih) [0, 1, 2, 3] rfl (by simp (maxSteps := 4000000) only [go_sem, seval]) (by simp (maxSteps := 4000000) only [go_sem, seval, Nat.lt_irrefl] <;> decide) rfl ?_; simp (maxSteps := 4000000) only [go_sem, seval]; refine And.intro (frm_of (by repeat (first | exact rfl | exact ⟨_, rfl⟩ | refine And.intro ?_ ?_))) ?_; try simp (maxSteps := 4000000) only [go_sem, seval, sg_cons, sg_nil, List.take_succ_cons, List.take_zero, List.drop_succ_cons, List.drop_zero])
                    (repeat' (first
 | refine awp_seqK ?_
 | refine kt ?_
 | refine And.intro ?_ ?_
 | ((first | refine awp_stp rfl ?_ | refine awp_draw (by kernel_rfl) (by kernel_rfl) ?_ | refine Imp.le2 ?_ | refine callK_of (earliest_c _ _ _) ?_ | refine go_split (fun _h => ?_) (fun _h => ?_)) <;> try simp (maxSteps := 4000000) only [go_sem, seval])
 | intro _h
 | refine awp_block ?_
 | refine awp_scope ?_
 | refine cond_b ?_ ?_
 | (show heapOK _ _ = true; kernel_rfl)
 | (show heapOK2 _ _ = true; kernel_rfl)
 | (omega)))
                  · refine ⟨(i + 1, min n (1 + v), K2), ⟨by simp only; omega, by simp only; omega, hg2, hF⟩, by simp only; omega, .le2 ?_⟩
                    simp only [nH, nT, plB, planC, busC, sl, townC, slH, slL, stC]; simp (maxSteps := 4000000) only [go_sem, seval]
                    try (first | rfl | exact ⟨rfl, rfl⟩)
                · rw [if_neg (by rw [k3]; simp)] at hF
                  have eR : (pp ≤ s.room i) = True := eq_true k1
                  rw [k2] at hma
                  simp only [nH, nT, plB, planC, busC, sl, townC, slH, slL, stC] at hbus hpe hma ⊢
                  simp (maxSteps := 4000000) only [go_sem, seval]
                  (repeat' (first
 | (refine awp_ownN 5 rfl ?_; simp (maxSteps := 4000000) only [go_sem, seval, List.take_succ_cons, List.take_zero, e3, e4, hrm, eR, decide_true]; (repeat refine And.intro (by omega) ?_); refine own_go (hbus) [0, 1] rfl ?_ ?_ rfl ?_ <;> try simp (maxSteps := 4000000) only [go_sem, seval, Nat.lt_irrefl, e3, e4, hrm, eR, decide_true] <;> try decide)
 | (refine awp_ownN 2 rfl ?_; simp (maxSteps := 4000000) only [go_sem, seval, List.take_succ_cons, List.take_zero, e3, e4, hrm, eR, decide_true]; (repeat refine And.intro (by omega) ?_); refine own_go (hpe) [0, 1] rfl ?_ ?_ rfl ?_ <;> try simp (maxSteps := 4000000) only [go_sem, seval, Nat.lt_irrefl, e3, e4, hrm, eR, decide_true] <;> try decide)
 | (refine awp_ownN (id := 9) 9 rfl ?_; simp (maxSteps := 4000000) only [go_sem, seval, List.take_succ_cons, List.take_zero, e3, e4, hrm, eR, decide_true])
 | (refine own_go (hma) [0, 1] rfl ?_ ?_ rfl ?_ <;> try simp (maxSteps := 4000000) only [go_sem, seval, Nat.lt_irrefl, e3, e4, hrm, eR, decide_true] <;> try decide)
 | ((exfalso; omega))
 | refine awp_seqK ?_
 | refine kt ?_
 | refine And.intro ?_ ?_
 | ((first | refine awp_stp rfl ?_ | refine awp_draw (by kernel_rfl) (by kernel_rfl) ?_ | refine Imp.le2 ?_ | refine go_split (fun _h => ?_) (fun _h => ?_)) <;> try simp (maxSteps := 4000000) only [go_sem, seval, e3, e4, hrm, eR, decide_true])
 | intro _h
 | refine awp_block ?_
 | refine awp_scope ?_
 | refine cond_b ?_ ?_
 | (show heapOK _ _ = true; kernel_rfl)
 | (show heapOK2 _ _ = true; kernel_rfl)
 | (omega)))
                  refine ⟨(i + 1, n, K1), ⟨by simp only; omega, hn, hK1, hF⟩, by simp only; omega, .le2 ?_⟩
                  simp only [nH, nT, plB, planC, busC, sl, townC, slH, slL, stC]; simp (maxSteps := 4000000) only [go_sem, seval]
                  try (first | rfl | exact ⟨rfl, rfl⟩)
                · rw [if_neg (by rw [k3]; simp)] at hF
                  have eR : (pp ≤ s.room i) = False := eq_false k1
                  simp only [nH, nT, plB, planC, busC, sl, townC, slH, slL, stC] at hbus hpe hma ⊢
                  simp (maxSteps := 4000000) only [go_sem, seval]
                  (repeat' (first
 | (refine awp_ownN 5 rfl ?_; simp (maxSteps := 4000000) only [go_sem, seval, List.take_succ_cons, List.take_zero, e3, e4, hrm, eR, decide_false]; (repeat refine And.intro (by omega) ?_); refine own_go (hbus) [0, 1] rfl ?_ ?_ rfl ?_ <;> try simp (maxSteps := 4000000) only [go_sem, seval, Nat.lt_irrefl, e3, e4, hrm, eR, decide_false] <;> try decide)
 | (refine awp_ownN 2 rfl ?_; simp (maxSteps := 4000000) only [go_sem, seval, List.take_succ_cons, List.take_zero, e3, e4, hrm, eR, decide_false]; (repeat refine And.intro (by omega) ?_); refine own_go (hpe) [0, 1] rfl ?_ ?_ rfl ?_ <;> try simp (maxSteps := 4000000) only [go_sem, seval, Nat.lt_irrefl, e3, e4, hrm, eR, decide_false] <;> try decide)
 | ((exfalso; omega))
 | refine awp_seqK ?_
 | refine kt ?_
 | refine And.intro ?_ ?_
 | ((first | refine awp_stp rfl ?_ | refine awp_draw (by kernel_rfl) (by kernel_rfl) ?_ | refine Imp.le2 ?_ | refine go_split (fun _h => ?_) (fun _h => ?_)) <;> try simp (maxSteps := 4000000) only [go_sem, seval, e3, e4, hrm, eR, decide_false])
 | intro _h
 | refine awp_block ?_
 | refine awp_scope ?_
 | refine cond_b ?_ ?_
 | (show heapOK _ _ = true; kernel_rfl)
 | (show heapOK2 _ _ = true; kernel_rfl)
 | (omega)))
                  refine ⟨(i + 1, n, K1), ⟨by simp only; omega, hn, hK1, hF⟩, by simp only; omega, .le2 ?_⟩
                  simp only [nH, nT, plB, planC, busC, sl, townC, slH, slL, stC]; simp (maxSteps := 4000000) only [go_sem, seval]
                  try (first | rfl | exact ⟨rfl, rfl⟩)
              · subst hi1
                rw [Nat.sub_self] at hF
                simp only [hallsL, List.nil_append] at hF
                by_cases hx0 : x = 0
                · subst hx0
                  rw [if_pos rfl] at hF
                  simp only [candL, foldM, Prod.mk.injEq] at hF
                  obtain ⟨rfl, rfl⟩ := hF
                  simp only [nH, nT, plB, planC, busC, sl, townC, slH, slL, stC]; simp (maxSteps := 4000000) only [go_sem, seval]
                  (repeat' (first
 | ((exfalso; omega))
 | refine awp_seqK ?_
 | refine kt ?_
 | refine And.intro ?_ ?_
 | ((first | refine awp_stp rfl ?_ | refine awp_draw (by kernel_rfl) (by kernel_rfl) ?_ | refine Imp.le2 ?_ | refine go_split (fun _h => ?_) (fun _h => ?_)) <;> try simp (maxSteps := 4000000) only [go_sem, seval])
 | intro _h
 | refine awp_block ?_
 | refine awp_scope ?_
 | refine cond_b ?_ ?_
 | (show heapOK _ _ = true; kernel_rfl)
 | (show heapOK2 _ _ = true; kernel_rfl)
 | (omega)))
                  all_goals trace_state
                · rw [if_neg hx0] at hF
                  have eX : ((x : Int) = 0) = False := eq_false (by omega)
                  have e5 : IntKind.u8.wrap ((x : Int) - 1) = ((x - 1 : Nat) : Int) := sub_nat hx8 hx0
                  have e6 : u8and ((x - 1 : Nat) : Int) (othB s.rest : Nat) = (((x - 1) &&& othB s.rest : Nat) : Int) := u8and_nat (by omega) (ndiff_lt hr8)
                  simp only [nH, nT, plB, planC, busC, sl, townC, slH, slL, stC]; simp (maxSteps := 4000000) only [go_sem, seval]
                  (repeat' (first
 | ((exfalso; omega))
 | refine awp_seqK ?_
 | refine kt ?_
 | refine And.intro ?_ ?_
 | ((first | refine awp_stp rfl ?_ | refine awp_draw (by kernel_rfl) (by kernel_rfl) ?_ | refine Imp.le2 ?_ | refine go_split (fun _h => ?_) (fun _h => ?_)) <;> try simp (maxSteps := 4000000) only [go_sem, seval, eX, e5, e6, decide_false])
 | intro _h
 | refine awp_block ?_
 | refine awp_scope ?_
 | refine cond_b ?_ ?_
 | (show heapOK _ _ = true; kernel_rfl)
 | (show heapOK2 _ _ = true; kernel_rfl)
 | (omega)))
                  have hax : (x - 1) &&& othB s.rest ≤ x - 1 := Nat.and_le_left
                  refine ⟨((x - 1) &&& othB s.rest, n, K1), ⟨by simp only; rw [Nat.and_assoc, Nat.and_self], hn, hK1, hF⟩, by simp only; omega, .le2 ?_⟩
                  simp only [nH, nT, plB, planC, busC, sl, townC, slH, slL, stC]; simp (maxSteps := 4000000) only [go_sem, seval]
                  try (first | rfl | exact ⟨rfl, rfl⟩)
        · rfl
        · simp only [nH, nT, plB, planC, busC, sl, townC, slH, slL, stC]
          simp (maxSteps := 4000000) only [go_sem, seval]
          (repeat' (first
 | ((exact keyT))
 | refine awp_seqK ?_
 | refine kt ?_
 | refine And.intro ?_ ?_
 | ((first | refine awp_stp rfl ?_ | refine awp_draw (by kernel_rfl) (by kernel_rfl) ?_ | refine Imp.le2 ?_ | refine go_split (fun _h => ?_) (fun _h => ?_)) <;> try simp (maxSteps := 4000000) only [go_sem, seval, mup_st])
 | intro _h
 | refine awp_block ?_
 | refine awp_scope ?_
 | refine cond_b ?_ ?_
 | (show heapOK _ _ = true; kernel_rfl)
 | (show heapOK2 _ _ = true; kernel_rfl)
 | (omega)))
          all_goals trace_state
end Go.Am

/- Contracts of the away functions: the fewest buses from a state on; a plan, in plain words. -/
namespace Go.Am
open Go.RowKit Go.Proofs
attribute [local irreducible] AWP CallS Kt goK CallK stepK evOps SemF SemY Imp
set_option maxRecDepth 4000
set_option linter.unusedSimpArgs false
set_option linter.unusedVariables false
set_option maxHeartbeats 1600000
theorem StOK.lt {t : Town} {s : Sta} (h : StOK t s) (ht : TownOK t) : s.rest < 256 := by
  have := ht.homes
  exact Nat.lt_of_lt_of_le h.rest (show 2 ^ t.homes.length ≤ 2 ^ 8 from Nat.pow_le_pow_right (by omega) (by omega))
/-- What is known behind a search. -/
def fwK (t : Town) (s : Sta) (K : Kmap) : Kmap := (needM t (s.rest + 1) s K).2
theorem fwK_good {t : Town} {s : Sta} {K : Kmap} (h : s.rest < 256) (hK : GoodK t K) : GoodK t (fwK t s K) := (needM_good _ s K h (Nat.lt_succ_self _) hK).2
theorem fewest_c (t : Town) (ht : TownOK t) (s : Sta) (K : Kmap) (hs : StOK t s) (hK : GoodK t K) :
    SemF Try.prog 52 [.ptr 0 0 0, .agg (stC s)] [plB t 1, some (.map (kmC K))] (.int .i64 (needV t s)) [plB t 1, some (.map (kmC (fwK t s K)))] := by
  have h := need_c t ht (s.rest + 1) s K hs (Nat.lt_succ_self _) hK
  rw [(needM_good (t := t) (s.rest + 1) s K (hs.lt ht) (Nat.lt_succ_self _) hK).1] at h
  have e : (needM t (s.rest + 1) s K).2 = fwK t s K := rfl
  rw [e] at h
  generalize fwK t s K = K2 at *
  generalize needV t s = n at *
  simp only [h74, plB, planC, busC, sl, townC, slH, slL, stC] at h ⊢
  (refine semF_of_awp (ys := [.int .i64 n]) (fun w args => Try.call52 ..) Try.func52 rfl (fun w0 m0 wz => ?_); simp only [Try.ntmps52, Try.results52, initT, junks, homeC, hallC, slH, slL, townC, sl, List.toList_toArray, List.cons_append, List.nil_append, List.length_cons, List.length_nil, Nat.reduceAdd, Nat.reduceSub])
  (repeat' (first
 | (refine awp_ownN 2 rfl ?_; simp (maxSteps := 4000000) only [go_sem, seval, List.take_succ_cons, List.take_zero]; (repeat refine And.intro (by omega) ?_); refine own_go (h) [0, 1, 2, 4] rfl ?_ ?_ rfl ?_ <;> try simp (maxSteps := 4000000) only [go_sem, seval, Nat.lt_irrefl] <;> try decide)
 | refine awp_seqK ?_
 | refine kt ?_
 | refine And.intro ?_ ?_
 | ((first | refine awp_stp rfl ?_ | refine awp_draw (by kernel_rfl) (by kernel_rfl) ?_ | refine Imp.le2 ?_ | refine go_split (fun _h => ?_) (fun _h => ?_)) <;> try simp (maxSteps := 4000000) only [go_sem, seval])
 | intro _h
 | refine awp_block ?_
 | refine awp_scope ?_
 | refine cond_b ?_ ?_
 | (show heapOK _ _ = true; kernel_rfl)
 | (show heapOK2 _ _ = true; kernel_rfl)
 | (omega)))
/-- The first bus of a plan with the fewest buses, as the program looks for it. -/
def findM (t : Town) (s : Sta) : List (Bus × Sta) → Kmap → Option (Bus × Sta) × Kmap
  | [], K => (none, K)
  | p :: l, K => if needV t s = 1 + needV t p.2 then (some p, fwK t p.2 (fwK t s K)) else findM t s l (fwK t p.2 (fwK t s K))
def planF (t : Town) : Nat → Sta → List Bus
  | 0, _ => []
  | f + 1, s => if s.rest = 0 then [] else match (nextL t s).find? (fun p => decide (needV t s = 1 + needV t p.2)) with
    | some p => p.1 :: planF t f p.2
    | none => []
theorem planF_le {t : Town} : ∀ (f : Nat) (s : Sta), (planF t f s).length ≤ f
  | 0, s => by simp [planF]
  | f + 1, s => by
    simp only [planF]
    split
    · simp
    · split
      · have := planF_le (t := t) f
        rename_i p _
        have := this p.2
        simp; omega
      · simp
theorem findM_find {t : Town} {s : Sta} : ∀ (l : List (Bus × Sta)) (K : Kmap), (findM t s l K).1 = l.find? (fun p => decide (needV t s = 1 + needV t p.2))
  | [], K => rfl
  | p :: l, K => by
    simp only [findM, List.find?_cons]
    by_cases h : needV t s = 1 + needV t p.2
    · simp [h]
    · simp [h, findM_find l]
theorem findM_good {t : Town} {s : Sta} (hr : s.rest < 256) : ∀ (l : List (Bus × Sta)) (K : Kmap), (∀ p ∈ l, p.2.rest < 256) → GoodK t K → GoodK t (findM t s l K).2
  | [], K, _, h => h
  | p :: l, K, hl, h => by
    have h1 := fwK_good (hl p (by simp)) (fwK_good hr h)
    simp only [findM]
    split
    · exact h1
    · exact findM_good hr l _ (fun q hq => hl q (by simp [hq])) h1
theorem foldV_att {g : Sta → Int} : ∀ (l : List (Bus × Sta)) (a : Int), foldV g l a = a ∨ ∃ p ∈ l, foldV g l a = 1 + g p.2
  | [], a => .inl rfl
  | p :: l, a => by
    simp only [foldV]
    rcases foldV_att (g := g) l (min a (1 + g p.2)) with h | ⟨q, hq, h⟩
    · by_cases h2 : a ≤ 1 + g p.2
      · left; rw [h]; omega
      · right; exact ⟨p, by simp, by rw [h]; omega⟩
    · exact .inr ⟨q, by simp [hq], h⟩
theorem find_some {t : Town} {s : Sta} (hr : s.rest < 256) (h0 : s.rest ≠ 0) (h : needV t s < 1000) : ∃ p, (nextL t s).find? (fun p => decide (needV t s = 1 + needV t p.2)) = some p ∧ p ∈ nextL t s ∧ needV t s = 1 + needV t p.2 := by
  have e := needV_eq (t := t) hr
  rw [if_neg h0] at e
  rcases foldV_att (g := needV t) (nextL t s) 1000 with h1 | ⟨p, hp, h1⟩
  · omega
  · cases hf : (nextL t s).find? (fun p => decide (needV t s = 1 + needV t p.2)) with
    | none =>
      rw [List.find?_eq_none] at hf
      exact absurd (decide_eq_true (by rw [e, h1])) (hf p hp)
    | some q =>
      have h2 := List.find?_some hf
      exact ⟨q, rfl, List.mem_of_find?_eq_some hf, of_decide_eq_true h2⟩
theorem hallsL_st {t : Town} {s : Sta} {m : Nat} {p : Bus × Sta} : ∀ f i, p ∈ hallsL t s m f i → ∃ j, i ≤ j ∧ j < i + f ∧ fitsB t s m j = true ∧ p = (mkBus t m j, toSt t s m j)
  | 0, _, h => by simp [hallsL] at h
  | f + 1, i, h => by
    simp only [hallsL] at h
    split at h
    · rename_i hf
      rcases List.mem_cons.1 h with rfl | h
      · exact ⟨i, by omega, by omega, hf, rfl⟩
      · obtain ⟨j, h1, h2, h3⟩ := hallsL_st f _ h
        exact ⟨j, by omega, by omega, h3⟩
    · obtain ⟨j, h1, h2, h3⟩ := hallsL_st f _ h
      exact ⟨j, by omega, by omega, h3⟩
theorem hallsL_mem {t : Town} {s : Sta} {m j : Nat} : ∀ f i, i ≤ j → j < i + f → fitsB t s m j = true → (mkBus t m j, toSt t s m j) ∈ hallsL t s m f i
  | 0, i, h1, h2, _ => by omega
  | f + 1, i, h1, h2, h3 => by
    simp only [hallsL]
    by_cases e : i = j
    · subst e; rw [if_pos h3]; simp
    · split
      · exact List.mem_cons_of_mem _ (hallsL_mem f _ (by omega) (by omega) h3)
      · exact hallsL_mem f _ (by omega) (by omega) h3
theorem candL_mem {t : Town} {s : Sta} {p : Bus × Sta} : ∀ l, p ∈ candL t s l ↔ ∃ x ∈ l, p ∈ hallsL t s (lowB s.rest ||| x) t.halls.length 0
  | [] => by simp [candL]
  | x :: l => by simp [candL, candL_mem l]
theorem nextL_mem {t : Town} {s : Sta} {p : Bus × Sta} (hr : s.rest < 256) : p ∈ nextL t s ↔ ∃ x j, x &&& othB s.rest = x ∧ j < t.halls.length ∧ fitsB t s (lowB s.rest ||| x) j = true ∧ p = (mkBus t (lowB s.rest ||| x) j, toSt t s (lowB s.rest ||| x) j) := by
  have ho : othB s.rest < 256 := ndiff_lt hr
  unfold nextL
  rw [candL_mem]
  constructor
  · rintro ⟨x, hx, hp⟩
    rw [← subs_R ho, subs_mem ho] at hx
    obtain ⟨j, h1, h2, h3, h4⟩ := hallsL_st _ _ hp
    exact ⟨x, j, hx, by omega, h3, h4⟩
  · rintro ⟨x, j, hx, hj, hf, rfl⟩
    exact ⟨x, by rw [← subs_R ho, subs_mem ho]; exact hx, hallsL_mem _ _ (by omega) (by omega) hf⟩
theorem toSt_ok {t : Town} {s : Sta} {x i : Nat} (ht : TownOK t) (hs : StOK t s) (h0 : s.rest ≠ 0) (hx : x &&& othB s.rest = x) (hi : i < t.halls.length) (hf : fitsB t s (lowB s.rest ||| x) i = true) : StOK t (toSt t s (lowB s.rest ||| x) i) := by
  have hr := hs.lt ht
  have hl := ndiff_less hr h0 x rfl
  have hmk := sub_le (mask_sub hr hx)
  have hmask : (lowB s.rest ||| x) < 2 ^ t.homes.length := by have := hs.rest; omega
  have hpb := pplL_bd ht (lst_in hmask ht.homes.2) _ (Nat.le_refl _)
  have hi3 := ht.halls
  refine ⟨by show ndiff s.rest (lowB s.rest ||| x) < _; have := hs.rest; omega, fun j => ?_⟩
  simp only [fitsB, Bool.and_eq_true, decide_eq_true_eq] at hf
  have h := hf.1
  have hpp : 0 ≤ ppl t (lst (lowB s.rest ||| x)) := hpb.1
  simp only [toSt]
  generalize ppl t (lst (lowB s.rest ||| x)) = pp at *
  have h1 := hs.room 0
  have h2 := hs.room 1
  have h3 := hs.room 2
  have h4 := hs.room i
  simp only [Sta.room] at h h1 h2 h3 h4 ⊢
  simp only [Nat.succ_ne_zero, if_true, if_false, reduceIte, Nat.reduceEqDiff, Nat.one_ne_zero] at h1 h2 h3
  rcases (by omega : i = 0 ∨ i = 1 ∨ i = 2) with rfl | rfl | rfl <;> simp at h h4 ⊢ <;> (repeat' split) <;> omega
theorem pl_B {l : List Bus} : pureL (recs busC l) = True := eq_true (recs_pure fun s => by simp [pureL, busC, sl, cellPure])
theorem lv_B {l : List Bus} {p : Nat → Bool} : (recs busC l).all (live2 p) = true := recs_live fun s => by simp [pureL, busC, sl, cellPure]
theorem len_B {l : List Bus} : (recs busC l).length = l.length * 3 := recs_length fun _ => rfl
attribute [go_sem] pl_B lv_B len_B
def slB (l : List Bus) : AV := .psl false l.length (recs busC l)
end Go.Am

/- Lists that are known to be full, and lists: contracts say less of them. -/
namespace Go.Am
open Go.RowKit
set_option linter.unusedSimpArgs false
set_option linter.unusedVariables false
/-- Lists that are known to be full, and lists. -/
inductive Deep : AV → AV → Prop
  | refl (x : AV) : Deep x x
  | psl {f f' : Bool} {n : Nat} {xs ys : List AV} (hf : f' = true → f = true) (hl : xs.length = ys.length) (h : ∀ j (a : j < xs.length) (b : j < ys.length), Deep xs[j] ys[j]) : Deep (.psl f n xs) (.psl f' n ys)
  | agg {xs ys : List AV} (hl : xs.length = ys.length) (h : ∀ j (a : j < xs.length) (b : j < ys.length), Deep xs[j] ys[j]) : Deep (.agg xs) (.agg ys)
theorem prep_deep {ok : Nat → Prop} {w : World} {x y : AV} (d : Deep x y) : ∀ {v : Value}, PRep ok w x v → PRep ok w y v := by
  induction d with
  | refl x => exact fun p => p
  | psl hf hl h ih =>
    intro v p
    cases p with
    | psle h1 h2 h3 =>
      have e := List.eq_nil_of_length_eq_zero hl.symm
      subst e
      exact .psle h1 (fun e => h2 (hf e)) h3
    | psl vs h1 h2 hok hc hr =>
      exact .psl vs h1 (fun e => h2 (hf e)) hok (fun j hj => hc j (by omega)) (fun j hj => ih j (by omega) hj (hr j (by omega)))
  | agg hl h ih =>
    intro v p
    cases p with
    | agg us h1 ho r1 => exact .agg us (by omega) ho (fun j a b => ih j (by omega) a (r1 j (by omega) b))
/-- Lists of values, one by one. -/
def deepL : List AV → List AV → Prop
  | [], [] => True
  | x :: xs, y :: ys => Deep x y ∧ deepL xs ys
  | _, _ => False
theorem deepL_spec : ∀ {xs ys : List AV}, deepL xs ys → xs.length = ys.length ∧ ∀ j (a : j < xs.length) (b : j < ys.length), Deep xs[j] ys[j]
  | [], [], _ => ⟨rfl, fun j a => by simp at a⟩
  | x :: xs, y :: ys, h => by
    obtain ⟨h1, h2⟩ := h
    obtain ⟨h3, h4⟩ := deepL_spec h2
    refine ⟨by simp [h3], fun j a b => ?_⟩
    cases j with
    | zero => exact h1
    | succ j => exact h4 j (by simpa using a) (by simpa using b)
  | [], _ :: _, h => h.elim
  | _ :: _, [], h => h.elim
theorem deep_psl {f : Bool} {n : Nat} {xs ys : List AV} (h : deepL xs ys) : Deep (.psl f n xs) (.psl false n ys) := .psl (fun e => by cases e) (deepL_spec h).1 (deepL_spec h).2
theorem deep_agg {xs ys : List AV} (h : deepL xs ys) : Deep (.agg xs) (.agg ys) := .agg (deepL_spec h).1 (deepL_spec h).2
theorem CallS.deep {P : Program} {f : FuncId} {xs ys : List AV} {r : AV} (h : CallS P f ys r) (hs : deepL xs ys) : CallS P f xs r :=
  ⟨h.1, fun w vs ok h1 h2 h3 => h.2 w vs ok h1 ((deepL_spec hs).1.symm.trans h2) fun j a b => prep_deep ((deepL_spec hs).2 j (by rw [(deepL_spec hs).1]; exact a) a) (h3 j (by rw [(deepL_spec hs).1]; exact a) b)⟩
end Go.Am

/- Contracts of the away functions: whether a plan is right. -/
namespace Go.Am
open Go.RowKit Go.Proofs
attribute [local irreducible] AWP CallS Kt goK CallK stepK evOps SemF SemY Imp
set_option maxRecDepth 4000
set_option linter.unusedSimpArgs false
set_option linter.unusedVariables false
set_option maxHeartbeats 3200000
theorem eqB {K : AV → Prop} {x y : Bool} : binK Try.prog .eql 4 (.bool x) (.bool y) K = K (.bool (decide (x = y))) := by
  have h : Try.prog.underlying 4 = some .bool := Try.underlying4
  simp only [binK, h, true_and]
  congr 2
attribute [go_sem high] eqB
theorem ld_B48 {l : List Bus} {i : Nat} {K : AV → Prop} : loadK Try.prog 48 (recs busC l) (i * 3) K = (i < l.length ∧ K (.agg (busC (l.getD i default)))) := ld_recs tagg48 tsz48 (fun _ => rfl) (by omega)
theorem ld_B49 {l : List Bus} {i : Nat} {K : AV → Prop} : loadK Try.prog 49 (recs busC l) (i * 3) K = (i < l.length ∧ K (.agg (busC (l.getD i default)))) := ld_recs tagg49 tsz49 (fun _ => rfl) (by omega)
attribute [go_sem ↓] ld_B48 ld_B49
theorem rl_bools {σ : Nat → Nat} {l : List Bool} : renL σ (bools l) = bools l := by
  rw [renL_map, bools, List.map_map]
  exact List.map_congr_left fun a _ => rfl
theorem rfl_bools {p : Nat → Prop} : ∀ {l : List Bool}, refsL p (bools l) = True
  | [] => by simp [bools, refsL]
  | b :: l => by
    have := rfl_bools (p := p) (l := l)
    simp only [bools] at this
    simp [bools, refsL, refs, this]
attribute [go_sem] rl_bools rfl_bools
theorem idxF_c (l : List Bool) (g : Nat) (hl : l.length ≤ 1000000) : SemF Try.prog 101 [.osl 0 g 0 l.length, .bool false] [some (.cells 4 1 g (bools l))] (.int .i64 (idxOf (fun x => !x) l)) [some (.cells 4 1 g (bools l))] := by
  (refine semF_of_awp (ys := [.int .i64 (idxOf (fun x => !x) l)]) (fun w args => Try.call101 ..) Try.func101 rfl (fun w0 m0 wz => ?_); simp only [Try.ntmps101, Try.results101, initT, junks, homeC, hallC, slH, slL, townC, sl, List.toList_toArray, List.cons_append, List.nil_append, List.length_cons, List.length_nil, Nat.reduceAdd, Nat.reduceSub])
  (repeat' (first
 | refine awp_seqK ?_
 | refine kt ?_
 | refine And.intro ?_ ?_
 | ((first | refine awp_stp rfl ?_ | refine awp_draw (by kernel_rfl) (by kernel_rfl) ?_ | refine Imp.le2 ?_ | refine go_split (fun _h => ?_) (fun _h => ?_)) <;> try simp (maxSteps := 4000000) only [go_sem, seval])
 | intro _h
 | refine awp_block ?_
 | refine awp_scope ?_
 | refine cond_b ?_ ?_
 | (show heapOK _ _ = true; kernel_rfl)
 | (show heapOK2 _ _ = true; kernel_rfl)
 | (omega)))
  refine awp_loopJ (fun i : Nat => i ≤ l.length ∧ ∀ j, j < i → (!l.getD j false) = false) (fun i => ⟨mkT 19 [(0, .osl 0 g 0 l.length), (1, .bool false), (6, .osl 0 g 0 l.length), (7, .int .i64 l.length), (8, .int .i64 i)], [some (.cells 4 1 g (bools l))], []⟩) (fun i => l.length - i) 0 ⟨Nat.zero_le _, by simp⟩ (.le2 ?_) ?_
  · simp (maxSteps := 4000000) only [go_sem, seval]
  · rintro i ⟨hi, hj⟩
    rcases Nat.lt_or_eq_of_le hi with hi1 | hi1
    · cases hb : l.getD i false
      · simp (maxSteps := 4000000) only [go_sem, seval]
        (repeat' (first
 | ((exfalso; omega))
 | ((omega))
 | refine awp_seqK ?_
 | refine kt ?_
 | refine And.intro ?_ ?_
 | ((first | refine awp_stp rfl ?_ | refine awp_draw (by kernel_rfl) (by kernel_rfl) ?_ | refine Imp.le2 ?_ | refine go_split (fun _h => ?_) (fun _h => ?_)) <;> try simp (maxSteps := 4000000) only [go_sem, seval, hb, Bool.false_eq_true, decide_true, decide_false])
 | intro _h
 | refine awp_block ?_
 | refine awp_scope ?_
 | refine cond_b ?_ ?_
 | (show heapOK _ _ = true; kernel_rfl)
 | (show heapOK2 _ _ = true; kernel_rfl)
 | (omega)))
        all_goals first
          | exact idxOf_some (d := false) hi1 (by rw [hb]; rfl) hj
          | trace_state
      · simp (maxSteps := 4000000) only [go_sem, seval]
        (repeat' (first
 | ((exfalso; omega))
 | ((omega))
 | refine awp_seqK ?_
 | refine kt ?_
 | refine And.intro ?_ ?_
 | ((first | refine awp_stp rfl ?_ | refine awp_draw (by kernel_rfl) (by kernel_rfl) ?_ | refine Imp.le2 ?_ | refine go_split (fun _h => ?_) (fun _h => ?_)) <;> try simp (maxSteps := 4000000) only [go_sem, seval, hb, Bool.false_eq_true, decide_true, decide_false])
 | intro _h
 | refine awp_block ?_
 | refine awp_scope ?_
 | refine cond_b ?_ ?_
 | (show heapOK _ _ = true; kernel_rfl)
 | (show heapOK2 _ _ = true; kernel_rfl)
 | (omega)))
        all_goals first
          | (refine ⟨i + 1, ⟨by omega, fun j hji => ?_⟩, by omega, .le2 ?_⟩
             · rcases Nat.lt_succ_iff_lt_or_eq.1 hji with h | rfl
               · exact hj j h
               · rw [hb]; rfl
             · simp (maxSteps := 4000000) only [go_sem, seval]
               try omega)
          | trace_state
    · simp (maxSteps := 4000000) only [go_sem, seval]
      (repeat' (first
 | ((exfalso; omega))
 | ((omega))
 | refine awp_seqK ?_
 | refine kt ?_
 | refine And.intro ?_ ?_
 | ((first | refine awp_stp rfl ?_ | refine awp_draw (by kernel_rfl) (by kernel_rfl) ?_ | refine Imp.le2 ?_ | refine go_split (fun _h => ?_) (fun _h => ?_)) <;> try simp (maxSteps := 4000000) only [go_sem, seval])
 | intro _h
 | refine awp_block ?_
 | refine awp_scope ?_
 | refine cond_b ?_ ?_
 | (show heapOK _ _ = true; kernel_rfl)
 | (show heapOK2 _ _ = true; kernel_rfl)
 | (omega)))
      all_goals first
        | exact idxOf_none (d := false) (fun j hjl => hj j (by omega))
        | trace_state
theorem contF_c (l : List Bool) (g : Nat) (hl : l.length ≤ 1000000) : SemF Try.prog 80 [.osl 0 g 0 l.length, .bool false] [some (.cells 4 1 g (bools l))] (.bool (l.any fun x => !x)) [some (.cells 4 1 g (bools l))] := by
  have h := idxF_c l g hl
  rw [← idxOf_ge]
  (refine semF_of_awp (ys := [.bool (decide (0 ≤ idxOf (fun x => !x) l))]) (fun w args => Try.call80 ..) Try.func80 rfl (fun w0 m0 wz => ?_); simp only [Try.ntmps80, Try.results80, initT, junks, homeC, hallC, slH, slL, townC, sl, List.toList_toArray, List.cons_append, List.nil_append, List.length_cons, List.length_nil, Nat.reduceAdd, Nat.reduceSub])
  (repeat' (first
 | (refine awp_ownN 2 rfl ?_; simp (maxSteps := 4000000) only [go_sem, seval, List.take_succ_cons, List.take_zero]; (repeat refine And.intro (by omega) ?_); refine own_go (h) [0] rfl ?_ ?_ rfl ?_ <;> try simp (maxSteps := 4000000) only [go_sem, seval, Nat.lt_irrefl] <;> try decide)
 | refine awp_seqK ?_
 | refine kt ?_
 | refine And.intro ?_ ?_
 | ((first | refine awp_stp rfl ?_ | refine awp_draw (by kernel_rfl) (by kernel_rfl) ?_ | refine Imp.le2 ?_ | refine go_split (fun _h => ?_) (fun _h => ?_)) <;> try simp (maxSteps := 4000000) only [go_sem, seval])
 | intro _h
 | refine awp_block ?_
 | refine awp_scope ?_
 | refine cond_b ?_ ?_
 | (show heapOK _ _ = true; kernel_rfl)
 | (show heapOK2 _ _ = true; kernel_rfl)
 | (omega)))
  all_goals first
    | exact (decide_eq_true ‹_›).symm
    | exact (decide_eq_false ‹_›).symm
/-- What is looked at of a bus alone. -/
structure BusG (t : Town) (b : Bus) : Prop where
  leave : 0 ≤ b.leave ∧ b.leave ≤ 10000
  hall : 0 ≤ b.hall ∧ b.hall ≤ t.halls.length - 1
  some : b.homes ≠ []
  homes : ∀ x ∈ b.homes, 0 ≤ x ∧ x < t.homes.length
  may : mayB t b = true
def markN (l : List Int) (I : List Bool) : Nat → Option (List Bool)
  | 0 => some I
  | k + 1 => match markN l I k with
    | none => none
    | some J => if J.getD (l.getD k 0).toNat false = true ∨ (0 < k ∧ l.getD k 0 ≤ l.getD (k - 1) 0) then none else some (isp J (l.getD k 0).toNat true)
open Classical in
noncomputable def busN (t : Town) (b : Bus) (S : List Bool × List Int) : Option (List Bool × List Int) :=
  if BusG t b then (match markN b.homes S.1 b.homes.length with
    | none => none
    | some J => some (J, isp S.2 b.hall.toNat (S.2.getD b.hall.toNat 0 + ppl t b.homes))) else none
noncomputable def runN (t : Town) (plan : List Bus) : Nat → Option (List Bool × List Int)
  | 0 => some (tab t.homes.length fun _ => false, tab t.halls.length fun _ => 0)
  | k + 1 => match runN t plan k with
    | none => none
    | some S => busN t (plan.getD k default) S
open Classical in
noncomputable def rightB (t : Town) (plan : List Bus) : Bool := match runN t plan plan.length with
  | none => false
  | some S => decide (plan.length ≤ 8 ∧ (∀ i, i < t.halls.length → S.2.getD i 0 ≤ (t.halls.getD i default).room)) && !(S.1.any fun x => !x)
theorem markN_length {l : List Int} {I J : List Bool} {n : Nat} (hI : I.length = n) (hl : ∀ x ∈ l, 0 ≤ x ∧ x < n) : ∀ k, k ≤ l.length → markN l I k = some J → J.length = n
  | 0, _, h => by simp only [markN, Option.some.injEq] at h; rw [← h]; exact hI
  | k + 1, hk, h => by
    simp only [markN] at h
    split at h
    · cases h
    · rename_i J' hJ'
      split at h
      · cases h
      · simp only [Option.some.injEq] at h
        have h1 := markN_length hI hl k (by omega) hJ'
        have h2 := hl _ (getD_mem (d := 0) (i := k) (by omega))
        rw [← h, isp_length (by omega), h1]
theorem runN_length {t : Town} {plan : List Bus} (ht : TownOK t) : ∀ k S, runN t plan k = some S → S.1.length = t.homes.length ∧ S.2.length = t.halls.length ∧ ∀ i, i < t.halls.length → 0 ≤ S.2.getD i 0 ∧ S.2.getD i 0 ≤ 200 * k
  | 0, S, h => by
    simp only [runN, Option.some.injEq] at h
    rw [← h]
    refine ⟨tab_length, tab_length, fun i hi => ?_⟩
    simp only [tab_getD hi]; omega
  | k + 1, S, h => by
    simp only [runN] at h
    split at h
    · cases h
    · rename_i S' hS'
      obtain ⟨h1, h2, h3⟩ := runN_length ht k S' hS'
      unfold busN at h
      split at h
      · rename_i hG
        split at h
        · cases h
        · rename_i J hJ
          simp only [Option.some.injEq] at h
          rw [← h]
          have hl := markN_length h1 hG.homes _ (Nat.le_refl _) hJ
          have hh := hG.hall
          have hm := hG.may
          simp only [mayB, Bool.and_eq_true, decide_eq_true_eq] at hm
          have hs := ht.seats
          have hp := pplL_bd ht hG.homes _ (Nat.le_refl _)
          have hpp : 0 ≤ ppl t (plan.getD k default).homes := hp.1
          refine ⟨hl, by rw [isp_length (by omega), h2], fun i hi => ?_⟩
          rw [isp_getD (by omega)]
          have h4 := h3 i hi
          have h5 := h3 (plan.getD k default).hall.toNat (by omega)
          split <;> omega
      · cases h
end Go.Am

/- Contracts of the away functions: whether a plan is right, walked. -/
namespace Go.Am
open Go.RowKit Go.Proofs
attribute [local irreducible] AWP CallS Kt goK CallK stepK evOps SemF SemY Imp
set_option maxRecDepth 4000
set_option linter.unusedSimpArgs false
set_option linter.unusedVariables false
set_option maxHeartbeats 3200000
theorem go_keep {P : Program} {all : Array Oper} {d : Option Tmp} {os : List Oper} {T : List AV} {H : List (Option ABlk)} {D : List Nat} {tr : List E} {K : St → List E → Prop} (b : Bool) {rd : List Nat}
    (h : evOps P all os ⟨lseto T d (.bool b), H, D⟩ (tr ++ [⟨.bool b, rd, none⟩]) K) : goK P all d os T H D tr K (.bool b) rd := by
  cases b
  · rw [go_false]; exact h
  · rw [go_true]; exact h
def rgH (t : Town) (K : Kmap) (I : List Bool) (R : List Int) : List (Option ABlk) := [plB t 1, some (.map (kmC K)), some (.cells 4 1 0 (bools I)), some (.cells 3 1 0 (ints R))]
theorem markN_none {l : List Int} {I : List Bool} {k : Nat} (h : markN l I k = none) : ∀ d, markN l I (k + d) = none
  | 0 => h
  | d + 1 => by rw [← Nat.add_assoc]; simp only [markN, markN_none h d]
theorem runN_none {t : Town} {plan : List Bus} {k : Nat} (h : runN t plan k = none) : ∀ d, runN t plan (k + d) = none
  | 0 => h
  | d + 1 => by rw [← Nat.add_assoc]; simp only [runN, runN_none h d]
def outJ (t : Town) (plan : List Bus) (g : Bool × List Bool × List Int) : Prop :=
  match runN t plan plan.length with
  | some S => g = (decide ((plan.length : Int) ≤ 8), S)
  | none => g.1 = false
theorem outJ_none {t : Town} {plan : List Bus} {I : List Bool} {R : List Int} (h : runN t plan plan.length = none) : outJ t plan (false, I, R) := by
  unfold outJ; rw [h]
def okR (t : Town) (R : List Int) (k : Nat) : Prop := ∀ i, i < k → R.getD i 0 ≤ (t.halls.getD i default).room
instance (t : Town) (R : List Int) (k : Nat) : Decidable (okR t R k) := inferInstanceAs (Decidable (∀ i, i < k → R.getD i 0 ≤ (t.halls.getD i default).room))
theorem right_out {t : Town} {plan : List Bus} {fine : Bool} {I : List Bool} {R : List Int} (h : outJ t plan (fine, I, R)) : rightB t plan = ((fine && decide (okR t R t.halls.length)) && !(I.any fun x => !x)) := by
  unfold outJ at h
  unfold rightB
  split at h
  · rename_i S hS
    rw [hS]
    simp only [Prod.mk.injEq] at h
    obtain ⟨rfl, rfl⟩ := h
    simp only [okR]
    congr 1
    rw [Bool.eq_iff_iff]
    simp only [Bool.and_eq_true, decide_eq_true_eq]
    constructor
    · rintro ⟨a, b⟩; exact ⟨by omega, decide_eq_true b⟩
    · rintro ⟨a, b⟩; exact ⟨by omega, of_decide_eq_true b⟩
  · rename_i hS
    rw [hS]
    simp only at h
    rw [h]; simp
theorem right_c (t : Town) (plan : List Bus) (K : Kmap) (ht : TownOK t) (hn : plan.length ≤ 1000000) (hh : ∀ b ∈ plan, b.homes.length ≤ 1000000) :
    SemF Try.prog 55 [.ptr 0 0 0, slB plan] [plB t 1, some (.map (kmC K))] (.bool (rightB t plan)) [plB t 1, some (.map (kmC K))] := by
  have hln := ht.homes
  have hhl := ht.halls
  simp only [plB, planC, busC, sl, slB, townC, slH, slL]
  obtain ⟨f0, hf0⟩ : ∃ f0, decide ((plan.length : Int) ≤ 8) = f0 := ⟨_, rfl⟩
  (refine semF_of_awp (ys := [.bool (rightB t plan)]) (fun w args => Try.call55 ..) Try.func55 rfl (fun w0 m0 wz => ?_); simp only [Try.ntmps55, Try.results55, initT, junks, homeC, hallC, slH, slL, townC, sl, List.toList_toArray, List.cons_append, List.nil_append, List.length_cons, List.length_nil, Nat.reduceAdd, Nat.reduceSub])
  (repeat' (first
 | ((refine go_keep f0 ?_; simp (maxSteps := 4000000) only [go_sem, seval]))
 | refine awp_seqK ?_
 | refine kt ?_
 | refine And.intro ?_ ?_
 | ((first | refine awp_stp rfl ?_ | refine awp_draw (by kernel_rfl) (by kernel_rfl) ?_ | refine Imp.le2 ?_ | refine go_split (fun _h => ?_) (fun _h => ?_)) <;> try simp (maxSteps := 4000000) only [go_sem, seval, ↓rep_bools, ↓rep_ints, hf0])
 | intro _h
 | refine awp_block ?_
 | refine awp_scope ?_
 | refine cond_b ?_ ?_
 | (show heapOK _ _ = true; kernel_rfl)
 | (show heapOK2 _ _ = true; kernel_rfl)
 | (omega)))
  refine awp_cut 0 (γ := Bool × List Bool × List Int) (fun g => g.2.1.length = t.homes.length ∧ g.2.2.length = t.halls.length ∧ outJ t plan g) (fun g => ⟨mkT 146 [(0, .ptr 0 0 0), (5, .osl 2 0 0 t.homes.length), (6, .osl 3 0 0 t.halls.length), (7, .bool g.1)], rgH t K g.2.1 g.2.2, []⟩) ?_ ?_
  · refine awp_loopJ (fun x : Nat × List Bool × List Int => x.1 ≤ plan.length ∧ runN t plan x.1 = some x.2) (fun x => ⟨mkT 146 [(0, .ptr 0 0 0), (1, slB plan), (5, .osl 2 0 0 t.homes.length), (6, .osl 3 0 0 t.halls.length), (7, .bool f0), (31, slB plan), (32, .int .i64 plan.length), (33, .int .i64 x.1)], rgH t K x.2.1 x.2.2, []⟩) (fun x => plan.length - x.1) (0, tab t.homes.length (fun _ => false), tab t.halls.length (fun _ => 0)) ⟨Nat.zero_le _, rfl⟩ (.le2 ?_) ?_
    · simp only [rgH, plB, planC, busC, sl, slB, townC, slH, slL]; simp (maxSteps := 4000000) only [go_sem, seval]
      try (first | rfl | exact ⟨rfl, rfl⟩)
    · rintro ⟨k, I, R⟩ ⟨hk, hS⟩
      simp only at hk hS
      obtain ⟨hI, hR, hRb⟩ := runN_length ht k _ hS
      simp only at hI hR hRb
      rcases Nat.lt_or_eq_of_le hk with hk1 | hk1
      · have hnx : runN t plan (k + 1) = busN t (plan.getD k default) (I, R) := by simp only [runN, hS]
        have hno : busN t (plan.getD k default) (I, R) = none → ∀ J R', outJ t plan (false, J, R') := fun h J R' => by
          refine outJ_none ?_
          have := runN_none (hnx.trans h) (plan.length - (k + 1))
          rwa [show k + 1 + (plan.length - (k + 1)) = plan.length by omega] at this
        have hbl := hh _ (getD_mem (d := default) hk1)
        have hal := allB_home t (plan.getD k default).homes (fun x => decide (0 ≤ x ∧ x < t.homes.length)) hbl (fun i hi => home_c t _ (by omega))
        have hst : ∀ J, busN t (plan.getD k default) (I, R) = some J → runN t plan (k + 1) = some J := fun J h => hnx.trans h
        have hBG : BusG t (plan.getD k default) → busN t (plan.getD k default) (I, R) = (match markN (plan.getD k default).homes I (plan.getD k default).homes.length with
          | none => none
          | some J => some (J, isp R (plan.getD k default).hall.toNat (R.getD (plan.getD k default).hall.toNat 0 + ppl t (plan.getD k default).homes))) := fun h => by unfold busN; rw [if_pos h]; try rfl
        have hBN : ¬ BusG t (plan.getD k default) → busN t (plan.getD k default) (I, R) = none := fun h => by unfold busN; rw [if_neg h]
        clear hnx
        have e01 : ((0 : Nat) = 1) = False := eq_false (by decide)
        have e03 : ((0 : Nat) = 3) = False := eq_false (by decide)
        have e02 : ((0 : Nat) = 2) = False := eq_false (by decide)
        have e20 : ((2 : Nat) = 0) = False := eq_false (by decide)
        obtain ⟨b, hb⟩ : ∃ b, plan.getD k default = b := ⟨_, rfl⟩
        rw [hb] at hno hbl hal hst hBG hBN
        have hbad : ¬ BusG t b → ∀ J R', outJ t plan (false, J, R') := fun h => hno (hBN h)
        simp only [plB, planC, busC, sl, slB, townC, slH, slL] at hal
        by_cases c1 : 0 ≤ b.leave ∧ b.leave ≤ 10000
        · have e1 : (0 ≤ b.leave ∧ b.leave ≤ 10000) = True := eq_true c1
          by_cases c2 : 0 ≤ b.hall ∧ b.hall ≤ t.halls.length - 1
          · have e2 : (0 ≤ b.hall ∧ b.hall ≤ (t.halls.length : Int) - 1) = True := eq_true c2
            by_cases c3 : b.homes = []
            · have e3 : ((b.homes.length : Int) = 0) = True := eq_true (by rw [c3]; rfl)
              have hfail := hbad (fun h => h.some c3) I R
              simp only [rgH, plB, planC, busC, sl, slB, townC, slH, slL]; simp (maxSteps := 4000000) only [go_sem, seval]
              (repeat' (first
 | ((exfalso; omega))
 | refine awp_seqK ?_
 | refine kt ?_
 | refine And.intro ?_ ?_
 | ((first | refine awp_stp rfl ?_ | refine awp_draw (by kernel_rfl) (by kernel_rfl) ?_ | refine Imp.le2 ?_ | refine callK_of (within_c _ _ _) ?_ | refine go_split (fun _h => ?_) (fun _h => ?_)) <;> try simp (maxSteps := 4000000) only [go_sem, seval, hb, busC, e1, e2, e3, decide_true, Bool.not_true, Bool.not_false])
 | intro _h
 | refine awp_block ?_
 | refine awp_scope ?_
 | refine cond_b ?_ ?_
 | (show heapOK _ _ = true; kernel_rfl)
 | (show heapOK2 _ _ = true; kernel_rfl)
 | (omega)))
              refine ⟨(false, I, R), ⟨hI, hR, hfail⟩, .le2 ?_⟩
              simp only [rgH, plB, planC, busC, sl, slB, townC, slH, slL]; simp (maxSteps := 4000000) only [go_sem, seval]
              try (first | rfl | exact ⟨rfl, rfl⟩)
            · have e3 : ((b.homes.length : Int) = 0) = False := eq_false (fun h => c3 (List.eq_nil_of_length_eq_zero (by omega)))
              cases c4 : (b.homes.all fun x => decide (0 ≤ x ∧ x < (t.homes.length : Int))) with
              | false =>
                have hfail := hbad (fun h => by
                  have : (b.homes.all fun x => decide (0 ≤ x ∧ x < (t.homes.length : Int))) = true := List.all_eq_true.2 fun x hx => decide_eq_true (h.homes x hx)
                  rw [c4] at this; cases this) I R
                rw [c4] at hal
                simp only [rgH, plB, planC, busC, sl, slB, townC, slH, slL]; simp (maxSteps := 4000000) only [go_sem, seval]
                (repeat' (first
 | ((exfalso; omega))
 | refine awp_seqK ?_
 | refine kt ?_
 | refine And.intro ?_ ?_
 | ((first | refine awp_stp rfl ?_ | refine Imp.le2 ?_ | refine callK_of (within_c _ _ _) ?_ | refine go_split (fun _h => ?_) (fun _h => ?_)) <;> try simp (maxSteps := 4000000) only [go_sem, seval, hb, busC, e1, e2, e3, e01, if_false, decide_true, decide_false, Bool.not_true, Bool.not_false])
 | intro _h
 | refine awp_block ?_
 | refine awp_scope ?_
 | refine cond_b ?_ ?_
 | (show heapOK _ _ = true; kernel_rfl)
 | (show heapOK2 _ _ = true; kernel_rfl)
 | (omega)))
                ((repeat refine awp_seqK ?_); refine awp_draws [(31, []), (5, [])] (by kernel_rfl) (by kernel_rfl) ?_; simp (maxSteps := 4000000) only [go_sem, seval, sg_cons, sg_nil, List.take_succ_cons, List.take_zero, List.drop_succ_cons, List.drop_zero])
                (repeat' (first
 | ((exfalso; omega))
 | refine awp_seqK ?_
 | refine kt ?_
 | refine And.intro ?_ ?_
 | ((first | refine awp_stp rfl ?_ | refine Imp.le2 ?_ | refine callK_of (within_c _ _ _) ?_ | refine go_split (fun _h => ?_) (fun _h => ?_)) <;> try simp (maxSteps := 4000000) only [go_sem, seval, hb, busC, e1, e2, e3, e01, if_false, decide_true, decide_false, Bool.not_true, Bool.not_false])
 | intro _h
 | refine awp_block ?_
 | refine awp_scope ?_
 | refine cond_b ?_ ?_
 | (show heapOK _ _ = true; kernel_rfl)
 | (show heapOK2 _ _ = true; kernel_rfl)
 | (omega)))
                (refine own_go (hal) [] rfl (by simp (maxSteps := 4000000) only [go_sem, seval]) (by simp (maxSteps := 4000000) only [go_sem, seval, Nat.lt_irrefl] <;> decide) rfl ?_; simp (maxSteps := 4000000) only [go_sem, seval]; refine And.intro (frm_of (by repeat (first | exact rfl | exact ⟨_, rfl⟩ | refine And.intro ?_ ?_))) ?_; try simp (maxSteps := 4000000) only [go_sem, seval, sg_cons, sg_nil, List.take_succ_cons, List.take_zero, List.drop_succ_cons, List.drop_zero])
                (repeat' (first
 | ((exfalso; omega))
 | refine awp_seqK ?_
 | refine kt ?_
 | refine And.intro ?_ ?_
 | ((first | refine awp_stp rfl ?_ | refine Imp.le2 ?_ | refine callK_of (within_c _ _ _) ?_ | refine go_split (fun _h => ?_) (fun _h => ?_)) <;> try simp (maxSteps := 4000000) only [go_sem, seval, hb, busC, e1, e2, e3, e01, if_false, decide_true, decide_false, Bool.not_true, Bool.not_false])
 | intro _h
 | refine awp_block ?_
 | refine awp_scope ?_
 | refine cond_b ?_ ?_
 | (show heapOK _ _ = true; kernel_rfl)
 | (show heapOK2 _ _ = true; kernel_rfl)
 | (omega)))
                refine ⟨(false, I, R), ⟨hI, hR, hfail⟩, .le2 ?_⟩
                simp only [rgH, plB, planC, busC, sl, slB, townC, slH, slL]; simp (maxSteps := 4000000) only [go_sem, seval]
                try (first | rfl | exact ⟨rfl, rfl⟩)
              | true =>
                have c4' : ∀ x ∈ b.homes, 0 ≤ x ∧ x < t.homes.length := fun x hx => of_decide_eq_true (List.all_eq_true.1 c4 x hx)
                rw [c4] at hal
                have hbI : BusIn t b := ⟨c4', by omega, c1, hbl⟩
                have hma := may_c t b K ht hbI
                have hpe := people_c t b K ht c4' hbl
                simp only [plB, planC, busC, sl, slB, townC, slH, slL] at hma hpe
                cases c5 : mayB t b with
                | false =>
                  have hfail := hbad (fun h => by have := h.may; rw [c5] at this; cases this) I R
                  rw [c5] at hma
                  simp only [rgH, plB, planC, busC, sl, slB, townC, slH, slL]; simp (maxSteps := 4000000) only [go_sem, seval]
                  (repeat' (first
 | ((exfalso; omega))
 | refine awp_seqK ?_
 | refine kt ?_
 | refine And.intro ?_ ?_
 | ((first | refine awp_stp rfl ?_ | refine Imp.le2 ?_ | refine callK_of (within_c _ _ _) ?_ | refine go_split (fun _h => ?_) (fun _h => ?_)) <;> try simp (maxSteps := 4000000) only [go_sem, seval, hb, busC, e1, e2, e3, e01, if_false, decide_true, decide_false, Bool.not_true, Bool.not_false])
 | intro _h
 | refine awp_block ?_
 | refine awp_scope ?_
 | refine cond_b ?_ ?_
 | (show heapOK _ _ = true; kernel_rfl)
 | (show heapOK2 _ _ = true; kernel_rfl)
 | (omega)))
                  ((repeat refine awp_seqK ?_); refine awp_draws [(31, []), (5, [])] (by kernel_rfl) (by kernel_rfl) ?_; simp (maxSteps := 4000000) only [go_sem, seval, sg_cons, sg_nil, List.take_succ_cons, List.take_zero, List.drop_succ_cons, List.drop_zero])
                  (repeat' (first
 | ((exfalso; omega))
 | refine awp_seqK ?_
 | refine kt ?_
 | refine And.intro ?_ ?_
 | ((first | refine awp_stp rfl ?_ | refine Imp.le2 ?_ | refine callK_of (within_c _ _ _) ?_ | refine go_split (fun _h => ?_) (fun _h => ?_)) <;> try simp (maxSteps := 4000000) only [go_sem, seval, hb, busC, e1, e2, e3, e01, if_false, decide_true, decide_false, Bool.not_true, Bool.not_false])
 | intro _h
 | refine awp_block ?_
 | refine awp_scope ?_
 | refine cond_b ?_ ?_
 | (show heapOK _ _ = true; kernel_rfl)
 | (show heapOK2 _ _ = true; kernel_rfl)
 | (omega)))
                  (refine own_go (hal) [] rfl (by simp (maxSteps := 4000000) only [go_sem, seval]) (by simp (maxSteps := 4000000) only [go_sem, seval, Nat.lt_irrefl] <;> decide) rfl ?_; simp (maxSteps := 4000000) only [go_sem, seval]; refine And.intro (frm_of (by repeat (first | exact rfl | exact ⟨_, rfl⟩ | refine And.intro ?_ ?_))) ?_; try simp (maxSteps := 4000000) only [go_sem, seval, sg_cons, sg_nil, List.take_succ_cons, List.take_zero, List.drop_succ_cons, List.drop_zero])
                  (repeat' (first
 | ((exfalso; omega))
 | refine awp_seqK ?_
 | refine kt ?_
 | refine And.intro ?_ ?_
 | ((first | refine awp_stp rfl ?_ | refine Imp.le2 ?_ | refine callK_of (within_c _ _ _) ?_ | refine go_split (fun _h => ?_) (fun _h => ?_)) <;> try simp (maxSteps := 4000000) only [go_sem, seval, hb, busC, e1, e2, e3, e01, if_false, decide_true, decide_false, Bool.not_true, Bool.not_false])
 | intro _h
 | refine awp_block ?_
 | refine awp_scope ?_
 | refine cond_b ?_ ?_
 | (show heapOK _ _ = true; kernel_rfl)
 | (show heapOK2 _ _ = true; kernel_rfl)
 | (omega)))
                  (refine own_go (hma) [0, 1] rfl (by simp (maxSteps := 4000000) only [go_sem, seval]) (by simp (maxSteps := 4000000) only [go_sem, seval, Nat.lt_irrefl] <;> decide) rfl ?_; simp (maxSteps := 4000000) only [go_sem, seval]; refine And.intro (frm_of (by repeat (first | exact rfl | exact ⟨_, rfl⟩ | refine And.intro ?_ ?_))) ?_; try simp (maxSteps := 4000000) only [go_sem, seval, sg_cons, sg_nil, List.take_succ_cons, List.take_zero, List.drop_succ_cons, List.drop_zero])
                  (repeat' (first
 | ((exfalso; omega))
 | refine awp_seqK ?_
 | refine kt ?_
 | refine And.intro ?_ ?_
 | ((first | refine awp_stp rfl ?_ | refine Imp.le2 ?_ | refine callK_of (within_c _ _ _) ?_ | refine go_split (fun _h => ?_) (fun _h => ?_)) <;> try simp (maxSteps := 4000000) only [go_sem, seval, hb, busC, e1, e2, e3, e01, if_false, decide_true, decide_false, Bool.not_true, Bool.not_false])
 | intro _h
 | refine awp_block ?_
 | refine awp_scope ?_
 | refine cond_b ?_ ?_
 | (show heapOK _ _ = true; kernel_rfl)
 | (show heapOK2 _ _ = true; kernel_rfl)
 | (omega)))
                  refine ⟨(false, I, R), ⟨hI, hR, hfail⟩, .le2 ?_⟩
                  simp only [rgH, plB, planC, busC, sl, slB, townC, slH, slL]; simp (maxSteps := 4000000) only [go_sem, seval]
                  try (first | rfl | exact ⟨rfl, rfl⟩)
                | true =>
                  have hG : BusG t b := ⟨c1, c2, c3, c4', c5⟩
                  rw [c5] at hma
                  have hB2 := hBG hG
                  simp only [rgH, plB, planC, busC, sl, slB, townC, slH, slL]; simp (maxSteps := 4000000) only [go_sem, seval]
                  (repeat' (first
 | ((exfalso; omega))
 | refine awp_seqK ?_
 | refine kt ?_
 | refine And.intro ?_ ?_
 | ((first | refine awp_stp rfl ?_ | refine Imp.le2 ?_ | refine callK_of (within_c _ _ _) ?_ | refine go_split (fun _h => ?_) (fun _h => ?_)) <;> try simp (maxSteps := 4000000) only [go_sem, seval, hb, busC, e1, e2, e3, e01, if_false, decide_true, decide_false, Bool.not_true, Bool.not_false])
 | intro _h
 | refine awp_block ?_
 | refine awp_scope ?_
 | refine cond_b ?_ ?_
 | (show heapOK _ _ = true; kernel_rfl)
 | (show heapOK2 _ _ = true; kernel_rfl)
 | (omega)))
                  ((repeat refine awp_seqK ?_); refine awp_draws [(31, []), (5, [])] (by kernel_rfl) (by kernel_rfl) ?_; simp (maxSteps := 4000000) only [go_sem, seval, sg_cons, sg_nil, List.take_succ_cons, List.take_zero, List.drop_succ_cons, List.drop_zero])
                  (repeat' (first
 | ((exfalso; omega))
 | refine awp_seqK ?_
 | refine kt ?_
 | refine And.intro ?_ ?_
 | ((first | refine awp_stp rfl ?_ | refine Imp.le2 ?_ | refine callK_of (within_c _ _ _) ?_ | refine go_split (fun _h => ?_) (fun _h => ?_)) <;> try simp (maxSteps := 4000000) only [go_sem, seval, hb, busC, e1, e2, e3, e01, if_false, decide_true, decide_false, Bool.not_true, Bool.not_false])
 | intro _h
 | refine awp_block ?_
 | refine awp_scope ?_
 | refine cond_b ?_ ?_
 | (show heapOK _ _ = true; kernel_rfl)
 | (show heapOK2 _ _ = true; kernel_rfl)
 | (omega)))
                  (refine own_go (hal) [] rfl (by simp (maxSteps := 4000000) only [go_sem, seval]) (by simp (maxSteps := 4000000) only [go_sem, seval, Nat.lt_irrefl] <;> decide) rfl ?_; simp (maxSteps := 4000000) only [go_sem, seval]; refine And.intro (frm_of (by repeat (first | exact rfl | exact ⟨_, rfl⟩ | refine And.intro ?_ ?_))) ?_; try simp (maxSteps := 4000000) only [go_sem, seval, sg_cons, sg_nil, List.take_succ_cons, List.take_zero, List.drop_succ_cons, List.drop_zero])
                  (repeat' (first
 | ((exfalso; omega))
 | refine awp_seqK ?_
 | refine kt ?_
 | refine And.intro ?_ ?_
 | ((first | refine awp_stp rfl ?_ | refine Imp.le2 ?_ | refine callK_of (within_c _ _ _) ?_ | refine go_split (fun _h => ?_) (fun _h => ?_)) <;> try simp (maxSteps := 4000000) only [go_sem, seval, hb, busC, e1, e2, e3, e01, if_false, decide_true, decide_false, Bool.not_true, Bool.not_false])
 | intro _h
 | refine awp_block ?_
 | refine awp_scope ?_
 | refine cond_b ?_ ?_
 | (show heapOK _ _ = true; kernel_rfl)
 | (show heapOK2 _ _ = true; kernel_rfl)
 | (omega)))
                  (refine own_go (hma) [0, 1] rfl (by simp (maxSteps := 4000000) only [go_sem, seval]) (by simp (maxSteps := 4000000) only [go_sem, seval, Nat.lt_irrefl] <;> decide) rfl ?_; simp (maxSteps := 4000000) only [go_sem, seval]; refine And.intro (frm_of (by repeat (first | exact rfl | exact ⟨_, rfl⟩ | refine And.intro ?_ ?_))) ?_; try simp (maxSteps := 4000000) only [go_sem, seval, sg_cons, sg_nil, List.take_succ_cons, List.take_zero, List.drop_succ_cons, List.drop_zero])
                  (repeat' (first
 | ((exfalso; omega))
 | refine awp_seqK ?_
 | refine kt ?_
 | refine And.intro ?_ ?_
 | ((first | refine awp_stp rfl ?_ | refine awp_draw (by kernel_rfl) (by kernel_rfl) ?_ | refine Imp.le2 ?_ | refine callK_of (within_c _ _ _) ?_ | refine go_split (fun _h => ?_) (fun _h => ?_)) <;> try simp (maxSteps := 4000000) only [go_sem, seval, hb, busC, e1, e2, e3, e01, if_false, decide_true, decide_false, Bool.not_true, Bool.not_false])
 | intro _h
 | refine awp_block ?_
 | refine awp_scope ?_
 | refine cond_b ?_ ?_
 | (show heapOK _ _ = true; kernel_rfl)
 | (show heapOK2 _ _ = true; kernel_rfl)
 | (omega)))
                  refine awp_loopJ (fun x : Nat × List Bool => x.1 ≤ b.homes.length ∧ markN b.homes I x.1 = some x.2) (fun x => ⟨mkT 146 [(0, .ptr 0 0 0), (1, slB plan), (5, .osl 2 0 0 t.homes.length), (6, .osl 3 0 0 t.halls.length), (7, .bool f0), (9, .ptr 4 0 0), (31, slB plan), (32, .int .i64 plan.length), (33, .int .i64 k), (78, sl b.homes), (79, .int .i64 b.homes.length), (80, .int .i64 x.1)], rgH t K x.2 R ++ [some (.cells 48 1 0 (busC b))], []⟩) (fun x => b.homes.length - x.1) (0, I) ⟨Nat.zero_le _, rfl⟩ (.le2 ?_) ?_
                  · simp only [rgH, plB, planC, busC, sl, slB, townC, slH, slL]; simp (maxSteps := 4000000) only [go_sem, seval]
                    try (first | rfl | exact ⟨rfl, rfl⟩)
                  · rintro ⟨j, J⟩ ⟨hj, hM⟩
                    simp only at hj hM
                    have hJl := markN_length hI c4' j hj hM
                    rcases Nat.lt_or_eq_of_le hj with hj1 | hj1
                    · have hx := c4' _ (getD_mem (d := 0) hj1)
                      have hMn : markN b.homes I (j + 1) = if J.getD (b.homes.getD j 0).toNat false = true ∨ (0 < j ∧ b.homes.getD j 0 ≤ b.homes.getD (j - 1) 0) then none else some (isp J (b.homes.getD j 0).toNat true) := by simp only [markN, hM]
                      have hno2 : markN b.homes I (j + 1) = none → ∀ J' R', outJ t plan (false, J', R') := fun h => hno (by
                        rw [hB2]
                        have := markN_none h (b.homes.length - (j + 1))
                        rw [show j + 1 + (b.homes.length - (j + 1)) = b.homes.length by omega] at this
                        rw [this])
                      have ej : ((j : Int) - 1).toNat = j - 1 := by omega
                      cases hv : J.getD (b.homes.getD j 0).toNat false with
                      | true =>
                        have hfail := hno2 (by rw [hMn, if_pos (.inl hv)]) J R
                        simp only [rgH, plB, planC, busC, sl, slB, townC, slH, slL]; simp (maxSteps := 4000000) only [go_sem, seval]
                        (repeat' (first
 | ((exfalso; omega))
 | refine awp_seqK ?_
 | refine kt ?_
 | refine And.intro ?_ ?_
 | ((first | refine awp_stp rfl ?_ | refine awp_draw (by kernel_rfl) (by kernel_rfl) ?_ | refine Imp.le2 ?_ | refine go_split (fun _h => ?_) (fun _h => ?_)) <;> try simp (maxSteps := 4000000) only [go_sem, seval, hv, hJl, e02, e03, if_false])
 | intro _h
 | refine awp_block ?_
 | refine awp_scope ?_
 | refine cond_b ?_ ?_
 | (show heapOK _ _ = true; kernel_rfl)
 | (show heapOK2 _ _ = true; kernel_rfl)
 | (omega)))
                        refine ⟨(false, J, R), ⟨hJl, hR, hfail⟩, .le2 ?_⟩
                        simp only [rgH, plB, planC, busC, sl, slB, townC, slH, slL]; simp (maxSteps := 4000000) only [go_sem, seval]
                        try (first | rfl | exact ⟨rfl, rfl⟩)
                      | false =>
                        by_cases hp : 0 < j ∧ b.homes.getD j 0 ≤ b.homes.getD (j - 1) 0
                        · have hfail := hno2 (by rw [hMn, if_pos (.inr hp)]) J R
                          have e5 : (0 < (j : Int)) = True := eq_true (by omega)
                          have e6 : (b.homes.getD j 0 ≤ b.homes.getD (j - 1) 0) = True := eq_true hp.2
                          simp only [rgH, plB, planC, busC, sl, slB, townC, slH, slL]; simp (maxSteps := 4000000) only [go_sem, seval]
                          (repeat' (first
 | ((exfalso; omega))
 | refine awp_seqK ?_
 | refine kt ?_
 | refine And.intro ?_ ?_
 | ((first | refine awp_stp rfl ?_ | refine awp_draw (by kernel_rfl) (by kernel_rfl) ?_ | refine Imp.le2 ?_ | refine go_split (fun _h => ?_) (fun _h => ?_)) <;> try simp (maxSteps := 4000000) only [go_sem, seval, hv, hJl, e5, e6, ej, decide_true, e02, e03, if_false])
 | intro _h
 | refine awp_block ?_
 | refine awp_scope ?_
 | refine cond_b ?_ ?_
 | (show heapOK _ _ = true; kernel_rfl)
 | (show heapOK2 _ _ = true; kernel_rfl)
 | (omega)))
                          refine ⟨(false, J, R), ⟨hJl, hR, hfail⟩, .le2 ?_⟩
                          simp only [rgH, plB, planC, busC, sl, slB, townC, slH, slL]; simp (maxSteps := 4000000) only [go_sem, seval]
                          try (first | rfl | exact ⟨rfl, rfl⟩)
                        · rw [hv, if_neg (by rintro (h | h); exact absurd h (by simp); exact hp h)] at hMn
                          by_cases hj0 : j = 0
                          · subst hj0
                            have e5 : (0 < (0 : Int)) = False := eq_false (by omega)
                            simp only [rgH, plB, planC, busC, sl, slB, townC, slH, slL]; simp (maxSteps := 4000000) only [go_sem, seval]
                            (repeat' (first
 | ((exfalso; omega))
 | refine awp_seqK ?_
 | refine kt ?_
 | refine And.intro ?_ ?_
 | ((first | refine awp_stp rfl ?_ | refine awp_draw (by kernel_rfl) (by kernel_rfl) ?_ | refine Imp.le2 ?_ | refine go_split (fun _h => ?_) (fun _h => ?_)) <;> try simp (maxSteps := 4000000) only [go_sem, seval, hv, hJl, e5, decide_false])
 | intro _h
 | refine awp_block ?_
 | refine awp_scope ?_
 | refine cond_b ?_ ?_
 | (show heapOK _ _ = true; kernel_rfl)
 | (show heapOK2 _ _ = true; kernel_rfl)
 | (omega)))
                            refine ⟨(1, isp J (b.homes.getD 0 0).toNat true), ⟨by simp only; omega, hMn⟩, by simp only; omega, .le2 ?_⟩
                            simp only [rgH, plB, planC, busC, sl, slB, townC, slH, slL]; simp (maxSteps := 4000000) only [go_sem, seval]
                            try (first | rfl | exact ⟨rfl, rfl⟩)
                          · have e5 : (0 < (j : Int)) = True := eq_true (by omega)
                            have e6 : (b.homes.getD j 0 ≤ b.homes.getD (j - 1) 0) = False := eq_false (fun h => hp ⟨by omega, h⟩)
                            simp only [rgH, plB, planC, busC, sl, slB, townC, slH, slL]; simp (maxSteps := 4000000) only [go_sem, seval]
                            (repeat' (first
 | ((exfalso; omega))
 | refine awp_seqK ?_
 | refine kt ?_
 | refine And.intro ?_ ?_
 | ((first | refine awp_stp rfl ?_ | refine awp_draw (by kernel_rfl) (by kernel_rfl) ?_ | refine Imp.le2 ?_ | refine go_split (fun _h => ?_) (fun _h => ?_)) <;> try simp (maxSteps := 4000000) only [go_sem, seval, hv, hJl, e5, e6, ej, decide_true, decide_false])
 | intro _h
 | refine awp_block ?_
 | refine awp_scope ?_
 | refine cond_b ?_ ?_
 | (show heapOK _ _ = true; kernel_rfl)
 | (show heapOK2 _ _ = true; kernel_rfl)
 | (omega)))
                            refine ⟨(j + 1, isp J (b.homes.getD j 0).toNat true), ⟨by simp only; omega, hMn⟩, by simp only; omega, .le2 ?_⟩
                            simp only [rgH, plB, planC, busC, sl, slB, townC, slH, slL]; simp (maxSteps := 4000000) only [go_sem, seval]
                            try (first | rfl | exact ⟨rfl, rfl⟩)
                    · subst hj1
                      rw [hM] at hB2
                      simp only at hB2
                      have hrk := hRb b.hall.toNat (by omega)
                      have hpb := pplL_bd ht c4' _ (Nat.le_refl _)
                      have hpb2 : 0 ≤ ppl t b.homes ∧ ppl t b.homes ≤ 200 * b.homes.length := hpb
                      simp only [rgH, plB, planC, busC, sl, slB, townC, slH, slL]; simp (maxSteps := 4000000) only [go_sem, seval]
                      (repeat' (first
 | ((exfalso; omega))
 | refine awp_seqK ?_
 | refine kt ?_
 | refine And.intro ?_ ?_
 | ((first | refine awp_stp rfl ?_ | refine Imp.le2 ?_ | refine go_split (fun _h => ?_) (fun _h => ?_)) <;> try simp (maxSteps := 4000000) only [go_sem, seval, e20, if_false])
 | intro _h
 | refine awp_block ?_
 | refine awp_scope ?_
 | refine cond_b ?_ ?_
 | (show heapOK _ _ = true; kernel_rfl)
 | (show heapOK2 _ _ = true; kernel_rfl)
 | (omega)))
                      ((repeat refine awp_seqK ?_); refine awp_draws [(7, [])] (by kernel_rfl) (by kernel_rfl) ?_; simp (maxSteps := 4000000) only [go_sem, seval, sg_cons, sg_nil, List.take_succ_cons, List.take_zero, List.drop_succ_cons, List.drop_zero])
                      (repeat' (first
 | ((exfalso; omega))
 | refine awp_seqK ?_
 | refine kt ?_
 | refine And.intro ?_ ?_
 | ((first | refine awp_stp rfl ?_ | refine Imp.le2 ?_ | refine go_split (fun _h => ?_) (fun _h => ?_)) <;> try simp (maxSteps := 4000000) only [go_sem, seval, hR])
 | intro _h
 | refine awp_block ?_
 | refine awp_scope ?_
 | refine cond_b ?_ ?_
 | (show heapOK _ _ = true; kernel_rfl)
 | (show heapOK2 _ _ = true; kernel_rfl)
 | (omega)))
                      (refine own_go (hpe) [0, 1] rfl (by simp (maxSteps := 4000000) only [go_sem, seval]) (by simp (maxSteps := 4000000) only [go_sem, seval, Nat.lt_irrefl] <;> decide) rfl ?_; simp (maxSteps := 4000000) only [go_sem, seval]; refine And.intro (frm_of (by repeat (first | exact rfl | exact ⟨_, rfl⟩ | refine And.intro ?_ ?_))) ?_; try simp (maxSteps := 4000000) only [go_sem, seval, sg_cons, sg_nil, List.take_succ_cons, List.take_zero, List.drop_succ_cons, List.drop_zero])
                      (repeat' (first
 | ((exfalso; omega))
 | ((omega))
 | refine awp_seqK ?_
 | refine kt ?_
 | refine And.intro ?_ ?_
 | ((first | refine awp_stp rfl ?_ | refine awp_draw (by kernel_rfl) (by kernel_rfl) ?_ | refine Imp.le2 ?_ | refine go_split (fun _h => ?_) (fun _h => ?_)) <;> try simp (maxSteps := 4000000) only [go_sem, seval, hR])
 | intro _h
 | refine awp_block ?_
 | refine awp_scope ?_
 | refine cond_b ?_ ?_
 | (show heapOK _ _ = true; kernel_rfl)
 | (show heapOK2 _ _ = true; kernel_rfl)
 | (omega)))
                      refine ⟨(k + 1, J, isp R b.hall.toNat (R.getD b.hall.toNat 0 + ppl t b.homes)), ⟨by simp only; omega, hst _ hB2⟩, by simp only; omega, .le2 ?_⟩
                      simp only [rgH, plB, planC, busC, sl, slB, townC, slH, slL]; simp (maxSteps := 4000000) only [go_sem, seval]
                      try (first | rfl | exact ⟨rfl, rfl⟩)
          · have e2 : (0 ≤ b.hall ∧ b.hall ≤ (t.halls.length : Int) - 1) = False := eq_false c2
            have hfail := hbad (fun h => c2 h.hall) I R
            simp only [rgH, plB, planC, busC, sl, slB, townC, slH, slL]; simp (maxSteps := 4000000) only [go_sem, seval]
            (repeat' (first
 | ((exfalso; omega))
 | refine awp_seqK ?_
 | refine kt ?_
 | refine And.intro ?_ ?_
 | ((first | refine awp_stp rfl ?_ | refine awp_draw (by kernel_rfl) (by kernel_rfl) ?_ | refine Imp.le2 ?_ | refine callK_of (within_c _ _ _) ?_ | refine go_split (fun _h => ?_) (fun _h => ?_)) <;> try simp (maxSteps := 4000000) only [go_sem, seval, hb, busC, e1, e2, decide_true, decide_false, Bool.not_true, Bool.not_false])
 | intro _h
 | refine awp_block ?_
 | refine awp_scope ?_
 | refine cond_b ?_ ?_
 | (show heapOK _ _ = true; kernel_rfl)
 | (show heapOK2 _ _ = true; kernel_rfl)
 | (omega)))
            refine ⟨(false, I, R), ⟨hI, hR, hfail⟩, .le2 ?_⟩
            simp only [rgH, plB, planC, busC, sl, slB, townC, slH, slL]; simp (maxSteps := 4000000) only [go_sem, seval]
            try (first | rfl | exact ⟨rfl, rfl⟩)
        · have e1 : (0 ≤ b.leave ∧ b.leave ≤ 10000) = False := eq_false c1
          have hfail := hbad (fun h => c1 h.leave) I R
          simp only [rgH, plB, planC, busC, sl, slB, townC, slH, slL]; simp (maxSteps := 4000000) only [go_sem, seval]
          (repeat' (first
 | ((exfalso; omega))
 | refine awp_seqK ?_
 | refine kt ?_
 | refine And.intro ?_ ?_
 | ((first | refine awp_stp rfl ?_ | refine awp_draw (by kernel_rfl) (by kernel_rfl) ?_ | refine Imp.le2 ?_ | refine callK_of (within_c _ _ _) ?_ | refine go_split (fun _h => ?_) (fun _h => ?_)) <;> try simp (maxSteps := 4000000) only [go_sem, seval, hb, busC, e1, decide_false, Bool.not_false])
 | intro _h
 | refine awp_block ?_
 | refine awp_scope ?_
 | refine cond_b ?_ ?_
 | (show heapOK _ _ = true; kernel_rfl)
 | (show heapOK2 _ _ = true; kernel_rfl)
 | (omega)))
          refine ⟨(false, I, R), ⟨hI, hR, hfail⟩, .le2 ?_⟩
          simp only [rgH, plB, planC, busC, sl, slB, townC, slH, slL]; simp (maxSteps := 4000000) only [go_sem, seval]
          try (first | rfl | exact ⟨rfl, rfl⟩)
      · subst hk1
        have hend : outJ t plan (f0, I, R) := by unfold outJ; rw [hS]; simp only [hf0]
        simp only [rgH, plB, planC, busC, sl, slB, townC, slH, slL]; simp (maxSteps := 4000000) only [go_sem, seval]
        (repeat' (first
 | ((exfalso; omega))
 | refine awp_seqK ?_
 | refine kt ?_
 | refine And.intro ?_ ?_
 | ((first | refine awp_stp rfl ?_ | refine awp_draw (by kernel_rfl) (by kernel_rfl) ?_ | refine Imp.le2 ?_ | refine go_split (fun _h => ?_) (fun _h => ?_)) <;> try simp (maxSteps := 4000000) only [go_sem, seval])
 | intro _h
 | refine awp_block ?_
 | refine awp_scope ?_
 | refine cond_b ?_ ?_
 | (show heapOK _ _ = true; kernel_rfl)
 | (show heapOK2 _ _ = true; kernel_rfl)
 | (omega)))
        refine ⟨(f0, I, R), ⟨hI, hR, hend⟩, .le2 ?_⟩
        simp only [rgH, plB, planC, busC, sl, slB, townC, slH, slL]; simp (maxSteps := 4000000) only [go_sem, seval]
        try (first | rfl | exact ⟨rfl, rfl⟩)
  · rintro ⟨fine, I, R⟩ ⟨hI, hR, hJ⟩ s' hs'
    simp only at hI hR
    simp (maxSteps := 4000000) only [go_sem, seval]
    refine kt_imp hs' ?_
    refine kt ?_
    rw [right_out hJ]
    have hcf := contF_c I 0 (by omega)
    rw [hI] at hcf
    clear hJ hs'
    simp only [plB, planC, busC, sl, slB, townC, slH, slL, rgH]
    simp (maxSteps := 4000000) only [go_sem, seval]
    (repeat' (first
 | refine awp_seqK ?_
 | refine kt ?_
 | refine And.intro ?_ ?_
 | ((first | refine awp_stp rfl ?_ | refine awp_draw (by kernel_rfl) (by kernel_rfl) ?_ | refine Imp.le2 ?_ | refine go_split (fun _h => ?_) (fun _h => ?_)) <;> try simp (maxSteps := 4000000) only [go_sem, seval])
 | intro _h
 | refine awp_block ?_
 | refine awp_scope ?_
 | refine cond_b ?_ ?_
 | (show heapOK _ _ = true; kernel_rfl)
 | (show heapOK2 _ _ = true; kernel_rfl)
 | (omega)))
    refine awp_loopN t.halls.length (fun j => ⟨mkT 146 [(0, .ptr 0 0 0), (5, .osl 2 0 0 t.homes.length), (6, .osl 3 0 0 t.halls.length), (7, .bool (fine && decide (okR t R j))), (118, .osl 3 0 0 t.halls.length), (119, .int .i64 t.halls.length), (120, .int .i64 j)], rgH t K I R, []⟩) (.le2 ?_) ?_
    · have e0 : decide (okR t R 0) = true := decide_eq_true (fun i hi => by omega)
      simp only [plB, planC, busC, sl, slB, townC, slH, slL, rgH, e0, Bool.and_true]; simp (maxSteps := 4000000) only [go_sem, seval]
      try (first | rfl | exact ⟨rfl, rfl⟩)
    · intro j hj
      rcases Nat.lt_or_eq_of_le hj with hj1 | hj1
      · have hs1 : decide (okR t R (j + 1)) = (decide (okR t R j) && decide (R.getD j 0 ≤ (t.halls.getD j default).room)) := by
          rw [Bool.eq_iff_iff, Bool.and_eq_true, decide_eq_true_eq, decide_eq_true_eq, decide_eq_true_eq]
          constructor
          · intro h; exact ⟨fun i hi => h i (by omega), h j (by omega)⟩
          · rintro ⟨h1, h2⟩ i hi
            rcases Nat.lt_succ_iff_lt_or_eq.1 hi with h | rfl
            · exact h1 i h
            · exact h2
        rw [hs1]
        generalize decide (okR t R j) = c at *
        cases fine <;> cases c
        all_goals
          simp only [plB, planC, busC, sl, slB, townC, slH, slL, rgH, Bool.true_and, Bool.false_and, Bool.and_true, Bool.and_false]; simp (maxSteps := 4000000) only [go_sem, seval]
          (repeat' (first
 | ((exfalso; omega))
 | ((omega))
 | refine awp_seqK ?_
 | refine kt ?_
 | refine And.intro ?_ ?_
 | ((first | refine awp_stp rfl ?_ | refine awp_draw (by kernel_rfl) (by kernel_rfl) ?_ | refine Imp.le2 ?_ | refine go_split (fun _h => ?_) (fun _h => ?_)) <;> try simp (maxSteps := 4000000) only [go_sem, seval, hR])
 | intro _h
 | refine awp_block ?_
 | refine awp_scope ?_
 | refine cond_b ?_ ?_
 | (show heapOK _ _ = true; kernel_rfl)
 | (show heapOK2 _ _ = true; kernel_rfl)
 | (omega)))
          all_goals first | exact (decide_eq_true ‹_›).symm | exact (decide_eq_false ‹_›).symm | rfl | trace_state
      · subst hj1
        generalize (fine && decide (okR t R t.halls.length)) = c at *
        generalize (I.any fun x => !x) = a at *
        cases c
        · simp only [plB, planC, busC, sl, slB, townC, slH, slL, rgH]; simp (maxSteps := 4000000) only [go_sem, seval]
          (repeat' (first
 | ((exfalso; omega))
 | refine awp_seqK ?_
 | refine kt ?_
 | refine And.intro ?_ ?_
 | ((first | refine awp_stp rfl ?_ | refine awp_draw (by kernel_rfl) (by kernel_rfl) ?_ | refine Imp.le2 ?_ | refine go_split (fun _h => ?_) (fun _h => ?_)) <;> try simp (maxSteps := 4000000) only [go_sem, seval, hR])
 | intro _h
 | refine awp_block ?_
 | refine awp_scope ?_
 | refine cond_b ?_ ?_
 | (show heapOK _ _ = true; kernel_rfl)
 | (show heapOK2 _ _ = true; kernel_rfl)
 | (omega)))
          all_goals simp
        · simp only [plB, planC, busC, sl, slB, townC, slH, slL, rgH]; simp (maxSteps := 4000000) only [go_sem, seval]
          (repeat' (first
 | ((exfalso; omega))
 | (refine awp_ownN (id := 23) 3 rfl ?_; simp (maxSteps := 4000000) only [go_sem, seval, List.take_succ_cons, List.take_zero, hR])
 | (refine own_go (hcf) [2] rfl ?_ ?_ rfl ?_ <;> try simp (maxSteps := 4000000) only [go_sem, seval, Nat.lt_irrefl, hR] <;> try decide)
 | refine awp_seqK ?_
 | refine kt ?_
 | refine And.intro ?_ ?_
 | ((first | refine awp_stp rfl ?_ | refine awp_draw (by kernel_rfl) (by kernel_rfl) ?_ | refine Imp.le2 ?_ | refine go_split (fun _h => ?_) (fun _h => ?_)) <;> try simp (maxSteps := 4000000) only [go_sem, seval, hR])
 | intro _h
 | refine awp_block ?_
 | refine awp_scope ?_
 | refine cond_b ?_ ?_
 | (show heapOK _ _ = true; kernel_rfl)
 | (show heapOK2 _ _ = true; kernel_rfl)
 | (omega)))
          all_goals first | (simp only [*, Bool.true_and]; done) | trace_state
end Go.Am

/- Contracts of the away functions: a plan. -/
namespace Go.Am
open Go.RowKit Go.Proofs
attribute [local irreducible] AWP CallS Kt goK CallK stepK evOps SemF SemY Imp
set_option maxRecDepth 4000
set_option linter.unusedSimpArgs false
set_option linter.unusedVariables false
set_option maxHeartbeats 3200000
theorem ey_x {X : Ctx} {H' : List (Option ABlk)} {b id : Nat} {y : Bool} {s : St} : endY X b y H' (.exit id) s = recK .busy (hget s.H b) fun fn T ps asg body d => y = false ∧ Le2 X ⟨[], hset s.H b (.loop .done (some (.exit id)) fn T ps asg body d), []⟩ ⟨[], H', []⟩ := nrfl rfl
attribute [go_sem] ey_x
def planE (t : Town) : Int := if faultT t ≠ 0 then faultT t else if 1000 ≤ needV t (stBeg t t.homes.length t.halls.length) then 9 else 0
def planL (t : Town) : List Bus := planF t 256 (stBeg t t.homes.length t.halls.length)
def planV (t : Town) : AV := if planE t = 0 then slB (planL t) else .nils
theorem stBeg_ok {t : Town} (ht : TownOK t) {n : Nat} (hn : n ≤ t.homes.length) : StOK t (stBeg t n t.halls.length) := by
  have h0 := ht.hall 0
  have h1 := ht.hall 1
  have h2 := ht.hall 2
  refine ⟨?_, fun i => ?_⟩
  · have : 2 ^ n ≤ 2 ^ t.homes.length := Nat.pow_le_pow_right (by omega) hn
    have := Nat.two_pow_pos n
    show 2 ^ n - 1 < _
    omega
  · simp only [Sta.room, stBeg]
    by_cases a : 0 < t.halls.length
    · have b0 := (h0 a).room
      by_cases c : 1 < t.halls.length
      · have b1 := (h1 c).room
        by_cases d : 2 < t.halls.length
        · have b2 := (h2 d).room
          simp only [a, c, d, if_true]; split <;> (try split) <;> omega
        · simp only [a, c, d, if_true, if_false]; split <;> (try split) <;> omega
      · simp only [a, c, show ¬ 2 < t.halls.length by omega, if_true, if_false]; split <;> (try split) <;> omega
    · simp only [a, show ¬ 1 < t.halls.length by omega, show ¬ 2 < t.halls.length by omega, if_false]; split <;> (try split) <;> omega
def plH (t : Town) (s : Sta) (L : List Bus) (K : Kmap) : List (Option ABlk) :=
  [some (.cells 40 1 0 (townC t)), some (.cells 32 1 0 [.osl 7 L.length 0 L.length]), none, some (.map (kmC K)), plB t 3, some (.cells 93 1 0 [.ptr 4 0 0]), some (.cells 98 1 0 (stC s)), some (.cells 48 3 L.length (recs busC L))]
def rT : List AV := mkT 47 [(1, .ptr 0 0 0), (2, .ptr 1 0 0), (5, .ptr 5 0 0), (6, .ptr 6 0 0), (30, .fn (.func 76) [] [.ptr 9 0 0, .ptr 8 0 0])]
def plT : List AV := mkT 47 [(1, .ptr 0 0 0), (2, .ptr 1 0 0), (5, .ptr 5 0 0), (6, .ptr 6 0 0)]
theorem Plan_c (t : Town) (hb : townOK t) : CallS Try.prog 17 [.agg (townC t)] (.tup [planV t, .int .i64 (planE t)]) := by
  have hch := check_c t hb
  by_cases h0 : faultT t = 0
  · have ht := faultT_zero h0
    have hln := ht.homes
    have e0 : (faultT t = 0) = True := eq_true h0
    have hpl := planning_c t ht
    have hbe := begin_c t t.homes.length [] ht (by omega)
    have hso := stBeg_ok ht (Nat.le_refl _)
    have hfw := fewest_c t ht _ [] hso GoodK.nil
    have hK := fwK_good (hso.lt ht) (GoodK.nil (t := t))
    generalize hs0 : stBeg t t.homes.length t.halls.length = s0 at *
    generalize fwK t s0 [] = K at *
    have hnb := needV_bd (t := t) (s := s0)
    simp only [h0, plH, plT, plB, planC, busC, sl, townC, slH, slL, stC] at hch hpl hbe hfw
    by_cases hl : 1000 ≤ needV t s0
    · have e1 : planE t = 9 := by simp [planE, h0, hs0, hl]
      have e2 : (1000 ≤ needV t s0) = True := eq_true hl
      rw [show planV t = .nils by simp [planV, e1], e1]
      (refine callS_of_awp (fun w args => Try.call17 ..) Try.func17 rfl (fun w0 m0 wz => ?_); simp only [Try.ntmps17, Try.results17, initT, junks, homeC, hallC, slH, slL, townC, sl, List.toList_toArray, List.cons_append, List.nil_append, List.length_cons, List.length_nil, Nat.reduceAdd, Nat.reduceSub])
      (repeat' (first
 | (refine awp_ownN 1 rfl ?_; simp (maxSteps := 4000000) only [go_sem, seval, List.take_succ_cons, List.take_zero, e0, decide_true, e2]; (repeat refine And.intro (by omega) ?_); refine own_go (hpl) [] rfl ?_ ?_ rfl ?_ <;> try simp (maxSteps := 4000000) only [go_sem, seval, Nat.lt_irrefl, e0, decide_true, e2] <;> try decide)
 | (refine awp_ownN 4 rfl ?_; simp (maxSteps := 4000000) only [go_sem, seval, List.take_succ_cons, List.take_zero, e0, decide_true, e2]; (repeat refine And.intro (by omega) ?_); refine own_go (hbe) [4, 3] rfl ?_ ?_ rfl ?_ <;> try simp (maxSteps := 4000000) only [go_sem, seval, Nat.lt_irrefl, e0, decide_true, e2] <;> try decide)
 | (refine awp_ownN 2 rfl ?_; simp (maxSteps := 4000000) only [go_sem, seval, List.take_succ_cons, List.take_zero, e0, decide_true, e2]; (repeat refine And.intro (by omega) ?_); refine own_go (hfw) [4, 3] rfl ?_ ?_ rfl ?_ <;> try simp (maxSteps := 4000000) only [go_sem, seval, Nat.lt_irrefl, e0, decide_true, e2] <;> try decide)
 | refine awp_seqK ?_
 | refine kt ?_
 | refine And.intro ?_ ?_
 | ((first | refine awp_stp rfl ?_ | refine awp_draw (by kernel_rfl) (by kernel_rfl) ?_ | refine Imp.le2 ?_ | refine callK_of (hch) ?_ | refine go_split (fun _h => ?_) (fun _h => ?_)) <;> try simp (maxSteps := 4000000) only [go_sem, seval, e0, decide_true, e2])
 | intro _h
 | refine awp_block ?_
 | refine awp_scope ?_
 | refine cond_b ?_ ?_
 | (show heapOK _ _ = true; kernel_rfl)
 | (show heapOK2 _ _ = true; kernel_rfl)
 | (omega)))
      all_goals trace_state
    · have e1 : planE t = 0 := by simp [planE, h0, hs0, hl]
      have e2 : (1000 ≤ needV t s0) = False := eq_false hl
      simp only [planV, e1, if_true, slB, planL, hs0]
      have hPl : (planF t 256 s0).length ≤ 256 := planF_le 256 s0
      generalize hP : planF t 256 s0 = P at *
      (refine callS_of_awpZ (fun w args => Try.call17 ..) Try.func17 rfl (fun w0 wz => ?_); simp only [Try.ntmps17, Try.results17, initT, junks, homeC, hallC, slH, slL, townC, sl, List.toList_toArray, List.cons_append, List.nil_append, List.length_cons, List.length_nil, Nat.reduceAdd, Nat.reduceSub])
      (repeat' (first
 | (refine awp_ownN 1 rfl ?_; simp (maxSteps := 4000000) only [go_sem, seval, List.take_succ_cons, List.take_zero, e0, decide_true, e2, decide_false]; (repeat refine And.intro (by omega) ?_); refine own_go (hpl) [] rfl ?_ ?_ rfl ?_ <;> try simp (maxSteps := 4000000) only [go_sem, seval, Nat.lt_irrefl, e0, decide_true, e2, decide_false] <;> try decide)
 | (refine awp_ownN 4 rfl ?_; simp (maxSteps := 4000000) only [go_sem, seval, List.take_succ_cons, List.take_zero, e0, decide_true, e2, decide_false]; (repeat refine And.intro (by omega) ?_); refine own_go (hbe) [4, 3] rfl ?_ ?_ rfl ?_ <;> try simp (maxSteps := 4000000) only [go_sem, seval, Nat.lt_irrefl, e0, decide_true, e2, decide_false] <;> try decide)
 | (refine awp_ownN 2 rfl ?_; simp (maxSteps := 4000000) only [go_sem, seval, List.take_succ_cons, List.take_zero, e0, decide_true, e2, decide_false]; (repeat refine And.intro (by omega) ?_); refine own_go (hfw) [4, 3] rfl ?_ ?_ rfl ?_ <;> try simp (maxSteps := 4000000) only [go_sem, seval, Nat.lt_irrefl, e0, decide_true, e2, decide_false] <;> try decide)
 | refine awp_seqK ?_
 | refine kt ?_
 | refine And.intro ?_ ?_
 | ((first | refine awp_stp rfl ?_ | refine awp_draw (by kernel_rfl) (by kernel_rfl) ?_ | refine Imp.le2 ?_ | refine callK_of (hch) ?_ | refine go_split (fun _h => ?_) (fun _h => ?_)) <;> try simp (maxSteps := 4000000) only [go_sem, seval, e0, decide_true, e2, decide_false])
 | intro _h
 | refine awp_block ?_
 | refine awp_scope ?_
 | refine cond_b ?_ ?_
 | (show heapOK _ _ = true; kernel_rfl)
 | (show heapOK2 _ _ = true; kernel_rfl)
 | (omega)))
      refine awp_adH 1 0 48 3 rfl rfl ?_
      simp only [adH, hget, hset, lset, List.length_cons, List.length_nil, Nat.reduceAdd]
      refine awp_loopJ (fun x : Nat × Sta × Kmap × List Bus => StOK t x.2.1 ∧ x.2.1.rest < x.1 ∧ GoodK t x.2.2.1 ∧ needV t x.2.1 < 1000 ∧ x.2.2.2 ++ planF t x.1 x.2.1 = P) (fun x => ⟨plT, plH t x.2.1 x.2.2.2 x.2.2.1, []⟩) (fun x => x.2.1.rest) (256, s0, K, []) ⟨hso, hso.lt ht, hK, by simp only; omega, hP⟩ (.le2 ?_) ?_
      · simp only [plH, plT, rT, plB, planC, busC, sl, townC, slH, slL, stC]; simp (maxSteps := 4000000) only [go_sem, seval]
        try (first | rfl | exact ⟨rfl, rfl⟩)
      · rintro ⟨f, s, K, L⟩ ⟨hs, hf, hK, hnV, hLP⟩
        simp only at hs hf hK hnV hLP
        have hLl : L.length ≤ 256 := by rw [← hLP] at hPl; simp only [List.length_append] at hPl; omega
        cases f with
        | zero => omega
        | succ f =>
          have hr8 := hs.lt ht
          simp only [planF] at hLP
          by_cases h0 : s.rest = 0
          · rw [if_pos h0, List.append_nil] at hLP
            subst hLP
            have eZ : ((s.rest : Int) = 0) = True := eq_true (by omega)
            simp only [plH, plT, rT, plB, planC, busC, sl, townC, slH, slL, stC]; simp (maxSteps := 4000000) only [go_sem, seval]
            (repeat' (first
 | refine awp_seqK ?_
 | refine kt ?_
 | refine And.intro ?_ ?_
 | ((first | refine awp_stp rfl ?_ | refine awp_draw (by kernel_rfl) (by kernel_rfl) ?_ | refine Imp.le2 ?_ | refine go_split (fun _h => ?_) (fun _h => ?_)) <;> try simp (maxSteps := 4000000) only [go_sem, seval, eZ, decide_true, Bool.not_true])
 | intro _h
 | refine awp_block ?_
 | refine awp_scope ?_
 | refine cond_b ?_ ?_
 | (show heapOK _ _ = true; kernel_rfl)
 | (show heapOK2 _ _ = true; kernel_rfl)
 | (omega)))
            all_goals trace_state
          · rw [if_neg h0] at hLP
            have eZ : ((s.rest : Int) = 0) = False := eq_false (by omega)
            obtain ⟨p, hp1, hp2, hp3⟩ := find_some hr8 h0 hnV
            rw [hp1] at hLP
            simp only at hLP
            have hE1 := findM_find (t := t) (s := s) (nextL t s) K
            rw [hp1] at hE1
            have hpr := nextL_rest hr8 h0 hp2
            have hps : StOK t p.2 := by
              obtain ⟨x, j, h1, h2, h3, h4⟩ := (nextL_mem hr8).1 hp2
              rw [h4]; exact toSt_ok ht hs h0 h1 h2 h3
            have hnx := next_c t s K
            have hE : findM t s (nextL t s) K = (some p, (findM t s (nextL t s) K).2) := by rw [← hE1]
            have hKE := findM_good (t := t) hr8 (nextL t s) K (fun q hq => by have := nextL_rest hr8 h0 hq; omega) hK
            generalize (findM t s (nextL t s) K).2 = KE at hE hKE
            have e1 := low_nat hr8
            have e2 : andn s.rest (lowB s.rest : Nat) = ((othB s.rest : Nat) : Int) := andn_nat2 hr8 (lowB_lt hr8)
            have hhl := ht.halls
            simp only [plH, plT, rT, plB, planC, busC, sl, townC, slH, slL, stC] at hnx
            simp only [plH, plT, rT, plB, planC, busC, sl, townC, slH, slL, stC]; simp (maxSteps := 4000000) only [go_sem, seval]
            (repeat' (first
 | (refine awp_ownN 2 rfl ?_; simp (maxSteps := 4000000) only [go_sem, seval, List.take_succ_cons, List.take_zero, eZ, decide_false, Bool.not_false]; (repeat refine And.intro (by omega) ?_); refine own_go (hnx) [4, 3] rfl ?_ ?_ rfl ?_ <;> try simp (maxSteps := 4000000) only [go_sem, seval, Nat.lt_irrefl, eZ, decide_false, Bool.not_false] <;> try decide)
 | refine awp_seqK ?_
 | refine kt ?_
 | refine And.intro ?_ ?_
 | ((first | refine awp_stp rfl ?_ | refine awp_draw (by kernel_rfl) (by kernel_rfl) ?_ | refine Imp.le2 ?_ | refine go_split (fun _h => ?_) (fun _h => ?_)) <;> try simp (maxSteps := 4000000) only [go_sem, seval, eZ, decide_false, Bool.not_false])
 | intro _h
 | refine awp_block ?_
 | refine awp_scope ?_
 | refine cond_b ?_ ?_
 | (show heapOK _ _ = true; kernel_rfl)
 | (show heapOK2 _ _ = true; kernel_rfl)
 | (omega)))
            refine AWP.le2 (s' := ⟨rT, plH t s L K ++ [some (.cells 93 1 0 [.ptr 4 0 0]), some (.cells 98 1 0 (stC s))], []⟩) (by simp only [plH, plT, rT, plB, planC, busC, sl, townC, slH, slL, stC]; simp (maxSteps := 4000000) only [go_sem, seval]) ?_
            refine awp_rangeZ (gf := 76) (first := []) (caps := [.ptr 9 0 0, .ptr 8 0 0]) (by simp only [rT]; simp (maxSteps := 4000000) only [go_sem, seval]) 10 rfl ?_
            intro ca cb hca hcb
            refine ⟨.tup [], plH t p.2 (L ++ [p.1]) KE ++ ([some (.cells 93 1 0 [.ptr 4 0 0]), some (.cells 98 1 0 (stC s))] ++ [some (.dfr true), some (.loop .done (some (.exit 2)) 0 rT #[31, 32] ca cb 10)]), .done, some (.exit 2), .exit 2, ?_, ?_, by simp, rfl, ?_⟩
            · simp only [plH, plT, rT, plB, planC, busC, sl, townC, slH, slL, stC]
              simp (maxSteps := 4000000) only [go_sem, seval]
              (refine semF_of_awp (ys := []) (fun w args => Try.call76 ..) Try.func76 rfl (fun w0 m0 wz => ?_); simp only [Try.ntmps76, Try.results76, initT, junks, homeC, hallC, slH, slL, townC, sl, List.toList_toArray, List.cons_append, List.nil_append, List.length_cons, List.length_nil, Nat.reduceAdd, Nat.reduceSub])
              (repeat' (first
 | refine awp_seqK ?_
 | refine kt ?_
 | refine And.intro ?_ ?_
 | ((first | refine awp_stp rfl ?_ | refine awp_draw (by kernel_rfl) (by kernel_rfl) ?_ | refine Imp.le2 ?_ | refine go_split (fun _h => ?_) (fun _h => ?_)) <;> try simp (maxSteps := 4000000) only [go_sem, seval, e1, e2])
 | intro _h
 | refine awp_block ?_
 | refine awp_scope ?_
 | refine cond_b ?_ ?_
 | (show heapOK _ _ = true; kernel_rfl)
 | (show heapOK2 _ _ = true; kernel_rfl)
 | (omega)))
              refine awp_loopJ (fun x : Nat × Kmap => x.1 &&& othB s.rest = x.1 ∧ GoodK t x.2 ∧ findM t s (candL t s (subsR (othB s.rest) x.1)) x.2 = (some p, KE))
                (fun x => ⟨mkT 79 [(0, .fn (.yield 11) [] []), (1, .ptr 9 0 0), (2, .ptr 8 0 0), (4, .int .u8 (lowB s.rest : Nat)), (5, .int .u8 (othB s.rest : Nat)), (6, .int .u8 (x.1 : Nat))], plH t s L x.2 ++ ([some (.cells 93 1 0 [.ptr 4 0 0]), some (.cells 98 1 0 (stC s))] ++ [some (.dfr true), some (.loop .ready none 0 rT #[31, 32] ca cb 10)]), []⟩) (fun x => x.1) (othB s.rest, K) ⟨Nat.and_self _, hK, hE⟩ (.le2 ?_) ?_
              · simp only [plH, plT, rT, plB, planC, busC, sl, townC, slH, slL, stC]; simp (maxSteps := 4000000) only [go_sem, seval]
                try (first | rfl | exact ⟨rfl, rfl⟩)
              · rintro ⟨x, K1⟩ ⟨hx, hK1, hF⟩
                simp only at hx hK1 hF
                rw [subsR_step] at hF
                simp only [candL] at hF
                have hx8 : x < 256 := by have := sub_le hx; have := ndiff_lt (b := lowB s.rest) hr8; unfold othB at *; omega
                have hmk := mask_sub hr8 hx
                have hmk2 := sub_le hmk
                have e3 : u8or (lowB s.rest : Nat) (x : Nat) = ((lowB s.rest ||| x : Nat) : Int) := u8or_nat (lowB_lt hr8) hx8
                have htok := fun i => toSt_ok (x := x) (i := i) ht hs h0 hx
                generalize hM : lowB s.rest ||| x = M at *
                have e4 : andn s.rest M = ((ndiff s.rest M : Nat) : Int) := andn_nat2 hr8 (by omega)
                simp only [plH, plT, rT, plB, planC, busC, sl, townC, slH, slL, stC]; simp (maxSteps := 4000000) only [go_sem, seval]
                (repeat' (first
 | refine awp_seqK ?_
 | refine kt ?_
 | refine And.intro ?_ ?_
 | ((first | refine awp_stp rfl ?_ | refine awp_draw (by kernel_rfl) (by kernel_rfl) ?_ | refine Imp.le2 ?_ | refine go_split (fun _h => ?_) (fun _h => ?_)) <;> try simp (maxSteps := 4000000) only [go_sem, seval])
 | intro _h
 | refine awp_block ?_
 | refine awp_scope ?_
 | refine cond_b ?_ ?_
 | (show heapOK _ _ = true; kernel_rfl)
 | (show heapOK2 _ _ = true; kernel_rfl)
 | (omega)))
                refine awp_loopJ (fun y : Nat × Kmap => y.1 ≤ t.halls.length ∧ GoodK t y.2 ∧ findM t s (hallsL t s M (t.halls.length - y.1) y.1 ++ candL t s (if x = 0 then [] else subsR (othB s.rest) ((x - 1) &&& othB s.rest))) y.2 = (some p, KE))
                  (fun y => ⟨mkT 79 [(0, .fn (.yield 11) [] []), (1, .ptr 9 0 0), (2, .ptr 8 0 0), (4, .int .u8 (lowB s.rest : Nat)), (5, .int .u8 (othB s.rest : Nat)), (6, .int .u8 (x : Nat)), (31, .int .i64 t.halls.length), (32, .int .i64 y.1)], plH t s L y.2 ++ ([some (.cells 93 1 0 [.ptr 4 0 0]), some (.cells 98 1 0 (stC s))] ++ [some (.dfr true), some (.loop .ready none 0 rT #[31, 32] ca cb 10)]), []⟩) (fun y => t.halls.length - y.1) (0, K1) ⟨Nat.zero_le _, hK1, hF⟩ (.le2 ?_) ?_
                · simp only [plH, plT, rT, plB, planC, busC, sl, townC, slH, slL, stC]; simp (maxSteps := 4000000) only [go_sem, seval]
                  try (first | rfl | exact ⟨rfl, rfl⟩)
                · rintro ⟨i, K1⟩ ⟨hi, hK1, hF⟩
                  simp only at hi hK1 hF
                  rcases Nat.lt_or_eq_of_le hi with hi1 | hi1
                  · rw [show t.halls.length - i = (t.halls.length - (i + 1)) + 1 by omega] at hF
                    simp only [hallsL] at hF
                    have hmask : M < 2 ^ t.homes.length := by have := hs.rest; omega
                    have hbus := bus_c t M i K1 ht hmask
                    have hin := lst_in hmask hln.2
                    have hl8 : (lst M).length ≤ 8 := lstN_le 8
                    have hbI : BusIn t (mkBus t M i) := ⟨hin, ⟨by simp [mkBus], by simp [mkBus]; omega⟩, by have := leaveL_bd ht hin (lst M).length (Nat.le_refl _); simp only [mkBus]; omega, by simp only [mkBus]; omega⟩
                    have hpe := people_c t (mkBus t M i) K1 ht hbI.homes hbI.len
                    have hma := may_c t (mkBus t M i) K1 ht hbI
                    have hpb := pplL_bd ht hin (lst M).length (Nat.le_refl _)
                    have hpl : ppl t (mkBus t M i).homes = ppl t (lst M) := rfl
                    have hpl2 : pplL t (lst M) (lst M).length = ppl t (lst M) := rfl
                    rw [hpl] at hpe
                    rw [hpl2] at hpb
                    have hfit : fitsB t s M i = (decide (ppl t (lst M) ≤ s.room i) && mayB t (mkBus t M i)) := rfl
                    have hrm : (if i = 0 then s.r0 else if i = 1 then s.r1 else s.r2) = s.room i := rfl
                    have hrb := hs.room i
                    have hi3 : i < 3 := by omega
                    have hsp := fun (x : AV) (a b c v : Int) => sp_room (x := x) (a := a) (b := b) (c := c) (v := v) hi3
                    have hr0 : (if i = 0 then s.room i - ppl t (lst M) else s.r0) = (toSt t s M i).r0 := rfl
                    have hr1 : (if i = 1 then s.room i - ppl t (lst M) else s.r1) = (toSt t s M i).r1 := rfl
                    have hr2 : (if i = 2 then s.room i - ppl t (lst M) else s.r2) = (toSt t s M i).r2 := rfl
                    have hto : (toSt t s M i).rest = ndiff s.rest M := rfl
                    have hsto := htok i hi1
                    rw [← hto] at e4
                    clear hpl hpl2
                    generalize mkBus t M i = b at *
                    generalize toSt t s M i = to at *
                    generalize ppl t (lst M) = pp at *
                    have key : (pp ≤ s.room i ∧ mayB t b = true ∧ fitsB t s M i = true) ∨ (pp ≤ s.room i ∧ mayB t b = false ∧ fitsB t s M i = false) ∨ (¬ pp ≤ s.room i ∧ fitsB t s M i = false) := by
                      rw [hfit]
                      by_cases h1 : pp ≤ s.room i
                      · cases h2 : mayB t b
                        · exact .inr (.inl ⟨h1, rfl, by simp⟩)
                        · exact .inl ⟨h1, rfl, by simp [h1]⟩
                      · exact .inr (.inr ⟨h1, by simp [h1]⟩)
                    rcases key with ⟨k1, k2, k3⟩ | ⟨k1, k2, k3⟩ | ⟨k1, k3⟩
                    · rw [if_pos k3] at hF
                      have eR : (pp ≤ s.room i) = True := eq_true k1
                      replace hsto := hsto k3
                      have hf1 := fewest_c t ht s K1 hs hK1
                      have hK2 := fwK_good hr8 hK1
                      have hf2 := fewest_c t ht to (fwK t s K1) hsto hK2
                      have hK3 := fwK_good (hsto.lt ht) hK2
                      have hvb := needV_bd (t := t) (s := to)
                      simp only [List.cons_append, findM] at hF
                      generalize fwK t to (fwK t s K1) = K3 at *
                      generalize fwK t s K1 = K2 at *
                      generalize needV t s = v1 at *
                      generalize needV t to = v2 at *
                      rw [k2] at hma
                      simp only [plH, plT, rT, plB, planC, busC, sl, townC, slH, slL, stC] at hbus hpe hma hf1 hf2 ⊢
                      by_cases hv : v1 = 1 + v2
                      · rw [if_pos hv] at hF
                        simp only [Prod.mk.injEq, Option.some.injEq] at hF
                        obtain ⟨rfl, rfl⟩ := hF
                        have eV : (v1 = 1 + v2) = True := eq_true hv
                        simp (maxSteps := 4000000) only [go_sem, seval]
                        (repeat' (first
 | (refine awp_ownN 5 rfl ?_; simp (maxSteps := 4000000) only [go_sem, seval, List.take_succ_cons, List.take_zero, e3, e4, hrm, eR, decide_true, hsp, hr0, hr1, hr2]; (repeat refine And.intro (by omega) ?_); refine own_go (hbus) [4, 3] rfl ?_ ?_ rfl ?_ <;> try simp (maxSteps := 4000000) only [go_sem, seval, Nat.lt_irrefl, e3, e4, hrm, eR, decide_true, hsp, hr0, hr1, hr2] <;> try decide)
 | (refine awp_ownN 2 rfl ?_; simp (maxSteps := 4000000) only [go_sem, seval, List.take_succ_cons, List.take_zero, e3, e4, hrm, eR, decide_true, hsp, hr0, hr1, hr2]; (repeat refine And.intro (by omega) ?_); refine own_go (hpe) [4, 3] rfl ?_ ?_ rfl ?_ <;> try simp (maxSteps := 4000000) only [go_sem, seval, Nat.lt_irrefl, e3, e4, hrm, eR, decide_true, hsp, hr0, hr1, hr2] <;> try decide)
 | (refine awp_ownN (id := 9) 9 rfl ?_; simp (maxSteps := 4000000) only [go_sem, seval, List.take_succ_cons, List.take_zero, e3, e4, hrm, eR, decide_true, hsp, hr0, hr1, hr2])
 | (refine own_go (hma) [4, 3] rfl ?_ ?_ rfl ?_ <;> try simp (maxSteps := 4000000) only [go_sem, seval, Nat.lt_irrefl, e3, e4, hrm, eR, decide_true, hsp, hr0, hr1, hr2] <;> try decide)
 | ((exfalso; omega))
 | ((refine awp_ownN 3 rfl ?_; simp (maxSteps := 4000000) only [go_sem, seval, List.take_succ_cons, List.take_zero]; refine callH_yield false (plH t to (L ++ [b]) K3 ++ ([some (.cells 93 1 0 [.ptr 4 0 0]), some (.cells 98 1 0 (stC s))] ++ [some (.dfr true), some (.loop .done (some (.exit 2)) 0 rT #[31, 32] ca cb 10)]) ++ [some (.cells 48 1 0 (busC b)), some (.cells 98 1 0 (stC to))]) ?_ ?_ <;> simp only [plH, plT, rT, plB, planC, busC, sl, townC, slH, slL, stC] <;> (try simp (maxSteps := 4000000) only [go_sem, seval])))
 | refine awp_seqK ?_
 | refine kt ?_
 | refine And.intro ?_ ?_
 | ((first | refine awp_stp rfl ?_ | refine awp_draw (by kernel_rfl) (by kernel_rfl) ?_ | refine Imp.le2 ?_ | refine go_split (fun _h => ?_) (fun _h => ?_)) <;> try simp (maxSteps := 4000000) only [go_sem, seval, e3, e4, hrm, eR, decide_true, hsp, hr0, hr1, hr2])
 | intro _h
 | refine awp_block ?_
 | refine awp_scope ?_
 | refine cond_b ?_ ?_
 | (show heapOK _ _ = true; kernel_rfl)
 | (show heapOK2 _ _ = true; kernel_rfl)
 | (omega)))
                        · refine semY_of_awpZ rfl rfl ?_
                          intro B w0 l m w
                          refine awp_code hca ?_
                          (repeat' (first
 | refine awp_seqK ?_
 | refine kt ?_
 | refine And.intro ?_ ?_
 | ((first | refine awp_stp rfl ?_ | refine awp_draw (by kernel_rfl) (by kernel_rfl) ?_ | refine Imp.le2 ?_ | refine go_split (fun _h => ?_) (fun _h => ?_)) <;> try simp (maxSteps := 4000000) only [go_sem, seval])
 | intro _h
 | refine awp_block ?_
 | refine awp_scope ?_
 | refine cond_b ?_ ?_
 | (show heapOK _ _ = true; kernel_rfl)
 | (show heapOK2 _ _ = true; kernel_rfl)
 | (omega)))
                          refine awp_code hcb ?_
                          (repeat' (first
 | refine awp_seqK ?_
 | refine kt ?_
 | refine And.intro ?_ ?_
 | ((first | refine awp_stp rfl ?_ | refine Imp.le2 ?_ | refine go_split (fun _h => ?_) (fun _h => ?_)) <;> try simp (maxSteps := 4000000) only [go_sem, seval])
 | intro _h
 | refine awp_block ?_
 | refine awp_scope ?_
 | refine cond_b ?_ ?_
 | (show heapOK _ _ = true; kernel_rfl)
 | (show heapOK2 _ _ = true; kernel_rfl)
 | (omega)))
                          ((repeat refine awp_seqK ?_); refine awp_draws [(2, [3]), (2, [3])] (by kernel_rfl) (by kernel_rfl) ?_; simp (maxSteps := 4000000) only [go_sem, seval, sg_cons, sg_nil, List.take_succ_cons, List.take_zero, List.drop_succ_cons, List.drop_zero])
                          (refine own_go (hf1) [4, 3] rfl (by simp (maxSteps := 4000000) only [go_sem, seval]) (by simp (maxSteps := 4000000) only [go_sem, seval, Nat.lt_irrefl] <;> decide) rfl ?_; simp (maxSteps := 4000000) only [go_sem, seval]; refine And.intro (frm_of (by repeat (first | exact rfl | exact ⟨_, rfl⟩ | refine And.intro ?_ ?_))) ?_; try simp (maxSteps := 4000000) only [go_sem, seval, sg_cons, sg_nil, List.take_succ_cons, List.take_zero, List.drop_succ_cons, List.drop_zero])
                          (refine own_go (hf2) [4, 3] rfl (by simp (maxSteps := 4000000) only [go_sem, seval]) (by simp (maxSteps := 4000000) only [go_sem, seval, Nat.lt_irrefl] <;> decide) rfl ?_; simp (maxSteps := 4000000) only [go_sem, seval]; refine And.intro (frm_of (by repeat (first | exact rfl | exact ⟨_, rfl⟩ | refine And.intro ?_ ?_))) ?_; try simp (maxSteps := 4000000) only [go_sem, seval, sg_cons, sg_nil, List.take_succ_cons, List.take_zero, List.drop_succ_cons, List.drop_zero])
                          have hsn : recs busC L ++ [.int .i64 b.leave, .int .i64 b.hall, .psl false b.homes.length (ints b.homes)] = recs busC (L ++ [b]) := by rw [recs_snoc]; rfl
                          have hlb : (L ++ [b]).length = L.length + 1 := by simp
                          have e23 : ((2 : Nat) = 3) = False := eq_false (by decide)
                          (repeat' (first
 | refine awp_seqK ?_
 | refine kt ?_
 | refine And.intro ?_ ?_
 | ((first | refine awp_stp rfl ?_ | refine awp_draw (by kernel_rfl) (by kernel_rfl) ?_ | refine Imp.le2 ?_ | refine go_split (fun _h => ?_) (fun _h => ?_)) <;> try simp (maxSteps := 4000000) only [go_sem, seval, eV, decide_true, hsn, hlb, e23, if_false])
 | intro _h
 | refine awp_block ?_
 | refine awp_scope ?_
 | refine cond_b ?_ ?_
 | (show heapOK _ _ = true; kernel_rfl)
 | (show heapOK2 _ _ = true; kernel_rfl)
 | (omega)))
                          all_goals trace_state
                      · rw [if_neg hv] at hF
                        have eV : (v1 = 1 + v2) = False := eq_false hv
                        simp (maxSteps := 4000000) only [go_sem, seval]
                        (repeat' (first
 | (refine awp_ownN 5 rfl ?_; simp (maxSteps := 4000000) only [go_sem, seval, List.take_succ_cons, List.take_zero, e3, e4, hrm, eR, decide_true, hsp, hr0, hr1, hr2]; (repeat refine And.intro (by omega) ?_); refine own_go (hbus) [4, 3] rfl ?_ ?_ rfl ?_ <;> try simp (maxSteps := 4000000) only [go_sem, seval, Nat.lt_irrefl, e3, e4, hrm, eR, decide_true, hsp, hr0, hr1, hr2] <;> try decide)
 | (refine awp_ownN 2 rfl ?_; simp (maxSteps := 4000000) only [go_sem, seval, List.take_succ_cons, List.take_zero, e3, e4, hrm, eR, decide_true, hsp, hr0, hr1, hr2]; (repeat refine And.intro (by omega) ?_); refine own_go (hpe) [4, 3] rfl ?_ ?_ rfl ?_ <;> try simp (maxSteps := 4000000) only [go_sem, seval, Nat.lt_irrefl, e3, e4, hrm, eR, decide_true, hsp, hr0, hr1, hr2] <;> try decide)
 | (refine awp_ownN (id := 9) 9 rfl ?_; simp (maxSteps := 4000000) only [go_sem, seval, List.take_succ_cons, List.take_zero, e3, e4, hrm, eR, decide_true, hsp, hr0, hr1, hr2])
 | (refine own_go (hma) [4, 3] rfl ?_ ?_ rfl ?_ <;> try simp (maxSteps := 4000000) only [go_sem, seval, Nat.lt_irrefl, e3, e4, hrm, eR, decide_true, hsp, hr0, hr1, hr2] <;> try decide)
 | ((exfalso; omega))
 | ((refine awp_ownN 3 rfl ?_; simp (maxSteps := 4000000) only [go_sem, seval, List.take_succ_cons, List.take_zero]; refine callH_yield true (plH t s L K3 ++ ([some (.cells 93 1 0 [.ptr 4 0 0]), some (.cells 98 1 0 (stC s))] ++ [some (.dfr true), some (.loop .ready none 0 rT #[31, 32] ca cb 10)]) ++ [some (.cells 48 1 0 (busC b)), some (.cells 98 1 0 (stC to))]) ?_ ?_ <;> simp only [plH, plT, rT, plB, planC, busC, sl, townC, slH, slL, stC] <;> (try simp (maxSteps := 4000000) only [go_sem, seval])))
 | refine awp_seqK ?_
 | refine kt ?_
 | refine And.intro ?_ ?_
 | ((first | refine awp_stp rfl ?_ | refine awp_draw (by kernel_rfl) (by kernel_rfl) ?_ | refine Imp.le2 ?_ | refine go_split (fun _h => ?_) (fun _h => ?_)) <;> try simp (maxSteps := 4000000) only [go_sem, seval, e3, e4, hrm, eR, decide_true, hsp, hr0, hr1, hr2])
 | intro _h
 | refine awp_block ?_
 | refine awp_scope ?_
 | refine cond_b ?_ ?_
 | (show heapOK _ _ = true; kernel_rfl)
 | (show heapOK2 _ _ = true; kernel_rfl)
 | (omega)))
                        · refine semY_of_awpZ rfl rfl ?_
                          intro B w0 l m w
                          refine awp_code hca ?_
                          (repeat' (first
 | refine awp_seqK ?_
 | refine kt ?_
 | refine And.intro ?_ ?_
 | ((first | refine awp_stp rfl ?_ | refine awp_draw (by kernel_rfl) (by kernel_rfl) ?_ | refine Imp.le2 ?_ | refine go_split (fun _h => ?_) (fun _h => ?_)) <;> try simp (maxSteps := 4000000) only [go_sem, seval])
 | intro _h
 | refine awp_block ?_
 | refine awp_scope ?_
 | refine cond_b ?_ ?_
 | (show heapOK _ _ = true; kernel_rfl)
 | (show heapOK2 _ _ = true; kernel_rfl)
 | (omega)))
                          refine awp_code hcb ?_
                          (repeat' (first
 | refine awp_seqK ?_
 | refine kt ?_
 | refine And.intro ?_ ?_
 | ((first | refine awp_stp rfl ?_ | refine Imp.le2 ?_ | refine go_split (fun _h => ?_) (fun _h => ?_)) <;> try simp (maxSteps := 4000000) only [go_sem, seval])
 | intro _h
 | refine awp_block ?_
 | refine awp_scope ?_
 | refine cond_b ?_ ?_
 | (show heapOK _ _ = true; kernel_rfl)
 | (show heapOK2 _ _ = true; kernel_rfl)
 | (omega)))
                          ((repeat refine awp_seqK ?_); refine awp_draws [(2, [3]), (2, [3])] (by kernel_rfl) (by kernel_rfl) ?_; simp (maxSteps := 4000000) only [go_sem, seval, sg_cons, sg_nil, List.take_succ_cons, List.take_zero, List.drop_succ_cons, List.drop_zero])
                          (refine own_go (hf1) [4, 3] rfl (by simp (maxSteps := 4000000) only [go_sem, seval]) (by simp (maxSteps := 4000000) only [go_sem, seval, Nat.lt_irrefl] <;> decide) rfl ?_; simp (maxSteps := 4000000) only [go_sem, seval]; refine And.intro (frm_of (by repeat (first | exact rfl | exact ⟨_, rfl⟩ | refine And.intro ?_ ?_))) ?_; try simp (maxSteps := 4000000) only [go_sem, seval, sg_cons, sg_nil, List.take_succ_cons, List.take_zero, List.drop_succ_cons, List.drop_zero])
                          (refine own_go (hf2) [4, 3] rfl (by simp (maxSteps := 4000000) only [go_sem, seval]) (by simp (maxSteps := 4000000) only [go_sem, seval, Nat.lt_irrefl] <;> decide) rfl ?_; simp (maxSteps := 4000000) only [go_sem, seval]; refine And.intro (frm_of (by repeat (first | exact rfl | exact ⟨_, rfl⟩ | refine And.intro ?_ ?_))) ?_; try simp (maxSteps := 4000000) only [go_sem, seval, sg_cons, sg_nil, List.take_succ_cons, List.take_zero, List.drop_succ_cons, List.drop_zero])
                          (repeat' (first
 | refine awp_seqK ?_
 | refine kt ?_
 | refine And.intro ?_ ?_
 | ((first | refine awp_stp rfl ?_ | refine awp_draw (by kernel_rfl) (by kernel_rfl) ?_ | refine Imp.le2 ?_ | refine go_split (fun _h => ?_) (fun _h => ?_)) <;> try simp (maxSteps := 4000000) only [go_sem, seval, eV, decide_false])
 | intro _h
 | refine awp_block ?_
 | refine awp_scope ?_
 | refine cond_b ?_ ?_
 | (show heapOK _ _ = true; kernel_rfl)
 | (show heapOK2 _ _ = true; kernel_rfl)
 | (omega)))
                        · refine ⟨(i + 1, K3), ⟨by simp only; omega, hK3, hF⟩, by simp only; omega, .le2 ?_⟩
                          simp only [plH, plT, rT, plB, planC, busC, sl, townC, slH, slL, stC]; simp (maxSteps := 4000000) only [go_sem, seval]
                          try (first | rfl | exact ⟨rfl, rfl⟩)
                    · rw [if_neg (by rw [k3]; simp)] at hF
                      have eR : (pp ≤ s.room i) = True := eq_true k1
                      rw [k2] at hma
                      simp only [plH, plT, rT, plB, planC, busC, sl, townC, slH, slL, stC] at hbus hpe hma ⊢
                      simp (maxSteps := 4000000) only [go_sem, seval]
                      (repeat' (first
 | (refine awp_ownN 5 rfl ?_; simp (maxSteps := 4000000) only [go_sem, seval, List.take_succ_cons, List.take_zero, e3, e4, hrm, eR, decide_true]; (repeat refine And.intro (by omega) ?_); refine own_go (hbus) [4, 3] rfl ?_ ?_ rfl ?_ <;> try simp (maxSteps := 4000000) only [go_sem, seval, Nat.lt_irrefl, e3, e4, hrm, eR, decide_true] <;> try decide)
 | (refine awp_ownN 2 rfl ?_; simp (maxSteps := 4000000) only [go_sem, seval, List.take_succ_cons, List.take_zero, e3, e4, hrm, eR, decide_true]; (repeat refine And.intro (by omega) ?_); refine own_go (hpe) [4, 3] rfl ?_ ?_ rfl ?_ <;> try simp (maxSteps := 4000000) only [go_sem, seval, Nat.lt_irrefl, e3, e4, hrm, eR, decide_true] <;> try decide)
 | (refine awp_ownN (id := 9) 9 rfl ?_; simp (maxSteps := 4000000) only [go_sem, seval, List.take_succ_cons, List.take_zero, e3, e4, hrm, eR, decide_true])
 | (refine own_go (hma) [4, 3] rfl ?_ ?_ rfl ?_ <;> try simp (maxSteps := 4000000) only [go_sem, seval, Nat.lt_irrefl, e3, e4, hrm, eR, decide_true] <;> try decide)
 | ((exfalso; omega))
 | refine awp_seqK ?_
 | refine kt ?_
 | refine And.intro ?_ ?_
 | ((first | refine awp_stp rfl ?_ | refine awp_draw (by kernel_rfl) (by kernel_rfl) ?_ | refine Imp.le2 ?_ | refine go_split (fun _h => ?_) (fun _h => ?_)) <;> try simp (maxSteps := 4000000) only [go_sem, seval, e3, e4, hrm, eR, decide_true])
 | intro _h
 | refine awp_block ?_
 | refine awp_scope ?_
 | refine cond_b ?_ ?_
 | (show heapOK _ _ = true; kernel_rfl)
 | (show heapOK2 _ _ = true; kernel_rfl)
 | (omega)))
                      refine ⟨(i + 1, K1), ⟨by simp only; omega, hK1, hF⟩, by simp only; omega, .le2 ?_⟩
                      simp only [plH, plT, rT, plB, planC, busC, sl, townC, slH, slL, stC]; simp (maxSteps := 4000000) only [go_sem, seval]
                      try (first | rfl | exact ⟨rfl, rfl⟩)
                    · rw [if_neg (by rw [k3]; simp)] at hF
                      have eR : (pp ≤ s.room i) = False := eq_false k1
                      simp only [plH, plT, rT, plB, planC, busC, sl, townC, slH, slL, stC] at hbus hpe hma ⊢
                      simp (maxSteps := 4000000) only [go_sem, seval]
                      (repeat' (first
 | (refine awp_ownN 5 rfl ?_; simp (maxSteps := 4000000) only [go_sem, seval, List.take_succ_cons, List.take_zero, e3, e4, hrm, eR, decide_false]; (repeat refine And.intro (by omega) ?_); refine own_go (hbus) [4, 3] rfl ?_ ?_ rfl ?_ <;> try simp (maxSteps := 4000000) only [go_sem, seval, Nat.lt_irrefl, e3, e4, hrm, eR, decide_false] <;> try decide)
 | (refine awp_ownN 2 rfl ?_; simp (maxSteps := 4000000) only [go_sem, seval, List.take_succ_cons, List.take_zero, e3, e4, hrm, eR, decide_false]; (repeat refine And.intro (by omega) ?_); refine own_go (hpe) [4, 3] rfl ?_ ?_ rfl ?_ <;> try simp (maxSteps := 4000000) only [go_sem, seval, Nat.lt_irrefl, e3, e4, hrm, eR, decide_false] <;> try decide)
 | ((exfalso; omega))
 | refine awp_seqK ?_
 | refine kt ?_
 | refine And.intro ?_ ?_
 | ((first | refine awp_stp rfl ?_ | refine awp_draw (by kernel_rfl) (by kernel_rfl) ?_ | refine Imp.le2 ?_ | refine go_split (fun _h => ?_) (fun _h => ?_)) <;> try simp (maxSteps := 4000000) only [go_sem, seval, e3, e4, hrm, eR, decide_false])
 | intro _h
 | refine awp_block ?_
 | refine awp_scope ?_
 | refine cond_b ?_ ?_
 | (show heapOK _ _ = true; kernel_rfl)
 | (show heapOK2 _ _ = true; kernel_rfl)
 | (omega)))
                      refine ⟨(i + 1, K1), ⟨by simp only; omega, hK1, hF⟩, by simp only; omega, .le2 ?_⟩
                      simp only [plH, plT, rT, plB, planC, busC, sl, townC, slH, slL, stC]; simp (maxSteps := 4000000) only [go_sem, seval]
                      try (first | rfl | exact ⟨rfl, rfl⟩)
                  · subst hi1
                    rw [Nat.sub_self] at hF
                    simp only [hallsL, List.nil_append] at hF
                    by_cases hx0 : x = 0
                    · subst hx0
                      rw [if_pos rfl] at hF
                      simp only [candL, findM, Prod.mk.injEq, reduceCtorEq, false_and] at hF
                    · rw [if_neg hx0] at hF
                      have eX : ((x : Int) = 0) = False := eq_false (by omega)
                      have e5 : IntKind.u8.wrap ((x : Int) - 1) = ((x - 1 : Nat) : Int) := sub_nat hx8 hx0
                      have e6 : u8and ((x - 1 : Nat) : Int) (othB s.rest : Nat) = (((x - 1) &&& othB s.rest : Nat) : Int) := u8and_nat (by omega) (ndiff_lt hr8)
                      simp only [plH, plT, rT, plB, planC, busC, sl, townC, slH, slL, stC]; simp (maxSteps := 4000000) only [go_sem, seval]
                      (repeat' (first
 | ((exfalso; omega))
 | refine awp_seqK ?_
 | refine kt ?_
 | refine And.intro ?_ ?_
 | ((first | refine awp_stp rfl ?_ | refine awp_draw (by kernel_rfl) (by kernel_rfl) ?_ | refine Imp.le2 ?_ | refine go_split (fun _h => ?_) (fun _h => ?_)) <;> try simp (maxSteps := 4000000) only [go_sem, seval, eX, e5, e6, decide_false])
 | intro _h
 | refine awp_block ?_
 | refine awp_scope ?_
 | refine cond_b ?_ ?_
 | (show heapOK _ _ = true; kernel_rfl)
 | (show heapOK2 _ _ = true; kernel_rfl)
 | (omega)))
                      have hax : (x - 1) &&& othB s.rest ≤ x - 1 := Nat.and_le_left
                      refine ⟨((x - 1) &&& othB s.rest, K1), ⟨by simp only; rw [Nat.and_assoc, Nat.and_self], hK1, hF⟩, by simp only; omega, .le2 ?_⟩
                      simp only [plH, plT, rT, plB, planC, busC, sl, townC, slH, slL, stC]; simp (maxSteps := 4000000) only [go_sem, seval]
                      try (first | rfl | exact ⟨rfl, rfl⟩)
            · rfl
            · simp only [plH, plT, rT, plB, planC, busC, sl, townC, slH, slL, stC]
              simp (maxSteps := 4000000) only [go_sem, seval]
              refine ⟨(f, p.2, KE, L ++ [p.1]), ⟨hps, by simp only; omega, ?_, by simp only; have := needV_bd (t := t) (s := p.2); omega, by rw [List.append_assoc]; exact hLP⟩, by simp only; exact hpr, ?_⟩
              · exact hKE
              · simp only [plH, plT, rT, plB, planC, busC, sl, townC, slH, slL, stC]
                refine Imp.hide (fun _ => rfl) ?_ ?_
                · simp (maxSteps := 4000000) only [go_sem, seval]
                · simp [hidD, hget]
  · have e0 : (faultT t = 0) = False := eq_false h0
    have e1 : planE t = faultT t := by simp [planE, h0]
    simp only [planV, e1, h0, if_false]
    simp only [townC, slH, slL] at hch
    (refine callS_of_awp (fun w args => Try.call17 ..) Try.func17 rfl (fun w0 m0 wz => ?_); simp only [Try.ntmps17, Try.results17, initT, junks, homeC, hallC, slH, slL, townC, sl, List.toList_toArray, List.cons_append, List.nil_append, List.length_cons, List.length_nil, Nat.reduceAdd, Nat.reduceSub])
    (repeat' (first
 | refine awp_seqK ?_
 | refine kt ?_
 | refine And.intro ?_ ?_
 | ((first | refine awp_stp rfl ?_ | refine awp_draw (by kernel_rfl) (by kernel_rfl) ?_ | refine Imp.le2 ?_ | refine callK_of (hch) ?_ | refine go_split (fun _h => ?_) (fun _h => ?_)) <;> try simp (maxSteps := 4000000) only [go_sem, seval, e0, decide_false])
 | intro _h
 | refine awp_block ?_
 | refine awp_scope ?_
 | refine cond_b ?_ ?_
 | (show heapOK _ _ = true; kernel_rfl)
 | (show heapOK2 _ _ = true; kernel_rfl)
 | (omega)))
end Go.Am
