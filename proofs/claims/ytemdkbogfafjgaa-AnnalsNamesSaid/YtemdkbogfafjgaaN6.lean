/- Parts UeF, UeG, UeH, UeK, UeL, UeI, UfW, UgW, UeE, UfF, UgF, UeD, UhF, UhE, UhG of the proof, one behind the other. No statement is proved here. -/
import Derived.Test.YtemdkbogfafjgaaN5
import Derived.Test.YtemdkbogfafjgaaN3
import Derived.Shelf.Spec.SlicesInsertGrow
import Derived.Test.YtemdkbogfafjgaaN4
set_option linter.unusedVariables false -- all
set_option linter.unusedSimpArgs false
namespace Go.Am
open Go.RowKit Go.Proofs
attribute [local irreducible] AWP zO Kt goK CallK zT zR SemF SemY Imp
set_option maxRecDepth 4000
set_option linter.unusedSimpArgs false
set_option linter.unusedVariables false
set_option maxHeartbeats 1600000
def cmpI (a b : Int) : Int := if a < b then -1 else if b < a then 1 else 0
def cmpL : List Int → List Int → Int
 | [], [] => 0
 | [], _ :: _ => -1
 | _ :: _, [] => 1
 | x :: a, y :: b => if cmpI x y = 0 then cmpL a b else cmpI x y
theorem isNaN_c (a : Int) : zO Try.prog 108 [.int .i64 a] (.bool false) := by
 (refine zG (fun w args => Try.call108 ..) Try.func108 rfl (fun w0 m0 wz => ?_); simp only [Try.ntmps108, Try.results108, zN, zP, zU, zV, slR, slC, zL, sl, List.toList_toArray, List.cons_append, List.nil_append, List.length_cons, List.length_nil, Nat.reduceAdd, Nat.reduceSub])
 (repeat' (first
 | refine zC ?_
 | refine kt ?_
 | refine And.intro ?_ ?_
 | ((first | refine awp_stp rfl ?_ | refine awp_draw (by kernel_rfl) (by kernel_rfl) ?_ | refine Imp.le2 ?_ | refine go_split (fun _h => ?_) (fun _h => ?_)) <;> try simp (maxSteps := 4000000) only [go_sem, seval])
 | intro _h
 | refine zA ?_
 | refine zB ?_
 | refine zF ?_ ?_
 | (show zE _ _ = true; kernel_rfl)
 | (show zD _ _ = true; kernel_rfl)
 | (omega)))
theorem cmpI_c (a b : Int) : zO Try.prog 90 [.int .i64 a, .int .i64 b] (.int .i64 (cmpI a b)) := by
 unfold cmpI
 by_cases h : a < b
 ·rw [if_pos h]
  (refine zG (fun w args => Try.call90 ..) Try.func90 rfl (fun w0 m0 wz => ?_); simp only [Try.ntmps90, Try.results90, zN, zP, zU, zV, slR, slC, zL, sl, List.toList_toArray, List.cons_append, List.nil_append, List.length_cons, List.length_nil, Nat.reduceAdd, Nat.reduceSub])
  (repeat' (first
 | ((exfalso; omega))
 | refine zC ?_
 | refine kt ?_
 | refine And.intro ?_ ?_
 | ((first | refine awp_stp rfl ?_ | refine awp_draw (by kernel_rfl) (by kernel_rfl) ?_ | refine Imp.le2 ?_ | refine callK_of (isNaN_c _) ?_ | refine go_split (fun _h => ?_) (fun _h => ?_)) <;> try simp (maxSteps := 4000000) only [go_sem, seval])
 | intro _h
 | refine zA ?_
 | refine zB ?_
 | refine zF ?_ ?_
 | (show zE _ _ = true; kernel_rfl)
 | (show zD _ _ = true; kernel_rfl)
 | (omega)))
 ·rw [if_neg h]
  by_cases h2 : b < a
  ·rw [if_pos h2]
   (refine zG (fun w args => Try.call90 ..) Try.func90 rfl (fun w0 m0 wz => ?_); simp only [Try.ntmps90, Try.results90, zN, zP, zU, zV, slR, slC, zL, sl, List.toList_toArray, List.cons_append, List.nil_append, List.length_cons, List.length_nil, Nat.reduceAdd, Nat.reduceSub])
   (repeat' (first
 | ((exfalso; omega))
 | refine zC ?_
 | refine kt ?_
 | refine And.intro ?_ ?_
 | ((first | refine awp_stp rfl ?_ | refine awp_draw (by kernel_rfl) (by kernel_rfl) ?_ | refine Imp.le2 ?_ | refine callK_of (isNaN_c _) ?_ | refine go_split (fun _h => ?_) (fun _h => ?_)) <;> try simp (maxSteps := 4000000) only [go_sem, seval])
 | intro _h
 | refine zA ?_
 | refine zB ?_
 | refine zF ?_ ?_
 | (show zE _ _ = true; kernel_rfl)
 | (show zD _ _ = true; kernel_rfl)
 | (omega)))
  ·rw [if_neg h2]
   (refine zG (fun w args => Try.call90 ..) Try.func90 rfl (fun w0 m0 wz => ?_); simp only [Try.ntmps90, Try.results90, zN, zP, zU, zV, slR, slC, zL, sl, List.toList_toArray, List.cons_append, List.nil_append, List.length_cons, List.length_nil, Nat.reduceAdd, Nat.reduceSub])
   (repeat' (first
 | ((exfalso; omega))
 | refine zC ?_
 | refine kt ?_
 | refine And.intro ?_ ?_
 | ((first | refine awp_stp rfl ?_ | refine awp_draw (by kernel_rfl) (by kernel_rfl) ?_ | refine Imp.le2 ?_ | refine callK_of (isNaN_c _) ?_ | refine go_split (fun _h => ?_) (fun _h => ?_)) <;> try simp (maxSteps := 4000000) only [go_sem, seval])
 | intro _h
 | refine zA ?_
 | refine zB ?_
 | refine zF ?_ ?_
 | (show zE _ _ = true; kernel_rfl)
 | (show zD _ _ = true; kernel_rfl)
 | (omega)))
theorem getD_drop0 {l : List Int} {i : Nat} (h : i < l.length) : l.drop i = l.getD i 0 :: l.drop (i + 1) := by
 rw [List.drop_eq_getElem_cons h]; simp [List.getD_eq_getElem?_getD, h]
def sli (l : List Int) : AV := .psl false l.length (zS l)
theorem cmpL_c (a b : List Int) (ha : a.length ≤ 1000000) (hb : b.length ≤ 1000000) : zO Try.prog 55 [sli a, sli b] (.int .i64 (cmpL a b)) := by
 obtain ⟨r, hr⟩ : ∃ r, cmpL a b = r := ⟨_, rfl⟩
 rw [hr]
 simp only [sli]
 (refine zG (fun w args => Try.call55 ..) Try.func55 rfl (fun w0 m0 wz => ?_); simp only [Try.ntmps55, Try.results55, zN, zP, zU, zV, slR, slC, zL, sl, List.toList_toArray, List.cons_append, List.nil_append, List.length_cons, List.length_nil, Nat.reduceAdd, Nat.reduceSub])
 (repeat' (first
 | refine zC ?_
 | refine kt ?_
 | refine And.intro ?_ ?_
 | ((first | refine awp_stp rfl ?_ | refine awp_draw (by kernel_rfl) (by kernel_rfl) ?_ | refine Imp.le2 ?_ | refine go_split (fun _h => ?_) (fun _h => ?_)) <;> try simp (maxSteps := 4000000) only [go_sem, seval])
 | intro _h
 | refine zA ?_
 | refine zB ?_
 | refine zF ?_ ?_
 | (show zE _ _ = true; kernel_rfl)
 | (show zD _ _ = true; kernel_rfl)
 | (omega)))
 refine awp_loopJ (fun i : Nat => i ≤ a.length ∧ i ≤ b.length ∧ cmpL (a.drop i) (b.drop i) = r) (fun i => ⟨mkT 36 [(0, .psl false a.length (zS a)), (1, .psl false b.length (zS b)), (9, .psl false a.length (zS a)), (10, .int .i64 a.length), (11, .int .i64 i)], [], []⟩) (fun i => a.length - i) 0 ⟨Nat.zero_le _, Nat.zero_le _, hr⟩ (.le2 ?_) ?_
 ·simp (maxSteps := 4000000) only [go_sem, seval]
 ·rintro i ⟨h1, h2, h3⟩
  rcases Nat.lt_or_eq_of_le h1 with hi1 | hi1
  ·have hn1 := fun K => show optK (nth (zS a) i) K = K (.int .i64 (a.getD i 0)) by rw [ints_nth hi1]; rfl
   rw [getD_drop0 hi1] at h3
   rcases Nat.lt_or_eq_of_le h2 with hi2 | hi2
   ·have hn2 := fun K => show optK (nth (zS b) i) K = K (.int .i64 (b.getD i 0)) by rw [ints_nth hi2]; rfl
    rw [getD_drop0 hi2] at h3
    simp only [cmpL] at h3
    obtain ⟨q, hq⟩ : ∃ q, cmpI (a.getD i 0) (b.getD i 0) = q := ⟨_, rfl⟩
    have hc := cmpI_c (a.getD i 0) (b.getD i 0)
    rw [hq] at hc h3
    by_cases h0 : q = 0
    ·rw [if_pos h0] at h3
     simp (maxSteps := 4000000) only [go_sem, seval]
     (repeat' (first
 | ((omega))
 | ((exfalso; omega))
 | refine zC ?_
 | refine kt ?_
 | refine And.intro ?_ ?_
 | ((first | refine awp_stp rfl ?_ | refine awp_draw (by kernel_rfl) (by kernel_rfl) ?_ | refine Imp.le2 ?_ | refine callK_of (hc) ?_ | refine go_split (fun _h => ?_) (fun _h => ?_)) <;> try simp (maxSteps := 4000000) only [go_sem, seval, hn1, hn2])
 | intro _h
 | refine zA ?_
 | refine zB ?_
 | refine zF ?_ ?_
 | (show zE _ _ = true; kernel_rfl)
 | (show zD _ _ = true; kernel_rfl)
 | (omega)))
     refine ⟨i + 1, ⟨hi1, hi2, h3⟩, by omega, .le2 ?_⟩
     simp (maxSteps := 4000000) only [go_sem, seval]
     all_goals first | rfl | exact ⟨rfl, rfl⟩ | trace_state
    ·rw [if_neg h0] at h3
     simp (maxSteps := 4000000) only [go_sem, seval]
     (repeat' (first
 | ((omega))
 | ((exfalso; omega))
 | refine zC ?_
 | refine kt ?_
 | refine And.intro ?_ ?_
 | ((first | refine awp_stp rfl ?_ | refine awp_draw (by kernel_rfl) (by kernel_rfl) ?_ | refine Imp.le2 ?_ | refine callK_of (hc) ?_ | refine go_split (fun _h => ?_) (fun _h => ?_)) <;> try simp (maxSteps := 4000000) only [go_sem, seval, hn1, hn2])
 | intro _h
 | refine zA ?_
 | refine zB ?_
 | refine zF ?_ ?_
 | (show zE _ _ = true; kernel_rfl)
 | (show zD _ _ = true; kernel_rfl)
 | (omega)))
     all_goals trace_state
   ·have hn3 : b.drop i = [] := List.drop_eq_nil_of_le (by omega)
    rw [hn3] at h3
    simp only [cmpL] at h3
    simp (maxSteps := 4000000) only [go_sem, seval]
    (repeat' (first
 | ((omega))
 | ((exfalso; omega))
 | refine zC ?_
 | refine kt ?_
 | refine And.intro ?_ ?_
 | ((first | refine awp_stp rfl ?_ | refine awp_draw (by kernel_rfl) (by kernel_rfl) ?_ | refine Imp.le2 ?_ | refine go_split (fun _h => ?_) (fun _h => ?_)) <;> try simp (maxSteps := 4000000) only [go_sem, seval, hn1])
 | intro _h
 | refine zA ?_
 | refine zB ?_
 | refine zF ?_ ?_
 | (show zE _ _ = true; kernel_rfl)
 | (show zD _ _ = true; kernel_rfl)
 | (omega)))
    all_goals trace_state
  ·have hn3 : a.drop i = [] := List.drop_eq_nil_of_le (by omega)
   rw [hn3] at h3
   rcases Nat.lt_or_eq_of_le h2 with hi2 | hi2
   ·rw [getD_drop0 hi2] at h3
    simp only [cmpL] at h3
    simp (maxSteps := 4000000) only [go_sem, seval]
    (repeat' (first
 | ((omega))
 | ((exfalso; omega))
 | refine zC ?_
 | refine kt ?_
 | refine And.intro ?_ ?_
 | ((first | refine awp_stp rfl ?_ | refine awp_draw (by kernel_rfl) (by kernel_rfl) ?_ | refine Imp.le2 ?_ | refine go_split (fun _h => ?_) (fun _h => ?_)) <;> try simp (maxSteps := 4000000) only [go_sem, seval])
 | intro _h
 | refine zA ?_
 | refine zB ?_
 | refine zF ?_ ?_
 | (show zE _ _ = true; kernel_rfl)
 | (show zD _ _ = true; kernel_rfl)
 | (omega)))
    all_goals trace_state
   ·have hn4 : b.drop i = [] := List.drop_eq_nil_of_le (by omega)
    rw [hn4] at h3
    simp only [cmpL] at h3
    simp (maxSteps := 4000000) only [go_sem, seval]
    (repeat' (first
 | ((omega))
 | ((exfalso; omega))
 | refine zC ?_
 | refine kt ?_
 | refine And.intro ?_ ?_
 | ((first | refine awp_stp rfl ?_ | refine awp_draw (by kernel_rfl) (by kernel_rfl) ?_ | refine Imp.le2 ?_ | refine go_split (fun _h => ?_) (fun _h => ?_)) <;> try simp (maxSteps := 4000000) only [go_sem, seval])
 | intro _h
 | refine zA ?_
 | refine zB ?_
 | refine zF ?_ ?_
 | (show zE _ _ = true; kernel_rfl)
 | (show zD _ _ = true; kernel_rfl)
 | (omega)))
    all_goals trace_state
end Go.Am
namespace Go.Am
open Go.RowKit Go.Proofs
attribute [local irreducible] AWP zO Kt goK CallK zT zR SemF SemY Imp
set_option maxRecDepth 4000
set_option linter.unusedSimpArgs false
set_option linter.unusedVariables false
set_option maxHeartbeats 1600000
def rowsC (l : List (List Int)) : List AV := l.map sli
theorem mem_rows {l : List (List Int)} {x : AV} (h : x ∈ rowsC l) : ∃ s, x = sli s := by
 simp only [rowsC, List.mem_map] at h
 obtain ⟨s, _, rfl⟩ := h
 exact ⟨s, rfl⟩
theorem rows_length {l : List (List Int)} : (rowsC l).length = l.length := by simp [rowsC]
theorem rows_pure {l : List (List Int)} : pureL (rowsC l) = True := eq_true (by intro x hx; obtain ⟨s, rfl⟩ := mem_rows hx; rfl)
theorem rows_live {l : List (List Int)} {p : Nat → Bool} : (rowsC l).all (live2 p) = true := by
 rw [List.all_eq_true]; intro x hx; obtain ⟨s, rfl⟩ := mem_rows hx; rfl
theorem rows_ren {σ : Nat → Nat} : ∀ {l : List (List Int)}, renL σ (rowsC l) = rowsC l
 | [] => rfl
 | s :: l => by
   have ih := rows_ren (σ := σ) (l := l)
   show renL σ (sli s :: rowsC l) = sli s :: rowsC l
   rw [renL, ih]; simp [ren, sli]
theorem rows_refs {p : Nat → Prop} : ∀ {l : List (List Int)}, refsL p (rowsC l) = True
 | [] => rfl
 | s :: l => by
   have ih := rows_refs (p := p) (l := l)
   show refsL p (sli s :: rowsC l) = True
   rw [refsL, ih]; simp [refs, sli]
theorem rows_nth {l : List (List Int)} {i : Nat} (h : i < l.length) {K : AV → Prop} : optK (nth (rowsC l) i) K = K (.psl false (l.getD i []).length (zS (l.getD i []))) := by
 rw [← nth_is]
 simp [rowsC, h, optK, List.getD_eq_getElem?_getD, sli]
theorem rows_snoc {l : List (List Int)} {s : List Int} : rowsC l ++ [.psl false s.length (zS s)] = rowsC (l ++ [s]) := by simp [rowsC, sli]
attribute [go_sem] rows_length rows_pure rows_live rows_ren rows_refs
def bsI (c : Nat → Int) : Nat → Nat → Nat → Nat
 | 0, i, _ => i
 | f + 1, i, j => if i < j then (if c ((i + j) / 2) < 0 then bsI c f ((i + j) / 2 + 1) j else bsI c f i ((i + j) / 2)) else i
def cmpA (l : List (List Int)) (s : List Int) (i : Nat) : Int := cmpL (l.getD i []) s
def bsN (l : List (List Int)) (s : List Int) : Nat := bsI (cmpA l s) (l.length + 1) 0 l.length
def bsF (l : List (List Int)) (s : List Int) : Bool := decide (bsN l s < l.length ∧ cmpA l s (bsN l s) = 0)
theorem bsI_le {c : Nat → Int} : ∀ {f i j : Nat}, i ≤ j → bsI c f i j ≤ j
 | 0, i, j, h => h
 | f + 1, i, j, h => by
   simp only [bsI]
   split
   ·split
    ·exact bsI_le (by omega)
    ·exact Nat.le_trans (bsI_le (by omega)) (by omega)
   ·exact h
theorem half_c {i j : Nat} (h : i + j ≤ 1000000) : IntKind.u64.wrap ((i : Int) + (j : Int)) = ((i + j : Nat) : Int) := by
 have h1 : IntKind.u64.wrap ((i : Int) + (j : Int)) = ((i : Int) + j) % 18446744073709551616 := rfl
 rw [h1]; omega
theorem half2_c {i j m : Nat} (hm : (i + j) / 2 = m) : ((i + j : Nat) : Int).fdiv (2 ^ min 1 64) = (m : Int) := by
 rw [show (2 : Int) ^ min 1 64 = 2 from rfl, Int.fdiv_eq_ediv_of_nonneg _ (by omega)]
 omega
theorem bs_c (l : List (List Int)) (s : List Int) (g : Nat) (hl : l.length ≤ 1000) (hs : s.length ≤ 1000000) (hr : ∀ i, (l.getD i []).length ≤ 1000000) :
 SemF Try.prog 54 [.osl 0 g 0 l.length, sli s, .fn (.func 55) [] []] [some (.cells 59 1 g (rowsC l))] (.tup [.int .i64 (bsN l s), .bool (bsF l s)]) [some (.cells 59 1 g (rowsC l))] := by
 have hc := fun i => cmpL_c (l.getD i []) s (hr i) hs
 obtain ⟨c, hce⟩ : ∃ c, cmpA l s = c := ⟨_, rfl⟩
 have hc2 : ∀ i, cmpL (l.getD i []) s = c i := fun i => by rw [← hce]; rfl
 have hb := bsI_le (c := c) (f := l.length + 1) (i := 0) (j := l.length) (Nat.zero_le _)
 unfold bsF bsN
 rw [hce]
 obtain ⟨r, hre⟩ : ∃ r, bsI c (l.length + 1) 0 l.length = r := ⟨_, rfl⟩
 rw [hre] at hb ⊢
 simp only [sli, hc2] at hc ⊢
 (refine zH (ys := [.int .i64 r, .bool (decide (r < l.length ∧ c r = 0))]) (fun w args => Try.call54 ..) Try.func54 rfl (fun w0 m0 wz => ?_); simp only [Try.ntmps54, Try.results54, zN, zP, zU, zV, slR, slC, zL, sl, List.toList_toArray, List.cons_append, List.nil_append, List.length_cons, List.length_nil, Nat.reduceAdd, Nat.reduceSub])
 (repeat' (first
 | refine zC ?_
 | refine kt ?_
 | refine And.intro ?_ ?_
 | ((first | refine awp_stp rfl ?_ | refine awp_draw (by kernel_rfl) (by kernel_rfl) ?_ | refine Imp.le2 ?_ | refine go_split (fun _h => ?_) (fun _h => ?_)) <;> try simp (maxSteps := 4000000) only [go_sem, seval])
 | intro _h
 | refine zA ?_
 | refine zB ?_
 | refine zF ?_ ?_
 | (show zE _ _ = true; kernel_rfl)
 | (show zD _ _ = true; kernel_rfl)
 | (omega)))
 refine awp_loopJ (fun x : Nat × Nat => x.1 ≤ x.2 ∧ x.2 ≤ l.length ∧ ∃ f, x.2 - x.1 < f ∧ bsI c f x.1 x.2 = r) (fun x => ⟨mkT 49 [(0, .osl 0 g 0 l.length), (1, .psl false s.length (zS s)), (2, .fn (.func 55) [] []), (8, .int .i64 l.length), (9, .int .i64 x.1), (10, .int .i64 x.2)], [some (.cells 59 1 g (rowsC l))], []⟩) (fun x => x.2 - x.1) (0, l.length) ⟨Nat.zero_le _, Nat.le_refl _, _, Nat.lt_succ_self _, hre⟩ (.le2 ?_) ?_
 ·simp (maxSteps := 4000000) only [go_sem, seval]
  all_goals first | rfl | exact ⟨rfl, rfl⟩ | trace_state
 ·rintro ⟨i, j⟩ ⟨h1, h2, f, h3, h4⟩
  simp only at h1 h2 h3 h4
  cases f with
  | zero => omega
  | succ f =>
    simp only [bsI] at h4
    by_cases hij : i < j
    ·rw [if_pos hij] at h4
     obtain ⟨m, hm⟩ : ∃ m, (i + j) / 2 = m := ⟨_, rfl⟩
     rw [hm] at h4
     have hn := fun K => rows_nth (l := l) (i := m) (K := K) (by omega)
     have hcm := hc m
     have hw := half_c (i := i) (j := j) (by omega)
     have hw2 := half2_c hm
     by_cases h0 : c m < 0
     ·rw [if_pos h0] at h4
      simp (maxSteps := 4000000) only [go_sem, seval]
      (repeat' (first
 | ((omega))
 | ((exfalso; omega))
 | refine zC ?_
 | refine kt ?_
 | refine And.intro ?_ ?_
 | ((first | refine awp_stp rfl ?_ | refine awp_draw (by kernel_rfl) (by kernel_rfl) ?_ | refine Imp.le2 ?_ | refine callK_of (hcm) ?_ | refine go_split (fun _h => ?_) (fun _h => ?_)) <;> try simp (maxSteps := 4000000) only [go_sem, seval, hn, hw, hw2])
 | intro _h
 | refine zA ?_
 | refine zB ?_
 | refine zF ?_ ?_
 | (show zE _ _ = true; kernel_rfl)
 | (show zD _ _ = true; kernel_rfl)
 | (omega)))
      refine ⟨(m + 1, j), ⟨by show m + 1 ≤ j; omega, h2, f, by show j - (m + 1) < f; omega, h4⟩, by show j - (m + 1) < j - i; omega, .le2 ?_⟩
      simp (maxSteps := 4000000) only [go_sem, seval]
      all_goals first | rfl | exact ⟨rfl, rfl⟩ | trace_state
     ·rw [if_neg h0] at h4
      simp (maxSteps := 4000000) only [go_sem, seval]
      (repeat' (first
 | ((omega))
 | ((exfalso; omega))
 | refine zC ?_
 | refine kt ?_
 | refine And.intro ?_ ?_
 | ((first | refine awp_stp rfl ?_ | refine awp_draw (by kernel_rfl) (by kernel_rfl) ?_ | refine Imp.le2 ?_ | refine callK_of (hcm) ?_ | refine go_split (fun _h => ?_) (fun _h => ?_)) <;> try simp (maxSteps := 4000000) only [go_sem, seval, hn, hw, hw2])
 | intro _h
 | refine zA ?_
 | refine zB ?_
 | refine zF ?_ ?_
 | (show zE _ _ = true; kernel_rfl)
 | (show zD _ _ = true; kernel_rfl)
 | (omega)))
      refine ⟨(i, m), ⟨by show i ≤ m; omega, by show m ≤ l.length; omega, f, by show m - i < f; omega, h4⟩, by show m - i < j - i; omega, .le2 ?_⟩
      simp (maxSteps := 4000000) only [go_sem, seval]
      all_goals first | rfl | exact ⟨rfl, rfl⟩ | trace_state
    ·rw [if_neg hij] at h4
     subst h4
     by_cases hi1 : i < l.length
     ·have hn := fun K => rows_nth (l := l) (i := i) (K := K) hi1
      have hcm := hc i
      simp (maxSteps := 4000000) only [go_sem, seval]
      (repeat' (first
 | ((omega))
 | ((exfalso; omega))
 | refine zC ?_
 | refine kt ?_
 | refine And.intro ?_ ?_
 | ((first | refine awp_stp rfl ?_ | refine awp_draw (by kernel_rfl) (by kernel_rfl) ?_ | refine Imp.le2 ?_ | refine callK_of (hcm) ?_ | refine go_split (fun _h => ?_) (fun _h => ?_)) <;> try simp (maxSteps := 4000000) only [go_sem, seval, hn])
 | intro _h
 | refine zA ?_
 | refine zB ?_
 | refine zF ?_ ?_
 | (show zE _ _ = true; kernel_rfl)
 | (show zD _ _ = true; kernel_rfl)
 | (omega)))
      all_goals first | exact (decide_eq_true (by omega)).symm | exact (decide_eq_false (by omega)).symm | trace_state
     ·simp (maxSteps := 4000000) only [go_sem, seval]
      (repeat' (first
 | ((omega))
 | ((exfalso; omega))
 | refine zC ?_
 | refine kt ?_
 | refine And.intro ?_ ?_
 | ((first | refine awp_stp rfl ?_ | refine awp_draw (by kernel_rfl) (by kernel_rfl) ?_ | refine Imp.le2 ?_ | refine go_split (fun _h => ?_) (fun _h => ?_)) <;> try simp (maxSteps := 4000000) only [go_sem, seval])
 | intro _h
 | refine zA ?_
 | refine zB ?_
 | refine zF ?_ ?_
 | (show zE _ _ = true; kernel_rfl)
 | (show zD _ _ = true; kernel_rfl)
 | (omega)))
      all_goals first | exact (decide_eq_true (by omega)).symm | exact (decide_eq_false (by omega)).symm | trace_state
theorem ins_c (l : List (List Int)) (s : List Int) (f : Bool) (hl : l.length ≤ 1000) :
 SemF Try.prog 56 [.osl 0 l.length 0 l.length, .int .i64 l.length, .psl f 1 [sli s]] [some (.cells 59 1 l.length (rowsC l))] (.osl 0 (l.length + 1) 0 (l.length + 1)) [some (.cells 59 1 (l.length + 1) (rowsC (l ++ [s])))] := by
 simp only [sli]
 (refine zH (ys := [.osl 0 (l.length + 1) 0 (l.length + 1)]) (fun w args => Try.call56 ..) Try.func56 rfl (fun w0 m0 wz => ?_); simp only [Try.ntmps56, Try.results56, zN, zP, zU, zV, slR, slC, zL, sl, List.toList_toArray, List.cons_append, List.nil_append, List.length_cons, List.length_nil, Nat.reduceAdd, Nat.reduceSub])
 (repeat' (first
 | ((refine awp_cutJ (id := 1) 2 rfl ?_; simp (maxSteps := 4000000) only [go_sem, seval, List.take_succ_cons, List.take_zero]))
 | ((omega))
 | ((exfalso; omega))
 | refine zC ?_
 | refine kt ?_
 | refine And.intro ?_ ?_
 | ((first | refine awp_stp rfl ?_ | refine awp_draw (by kernel_rfl) (by kernel_rfl) ?_ | refine Imp.le2 ?_ | refine go_split (fun _h => ?_) (fun _h => ?_)) <;> try simp (maxSteps := 4000000) only [go_sem, seval, rows_snoc])
 | intro _h
 | refine zA ?_
 | refine zB ?_
 | refine zF ?_ ?_
 | (show zE _ _ = true; kernel_rfl)
 | (show zD _ _ = true; kernel_rfl)
 | (omega)))
 all_goals trace_state
end Go.Am
namespace Go.Am
open Go.RowKit Go.Proofs
attribute [local irreducible] AWP zO Kt goK CallK zT zR SemF SemY Imp
set_option maxRecDepth 4000
set_option linter.unusedSimpArgs false
set_option linter.unusedVariables false
set_option maxHeartbeats 1600000
def slK (pl : List Int) : Nat → List (Int × Int) × List Int
 | 0 => ([], [])
 | k + 1 => match gmGet (slK pl k).1 (pl.getD k 0) with
   | some n => ((slK pl k).1, (slK pl k).2 ++ [n])
   | none => (gmPut (slK pl k).1 (pl.getD k 0) (slK pl k).1.length, (slK pl k).2 ++ [((slK pl k).1.length : Int)])
def slN (t : Ann) (pl : List Int) : List Int := (slK pl t.reports.length).2
theorem slK_length {pl : List Int} : ∀ {k : Nat}, (slK pl k).2.length = k
 | 0 => rfl
 | k + 1 => by
   have ih := slK_length (pl := pl) (k := k)
   simp only [slK]
   split <;> simp [ih]
theorem slK_cong {pl pl' : List Int} : ∀ {k : Nat}, (∀ i, i < k → pl.getD i 0 = pl'.getD i 0) → slK pl k = slK pl' k
 | 0, _ => rfl
 | k + 1, h => by
   have ih := slK_cong (pl := pl) (pl' := pl') (k := k) fun i hi => h i (by omega)
   simp only [slK]
   rw [ih, h k (by omega)]
def imC (m : List (Int × Int)) : List (AV × AV) := gmC (AV.int .i64) (AV.int .i64) m
theorem imC_length {m : List (Int × Int)} : (imC m).length = m.length := by simp [imC, gmC]
theorem im_live {q : Nat → Bool} {m : List (Int × Int)} : ((imC m).all fun e => live2 q e.1 && live2 q e.2) = true := by
 simp only [imC, gmC, List.all_map, List.all_eq_true]
 intro e _; rfl
attribute [go_sem] im_live imC_length
section
variable {b g : Nat} {xs : List AV}
theorem fzB_km {m : List (Key × Bool)} : fzB b g xs (.map (kmC m)) = .map (kmC m) := by
 simp only [fzB, kmC, gmC, List.map_map]
 congr 1
 apply List.map_congr_left
 intro e _
 have h1 : fzl (fz1 b g xs) (stC e.1.1) = stC e.1.1 := fzl_id fun y hy => by
  simp only [stC, List.mem_cons, List.mem_append] at hy
  rcases hy with rfl | rfl | h | h
  ·rfl
  ·rfl
  ·obtain ⟨n, rfl⟩ := mem_ints h; rfl
  ·obtain ⟨n, rfl⟩ := mem_ints h; rfl
 simp only [Function.comp, keyV, fz2, h1, fz1, fz0]
theorem fzB_im {m : List (Int × Int)} : fzB b g xs (.map (imC m)) = .map (imC m) := by
 simp only [fzB, imC, gmC, List.map_map]; rfl
end
theorem slides_c (t : Ann) (pl dy : List Int) (K : List (Key × Bool)) (ht : AnnOK t) (hd : PDOK pl dy) :
 SemF Try.prog 53 [.ptr 0 0 0] [some (.cells 115 1 0 (seG t 1 pl dy)), some (.map (kmC K))] (sli (slN t pl)) [some (.cells 115 1 0 (seG t 1 pl dy)), some (.map (kmC K))] := by
 have hr := ht.reports
 have h1 := hd.lpl
 have h2 := hd.ldy
 unfold slN
 have hlast : (slK pl t.reports.length).2.length = t.reports.length := slK_length
 simp only [sli, hlast]
 simp only [seG, slR, slC]
 (refine zH (ys := [.psl false t.reports.length (zS (slK pl t.reports.length).2)]) (fun w args => Try.call53 ..) Try.func53 rfl (fun w0 m0 wz => ?_); simp only [Try.ntmps53, Try.results53, zN, zP, zU, zV, slR, slC, zL, sl, List.toList_toArray, List.cons_append, List.nil_append, List.length_cons, List.length_nil, Nat.reduceAdd, Nat.reduceSub])
 (repeat' (first
 | refine zC ?_
 | refine kt ?_
 | refine And.intro ?_ ?_
 | ((first | refine awp_stp rfl ?_ | refine awp_draw (by kernel_rfl) (by kernel_rfl) ?_ | refine Imp.le2 ?_ | refine go_split (fun _h => ?_) (fun _h => ?_)) <;> try simp (maxSteps := 4000000) only [go_sem, seval])
 | intro _h
 | refine zA ?_
 | refine zB ?_
 | refine zF ?_ ?_
 | (show zE _ _ = true; kernel_rfl)
 | (show zD _ _ = true; kernel_rfl)
 | (omega)))
 (refine awp_adT 2 3 1 rfl ?_; simp only [adT, lset, hset, List.length_cons, List.length_nil, Nat.reduceAdd])
 refine awp_loopN t.reports.length (fun k => ⟨mkT 46 [(0, .ptr 0 0 0), (2, .osl 3 k 0 k), (3, .map 2), (13, .int .i64 t.reports.length), (14, .int .i64 k)], [some (.cells 115 1 0 (seG t 1 pl dy)), some (.map (kmC K)), some (.map (imC (slK pl k).1)), some (.cells 3 1 k (zS (slK pl k).2))], []⟩) (.le2 ?_) ?_
 ·simp only [seG, slR, slC, slK]; simp (maxSteps := 4000000) only [go_sem, seval]
  all_goals first | rfl | exact ⟨rfl, rfl⟩ | trace_state
 ·intro k hk
  have hL := slK_length (pl := pl) (k := k)
  rcases Nat.lt_or_eq_of_le hk with hk1 | hk1
  ·have hp := fun x y z u K => se_pl (x := x) (y := y) (z := z) (u := u) (S := pl) (F := dy) (i := k) (K := K) (by omega)
   simp only [slK]
   generalize slK pl k = R at *
   obtain ⟨m, L⟩ := R
   simp only at hL ⊢
   obtain ⟨p, hpe⟩ : ∃ p, pl.getD k 0 = p := ⟨_, rfl⟩
   rw [hpe] at hp ⊢
   have hL2 : ∀ x : Int, (L ++ [x]).length = k + 1 := fun x => by simp; omega
   have hsnoc : ∀ x : Int, zS L ++ [.int .i64 x] = zS (L ++ [x]) := fun x => by simp [zS]
   cases hg : gmGet m p with
   | some n =>
     have hmg := fun z (f : AV → Bool → Prop) => show mgetK (imC m) (.int .i64 p) z f = f (.int .i64 n) true from mget_gs (eV := AV.int .i64) (z := z) (f := f) key_int hg
     simp only [seG, slR, slC]; simp (maxSteps := 4000000) only [go_sem, seval]
     (repeat' (first
 | ((show zeroOK _ = true; rfl))
 | ((omega))
 | ((exfalso; omega))
 | refine zC ?_
 | refine kt ?_
 | refine And.intro ?_ ?_
 | ((first | refine awp_stp rfl ?_ | refine awp_draw (by kernel_rfl) (by kernel_rfl) ?_ | refine Imp.le2 ?_ | refine go_split (fun _h => ?_) (fun _h => ?_)) <;> try simp (maxSteps := 4000000) only [go_sem, seval, hp, hmg, hL, hL2, hsnoc])
 | intro _h
 | refine zA ?_
 | refine zB ?_
 | refine zF ?_ ?_
 | (show zE _ _ = true; kernel_rfl)
 | (show zD _ _ = true; kernel_rfl)
 | (omega)))
     all_goals trace_state
   | none =>
     have hmg := fun z (f : AV → Bool → Prop) => show mgetK (imC m) (.int .i64 p) z f = f z false from mget_gn (eK := AV.int .i64) (eV := AV.int .i64) (z := z) (f := f) key_int hg
     have hmp := fun v (f : List (AV × AV) → Prop) => show mupK (imC m) (.int .i64 p) (.int .i64 v) f = f (imC (gmPut m p v)) from mup_g (eV := AV.int .i64) (m := m) (k := p) (v := v) (f := f) key_int
     simp only [seG, slR, slC]; simp (maxSteps := 4000000) only [go_sem, seval]
     (repeat' (first
 | ((show zeroOK _ = true; rfl))
 | ((omega))
 | ((exfalso; omega))
 | refine zC ?_
 | refine kt ?_
 | refine And.intro ?_ ?_
 | ((first | refine awp_stp rfl ?_ | refine awp_draw (by kernel_rfl) (by kernel_rfl) ?_ | refine Imp.le2 ?_ | refine go_split (fun _h => ?_) (fun _h => ?_)) <;> try simp (maxSteps := 4000000) only [go_sem, seval, hp, hmg, hmp, hL, hL2, hsnoc])
 | intro _h
 | refine zA ?_
 | refine zB ?_
 | refine zF ?_ ?_
 | (show zE _ _ = true; kernel_rfl)
 | (show zD _ _ = true; kernel_rfl)
 | (omega)))
     all_goals trace_state
  ·subst hk1
   generalize slK pl t.reports.length = R at *
   simp only [seG, slR, slC]; simp (maxSteps := 4000000) only [go_sem, seval]
   (repeat' (first
 | ((omega))
 | ((exfalso; omega))
 | ((refine awp_frzC (c := .region 11 _ _) 3 rfl (by simp (maxSteps := 4000000) only [go_sem, seval]) [some (.cells 115 1 0 (.psl false t.reports.length (recs zU t.reports) :: .psl false t.claims.length (recs zV t.claims) :: .int .i64 t.rest :: .map 1 :: (zS pl ++ zS dy))), some (.map (kmC K))] rfl rfl rfl ?_; simp only [frz, fq_pure, fzB_c, fzB_km, fzB_im, fzO, fzH, fzHs, fzl, fz2, fz1, fz0, List.map_cons, List.map_nil, if_true, if_false, reduceIte, Nat.reduceEqDiff, Nat.reduceAdd, Nat.succ_ne_self, Nat.zero_ne_one, Nat.one_ne_zero, reduceCtorEq, and_self]))
 | refine zC ?_
 | refine kt ?_
 | refine And.intro ?_ ?_
 | ((first | refine awp_stp rfl ?_ | refine awp_draw (by kernel_rfl) (by kernel_rfl) ?_ | refine Imp.le2 ?_ | refine go_split (fun _h => ?_) (fun _h => ?_)) <;> try simp (maxSteps := 4000000) only [go_sem, seval, hL])
 | intro _h
 | refine zA ?_
 | refine zB ?_
 | refine zF ?_ ?_
 | (show zE _ _ = true; kernel_rfl)
 | (show zD _ _ = true; kernel_rfl)
 | (omega)))
   all_goals trace_state
end Go.Am
namespace Go.Am
open Go.RowKit Go.Proofs Go.Lib
set_option linter.unusedSimpArgs false
set_option linter.unusedVariables false
set_option maxHeartbeats 4000000
set_option maxRecDepth 100000
theorem raw_shift (b off n c i vb voff vc : Nat) (cs : List Value) (v0 : Value) (w : World) (hi : i < n) (hroom : n + 1 ≤ c) (hc63 : c ≤ 9223372036854775807) (hvb : vb ≠ b)
 (hcl : cs.length = n)
 (hcs : ∀ j v, cs[j]? = some v → w.cell? ⟨b, off + j, none⟩ = some v) (hsp : ∀ j, j < n + 1 → (w.cell? ⟨b, off + j, none⟩).isSome = true) (hfz : ∀ j, j < n + 1 → w.frozen? ⟨b, off + j, none⟩ = false)
 (hvs : w.cell? ⟨vb, voff, none⟩ = some v0) (h1c : ∀ v ∈ cs, v.oneCell' = true) (h1v : v0.oneCell' = true)
 (tA tB : TypeId) (kA kB : Nat) (hsa : w.shape? vb = some (tA, kA)) (hsb : w.shape? b = some (tB, kB)) (hkB : kB ≠ 0) (hfa : w.frozen? ⟨vb, voff, none⟩ = false) (hfe : w.frozen? ⟨vb, kA, none⟩ = false) :
 Calls Try.prog 56 #[.slice (some ⟨b, off, none⟩) n c, .int .i64 i, .slice (some ⟨vb, voff, none⟩) 1 vc] w fun e w' =>
  e = .returned (.slice (some ⟨b, off, none⟩) (n + 1) c) ∧ w' = (w.drew.setCells b (off + (i + 1)) (cs.drop i)).setCells b (off + i) [v0] := by
 have u28 := run_underlying Try.underlying28
 have u3 := run_underlying Try.underlying3
 have u4 := run_underlying Try.underlying4
 have hz2 : ¬ ((i : Int) = (n : Int)) := by omega
 have hsz : (Try.prog.info? 59).map (·.size) = some 1 := by kernel_rfl
 have hz59 : ∀ w, (Go.sizeOf 59).run Try.prog w = .ok 1 w := fun w => tsz_spec tsz59 w
 have hov : ∀ lb cb, (callFunc 91 #[.slice (some ⟨vb, voff, none⟩) 1 vc, .slice (some ⟨b, off + (i + 1), none⟩) lb cb]).run Try.prog w = .ok (.value (.bool false)) w := fun lb cb => by
  rw [run_callFunc_extern Try.func91 (by kernel_rfl) (by kernel_rfl) (by kernel_rfl) (e := Extern.SlicesOverlaps.overlaps #[28, 28] #[4]) (by kernel_rfl),
   Lib.run_overlaps_apart w 28 4 59 Try.underlying28 1 hz59 ⟨vb, voff, none⟩ ⟨b, off + (i + 1), none⟩ 1 vc lb cb hvb tA tB kA kB hsa hsb hkB hfa hfe]
  rfl
 have hdl : (cs.drop i).length = n - i := by rw [List.length_drop, hcl]
 have hw1 : IntKind.i64.wrap ((i : Int) + 1) = (i : Int) + 1 := by rw [IntKind.wrap_i64]; omega
 have hw2 : IntKind.i64.wrap ((n : Int) + 1) = (n : Int) + 1 := by rw [IntKind.wrap_i64]; omega
 have hb1 : (0 : Int) ≤ (i : Int) + 1 := by omega
 have hin : i ≤ n := by omega
 have htn : ((i : Int) + 1).toNat = i + 1 := by omega
 have hb2 : ¬ (c = i + 1) := by omega
 have hb3 : (i : Int) ≤ (n : Int) + 1 := by omega
 have hb4 : ¬ (c = i) := by omega
 have hcp1 : ∀ ty dc sc, (Builtin.copy_ #[28, 28] ty #[.slice (some ⟨b, off + (i + 1), none⟩) (n - i) dc, .slice (some ⟨b, off + i, none⟩) (n + 1 - i) sc]).run Try.prog w.drew = .ok (goInt (cs.drop i).length) (w.drew.setCells b (off + (i + 1)) (cs.drop i)) := fun ty dc sc =>
  run_copy_cells w.drew _ _ ty 59 b (off + (i + 1)) (n - i) dc ⟨b, off + i, none⟩ (n + 1 - i) sc (cs.drop i) Try.underlying28 hsz (by rw [hdl]; simp only [Nat.min_def]; split <;> omega)
   (fun j v hj => by rw [Addr.add_lit, Nat.add_assoc]; exact hcs (i + j) v (by rwa [List.getElem?_drop] at hj))
   (fun j hj => by rw [Nat.add_assoc]; exact hsp _ (by omega)) (fun j hj => by rw [Nat.add_assoc]; exact hfz _ (by omega)) (fun v hv => h1c v (List.mem_of_mem_drop hv))
 obtain ⟨W1, hW1⟩ : ∃ W1, W1 = w.drew.setCells b (off + (i + 1)) (cs.drop i) := ⟨_, rfl⟩
 have hsp1 : ∀ k, k < n + 1 → (W1.cell? ⟨b, off + k, none⟩).isSome = true := fun k hk => by
  rw [hW1]
  exact isSome_setCells b _ _ _ (fun j hj => by rw [Nat.add_assoc]; exact hsp _ (by omega)) _ (hsp k hk)
 have hcp2 : ∀ (W : World), (∀ x, W.cell? x = W1.cell? x) → (∀ x, W.frozen? x = W1.frozen? x) → ∀ ty dc, (Builtin.copy_ #[28, 28] ty #[.slice (some ⟨b, off + i, none⟩) (n + 1 - i) dc, .slice (some ⟨vb, voff, none⟩) 1 vc]).run Try.prog W = .ok (goInt [v0].length) (W.setCells b (off + i) [v0]) := fun W hWc hWf ty dc =>
  run_copy_cells W _ _ ty 59 b (off + i) (n + 1 - i) dc ⟨vb, voff, none⟩ 1 vc [v0] Try.underlying28 hsz (by simp only [List.length_cons, List.length_nil, Nat.min_def]; split <;> omega)
   (fun j v hj => by
     have hj0 : j = 0 := by
      rcases Nat.eq_zero_or_pos j with h | h
      ·exact h
      ·rw [List.getElem?_eq_none (by simp; omega)] at hj; cases hj
     subst hj0
     simp only [List.getElem?_cons_zero, Option.some.injEq] at hj
     subst hj
     rw [Addr.add_lit, hWc, hW1, World.cell?_setCells_out b _ _ _ _ (fun h _ => absurd h hvb)]
     exact hvs)
   (fun j hj => by rw [hWc, Nat.add_assoc]; exact hsp1 _ (by simp at hj; omega)) (fun j hj => by rw [hWf, hW1, World.frozen?_setCells, Nat.add_assoc]; exact hfz _ (by simp at hj; omega)) (fun v hv => by
     have e : v = v0 := by simpa using hv
     rw [e]; exact h1v)
 rw [← hW1] at hcp1
 have mixed : Try.prog.follows .mixedOrders = true := by kernel_rfl
 go_enter Try.func56, Try.ntmps56
 go_wp2_with (simp only [hov])
 go_region_law_o (refine step_copy_runI rfl _ _ 28 28 rfl _ _ (by simp [Act.eval, Act.put]) (by simp [Act.eval, Act.put]) (hcp1 _ _ _) ?_)
 go_wp2_with (at_builtin; refine wpList_copy_runI _ rfl _ _ 28 28 rfl _ _ rfl rfl (hcp2 _ (fun _ => rfl) (fun _ => rfl) _ _) ?_)
 go_ret
 first | exact ⟨rfl, rfl⟩ | exact ⟨rfl, by rw [hW1]⟩
theorem info59 : (Try.prog.info? 59).map (fun i => (i.zero, i.size, i.bytes)) = some (some (.slice none 0 0), 1, 24) := by kernel_rfl
theorem raw_grow (b off n c i vb voff vc : Nat) (cs : List Value) (v0 : Value) (w : World) (hi : i < n) (hnc : n ≤ c) (hroom : c < n + 1) (hbig : (n + 1) * 24 ≤ 140737488355328)
 (hcl : cs.length = n)
 (hcs : ∀ j v, cs[j]? = some v → w.cell? ⟨b, off + j, none⟩ = some v)
 (hvs : w.cell? ⟨vb, voff, none⟩ = some v0) (h1c : ∀ v ∈ cs, v.oneCell' = true) (h1v : v0.oneCell' = true) :
 Calls Try.prog 56 #[.slice (some ⟨b, off, none⟩) n c, .int .i64 i, .slice (some ⟨vb, voff, none⟩) 1 vc] w fun e w' =>
  e = .returned (.slice (some ⟨w.heap.size, 0, none⟩) (n + 1) (grownCap w (n + 1) c 59)) ∧
  w' = (((w.alloc (.cells ((cs.take i).toArray ++ Builtin.zeroCells (Value.slice none 0 0).cells (n + 1 - i) ++ Builtin.zeroCells (Value.slice none 0 0).cells (grownCap w (n + 1) c 59 - (n + 1))) 59)).drew.setCells w.heap.size i [v0]).drew).setCells w.heap.size (i + 1) (cs.drop i) := by
 have u28 := run_underlying Try.underlying28
 have u3 := run_underlying Try.underlying3
 have u4 := run_underlying Try.underlying4
 have mixed : Try.prog.follows .mixedOrders = true := by kernel_rfl
 obtain ⟨i0, hi0, hq⟩ := Option.map_eq_some_iff.1 info59
 simp only [Prod.mk.injEq] at hq
 obtain ⟨hz0, hzs, hzb⟩ := hq
 have hz2 : ¬ ((i : Int) = (n : Int)) := by omega
 have hz3 : (c : Int) < (n : Int) + 1 := by omega
 have hsz : (Try.prog.info? 59).map (·.size) = some 1 := by rw [hi0]; simp [hzs]
 have hbw : b < w.heap.size := block_lt_of_cell (hcs 0 _ (List.getElem?_eq_getElem (by omega)))
 have hvw : vb < w.heap.size := block_lt_of_cell hvs
 have hkk : (n : Int) + 1 - (i : Int) = ((n + 1 - i : Nat) : Int) := by omega
 have hik : i + (n + 1 - i) = n + 1 := by omega
 have hold : (Builtin.firstCells i0.size i (.slice (some ⟨b, off, none⟩) i c)).run Try.prog w.drew = .ok (cs.take i).toArray w.drew := by
  rw [hzs]
  exact run_firstCells_some w.drew 1 i ⟨b, off, none⟩ i c (cs.take i) (by rw [List.length_take]; omega) (fun j v hj => by
   rw [Addr.add_lit]
   rw [List.getElem?_take] at hj
   split at hj
   ·exact hcs j v hj
   ·cases hj)
 have hrz : ∀ ty, (Builtin.append_ #[28, 3] ty #[.slice (some ⟨b, off, none⟩) i c, .int .i64 ((n : Int) + 1 - (i : Int))]).run Try.prog w =
  .ok (.slice (some ⟨w.heap.size, 0, none⟩) (n + 1) (grownCap w (n + 1) c 59)) (w.drew.alloc (.cells ((cs.take i).toArray ++ Builtin.zeroCells (Value.slice none 0 0).cells (n + 1 - i) ++ Builtin.zeroCells (Value.slice none 0 0).cells (grownCap w (n + 1) c 59 - (n + 1))) 59)) := fun ty => by
  have h := Lib.run_append_grow_zeros w 28 3 ty 59 i0 _ .i64 .i64 Try.underlying28 Try.underlying3 hi0 hz0 (some ⟨b, off, none⟩) i c (cs.take i) hold (n + 1 - i) (by omega) (by omega) (by omega) (by omega) (by rw [hzb]; omega) (by rw [hzb, hik]; exact growslice_fits hroom hbig)
  rw [hik] at h
  rw [hkk]
  exact h
 obtain ⟨G, hG⟩ : ∃ G, G = grownCap w (n + 1) c 59 := ⟨_, rfl⟩
 obtain ⟨ROW, hROW⟩ : ∃ ROW : Array Value, ROW = (cs.take i).toArray ++ Builtin.zeroCells (Value.slice none 0 0).cells (n + 1 - i) ++ Builtin.zeroCells (Value.slice none 0 0).cells (G - (n + 1)) := ⟨_, rfl⟩
 rw [← hG] at hrz ⊢
 rw [← hROW] at hrz ⊢
 have hRl : n + 1 ≤ ROW.size := by
  rw [hROW]
  simp [Builtin.zeroCells, Value.cells]
  omega
 obtain ⟨W1, hW1⟩ : ∃ W1, W1 = w.drew.alloc (.cells ROW 59) := ⟨_, rfl⟩
 rw [← hW1] at hrz
 have hN : ∀ j, j < n + 1 → (W1.cell? ⟨w.heap.size, j, none⟩).isSome = true := fun j hj => by
  rw [hW1, World.cell?_alloc_at (w := w.drew) ROW _ w.heap.size j rfl, Array.getElem?_eq_getElem (by omega)]; rfl
 have hNf : ∀ j, W1.frozen? ⟨w.heap.size, j, none⟩ = false := fun j => by rw [hW1]; exact World.frozen?_alloc_at (w := w.drew) ROW _ w.heap.size j rfl
 have hOb : ∀ j v, w.cell? ⟨b, j, none⟩ = some v → W1.cell? ⟨b, j, none⟩ = some v := fun j v h => by rw [hW1, World.cell?_alloc_past (w := w.drew) _ b j hbw]; exact h
 have hOv : ∀ j v, w.cell? ⟨vb, j, none⟩ = some v → W1.cell? ⟨vb, j, none⟩ = some v := fun j v h => by rw [hW1, World.cell?_alloc_past (w := w.drew) _ vb j hvw]; exact h
 have hcpA : ∀ (W : World), (∀ x, W.cell? x = W1.cell? x) → (∀ x, W.frozen? x = W1.frozen? x) → ∀ ty dc, (Builtin.copy_ #[28, 28] ty #[.slice (some ⟨w.heap.size, i, none⟩) (n + 1 - i) dc, .slice (some ⟨vb, voff, none⟩) 1 vc]).run Try.prog W = .ok (goInt [v0].length) (W.setCells w.heap.size i [v0]) := fun W hWc hWf ty dc =>
  run_copy_cells W _ _ ty 59 w.heap.size i (n + 1 - i) dc ⟨vb, voff, none⟩ 1 vc [v0] Try.underlying28 hsz (by simp only [List.length_cons, List.length_nil, Nat.min_def]; split <;> omega)
   (fun j v hj => by
     have hj0 : j = 0 := by
      rcases Nat.eq_zero_or_pos j with h | h
      ·exact h
      ·rw [List.getElem?_eq_none (by simp; omega)] at hj; cases hj
     subst hj0
     simp only [List.getElem?_cons_zero, Option.some.injEq] at hj
     subst hj
     rw [Addr.add_lit, hWc]; exact hOv _ _ hvs)
   (fun j hj => by rw [hWc]; exact hN _ (by simp at hj; omega)) (fun j hj => by rw [hWf]; exact hNf _) (fun v hv => by
     have e : v = v0 := by simpa using hv
     rw [e]; exact h1v)
 have hGn : n + 1 ≤ G := by rw [hG]; exact grownCap_ge w _ _ _
 have hG63 : G ≤ 9223372036854775807 := by
  have := grownCap_le_maxLen w (n + 1) c 59 (by unfold maxLen; omega)
  rw [← hG] at this
  unfold maxLen at this
  omega
 have hGi : ¬ (G = i) := by omega
 have hGim : ¬ (G = i + 1) := by omega
 have hci : ¬ (c = i) := by omega
 have hbN : b ≠ w.heap.size := by omega
 have hdl : (cs.drop i).length = n - i := by rw [List.length_drop, hcl]
 have hcpB : ∀ (W : World), (∀ x, W.cell? x = (W1.setCells w.heap.size i [v0]).cell? x) → (∀ x, W.frozen? x = (W1.setCells w.heap.size i [v0]).frozen? x) → ∀ ty dc sc, (Builtin.copy_ #[28, 28] ty #[.slice (some ⟨w.heap.size, i + 1, none⟩) (n - i) dc, .slice (some ⟨b, off + i, none⟩) (n - i) sc]).run Try.prog W = .ok (goInt (cs.drop i).length) (W.setCells w.heap.size (i + 1) (cs.drop i)) := fun W hWc hWf ty dc sc =>
  run_copy_cells W _ _ ty 59 w.heap.size (i + 1) (n - i) dc ⟨b, off + i, none⟩ (n - i) sc (cs.drop i) Try.underlying28 hsz (by rw [hdl]; simp only [Nat.min_def]; split <;> omega)
   (fun j v hj => by
     rw [Addr.add_lit, hWc, World.cell?_setCells_out _ _ _ _ _ (fun h _ => absurd h hbN), Nat.add_assoc]
     exact hOb _ v (hcs (i + j) v (by rwa [List.getElem?_drop] at hj)))
   (fun j hj => by rw [hWc]; exact isSome_setCells _ _ _ _ (fun t ht => hN _ (by simp at ht; omega)) _ (hN _ (by omega)))
   (fun j hj => by rw [hWf, World.frozen?_setCells]; exact hNf _) (fun v hv => h1c v (List.mem_of_mem_drop hv))
 subst hW1
 have hE1 : ∀ x, ((w.alloc (.cells ROW 59)).drew).cell? x = (w.drew.alloc (.cells ROW 59)).cell? x := fun x => rfl
 have hE2 : ∀ x, ((w.alloc (.cells ROW 59)).drew).frozen? x = (w.drew.alloc (.cells ROW 59)).frozen? x := fun x => rfl
 have hF1 : ∀ x, (((w.alloc (.cells ROW 59)).drew.setCells w.heap.size i [v0]).drew).cell? x = ((w.drew.alloc (.cells ROW 59)).setCells w.heap.size i [v0]).cell? x := fun x => rfl
 have hF2 : ∀ x, (((w.alloc (.cells ROW 59)).drew.setCells w.heap.size i [v0]).drew).frozen? x = ((w.drew.alloc (.cells ROW 59)).setCells w.heap.size i [v0]).frozen? x := fun x => rfl
 have hw1 : IntKind.i64.wrap ((i : Int) + 1) = (i : Int) + 1 := by rw [IntKind.wrap_i64]; omega
 have hw2 : IntKind.i64.wrap ((n : Int) + 1) = (n : Int) + 1 := by rw [IntKind.wrap_i64]; omega
 have hb1 : (0 : Int) ≤ (i : Int) + 1 := by omega
 have hin : i ≤ n := by omega
 have htn : ((i : Int) + 1).toNat = i + 1 := by omega
 have hb3 : (i : Int) ≤ (n : Int) := by omega
 clear hkk hik hold hROW hG hRl
 go_enter Try.func56, Try.ntmps56
 go_wp2_with (first
 | (at_builtin; refine Lib.wpList_append_run _ rfl _ _ _ _ rfl _ _ rfl rfl _ _ (hrz _) ?_)
 | (at_builtin; refine wpList_copy_runI _ rfl _ _ 28 28 rfl _ _ rfl rfl (hcpA _ hE1 hE2 _ _) ?_)
 | (at_builtin; refine wpList_copy_runI _ rfl _ _ 28 28 rfl _ _ rfl rfl (hcpB _ (fun _ => rfl) (fun _ => rfl) _ _ _) ?_))
 go_region_law_o (refine step_copy_runI rfl _ _ 28 28 rfl (.slice (some ⟨w.heap.size, i + 1, none⟩) (n - i) (G - (i + 1))) (.slice (some ⟨b, off + i, none⟩) (n - i) (c - i)) (by simp [Act.eval, Act.put]) (by simp [Act.eval, Act.put]) (hcpB _ hF1 hF2 3 (G - (i + 1)) (c - i)) ?_)
 go_wp2
 go_ret
 exact ⟨rfl, rfl⟩
end Go.Am
namespace Go.Am
open Go.RowKit Go.Proofs Go.Lib
set_option linter.unusedSimpArgs false
set_option linter.unusedVariables false
set_option maxHeartbeats 1600000
theorem sets_heap {b : Nat} {t : TypeId} : ∀ (vs : List Value) (o : Nat) (w : World) (arr : Array Value), w.heap[b]? = some (.cells arr t (0, 0)) →
 ∃ arr', (w.setCells b o vs).heap[b]? = some (.cells arr' t (0, 0)) ∧ arr'.size = arr.size ∧ ∀ j, arr'[j]? = if o ≤ j ∧ j < o + vs.length ∧ j < arr.size then vs[j - o]? else arr[j]?
 | [], o, w, arr, h => ⟨arr, h, rfl, fun j => by rw [if_neg (by simp; omega)]⟩
 | v :: r, o, w, arr, h => by
   have h1 : (w.setCell ⟨b, o, none⟩ v).heap[b]? = some (.cells (arr.setIfInBounds o v) t (0, 0)) := by
    simp [World.setCell, Array.getElem?_modify, h]
   obtain ⟨arr', h2, h3, h4⟩ := sets_heap r (o + 1) _ _ h1
   refine ⟨arr', h2, by rw [h3, Array.size_setIfInBounds], fun j => ?_⟩
   rw [h4, Array.size_setIfInBounds]
   simp only [List.length_cons]
   by_cases hj : j = o
   ·subst hj
    rw [if_neg (by omega)]
    by_cases hs : j < arr.size
    ·rw [if_pos ⟨Nat.le_refl _, by omega, hs⟩, Nat.sub_self]
     simp [hs]
    ·rw [if_neg (by omega), Array.getElem?_eq_none (by simpa using hs), Array.getElem?_eq_none (by simpa using hs)]
   ·by_cases hc : o + 1 ≤ j ∧ j < o + 1 + r.length ∧ j < arr.size
    ·rw [if_pos hc, if_pos (by omega), show j - o = (j - (o + 1)) + 1 by omega, List.getElem?_cons_succ]
    ·rw [if_neg hc, if_neg (by omega), Array.getElem?_setIfInBounds_ne (by omega)]
theorem sets_other {b : Nat} : ∀ (vs : List Value) (o : Nat) (w : World) (c : Nat), c ≠ b → (w.setCells b o vs).heap[c]? = w.heap[c]?
 | [], _, _, _, _ => rfl
 | v :: r, o, w, c, h => by
   show ((w.setCell ⟨b, o, none⟩ v).setCells b (o + 1) r).heap[c]? = _
   rw [sets_other r (o + 1) _ c h]
   simp [World.setCell, Array.getElem?_modify, Ne.symm h]
theorem sets_kept {b : Nat} : ∀ (vs : List Value) (o : Nat) (w : World), (w.setCells b o vs).os = w.os ∧ (w.setCells b o vs).tape = w.tape ∧ (w.setCells b o vs).output = w.output ∧ (w.setCells b o vs).heap.size = w.heap.size
 | [], _, _ => ⟨rfl, rfl, rfl, rfl⟩
 | v :: r, o, w => by
   obtain ⟨h1, h2, h3, h4⟩ := sets_kept (b := b) r (o + 1) (w.setCell ⟨b, o, none⟩ v)
   exact ⟨h1, h2, h3, by rw [show (w.setCells b o (v :: r)).heap.size = ((w.setCell ⟨b, o, none⟩ v).setCells b (o + 1) r).heap.size from rfl, h4]; simp⟩
theorem RepL.take {h : Nat → Option ABlk} {m : Nat → Option Loc} {w : World} [Base] {xs : List AV} {us : List Value} (a : RepL h m w xs us) (i : Nat) : RepL h m w (xs.take i) (us.take i) := by
 refine ⟨by simp [a.1], fun u hu => a.2.1 u (List.mem_of_mem_take hu), fun j x y => ?_⟩
 simp only [List.getElem_take]
 exact a.2.2 j _ _
theorem RepL.drop {h : Nat → Option ABlk} {m : Nat → Option Loc} {w : World} [Base] {xs : List AV} {us : List Value} (a : RepL h m w xs us) (i : Nat) : RepL h m w (xs.drop i) (us.drop i) := by
 refine ⟨by simp [a.1], fun u hu => a.2.1 u (List.mem_of_mem_drop hu), fun j x y => ?_⟩
 simp only [List.getElem_drop]
 exact a.2.2 _ _ _
def insL (l : List (List Int)) (i : Nat) (s : List Int) : List (List Int) := l.take i ++ s :: l.drop i
theorem insL_rows {l : List (List Int)} {i : Nat} {s : List Int} : rowsC (insL l i s) = (rowsC l).take i ++ (sli s :: (rowsC l).drop i) := by
 simp [rowsC, insL, List.map_take, List.map_drop]
theorem insL_len {l : List (List Int)} {i : Nat} {s : List Int} : (insL l i s).length = l.length + 1 := by
 simp [insL]; omega
theorem ins2_c (l : List (List Int)) (s : List Int) (i g g1 : Nat) (hl : l.length ≤ 1000) (hi : i < l.length) :
 SemF Try.prog 56 [.osl 0 g 0 l.length, .int .i64 i, .osl 1 g1 0 1] [some (.cells 59 1 g (rowsC l)), some (.cells 59 1 g1 [sli s])] (.osl 0 (g + 1) 0 (l.length + 1)) [some (.cells 59 1 (g + 1) (rowsC (insL l i s))), some (.cells 59 1 g1 [sli s])] := by
 refine ⟨fun w args => Try.call56 .., fun {_} w0 m w vs hg hlen hrep => ?_⟩
 match vs, hlen with
 | [v0, v1, v2], _ =>
   have r0 := hrep 0 (by simp) (by simp)
   have r1 := hrep 1 (by simp) (by simp)
   have r2 := hrep 2 (by simp) (by simp)
   simp only [List.getElem_cons_zero, List.getElem_cons_succ] at r0 r1 r2
   have hv1 := rep_int r1
   have hb0 : hget [some (ABlk.cells 59 1 g (rowsC l)), some (ABlk.cells 59 1 g1 [sli s])] 0 = some (.cells 59 1 g (rowsC l)) := rfl
   have hb1 : hget [some (ABlk.cells 59 1 g (rowsC l)), some (ABlk.cells 59 1 g1 [sli s])] 1 = some (.cells 59 1 g1 [sli s]) := rfl
   have hH : hget [some (ABlk.cells 59 1 (g + 1) (rowsC (insL l i s))), some (ABlk.cells 59 1 g1 [sli s])] = upd (hget [some (ABlk.cells 59 1 g (rowsC l)), some (ABlk.cells 59 1 g1 [sli s])]) 0 (some (.cells 59 1 (g + 1) (rowsC (insL l i s)))) := by
    rw [← hget_upd]; rfl
   rw [hH]
   generalize hget [some (ABlk.cells 59 1 g (rowsC l)), some (ABlk.cells 59 1 g1 [sli s])] = h at *
   rcases rep_osl r0 hb0 with ⟨_, _, h3, _⟩ | ⟨lc, cap, hm0, hv0, hc1, hc2, hc3⟩
   ·omega
   rcases rep_osl r2 hb1 with ⟨_, _, h3, _⟩ | ⟨ld, cap1, hm1, hv2, hd1, hd2, hd3⟩
   ·omega
   obtain ⟨arr, hheap, hasz, hxl, vf, hvf, hcell, hrepc⟩ := blk_cells hg hb0 hm0
   obtain ⟨arr1, hheap1, hasz1, hxl1, vf1, hvf1, hcell1, hrepc1⟩ := blk_cells hg hb1 hm1
   have hrl : (rowsC l).length = l.length := rows_length
   rw [hrl] at hvf hcell hxl
   have hne : ld.c ≠ lc.c := fun e => by
    have := hg.inj 1 0 ld lc hm1 hm0 e
    omega
   have hcl := hg.lt hm0
   have hdl := hg.lt hm1
   obtain ⟨cs, hcs⟩ : ∃ cs, (List.range l.length).map vf = cs := ⟨_, rfl⟩
   have hcsl : cs.length = l.length := by rw [← hcs]; simp
   have hcsg : ∀ j, j < l.length → cs[j]? = some (vf j) := fun j hj => by rw [← hcs]; simp [hj]
   have hRL : RepL h m w (rowsC l) cs := by
    refine ⟨by rw [hrl, hcsl], fun u hu => ?_, fun j a c => ?_⟩
    ·rw [← hcs] at hu
     simp only [List.mem_map, List.mem_range] at hu
     obtain ⟨j, hj, rfl⟩ := hu
     exact (hcell j hj).2
    ·have hj : j < l.length := by rw [hrl] at a; exact a
     have e : cs[j] = vf j := by
      have := hcsg j hj
      rw [List.getElem?_eq_getElem c] at this
      simpa using this
     rw [e]; exact hrepc j a
   have hx0 := hcell1 0 (by simp)
   have hxr := hrepc1 0 (by simp)
   simp only [List.getElem_cons_zero] at hxr
   have hR1 : RepL h m w [sli s] [vf1 0] := ⟨rfl, fun u hu => by rw [List.mem_singleton.1 hu]; exact hx0.2, fun j a c => by
    have : j = 0 := by simp at a; omega
    subst this; exact hxr⟩
   have hRN : RepL h m w (rowsC (insL l i s)) (cs.take i ++ (vf1 0 :: cs.drop i)) := by
    rw [insL_rows]
    exact (hRL.take i).append (hR1.append (hRL.drop i))
   have hnl : (cs.take i ++ (vf1 0 :: cs.drop i)).length = l.length + 1 := by simp [hcsl]; omega
   have hcs2 : ∀ j v, cs[j]? = some v → w.cell? ⟨lc.c, 0 + j, none⟩ = some v := fun j v hj => by
    have hj2 : j < l.length := by
     rcases Nat.lt_or_ge j l.length with h | h
     ·exact h
     ·rw [List.getElem?_eq_none (by omega)] at hj; cases hj
    rw [hcsg j hj2] at hj
    cases hj
    exact (hcell j hj2).1
   have hv0c : w.cell? ⟨ld.c, 0, none⟩ = some (vf1 0) := hx0.1
   have h1c : ∀ v ∈ cs, v.oneCell' = true := hRL.2.1
   have hfin : ∀ (w' : World) (l' : Loc) (arr' : Array Value) (cap' : Nat), w'.os = w.os → w'.tape = w.tape → w'.output = w.output → w.heap.size ≤ w'.heap.size →
    (∀ c, c < w.heap.size → (∀ l0, m 0 = some l0 → l0.c ≠ c) → w'.heap[c]? = w.heap[c]?) → (m 0 = some l' ∨ w.heap.size ≤ l'.c) →
    w'.heap[l'.c]? = some (.cells arr' 59 (0, 0)) → arr'.size = l'.n → (∀ j, j < l.length + 1 → arr'[j]? = (cs.take i ++ (vf1 0 :: cs.drop i))[j]?) → l.length + 1 ≤ cap' → 0 + cap' * 1 ≤ l'.n → cap' ≤ maxLen →
    ∃ v m', Ending.returned (.slice (some ⟨l'.c, 0, none⟩) (l.length + 1) cap') = .returned v ∧ Good w0 (upd h 0 (some (.cells 59 1 (g + 1) (rowsC (insL l i s))))) m' w' ∧ Ext h m w (upd h 0 (some (.cells 59 1 (g + 1) (rowsC (insL l i s))))) m' w' ∧
      Rep (upd h 0 (some (.cells 59 1 (g + 1) (rowsC (insL l i s))))) m' w' (.osl 0 (g + 1) 0 (l.length + 1)) v := by
    intro w' l' arr' cap' hos htape hout hsize hsame hl' hhp hsz hcont hcp1 hcp2 hcp3
    have hfits : ∀ k0, h 0 = some k0 → Fits k0 (.cells 59 1 (g + 1) (rowsC (insL l i s))) (m 0 ≠ some l') := by
     intro k0 hk0
     rw [hb0] at hk0; cases hk0
     exact ⟨rfl, rfl, Nat.le_succ _, fun he => by omega⟩
    have e1 := ext_put (k := .cells 59 1 (g + 1) (rowsC (insL l i s))) (w' := w') (l' := l') hg hsize hsame hl' hfits
    have hnr : (rowsC (insL l i s)).length = l.length + 1 := by rw [rows_length, insL_len]
    refine ⟨_, _, rfl, good_put hg hos htape hout hsize hsame hl' hfits ?_ (by simp), e1, .osl (zI _ _ _) (Nat.le_refl _) rfl (fun _ => .inr ⟨l', cap', zI _ _ _, rfl, hcp1, hcp2, hcp3⟩)⟩
    refine .inr ⟨l', arr', zI _ _ _, hhp, hsz, by rw [hnr]; omega, fun j hj => ?_⟩
    rw [hnr] at hj
    have hx := List.getElem?_eq_getElem (l := rowsC (insL l i s)) (i := j) (by rw [hnr]; exact hj)
    obtain ⟨u, q1, q2, q3⟩ := hRN.at hx
    exact ⟨u, by rw [hcont j hj]; exact q1, q2, q3.ext e1⟩
   have hargs : [v0, v1, v2].toArray = #[.slice (some ⟨lc.c, 0, none⟩) l.length cap, .int .i64 i, .slice (some ⟨ld.c, 0, none⟩) 1 cap1] := by rw [hv0, hv1, hv2]
   rw [hargs]
   have hmax : maxLen ≤ 9223372036854775807 := by unfold maxLen; omega
   refine (callsIn_wide (n := 0)).2 ?_
   by_cases hroom : l.length + 1 ≤ cap
   ·have hc := raw_shift lc.c 0 l.length cap i ld.c 0 cap1 cs (vf1 0) w hi hroom (by omega) hne hcsl hcs2
     (fun j hj => by
       have : (arr[0 + j]?).isSome = true := by rw [Array.getElem?_eq_getElem (by omega)]; rfl
       simpa [World.cell?, hheap] using this)
     (fun j hj => by simp [World.frozen?, hheap]) hv0c h1c hx0.2 59 59 arr1.size arr.size (by simp [World.shape?, hheap1]) (by simp [World.shape?, hheap]) (by omega) (by simp [World.frozen?, hheap1]) (by simp [World.frozen?, hheap1])
    refine hc.mono ?_
    rintro e w' ⟨rfl, rfl⟩
    have hheapD : w.drew.heap[lc.c]? = some (.cells arr 59 (0, 0)) := hheap
    obtain ⟨a1, p1, p2, p3⟩ := sets_heap (cs.drop i) (0 + (i + 1)) w.drew arr hheapD
    obtain ⟨a2, s1, s2, s3⟩ := sets_heap [vf1 0] (0 + i) _ a1 p1
    obtain ⟨k1, k2, k3, k4⟩ := sets_kept (b := lc.c) (cs.drop i) (0 + (i + 1)) w.drew
    obtain ⟨j1, j2, j3, j4⟩ := sets_kept (b := lc.c) [vf1 0] (0 + i) (w.drew.setCells lc.c (0 + (i + 1)) (cs.drop i))
    refine hfin _ lc a2 cap (j1.trans k1) (j2.trans k2) (j3.trans k3) (by rw [j4, k4]; exact Nat.le_refl _) (fun c hc hcn => ?_) (.inl hm0) s1 (by omega) (fun j hj => ?_) hroom hc2 hc3
    ·rw [sets_other _ _ _ _ (Ne.symm (hcn lc hm0)), sets_other _ _ _ _ (Ne.symm (hcn lc hm0))]; rfl
    ·rw [s3, p3]
     simp only [Nat.zero_add, List.length_cons, List.length_nil, List.length_drop, hcsl]
     have hti : (cs.take i).length = i := by rw [List.length_take]; omega
     rcases Nat.lt_trichotomy j i with hji | hji | hji
     ·rw [if_neg (by omega), if_neg (by omega), List.getElem?_append_left (by omega), List.getElem?_take, if_pos hji, hcsg j (by omega), hvf j (by omega)]
     ·subst hji
      rw [if_pos (by omega), Nat.sub_self, List.getElem?_append_right (by omega), hti, Nat.sub_self]; rfl
     ·rw [if_neg (by omega), if_pos (by omega), List.getElem?_append_right (by omega), hti, show j - i = (j - (i + 1)) + 1 by omega, List.getElem?_cons_succ, List.getElem?_drop]
   ·have hc := raw_grow lc.c 0 l.length cap i ld.c 0 cap1 cs (vf1 0) w hi hc1 (by omega) (by omega) hcsl hcs2 hv0c h1c hx0.2
    refine hc.mono ?_
    rintro e w' ⟨rfl, rfl⟩
    have hG := grownCap_ge w (l.length + 1) cap 59
    have hGm := grownCap_le_maxLen w (l.length + 1) cap 59 (by simp only [maxLen]; omega)
    generalize grownCap w (l.length + 1) cap 59 = G at *
    obtain ⟨ROW, hROW⟩ : ∃ ROW : Array Value, (cs.take i).toArray ++ Builtin.zeroCells (Value.slice none 0 0).cells (l.length + 1 - i) ++ Builtin.zeroCells (Value.slice none 0 0).cells (G - (l.length + 1)) = ROW := ⟨_, rfl⟩
    have hRs : ROW.size = G := by
     rw [← hROW]
     simp [Builtin.zeroCells, Value.cells, hcsl]
     omega
    have hRt : ∀ j, j < i → ROW[j]? = cs[j]? := fun j hj => by
     rw [← hROW, Array.append_assoc, Array.getElem?_append_left (by simp [hcsl]; omega)]
     simp [hj]
    rw [hROW]
    have hheapN : ((w.alloc (.cells ROW 59)).drew).heap[w.heap.size]? = some (.cells ROW 59 (0, 0)) := by
     show (w.heap.push (.cells ROW 59))[w.heap.size]? = _
     exact Array.getElem?_push_size
    obtain ⟨a1, p1, p2, p3⟩ := sets_heap [vf1 0] i _ ROW hheapN
    have p1' : ((((w.alloc (.cells ROW 59)).drew).setCells w.heap.size i [vf1 0]).drew).heap[w.heap.size]? = some (.cells a1 59 (0, 0)) := p1
    obtain ⟨a2, s1, s2, s3⟩ := sets_heap (cs.drop i) (i + 1) _ a1 p1'
    obtain ⟨k1, k2, k3, k4⟩ := sets_kept (b := w.heap.size) [vf1 0] i ((w.alloc (.cells ROW 59)).drew)
    obtain ⟨j1, j2, j3, j4⟩ := sets_kept (b := w.heap.size) (cs.drop i) (i + 1) ((((w.alloc (.cells ROW 59)).drew).setCells w.heap.size i [vf1 0]).drew)
    refine hfin _ ⟨w.heap.size, G⟩ a2 G (j1.trans k1) (j2.trans k2) (j3.trans k3) (by rw [j4]; show w.heap.size ≤ (((w.alloc (.cells ROW 59)).drew).setCells w.heap.size i [vf1 0]).heap.size; rw [k4]; show w.heap.size ≤ (w.heap.push (.cells ROW 59)).size; rw [Array.size_push]; omega) (fun c hc hcn => ?_) (.inr (Nat.le_refl _)) s1 (by simp only; omega) (fun j hj => ?_) hG (by simp only; omega) hGm
    ·rw [sets_other _ _ _ _ (by omega)]
     show (((w.alloc (.cells ROW 59)).drew).setCells w.heap.size i [vf1 0]).heap[c]? = _
     rw [sets_other _ _ _ _ (by omega)]
     show (w.heap.push (.cells ROW 59))[c]? = _
     rw [Array.getElem?_push, if_neg (by omega)]
    ·rw [s3, p3]
     simp only [List.length_cons, List.length_nil, List.length_drop, hcsl, p2, hRs]
     have hti : (cs.take i).length = i := by rw [List.length_take]; omega
     rcases Nat.lt_trichotomy j i with hji | hji | hji
     ·rw [if_neg (by omega), if_neg (by omega), List.getElem?_append_left (by omega), List.getElem?_take, if_pos hji, hRt j hji]
     ·subst hji
      rw [if_neg (by omega), if_pos (by omega), Nat.sub_self, List.getElem?_append_right (by omega), hti, Nat.sub_self]; rfl
     ·rw [if_pos (by omega), List.getElem?_append_right (by omega), hti, show j - i = (j - (i + 1)) + 1 by omega, List.getElem?_cons_succ, List.getElem?_drop]
end Go.Am
namespace Go.Am
open Go.RowKit Go.Proofs
attribute [local irreducible] AWP zO Kt goK CallK zT zR SemF SemY Imp
set_option maxRecDepth 4000
set_option linter.unusedSimpArgs false
set_option linter.unusedVariables false
set_option maxHeartbeats 1600000
def waI (l : List (List Int)) (s : List Int) : List (List Int) := if bsF l s = true then l else insL l (bsN l s) s
def waB (l : List (List Int)) : Bool := decide (l.length ≤ 100)
def waS (t : Ann) (v : List (List Int) × Bool) (pl dy : List Int) : (List (List Int) × Bool) × Bool :=
 ((waI v.1 (slN t pl), v.2 && waB v.1), decide ((waI v.1 (slN t pl)).length ≤ 100))
def waF (v : List (List Int) × Bool) : Bool := v.2
def WaOK (v : List (List Int) × Bool) : Prop := ∀ s ∈ v.1, s.length ≤ 7
theorem waS_fin (t : Ann) : ∀ (v : List (List Int) × Bool) (pl dy : List Int), waF (waS t v pl dy).1 = true → waF v = true := by
 intro v pl dy h
 simp only [waF, waS, Bool.and_eq_true] at h ⊢
 exact h.1
theorem wa_ok (t : Ann) (ht : AnnOK t) : ∀ (v : List (List Int) × Bool) (pl dy : List Int), WaOK v → PDOK pl dy → WaOK (waS t v pl dy).1 := by
 rintro ⟨l, f⟩ pl dy hv hd s hs
 have hr := ht.reports
 simp only [waS, waI] at hs
 split at hs
 ·exact hv s hs
 ·unfold insL at hs
  rcases List.mem_append.1 hs with h | h
  ·exact hv s (List.mem_of_mem_take h)
  ·rcases List.mem_cons.1 h with h | h
   ·rw [h]
    show (slK pl t.reports.length).2.length ≤ 7
    rw [slK_length]; omega
   ·exact hv s (List.mem_of_mem_drop h)
theorem wa_c (t : Ann) (v : List (List Int) × Bool) (pl dy : List Int) (K : List (Key × Bool)) (ht : AnnOK t) (hv : WaOK v) (hd : PDOK pl dy) (hfin : waF (waS t v pl dy).1 = true) :
 SemF Try.prog 52 [.ptr 2 0 0, .ptr 0 0 0] [some (.cells 28 1 0 [.osl 1 v.1.length 0 v.1.length]), some (.cells 59 1 v.1.length (rowsC v.1)), some (.cells 115 1 0 (seG t 3 pl dy)), some (.map (kmC K))] (.bool (waS t v pl dy).2)
  [some (.cells 28 1 0 [.osl 1 (waS t v pl dy).1.1.length 0 (waS t v pl dy).1.1.length]), some (.cells 59 1 (waS t v pl dy).1.1.length (rowsC (waS t v pl dy).1.1)), some (.cells 115 1 0 (seG t 3 pl dy)), some (.map (kmC K))] := by
 have hr := ht.reports
 have hsl := slides_c t pl dy K ht hd
 have hsn : (slN t pl).length ≤ 7 := by
  show (slK pl t.reports.length).2.length ≤ 7
  rw [slK_length]; omega
 obtain ⟨l, fl⟩ := v
 simp only [waF, waS, waB, Bool.and_eq_true, decide_eq_true_eq] at hfin ⊢
 obtain ⟨_, hl⟩ := hfin
 generalize slN t pl = s at *
 have hlr : ∀ i, (l.getD i []).length ≤ 1000000 := fun i => by
  rw [List.getD_eq_getElem?_getD]
  rcases Nat.lt_or_ge i l.length with h | h
  ·rw [List.getElem?_eq_getElem h]
   have := hv l[i] (List.getElem_mem h)
   simp only [Option.getD_some]; omega
  ·rw [List.getElem?_eq_none h]; simp
 have hbs := bs_c l s l.length (by omega) (by omega) hlr
 have hins := fun f => ins_c l s f (by omega)
 unfold waI
 simp only [sli] at hsl hbs hins
 cases hb : bsF l s with
 | true =>
   rw [hb] at hbs
   generalize bsN l s = at0 at *
   simp only [if_true, seG, slR, slC] at hsl ⊢
   (refine zH (ys := [.bool (decide (l.length ≤ 100))]) (fun w args => Try.call52 ..) Try.func52 rfl (fun w0 m0 wz => ?_); simp only [Try.ntmps52, Try.results52, zN, zP, zU, zV, slR, slC, zL, sl, List.toList_toArray, List.cons_append, List.nil_append, List.length_cons, List.length_nil, Nat.reduceAdd, Nat.reduceSub])
   (repeat' (first
 | (refine zJ 1 rfl ?_; simp (maxSteps := 4000000) only [go_sem, seval, List.take_succ_cons, List.take_zero]; (repeat refine And.intro (by omega) ?_); refine zQ (hsl) [2, 3] rfl ?_ ?_ ?_ ?_ <;> try simp (maxSteps := 4000000) only [go_sem, seval, Nat.lt_irrefl] <;> try decide)
 | (refine zJ 2 rfl ?_; simp (maxSteps := 4000000) only [go_sem, seval, List.take_succ_cons, List.take_zero]; (repeat refine And.intro (by omega) ?_); refine zQ (hbs) [1] rfl ?_ ?_ ?_ ?_ <;> try simp (maxSteps := 4000000) only [go_sem, seval, Nat.lt_irrefl] <;> try decide)
 | (refine zJ 4 rfl ?_; simp (maxSteps := 4000000) only [go_sem, seval, List.take_succ_cons, List.take_zero]; (repeat refine And.intro (by omega) ?_); refine zQ (hins true) [1] rfl ?_ ?_ ?_ ?_ <;> try simp (maxSteps := 4000000) only [go_sem, seval, Nat.lt_irrefl] <;> try decide)
 | ((omega))
 | ((exfalso; omega))
 | refine zC ?_
 | refine kt ?_
 | refine And.intro ?_ ?_
 | ((first | refine awp_stp rfl ?_ | refine awp_draw (by kernel_rfl) (by kernel_rfl) ?_ | refine Imp.le2 ?_ | refine go_split (fun _h => ?_) (fun _h => ?_)) <;> try simp (maxSteps := 4000000) only [go_sem, seval])
 | intro _h
 | refine zA ?_
 | refine zB ?_
 | refine zF ?_ ?_
 | (show zE _ _ = true; kernel_rfl)
 | (show zD _ _ = true; kernel_rfl)
 | (omega)))
   all_goals first | exact (decide_eq_true (by omega)).symm | exact (decide_eq_false (by omega)).symm | trace_state
 | false =>
   rw [hb] at hbs
   have hle : bsN l s ≤ l.length := bsI_le (Nat.zero_le _)
   have e2 := insL_len (l := l) (i := bsN l s) (s := s)
   simp only [Bool.false_eq_true, if_false, e2]
   rcases Nat.lt_or_eq_of_le hle with hat | hat
   ·have hin2 := ins2_c l s (bsN l s) l.length 0 (by omega) hat
    generalize bsN l s = at0 at *
    simp only [sli] at hin2
    simp only [seG, slR, slC] at hsl ⊢
    (refine zH (ys := [.bool (decide (l.length + 1 ≤ 100))]) (fun w args => Try.call52 ..) Try.func52 rfl (fun w0 m0 wz => ?_); simp only [Try.ntmps52, Try.results52, zN, zP, zU, zV, slR, slC, zL, sl, List.toList_toArray, List.cons_append, List.nil_append, List.length_cons, List.length_nil, Nat.reduceAdd, Nat.reduceSub])
    (repeat' (first
 | (refine zJ 1 rfl ?_; simp (maxSteps := 4000000) only [go_sem, seval, List.take_succ_cons, List.take_zero, e2]; (repeat refine And.intro (by omega) ?_); refine zQ (hsl) [2, 3] rfl ?_ ?_ ?_ ?_ <;> try simp (maxSteps := 4000000) only [go_sem, seval, Nat.lt_irrefl, e2] <;> try decide)
 | (refine zJ 2 rfl ?_; simp (maxSteps := 4000000) only [go_sem, seval, List.take_succ_cons, List.take_zero, e2]; (repeat refine And.intro (by omega) ?_); refine zQ (hbs) [1] rfl ?_ ?_ ?_ ?_ <;> try simp (maxSteps := 4000000) only [go_sem, seval, Nat.lt_irrefl, e2] <;> try decide)
 | ((refine awp_segE (id := 4) [(3, some ⟨.osl 4 0 0 1, [], some (4, .cells 59 1 0 [.psl false s.length (zS s)])⟩, []), (0, none, [1])] ?_; simp (maxSteps := 4000000) only [go_sem, seval, se_own, se_op, se_nil, List.take_succ_cons, List.take_zero, List.drop_succ_cons, List.drop_zero]; refine ⟨rfl, sound_lit1 rfl rfl tslice28 tsz59 tzero59 rfl rfl, ?_⟩; simp only [hseto, hset]; (try simp (maxSteps := 4000000) only [go_sem, seval, se_own, se_op, se_nil, List.take_succ_cons, List.take_zero, List.drop_succ_cons, List.drop_zero]); (refine zQ (hin2) [1, 4] rfl (by simp (maxSteps := 4000000) only [go_sem, seval]) (by simp (maxSteps := 4000000) only [go_sem, seval, Nat.lt_irrefl] <;> decide) (by simp (maxSteps := 4000000) only [go_sem, seval]) ?_; simp (maxSteps := 4000000) only [go_sem, seval]; refine And.intro (frm_of (by repeat (first | exact rfl | exact ⟨_, rfl⟩ | refine And.intro ?_ ?_))) ?_; try simp (maxSteps := 4000000) only [go_sem, seval, sg_cons, sg_nil, List.take_succ_cons, List.take_zero, List.drop_succ_cons, List.drop_zero]) ; (try simp (maxSteps := 4000000) only [go_sem, seval, se_own, se_op, se_nil, List.take_succ_cons, List.take_zero, List.drop_succ_cons, List.drop_zero])))
 | ((omega))
 | ((exfalso; omega))
 | refine zC ?_
 | refine kt ?_
 | refine And.intro ?_ ?_
 | ((first | refine awp_stp rfl ?_ | refine awp_draw (by kernel_rfl) (by kernel_rfl) ?_ | refine Imp.le2 ?_ | refine go_split (fun _h => ?_) (fun _h => ?_)) <;> try simp (maxSteps := 4000000) only [go_sem, seval, e2])
 | intro _h
 | refine zA ?_
 | refine zB ?_
 | refine zF ?_ ?_
 | (show zE _ _ = true; kernel_rfl)
 | (show zD _ _ = true; kernel_rfl)
 | (omega)))
    all_goals first | exact (decide_eq_true (by omega)).symm | exact (decide_eq_false (by omega)).symm | trace_state
   ·have e1 : insL l l.length s = l ++ [s] := by simp [insL]
    rw [hat] at hbs ⊢
    rw [e1]
    have e3 : (l ++ [s]).length = l.length + 1 := by simp
    simp only [seG, slR, slC] at hsl ⊢
    (refine zH (ys := [.bool (decide (l.length + 1 ≤ 100))]) (fun w args => Try.call52 ..) Try.func52 rfl (fun w0 m0 wz => ?_); simp only [Try.ntmps52, Try.results52, zN, zP, zU, zV, slR, slC, zL, sl, List.toList_toArray, List.cons_append, List.nil_append, List.length_cons, List.length_nil, Nat.reduceAdd, Nat.reduceSub])
    (repeat' (first
 | (refine zJ 1 rfl ?_; simp (maxSteps := 4000000) only [go_sem, seval, List.take_succ_cons, List.take_zero, e3]; (repeat refine And.intro (by omega) ?_); refine zQ (hsl) [2, 3] rfl ?_ ?_ ?_ ?_ <;> try simp (maxSteps := 4000000) only [go_sem, seval, Nat.lt_irrefl, e3] <;> try decide)
 | (refine zJ 2 rfl ?_; simp (maxSteps := 4000000) only [go_sem, seval, List.take_succ_cons, List.take_zero, e3]; (repeat refine And.intro (by omega) ?_); refine zQ (hbs) [1] rfl ?_ ?_ ?_ ?_ <;> try simp (maxSteps := 4000000) only [go_sem, seval, Nat.lt_irrefl, e3] <;> try decide)
 | (refine zJ 4 rfl ?_; simp (maxSteps := 4000000) only [go_sem, seval, List.take_succ_cons, List.take_zero, e3]; (repeat refine And.intro (by omega) ?_); refine zQ (hins true) [1] rfl ?_ ?_ ?_ ?_ <;> try simp (maxSteps := 4000000) only [go_sem, seval, Nat.lt_irrefl, e3] <;> try decide)
 | ((omega))
 | ((exfalso; omega))
 | refine zC ?_
 | refine kt ?_
 | refine And.intro ?_ ?_
 | ((first | refine awp_stp rfl ?_ | refine awp_draw (by kernel_rfl) (by kernel_rfl) ?_ | refine Imp.le2 ?_ | refine go_split (fun _h => ?_) (fun _h => ?_)) <;> try simp (maxSteps := 4000000) only [go_sem, seval, e3])
 | intro _h
 | refine zA ?_
 | refine zB ?_
 | refine zF ?_ ?_
 | (show zE _ _ = true; kernel_rfl)
 | (show zD _ _ = true; kernel_rfl)
 | (omega)))
    all_goals first | exact (decide_eq_true (by omega)).symm | exact (decide_eq_false (by omega)).symm | trace_state
end Go.Am
namespace Go.Am
open Go.RowKit Go.Proofs
attribute [local irreducible] AWP zO Kt goK CallK zT zR SemF SemY Imp
set_option maxRecDepth 4000
set_option linter.unusedSimpArgs false
set_option linter.unusedVariables false
set_option maxHeartbeats 6400000
def heW (t : Ann)  (a : EA (List (List Int) × Bool)) : List (Option ABlk) :=
 [some (.cells 28 1 0 [.osl 1 a.v.1.length 0 a.v.1.length]), some (.cells 59 1 a.v.1.length (rowsC a.v.1))] ++ [some (.cells 35 1 0 (zL t)), some (.cells 105 1 0 [.fn (.func 52) [] [.ptr 0 0 0]]), some (.map (kmC a.K)), some (.cells 115 1 0 (seG t 4 a.pl a.dy)), some (.cells 99 1 0 [.ptr 5 0 0]), some (.cells 131 1 0 [.fn (.func 85) [.ptr 5 0 0] []]), some (.cells 132 1 0 [.fn (.func 86) [] [.ptr 3 0 0, .ptr 6 0 0, .ptr 2 0 0, .ptr 7 0 0, .ptr 8 0 0]])]
def ehW (t : Ann)  (s : Ste) (place : Int) (fd : Bool) (a : EA (List (List Int) × Bool)) : List (Option ABlk) :=
 heW t  a ++ [some (.cells 136 1 0 (stC s)), some (.cells 3 1 0 [.int .i64 place]), some (.cells 4 1 0 [.bool fd]), some (.cells 4 1 0 [.bool false]), some (.cells 35 1 0 (zL t)), some (.cells 136 1 0 (stC s))]
def etW : List AV := mkT 88 [(2, .ptr 3 0 0), (3, .ptr 6 0 0), (4, .ptr 2 0 0), (5, .ptr 7 0 0), (6, .ptr 8 0 0), (7, .ptr 9 0 0), (8, .ptr 10 0 0), (9, .ptr 11 0 0), (10, .ptr 12 0 0), (31, .fn (.func 107) [] [.ptr 14 0 0, .ptr 13 0 0])]
theorem eachW_c (t : Ann)  (ht : AnnOK t)  : ∀ (f : Nat) (s : Ste) (place : Int) (a : EA (List (List Int) × Bool)), SteOK t s → s.rest < f → 0 ≤ place → place + s.rest ≤ 1000 → EAOK WaOK a → waF (eachM t (waS t) f s place a).2.v = true →
 SemF Try.prog 86 [.agg (stC s), .int .i64 place, .ptr 3 0 0, .ptr 6 0 0, .ptr 2 0 0, .ptr 7 0 0, .ptr 8 0 0] (heW t  a) (.tup [.bool (eachM t (waS t) f s place a).1.1, .bool (eachM t (waS t) f s place a).1.2]) (heW t  (eachM t (waS t) f s place a).2) := by
 intro f
 induction f with
 | zero => intro s place a _ h; omega
 | succ f ih =>
   intro s place a hs hf hp0 hp ha hfin
   have hok := eachM_ok (step := (waS t)) ht (wa_ok t ht) (f + 1) s place a hs hp0 hp ha
   have hr := ht.reports
   by_cases h0 : s.rest = 0
   ·have e : eachM t (waS t) (f + 1) s place a = ((true, ((waS t) a.v a.pl a.dy).2), { a with v := ((waS t) a.v a.pl a.dy).1 }) := by simp only [eachM]; rw [if_pos h0]
    rw [e]
    rw [e] at hfin
    have hv := wa_c t  a.v a.pl a.dy a.K ht  ha.1 ha.2 hfin
    have e0 : ((s.rest : Int) = 0) = True := eq_true (by omega)
    generalize (waS t) a.v a.pl a.dy = R at *
    obtain ⟨v2, more⟩ := R
    simp only [heW, seG, stC, zL, slR, slC, List.cons_append, List.nil_append] at hv ⊢
    (refine zH (ys := [.bool true, .bool more]) (fun w args => Try.call86 ..) Try.func86 rfl (fun w0 m0 wz => ?_); simp only [Try.ntmps86, Try.results86, zN, zP, zU, zV, slR, slC, zL, sl, List.toList_toArray, List.cons_append, List.nil_append, List.length_cons, List.length_nil, Nat.reduceAdd, Nat.reduceSub])
    (repeat' (first
 | (refine zJ 2 rfl ?_; simp (maxSteps := 4000000) only [go_sem, seval, List.take_succ_cons, List.take_zero, e0, decide_true]; (repeat refine And.intro (by omega) ?_); refine zQ (hv) [0, 1, 5, 4] rfl ?_ ?_ rfl ?_ <;> try simp (maxSteps := 4000000) only [go_sem, seval, Nat.lt_irrefl, e0, decide_true] <;> try decide)
 | refine zC ?_
 | refine kt ?_
 | refine And.intro ?_ ?_
 | ((first | refine awp_stp rfl ?_ | refine awp_draw (by kernel_rfl) (by kernel_rfl) ?_ | refine Imp.le2 ?_ | refine go_split (fun _h => ?_) (fun _h => ?_)) <;> try simp (maxSteps := 4000000) only [go_sem, seval, e0, decide_true])
 | intro _h
 | refine zA ?_
 | refine zB ?_
 | refine zF ?_ ?_
 | (show zE _ _ = true; kernel_rfl)
 | (show zD _ _ = true; kernel_rfl)
 | (omega)))
    all_goals trace_state
   ·have e0 : ((s.rest : Int) = 0) = False := eq_false (by omega)
    have h256 : s.rest < 256 := Nat.lt_of_lt_of_le hs.rest (show 2 ^ t.reports.length ≤ 2 ^ 8 from Nat.pow_le_pow_right (by omega) (by omega))
    have hst := stt_win hs.sl hs.fl
    have hsn := stt_len hs.sl hs.fl
    have hks : getS a.K s = gmGet a.K ⟨s, hs.sl, hs.fl⟩ := by unfold getS; rw [dif_pos ⟨hs.sl, hs.fl⟩]
    by_cases hlost : getS a.K s = some true
    ·have e : eachM t (waS t) (f + 1) s place a = ((false, true), a) := by simp only [eachM]; rw [if_neg h0, if_pos hlost]
     rw [e]
     have hmg := fun z (f : AV → Bool → Prop) => mget_ks (z := z) (f := f) (hks ▸ hlost)
     simp only [keyV, stC] at hmg
     have hkey := fun (a d : Int) => keyS (a := a) (d := d) hs.sl hs.fl
     simp only [heW, seG, stC, zL, slR, slC, List.cons_append, List.nil_append]
     (refine zH (ys := [.bool false, .bool true]) (fun w args => Try.call86 ..) Try.func86 rfl (fun w0 m0 wz => ?_); simp only [Try.ntmps86, Try.results86, zN, zP, zU, zV, slR, slC, zL, sl, List.toList_toArray, List.cons_append, List.nil_append, List.length_cons, List.length_nil, Nat.reduceAdd, Nat.reduceSub])
     (repeat' (first
 | ((show zeroOK _ = true; rfl))
 | ((exact hkey _ _))
 | ((exact absurd ‹true = false› (by simp)))
 | refine zC ?_
 | refine kt ?_
 | refine And.intro ?_ ?_
 | ((first | refine awp_stp rfl ?_ | refine awp_draw3 (by kernel_rfl) (by kernel_rfl) ?_ | refine Imp.le2 ?_ | refine go_split (fun _h => ?_) (fun _h => ?_)) <;> try simp (maxSteps := 4000000) only [go_sem, seval, e0, decide_false, hmg, hst, hsn])
 | intro _h
 | refine zA ?_
 | refine zB ?_
 | refine zF ?_ ?_
 | (show heapOK3 _ _ _ = true; kernel_rfl)
 | (show zE _ _ = true; kernel_rfl)
 | (show zD _ _ = true; kernel_rfl)
 | (omega)))
     all_goals (exact absurd _h (by simp))
    ·obtain ⟨b, hmg⟩ : ∃ b : Bool, ∀ (f : AV → Bool → Prop), mgetK (kmC a.K) (keyV ⟨s, hs.sl, hs.fl⟩) (.bool false) f = f (.bool false) b := by
      rw [hks] at hlost
      cases hg : gmGet a.K ⟨s, hs.sl, hs.fl⟩ with
      | none => exact ⟨false, fun f => mget_kn hg⟩
      | some b =>
        cases b with
        | true => exact absurd hg hlost
        | false => exact ⟨true, fun f => mget_ks hg⟩
     have hnx := next_c t s
     have hkey := fun (a d : Int) => keyS (a := a) (d := d) hs.sl hs.fl
     have e : eachM t (waS t) (f + 1) s place a = endM s (goE (oneM t (eachM t (waS t) f) s place) (candN t s.rest s.rest) false a) := by simp only [eachM]; rw [if_neg h0, if_neg hlost]
     rw [e] at hok hfin ⊢
     obtain ⟨⟨⟨fE, mE⟩, aE⟩, hE⟩ : ∃ r, goE (oneM t (eachM t (waS t) f) s place) (candN t s.rest s.rest) false a = r := ⟨_, rfl⟩
     rw [hE] at hok hfin ⊢
     rw [endM_v] at hfin
     replace hfin : waF aE.v = true := hfin
     simp only [keyV, stC] at hmg
     have hpE : PDOK aE.pl aE.dy := by
      unfold endM at hok
      split at hok
      ·exact hok.2
      ·exact hok.2
     clear e hok
     obtain ⟨st, pend, ex, hcase⟩ : ∃ (st : LoopState) (pend : Option Code) (ex : Exit), (mE = true ∧ st = .ready ∧ pend = none ∧ ex = .normal) ∨ (mE = false ∧ st = .done ∧ pend = some .ret ∧ ex = .ret) := by
      cases mE
      ·exact ⟨.done, some .ret, .ret, .inr ⟨rfl, rfl, rfl, rfl⟩⟩
      ·exact ⟨.ready, none, .normal, .inl ⟨rfl, rfl, rfl, rfl⟩⟩
     have e1 : (endM s ((fE, mE), aE)).1.1 = fE := by unfold endM; cases mE <;> rfl
     have e2 : (endM s ((fE, mE), aE)).1.2 = mE := by unfold endM; cases mE <;> rfl
     rw [e1, e2]
     simp only [heW, seG, stC, zL, slR, slC, List.cons_append, List.nil_append] at hnx ⊢
     (refine zH (ys := [.bool fE, .bool mE]) (fun w args => Try.call86 ..) Try.func86 rfl (fun w0 m0 wz => ?_); simp only [Try.ntmps86, Try.results86, zN, zP, zU, zV, slR, slC, zL, sl, List.toList_toArray, List.cons_append, List.nil_append, List.length_cons, List.length_nil, Nat.reduceAdd, Nat.reduceSub])
     (repeat' (first
 | ((show zeroOK _ = true; rfl))
 | ((exact hkey _ _))
 | (refine zJ 2 rfl ?_; simp (maxSteps := 4000000) only [go_sem, seval, List.take_succ_cons, List.take_zero, e0, decide_false, hmg, hst, hsn]; (repeat refine And.intro (by omega) ?_); refine zQ (hnx) [] rfl ?_ ?_ ?_ ?_ <;> try simp (maxSteps := 4000000) only [go_sem, seval, Nat.lt_irrefl, e0, decide_false, hmg, hst, hsn] <;> try decide)
 | refine zC ?_
 | refine kt ?_
 | refine And.intro ?_ ?_
 | ((first | refine awp_stp rfl ?_ | refine awp_draw3 (by kernel_rfl) (by kernel_rfl) ?_ | refine Imp.le2 ?_ | refine go_split (fun _h => ?_) (fun _h => ?_)) <;> try simp (maxSteps := 4000000) only [go_sem, seval, e0, decide_false, hmg, hst, hsn])
 | intro _h
 | refine zA ?_
 | refine zB ?_
 | refine zF ?_ ?_
 | (show heapOK3 _ _ _ = true; kernel_rfl)
 | (show zE _ _ = true; kernel_rfl)
 | (show zD _ _ = true; kernel_rfl)
 | (omega)))
     try any_goals (exfalso; simp at _h; done)
     refine AWP.le2 (s' := ⟨etW, ehW t  s place false a, []⟩) (by simp only [etW, ehW, heW, seG, stC, zL, slR, slC, List.cons_append, List.nil_append]; simp (maxSteps := 4000000) only [go_sem, seval]) ?_
     refine awp_rangeZ (gf := 107) (first := []) (caps := [.ptr 14 0 0, .ptr 13 0 0]) (by simp only [etW]; simp (maxSteps := 4000000) only [go_sem, seval]) 15 rfl ?_
     intro ca cb hca hcb
     refine ⟨.tup [], ehW t  s place fE aE ++ [some (.dfr true), some (.loop st pend 0 etW #[32] ca cb 15)], st, pend, ex, ?_, ?_, ?_, ?_, ?_⟩
     ·simp only [etW, ehW, heW, seG, stC, zL, slR, slC, List.cons_append, List.nil_append]; simp (maxSteps := 4000000) only [go_sem, seval]
      (refine zH (ys := []) (fun w args => Try.call107 ..) Try.func107 rfl (fun w0 m0 wz => ?_); simp only [Try.ntmps107, Try.results107, zN, zP, zU, zV, slR, slC, zL, sl, List.toList_toArray, List.cons_append, List.nil_append, List.length_cons, List.length_nil, Nat.reduceAdd, Nat.reduceSub])
      (repeat' (first
 | refine zC ?_
 | refine kt ?_
 | refine And.intro ?_ ?_
 | ((first | refine awp_stp rfl ?_ | refine awp_draw (by kernel_rfl) (by kernel_rfl) ?_ | refine Imp.le2 ?_ | refine go_split (fun _h => ?_) (fun _h => ?_)) <;> try simp (maxSteps := 4000000) only [go_sem, seval])
 | intro _h
 | refine zA ?_
 | refine zB ?_
 | refine zF ?_ ?_
 | (show zE _ _ = true; kernel_rfl)
 | (show zD _ _ = true; kernel_rfl)
 | (omega)))
      refine awp_loopJ (fun x : Nat × Bool × EA (List (List Int) × Bool) => x.1 &&& s.rest = x.1 ∧ EAOK WaOK x.2.2 ∧ goE (oneM t (eachM t (waS t) f) s place) (candN t s.rest x.1) x.2.1 x.2.2 = ((fE, mE), aE))
       (fun x => ⟨mkT 54 [(0, .fn (.yield 16) [] []), (1, .ptr 14 0 0), (2, .ptr 13 0 0), (4, .int .u8 (x.1 : Nat))], ehW t  s place x.2.1 x.2.2 ++ [some (.dfr true), some (.loop .ready none 0 etW #[32] ca cb 15)], []⟩) (fun x => x.1) (s.rest, false, a) ⟨Nat.and_self _, ha, hE⟩ (.le2 ?_) ?_
      ·simp only [etW, ehW, heW, seG, stC, zL, slR, slC, List.cons_append, List.nil_append]; simp (maxSteps := 4000000) only [go_sem, seval]
       try (first | rfl | exact ⟨rfl, rfl⟩)
      ·rintro ⟨x, fd, a1⟩ ⟨hx, ha1, hF⟩
       simp only at hx ha1 hF
       by_cases hx0 : x = 0
       ·subst hx0
        rw [candN_zero] at hF
        simp only [goE, Prod.mk.injEq] at hF
        obtain ⟨⟨h1, h2⟩, h3⟩ := hF
        subst h1 h2 h3
        rcases hcase with ⟨_, h2, h3, h4⟩ | ⟨h, _⟩
        ·subst h2 h3 h4
         simp only [etW, ehW, heW, seG, stC, zL, slR, slC, List.cons_append, List.nil_append]; simp (maxSteps := 4000000) only [go_sem, seval]
         (repeat' (first
 | ((exfalso; omega))
 | refine zC ?_
 | refine kt ?_
 | refine And.intro ?_ ?_
 | ((first | refine awp_stp rfl ?_ | refine awp_draw (by kernel_rfl) (by kernel_rfl) ?_ | refine Imp.le2 ?_ | refine go_split (fun _h => ?_) (fun _h => ?_)) <;> try simp (maxSteps := 4000000) only [go_sem, seval])
 | intro _h
 | refine zA ?_
 | refine zB ?_
 | refine zF ?_ ?_
 | (show zE _ _ = true; kernel_rfl)
 | (show zD _ _ = true; kernel_rfl)
 | (omega)))
         all_goals trace_state
        ·exact absurd h (by simp)
       ·rw [candN_step hx0] at hF
        have hxr : x ≤ s.rest := by
         have : x &&& s.rest ≤ s.rest := Nat.and_le_right
         rw [hx] at this; exact this
        have hxn : x < 2 ^ t.reports.length := by have := hs.rest; omega
        have hx8 : x < 256 := by omega
        have htz := tz_in hx0 hxn hr.2
        have htc := tz_c x hx8
        have hso : (t.reports.getD (tz x) default).slope = slopeO t x := rfl
        have e5 : IntKind.u8.wrap ((x : Int) - 1) = ((x - 1 : Nat) : Int) := sub_nat hx8 hx0
        have e6 : u8and ((x - 1 : Nat) : Int) (s.rest : Nat) = (((x - 1) &&& s.rest : Nat) : Int) := u8and_nat (by omega) h256
        have hax : (x - 1) &&& s.rest ≤ x - 1 := Nat.and_le_left
        have hxx : ((x - 1) &&& s.rest) &&& s.rest = (x - 1) &&& s.rest := by rw [Nat.and_assoc, Nat.and_self]
        simp only [etW, ehW, heW, seG, stC, zL, slR, slC, List.cons_append, List.nil_append]; simp (maxSteps := 4000000) only [go_sem, seval]
        (repeat' (first
 | ((exfalso; omega))
 | ((omega))
 | refine zC ?_
 | refine kt ?_
 | refine And.intro ?_ ?_
 | ((first | refine awp_stp rfl ?_ | refine awp_draw (by kernel_rfl) (by kernel_rfl) ?_ | refine Imp.le2 ?_ | refine callK_of (htc) ?_ | refine go_split (fun _h => ?_) (fun _h => ?_)) <;> try simp (maxSteps := 4000000) only [go_sem, seval, hso])
 | intro _h
 | refine zA ?_
 | refine zB ?_
 | refine zF ?_ ?_
 | (show zE _ _ = true; kernel_rfl)
 | (show zD _ _ = true; kernel_rfl)
 | (omega)))
        refine awp_loopN t.reports.length (fun i => ⟨mkT 54 [(0, .fn (.yield 16) [] []), (1, .ptr 14 0 0), (2, .ptr 13 0 0), (4, .int .u8 (x : Nat)), (5, .int .i64 (slopeO t x)), (6, .bool (sameK t x i)), (26, slR t.reports), (27, .int .i64 t.reports.length), (28, .int .i64 i)], ehW t  s place fd a1 ++ [some (.dfr true), some (.loop .ready none 0 etW #[32] ca cb 15)], []⟩) (.le2 ?_) ?_
        ·simp only [etW, ehW, heW, seG, stC, zL, slR, slC, List.cons_append, List.nil_append, sameK]; simp (maxSteps := 4000000) only [go_sem, seval]
         try (first | rfl | exact ⟨rfl, rfl⟩)
        ·intro i hi
         rcases Nat.lt_or_eq_of_le hi with hi1 | hi1
         ·have hin := inS_c x i hx8 (by omega)
          obtain ⟨q, hq⟩ : ∃ q, sameK t x i = q := ⟨_, rfl⟩
          obtain ⟨b, hb⟩ : ∃ b, x.testBit i = b := ⟨_, rfl⟩
          obtain ⟨z, hz⟩ : ∃ z, slopeO t x = z := ⟨_, rfl⟩
          have hss : sameK t x (i + 1) = (q && (!b || decide ((t.reports.getD i default).slope = z))) := by simp only [sameK, hq, hb, hz]
          rw [hss, hq, hz]
          rw [hb] at hin
          clear hss hq hz hb hF
          cases q
          ·simp only [etW, ehW, heW, seG, stC, zL, slR, slC, List.cons_append, List.nil_append, Bool.false_and]; simp (maxSteps := 4000000) only [go_sem, seval]
           (repeat' (first
 | ((exfalso; omega))
 | ((omega))
 | refine zC ?_
 | refine kt ?_
 | refine And.intro ?_ ?_
 | ((first | refine awp_stp rfl ?_ | refine awp_draw (by kernel_rfl) (by kernel_rfl) ?_ | refine Imp.le2 ?_ | refine go_split (fun _h => ?_) (fun _h => ?_)) <;> try simp (maxSteps := 4000000) only [go_sem, seval])
 | intro _h
 | refine zA ?_
 | refine zB ?_
 | refine zF ?_ ?_
 | (show zE _ _ = true; kernel_rfl)
 | (show zD _ _ = true; kernel_rfl)
 | (omega)))
           all_goals trace_state
          ·cases b
           ·simp only [etW, ehW, heW, seG, stC, zL, slR, slC, List.cons_append, List.nil_append, Bool.not_false, Bool.true_or, Bool.true_and]; simp (maxSteps := 4000000) only [go_sem, seval]
            (repeat' (first
 | ((exfalso; omega))
 | ((omega))
 | refine zC ?_
 | refine kt ?_
 | refine And.intro ?_ ?_
 | ((first | refine awp_stp rfl ?_ | refine awp_draw (by kernel_rfl) (by kernel_rfl) ?_ | refine Imp.le2 ?_ | refine callK_of (hin) ?_ | refine go_split (fun _h => ?_) (fun _h => ?_)) <;> try simp (maxSteps := 4000000) only [go_sem, seval])
 | intro _h
 | refine zA ?_
 | refine zB ?_
 | refine zF ?_ ?_
 | (show zE _ _ = true; kernel_rfl)
 | (show zD _ _ = true; kernel_rfl)
 | (omega)))
            all_goals trace_state
           ·by_cases hsl : (t.reports.getD i default).slope = z
            ·simp only [etW, ehW, heW, seG, stC, zL, slR, slC, List.cons_append, List.nil_append, Bool.not_true, Bool.false_or, Bool.true_and, hsl, decide_true]; simp (maxSteps := 4000000) only [go_sem, seval]
             (repeat' (first
 | ((exfalso; omega))
 | ((omega))
 | refine zC ?_
 | refine kt ?_
 | refine And.intro ?_ ?_
 | ((first | refine awp_stp rfl ?_ | refine awp_draw (by kernel_rfl) (by kernel_rfl) ?_ | refine Imp.le2 ?_ | refine callK_of (hin) ?_ | refine go_split (fun _h => ?_) (fun _h => ?_)) <;> try simp (maxSteps := 4000000) only [go_sem, seval, hsl, decide_true])
 | intro _h
 | refine zA ?_
 | refine zB ?_
 | refine zF ?_ ?_
 | (show zE _ _ = true; kernel_rfl)
 | (show zD _ _ = true; kernel_rfl)
 | (omega)))
             all_goals trace_state
            ·simp only [etW, ehW, heW, seG, stC, zL, slR, slC, List.cons_append, List.nil_append, Bool.not_true, Bool.false_or, Bool.true_and, hsl, decide_false]; simp (maxSteps := 4000000) only [go_sem, seval]
             (repeat' (first
 | ((exfalso; omega))
 | ((omega))
 | refine zC ?_
 | refine kt ?_
 | refine And.intro ?_ ?_
 | ((first | refine awp_stp rfl ?_ | refine awp_draw (by kernel_rfl) (by kernel_rfl) ?_ | refine Imp.le2 ?_ | refine callK_of (hin) ?_ | refine go_split (fun _h => ?_) (fun _h => ?_)) <;> try simp (maxSteps := 4000000) only [go_sem, seval, hsl, decide_false])
 | intro _h
 | refine zA ?_
 | refine zB ?_
 | refine zF ?_ ?_
 | (show zE _ _ = true; kernel_rfl)
 | (show zD _ _ = true; kernel_rfl)
 | (omega)))
             all_goals trace_state
         ·subst hi1
          cases hG : sameK t x t.reports.length with
          | false =>
            rw [hG, if_neg (by simp)] at hF
            simp only [etW, ehW, heW, seG, stC, zL, slR, slC, List.cons_append, List.nil_append]; simp (maxSteps := 4000000) only [go_sem, seval]
            (repeat' (first
 | ((exfalso; omega))
 | ((omega))
 | refine zC ?_
 | refine kt ?_
 | refine And.intro ?_ ?_
 | ((first | refine awp_stp rfl ?_ | refine awp_draw (by kernel_rfl) (by kernel_rfl) ?_ | refine Imp.le2 ?_ | refine go_split (fun _h => ?_) (fun _h => ?_)) <;> try simp (maxSteps := 4000000) only [go_sem, seval, e5, e6])
 | intro _h
 | refine zA ?_
 | refine zB ?_
 | refine zF ?_ ?_
 | (show zE _ _ = true; kernel_rfl)
 | (show zD _ _ = true; kernel_rfl)
 | (omega)))
            refine ⟨((x - 1) &&& s.rest, fd, a1), ⟨hxx, ha1, hF⟩, by simp only; omega, .le2 ?_⟩
            simp only [etW, ehW, heW, seG, stC, zL, slR, slC, List.cons_append, List.nil_append]; simp (maxSteps := 4000000) only [go_sem, seval]
            try (first | rfl | exact ⟨rfl, rfl⟩)
          | true =>
            rw [hG, if_pos rfl] at hF
            simp only [goE] at hF
            have hmay := may_c t s x a1.pl a1.dy a1.K ht hs hx0 hxn
            obtain ⟨hl1, hl2⟩ := mayS_len ht hs hx0 hxn
            have hst2 := stt_win hl1 hl2
            have hsn2 := stt_len hl1 hl2
            by_cases hm : (mayS t s x).2 = true
            ·obtain ⟨m1, m2, m3⟩ := mayS_ok ht hs hx0 hx hm
             have h1 : oneM t (eachM t (waS t) f) s place x a1 = eachM t (waS t) f (mayS t s x).1 (place + 1) (putE t x place (mayS t s x).1.day a1) := by unfold oneM; rw [if_pos hm]
             have hao : EAOK WaOK (putE t x place (mayS t s x).1.day a1) := ⟨ha1.1, ha1.2.put hr.2 ⟨hp0, by omega⟩ m3⟩
             have hih := ih (mayS t s x).1 (place + 1) (putE t x place (mayS t s x).1.day a1) m1 (by omega) (by omega) (by omega) hao
             have hok1 := eachM_ok (step := (waS t)) ht (wa_ok t ht) f (mayS t s x).1 (place + 1) (putE t x place (mayS t s x).1.day a1) m1 (by omega) (by omega) hao
             have hq1 := ha1.2.lpl
             have hq2 := ha1.2.ldy
             rw [h1] at hF
             rw [hm] at hmay
             clear h1 hao m1 hG
             generalize (mayS t s x).1 = to at *
             obtain ⟨⟨⟨he1, mo⟩, a2⟩, hr2⟩ : ∃ r, eachM t (waS t) f to (place + 1) (putE t x place to.day a1) = r := ⟨_, rfl⟩
             rw [hr2] at hih hF hok1
             simp only [etW, ehW, heW, seG, stC, zL, slR, slC, List.cons_append, List.nil_append, seC] at hmay
             simp only at hF hih hok1
             have hF0 := hF
             cases mo with
             | true =>
               rw [if_pos rfl] at hF
               have hih := hih (goE_fin (fin := waF) (oneM_fin (t := t) (eachM_fin (t := t) (waS_fin t) f) s place) (show waF (goE (oneM t (eachM t (waS t) f) s place) (candN t s.rest ((x - 1) &&& s.rest)) (fd || he1) a2).2.v = true by rw [hF]; exact hfin))
               simp only [etW, ehW, heW, seG, stC, zL, slR, slC, List.cons_append, List.nil_append]; simp (maxSteps := 4000000) only [go_sem, seval]
               (repeat' (first
 | ((exfalso; omega))
 | ((omega))
 | ((refine zJ (id := 10) 4 rfl ?_; simp (maxSteps := 4000000) only [go_sem, seval, List.take_succ_cons, List.take_zero]; refine callH_yield true (ehW t  s place (fd || he1) a2 ++ [some (.dfr true), some (.loop .ready none 0 etW #[32] ca cb 15)]) ?_ ?_ <;> simp only [etW, ehW, heW, seG, stC, zL, slR, slC, List.cons_append, List.nil_append] <;> (try simp (maxSteps := 4000000) only [go_sem, seval])))
 | refine zC ?_
 | refine kt ?_
 | refine And.intro ?_ ?_
 | ((first | refine awp_stp rfl ?_ | refine awp_draw (by kernel_rfl) (by kernel_rfl) ?_ | refine Imp.le2 ?_ | refine go_split (fun _h => ?_) (fun _h => ?_)) <;> try simp (maxSteps := 4000000) only [go_sem, seval, e5, e6])
 | intro _h
 | refine zA ?_
 | refine zB ?_
 | refine zF ?_ ?_
 | (show zE _ _ = true; kernel_rfl)
 | (show zD _ _ = true; kernel_rfl)
 | (omega)))
               ·refine semY_of_awpZ rfl rfl ?_
                intro B w0 l m w
                refine awp_code hca ?_
                (repeat' (first
 | refine zC ?_
 | refine kt ?_
 | refine And.intro ?_ ?_
 | ((first | refine awp_stp rfl ?_ | refine awp_draw (by kernel_rfl) (by kernel_rfl) ?_ | refine Imp.le2 ?_ | refine go_split (fun _h => ?_) (fun _h => ?_)) <;> try simp (maxSteps := 4000000) only [go_sem, seval])
 | intro _h
 | refine zA ?_
 | refine zB ?_
 | refine zF ?_ ?_
 | (show zE _ _ = true; kernel_rfl)
 | (show zD _ _ = true; kernel_rfl)
 | (omega)))
                refine awp_code hcb ?_
                (repeat' (first
 | (refine zJ 3 rfl ?_; simp (maxSteps := 4000000) only [go_sem, seval, List.take_succ_cons, List.take_zero, hst, hsn, hst2, hsn2]; (repeat refine And.intro (by omega) ?_); refine zQ (hmay) [5, 4] rfl ?_ ?_ ?_ ?_ <;> try simp (maxSteps := 4000000) only [go_sem, seval, Nat.lt_irrefl, hst, hsn, hst2, hsn2] <;> try decide)
 | refine zC ?_
 | refine kt ?_
 | refine And.intro ?_ ?_
 | ((first | refine awp_stp rfl ?_ | refine awp_draw (by kernel_rfl) (by kernel_rfl) ?_ | refine Imp.le2 ?_ | refine go_split (fun _h => ?_) (fun _h => ?_)) <;> try simp (maxSteps := 4000000) only [go_sem, seval, hst, hsn, hst2, hsn2])
 | intro _h
 | refine zA ?_
 | refine zB ?_
 | refine zF ?_ ?_
 | (show zE _ _ = true; kernel_rfl)
 | (show zD _ _ = true; kernel_rfl)
 | (omega)))
                refine awp_loopN t.reports.length (fun j => ⟨mkT 88 [(2, .ptr 3 0 0), (3, .ptr 6 0 0), (4, .ptr 2 0 0), (5, .ptr 7 0 0), (6, .ptr 8 0 0), (7, .ptr 9 0 0), (8, .ptr 10 0 0), (9, .ptr 11 0 0), (10, .ptr 12 0 0), (11, .int .u8 (x : Nat)), (12, .ptr 17 0 0), (44, .int .i64 t.reports.length), (45, .int .i64 j)], ehW t  s place fd ⟨a1.v, wrM x place j a1.pl, wrM x to.day j a1.dy, a1.K⟩ ++ [some (.dfr true), some (.loop .busy none 0 etW #[32] ca cb 15), some (.cells 136 1 0 (stC to))], []⟩) (.le2 ?_) ?_
                ·simp only [etW, ehW, heW, seG, stC, zL, slR, slC, List.cons_append, List.nil_append, wrM]; simp (maxSteps := 4000000) only [go_sem, seval]
                 try (first | rfl | exact ⟨rfl, rfl⟩)
                ·intro j hj
                 have hS1 := wrM_length (now := x) (x := place) (l := a1.pl) (k := j) (by rw [hq1]; omega)
                 have hF1 := wrM_length (now := x) (x := to.day) (l := a1.dy) (k := j) (by rw [hq2]; omega)
                 rw [hq1] at hS1
                 rw [hq2] at hF1
                 rcases Nat.lt_or_eq_of_le hj with hj1 | hj1
                 ·have hin := inS_c x j hx8 (by omega)
                  simp only [wrM]
                  generalize wrM x place j a1.pl = S1 at *
                  generalize wrM x to.day j a1.dy = F1 at *
                  have hss := fun x y z u v => ss_pl (x := x) (y := y) (z := z) (u := u) (S := S1) (F := F1) (i := j) (v := v) (by omega)
                  have hsd := fun x y z u v w => ss_dy (x := x) (y := y) (z := z) (u := u) (S := isp S1 j v) (F := F1) (i := j) (v := w) (by rw [isp_length (by omega)]; exact hS1) (by omega)
                  have hle1 := se_len hS1 hF1
                  have hle2 := fun v => se_len (S := isp S1 j v) (F := F1) (by rw [isp_length (by omega)]; exact hS1) hF1
                  generalize x.testBit j = b at *
                  cases b
                  ·simp only [etW, ehW, heW, seG, stC, zL, slR, slC, List.cons_append, List.nil_append, Bool.false_eq_true, if_false]; simp (maxSteps := 4000000) only [go_sem, seval]
                   (repeat' (first
 | ((exfalso; omega))
 | ((omega))
 | refine zC ?_
 | refine kt ?_
 | refine And.intro ?_ ?_
 | ((first | refine awp_stp rfl ?_ | refine awp_draw (by kernel_rfl) (by kernel_rfl) ?_ | refine Imp.le2 ?_ | refine callK_of (hin) ?_ | refine go_split (fun _h => ?_) (fun _h => ?_)) <;> try simp (maxSteps := 4000000) only [go_sem, seval])
 | intro _h
 | refine zA ?_
 | refine zB ?_
 | refine zF ?_ ?_
 | (show zE _ _ = true; kernel_rfl)
 | (show zD _ _ = true; kernel_rfl)
 | (omega)))
                   all_goals trace_state
                  ·simp only [etW, ehW, heW, seG, stC, zL, slR, slC, List.cons_append, List.nil_append, if_true]; simp (maxSteps := 4000000) only [go_sem, seval]
                   (repeat' (first
 | ((exfalso; omega))
 | ((omega))
 | refine zC ?_
 | refine kt ?_
 | refine And.intro ?_ ?_
 | ((first | refine awp_stp rfl ?_ | refine awp_draw3 (by kernel_rfl) (by kernel_rfl) ?_ | refine Imp.le2 ?_ | refine callK_of (hin) ?_ | refine go_split (fun _h => ?_) (fun _h => ?_)) <;> try simp (maxSteps := 4000000) only [go_sem, seval, hss, hsd, hle1, hle2])
 | intro _h
 | refine zA ?_
 | refine zB ?_
 | refine zF ?_ ?_
 | (show heapOK3 _ _ _ = true; kernel_rfl)
 | (show zE _ _ = true; kernel_rfl)
 | (show zD _ _ = true; kernel_rfl)
 | (omega)))
                   all_goals trace_state
                 ·subst hj1
                  simp only [putE] at hih
                  generalize wrM x place t.reports.length a1.pl = S1 at *
                  generalize wrM x to.day t.reports.length a1.dy = F1 at *
                  clear hF hF0
                  cases fd
                  all_goals
                   simp only [etW, ehW, heW, seG, stC, zL, slR, slC, List.cons_append, List.nil_append, Bool.true_or, Bool.false_or] at hih ⊢
                   simp (maxSteps := 4000000) only [go_sem, seval]
                   (repeat' (first
 | (refine zJ 4 rfl ?_; simp (maxSteps := 4000000) only [go_sem, seval, List.take_succ_cons, List.take_zero, hst2, hsn2]; (repeat refine And.intro (by omega) ?_); refine zQ (hih) [0, 1, 2, 3, 4, 5, 6, 7, 8] rfl ?_ ?_ ?_ ?_ <;> try simp (maxSteps := 4000000) only [go_sem, seval, Nat.lt_irrefl, hst2, hsn2] <;> try decide)
 | ((exfalso; omega))
 | ((omega))
 | refine zC ?_
 | refine kt ?_
 | refine And.intro ?_ ?_
 | ((first | refine awp_stp rfl ?_ | refine awp_draw (by kernel_rfl) (by kernel_rfl) ?_ | refine Imp.le2 ?_ | refine go_split (fun _h => ?_) (fun _h => ?_)) <;> try simp (maxSteps := 4000000) only [go_sem, seval, hst2, hsn2])
 | intro _h
 | refine zA ?_
 | refine zB ?_
 | refine zF ?_ ?_
 | (show zE _ _ = true; kernel_rfl)
 | (show zD _ _ = true; kernel_rfl)
 | (omega)))
                  all_goals first | (rw [_h]; done) | trace_state
               ·refine ⟨((x - 1) &&& s.rest, fd || he1, a2), ⟨hxx, hok1, hF⟩, by simp only; omega, .le2 ?_⟩
                simp only [etW, ehW, heW, seG, stC, zL, slR, slC, List.cons_append, List.nil_append]; simp (maxSteps := 4000000) only [go_sem, seval]
                try (first | rfl | exact ⟨rfl, rfl⟩)
             | false =>
               rw [if_neg (by simp)] at hF
               simp only [Prod.mk.injEq] at hF
               obtain ⟨⟨g1, g2⟩, g3⟩ := hF
               rcases hcase with ⟨h, _⟩ | ⟨_, h2, h3, h4⟩
               ·rw [h] at g2; cases g2
               subst g1 g2 g3 h2 h3 h4
               have hih := hih hfin
               have hF := hF0
               simp only [etW, ehW, heW, seG, stC, zL, slR, slC, List.cons_append, List.nil_append]; simp (maxSteps := 4000000) only [go_sem, seval]
               (repeat' (first
 | ((exfalso; omega))
 | ((omega))
 | ((refine zJ (id := 10) 4 rfl ?_; simp (maxSteps := 4000000) only [go_sem, seval, List.take_succ_cons, List.take_zero]; refine callH_yield false (ehW t  s place (fd || he1) a2 ++ [some (.dfr true), some (.loop .done (some .ret) 0 etW #[32] ca cb 15)]) ?_ ?_ <;> simp only [etW, ehW, heW, seG, stC, zL, slR, slC, List.cons_append, List.nil_append] <;> (try simp (maxSteps := 4000000) only [go_sem, seval])))
 | refine zC ?_
 | refine kt ?_
 | refine And.intro ?_ ?_
 | ((first | refine awp_stp rfl ?_ | refine awp_draw (by kernel_rfl) (by kernel_rfl) ?_ | refine Imp.le2 ?_ | refine go_split (fun _h => ?_) (fun _h => ?_)) <;> try simp (maxSteps := 4000000) only [go_sem, seval, e5, e6])
 | intro _h
 | refine zA ?_
 | refine zB ?_
 | refine zF ?_ ?_
 | (show zE _ _ = true; kernel_rfl)
 | (show zD _ _ = true; kernel_rfl)
 | (omega)))
               ·refine semY_of_awpZ rfl rfl ?_
                intro B w0 l m w
                refine awp_code hca ?_
                (repeat' (first
 | refine zC ?_
 | refine kt ?_
 | refine And.intro ?_ ?_
 | ((first | refine awp_stp rfl ?_ | refine awp_draw (by kernel_rfl) (by kernel_rfl) ?_ | refine Imp.le2 ?_ | refine go_split (fun _h => ?_) (fun _h => ?_)) <;> try simp (maxSteps := 4000000) only [go_sem, seval])
 | intro _h
 | refine zA ?_
 | refine zB ?_
 | refine zF ?_ ?_
 | (show zE _ _ = true; kernel_rfl)
 | (show zD _ _ = true; kernel_rfl)
 | (omega)))
                refine awp_code hcb ?_
                (repeat' (first
 | (refine zJ 3 rfl ?_; simp (maxSteps := 4000000) only [go_sem, seval, List.take_succ_cons, List.take_zero, hst, hsn, hst2, hsn2]; (repeat refine And.intro (by omega) ?_); refine zQ (hmay) [5, 4] rfl ?_ ?_ ?_ ?_ <;> try simp (maxSteps := 4000000) only [go_sem, seval, Nat.lt_irrefl, hst, hsn, hst2, hsn2] <;> try decide)
 | refine zC ?_
 | refine kt ?_
 | refine And.intro ?_ ?_
 | ((first | refine awp_stp rfl ?_ | refine awp_draw (by kernel_rfl) (by kernel_rfl) ?_ | refine Imp.le2 ?_ | refine go_split (fun _h => ?_) (fun _h => ?_)) <;> try simp (maxSteps := 4000000) only [go_sem, seval, hst, hsn, hst2, hsn2])
 | intro _h
 | refine zA ?_
 | refine zB ?_
 | refine zF ?_ ?_
 | (show zE _ _ = true; kernel_rfl)
 | (show zD _ _ = true; kernel_rfl)
 | (omega)))
                refine awp_loopN t.reports.length (fun j => ⟨mkT 88 [(2, .ptr 3 0 0), (3, .ptr 6 0 0), (4, .ptr 2 0 0), (5, .ptr 7 0 0), (6, .ptr 8 0 0), (7, .ptr 9 0 0), (8, .ptr 10 0 0), (9, .ptr 11 0 0), (10, .ptr 12 0 0), (11, .int .u8 (x : Nat)), (12, .ptr 17 0 0), (44, .int .i64 t.reports.length), (45, .int .i64 j)], ehW t  s place fd ⟨a1.v, wrM x place j a1.pl, wrM x to.day j a1.dy, a1.K⟩ ++ [some (.dfr true), some (.loop .busy none 0 etW #[32] ca cb 15), some (.cells 136 1 0 (stC to))], []⟩) (.le2 ?_) ?_
                ·simp only [etW, ehW, heW, seG, stC, zL, slR, slC, List.cons_append, List.nil_append, wrM]; simp (maxSteps := 4000000) only [go_sem, seval]
                 try (first | rfl | exact ⟨rfl, rfl⟩)
                ·intro j hj
                 have hS1 := wrM_length (now := x) (x := place) (l := a1.pl) (k := j) (by rw [hq1]; omega)
                 have hF1 := wrM_length (now := x) (x := to.day) (l := a1.dy) (k := j) (by rw [hq2]; omega)
                 rw [hq1] at hS1
                 rw [hq2] at hF1
                 rcases Nat.lt_or_eq_of_le hj with hj1 | hj1
                 ·have hin := inS_c x j hx8 (by omega)
                  simp only [wrM]
                  generalize wrM x place j a1.pl = S1 at *
                  generalize wrM x to.day j a1.dy = F1 at *
                  have hss := fun x y z u v => ss_pl (x := x) (y := y) (z := z) (u := u) (S := S1) (F := F1) (i := j) (v := v) (by omega)
                  have hsd := fun x y z u v w => ss_dy (x := x) (y := y) (z := z) (u := u) (S := isp S1 j v) (F := F1) (i := j) (v := w) (by rw [isp_length (by omega)]; exact hS1) (by omega)
                  have hle1 := se_len hS1 hF1
                  have hle2 := fun v => se_len (S := isp S1 j v) (F := F1) (by rw [isp_length (by omega)]; exact hS1) hF1
                  generalize x.testBit j = b at *
                  cases b
                  ·simp only [etW, ehW, heW, seG, stC, zL, slR, slC, List.cons_append, List.nil_append, Bool.false_eq_true, if_false]; simp (maxSteps := 4000000) only [go_sem, seval]
                   (repeat' (first
 | ((exfalso; omega))
 | ((omega))
 | refine zC ?_
 | refine kt ?_
 | refine And.intro ?_ ?_
 | ((first | refine awp_stp rfl ?_ | refine awp_draw (by kernel_rfl) (by kernel_rfl) ?_ | refine Imp.le2 ?_ | refine callK_of (hin) ?_ | refine go_split (fun _h => ?_) (fun _h => ?_)) <;> try simp (maxSteps := 4000000) only [go_sem, seval])
 | intro _h
 | refine zA ?_
 | refine zB ?_
 | refine zF ?_ ?_
 | (show zE _ _ = true; kernel_rfl)
 | (show zD _ _ = true; kernel_rfl)
 | (omega)))
                   all_goals trace_state
                  ·simp only [etW, ehW, heW, seG, stC, zL, slR, slC, List.cons_append, List.nil_append, if_true]; simp (maxSteps := 4000000) only [go_sem, seval]
                   (repeat' (first
 | ((exfalso; omega))
 | ((omega))
 | refine zC ?_
 | refine kt ?_
 | refine And.intro ?_ ?_
 | ((first | refine awp_stp rfl ?_ | refine awp_draw3 (by kernel_rfl) (by kernel_rfl) ?_ | refine Imp.le2 ?_ | refine callK_of (hin) ?_ | refine go_split (fun _h => ?_) (fun _h => ?_)) <;> try simp (maxSteps := 4000000) only [go_sem, seval, hss, hsd, hle1, hle2])
 | intro _h
 | refine zA ?_
 | refine zB ?_
 | refine zF ?_ ?_
 | (show heapOK3 _ _ _ = true; kernel_rfl)
 | (show zE _ _ = true; kernel_rfl)
 | (show zD _ _ = true; kernel_rfl)
 | (omega)))
                   all_goals trace_state
                 ·subst hj1
                  simp only [putE] at hih
                  generalize wrM x place t.reports.length a1.pl = S1 at *
                  generalize wrM x to.day t.reports.length a1.dy = F1 at *
                  clear hF hF0
                  cases fd
                  all_goals
                   simp only [etW, ehW, heW, seG, stC, zL, slR, slC, List.cons_append, List.nil_append, Bool.true_or, Bool.false_or] at hih ⊢
                   simp (maxSteps := 4000000) only [go_sem, seval]
                   (repeat' (first
 | (refine zJ 4 rfl ?_; simp (maxSteps := 4000000) only [go_sem, seval, List.take_succ_cons, List.take_zero, hst2, hsn2]; (repeat refine And.intro (by omega) ?_); refine zQ (hih) [0, 1, 2, 3, 4, 5, 6, 7, 8] rfl ?_ ?_ ?_ ?_ <;> try simp (maxSteps := 4000000) only [go_sem, seval, Nat.lt_irrefl, hst2, hsn2] <;> try decide)
 | ((exfalso; omega))
 | ((omega))
 | refine zC ?_
 | refine kt ?_
 | refine And.intro ?_ ?_
 | ((first | refine awp_stp rfl ?_ | refine awp_draw (by kernel_rfl) (by kernel_rfl) ?_ | refine Imp.le2 ?_ | refine go_split (fun _h => ?_) (fun _h => ?_)) <;> try simp (maxSteps := 4000000) only [go_sem, seval, hst2, hsn2])
 | intro _h
 | refine zA ?_
 | refine zB ?_
 | refine zF ?_ ?_
 | (show zE _ _ = true; kernel_rfl)
 | (show zD _ _ = true; kernel_rfl)
 | (omega)))
                  all_goals first | (rw [_h]; done) | trace_state
               all_goals trace_state
            ·have h1 : oneM t (eachM t (waS t) f) s place x a1 = ((false, true), a1) := by unfold oneM; rw [if_neg hm]
             rw [h1] at hF
             simp only [if_true, Bool.or_false] at hF
             rw [Bool.not_eq_true] at hm
             rw [hm] at hmay
             generalize (mayS t s x).1 = to at *
             simp only [etW, ehW, heW, seG, stC, zL, slR, slC, List.cons_append, List.nil_append, seC] at hmay ⊢
             simp (maxSteps := 4000000) only [go_sem, seval]
             (repeat' (first
 | ((exfalso; omega))
 | ((omega))
 | ((refine zJ (id := 10) 4 rfl ?_; simp (maxSteps := 4000000) only [go_sem, seval, List.take_succ_cons, List.take_zero]; refine callH_yield true (ehW t  s place fd a1 ++ [some (.dfr true), some (.loop .ready none 0 etW #[32] ca cb 15)]) ?_ ?_ <;> simp only [etW, ehW, heW, seG, stC, zL, slR, slC, List.cons_append, List.nil_append] <;> (try simp (maxSteps := 4000000) only [go_sem, seval])))
 | refine zC ?_
 | refine kt ?_
 | refine And.intro ?_ ?_
 | ((first | refine awp_stp rfl ?_ | refine awp_draw (by kernel_rfl) (by kernel_rfl) ?_ | refine Imp.le2 ?_ | refine go_split (fun _h => ?_) (fun _h => ?_)) <;> try simp (maxSteps := 4000000) only [go_sem, seval, e5, e6])
 | intro _h
 | refine zA ?_
 | refine zB ?_
 | refine zF ?_ ?_
 | (show zE _ _ = true; kernel_rfl)
 | (show zD _ _ = true; kernel_rfl)
 | (omega)))
             ·refine semY_of_awpZ rfl rfl ?_
              intro B w0 l m w
              refine awp_code hca ?_
              (repeat' (first
 | refine zC ?_
 | refine kt ?_
 | refine And.intro ?_ ?_
 | ((first | refine awp_stp rfl ?_ | refine awp_draw (by kernel_rfl) (by kernel_rfl) ?_ | refine Imp.le2 ?_ | refine go_split (fun _h => ?_) (fun _h => ?_)) <;> try simp (maxSteps := 4000000) only [go_sem, seval])
 | intro _h
 | refine zA ?_
 | refine zB ?_
 | refine zF ?_ ?_
 | (show zE _ _ = true; kernel_rfl)
 | (show zD _ _ = true; kernel_rfl)
 | (omega)))
              refine awp_code hcb ?_
              (repeat' (first
 | (refine zJ 3 rfl ?_; simp (maxSteps := 4000000) only [go_sem, seval, List.take_succ_cons, List.take_zero, hst, hsn, hst2, hsn2]; (repeat refine And.intro (by omega) ?_); refine zQ (hmay) [5, 4] rfl ?_ ?_ ?_ ?_ <;> try simp (maxSteps := 4000000) only [go_sem, seval, Nat.lt_irrefl, hst, hsn, hst2, hsn2] <;> try decide)
 | refine zC ?_
 | refine kt ?_
 | refine And.intro ?_ ?_
 | ((first | refine awp_stp rfl ?_ | refine awp_draw (by kernel_rfl) (by kernel_rfl) ?_ | refine Imp.le2 ?_ | refine go_split (fun _h => ?_) (fun _h => ?_)) <;> try simp (maxSteps := 4000000) only [go_sem, seval, hst, hsn, hst2, hsn2])
 | intro _h
 | refine zA ?_
 | refine zB ?_
 | refine zF ?_ ?_
 | (show zE _ _ = true; kernel_rfl)
 | (show zD _ _ = true; kernel_rfl)
 | (omega)))
              all_goals trace_state
             ·refine ⟨((x - 1) &&& s.rest, fd, a1), ⟨hxx, ha1, hF⟩, by simp only; omega, .le2 ?_⟩
              simp only [etW, ehW, heW, seG, stC, zL, slR, slC, List.cons_append, List.nil_append]; simp (maxSteps := 4000000) only [go_sem, seval]
              try (first | rfl | exact ⟨rfl, rfl⟩)
     ·rfl
     ·rcases hcase with ⟨_, h, _, _⟩ | ⟨_, h, _, _⟩ <;> (rw [h]; simp)
     ·rcases hcase with ⟨_, _, h1, h2⟩ | ⟨_, _, h1, h2⟩ <;> (rw [h1, h2]; rfl)
     ·rcases hcase with ⟨h1, h2, h3, h4⟩ | ⟨h1, h2, h3, h4⟩
      ·subst h1 h2 h3 h4
       have e3 : (endM s ((fE, true), aE)).2 = { aE with K := gmPut aE.K ⟨s, hs.sl, hs.fl⟩ (!fE) } := by
        unfold endM putS; rw [if_pos rfl, dif_pos ⟨hs.sl, hs.fl⟩]
       rw [e3]
       have hmu1 := fun (f : List (AV × AV) → Prop) => mup_km (m := aE.K) (k := ⟨s, hs.sl, hs.fl⟩) (v := true) (f := f)
       have hmu2 := fun (f : List (AV × AV) → Prop) => mup_km (m := aE.K) (k := ⟨s, hs.sl, hs.fl⟩) (v := false) (f := f)
       simp only [keyV, stC] at hmu1 hmu2
       cases fE
       all_goals
        simp only [Bool.not_true, Bool.not_false]
        simp only [etW, ehW, heW, seG, stC, zL, slR, slC, List.cons_append, List.nil_append]; simp (maxSteps := 4000000) only [go_sem, seval]
        (repeat' (first
 | ((exact hkey _ _))
 | refine zC ?_
 | refine kt ?_
 | refine And.intro ?_ ?_
 | ((first | refine awp_stp rfl ?_ | refine awp_draw (by kernel_rfl) (by kernel_rfl) ?_ | refine Imp.le2 ?_ | refine go_split (fun _h => ?_) (fun _h => ?_)) <;> try simp (maxSteps := 4000000) only [go_sem, seval, hst, hsn, hmu1, hmu2])
 | intro _h
 | refine zA ?_
 | refine zB ?_
 | refine zF ?_ ?_
 | (show zE _ _ = true; kernel_rfl)
 | (show zD _ _ = true; kernel_rfl)
 | (omega)))
       all_goals trace_state
      ·subst h1 h2 h3 h4
       have e3 : (endM s ((fE, false), aE)).2 = aE := by
        unfold endM; rw [if_neg (by simp)]
       rw [e3]
       simp only [etW, ehW, heW, seG, stC, zL, slR, slC, List.cons_append, List.nil_append]; simp (maxSteps := 4000000) only [go_sem, seval]
       (repeat' (first
 | refine zC ?_
 | refine kt ?_
 | refine And.intro ?_ ?_
 | ((first | refine awp_stp rfl ?_ | refine awp_draw (by kernel_rfl) (by kernel_rfl) ?_ | refine Imp.le2 ?_ | refine go_split (fun _h => ?_) (fun _h => ?_)) <;> try simp (maxSteps := 4000000) only [go_sem, seval])
 | intro _h
 | refine zA ?_
 | refine zB ?_
 | refine zF ?_ ?_
 | (show zE _ _ = true; kernel_rfl)
 | (show zD _ _ = true; kernel_rfl)
 | (omega)))
       all_goals trace_state
end Go.Am
namespace Go.Am
open Go.RowKit Go.Proofs
attribute [local irreducible] AWP zO Kt goK CallK zT zR SemF SemY Imp
set_option maxRecDepth 4000
set_option linter.unusedSimpArgs false
set_option linter.unusedVariables false
set_option maxHeartbeats 6400000
theorem allW_c (t : Ann)  (ht : AnnOK t)  (v : List (List Int) × Bool) (hv : WaOK v) (hfin : waF (allM t (waS t) v).2.v = true) : SemF Try.prog 51 [.agg (zL t), .fn (.func 52) [] [.ptr 0 0 0]] [some (.cells 28 1 0 [.osl 1 v.1.length 0 v.1.length]), some (.cells 59 1 v.1.length (rowsC v.1))] (.tup []) [some (.cells 28 1 0 [.osl 1 (allM t (waS t) v).2.v.1.length 0 (allM t (waS t) v).2.v.1.length]), some (.cells 59 1 (allM t (waS t) v).2.v.1.length (rowsC (allM t (waS t) v).2.v.1))] := by
 have h128 : (begS t).rest < 128 := by
  show 2 ^ t.reports.length - 1 < 128
  have : 2 ^ t.reports.length ≤ 2 ^ 7 := Nat.pow_le_pow_right (by omega) ht.reports.2
  omega
 have hm := eachW_c t  ht  128 (begS t) 0 ⟨v, zer7, zer7, []⟩ (begS_ok ht) h128 (Int.le_refl _) (by omega) ⟨hv, zer_ok⟩ hfin
 have hbe := begin_c t ht.reports.2
 have hz : (zS zer7 ++ zS zer7) = [.int .i64 0, .int .i64 0, .int .i64 0, .int .i64 0, .int .i64 0, .int .i64 0, .int .i64 0, .int .i64 0, .int .i64 0, .int .i64 0, .int .i64 0, .int .i64 0, .int .i64 0, .int .i64 0] := rfl
 unfold allM
 generalize (eachM t (waS t) 128 (begS t) 0 ⟨v, zer7, zer7, []⟩) = R at *
 obtain ⟨⟨f1, m1⟩, vE, plE, dyE, KE⟩ := R
 simp only [heW, seG, hz, kmC_nil2, zL, slR, slC, List.cons_append, List.nil_append] at hm hbe ⊢
 generalize (begS t) = st at *
 simp only [stC] at hm hbe
 (refine zH (ys := []) (fun w args => Try.call51 ..) Try.func51 rfl (fun w0 m0 wz => ?_); simp only [Try.ntmps51, Try.results51, zN, zP, zU, zV, slR, slC, zL, sl, List.toList_toArray, List.cons_append, List.nil_append, List.length_cons, List.length_nil, Nat.reduceAdd, Nat.reduceSub])
 (repeat' (first
 | refine zC ?_
 | refine kt ?_
 | refine And.intro ?_ ?_
 | ((first | refine awp_stp rfl ?_ | refine Imp.le2 ?_ | refine go_split (fun _h => ?_) (fun _h => ?_)) <;> try simp (maxSteps := 4000000) only [go_sem, seval])
 | intro _h
 | refine zA ?_
 | refine zB ?_
 | refine zF ?_ ?_
 | (show zE _ _ = true; kernel_rfl)
 | (show zD _ _ = true; kernel_rfl)
 | (omega)))
 ((repeat refine zC ?_); refine awp_draws [(3, [0, 1, 4, 5])] (by kernel_rfl) (by kernel_rfl) ?_; simp (maxSteps := 4000000) only [go_sem, seval, sg_cons, sg_nil, List.take_succ_cons, List.take_zero, List.drop_succ_cons, List.drop_zero])
 (repeat' (first
 | refine zC ?_
 | refine kt ?_
 | refine And.intro ?_ ?_
 | ((first | refine awp_stp rfl ?_ | refine Imp.le2 ?_ | refine callK_of (hbe) ?_ | refine go_split (fun _h => ?_) (fun _h => ?_)) <;> try simp (maxSteps := 4000000) only [go_sem, seval])
 | intro _h
 | refine zA ?_
 | refine zB ?_
 | refine zF ?_ ?_
 | (show zE _ _ = true; kernel_rfl)
 | (show zD _ _ = true; kernel_rfl)
 | (omega)))
 (refine zQ (hm) [0, 1, 2, 3, 4, 5, 6, 7, 8] rfl (by simp (maxSteps := 4000000) only [go_sem, seval]) (by simp (maxSteps := 4000000) only [go_sem, seval, Nat.lt_irrefl] <;> decide) (by simp (maxSteps := 4000000) only [go_sem, seval]) ?_; simp (maxSteps := 4000000) only [go_sem, seval]; refine And.intro (frm_of (by repeat (first | exact rfl | exact ⟨_, rfl⟩ | refine And.intro ?_ ?_))) ?_; try simp (maxSteps := 4000000) only [go_sem, seval, sg_cons, sg_nil, List.take_succ_cons, List.take_zero, List.drop_succ_cons, List.drop_zero])
 (repeat' (first
 | refine zC ?_
 | refine kt ?_
 | refine And.intro ?_ ?_
 | ((first | refine awp_stp rfl ?_ | refine Imp.le2 ?_ | refine go_split (fun _h => ?_) (fun _h => ?_)) <;> try simp (maxSteps := 4000000) only [go_sem, seval])
 | intro _h
 | refine zA ?_
 | refine zB ?_
 | refine zF ?_ ?_
 | (show zE _ _ = true; kernel_rfl)
 | (show zD _ _ = true; kernel_rfl)
 | (omega)))
 all_goals trace_state
end Go.Am
namespace Go.Am
open Go.RowKit Go.Proofs
attribute [local irreducible] AWP zO Kt goK CallK zT zR SemF SemY Imp
set_option maxRecDepth 4000
set_option linter.unusedSimpArgs false
set_option linter.unusedVariables false
set_option maxHeartbeats 1600000
def fiK (fd : Bool) (dy : List Int) : Nat → List Int → List Int
 | 0, l => l
 | k + 1, l => if fd = true then isp (fiK fd dy k l) k (min ((fiK fd dy k l).getD k 0) (dy.getD k 0)) else fiK fd dy k l ++ [dy.getD k 0]
def fiS (t : Ann) (v : Bool × List Int) (pl dy : List Int) : (Bool × List Int) × Bool := ((true, fiK v.1 dy t.reports.length v.2), true)
structure FiOK (t : Ann) (v : Bool × List Int) : Prop where
 on : v.1 = true → v.2.length = t.reports.length
 off : v.1 = false → v.2 = []
 bd : ∀ i, 0 ≤ v.2.getD i 0 ∧ v.2.getD i 0 ≤ 100000
theorem fiK_length {dy l : List Int} : ∀ {k : Nat}, k ≤ l.length → (fiK true dy k l).length = l.length
 | 0, _ => rfl
 | k + 1, h => by
   have ih := fiK_length (dy := dy) (l := l) (k := k) (by omega)
   simp only [fiK, if_true]
   rw [isp_length (by omega)]; exact ih
theorem fiK_len2 {dy : List Int} : ∀ {k : Nat}, (fiK false dy k []).length = k
 | 0 => rfl
 | k + 1 => by
   have ih := fiK_len2 (dy := dy) (k := k)
   simp [fiK, ih]
theorem fiK_get {dy l : List Int} {i : Nat} : ∀ {k : Nat}, k ≤ l.length → (fiK true dy k l).getD i 0 = if i < k then min (l.getD i 0) (dy.getD i 0) else l.getD i 0
 | 0, _ => by simp [fiK]
 | k + 1, h => by
   have ih := fiK_get (dy := dy) (l := l) (i := i) (k := k) (by omega)
   have ih2 := fiK_get (dy := dy) (l := l) (i := k) (k := k) (by omega)
   have hl := fiK_length (dy := dy) (l := l) (k := k) (by omega)
   simp only [fiK, if_true]
   rw [isp_getD (by omega), ih, ih2]
   by_cases e : i = k
   ·subst e; simp
   ·by_cases e2 : i < k
    ·simp [e, e2, show i < k + 1 by omega]
    ·simp [e, e2, show ¬ i < k + 1 by omega]
theorem fiK_off {dy : List Int} : ∀ {k : Nat}, k ≤ dy.length → fiK false dy k [] = dy.take k
 | 0, _ => by simp [fiK]
 | k + 1, h => by
   have ih := fiK_off (dy := dy) (k := k) (by omega)
   simp only [fiK, Bool.false_eq_true, if_false]
   rw [ih, List.take_succ_eq_append_getElem (by omega)]
   simp [List.getD_eq_getElem?_getD, show k < dy.length by omega]
theorem fi_ok (t : Ann) (ht : AnnOK t) : ∀ (v : Bool × List Int) (pl dy : List Int), FiOK t v → PDOK pl dy → FiOK t (fiS t v pl dy).1 := by
 rintro ⟨fd, l⟩ pl dy hv hd
 have hr := ht.reports
 have h2 := hd.ldy
 simp only [fiS]
 cases fd with
 | true =>
   have hl : l.length = t.reports.length := hv.on rfl
   refine ⟨fun _ => by simp only; rw [fiK_length (by omega)]; exact hl, fun h => (by cases h), fun i => ?_⟩
   simp only
   rw [fiK_get (by omega)]
   have h3 := hv.bd i
   have h4 := hd.dyb i
   simp only at h3
   split <;> omega
 | false =>
   have hl : l = [] := hv.off rfl
   subst hl
   refine ⟨fun _ => by simp only; rw [fiK_len2], fun h => (by cases h), fun i => ?_⟩
   simp only
   rw [fiK_off (by omega), List.getD_eq_getElem?_getD, List.getElem?_take]
   have h4 := hd.dyb i
   rw [List.getD_eq_getElem?_getD] at h4
   split
   ·exact h4
   ·simp
theorem ints_snoc {l : List Int} {x : Int} : zS l ++ [.int .i64 x] = zS (l ++ [x]) := by simp [zS]
theorem fi_c (t : Ann) (v : Bool × List Int) (pl dy : List Int) (K : List (Key × Bool)) (ht : AnnOK t) (hv : FiOK t v) (hd : PDOK pl dy) :
 SemF Try.prog 93 [.ptr 4 0 0, .ptr 0 0 0, .ptr 1 0 0, .ptr 2 0 0] [some (.cells 35 1 0 (zL t)), some (.cells 4 1 0 [.bool v.1]), some (.cells 59 1 0 [.osl 3 v.2.length 0 v.2.length]), some (.cells 3 1 v.2.length (zS v.2)), some (.cells 115 1 0 (seG t 5 pl dy)), some (.map (kmC K))] (.bool (fiS t v pl dy).2)
  [some (.cells 35 1 0 (zL t)), some (.cells 4 1 0 [.bool (fiS t v pl dy).1.1]), some (.cells 59 1 0 [.osl 3 (fiS t v pl dy).1.2.length 0 (fiS t v pl dy).1.2.length]), some (.cells 3 1 (fiS t v pl dy).1.2.length (zS (fiS t v pl dy).1.2)), some (.cells 115 1 0 (seG t 5 pl dy)), some (.map (kmC K))] := by
 have hr := ht.reports
 have h1 := hd.lpl
 have h2 := hd.ldy
 obtain ⟨fd, l⟩ := v
 simp only [fiS]
 cases fd with
 | true =>
   have hl : l.length = t.reports.length := hv.on rfl
   simp only [seG, zL, slR, slC]
   (refine zH (ys := [.bool true]) (fun w args => Try.call93 ..) Try.func93 rfl (fun w0 m0 wz => ?_); simp only [Try.ntmps93, Try.results93, zN, zP, zU, zV, slR, slC, zL, sl, List.toList_toArray, List.cons_append, List.nil_append, List.length_cons, List.length_nil, Nat.reduceAdd, Nat.reduceSub])
   (repeat' (first
 | refine zC ?_
 | refine kt ?_
 | refine And.intro ?_ ?_
 | ((first | refine awp_stp rfl ?_ | refine awp_draw (by kernel_rfl) (by kernel_rfl) ?_ | refine Imp.le2 ?_ | refine go_split (fun _h => ?_) (fun _h => ?_)) <;> try simp (maxSteps := 4000000) only [go_sem, seval])
 | intro _h
 | refine zA ?_
 | refine zB ?_
 | refine zF ?_ ?_
 | (show zE _ _ = true; kernel_rfl)
 | (show zD _ _ = true; kernel_rfl)
 | (omega)))
   refine awp_loopN t.reports.length (fun i => ⟨mkT 40 [(0, .ptr 4 0 0), (1, .ptr 0 0 0), (2, .ptr 1 0 0), (3, .ptr 2 0 0), (5, .bool false), (9, .int .i64 t.reports.length), (10, .int .i64 i)],
    [some (.cells 35 1 0 (zL t)), some (.cells 4 1 0 [.bool true]), some (.cells 59 1 0 [.osl 3 t.reports.length 0 t.reports.length]), some (.cells 3 1 t.reports.length (zS (fiK true dy i l))), some (.cells 115 1 0 (seG t 5 pl dy)), some (.map (kmC K))], []⟩) (.le2 ?_) ?_
   ·simp only [seG, zL, slR, slC, fiK, hl]; simp (maxSteps := 4000000) only [go_sem, seval]
    all_goals trace_state
   ·intro i hi
    have hL := fiK_length (dy := dy) (l := l) (k := i) (by omega)
    rcases Nat.lt_or_eq_of_le hi with hi1 | hi1
    ·simp only [fiK, if_true]
     generalize fiK true dy i l = L at *
     have hn := fun K => show optK (nth (zS L) i) K = K (.int .i64 (L.getD i 0)) by rw [ints_nth (by omega)]; rfl
     have hy := fun x y z u K => se_dy (x := x) (y := y) (z := z) (u := u) (S := pl) (F := dy) (i := i) (K := K) h1 (by omega)
     simp only [seG, zL, slR, slC]; simp (maxSteps := 4000000) only [go_sem, seval]
     (repeat' (first
 | ((exfalso; omega))
 | ((omega))
 | refine zC ?_
 | refine kt ?_
 | refine And.intro ?_ ?_
 | ((first | refine awp_stp rfl ?_ | refine awp_draw (by kernel_rfl) (by kernel_rfl) ?_ | refine Imp.le2 ?_ | refine callK_of (earliest_c _ _ _) ?_ | refine go_split (fun _h => ?_) (fun _h => ?_)) <;> try simp (maxSteps := 4000000) only [go_sem, seval, hn, hy, hL])
 | intro _h
 | refine zA ?_
 | refine zB ?_
 | refine zF ?_ ?_
 | (show zE _ _ = true; kernel_rfl)
 | (show zD _ _ = true; kernel_rfl)
 | (omega)))
     all_goals trace_state
    ·subst hi1
     generalize fiK true dy t.reports.length l = L at *
     rw [hl] at hL
     simp only [seG, zL, slR, slC]; simp (maxSteps := 4000000) only [go_sem, seval]
     (repeat' (first
 | ((exfalso; omega))
 | ((omega))
 | refine zC ?_
 | refine kt ?_
 | refine And.intro ?_ ?_
 | ((first | refine awp_stp rfl ?_ | refine awp_draw (by kernel_rfl) (by kernel_rfl) ?_ | refine Imp.le2 ?_ | refine go_split (fun _h => ?_) (fun _h => ?_)) <;> try simp (maxSteps := 4000000) only [go_sem, seval, hL])
 | intro _h
 | refine zA ?_
 | refine zB ?_
 | refine zF ?_ ?_
 | (show zE _ _ = true; kernel_rfl)
 | (show zD _ _ = true; kernel_rfl)
 | (omega)))
     all_goals trace_state
 | false =>
   have hl : l = [] := hv.off rfl
   subst hl
   simp only [seG, zL, slR, slC]
   (refine zH (ys := [.bool true]) (fun w args => Try.call93 ..) Try.func93 rfl (fun w0 m0 wz => ?_); simp only [Try.ntmps93, Try.results93, zN, zP, zU, zV, slR, slC, zL, sl, List.toList_toArray, List.cons_append, List.nil_append, List.length_cons, List.length_nil, Nat.reduceAdd, Nat.reduceSub])
   (repeat' (first
 | refine zC ?_
 | refine kt ?_
 | refine And.intro ?_ ?_
 | ((first | refine awp_stp rfl ?_ | refine awp_draw (by kernel_rfl) (by kernel_rfl) ?_ | refine Imp.le2 ?_ | refine go_split (fun _h => ?_) (fun _h => ?_)) <;> try simp (maxSteps := 4000000) only [go_sem, seval])
 | intro _h
 | refine zA ?_
 | refine zB ?_
 | refine zF ?_ ?_
 | (show zE _ _ = true; kernel_rfl)
 | (show zD _ _ = true; kernel_rfl)
 | (omega)))
   refine awp_loopN t.reports.length (fun i => ⟨mkT 40 [(0, .ptr 4 0 0), (1, .ptr 0 0 0), (2, .ptr 1 0 0), (3, .ptr 2 0 0), (5, .bool false), (9, .int .i64 t.reports.length), (10, .int .i64 i)],
    [some (.cells 35 1 0 (zL t)), some (.cells 4 1 0 [.bool false]), some (.cells 59 1 0 [.osl 3 i 0 i]), some (.cells 3 1 i (zS (fiK false dy i []))), some (.cells 115 1 0 (seG t 5 pl dy)), some (.map (kmC K))], []⟩) (.le2 ?_) ?_
   ·simp only [seG, zL, slR, slC, fiK]; simp (maxSteps := 4000000) only [go_sem, seval]
    all_goals trace_state
   ·intro i hi
    have hL := fiK_len2 (dy := dy) (k := i)
    rcases Nat.lt_or_eq_of_le hi with hi1 | hi1
    ·simp only [fiK, Bool.false_eq_true, if_false]
     generalize fiK false dy i [] = L at *
     obtain ⟨y, hye⟩ : ∃ y, dy.getD i 0 = y := ⟨_, rfl⟩
     have hn := fun K => show optK (nth (zS (L ++ [y])) i) K = K (.int .i64 y) by
      rw [ints_nth (by simp; omega), List.getD_eq_getElem?_getD, ← hL]; simp [optK]
     have hs : isp (L ++ [y]) i y = L ++ [y] := by
      rw [← hL]; simp [isp]
     have hy := fun x y z u K => se_dy (x := x) (y := y) (z := z) (u := u) (S := pl) (F := dy) (i := i) (K := K) h1 (by omega)
     rw [hye] at hy ⊢
     have hL2 : (L ++ [y]).length = i + 1 := by simp; omega
     simp only [seG, zL, slR, slC]; simp (maxSteps := 4000000) only [go_sem, seval]
     (repeat' (first
 | ((exfalso; omega))
 | ((omega))
 | refine zC ?_
 | refine kt ?_
 | refine And.intro ?_ ?_
 | ((first | refine awp_stp rfl ?_ | refine awp_draw (by kernel_rfl) (by kernel_rfl) ?_ | refine Imp.le2 ?_ | refine callK_of (earliest_c _ _ _) ?_ | refine go_split (fun _h => ?_) (fun _h => ?_)) <;> try simp (maxSteps := 4000000) only [go_sem, seval, hy, hL, hL2, ints_snoc, hn, hs, Int.min_self])
 | intro _h
 | refine zA ?_
 | refine zB ?_
 | refine zF ?_ ?_
 | (show zE _ _ = true; kernel_rfl)
 | (show zD _ _ = true; kernel_rfl)
 | (omega)))
     all_goals trace_state
    ·subst hi1
     generalize fiK false dy t.reports.length [] = L at *
     simp only [seG, zL, slR, slC]; simp (maxSteps := 4000000) only [go_sem, seval]
     (repeat' (first
 | ((exfalso; omega))
 | ((omega))
 | refine zC ?_
 | refine kt ?_
 | refine And.intro ?_ ?_
 | ((first | refine awp_stp rfl ?_ | refine awp_draw (by kernel_rfl) (by kernel_rfl) ?_ | refine Imp.le2 ?_ | refine go_split (fun _h => ?_) (fun _h => ?_)) <;> try simp (maxSteps := 4000000) only [go_sem, seval, hL])
 | intro _h
 | refine zA ?_
 | refine zB ?_
 | refine zF ?_ ?_
 | (show zE _ _ = true; kernel_rfl)
 | (show zD _ _ = true; kernel_rfl)
 | (omega)))
     all_goals trace_state
end Go.Am
namespace Go.Am
open Go.RowKit Go.Proofs
attribute [local irreducible] AWP zO Kt goK CallK zT zR SemF SemY Imp
set_option maxRecDepth 4000
set_option linter.unusedSimpArgs false
set_option linter.unusedVariables false
set_option maxHeartbeats 6400000
def heF (t : Ann)  (a : EA (Bool × List Int)) : List (Option ABlk) :=
 [some (.cells 35 1 0 (zL t)), some (.cells 4 1 0 [.bool a.v.1]), some (.cells 59 1 0 [.osl 3 a.v.2.length 0 a.v.2.length]), some (.cells 3 1 a.v.2.length (zS a.v.2))] ++ [some (.cells 35 1 0 (zL t)), some (.cells 105 1 0 [.fn (.func 93) [] [.ptr 0 0 0, .ptr 1 0 0, .ptr 2 0 0]]), some (.map (kmC a.K)), some (.cells 115 1 0 (seG t 6 a.pl a.dy)), some (.cells 99 1 0 [.ptr 7 0 0]), some (.cells 131 1 0 [.fn (.func 85) [.ptr 7 0 0] []]), some (.cells 132 1 0 [.fn (.func 86) [] [.ptr 5 0 0, .ptr 8 0 0, .ptr 4 0 0, .ptr 9 0 0, .ptr 10 0 0]])]
def ehF (t : Ann)  (s : Ste) (place : Int) (fd : Bool) (a : EA (Bool × List Int)) : List (Option ABlk) :=
 heF t  a ++ [some (.cells 136 1 0 (stC s)), some (.cells 3 1 0 [.int .i64 place]), some (.cells 4 1 0 [.bool fd]), some (.cells 4 1 0 [.bool false]), some (.cells 35 1 0 (zL t)), some (.cells 136 1 0 (stC s))]
def etF : List AV := mkT 88 [(2, .ptr 5 0 0), (3, .ptr 8 0 0), (4, .ptr 4 0 0), (5, .ptr 9 0 0), (6, .ptr 10 0 0), (7, .ptr 11 0 0), (8, .ptr 12 0 0), (9, .ptr 13 0 0), (10, .ptr 14 0 0), (31, .fn (.func 107) [] [.ptr 16 0 0, .ptr 15 0 0])]
theorem eachF_c (t : Ann)  (ht : AnnOK t)  : ∀ (f : Nat) (s : Ste) (place : Int) (a : EA (Bool × List Int)), SteOK t s → s.rest < f → 0 ≤ place → place + s.rest ≤ 1000 → EAOK (FiOK t) a → 
 SemF Try.prog 86 [.agg (stC s), .int .i64 place, .ptr 5 0 0, .ptr 8 0 0, .ptr 4 0 0, .ptr 9 0 0, .ptr 10 0 0] (heF t  a) (.tup [.bool (eachM t (fiS t) f s place a).1.1, .bool (eachM t (fiS t) f s place a).1.2]) (heF t  (eachM t (fiS t) f s place a).2) := by
 intro f
 induction f with
 | zero => intro s place a _ h; omega
 | succ f ih =>
   intro s place a hs hf hp0 hp ha
   have hok := eachM_ok (step := (fiS t)) ht (fi_ok t ht) (f + 1) s place a hs hp0 hp ha
   have hr := ht.reports
   by_cases h0 : s.rest = 0
   ·have e : eachM t (fiS t) (f + 1) s place a = ((true, ((fiS t) a.v a.pl a.dy).2), { a with v := ((fiS t) a.v a.pl a.dy).1 }) := by simp only [eachM]; rw [if_pos h0]
    rw [e]
    have hv := fi_c t  a.v a.pl a.dy a.K ht  ha.1 ha.2
    have e0 : ((s.rest : Int) = 0) = True := eq_true (by omega)
    generalize (fiS t) a.v a.pl a.dy = R at *
    obtain ⟨v2, more⟩ := R
    simp only [heF, seG, stC, zL, slR, slC, List.cons_append, List.nil_append] at hv ⊢
    (refine zH (ys := [.bool true, .bool more]) (fun w args => Try.call86 ..) Try.func86 rfl (fun w0 m0 wz => ?_); simp only [Try.ntmps86, Try.results86, zN, zP, zU, zV, slR, slC, zL, sl, List.toList_toArray, List.cons_append, List.nil_append, List.length_cons, List.length_nil, Nat.reduceAdd, Nat.reduceSub])
    (repeat' (first
 | (refine zJ 2 rfl ?_; simp (maxSteps := 4000000) only [go_sem, seval, List.take_succ_cons, List.take_zero, e0, decide_true]; (repeat refine And.intro (by omega) ?_); refine zQ (hv) [0, 1, 2, 3, 7, 6] rfl ?_ ?_ rfl ?_ <;> try simp (maxSteps := 4000000) only [go_sem, seval, Nat.lt_irrefl, e0, decide_true] <;> try decide)
 | refine zC ?_
 | refine kt ?_
 | refine And.intro ?_ ?_
 | ((first | refine awp_stp rfl ?_ | refine awp_draw (by kernel_rfl) (by kernel_rfl) ?_ | refine Imp.le2 ?_ | refine go_split (fun _h => ?_) (fun _h => ?_)) <;> try simp (maxSteps := 4000000) only [go_sem, seval, e0, decide_true])
 | intro _h
 | refine zA ?_
 | refine zB ?_
 | refine zF ?_ ?_
 | (show zE _ _ = true; kernel_rfl)
 | (show zD _ _ = true; kernel_rfl)
 | (omega)))
    all_goals trace_state
   ·have e0 : ((s.rest : Int) = 0) = False := eq_false (by omega)
    have h256 : s.rest < 256 := Nat.lt_of_lt_of_le hs.rest (show 2 ^ t.reports.length ≤ 2 ^ 8 from Nat.pow_le_pow_right (by omega) (by omega))
    have hst := stt_win hs.sl hs.fl
    have hsn := stt_len hs.sl hs.fl
    have hks : getS a.K s = gmGet a.K ⟨s, hs.sl, hs.fl⟩ := by unfold getS; rw [dif_pos ⟨hs.sl, hs.fl⟩]
    by_cases hlost : getS a.K s = some true
    ·have e : eachM t (fiS t) (f + 1) s place a = ((false, true), a) := by simp only [eachM]; rw [if_neg h0, if_pos hlost]
     rw [e]
     have hmg := fun z (f : AV → Bool → Prop) => mget_ks (z := z) (f := f) (hks ▸ hlost)
     simp only [keyV, stC] at hmg
     have hkey := fun (a d : Int) => keyS (a := a) (d := d) hs.sl hs.fl
     simp only [heF, seG, stC, zL, slR, slC, List.cons_append, List.nil_append]
     (refine zH (ys := [.bool false, .bool true]) (fun w args => Try.call86 ..) Try.func86 rfl (fun w0 m0 wz => ?_); simp only [Try.ntmps86, Try.results86, zN, zP, zU, zV, slR, slC, zL, sl, List.toList_toArray, List.cons_append, List.nil_append, List.length_cons, List.length_nil, Nat.reduceAdd, Nat.reduceSub])
     (repeat' (first
 | ((show zeroOK _ = true; rfl))
 | ((exact hkey _ _))
 | ((exact absurd ‹true = false› (by simp)))
 | refine zC ?_
 | refine kt ?_
 | refine And.intro ?_ ?_
 | ((first | refine awp_stp rfl ?_ | refine awp_draw3 (by kernel_rfl) (by kernel_rfl) ?_ | refine Imp.le2 ?_ | refine go_split (fun _h => ?_) (fun _h => ?_)) <;> try simp (maxSteps := 4000000) only [go_sem, seval, e0, decide_false, hmg, hst, hsn])
 | intro _h
 | refine zA ?_
 | refine zB ?_
 | refine zF ?_ ?_
 | (show heapOK3 _ _ _ = true; kernel_rfl)
 | (show zE _ _ = true; kernel_rfl)
 | (show zD _ _ = true; kernel_rfl)
 | (omega)))
     all_goals (exact absurd _h (by simp))
    ·obtain ⟨b, hmg⟩ : ∃ b : Bool, ∀ (f : AV → Bool → Prop), mgetK (kmC a.K) (keyV ⟨s, hs.sl, hs.fl⟩) (.bool false) f = f (.bool false) b := by
      rw [hks] at hlost
      cases hg : gmGet a.K ⟨s, hs.sl, hs.fl⟩ with
      | none => exact ⟨false, fun f => mget_kn hg⟩
      | some b =>
        cases b with
        | true => exact absurd hg hlost
        | false => exact ⟨true, fun f => mget_ks hg⟩
     have hnx := next_c t s
     have hkey := fun (a d : Int) => keyS (a := a) (d := d) hs.sl hs.fl
     have e : eachM t (fiS t) (f + 1) s place a = endM s (goE (oneM t (eachM t (fiS t) f) s place) (candN t s.rest s.rest) false a) := by simp only [eachM]; rw [if_neg h0, if_neg hlost]
     rw [e] at hok ⊢
     obtain ⟨⟨⟨fE, mE⟩, aE⟩, hE⟩ : ∃ r, goE (oneM t (eachM t (fiS t) f) s place) (candN t s.rest s.rest) false a = r := ⟨_, rfl⟩
     rw [hE] at hok ⊢
     simp only [keyV, stC] at hmg
     have hpE : PDOK aE.pl aE.dy := by
      unfold endM at hok
      split at hok
      ·exact hok.2
      ·exact hok.2
     clear e hok
     obtain ⟨st, pend, ex, hcase⟩ : ∃ (st : LoopState) (pend : Option Code) (ex : Exit), (mE = true ∧ st = .ready ∧ pend = none ∧ ex = .normal) ∨ (mE = false ∧ st = .done ∧ pend = some .ret ∧ ex = .ret) := by
      cases mE
      ·exact ⟨.done, some .ret, .ret, .inr ⟨rfl, rfl, rfl, rfl⟩⟩
      ·exact ⟨.ready, none, .normal, .inl ⟨rfl, rfl, rfl, rfl⟩⟩
     have e1 : (endM s ((fE, mE), aE)).1.1 = fE := by unfold endM; cases mE <;> rfl
     have e2 : (endM s ((fE, mE), aE)).1.2 = mE := by unfold endM; cases mE <;> rfl
     rw [e1, e2]
     simp only [heF, seG, stC, zL, slR, slC, List.cons_append, List.nil_append] at hnx ⊢
     (refine zH (ys := [.bool fE, .bool mE]) (fun w args => Try.call86 ..) Try.func86 rfl (fun w0 m0 wz => ?_); simp only [Try.ntmps86, Try.results86, zN, zP, zU, zV, slR, slC, zL, sl, List.toList_toArray, List.cons_append, List.nil_append, List.length_cons, List.length_nil, Nat.reduceAdd, Nat.reduceSub])
     (repeat' (first
 | ((show zeroOK _ = true; rfl))
 | ((exact hkey _ _))
 | (refine zJ 2 rfl ?_; simp (maxSteps := 4000000) only [go_sem, seval, List.take_succ_cons, List.take_zero, e0, decide_false, hmg, hst, hsn]; (repeat refine And.intro (by omega) ?_); refine zQ (hnx) [] rfl ?_ ?_ ?_ ?_ <;> try simp (maxSteps := 4000000) only [go_sem, seval, Nat.lt_irrefl, e0, decide_false, hmg, hst, hsn] <;> try decide)
 | refine zC ?_
 | refine kt ?_
 | refine And.intro ?_ ?_
 | ((first | refine awp_stp rfl ?_ | refine awp_draw3 (by kernel_rfl) (by kernel_rfl) ?_ | refine Imp.le2 ?_ | refine go_split (fun _h => ?_) (fun _h => ?_)) <;> try simp (maxSteps := 4000000) only [go_sem, seval, e0, decide_false, hmg, hst, hsn])
 | intro _h
 | refine zA ?_
 | refine zB ?_
 | refine zF ?_ ?_
 | (show heapOK3 _ _ _ = true; kernel_rfl)
 | (show zE _ _ = true; kernel_rfl)
 | (show zD _ _ = true; kernel_rfl)
 | (omega)))
     try any_goals (exfalso; simp at _h; done)
     refine AWP.le2 (s' := ⟨etF, ehF t  s place false a, []⟩) (by simp only [etF, ehF, heF, seG, stC, zL, slR, slC, List.cons_append, List.nil_append]; simp (maxSteps := 4000000) only [go_sem, seval]) ?_
     refine awp_rangeZ (gf := 107) (first := []) (caps := [.ptr 16 0 0, .ptr 15 0 0]) (by simp only [etF]; simp (maxSteps := 4000000) only [go_sem, seval]) 17 rfl ?_
     intro ca cb hca hcb
     refine ⟨.tup [], ehF t  s place fE aE ++ [some (.dfr true), some (.loop st pend 0 etF #[32] ca cb 17)], st, pend, ex, ?_, ?_, ?_, ?_, ?_⟩
     ·simp only [etF, ehF, heF, seG, stC, zL, slR, slC, List.cons_append, List.nil_append]; simp (maxSteps := 4000000) only [go_sem, seval]
      (refine zH (ys := []) (fun w args => Try.call107 ..) Try.func107 rfl (fun w0 m0 wz => ?_); simp only [Try.ntmps107, Try.results107, zN, zP, zU, zV, slR, slC, zL, sl, List.toList_toArray, List.cons_append, List.nil_append, List.length_cons, List.length_nil, Nat.reduceAdd, Nat.reduceSub])
      (repeat' (first
 | refine zC ?_
 | refine kt ?_
 | refine And.intro ?_ ?_
 | ((first | refine awp_stp rfl ?_ | refine awp_draw (by kernel_rfl) (by kernel_rfl) ?_ | refine Imp.le2 ?_ | refine go_split (fun _h => ?_) (fun _h => ?_)) <;> try simp (maxSteps := 4000000) only [go_sem, seval])
 | intro _h
 | refine zA ?_
 | refine zB ?_
 | refine zF ?_ ?_
 | (show zE _ _ = true; kernel_rfl)
 | (show zD _ _ = true; kernel_rfl)
 | (omega)))
      refine awp_loopJ (fun x : Nat × Bool × EA (Bool × List Int) => x.1 &&& s.rest = x.1 ∧ EAOK (FiOK t) x.2.2 ∧ goE (oneM t (eachM t (fiS t) f) s place) (candN t s.rest x.1) x.2.1 x.2.2 = ((fE, mE), aE))
       (fun x => ⟨mkT 54 [(0, .fn (.yield 18) [] []), (1, .ptr 16 0 0), (2, .ptr 15 0 0), (4, .int .u8 (x.1 : Nat))], ehF t  s place x.2.1 x.2.2 ++ [some (.dfr true), some (.loop .ready none 0 etF #[32] ca cb 17)], []⟩) (fun x => x.1) (s.rest, false, a) ⟨Nat.and_self _, ha, hE⟩ (.le2 ?_) ?_
      ·simp only [etF, ehF, heF, seG, stC, zL, slR, slC, List.cons_append, List.nil_append]; simp (maxSteps := 4000000) only [go_sem, seval]
       try (first | rfl | exact ⟨rfl, rfl⟩)
      ·rintro ⟨x, fd, a1⟩ ⟨hx, ha1, hF⟩
       simp only at hx ha1 hF
       by_cases hx0 : x = 0
       ·subst hx0
        rw [candN_zero] at hF
        simp only [goE, Prod.mk.injEq] at hF
        obtain ⟨⟨h1, h2⟩, h3⟩ := hF
        subst h1 h2 h3
        rcases hcase with ⟨_, h2, h3, h4⟩ | ⟨h, _⟩
        ·subst h2 h3 h4
         simp only [etF, ehF, heF, seG, stC, zL, slR, slC, List.cons_append, List.nil_append]; simp (maxSteps := 4000000) only [go_sem, seval]
         (repeat' (first
 | ((exfalso; omega))
 | refine zC ?_
 | refine kt ?_
 | refine And.intro ?_ ?_
 | ((first | refine awp_stp rfl ?_ | refine awp_draw (by kernel_rfl) (by kernel_rfl) ?_ | refine Imp.le2 ?_ | refine go_split (fun _h => ?_) (fun _h => ?_)) <;> try simp (maxSteps := 4000000) only [go_sem, seval])
 | intro _h
 | refine zA ?_
 | refine zB ?_
 | refine zF ?_ ?_
 | (show zE _ _ = true; kernel_rfl)
 | (show zD _ _ = true; kernel_rfl)
 | (omega)))
         all_goals trace_state
        ·exact absurd h (by simp)
       ·rw [candN_step hx0] at hF
        have hxr : x ≤ s.rest := by
         have : x &&& s.rest ≤ s.rest := Nat.and_le_right
         rw [hx] at this; exact this
        have hxn : x < 2 ^ t.reports.length := by have := hs.rest; omega
        have hx8 : x < 256 := by omega
        have htz := tz_in hx0 hxn hr.2
        have htc := tz_c x hx8
        have hso : (t.reports.getD (tz x) default).slope = slopeO t x := rfl
        have e5 : IntKind.u8.wrap ((x : Int) - 1) = ((x - 1 : Nat) : Int) := sub_nat hx8 hx0
        have e6 : u8and ((x - 1 : Nat) : Int) (s.rest : Nat) = (((x - 1) &&& s.rest : Nat) : Int) := u8and_nat (by omega) h256
        have hax : (x - 1) &&& s.rest ≤ x - 1 := Nat.and_le_left
        have hxx : ((x - 1) &&& s.rest) &&& s.rest = (x - 1) &&& s.rest := by rw [Nat.and_assoc, Nat.and_self]
        simp only [etF, ehF, heF, seG, stC, zL, slR, slC, List.cons_append, List.nil_append]; simp (maxSteps := 4000000) only [go_sem, seval]
        (repeat' (first
 | ((exfalso; omega))
 | ((omega))
 | refine zC ?_
 | refine kt ?_
 | refine And.intro ?_ ?_
 | ((first | refine awp_stp rfl ?_ | refine awp_draw (by kernel_rfl) (by kernel_rfl) ?_ | refine Imp.le2 ?_ | refine callK_of (htc) ?_ | refine go_split (fun _h => ?_) (fun _h => ?_)) <;> try simp (maxSteps := 4000000) only [go_sem, seval, hso])
 | intro _h
 | refine zA ?_
 | refine zB ?_
 | refine zF ?_ ?_
 | (show zE _ _ = true; kernel_rfl)
 | (show zD _ _ = true; kernel_rfl)
 | (omega)))
        refine awp_loopN t.reports.length (fun i => ⟨mkT 54 [(0, .fn (.yield 18) [] []), (1, .ptr 16 0 0), (2, .ptr 15 0 0), (4, .int .u8 (x : Nat)), (5, .int .i64 (slopeO t x)), (6, .bool (sameK t x i)), (26, slR t.reports), (27, .int .i64 t.reports.length), (28, .int .i64 i)], ehF t  s place fd a1 ++ [some (.dfr true), some (.loop .ready none 0 etF #[32] ca cb 17)], []⟩) (.le2 ?_) ?_
        ·simp only [etF, ehF, heF, seG, stC, zL, slR, slC, List.cons_append, List.nil_append, sameK]; simp (maxSteps := 4000000) only [go_sem, seval]
         try (first | rfl | exact ⟨rfl, rfl⟩)
        ·intro i hi
         rcases Nat.lt_or_eq_of_le hi with hi1 | hi1
         ·have hin := inS_c x i hx8 (by omega)
          obtain ⟨q, hq⟩ : ∃ q, sameK t x i = q := ⟨_, rfl⟩
          obtain ⟨b, hb⟩ : ∃ b, x.testBit i = b := ⟨_, rfl⟩
          obtain ⟨z, hz⟩ : ∃ z, slopeO t x = z := ⟨_, rfl⟩
          have hss : sameK t x (i + 1) = (q && (!b || decide ((t.reports.getD i default).slope = z))) := by simp only [sameK, hq, hb, hz]
          rw [hss, hq, hz]
          rw [hb] at hin
          clear hss hq hz hb hF
          cases q
          ·simp only [etF, ehF, heF, seG, stC, zL, slR, slC, List.cons_append, List.nil_append, Bool.false_and]; simp (maxSteps := 4000000) only [go_sem, seval]
           (repeat' (first
 | ((exfalso; omega))
 | ((omega))
 | refine zC ?_
 | refine kt ?_
 | refine And.intro ?_ ?_
 | ((first | refine awp_stp rfl ?_ | refine awp_draw (by kernel_rfl) (by kernel_rfl) ?_ | refine Imp.le2 ?_ | refine go_split (fun _h => ?_) (fun _h => ?_)) <;> try simp (maxSteps := 4000000) only [go_sem, seval])
 | intro _h
 | refine zA ?_
 | refine zB ?_
 | refine zF ?_ ?_
 | (show zE _ _ = true; kernel_rfl)
 | (show zD _ _ = true; kernel_rfl)
 | (omega)))
           all_goals trace_state
          ·cases b
           ·simp only [etF, ehF, heF, seG, stC, zL, slR, slC, List.cons_append, List.nil_append, Bool.not_false, Bool.true_or, Bool.true_and]; simp (maxSteps := 4000000) only [go_sem, seval]
            (repeat' (first
 | ((exfalso; omega))
 | ((omega))
 | refine zC ?_
 | refine kt ?_
 | refine And.intro ?_ ?_
 | ((first | refine awp_stp rfl ?_ | refine awp_draw (by kernel_rfl) (by kernel_rfl) ?_ | refine Imp.le2 ?_ | refine callK_of (hin) ?_ | refine go_split (fun _h => ?_) (fun _h => ?_)) <;> try simp (maxSteps := 4000000) only [go_sem, seval])
 | intro _h
 | refine zA ?_
 | refine zB ?_
 | refine zF ?_ ?_
 | (show zE _ _ = true; kernel_rfl)
 | (show zD _ _ = true; kernel_rfl)
 | (omega)))
            all_goals trace_state
           ·by_cases hsl : (t.reports.getD i default).slope = z
            ·simp only [etF, ehF, heF, seG, stC, zL, slR, slC, List.cons_append, List.nil_append, Bool.not_true, Bool.false_or, Bool.true_and, hsl, decide_true]; simp (maxSteps := 4000000) only [go_sem, seval]
             (repeat' (first
 | ((exfalso; omega))
 | ((omega))
 | refine zC ?_
 | refine kt ?_
 | refine And.intro ?_ ?_
 | ((first | refine awp_stp rfl ?_ | refine awp_draw (by kernel_rfl) (by kernel_rfl) ?_ | refine Imp.le2 ?_ | refine callK_of (hin) ?_ | refine go_split (fun _h => ?_) (fun _h => ?_)) <;> try simp (maxSteps := 4000000) only [go_sem, seval, hsl, decide_true])
 | intro _h
 | refine zA ?_
 | refine zB ?_
 | refine zF ?_ ?_
 | (show zE _ _ = true; kernel_rfl)
 | (show zD _ _ = true; kernel_rfl)
 | (omega)))
             all_goals trace_state
            ·simp only [etF, ehF, heF, seG, stC, zL, slR, slC, List.cons_append, List.nil_append, Bool.not_true, Bool.false_or, Bool.true_and, hsl, decide_false]; simp (maxSteps := 4000000) only [go_sem, seval]
             (repeat' (first
 | ((exfalso; omega))
 | ((omega))
 | refine zC ?_
 | refine kt ?_
 | refine And.intro ?_ ?_
 | ((first | refine awp_stp rfl ?_ | refine awp_draw (by kernel_rfl) (by kernel_rfl) ?_ | refine Imp.le2 ?_ | refine callK_of (hin) ?_ | refine go_split (fun _h => ?_) (fun _h => ?_)) <;> try simp (maxSteps := 4000000) only [go_sem, seval, hsl, decide_false])
 | intro _h
 | refine zA ?_
 | refine zB ?_
 | refine zF ?_ ?_
 | (show zE _ _ = true; kernel_rfl)
 | (show zD _ _ = true; kernel_rfl)
 | (omega)))
             all_goals trace_state
         ·subst hi1
          cases hG : sameK t x t.reports.length with
          | false =>
            rw [hG, if_neg (by simp)] at hF
            simp only [etF, ehF, heF, seG, stC, zL, slR, slC, List.cons_append, List.nil_append]; simp (maxSteps := 4000000) only [go_sem, seval]
            (repeat' (first
 | ((exfalso; omega))
 | ((omega))
 | refine zC ?_
 | refine kt ?_
 | refine And.intro ?_ ?_
 | ((first | refine awp_stp rfl ?_ | refine awp_draw (by kernel_rfl) (by kernel_rfl) ?_ | refine Imp.le2 ?_ | refine go_split (fun _h => ?_) (fun _h => ?_)) <;> try simp (maxSteps := 4000000) only [go_sem, seval, e5, e6])
 | intro _h
 | refine zA ?_
 | refine zB ?_
 | refine zF ?_ ?_
 | (show zE _ _ = true; kernel_rfl)
 | (show zD _ _ = true; kernel_rfl)
 | (omega)))
            refine ⟨((x - 1) &&& s.rest, fd, a1), ⟨hxx, ha1, hF⟩, by simp only; omega, .le2 ?_⟩
            simp only [etF, ehF, heF, seG, stC, zL, slR, slC, List.cons_append, List.nil_append]; simp (maxSteps := 4000000) only [go_sem, seval]
            try (first | rfl | exact ⟨rfl, rfl⟩)
          | true =>
            rw [hG, if_pos rfl] at hF
            simp only [goE] at hF
            have hmay := may_c t s x a1.pl a1.dy a1.K ht hs hx0 hxn
            obtain ⟨hl1, hl2⟩ := mayS_len ht hs hx0 hxn
            have hst2 := stt_win hl1 hl2
            have hsn2 := stt_len hl1 hl2
            by_cases hm : (mayS t s x).2 = true
            ·obtain ⟨m1, m2, m3⟩ := mayS_ok ht hs hx0 hx hm
             have h1 : oneM t (eachM t (fiS t) f) s place x a1 = eachM t (fiS t) f (mayS t s x).1 (place + 1) (putE t x place (mayS t s x).1.day a1) := by unfold oneM; rw [if_pos hm]
             have hao : EAOK (FiOK t) (putE t x place (mayS t s x).1.day a1) := ⟨ha1.1, ha1.2.put hr.2 ⟨hp0, by omega⟩ m3⟩
             have hih := ih (mayS t s x).1 (place + 1) (putE t x place (mayS t s x).1.day a1) m1 (by omega) (by omega) (by omega) hao
             have hok1 := eachM_ok (step := (fiS t)) ht (fi_ok t ht) f (mayS t s x).1 (place + 1) (putE t x place (mayS t s x).1.day a1) m1 (by omega) (by omega) hao
             have hq1 := ha1.2.lpl
             have hq2 := ha1.2.ldy
             rw [h1] at hF
             rw [hm] at hmay
             clear h1 hao m1 hG
             generalize (mayS t s x).1 = to at *
             obtain ⟨⟨⟨he1, mo⟩, a2⟩, hr2⟩ : ∃ r, eachM t (fiS t) f to (place + 1) (putE t x place to.day a1) = r := ⟨_, rfl⟩
             rw [hr2] at hih hF hok1
             simp only [etF, ehF, heF, seG, stC, zL, slR, slC, List.cons_append, List.nil_append, seC] at hmay
             simp only at hF hih hok1
             have hF0 := hF
             cases mo with
             | true =>
               rw [if_pos rfl] at hF
               simp only [etF, ehF, heF, seG, stC, zL, slR, slC, List.cons_append, List.nil_append]; simp (maxSteps := 4000000) only [go_sem, seval]
               (repeat' (first
 | ((exfalso; omega))
 | ((omega))
 | ((refine zJ (id := 10) 4 rfl ?_; simp (maxSteps := 4000000) only [go_sem, seval, List.take_succ_cons, List.take_zero]; refine callH_yield true (ehF t  s place (fd || he1) a2 ++ [some (.dfr true), some (.loop .ready none 0 etF #[32] ca cb 17)]) ?_ ?_ <;> simp only [etF, ehF, heF, seG, stC, zL, slR, slC, List.cons_append, List.nil_append] <;> (try simp (maxSteps := 4000000) only [go_sem, seval])))
 | refine zC ?_
 | refine kt ?_
 | refine And.intro ?_ ?_
 | ((first | refine awp_stp rfl ?_ | refine awp_draw (by kernel_rfl) (by kernel_rfl) ?_ | refine Imp.le2 ?_ | refine go_split (fun _h => ?_) (fun _h => ?_)) <;> try simp (maxSteps := 4000000) only [go_sem, seval, e5, e6])
 | intro _h
 | refine zA ?_
 | refine zB ?_
 | refine zF ?_ ?_
 | (show zE _ _ = true; kernel_rfl)
 | (show zD _ _ = true; kernel_rfl)
 | (omega)))
               ·refine semY_of_awpZ rfl rfl ?_
                intro B w0 l m w
                refine awp_code hca ?_
                (repeat' (first
 | refine zC ?_
 | refine kt ?_
 | refine And.intro ?_ ?_
 | ((first | refine awp_stp rfl ?_ | refine awp_draw (by kernel_rfl) (by kernel_rfl) ?_ | refine Imp.le2 ?_ | refine go_split (fun _h => ?_) (fun _h => ?_)) <;> try simp (maxSteps := 4000000) only [go_sem, seval])
 | intro _h
 | refine zA ?_
 | refine zB ?_
 | refine zF ?_ ?_
 | (show zE _ _ = true; kernel_rfl)
 | (show zD _ _ = true; kernel_rfl)
 | (omega)))
                refine awp_code hcb ?_
                (repeat' (first
 | (refine zJ 3 rfl ?_; simp (maxSteps := 4000000) only [go_sem, seval, List.take_succ_cons, List.take_zero, hst, hsn, hst2, hsn2]; (repeat refine And.intro (by omega) ?_); refine zQ (hmay) [7, 6] rfl ?_ ?_ ?_ ?_ <;> try simp (maxSteps := 4000000) only [go_sem, seval, Nat.lt_irrefl, hst, hsn, hst2, hsn2] <;> try decide)
 | refine zC ?_
 | refine kt ?_
 | refine And.intro ?_ ?_
 | ((first | refine awp_stp rfl ?_ | refine awp_draw (by kernel_rfl) (by kernel_rfl) ?_ | refine Imp.le2 ?_ | refine go_split (fun _h => ?_) (fun _h => ?_)) <;> try simp (maxSteps := 4000000) only [go_sem, seval, hst, hsn, hst2, hsn2])
 | intro _h
 | refine zA ?_
 | refine zB ?_
 | refine zF ?_ ?_
 | (show zE _ _ = true; kernel_rfl)
 | (show zD _ _ = true; kernel_rfl)
 | (omega)))
                refine awp_loopN t.reports.length (fun j => ⟨mkT 88 [(2, .ptr 5 0 0), (3, .ptr 8 0 0), (4, .ptr 4 0 0), (5, .ptr 9 0 0), (6, .ptr 10 0 0), (7, .ptr 11 0 0), (8, .ptr 12 0 0), (9, .ptr 13 0 0), (10, .ptr 14 0 0), (11, .int .u8 (x : Nat)), (12, .ptr 19 0 0), (44, .int .i64 t.reports.length), (45, .int .i64 j)], ehF t  s place fd ⟨a1.v, wrM x place j a1.pl, wrM x to.day j a1.dy, a1.K⟩ ++ [some (.dfr true), some (.loop .busy none 0 etF #[32] ca cb 17), some (.cells 136 1 0 (stC to))], []⟩) (.le2 ?_) ?_
                ·simp only [etF, ehF, heF, seG, stC, zL, slR, slC, List.cons_append, List.nil_append, wrM]; simp (maxSteps := 4000000) only [go_sem, seval]
                 try (first | rfl | exact ⟨rfl, rfl⟩)
                ·intro j hj
                 have hS1 := wrM_length (now := x) (x := place) (l := a1.pl) (k := j) (by rw [hq1]; omega)
                 have hF1 := wrM_length (now := x) (x := to.day) (l := a1.dy) (k := j) (by rw [hq2]; omega)
                 rw [hq1] at hS1
                 rw [hq2] at hF1
                 rcases Nat.lt_or_eq_of_le hj with hj1 | hj1
                 ·have hin := inS_c x j hx8 (by omega)
                  simp only [wrM]
                  generalize wrM x place j a1.pl = S1 at *
                  generalize wrM x to.day j a1.dy = F1 at *
                  have hss := fun x y z u v => ss_pl (x := x) (y := y) (z := z) (u := u) (S := S1) (F := F1) (i := j) (v := v) (by omega)
                  have hsd := fun x y z u v w => ss_dy (x := x) (y := y) (z := z) (u := u) (S := isp S1 j v) (F := F1) (i := j) (v := w) (by rw [isp_length (by omega)]; exact hS1) (by omega)
                  have hle1 := se_len hS1 hF1
                  have hle2 := fun v => se_len (S := isp S1 j v) (F := F1) (by rw [isp_length (by omega)]; exact hS1) hF1
                  generalize x.testBit j = b at *
                  cases b
                  ·simp only [etF, ehF, heF, seG, stC, zL, slR, slC, List.cons_append, List.nil_append, Bool.false_eq_true, if_false]; simp (maxSteps := 4000000) only [go_sem, seval]
                   (repeat' (first
 | ((exfalso; omega))
 | ((omega))
 | refine zC ?_
 | refine kt ?_
 | refine And.intro ?_ ?_
 | ((first | refine awp_stp rfl ?_ | refine awp_draw (by kernel_rfl) (by kernel_rfl) ?_ | refine Imp.le2 ?_ | refine callK_of (hin) ?_ | refine go_split (fun _h => ?_) (fun _h => ?_)) <;> try simp (maxSteps := 4000000) only [go_sem, seval])
 | intro _h
 | refine zA ?_
 | refine zB ?_
 | refine zF ?_ ?_
 | (show zE _ _ = true; kernel_rfl)
 | (show zD _ _ = true; kernel_rfl)
 | (omega)))
                   all_goals trace_state
                  ·simp only [etF, ehF, heF, seG, stC, zL, slR, slC, List.cons_append, List.nil_append, if_true]; simp (maxSteps := 4000000) only [go_sem, seval]
                   (repeat' (first
 | ((exfalso; omega))
 | ((omega))
 | refine zC ?_
 | refine kt ?_
 | refine And.intro ?_ ?_
 | ((first | refine awp_stp rfl ?_ | refine awp_draw3 (by kernel_rfl) (by kernel_rfl) ?_ | refine Imp.le2 ?_ | refine callK_of (hin) ?_ | refine go_split (fun _h => ?_) (fun _h => ?_)) <;> try simp (maxSteps := 4000000) only [go_sem, seval, hss, hsd, hle1, hle2])
 | intro _h
 | refine zA ?_
 | refine zB ?_
 | refine zF ?_ ?_
 | (show heapOK3 _ _ _ = true; kernel_rfl)
 | (show zE _ _ = true; kernel_rfl)
 | (show zD _ _ = true; kernel_rfl)
 | (omega)))
                   all_goals trace_state
                 ·subst hj1
                  simp only [putE] at hih
                  generalize wrM x place t.reports.length a1.pl = S1 at *
                  generalize wrM x to.day t.reports.length a1.dy = F1 at *
                  clear hF hF0
                  cases fd
                  all_goals
                   simp only [etF, ehF, heF, seG, stC, zL, slR, slC, List.cons_append, List.nil_append, Bool.true_or, Bool.false_or] at hih ⊢
                   simp (maxSteps := 4000000) only [go_sem, seval]
                   (repeat' (first
 | (refine zJ 4 rfl ?_; simp (maxSteps := 4000000) only [go_sem, seval, List.take_succ_cons, List.take_zero, hst2, hsn2]; (repeat refine And.intro (by omega) ?_); refine zQ (hih) [0, 1, 2, 3, 4, 5, 6, 7, 8, 9, 10] rfl ?_ ?_ ?_ ?_ <;> try simp (maxSteps := 4000000) only [go_sem, seval, Nat.lt_irrefl, hst2, hsn2] <;> try decide)
 | ((exfalso; omega))
 | ((omega))
 | refine zC ?_
 | refine kt ?_
 | refine And.intro ?_ ?_
 | ((first | refine awp_stp rfl ?_ | refine awp_draw (by kernel_rfl) (by kernel_rfl) ?_ | refine Imp.le2 ?_ | refine go_split (fun _h => ?_) (fun _h => ?_)) <;> try simp (maxSteps := 4000000) only [go_sem, seval, hst2, hsn2])
 | intro _h
 | refine zA ?_
 | refine zB ?_
 | refine zF ?_ ?_
 | (show zE _ _ = true; kernel_rfl)
 | (show zD _ _ = true; kernel_rfl)
 | (omega)))
                  all_goals first | (rw [_h]; done) | trace_state
               ·refine ⟨((x - 1) &&& s.rest, fd || he1, a2), ⟨hxx, hok1, hF⟩, by simp only; omega, .le2 ?_⟩
                simp only [etF, ehF, heF, seG, stC, zL, slR, slC, List.cons_append, List.nil_append]; simp (maxSteps := 4000000) only [go_sem, seval]
                try (first | rfl | exact ⟨rfl, rfl⟩)
             | false =>
               rw [if_neg (by simp)] at hF
               simp only [Prod.mk.injEq] at hF
               obtain ⟨⟨g1, g2⟩, g3⟩ := hF
               rcases hcase with ⟨h, _⟩ | ⟨_, h2, h3, h4⟩
               ·rw [h] at g2; cases g2
               subst g1 g2 g3 h2 h3 h4
               have hF := hF0
               simp only [etF, ehF, heF, seG, stC, zL, slR, slC, List.cons_append, List.nil_append]; simp (maxSteps := 4000000) only [go_sem, seval]
               (repeat' (first
 | ((exfalso; omega))
 | ((omega))
 | ((refine zJ (id := 10) 4 rfl ?_; simp (maxSteps := 4000000) only [go_sem, seval, List.take_succ_cons, List.take_zero]; refine callH_yield false (ehF t  s place (fd || he1) a2 ++ [some (.dfr true), some (.loop .done (some .ret) 0 etF #[32] ca cb 17)]) ?_ ?_ <;> simp only [etF, ehF, heF, seG, stC, zL, slR, slC, List.cons_append, List.nil_append] <;> (try simp (maxSteps := 4000000) only [go_sem, seval])))
 | refine zC ?_
 | refine kt ?_
 | refine And.intro ?_ ?_
 | ((first | refine awp_stp rfl ?_ | refine awp_draw (by kernel_rfl) (by kernel_rfl) ?_ | refine Imp.le2 ?_ | refine go_split (fun _h => ?_) (fun _h => ?_)) <;> try simp (maxSteps := 4000000) only [go_sem, seval, e5, e6])
 | intro _h
 | refine zA ?_
 | refine zB ?_
 | refine zF ?_ ?_
 | (show zE _ _ = true; kernel_rfl)
 | (show zD _ _ = true; kernel_rfl)
 | (omega)))
               ·refine semY_of_awpZ rfl rfl ?_
                intro B w0 l m w
                refine awp_code hca ?_
                (repeat' (first
 | refine zC ?_
 | refine kt ?_
 | refine And.intro ?_ ?_
 | ((first | refine awp_stp rfl ?_ | refine awp_draw (by kernel_rfl) (by kernel_rfl) ?_ | refine Imp.le2 ?_ | refine go_split (fun _h => ?_) (fun _h => ?_)) <;> try simp (maxSteps := 4000000) only [go_sem, seval])
 | intro _h
 | refine zA ?_
 | refine zB ?_
 | refine zF ?_ ?_
 | (show zE _ _ = true; kernel_rfl)
 | (show zD _ _ = true; kernel_rfl)
 | (omega)))
                refine awp_code hcb ?_
                (repeat' (first
 | (refine zJ 3 rfl ?_; simp (maxSteps := 4000000) only [go_sem, seval, List.take_succ_cons, List.take_zero, hst, hsn, hst2, hsn2]; (repeat refine And.intro (by omega) ?_); refine zQ (hmay) [7, 6] rfl ?_ ?_ ?_ ?_ <;> try simp (maxSteps := 4000000) only [go_sem, seval, Nat.lt_irrefl, hst, hsn, hst2, hsn2] <;> try decide)
 | refine zC ?_
 | refine kt ?_
 | refine And.intro ?_ ?_
 | ((first | refine awp_stp rfl ?_ | refine awp_draw (by kernel_rfl) (by kernel_rfl) ?_ | refine Imp.le2 ?_ | refine go_split (fun _h => ?_) (fun _h => ?_)) <;> try simp (maxSteps := 4000000) only [go_sem, seval, hst, hsn, hst2, hsn2])
 | intro _h
 | refine zA ?_
 | refine zB ?_
 | refine zF ?_ ?_
 | (show zE _ _ = true; kernel_rfl)
 | (show zD _ _ = true; kernel_rfl)
 | (omega)))
                refine awp_loopN t.reports.length (fun j => ⟨mkT 88 [(2, .ptr 5 0 0), (3, .ptr 8 0 0), (4, .ptr 4 0 0), (5, .ptr 9 0 0), (6, .ptr 10 0 0), (7, .ptr 11 0 0), (8, .ptr 12 0 0), (9, .ptr 13 0 0), (10, .ptr 14 0 0), (11, .int .u8 (x : Nat)), (12, .ptr 19 0 0), (44, .int .i64 t.reports.length), (45, .int .i64 j)], ehF t  s place fd ⟨a1.v, wrM x place j a1.pl, wrM x to.day j a1.dy, a1.K⟩ ++ [some (.dfr true), some (.loop .busy none 0 etF #[32] ca cb 17), some (.cells 136 1 0 (stC to))], []⟩) (.le2 ?_) ?_
                ·simp only [etF, ehF, heF, seG, stC, zL, slR, slC, List.cons_append, List.nil_append, wrM]; simp (maxSteps := 4000000) only [go_sem, seval]
                 try (first | rfl | exact ⟨rfl, rfl⟩)
                ·intro j hj
                 have hS1 := wrM_length (now := x) (x := place) (l := a1.pl) (k := j) (by rw [hq1]; omega)
                 have hF1 := wrM_length (now := x) (x := to.day) (l := a1.dy) (k := j) (by rw [hq2]; omega)
                 rw [hq1] at hS1
                 rw [hq2] at hF1
                 rcases Nat.lt_or_eq_of_le hj with hj1 | hj1
                 ·have hin := inS_c x j hx8 (by omega)
                  simp only [wrM]
                  generalize wrM x place j a1.pl = S1 at *
                  generalize wrM x to.day j a1.dy = F1 at *
                  have hss := fun x y z u v => ss_pl (x := x) (y := y) (z := z) (u := u) (S := S1) (F := F1) (i := j) (v := v) (by omega)
                  have hsd := fun x y z u v w => ss_dy (x := x) (y := y) (z := z) (u := u) (S := isp S1 j v) (F := F1) (i := j) (v := w) (by rw [isp_length (by omega)]; exact hS1) (by omega)
                  have hle1 := se_len hS1 hF1
                  have hle2 := fun v => se_len (S := isp S1 j v) (F := F1) (by rw [isp_length (by omega)]; exact hS1) hF1
                  generalize x.testBit j = b at *
                  cases b
                  ·simp only [etF, ehF, heF, seG, stC, zL, slR, slC, List.cons_append, List.nil_append, Bool.false_eq_true, if_false]; simp (maxSteps := 4000000) only [go_sem, seval]
                   (repeat' (first
 | ((exfalso; omega))
 | ((omega))
 | refine zC ?_
 | refine kt ?_
 | refine And.intro ?_ ?_
 | ((first | refine awp_stp rfl ?_ | refine awp_draw (by kernel_rfl) (by kernel_rfl) ?_ | refine Imp.le2 ?_ | refine callK_of (hin) ?_ | refine go_split (fun _h => ?_) (fun _h => ?_)) <;> try simp (maxSteps := 4000000) only [go_sem, seval])
 | intro _h
 | refine zA ?_
 | refine zB ?_
 | refine zF ?_ ?_
 | (show zE _ _ = true; kernel_rfl)
 | (show zD _ _ = true; kernel_rfl)
 | (omega)))
                   all_goals trace_state
                  ·simp only [etF, ehF, heF, seG, stC, zL, slR, slC, List.cons_append, List.nil_append, if_true]; simp (maxSteps := 4000000) only [go_sem, seval]
                   (repeat' (first
 | ((exfalso; omega))
 | ((omega))
 | refine zC ?_
 | refine kt ?_
 | refine And.intro ?_ ?_
 | ((first | refine awp_stp rfl ?_ | refine awp_draw3 (by kernel_rfl) (by kernel_rfl) ?_ | refine Imp.le2 ?_ | refine callK_of (hin) ?_ | refine go_split (fun _h => ?_) (fun _h => ?_)) <;> try simp (maxSteps := 4000000) only [go_sem, seval, hss, hsd, hle1, hle2])
 | intro _h
 | refine zA ?_
 | refine zB ?_
 | refine zF ?_ ?_
 | (show heapOK3 _ _ _ = true; kernel_rfl)
 | (show zE _ _ = true; kernel_rfl)
 | (show zD _ _ = true; kernel_rfl)
 | (omega)))
                   all_goals trace_state
                 ·subst hj1
                  simp only [putE] at hih
                  generalize wrM x place t.reports.length a1.pl = S1 at *
                  generalize wrM x to.day t.reports.length a1.dy = F1 at *
                  clear hF hF0
                  cases fd
                  all_goals
                   simp only [etF, ehF, heF, seG, stC, zL, slR, slC, List.cons_append, List.nil_append, Bool.true_or, Bool.false_or] at hih ⊢
                   simp (maxSteps := 4000000) only [go_sem, seval]
                   (repeat' (first
 | (refine zJ 4 rfl ?_; simp (maxSteps := 4000000) only [go_sem, seval, List.take_succ_cons, List.take_zero, hst2, hsn2]; (repeat refine And.intro (by omega) ?_); refine zQ (hih) [0, 1, 2, 3, 4, 5, 6, 7, 8, 9, 10] rfl ?_ ?_ ?_ ?_ <;> try simp (maxSteps := 4000000) only [go_sem, seval, Nat.lt_irrefl, hst2, hsn2] <;> try decide)
 | ((exfalso; omega))
 | ((omega))
 | refine zC ?_
 | refine kt ?_
 | refine And.intro ?_ ?_
 | ((first | refine awp_stp rfl ?_ | refine awp_draw (by kernel_rfl) (by kernel_rfl) ?_ | refine Imp.le2 ?_ | refine go_split (fun _h => ?_) (fun _h => ?_)) <;> try simp (maxSteps := 4000000) only [go_sem, seval, hst2, hsn2])
 | intro _h
 | refine zA ?_
 | refine zB ?_
 | refine zF ?_ ?_
 | (show zE _ _ = true; kernel_rfl)
 | (show zD _ _ = true; kernel_rfl)
 | (omega)))
                  all_goals first | (rw [_h]; done) | trace_state
               all_goals trace_state
            ·have h1 : oneM t (eachM t (fiS t) f) s place x a1 = ((false, true), a1) := by unfold oneM; rw [if_neg hm]
             rw [h1] at hF
             simp only [if_true, Bool.or_false] at hF
             rw [Bool.not_eq_true] at hm
             rw [hm] at hmay
             generalize (mayS t s x).1 = to at *
             simp only [etF, ehF, heF, seG, stC, zL, slR, slC, List.cons_append, List.nil_append, seC] at hmay ⊢
             simp (maxSteps := 4000000) only [go_sem, seval]
             (repeat' (first
 | ((exfalso; omega))
 | ((omega))
 | ((refine zJ (id := 10) 4 rfl ?_; simp (maxSteps := 4000000) only [go_sem, seval, List.take_succ_cons, List.take_zero]; refine callH_yield true (ehF t  s place fd a1 ++ [some (.dfr true), some (.loop .ready none 0 etF #[32] ca cb 17)]) ?_ ?_ <;> simp only [etF, ehF, heF, seG, stC, zL, slR, slC, List.cons_append, List.nil_append] <;> (try simp (maxSteps := 4000000) only [go_sem, seval])))
 | refine zC ?_
 | refine kt ?_
 | refine And.intro ?_ ?_
 | ((first | refine awp_stp rfl ?_ | refine awp_draw (by kernel_rfl) (by kernel_rfl) ?_ | refine Imp.le2 ?_ | refine go_split (fun _h => ?_) (fun _h => ?_)) <;> try simp (maxSteps := 4000000) only [go_sem, seval, e5, e6])
 | intro _h
 | refine zA ?_
 | refine zB ?_
 | refine zF ?_ ?_
 | (show zE _ _ = true; kernel_rfl)
 | (show zD _ _ = true; kernel_rfl)
 | (omega)))
             ·refine semY_of_awpZ rfl rfl ?_
              intro B w0 l m w
              refine awp_code hca ?_
              (repeat' (first
 | refine zC ?_
 | refine kt ?_
 | refine And.intro ?_ ?_
 | ((first | refine awp_stp rfl ?_ | refine awp_draw (by kernel_rfl) (by kernel_rfl) ?_ | refine Imp.le2 ?_ | refine go_split (fun _h => ?_) (fun _h => ?_)) <;> try simp (maxSteps := 4000000) only [go_sem, seval])
 | intro _h
 | refine zA ?_
 | refine zB ?_
 | refine zF ?_ ?_
 | (show zE _ _ = true; kernel_rfl)
 | (show zD _ _ = true; kernel_rfl)
 | (omega)))
              refine awp_code hcb ?_
              (repeat' (first
 | (refine zJ 3 rfl ?_; simp (maxSteps := 4000000) only [go_sem, seval, List.take_succ_cons, List.take_zero, hst, hsn, hst2, hsn2]; (repeat refine And.intro (by omega) ?_); refine zQ (hmay) [7, 6] rfl ?_ ?_ ?_ ?_ <;> try simp (maxSteps := 4000000) only [go_sem, seval, Nat.lt_irrefl, hst, hsn, hst2, hsn2] <;> try decide)
 | refine zC ?_
 | refine kt ?_
 | refine And.intro ?_ ?_
 | ((first | refine awp_stp rfl ?_ | refine awp_draw (by kernel_rfl) (by kernel_rfl) ?_ | refine Imp.le2 ?_ | refine go_split (fun _h => ?_) (fun _h => ?_)) <;> try simp (maxSteps := 4000000) only [go_sem, seval, hst, hsn, hst2, hsn2])
 | intro _h
 | refine zA ?_
 | refine zB ?_
 | refine zF ?_ ?_
 | (show zE _ _ = true; kernel_rfl)
 | (show zD _ _ = true; kernel_rfl)
 | (omega)))
              all_goals trace_state
             ·refine ⟨((x - 1) &&& s.rest, fd, a1), ⟨hxx, ha1, hF⟩, by simp only; omega, .le2 ?_⟩
              simp only [etF, ehF, heF, seG, stC, zL, slR, slC, List.cons_append, List.nil_append]; simp (maxSteps := 4000000) only [go_sem, seval]
              try (first | rfl | exact ⟨rfl, rfl⟩)
     ·rfl
     ·rcases hcase with ⟨_, h, _, _⟩ | ⟨_, h, _, _⟩ <;> (rw [h]; simp)
     ·rcases hcase with ⟨_, _, h1, h2⟩ | ⟨_, _, h1, h2⟩ <;> (rw [h1, h2]; rfl)
     ·rcases hcase with ⟨h1, h2, h3, h4⟩ | ⟨h1, h2, h3, h4⟩
      ·subst h1 h2 h3 h4
       have e3 : (endM s ((fE, true), aE)).2 = { aE with K := gmPut aE.K ⟨s, hs.sl, hs.fl⟩ (!fE) } := by
        unfold endM putS; rw [if_pos rfl, dif_pos ⟨hs.sl, hs.fl⟩]
       rw [e3]
       have hmu1 := fun (f : List (AV × AV) → Prop) => mup_km (m := aE.K) (k := ⟨s, hs.sl, hs.fl⟩) (v := true) (f := f)
       have hmu2 := fun (f : List (AV × AV) → Prop) => mup_km (m := aE.K) (k := ⟨s, hs.sl, hs.fl⟩) (v := false) (f := f)
       simp only [keyV, stC] at hmu1 hmu2
       cases fE
       all_goals
        simp only [Bool.not_true, Bool.not_false]
        simp only [etF, ehF, heF, seG, stC, zL, slR, slC, List.cons_append, List.nil_append]; simp (maxSteps := 4000000) only [go_sem, seval]
        (repeat' (first
 | ((exact hkey _ _))
 | refine zC ?_
 | refine kt ?_
 | refine And.intro ?_ ?_
 | ((first | refine awp_stp rfl ?_ | refine awp_draw (by kernel_rfl) (by kernel_rfl) ?_ | refine Imp.le2 ?_ | refine go_split (fun _h => ?_) (fun _h => ?_)) <;> try simp (maxSteps := 4000000) only [go_sem, seval, hst, hsn, hmu1, hmu2])
 | intro _h
 | refine zA ?_
 | refine zB ?_
 | refine zF ?_ ?_
 | (show zE _ _ = true; kernel_rfl)
 | (show zD _ _ = true; kernel_rfl)
 | (omega)))
       all_goals trace_state
      ·subst h1 h2 h3 h4
       have e3 : (endM s ((fE, false), aE)).2 = aE := by
        unfold endM; rw [if_neg (by simp)]
       rw [e3]
       simp only [etF, ehF, heF, seG, stC, zL, slR, slC, List.cons_append, List.nil_append]; simp (maxSteps := 4000000) only [go_sem, seval]
       (repeat' (first
 | refine zC ?_
 | refine kt ?_
 | refine And.intro ?_ ?_
 | ((first | refine awp_stp rfl ?_ | refine awp_draw (by kernel_rfl) (by kernel_rfl) ?_ | refine Imp.le2 ?_ | refine go_split (fun _h => ?_) (fun _h => ?_)) <;> try simp (maxSteps := 4000000) only [go_sem, seval])
 | intro _h
 | refine zA ?_
 | refine zB ?_
 | refine zF ?_ ?_
 | (show zE _ _ = true; kernel_rfl)
 | (show zD _ _ = true; kernel_rfl)
 | (omega)))
       all_goals trace_state
end Go.Am
namespace Go.Am
open Go.RowKit Go.Proofs
attribute [local irreducible] AWP zO Kt goK CallK zT zR SemF SemY Imp
set_option maxRecDepth 4000
set_option linter.unusedSimpArgs false
set_option linter.unusedVariables false
set_option maxHeartbeats 6400000
theorem allF_c (t : Ann)  (ht : AnnOK t)  (v : Bool × List Int) (hv : (FiOK t) v) : SemF Try.prog 51 [.agg (zL t), .fn (.func 93) [] [.ptr 0 0 0, .ptr 1 0 0, .ptr 2 0 0]] [some (.cells 35 1 0 (zL t)), some (.cells 4 1 0 [.bool v.1]), some (.cells 59 1 0 [.osl 3 v.2.length 0 v.2.length]), some (.cells 3 1 v.2.length (zS v.2))] (.tup []) [some (.cells 35 1 0 (zL t)), some (.cells 4 1 0 [.bool (allM t (fiS t) v).2.v.1]), some (.cells 59 1 0 [.osl 3 (allM t (fiS t) v).2.v.2.length 0 (allM t (fiS t) v).2.v.2.length]), some (.cells 3 1 (allM t (fiS t) v).2.v.2.length (zS (allM t (fiS t) v).2.v.2))] := by
 have h128 : (begS t).rest < 128 := by
  show 2 ^ t.reports.length - 1 < 128
  have : 2 ^ t.reports.length ≤ 2 ^ 7 := Nat.pow_le_pow_right (by omega) ht.reports.2
  omega
 have hm := eachF_c t  ht  128 (begS t) 0 ⟨v, zer7, zer7, []⟩ (begS_ok ht) h128 (Int.le_refl _) (by omega) ⟨hv, zer_ok⟩
 have hbe := begin_c t ht.reports.2
 have hz : (zS zer7 ++ zS zer7) = [.int .i64 0, .int .i64 0, .int .i64 0, .int .i64 0, .int .i64 0, .int .i64 0, .int .i64 0, .int .i64 0, .int .i64 0, .int .i64 0, .int .i64 0, .int .i64 0, .int .i64 0, .int .i64 0] := rfl
 unfold allM
 generalize (eachM t (fiS t) 128 (begS t) 0 ⟨v, zer7, zer7, []⟩) = R at *
 obtain ⟨⟨f1, m1⟩, vE, plE, dyE, KE⟩ := R
 simp only [heF, seG, hz, kmC_nil2, zL, slR, slC, List.cons_append, List.nil_append] at hm hbe ⊢
 generalize (begS t) = st at *
 simp only [stC] at hm hbe
 (refine zH (ys := []) (fun w args => Try.call51 ..) Try.func51 rfl (fun w0 m0 wz => ?_); simp only [Try.ntmps51, Try.results51, zN, zP, zU, zV, slR, slC, zL, sl, List.toList_toArray, List.cons_append, List.nil_append, List.length_cons, List.length_nil, Nat.reduceAdd, Nat.reduceSub])
 (repeat' (first
 | refine zC ?_
 | refine kt ?_
 | refine And.intro ?_ ?_
 | ((first | refine awp_stp rfl ?_ | refine Imp.le2 ?_ | refine go_split (fun _h => ?_) (fun _h => ?_)) <;> try simp (maxSteps := 4000000) only [go_sem, seval])
 | intro _h
 | refine zA ?_
 | refine zB ?_
 | refine zF ?_ ?_
 | (show zE _ _ = true; kernel_rfl)
 | (show zD _ _ = true; kernel_rfl)
 | (omega)))
 ((repeat refine zC ?_); refine awp_draws [(3, [1, 2, 3, 6, 7])] (by kernel_rfl) (by kernel_rfl) ?_; simp (maxSteps := 4000000) only [go_sem, seval, sg_cons, sg_nil, List.take_succ_cons, List.take_zero, List.drop_succ_cons, List.drop_zero])
 (repeat' (first
 | refine zC ?_
 | refine kt ?_
 | refine And.intro ?_ ?_
 | ((first | refine awp_stp rfl ?_ | refine Imp.le2 ?_ | refine callK_of (hbe) ?_ | refine go_split (fun _h => ?_) (fun _h => ?_)) <;> try simp (maxSteps := 4000000) only [go_sem, seval])
 | intro _h
 | refine zA ?_
 | refine zB ?_
 | refine zF ?_ ?_
 | (show zE _ _ = true; kernel_rfl)
 | (show zD _ _ = true; kernel_rfl)
 | (omega)))
 (refine zQ (hm) [0, 1, 2, 3, 4, 5, 6, 7, 8, 9, 10] rfl (by simp (maxSteps := 4000000) only [go_sem, seval]) (by simp (maxSteps := 4000000) only [go_sem, seval, Nat.lt_irrefl] <;> decide) (by simp (maxSteps := 4000000) only [go_sem, seval]) ?_; simp (maxSteps := 4000000) only [go_sem, seval]; refine And.intro (frm_of (by repeat (first | exact rfl | exact ⟨_, rfl⟩ | refine And.intro ?_ ?_))) ?_; try simp (maxSteps := 4000000) only [go_sem, seval, sg_cons, sg_nil, List.take_succ_cons, List.take_zero, List.drop_succ_cons, List.drop_zero])
 (repeat' (first
 | refine zC ?_
 | refine kt ?_
 | refine And.intro ?_ ?_
 | ((first | refine awp_stp rfl ?_ | refine Imp.le2 ?_ | refine go_split (fun _h => ?_) (fun _h => ?_)) <;> try simp (maxSteps := 4000000) only [go_sem, seval])
 | intro _h
 | refine zA ?_
 | refine zB ?_
 | refine zF ?_ ?_
 | (show zE _ _ = true; kernel_rfl)
 | (show zD _ _ = true; kernel_rfl)
 | (omega)))
 all_goals trace_state
end Go.Am
namespace Go.Am
open Go.RowKit Go.Proofs
attribute [local irreducible] AWP zO Kt goK CallK zT zR SemF SemY Imp
set_option maxRecDepth 4000
set_option linter.unusedSimpArgs false
set_option linter.unusedVariables false
set_option maxHeartbeats 1600000
def mirR (r : Rpt) : Rpt := ⟨r.slope, 100000 - r.hi, 100000 - r.lo⟩
def mirC (c : Clm) : Clm := ⟨c.kind, c.b, c.a⟩
def mirA (t : Ann) : Ann := ⟨t.reports.map mirR, t.claims.map mirC, t.rest⟩
theorem recs_tm {α : Type} {enc : α → List AV} {g : α → α} {l : List α} {d : α} {k : Nat} (h : k < l.length) : recs enc ((l.take k).map g) ++ enc (g (l.getD k d)) = recs enc ((l.take (k + 1)).map g) := by
 have e : l.take (k + 1) = l.take k ++ [l.getD k d] := by
  rw [List.take_succ_eq_append_getElem h]; simp [List.getD_eq_getElem?_getD, h]
 rw [e]; simp [recs]
theorem mirrored_c (t : Ann) (ht : AnnOK t) : zO Try.prog 58 [.agg (zL t)] (.agg (zL (mirA t))) := by
 have hrp := ht.rpt
 have hr := ht.reports
 have hcl := ht.claims
 (refine zG (fun w args => Try.call58 ..) Try.func58 rfl (fun w0 m0 wz => ?_); simp only [Try.ntmps58, Try.results58, zN, zP, zU, zV, slR, slC, zL, sl, List.toList_toArray, List.cons_append, List.nil_append, List.length_cons, List.length_nil, Nat.reduceAdd, Nat.reduceSub])
 (repeat' (first
 | refine zC ?_
 | refine kt ?_
 | refine And.intro ?_ ?_
 | ((first | refine awp_stp rfl ?_ | refine awp_draw (by kernel_rfl) (by kernel_rfl) ?_ | refine Imp.le2 ?_ | refine go_split (fun _h => ?_) (fun _h => ?_)) <;> try simp (maxSteps := 4000000) only [go_sem, seval])
 | intro _h
 | refine zA ?_
 | refine zB ?_
 | refine zF ?_ ?_
 | (show zE _ _ = true; kernel_rfl)
 | (show zD _ _ = true; kernel_rfl)
 | (omega)))
 refine awp_adH 2 0 58 3 rfl rfl ?_
 simp only [adH, hget, hset, lset, List.length_cons, List.length_nil, Nat.reduceAdd]
 refine awp_adH 2 1 73 3 rfl rfl ?_
 simp only [adH, hget, hset, lset, List.length_cons, List.length_nil, Nat.reduceAdd]
 refine awp_loopN t.reports.length (fun k => ⟨mkT 56 [(1, .ptr 0 0 0), (2, .ptr 1 0 0), (3, .ptr 2 0 0), (12, slR t.reports), (13, .int .i64 t.reports.length), (14, .int .i64 k)], [some (.cells 35 1 0 (zL t)), some (.cells 35 1 0 [.nils, .nils, .int .i64 0]), some (.cells 35 1 0 [.osl 3 k 0 k, .osl 4 0 0 0, .int .i64 t.rest]), some (.cells 58 3 k (recs zU ((t.reports.take k).map mirR))), some (.cells 73 3 0 [])], []⟩) (.le2 ?_) ?_
 ·simp only [zL, slR, slC]; simp (maxSteps := 4000000) only [go_sem, seval]
  rfl
 ·intro k hk
  rcases Nat.lt_or_eq_of_le hk with hk1 | hk1
  ·have hlt : (t.reports.take k).length = k := by simp; omega
   have hsn := recs_tm (enc := zU) (g := mirR) (d := default) hk1
   have hrk := hrp k hk1
   simp only [zU, mirR] at hsn
   simp only [zL, slR, slC, mirR]; simp (maxSteps := 4000000) only [go_sem, seval]
   (repeat' (first
 | ((omega))
 | refine zC ?_
 | refine kt ?_
 | refine And.intro ?_ ?_
 | ((first | refine awp_stp rfl ?_ | refine awp_draw (by kernel_rfl) (by kernel_rfl) ?_ | refine Imp.le2 ?_ | refine go_split (fun _h => ?_) (fun _h => ?_)) <;> try simp (maxSteps := 4000000) only [go_sem, seval, List.length_map, hlt, hsn])
 | intro _h
 | refine zA ?_
 | refine zB ?_
 | refine zF ?_ ?_
 | (show zE _ _ = true; kernel_rfl)
 | (show zD _ _ = true; kernel_rfl)
 | (omega)))
   all_goals trace_state
  ·subst hk1
   have hlt : (t.reports.take t.reports.length) = t.reports := by simp
   simp only [zL, slR, slC]; simp (maxSteps := 4000000) only [go_sem, seval, hlt]
   (repeat' (first
 | ((exfalso; omega))
 | refine zC ?_
 | refine kt ?_
 | refine And.intro ?_ ?_
 | ((first | refine awp_stp rfl ?_ | refine awp_draw (by kernel_rfl) (by kernel_rfl) ?_ | refine Imp.le2 ?_ | refine go_split (fun _h => ?_) (fun _h => ?_)) <;> try simp (maxSteps := 4000000) only [go_sem, seval, hlt])
 | intro _h
 | refine zA ?_
 | refine zB ?_
 | refine zF ?_ ?_
 | (show zE _ _ = true; kernel_rfl)
 | (show zD _ _ = true; kernel_rfl)
 | (omega)))
   refine awp_loopN t.claims.length (fun k => ⟨mkT 56 [(1, .ptr 0 0 0), (2, .ptr 1 0 0), (3, .ptr 2 0 0), (36, slC t.claims), (37, .int .i64 t.claims.length), (38, .int .i64 k)], [some (.cells 35 1 0 (zL t)), some (.cells 35 1 0 [.nils, .nils, .int .i64 0]), some (.cells 35 1 0 [.osl 3 t.reports.length 0 t.reports.length, .osl 4 k 0 k, .int .i64 t.rest]), some (.cells 58 3 t.reports.length (recs zU (t.reports.map mirR))), some (.cells 73 3 k (recs zV ((t.claims.take k).map mirC)))], []⟩) (.le2 ?_) ?_
   ·simp only [zL, slR, slC]; simp (maxSteps := 4000000) only [go_sem, seval]
    rfl
   ·intro k hk
    rcases Nat.lt_or_eq_of_le hk with hk1 | hk1
    ·have hlt : (t.claims.take k).length = k := by simp; omega
     have hsn := recs_tm (enc := zV) (g := mirC) (d := default) hk1
     simp only [zV, mirC] at hsn
     simp only [zL, slR, slC, mirC]; simp (maxSteps := 4000000) only [go_sem, seval]
     (repeat' (first
 | ((omega))
 | refine zC ?_
 | refine kt ?_
 | refine And.intro ?_ ?_
 | ((first | refine awp_stp rfl ?_ | refine awp_draw (by kernel_rfl) (by kernel_rfl) ?_ | refine Imp.le2 ?_ | refine go_split (fun _h => ?_) (fun _h => ?_)) <;> try simp (maxSteps := 4000000) only [go_sem, seval, List.length_map, hlt, hsn])
 | intro _h
 | refine zA ?_
 | refine zB ?_
 | refine zF ?_ ?_
 | (show zE _ _ = true; kernel_rfl)
 | (show zD _ _ = true; kernel_rfl)
 | (omega)))
     all_goals trace_state
    ·subst hk1
     have hlt : (t.claims.take t.claims.length) = t.claims := by simp
     simp only [zL, slR, slC]; simp (maxSteps := 4000000) only [go_sem, seval, hlt]
     (repeat' (first
 | ((exfalso; omega))
 | refine zC ?_
 | refine kt ?_
 | refine And.intro ?_ ?_
 | ((first | refine awp_stp rfl ?_ | refine awp_draw (by kernel_rfl) (by kernel_rfl) ?_ | refine Imp.le2 ?_ | refine go_split (fun _h => ?_) (fun _h => ?_)) <;> try simp (maxSteps := 4000000) only [go_sem, seval, hlt, mirA, List.length_map])
 | intro _h
 | refine zA ?_
 | refine zB ?_
 | refine zF ?_ ?_
 | (show zE _ _ = true; kernel_rfl)
 | (show zD _ _ = true; kernel_rfl)
 | (omega)))
     all_goals trace_state
end Go.Am
namespace Go.Am
open Go.RowKit Go.Proofs
attribute [local irreducible] AWP zO Kt goK CallK zT zR SemF SemY Imp
set_option maxRecDepth 4000
set_option linter.unusedSimpArgs false
set_option linter.unusedVariables false
set_option maxHeartbeats 1600000
def fiV (t : Ann) : Bool × List Int := (allM t (fiS t) (false, [])).2.v
theorem fi0_ok {t : Ann} : FiOK t (false, []) := ⟨fun h => (by cases h), fun _ => rfl, fun i => (by simp)⟩
theorem fiV_ok {t : Ann} (ht : AnnOK t) : FiOK t (fiV t) := by
 have : 2 ^ t.reports.length ≤ 2 ^ 7 := Nat.pow_le_pow_right (by omega) ht.reports.2
 exact (eachM_ok (step := fiS t) ht (fi_ok t ht) 128 (begS t) 0 ⟨(false, []), zer7, zer7, []⟩ (begS_ok ht) (Int.le_refl _) (by show (0 : Int) + ((2 ^ t.reports.length - 1 : Nat) : Int) ≤ 1000; omega) ⟨fi0_ok, zer_ok⟩).1
theorem first_c (t : Ann) (ht : AnnOK t) : zO Try.prog 57 [.agg (zL t)] (.tup [.psl false (fiV t).2.length (zS (fiV t).2), .bool (fiV t).1]) := by
 have h := allF_c t ht (false, []) fi0_ok
 have e : (allM t (fiS t) (false, [])).2.v = fiV t := rfl
 rw [e] at h
 generalize fiV t = V at *
 obtain ⟨fd, L⟩ := V
 simp only [zL, slR, slC, ints_nil, List.length_nil] at h ⊢
 (refine zG (fun w args => Try.call57 ..) Try.func57 rfl (fun w0 m0 wz => ?_); simp only [Try.ntmps57, Try.results57, zN, zP, zU, zV, slR, slC, zL, sl, List.toList_toArray, List.cons_append, List.nil_append, List.length_cons, List.length_nil, Nat.reduceAdd, Nat.reduceSub])
 refine zC ?_
 refine awp_region ?_
 simp (maxSteps := 4000000) only [go_sem, seval]
 refine kt ?_
 refine awp_adH 1 0 3 1 rfl rfl ?_
 simp only [adH, hget, hset, lset, List.length_cons, List.length_nil, Nat.reduceAdd]
 (repeat' (first
 | (refine zJ 2 rfl ?_; simp (maxSteps := 4000000) only [go_sem, seval, List.take_succ_cons, List.take_zero]; (repeat refine And.intro (by omega) ?_); refine zQ (h) [0, 2, 1, 3] rfl ?_ ?_ rfl ?_ <;> try simp (maxSteps := 4000000) only [go_sem, seval, Nat.lt_irrefl] <;> try decide)
 | (refine awp_frz (c := .region 2 _ _) 3 rfl (by simp (maxSteps := 4000000) only [go_sem, seval]) (fun _ => rfl) ?_; simp only [frz, fzl, fz2, fz1, fz0, fzH, fzHs, fzO, fzB, List.map_cons, List.map_nil, if_true, if_false, reduceIte, Nat.reduceEqDiff, Nat.reduceAdd, Nat.succ_ne_self, Nat.zero_ne_one, Nat.one_ne_zero, reduceCtorEq, and_self])
 | ((exfalso; omega))
 | refine zC ?_
 | refine kt ?_
 | refine And.intro ?_ ?_
 | ((first | refine awp_stp rfl ?_ | refine awp_draw (by kernel_rfl) (by kernel_rfl) ?_ | refine Imp.le2 ?_ | refine go_split (fun _h => ?_) (fun _h => ?_)) <;> try simp (maxSteps := 4000000) only [go_sem, seval])
 | intro _h
 | refine zA ?_
 | refine zB ?_
 | refine zF ?_ ?_
 | (show zE _ _ = true; kernel_rfl)
 | (show zD _ _ = true; kernel_rfl)
 | (omega)))
 all_goals trace_state
end Go.Am
namespace Go.Am
open Go.RowKit Go.Proofs
set_option maxRecDepth 4000
def valA : Ann := ⟨[⟨1, 100, 120⟩, ⟨1, 110, 200⟩, ⟨2, 90, 130⟩, ⟨1, 150, 160⟩], [⟨0, 2, 0⟩, ⟨2, 1, 0⟩], 30⟩
theorem fi_val : fiV valA = (true, [100, 130, 90, 150]) := by kernel_rfl
theorem fi_mir : fiV (mirA valA) = (true, [99880, 99800, 99881, 99840]) := by kernel_rfl
end Go.Am
namespace Go.Am
open Go.RowKit Go.Proofs
attribute [local irreducible] AWP zO Kt goK CallK zT zR SemF SemY Imp
set_option maxRecDepth 4000
set_option linter.unusedSimpArgs false
set_option linter.unusedVariables false
set_option maxHeartbeats 1600000
theorem mirA_ok {t : Ann} (ht : AnnOK t) : AnnOK (mirA t) := by
 have hr := ht.reports
 refine ⟨by simpa [mirA] using ht.reports, by simpa [mirA] using ht.claims, ht.rest, fun i hi => ?_, fun i hi => ?_⟩
 ·have hi' : i < t.reports.length := by simpa [mirA] using hi
  have h := ht.rpt i hi'
  have e : (mirA t).reports.getD i default = mirR (t.reports.getD i default) := by simp [mirA, List.getD_eq_getElem?_getD, hi']
  rw [e]
  simp only [mirR]
  omega
 ·have hi' : i < t.claims.length := by simpa [mirA] using hi
  have h := ht.clm i hi'
  have e : (mirA t).claims.getD i default = mirC (t.claims.getD i default) := by simp [mirA, List.getD_eq_getElem?_getD, hi']
  have e2 : (mirA t).reports.length = t.reports.length := by simp [mirA]
  rw [e, e2]
  simp only [mirC]
  omega
def rngC (p : Int × Int) : List AV := [.int .i64 p.1, .int .i64 p.2]
def slG (l : List (Int × Int)) : AV := .psl false l.length (recs rngC l)
theorem pl_G {l : List (Int × Int)} : pureL (recs rngC l) = True := eq_true (recs_pure fun s => by simp [pureL, rngC, zK])
theorem lv_G {l : List (Int × Int)} {p : Nat → Bool} : (recs rngC l).all (live2 p) = true := recs_live fun s => by simp [pureL, rngC, zK]
theorem len_G {l : List (Int × Int)} : (recs rngC l).length = l.length * 2 := recs_length fun _ => rfl
attribute [go_sem] pl_G lv_G len_G
instance {l : List (Int × Int)} : Still (recs rngC l) := ⟨fun y hy => by
 simp only [recs, List.mem_flatMap] at hy
 obtain ⟨h, _, hy⟩ := hy
 simp only [rngC, List.mem_cons, List.not_mem_nil, or_false] at hy
 rcases hy with rfl | rfl <;> rfl⟩
def dayF (L H : List Int) (i : Nat) : Int × Int := (L.getD i 0, 100000 - H.getD i 0)
def dayE (t : Ann) : Int := if faultA t = 0 then (if (fiV t).1 = true then 0 else 9) else faultA t
def dayV (t : Ann) : AV := if dayE t = 0 then slG (tab t.reports.length (dayF (fiV t).2 (fiV (mirA t)).2)) else .nils
theorem recs_tab {α : Type} {enc : α → List AV} {f : Nat → α} {k : Nat} : recs enc (tab k f) ++ enc (f k) = recs enc (tab (k + 1) f) := by
 simp [tab, recs, List.range_succ]
theorem Days_c (t : Ann) (hb : annOK t) (ht : faultA t = 0 → AnnOK t) (hm : faultA t = 0 → (fiV t).1 = true → (fiV (mirA t)).1 = true) : zO Try.prog 20 [.agg (zL t)] (.tup [dayV t, .int .i64 (dayE t)]) := by
 have hch := check_c t hb
 unfold dayV dayE
 by_cases h0 : faultA t = 0
 ·have ht := ht h0
  have hm := hm h0
  have hok := fiV_ok ht
  have hok2 := fiV_ok (mirA_ok ht)
  have hf := first_c t ht
  have hf2 := first_c (mirA t) (mirA_ok ht)
  have hmi := mirrored_c t ht
  have hr := ht.reports
  rw [if_pos h0]
  rw [h0] at hch
  have hlen : (mirA t).reports.length = t.reports.length := by simp [mirA]
  generalize fiV t = V at *
  generalize fiV (mirA t) = W at *
  obtain ⟨fd, L⟩ := V
  obtain ⟨fe, H⟩ := W
  generalize mirA t = M at *
  cases fd with
  | false =>
    simp only [Bool.false_eq_true, if_false]
    rw [if_neg (by omega)]
    simp only [zL, slR, slC] at hf hch ⊢
    (refine zG (fun w args => Try.call20 ..) Try.func20 rfl (fun w0 m0 wz => ?_); simp only [Try.ntmps20, Try.results20, zN, zP, zU, zV, slR, slC, zL, sl, List.toList_toArray, List.cons_append, List.nil_append, List.length_cons, List.length_nil, Nat.reduceAdd, Nat.reduceSub])
    (repeat' (first
 | refine zC ?_
 | refine kt ?_
 | refine And.intro ?_ ?_
 | ((first | refine awp_stp rfl ?_ | refine awp_draw (by kernel_rfl) (by kernel_rfl) ?_ | refine Imp.le2 ?_ | refine callK_of (hch) ?_ | refine callK_of (hf) ?_ | refine go_split (fun _h => ?_) (fun _h => ?_)) <;> try simp (maxSteps := 4000000) only [go_sem, seval])
 | intro _h
 | refine zA ?_
 | refine zB ?_
 | refine zF ?_ ?_
 | (show zE _ _ = true; kernel_rfl)
 | (show zD _ _ = true; kernel_rfl)
 | (omega)))
    all_goals trace_state
  | true =>
    have hfe : fe = true := hm rfl
    subst hfe
    have hL : L.length = t.reports.length := hok.on rfl
    have hH : H.length = t.reports.length := (hok2.on rfl).trans hlen
    have hbH := hok2.bd
    simp only at hbH
    simp only [if_true, hL, hH] at hf hf2 ⊢
    simp only [zL, slR, slC, slG] at hf hf2 hch hmi ⊢
    (refine zG (fun w args => Try.call20 ..) Try.func20 rfl (fun w0 m0 wz => ?_); simp only [Try.ntmps20, Try.results20, zN, zP, zU, zV, slR, slC, zL, sl, List.toList_toArray, List.cons_append, List.nil_append, List.length_cons, List.length_nil, Nat.reduceAdd, Nat.reduceSub])
    (repeat' (first
 | refine zC ?_
 | refine kt ?_
 | refine And.intro ?_ ?_
 | ((first | refine awp_stp rfl ?_ | refine awp_draw (by kernel_rfl) (by kernel_rfl) ?_ | refine Imp.le2 ?_ | refine callK_of (hch) ?_ | refine callK_of (hf) ?_ | refine callK_of (hf2) ?_ | refine callK_of (hmi) ?_ | refine go_split (fun _h => ?_) (fun _h => ?_)) <;> try simp (maxSteps := 4000000) only [go_sem, seval])
 | intro _h
 | refine zA ?_
 | refine zB ?_
 | refine zF ?_ ?_
 | (show zE _ _ = true; kernel_rfl)
 | (show zD _ _ = true; kernel_rfl)
 | (omega)))
    (refine awp_adT 9 48 2 rfl ?_; simp only [adT, lset, hset, List.length_cons, List.length_nil, Nat.reduceAdd])
    obtain ⟨f, hfd⟩ : ∃ f, dayF L H = f := ⟨_, rfl⟩
    rw [hfd]
    refine awp_loopN t.reports.length (fun k => ⟨mkT 49 [(1, .ptr 0 0 0), (5, .psl false t.reports.length (zS L)), (7, .psl false t.reports.length (zS H)), (9, .osl 1 k 0 k), (30, .int .i64 t.reports.length), (31, .int .i64 k)], [some (.cells 35 1 0 (zL t)), some (.cells 48 2 k (recs rngC (tab k f)))], []⟩) (.le2 ?_) ?_
    ·simp only [zL, slR, slC]; simp (maxSteps := 4000000) only [go_sem, seval]
     all_goals first | rfl | trace_state
    ·intro k hk
     rcases Nat.lt_or_eq_of_le hk with hk1 | hk1
     ·have hn1 := fun K => show optK (nth (zS L) k) K = K (.int .i64 (L.getD k 0)) by rw [ints_nth (by omega)]; rfl
      have hn2 := fun K => show optK (nth (zS H) k) K = K (.int .i64 (H.getD k 0)) by rw [ints_nth (by omega)]; rfl
      have hsn := recs_tab (enc := rngC) (f := f) (k := k)
      have hfk : f k = (L.getD k 0, 100000 - H.getD k 0) := by rw [← hfd]; rfl
      have hbk := hbH k
      rw [hfk] at hsn
      simp only [rngC] at hsn
      simp only [zL, slR, slC]; simp (maxSteps := 4000000) only [go_sem, seval]
      (repeat' (first
 | ((omega))
 | ((exfalso; omega))
 | refine zC ?_
 | refine kt ?_
 | refine And.intro ?_ ?_
 | ((first | refine awp_stp rfl ?_ | refine awp_draw (by kernel_rfl) (by kernel_rfl) ?_ | refine Imp.le2 ?_ | refine go_split (fun _h => ?_) (fun _h => ?_)) <;> try simp (maxSteps := 4000000) only [go_sem, seval, hn1, hn2, hsn, tab_length])
 | intro _h
 | refine zA ?_
 | refine zB ?_
 | refine zF ?_ ?_
 | (show zE _ _ = true; kernel_rfl)
 | (show zD _ _ = true; kernel_rfl)
 | (omega)))
      all_goals trace_state
     ·subst hk1
      simp only [zL, slR, slC]; simp (maxSteps := 4000000) only [go_sem, seval]
      (repeat' (first
 | (refine awp_frz (c := .region 14 _ _) 1 rfl (by simp (maxSteps := 4000000) only [go_sem, seval, tab_length]) (fun _ => rfl) ?_; simp only [frz, fzl, fz2, fz1, fz0, fzH, fzHs, fzO, fzB, List.map_cons, List.map_nil, if_true, if_false, reduceIte, Nat.reduceEqDiff, Nat.reduceAdd, Nat.succ_ne_self, Nat.zero_ne_one, Nat.one_ne_zero, reduceCtorEq, and_self])
 | ((exfalso; omega))
 | refine zC ?_
 | refine kt ?_
 | refine And.intro ?_ ?_
 | ((first | refine awp_stp rfl ?_ | refine awp_draw (by kernel_rfl) (by kernel_rfl) ?_ | refine Imp.le2 ?_ | refine go_split (fun _h => ?_) (fun _h => ?_)) <;> try simp (maxSteps := 4000000) only [go_sem, seval, tab_length])
 | intro _h
 | refine zA ?_
 | refine zB ?_
 | refine zF ?_ ?_
 | (show zE _ _ = true; kernel_rfl)
 | (show zD _ _ = true; kernel_rfl)
 | (omega)))
      all_goals trace_state
 ·rw [if_neg h0, if_neg h0]
  simp only [zL, slR, slC] at hch ⊢
  (refine zG (fun w args => Try.call20 ..) Try.func20 rfl (fun w0 m0 wz => ?_); simp only [Try.ntmps20, Try.results20, zN, zP, zU, zV, slR, slC, zL, sl, List.toList_toArray, List.cons_append, List.nil_append, List.length_cons, List.length_nil, Nat.reduceAdd, Nat.reduceSub])
  (repeat' (first
 | refine zC ?_
 | refine kt ?_
 | refine And.intro ?_ ?_
 | ((first | refine awp_stp rfl ?_ | refine awp_draw (by kernel_rfl) (by kernel_rfl) ?_ | refine Imp.le2 ?_ | refine callK_of (hch) ?_ | refine go_split (fun _h => ?_) (fun _h => ?_)) <;> try simp (maxSteps := 4000000) only [go_sem, seval])
 | intro _h
 | refine zA ?_
 | refine zB ?_
 | refine zF ?_ ?_
 | (show zE _ _ = true; kernel_rfl)
 | (show zD _ _ = true; kernel_rfl)
 | (omega)))
  all_goals first | (exfalso; simp at _h; omega) | trace_state
theorem valley_c : zO Try.prog 49 [] (.agg (zL valA)) := by
 simp only [zL, slR, slC, valA]
 (refine zG (fun w args => Try.call49 ..) Try.func49 rfl (fun w0 m0 wz => ?_); simp only [Try.ntmps49, Try.results49, zN, zP, zU, zV, slR, slC, zL, sl, List.toList_toArray, List.cons_append, List.nil_append, List.length_cons, List.length_nil, Nat.reduceAdd, Nat.reduceSub])
 (repeat' (first
 | refine zC ?_
 | refine kt ?_
 | refine And.intro ?_ ?_
 | ((first | refine awp_stp rfl ?_ | refine awp_draw (by kernel_rfl) (by kernel_rfl) ?_ | refine Imp.le2 ?_ | refine callK_of (span_c _ _) ?_ | refine go_split (fun _h => ?_) (fun _h => ?_)) <;> try simp (maxSteps := 4000000) only [go_sem, seval])
 | intro _h
 | refine zA ?_
 | refine zB ?_
 | refine zF ?_ ?_
 | (show zE _ _ = true; kernel_rfl)
 | (show zD _ _ = true; kernel_rfl)
 | (omega)))
 all_goals rfl
end Go.Am
