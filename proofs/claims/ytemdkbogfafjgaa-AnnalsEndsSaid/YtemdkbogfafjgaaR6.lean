/- Parts UeF, UeG, UeH, UeI, UfW, UgW of the proof, one behind the other. No statement is proved here. -/
import Derived.Test.YtemdkbogfafjgaaR5
import Derived.Test.YtemdkbogfafjgaaR3
/- Contracts of the annals functions: lists that are compared and searched; a list put behind others. -/
namespace Go.Am
open Go.RowKit Go.Proofs
attribute [local irreducible] AWP CallS Kt goK CallK stepK evOps SemF SemY Imp
set_option maxRecDepth 4000
set_option linter.unusedSimpArgs false
set_option linter.unusedVariables false
set_option maxHeartbeats 1600000

def cmpI (a b : Int) : Int := if a < b then -1 else if b < a then 1 else 0
def cmpL : List Int → List Int → Int
  | [], [] => 0
  | [], _ :: _ => -1
  | _ :: _, [] => 1
  | x :: a, y :: b => if cmpI x y = 0 then cmpL a b else cmpI x y
theorem isNaN_c (a : Int) : CallS Try.prog 108 [.int .i64 a] (.bool false) := by
  (refine callS_of_awp (fun w args => Try.call108 ..) Try.func108 rfl (fun w0 m0 wz => ?_); simp only [Try.ntmps108, Try.results108, initT, junks, rptC, clmC, slR, slC, annC, sl, List.toList_toArray, List.cons_append, List.nil_append, List.length_cons, List.length_nil, Nat.reduceAdd, Nat.reduceSub])
  (repeat' (first
    | (refine awp_seqK ?_)
    | (refine kt ?_)
    | (refine And.intro ?_ ?_)
    | ((first | refine awp_region ?_ | refine awp_draw (by kernel_rfl) (by kernel_rfl) ?_ | refine Imp.le2 ?_ | refine awp_label ?_ | refine awp_skip ?_ | refine awp_exit ?_ | refine awp_cd ?_ | refine awp_ret ?_ | refine go_split (fun _h => ?_) (fun _h => ?_)) <;> try simp (maxSteps := 4000000) only [go_sem, seval])
    | (intro _h)
    | (refine awp_block ?_)
    | (refine awp_scope ?_)
    | (refine cond_b (fun _h => ?_) (fun _h => ?_))
    | (show heapOK _ _ = true; kernel_rfl)
    | (show heapOK2 _ _ = true; kernel_rfl)
    | (omega)))
theorem cmpI_c (a b : Int) : CallS Try.prog 90 [.int .i64 a, .int .i64 b] (.int .i64 (cmpI a b)) := by
  unfold cmpI
  by_cases h : a < b
  · rw [if_pos h]
    (refine callS_of_awp (fun w args => Try.call90 ..) Try.func90 rfl (fun w0 m0 wz => ?_); simp only [Try.ntmps90, Try.results90, initT, junks, rptC, clmC, slR, slC, annC, sl, List.toList_toArray, List.cons_append, List.nil_append, List.length_cons, List.length_nil, Nat.reduceAdd, Nat.reduceSub])
    (repeat' (first
    | ((exfalso; omega))
    | (refine awp_seqK ?_)
    | (refine kt ?_)
    | (refine And.intro ?_ ?_)
    | ((first | refine awp_region ?_ | refine awp_draw (by kernel_rfl) (by kernel_rfl) ?_ | refine Imp.le2 ?_ | refine awp_label ?_ | refine awp_skip ?_ | refine awp_exit ?_ | refine awp_cd ?_ | refine awp_ret ?_ | refine callK_of (isNaN_c _) ?_ | refine go_split (fun _h => ?_) (fun _h => ?_)) <;> try simp (maxSteps := 4000000) only [go_sem, seval])
    | (intro _h)
    | (refine awp_block ?_)
    | (refine awp_scope ?_)
    | (refine cond_b (fun _h => ?_) (fun _h => ?_))
    | (show heapOK _ _ = true; kernel_rfl)
    | (show heapOK2 _ _ = true; kernel_rfl)
    | (omega)))
  · rw [if_neg h]
    by_cases h2 : b < a
    · rw [if_pos h2]
      (refine callS_of_awp (fun w args => Try.call90 ..) Try.func90 rfl (fun w0 m0 wz => ?_); simp only [Try.ntmps90, Try.results90, initT, junks, rptC, clmC, slR, slC, annC, sl, List.toList_toArray, List.cons_append, List.nil_append, List.length_cons, List.length_nil, Nat.reduceAdd, Nat.reduceSub])
      (repeat' (first
    | ((exfalso; omega))
    | (refine awp_seqK ?_)
    | (refine kt ?_)
    | (refine And.intro ?_ ?_)
    | ((first | refine awp_region ?_ | refine awp_draw (by kernel_rfl) (by kernel_rfl) ?_ | refine Imp.le2 ?_ | refine awp_label ?_ | refine awp_skip ?_ | refine awp_exit ?_ | refine awp_cd ?_ | refine awp_ret ?_ | refine callK_of (isNaN_c _) ?_ | refine go_split (fun _h => ?_) (fun _h => ?_)) <;> try simp (maxSteps := 4000000) only [go_sem, seval])
    | (intro _h)
    | (refine awp_block ?_)
    | (refine awp_scope ?_)
    | (refine cond_b (fun _h => ?_) (fun _h => ?_))
    | (show heapOK _ _ = true; kernel_rfl)
    | (show heapOK2 _ _ = true; kernel_rfl)
    | (omega)))
    · rw [if_neg h2]
      (refine callS_of_awp (fun w args => Try.call90 ..) Try.func90 rfl (fun w0 m0 wz => ?_); simp only [Try.ntmps90, Try.results90, initT, junks, rptC, clmC, slR, slC, annC, sl, List.toList_toArray, List.cons_append, List.nil_append, List.length_cons, List.length_nil, Nat.reduceAdd, Nat.reduceSub])
      (repeat' (first
    | ((exfalso; omega))
    | (refine awp_seqK ?_)
    | (refine kt ?_)
    | (refine And.intro ?_ ?_)
    | ((first | refine awp_region ?_ | refine awp_draw (by kernel_rfl) (by kernel_rfl) ?_ | refine Imp.le2 ?_ | refine awp_label ?_ | refine awp_skip ?_ | refine awp_exit ?_ | refine awp_cd ?_ | refine awp_ret ?_ | refine callK_of (isNaN_c _) ?_ | refine go_split (fun _h => ?_) (fun _h => ?_)) <;> try simp (maxSteps := 4000000) only [go_sem, seval])
    | (intro _h)
    | (refine awp_block ?_)
    | (refine awp_scope ?_)
    | (refine cond_b (fun _h => ?_) (fun _h => ?_))
    | (show heapOK _ _ = true; kernel_rfl)
    | (show heapOK2 _ _ = true; kernel_rfl)
    | (omega)))
theorem getD_drop0 {l : List Int} {i : Nat} (h : i < l.length) : l.drop i = l.getD i 0 :: l.drop (i + 1) := by
  rw [List.drop_eq_getElem_cons h]; simp [List.getD_eq_getElem?_getD, h]
def sli (l : List Int) : AV := .psl false l.length (ints l)
theorem cmpL_c (a b : List Int) (ha : a.length ≤ 1000000) (hb : b.length ≤ 1000000) : CallS Try.prog 55 [sli a, sli b] (.int .i64 (cmpL a b)) := by
  obtain ⟨r, hr⟩ : ∃ r, cmpL a b = r := ⟨_, rfl⟩
  rw [hr]
  simp only [sli]
  (refine callS_of_awp (fun w args => Try.call55 ..) Try.func55 rfl (fun w0 m0 wz => ?_); simp only [Try.ntmps55, Try.results55, initT, junks, rptC, clmC, slR, slC, annC, sl, List.toList_toArray, List.cons_append, List.nil_append, List.length_cons, List.length_nil, Nat.reduceAdd, Nat.reduceSub])
  (repeat' (first
    | (refine awp_seqK ?_)
    | (refine kt ?_)
    | (refine And.intro ?_ ?_)
    | ((first | refine awp_region ?_ | refine awp_draw (by kernel_rfl) (by kernel_rfl) ?_ | refine Imp.le2 ?_ | refine awp_label ?_ | refine awp_skip ?_ | refine awp_exit ?_ | refine awp_cd ?_ | refine awp_ret ?_ | refine go_split (fun _h => ?_) (fun _h => ?_)) <;> try simp (maxSteps := 4000000) only [go_sem, seval])
    | (intro _h)
    | (refine awp_block ?_)
    | (refine awp_scope ?_)
    | (refine cond_b (fun _h => ?_) (fun _h => ?_))
    | (show heapOK _ _ = true; kernel_rfl)
    | (show heapOK2 _ _ = true; kernel_rfl)
    | (omega)))
  refine awp_loopJ (fun i : Nat => i ≤ a.length ∧ i ≤ b.length ∧ cmpL (a.drop i) (b.drop i) = r) (fun i => ⟨mkT 36 [(0, .psl false a.length (ints a)), (1, .psl false b.length (ints b)), (9, .psl false a.length (ints a)), (10, .int .i64 a.length), (11, .int .i64 i)], [], []⟩) (fun i => a.length - i) 0 ⟨Nat.zero_le _, Nat.zero_le _, hr⟩ (.le2 ?_) ?_
  · simp (maxSteps := 4000000) only [go_sem, seval]
  · rintro i ⟨h1, h2, h3⟩
    rcases Nat.lt_or_eq_of_le h1 with hi1 | hi1
    · have hn1 := fun K => show optK (nth (ints a) i) K = K (.int .i64 (a.getD i 0)) by rw [ints_nth hi1]; rfl
      rw [getD_drop0 hi1] at h3
      rcases Nat.lt_or_eq_of_le h2 with hi2 | hi2
      · have hn2 := fun K => show optK (nth (ints b) i) K = K (.int .i64 (b.getD i 0)) by rw [ints_nth hi2]; rfl
        rw [getD_drop0 hi2] at h3
        simp only [cmpL] at h3
        obtain ⟨q, hq⟩ : ∃ q, cmpI (a.getD i 0) (b.getD i 0) = q := ⟨_, rfl⟩
        have hc := cmpI_c (a.getD i 0) (b.getD i 0)
        rw [hq] at hc h3
        by_cases h0 : q = 0
        · rw [if_pos h0] at h3
          simp (maxSteps := 4000000) only [go_sem, seval]
          (repeat' (first
    | ((omega))
    | ((exfalso; omega))
    | (refine awp_seqK ?_)
    | (refine kt ?_)
    | (refine And.intro ?_ ?_)
    | ((first | refine awp_region ?_ | refine awp_draw (by kernel_rfl) (by kernel_rfl) ?_ | refine Imp.le2 ?_ | refine awp_label ?_ | refine awp_skip ?_ | refine awp_exit ?_ | refine awp_cd ?_ | refine awp_ret ?_ | refine callK_of (hc) ?_ | refine go_split (fun _h => ?_) (fun _h => ?_)) <;> try simp (maxSteps := 4000000) only [go_sem, seval, hn1, hn2])
    | (intro _h)
    | (refine awp_block ?_)
    | (refine awp_scope ?_)
    | (refine cond_b (fun _h => ?_) (fun _h => ?_))
    | (show heapOK _ _ = true; kernel_rfl)
    | (show heapOK2 _ _ = true; kernel_rfl)
    | (omega)))
          refine ⟨i + 1, ⟨hi1, hi2, h3⟩, by omega, .le2 ?_⟩
          simp (maxSteps := 4000000) only [go_sem, seval]
          all_goals first | rfl | exact ⟨rfl, rfl⟩ | trace_state
        · rw [if_neg h0] at h3
          simp (maxSteps := 4000000) only [go_sem, seval]
          (repeat' (first
    | ((omega))
    | ((exfalso; omega))
    | (refine awp_seqK ?_)
    | (refine kt ?_)
    | (refine And.intro ?_ ?_)
    | ((first | refine awp_region ?_ | refine awp_draw (by kernel_rfl) (by kernel_rfl) ?_ | refine Imp.le2 ?_ | refine awp_label ?_ | refine awp_skip ?_ | refine awp_exit ?_ | refine awp_cd ?_ | refine awp_ret ?_ | refine callK_of (hc) ?_ | refine go_split (fun _h => ?_) (fun _h => ?_)) <;> try simp (maxSteps := 4000000) only [go_sem, seval, hn1, hn2])
    | (intro _h)
    | (refine awp_block ?_)
    | (refine awp_scope ?_)
    | (refine cond_b (fun _h => ?_) (fun _h => ?_))
    | (show heapOK _ _ = true; kernel_rfl)
    | (show heapOK2 _ _ = true; kernel_rfl)
    | (omega)))
          all_goals trace_state
      · have hn3 : b.drop i = [] := List.drop_eq_nil_of_le (by omega)
        rw [hn3] at h3
        simp only [cmpL] at h3
        simp (maxSteps := 4000000) only [go_sem, seval]
        (repeat' (first
    | ((omega))
    | ((exfalso; omega))
    | (refine awp_seqK ?_)
    | (refine kt ?_)
    | (refine And.intro ?_ ?_)
    | ((first | refine awp_region ?_ | refine awp_draw (by kernel_rfl) (by kernel_rfl) ?_ | refine Imp.le2 ?_ | refine awp_label ?_ | refine awp_skip ?_ | refine awp_exit ?_ | refine awp_cd ?_ | refine awp_ret ?_ | refine go_split (fun _h => ?_) (fun _h => ?_)) <;> try simp (maxSteps := 4000000) only [go_sem, seval, hn1])
    | (intro _h)
    | (refine awp_block ?_)
    | (refine awp_scope ?_)
    | (refine cond_b (fun _h => ?_) (fun _h => ?_))
    | (show heapOK _ _ = true; kernel_rfl)
    | (show heapOK2 _ _ = true; kernel_rfl)
    | (omega)))
        all_goals trace_state
    · have hn3 : a.drop i = [] := List.drop_eq_nil_of_le (by omega)
      rw [hn3] at h3
      rcases Nat.lt_or_eq_of_le h2 with hi2 | hi2
      · rw [getD_drop0 hi2] at h3
        simp only [cmpL] at h3
        simp (maxSteps := 4000000) only [go_sem, seval]
        (repeat' (first
    | ((omega))
    | ((exfalso; omega))
    | (refine awp_seqK ?_)
    | (refine kt ?_)
    | (refine And.intro ?_ ?_)
    | ((first | refine awp_region ?_ | refine awp_draw (by kernel_rfl) (by kernel_rfl) ?_ | refine Imp.le2 ?_ | refine awp_label ?_ | refine awp_skip ?_ | refine awp_exit ?_ | refine awp_cd ?_ | refine awp_ret ?_ | refine go_split (fun _h => ?_) (fun _h => ?_)) <;> try simp (maxSteps := 4000000) only [go_sem, seval])
    | (intro _h)
    | (refine awp_block ?_)
    | (refine awp_scope ?_)
    | (refine cond_b (fun _h => ?_) (fun _h => ?_))
    | (show heapOK _ _ = true; kernel_rfl)
    | (show heapOK2 _ _ = true; kernel_rfl)
    | (omega)))
        all_goals trace_state
      · have hn4 : b.drop i = [] := List.drop_eq_nil_of_le (by omega)
        rw [hn4] at h3
        simp only [cmpL] at h3
        simp (maxSteps := 4000000) only [go_sem, seval]
        (repeat' (first
    | ((omega))
    | ((exfalso; omega))
    | (refine awp_seqK ?_)
    | (refine kt ?_)
    | (refine And.intro ?_ ?_)
    | ((first | refine awp_region ?_ | refine awp_draw (by kernel_rfl) (by kernel_rfl) ?_ | refine Imp.le2 ?_ | refine awp_label ?_ | refine awp_skip ?_ | refine awp_exit ?_ | refine awp_cd ?_ | refine awp_ret ?_ | refine go_split (fun _h => ?_) (fun _h => ?_)) <;> try simp (maxSteps := 4000000) only [go_sem, seval])
    | (intro _h)
    | (refine awp_block ?_)
    | (refine awp_scope ?_)
    | (refine cond_b (fun _h => ?_) (fun _h => ?_))
    | (show heapOK _ _ = true; kernel_rfl)
    | (show heapOK2 _ _ = true; kernel_rfl)
    | (omega)))
        all_goals trace_state
end Go.Am

/- Contracts of the annals functions: a list of lists that is searched; a list put behind others. -/
namespace Go.Am
open Go.RowKit Go.Proofs
attribute [local irreducible] AWP CallS Kt goK CallK stepK evOps SemF SemY Imp
set_option maxRecDepth 4000
set_option linter.unusedSimpArgs false
set_option linter.unusedVariables false
set_option maxHeartbeats 1600000

/-- Lists of lists, as cells. -/
def rowsC (l : List (List Int)) : List AV := l.map sli
theorem mem_rows {l : List (List Int)} {x : AV} (h : x ∈ rowsC l) : ∃ s, x = sli s := by
  simp only [rowsC, List.mem_map] at h
  obtain ⟨s, _, rfl⟩ := h
  exact ⟨s, rfl⟩
theorem rows_length {l : List (List Int)} : (rowsC l).length = l.length := by simp [rowsC]
theorem rows_pure {l : List (List Int)} : pureL (rowsC l) = True := eq_true (by intro x hx; obtain ⟨s, rfl⟩ := mem_rows hx; rfl)
theorem rows_live {l : List (List Int)} {p : Nat → Bool} : (rowsC l).all (live2 p) = true := by
  rw [List.all_eq_true]; intro x hx; obtain ⟨s, rfl⟩ := mem_rows hx; rfl
theorem rows_live1 {l : List (List Int)} {p : Nat → Bool} : (rowsC l).all (live1 p) = true := by
  rw [List.all_eq_true]; intro x hx; obtain ⟨s, rfl⟩ := mem_rows hx; rfl
theorem rows_ren {σ : Nat → Nat} : ∀ {l : List (List Int)}, renL σ (rowsC l) = rowsC l
  | [] => rfl
  | s :: l => by
    have ih := rows_ren (σ := σ) (l := l)
    show renL σ (sli s :: rowsC l) = sli s :: rowsC l
    rw [renL, ih]; simp [ren, sli]
theorem rows_refs {p : Nat → Prop} : ∀ {l : List (List Int)}, refsL p (rowsC l) = True
  | [] => rfl
  | s :: l => by
    have ih := rows_refs (p := p) (l := l)
    show refsL p (sli s :: rowsC l) = True
    rw [refsL, ih]; simp [refs, sli]
theorem rows_nth {l : List (List Int)} {i : Nat} (h : i < l.length) {K : AV → Prop} : optK (nth (rowsC l) i) K = K (.psl false (l.getD i []).length (ints (l.getD i []))) := by
  rw [← nth_is]
  simp [rowsC, h, optK, List.getD_eq_getElem?_getD, sli]
theorem rows_snoc {l : List (List Int)} {s : List Int} : rowsC l ++ [.psl false s.length (ints s)] = rowsC (l ++ [s]) := by simp [rowsC, sli]
attribute [go_sem] rows_length rows_pure rows_live rows_live1 rows_ren rows_refs
def bsI (c : Nat → Int) : Nat → Nat → Nat → Nat
  | 0, i, _ => i
  | f + 1, i, j => if i < j then (if c ((i + j) / 2) < 0 then bsI c f ((i + j) / 2 + 1) j else bsI c f i ((i + j) / 2)) else i
def cmpA (l : List (List Int)) (s : List Int) (i : Nat) : Int := cmpL (l.getD i []) s
def bsN (l : List (List Int)) (s : List Int) : Nat := bsI (cmpA l s) (l.length + 1) 0 l.length
def bsF (l : List (List Int)) (s : List Int) : Bool := decide (bsN l s < l.length ∧ cmpA l s (bsN l s) = 0)
theorem bsI_le {c : Nat → Int} : ∀ {f i j : Nat}, i ≤ j → bsI c f i j ≤ j
  | 0, i, j, h => h
  | f + 1, i, j, h => by
    simp only [bsI]
    split
    · split
      · exact bsI_le (by omega)
      · exact Nat.le_trans (bsI_le (by omega)) (by omega)
    · exact h
theorem half_c {i j : Nat} (h : i + j ≤ 1000000) : IntKind.u64.wrap ((i : Int) + (j : Int)) = ((i + j : Nat) : Int) := by
  have h1 : IntKind.u64.wrap ((i : Int) + (j : Int)) = ((i : Int) + j) % 18446744073709551616 := rfl
  rw [h1]; omega
theorem half2_c {i j m : Nat} (hm : (i + j) / 2 = m) : ((i + j : Nat) : Int).fdiv (2 ^ min 1 64) = (m : Int) := by
  rw [show (2 : Int) ^ min 1 64 = 2 from rfl, Int.fdiv_eq_ediv_of_nonneg _ (by omega)]
  omega
theorem bs_c (l : List (List Int)) (s : List Int) (g : Nat) (hl : l.length ≤ 1000) (hs : s.length ≤ 1000000) (hr : ∀ i, (l.getD i []).length ≤ 1000000) :
    SemF Try.prog 54 [.osl 0 g 0 l.length, sli s, .fn (.func 55) [] []] [some (.cells 59 1 g (rowsC l))] (.tup [.int .i64 (bsN l s), .bool (bsF l s)]) [some (.cells 59 1 g (rowsC l))] := by
  have hc := fun i => cmpL_c (l.getD i []) s (hr i) hs
  obtain ⟨c, hce⟩ : ∃ c, cmpA l s = c := ⟨_, rfl⟩
  have hc2 : ∀ i, cmpL (l.getD i []) s = c i := fun i => by rw [← hce]; rfl
  have hb := bsI_le (c := c) (f := l.length + 1) (i := 0) (j := l.length) (Nat.zero_le _)
  unfold bsF bsN
  rw [hce]
  obtain ⟨r, hre⟩ : ∃ r, bsI c (l.length + 1) 0 l.length = r := ⟨_, rfl⟩
  rw [hre] at hb ⊢
  simp only [sli, hc2] at hc ⊢
  (refine semF_of_awp (ys := [.int .i64 r, .bool (decide (r < l.length ∧ c r = 0))]) (fun w args => Try.call54 ..) Try.func54 rfl (fun w0 m0 wz => ?_); simp only [Try.ntmps54, Try.results54, initT, junks, rptC, clmC, slR, slC, annC, sl, List.toList_toArray, List.cons_append, List.nil_append, List.length_cons, List.length_nil, Nat.reduceAdd, Nat.reduceSub])
  (repeat' (first
    | (refine awp_seqK ?_)
    | (refine kt ?_)
    | (refine And.intro ?_ ?_)
    | ((first | refine awp_region ?_ | refine awp_draw (by kernel_rfl) (by kernel_rfl) ?_ | refine Imp.le2 ?_ | refine awp_label ?_ | refine awp_skip ?_ | refine awp_exit ?_ | refine awp_cd ?_ | refine awp_ret ?_ | refine go_split (fun _h => ?_) (fun _h => ?_)) <;> try simp (maxSteps := 4000000) only [go_sem, seval])
    | (intro _h)
    | (refine awp_block ?_)
    | (refine awp_scope ?_)
    | (refine cond_b (fun _h => ?_) (fun _h => ?_))
    | (show heapOK _ _ = true; kernel_rfl)
    | (show heapOK2 _ _ = true; kernel_rfl)
    | (omega)))
  refine awp_loopJ (fun x : Nat × Nat => x.1 ≤ x.2 ∧ x.2 ≤ l.length ∧ ∃ f, x.2 - x.1 < f ∧ bsI c f x.1 x.2 = r) (fun x => ⟨mkT 49 [(0, .osl 0 g 0 l.length), (1, .psl false s.length (ints s)), (2, .fn (.func 55) [] []), (8, .int .i64 l.length), (9, .int .i64 x.1), (10, .int .i64 x.2)], [some (.cells 59 1 g (rowsC l))], []⟩) (fun x => x.2 - x.1) (0, l.length) ⟨Nat.zero_le _, Nat.le_refl _, _, Nat.lt_succ_self _, hre⟩ (.le2 ?_) ?_
  · simp (maxSteps := 4000000) only [go_sem, seval]
    all_goals first | rfl | exact ⟨rfl, rfl⟩ | trace_state
  · rintro ⟨i, j⟩ ⟨h1, h2, f, h3, h4⟩
    simp only at h1 h2 h3 h4
    cases f with
    | zero => omega
    | succ f =>
      simp only [bsI] at h4
      by_cases hij : i < j
      · rw [if_pos hij] at h4
        obtain ⟨m, hm⟩ : ∃ m, (i + j) / 2 = m := ⟨_, rfl⟩
        rw [hm] at h4
        have hn := fun K => rows_nth (l := l) (i := m) (K := K) (by omega)
        have hcm := hc m
        have hw := half_c (i := i) (j := j) (by omega)
        have hw2 := half2_c hm
        by_cases h0 : c m < 0
        · rw [if_pos h0] at h4
          simp (maxSteps := 4000000) only [go_sem, seval]
          (repeat' (first
    | ((omega))
    | ((exfalso; omega))
    | (refine awp_seqK ?_)
    | (refine kt ?_)
    | (refine And.intro ?_ ?_)
    | ((first | refine awp_region ?_ | refine awp_draw (by kernel_rfl) (by kernel_rfl) ?_ | refine Imp.le2 ?_ | refine awp_label ?_ | refine awp_skip ?_ | refine awp_exit ?_ | refine awp_cd ?_ | refine awp_ret ?_ | refine callK_of (hcm) ?_ | refine go_split (fun _h => ?_) (fun _h => ?_)) <;> try simp (maxSteps := 4000000) only [go_sem, seval, hn, hw, hw2])
    | (intro _h)
    | (refine awp_block ?_)
    | (refine awp_scope ?_)
    | (refine cond_b (fun _h => ?_) (fun _h => ?_))
    | (show heapOK _ _ = true; kernel_rfl)
    | (show heapOK2 _ _ = true; kernel_rfl)
    | (omega)))
          refine ⟨(m + 1, j), ⟨by show m + 1 ≤ j; omega, h2, f, by show j - (m + 1) < f; omega, h4⟩, by show j - (m + 1) < j - i; omega, .le2 ?_⟩
          simp (maxSteps := 4000000) only [go_sem, seval]
          all_goals first | rfl | exact ⟨rfl, rfl⟩ | trace_state
        · rw [if_neg h0] at h4
          simp (maxSteps := 4000000) only [go_sem, seval]
          (repeat' (first
    | ((omega))
    | ((exfalso; omega))
    | (refine awp_seqK ?_)
    | (refine kt ?_)
    | (refine And.intro ?_ ?_)
    | ((first | refine awp_region ?_ | refine awp_draw (by kernel_rfl) (by kernel_rfl) ?_ | refine Imp.le2 ?_ | refine awp_label ?_ | refine awp_skip ?_ | refine awp_exit ?_ | refine awp_cd ?_ | refine awp_ret ?_ | refine callK_of (hcm) ?_ | refine go_split (fun _h => ?_) (fun _h => ?_)) <;> try simp (maxSteps := 4000000) only [go_sem, seval, hn, hw, hw2])
    | (intro _h)
    | (refine awp_block ?_)
    | (refine awp_scope ?_)
    | (refine cond_b (fun _h => ?_) (fun _h => ?_))
    | (show heapOK _ _ = true; kernel_rfl)
    | (show heapOK2 _ _ = true; kernel_rfl)
    | (omega)))
          refine ⟨(i, m), ⟨by show i ≤ m; omega, by show m ≤ l.length; omega, f, by show m - i < f; omega, h4⟩, by show m - i < j - i; omega, .le2 ?_⟩
          simp (maxSteps := 4000000) only [go_sem, seval]
          all_goals first | rfl | exact ⟨rfl, rfl⟩ | trace_state
      · rw [if_neg hij] at h4
        subst h4
        by_cases hi1 : i < l.length
        · have hn := fun K => rows_nth (l := l) (i := i) (K := K) hi1
          have hcm := hc i
          simp (maxSteps := 4000000) only [go_sem, seval]
          (repeat' (first
    | ((omega))
    | ((exfalso; omega))
    | (refine awp_seqK ?_)
    | (refine kt ?_)
    | (refine And.intro ?_ ?_)
    | ((first | refine awp_region ?_ | refine awp_draw (by kernel_rfl) (by kernel_rfl) ?_ | refine Imp.le2 ?_ | refine awp_label ?_ | refine awp_skip ?_ | refine awp_exit ?_ | refine awp_cd ?_ | refine awp_ret ?_ | refine callK_of (hcm) ?_ | refine go_split (fun _h => ?_) (fun _h => ?_)) <;> try simp (maxSteps := 4000000) only [go_sem, seval, hn])
    | (intro _h)
    | (refine awp_block ?_)
    | (refine awp_scope ?_)
    | (refine cond_b (fun _h => ?_) (fun _h => ?_))
    | (show heapOK _ _ = true; kernel_rfl)
    | (show heapOK2 _ _ = true; kernel_rfl)
    | (omega)))
          all_goals first | exact (decide_eq_true (by omega)).symm | exact (decide_eq_false (by omega)).symm | trace_state
        · simp (maxSteps := 4000000) only [go_sem, seval]
          (repeat' (first
    | ((omega))
    | ((exfalso; omega))
    | (refine awp_seqK ?_)
    | (refine kt ?_)
    | (refine And.intro ?_ ?_)
    | ((first | refine awp_region ?_ | refine awp_draw (by kernel_rfl) (by kernel_rfl) ?_ | refine Imp.le2 ?_ | refine awp_label ?_ | refine awp_skip ?_ | refine awp_exit ?_ | refine awp_cd ?_ | refine awp_ret ?_ | refine go_split (fun _h => ?_) (fun _h => ?_)) <;> try simp (maxSteps := 4000000) only [go_sem, seval])
    | (intro _h)
    | (refine awp_block ?_)
    | (refine awp_scope ?_)
    | (refine cond_b (fun _h => ?_) (fun _h => ?_))
    | (show heapOK _ _ = true; kernel_rfl)
    | (show heapOK2 _ _ = true; kernel_rfl)
    | (omega)))
          all_goals first | exact (decide_eq_true (by omega)).symm | exact (decide_eq_false (by omega)).symm | trace_state
theorem ins_c (l : List (List Int)) (s : List Int) (f : Bool) (hl : l.length ≤ 1000) :
    SemF Try.prog 56 [.osl 0 l.length 0 l.length, .int .i64 l.length, .psl f 1 [sli s]] [some (.cells 59 1 l.length (rowsC l))] (.osl 0 (l.length + 1) 0 (l.length + 1)) [some (.cells 59 1 (l.length + 1) (rowsC (l ++ [s])))] := by
  simp only [sli]
  (refine semF_of_awp (ys := [.osl 0 (l.length + 1) 0 (l.length + 1)]) (fun w args => Try.call56 ..) Try.func56 rfl (fun w0 m0 wz => ?_); simp only [Try.ntmps56, Try.results56, initT, junks, rptC, clmC, slR, slC, annC, sl, List.toList_toArray, List.cons_append, List.nil_append, List.length_cons, List.length_nil, Nat.reduceAdd, Nat.reduceSub])
  (repeat' (first
    | ((refine awp_cutJ (id := 1) 2 rfl ?_; simp (maxSteps := 4000000) only [go_sem, seval, List.take_succ_cons, List.take_zero]))
    | ((omega))
    | ((exfalso; omega))
    | (refine awp_seqK ?_)
    | (refine kt ?_)
    | (refine And.intro ?_ ?_)
    | ((first | refine awp_region ?_ | refine awp_draw (by kernel_rfl) (by kernel_rfl) ?_ | refine Imp.le2 ?_ | refine awp_label ?_ | refine awp_skip ?_ | refine awp_exit ?_ | refine awp_cd ?_ | refine awp_ret ?_ | refine go_split (fun _h => ?_) (fun _h => ?_)) <;> try simp (maxSteps := 4000000) only [go_sem, seval, rows_snoc])
    | (intro _h)
    | (refine awp_block ?_)
    | (refine awp_scope ?_)
    | (refine cond_b (fun _h => ?_) (fun _h => ?_))
    | (show heapOK _ _ = true; kernel_rfl)
    | (show heapOK2 _ _ = true; kernel_rfl)
    | (omega)))
  all_goals trace_state
end Go.Am

/- Contracts of the annals functions: the slides of an order; the visitor of Ways. -/
namespace Go.Am
open Go.RowKit Go.Proofs
attribute [local irreducible] AWP CallS Kt goK CallK stepK evOps SemF SemY Imp
set_option maxRecDepth 4000
set_option linter.unusedSimpArgs false
set_option linter.unusedVariables false
set_option maxHeartbeats 1600000

/-- The numbers of places, and the slides, of the first k reports. -/
def slK (pl : List Int) : Nat → List (Int × Int) × List Int
  | 0 => ([], [])
  | k + 1 => match gmGet (slK pl k).1 (pl.getD k 0) with
    | some n => ((slK pl k).1, (slK pl k).2 ++ [n])
    | none => (gmPut (slK pl k).1 (pl.getD k 0) (slK pl k).1.length, (slK pl k).2 ++ [((slK pl k).1.length : Int)])
def slN (t : Ann) (pl : List Int) : List Int := (slK pl t.reports.length).2
theorem slK_length {pl : List Int} : ∀ {k : Nat}, (slK pl k).2.length = k
  | 0 => rfl
  | k + 1 => by
    have ih := slK_length (pl := pl) (k := k)
    simp only [slK]
    split <;> simp [ih]
def imC (m : List (Int × Int)) : List (AV × AV) := gmC (AV.int .i64) (AV.int .i64) m
theorem imC_length {m : List (Int × Int)} : (imC m).length = m.length := by simp [imC, gmC]
theorem im_live {q : Nat → Bool} {m : List (Int × Int)} : ((imC m).all fun e => live2 q e.1 && live2 q e.2) = true := by
  simp only [imC, gmC, List.all_map, List.all_eq_true]
  intro e _; rfl
theorem bl_im {q : Nat → Bool} {m : List (Int × Int)} : blkLive q (.map (imC m)) = true := im_live
attribute [go_sem] im_live bl_im imC_length
section
variable {b g : Nat} {xs : List AV}
theorem fzB_km {m : List (Key × Bool)} : fzB b g xs (.map (kmC m)) = .map (kmC m) := by
  simp only [fzB, kmC, gmC, List.map_map]
  congr 1
  apply List.map_congr_left
  intro e _
  have h1 : fzl (fz1 b g xs) (stC e.1.1) = stC e.1.1 := fzl_id fun y hy => by
    simp only [stC, List.mem_cons, List.mem_append] at hy
    rcases hy with rfl | rfl | h | h
    · rfl
    · rfl
    · obtain ⟨n, rfl⟩ := mem_ints h; rfl
    · obtain ⟨n, rfl⟩ := mem_ints h; rfl
  simp only [Function.comp, keyV, fz2, h1, fz1, fz0]
theorem fzB_im {m : List (Int × Int)} : fzB b g xs (.map (imC m)) = .map (imC m) := by
  simp only [fzB, imC, gmC, List.map_map]; rfl
end
theorem slides_c (t : Ann) (pl dy : List Int) (K : List (Key × Bool)) (ht : AnnOK t) (hd : PDOK pl dy) :
    SemF Try.prog 53 [.ptr 0 0 0] [some (.cells 115 1 0 (seG t 1 pl dy)), some (.map (kmC K))] (sli (slN t pl)) [some (.cells 115 1 0 (seG t 1 pl dy)), some (.map (kmC K))] := by
  have hr := ht.reports
  have h1 := hd.lpl
  have h2 := hd.ldy
  unfold slN
  have hlast : (slK pl t.reports.length).2.length = t.reports.length := slK_length
  simp only [sli, hlast]
  simp only [seG, slR, slC]
  (refine semF_of_awp (ys := [.psl false t.reports.length (ints (slK pl t.reports.length).2)]) (fun w args => Try.call53 ..) Try.func53 rfl (fun w0 m0 wz => ?_); simp only [Try.ntmps53, Try.results53, initT, junks, rptC, clmC, slR, slC, annC, sl, List.toList_toArray, List.cons_append, List.nil_append, List.length_cons, List.length_nil, Nat.reduceAdd, Nat.reduceSub])
  (repeat' (first
    | (refine awp_seqK ?_)
    | (refine kt ?_)
    | (refine And.intro ?_ ?_)
    | ((first | refine awp_region ?_ | refine awp_draw (by kernel_rfl) (by kernel_rfl) ?_ | refine Imp.le2 ?_ | refine awp_label ?_ | refine awp_skip ?_ | refine awp_exit ?_ | refine awp_cd ?_ | refine awp_ret ?_ | refine go_split (fun _h => ?_) (fun _h => ?_)) <;> try simp (maxSteps := 4000000) only [go_sem, seval])
    | (intro _h)
    | (refine awp_block ?_)
    | (refine awp_scope ?_)
    | (refine cond_b (fun _h => ?_) (fun _h => ?_))
    | (show heapOK _ _ = true; kernel_rfl)
    | (show heapOK2 _ _ = true; kernel_rfl)
    | (omega)))
  (refine awp_adT 2 3 1 rfl ?_; simp only [adT, lset, hset, List.length_cons, List.length_nil, Nat.reduceAdd])
  refine awp_loopN t.reports.length (fun k => ⟨mkT 46 [(0, .ptr 0 0 0), (2, .osl 3 k 0 k), (3, .map 2), (13, .int .i64 t.reports.length), (14, .int .i64 k)], [some (.cells 115 1 0 (seG t 1 pl dy)), some (.map (kmC K)), some (.map (imC (slK pl k).1)), some (.cells 3 1 k (ints (slK pl k).2))], []⟩) (.le2 ?_) ?_
  · simp only [seG, slR, slC, slK]; simp (maxSteps := 4000000) only [go_sem, seval]
    all_goals first | rfl | exact ⟨rfl, rfl⟩ | trace_state
  · intro k hk
    have hL := slK_length (pl := pl) (k := k)
    rcases Nat.lt_or_eq_of_le hk with hk1 | hk1
    · have hp := fun x y z u K => se_pl (x := x) (y := y) (z := z) (u := u) (S := pl) (F := dy) (i := k) (K := K) (by omega)
      simp only [slK]
      generalize slK pl k = R at *
      obtain ⟨m, L⟩ := R
      simp only at hL ⊢
      obtain ⟨p, hpe⟩ : ∃ p, pl.getD k 0 = p := ⟨_, rfl⟩
      rw [hpe] at hp ⊢
      have hL2 : ∀ x : Int, (L ++ [x]).length = k + 1 := fun x => by simp; omega
      have hsnoc : ∀ x : Int, ints L ++ [.int .i64 x] = ints (L ++ [x]) := fun x => by simp [ints]
      cases hg : gmGet m p with
      | some n =>
        have hmg := fun z (f : AV → Bool → Prop) => show mgetK (imC m) (.int .i64 p) z f = f (.int .i64 n) true from mget_gs (eV := AV.int .i64) (z := z) (f := f) key_int hg
        simp only [seG, slR, slC]; simp (maxSteps := 4000000) only [go_sem, seval]
        (repeat' (first
    | ((show zeroOK _ = true; rfl))
    | ((omega))
    | ((exfalso; omega))
    | (refine awp_seqK ?_)
    | (refine kt ?_)
    | (refine And.intro ?_ ?_)
    | ((first | refine awp_region ?_ | refine awp_draw (by kernel_rfl) (by kernel_rfl) ?_ | refine Imp.le2 ?_ | refine awp_label ?_ | refine awp_skip ?_ | refine awp_exit ?_ | refine awp_cd ?_ | refine awp_ret ?_ | refine go_split (fun _h => ?_) (fun _h => ?_)) <;> try simp (maxSteps := 4000000) only [go_sem, seval, hp, hmg, hL, hL2, hsnoc])
    | (intro _h)
    | (refine awp_block ?_)
    | (refine awp_scope ?_)
    | (refine cond_b (fun _h => ?_) (fun _h => ?_))
    | (show heapOK _ _ = true; kernel_rfl)
    | (show heapOK2 _ _ = true; kernel_rfl)
    | (omega)))
        all_goals trace_state
      | none =>
        have hmg := fun z (f : AV → Bool → Prop) => show mgetK (imC m) (.int .i64 p) z f = f z false from mget_gn (eK := AV.int .i64) (eV := AV.int .i64) (z := z) (f := f) key_int hg
        have hmp := fun v (f : List (AV × AV) → Prop) => show mupK (imC m) (.int .i64 p) (.int .i64 v) f = f (imC (gmPut m p v)) from mup_g (eV := AV.int .i64) (m := m) (k := p) (v := v) (f := f) key_int
        simp only [seG, slR, slC]; simp (maxSteps := 4000000) only [go_sem, seval]
        (repeat' (first
    | ((show zeroOK _ = true; rfl))
    | ((omega))
    | ((exfalso; omega))
    | (refine awp_seqK ?_)
    | (refine kt ?_)
    | (refine And.intro ?_ ?_)
    | ((first | refine awp_region ?_ | refine awp_draw (by kernel_rfl) (by kernel_rfl) ?_ | refine Imp.le2 ?_ | refine awp_label ?_ | refine awp_skip ?_ | refine awp_exit ?_ | refine awp_cd ?_ | refine awp_ret ?_ | refine go_split (fun _h => ?_) (fun _h => ?_)) <;> try simp (maxSteps := 4000000) only [go_sem, seval, hp, hmg, hmp, hL, hL2, hsnoc])
    | (intro _h)
    | (refine awp_block ?_)
    | (refine awp_scope ?_)
    | (refine cond_b (fun _h => ?_) (fun _h => ?_))
    | (show heapOK _ _ = true; kernel_rfl)
    | (show heapOK2 _ _ = true; kernel_rfl)
    | (omega)))
        all_goals trace_state
    · subst hk1
      generalize slK pl t.reports.length = R at *
      simp only [seG, slR, slC]; simp (maxSteps := 4000000) only [go_sem, seval]
      (repeat' (first
    | ((omega))
    | ((exfalso; omega))
    | ((refine awp_frzC (c := .region 11 _ _) 3 rfl (by simp (maxSteps := 4000000) only [go_sem, seval]) [some (.cells 115 1 0 (.psl false t.reports.length (recs rptC t.reports) :: .psl false t.claims.length (recs clmC t.claims) :: .int .i64 t.rest :: .map 1 :: (ints pl ++ ints dy))), some (.map (kmC K))] rfl rfl rfl ?_; simp only [frz, fq_pure, fzB_c, fzB_km, fzB_im, fzO, fzH, fzHs, fzl, fz2, fz1, fz0, List.map_cons, List.map_nil, if_true, if_false, reduceIte, Nat.reduceEqDiff, Nat.reduceAdd, Nat.succ_ne_self, Nat.zero_ne_one, Nat.one_ne_zero, reduceCtorEq, and_self]))
    | (refine awp_seqK ?_)
    | (refine kt ?_)
    | (refine And.intro ?_ ?_)
    | ((first | refine awp_region ?_ | refine awp_draw (by kernel_rfl) (by kernel_rfl) ?_ | refine Imp.le2 ?_ | refine awp_label ?_ | refine awp_skip ?_ | refine awp_exit ?_ | refine awp_cd ?_ | refine awp_ret ?_ | refine go_split (fun _h => ?_) (fun _h => ?_)) <;> try simp (maxSteps := 4000000) only [go_sem, seval, hL])
    | (intro _h)
    | (refine awp_block ?_)
    | (refine awp_scope ?_)
    | (refine cond_b (fun _h => ?_) (fun _h => ?_))
    | (show heapOK _ _ = true; kernel_rfl)
    | (show heapOK2 _ _ = true; kernel_rfl)
    | (omega)))
      all_goals trace_state
end Go.Am

/- Contracts of the annals functions: the visitor of Ways. -/
namespace Go.Am
open Go.RowKit Go.Proofs
attribute [local irreducible] AWP CallS Kt goK CallK stepK evOps SemF SemY Imp
set_option maxRecDepth 4000
set_option linter.unusedSimpArgs false
set_option linter.unusedVariables false
set_option maxHeartbeats 1600000

/-- The ways that were found, and whether each one was found or came behind all that were found before. -/
def waI (l : List (List Int)) (s : List Int) : List (List Int) := if bsF l s = true then l else l.take (bsN l s) ++ s :: l.drop (bsN l s)
def waB (l : List (List Int)) (s : List Int) : Bool := decide (l.length ≤ 100) && (bsF l s || decide (bsN l s = l.length))
def waS (t : Ann) (v : List (List Int) × Bool) (pl dy : List Int) : (List (List Int) × Bool) × Bool :=
  ((waI v.1 (slN t pl), v.2 && waB v.1 (slN t pl)), decide ((waI v.1 (slN t pl)).length ≤ 100))
def waF (v : List (List Int) × Bool) : Bool := v.2
def WaOK (v : List (List Int) × Bool) : Prop := ∀ s ∈ v.1, s.length ≤ 7
theorem waS_fin (t : Ann) : ∀ (v : List (List Int) × Bool) (pl dy : List Int), waF (waS t v pl dy).1 = true → waF v = true := by
  intro v pl dy h
  simp only [waF, waS, Bool.and_eq_true] at h ⊢
  exact h.1
theorem wa_ok (t : Ann) (ht : AnnOK t) : ∀ (v : List (List Int) × Bool) (pl dy : List Int), WaOK v → PDOK pl dy → WaOK (waS t v pl dy).1 := by
  rintro ⟨l, f⟩ pl dy hv hd s hs
  have hr := ht.reports
  simp only [waS, waI] at hs
  split at hs
  · exact hv s hs
  · rcases List.mem_append.1 hs with h | h
    · exact hv s (List.mem_of_mem_take h)
    · rcases List.mem_cons.1 h with h | h
      · rw [h]
        show (slK pl t.reports.length).2.length ≤ 7
        rw [slK_length]; omega
      · exact hv s (List.mem_of_mem_drop h)
theorem wa_c (t : Ann) (v : List (List Int) × Bool) (pl dy : List Int) (K : List (Key × Bool)) (ht : AnnOK t) (hv : WaOK v) (hd : PDOK pl dy) (hfin : waF (waS t v pl dy).1 = true) :
    SemF Try.prog 52 [.ptr 2 0 0, .ptr 0 0 0] [some (.cells 28 1 0 [.osl 1 v.1.length 0 v.1.length]), some (.cells 59 1 v.1.length (rowsC v.1)), some (.cells 115 1 0 (seG t 3 pl dy)), some (.map (kmC K))] (.bool (waS t v pl dy).2)
      [some (.cells 28 1 0 [.osl 1 (waS t v pl dy).1.1.length 0 (waS t v pl dy).1.1.length]), some (.cells 59 1 (waS t v pl dy).1.1.length (rowsC (waS t v pl dy).1.1)), some (.cells 115 1 0 (seG t 3 pl dy)), some (.map (kmC K))] := by
  have hr := ht.reports
  have hsl := slides_c t pl dy K ht hd
  have hsn : (slN t pl).length ≤ 7 := by
    show (slK pl t.reports.length).2.length ≤ 7
    rw [slK_length]; omega
  obtain ⟨l, fl⟩ := v
  simp only [waF, waS, waB, Bool.and_eq_true, decide_eq_true_eq, Bool.or_eq_true] at hfin ⊢
  obtain ⟨_, hl, hat⟩ := hfin
  generalize slN t pl = s at *
  have hlr : ∀ i, (l.getD i []).length ≤ 1000000 := fun i => by
    rw [List.getD_eq_getElem?_getD]
    rcases Nat.lt_or_ge i l.length with h | h
    · rw [List.getElem?_eq_getElem h]
      have := hv l[i] (List.getElem_mem h)
      simp only [Option.getD_some]; omega
    · rw [List.getElem?_eq_none h]; simp
  have hbs := bs_c l s l.length (by omega) (by omega) hlr
  have hins := fun f => ins_c l s f (by omega)
  unfold waI
  simp only [sli] at hsl hbs hins
  cases hb : bsF l s with
  | true =>
    rw [hb] at hbs
    generalize bsN l s = at0 at *
    simp only [if_true, seG, slR, slC] at hsl ⊢
    (refine semF_of_awp (ys := [.bool (decide (l.length ≤ 100))]) (fun w args => Try.call52 ..) Try.func52 rfl (fun w0 m0 wz => ?_); simp only [Try.ntmps52, Try.results52, initT, junks, rptC, clmC, slR, slC, annC, sl, List.toList_toArray, List.cons_append, List.nil_append, List.length_cons, List.length_nil, Nat.reduceAdd, Nat.reduceSub])
    (repeat' (first
    | (refine awp_ownN 1 rfl ?_; simp (maxSteps := 4000000) only [go_sem, seval, List.take_succ_cons, List.take_zero]; (repeat refine And.intro (by omega) ?_); refine own_go (hsl) [2, 3] rfl ?_ ?_ ?_ ?_ <;> try simp (maxSteps := 4000000) only [go_sem, seval, Nat.lt_irrefl] <;> try decide)
    | (refine awp_ownN 2 rfl ?_; simp (maxSteps := 4000000) only [go_sem, seval, List.take_succ_cons, List.take_zero]; (repeat refine And.intro (by omega) ?_); refine own_go (hbs) [1] rfl ?_ ?_ ?_ ?_ <;> try simp (maxSteps := 4000000) only [go_sem, seval, Nat.lt_irrefl] <;> try decide)
    | (refine awp_ownN 4 rfl ?_; simp (maxSteps := 4000000) only [go_sem, seval, List.take_succ_cons, List.take_zero]; (repeat refine And.intro (by omega) ?_); refine own_go (hins true) [1] rfl ?_ ?_ ?_ ?_ <;> try simp (maxSteps := 4000000) only [go_sem, seval, Nat.lt_irrefl] <;> try decide)
    | ((omega))
    | ((exfalso; omega))
    | (refine awp_seqK ?_)
    | (refine kt ?_)
    | (refine And.intro ?_ ?_)
    | ((first | refine awp_region ?_ | refine awp_draw (by kernel_rfl) (by kernel_rfl) ?_ | refine Imp.le2 ?_ | refine awp_label ?_ | refine awp_skip ?_ | refine awp_exit ?_ | refine awp_cd ?_ | refine awp_ret ?_ | refine go_split (fun _h => ?_) (fun _h => ?_)) <;> try simp (maxSteps := 4000000) only [go_sem, seval])
    | (intro _h)
    | (refine awp_block ?_)
    | (refine awp_scope ?_)
    | (refine cond_b (fun _h => ?_) (fun _h => ?_))
    | (show heapOK _ _ = true; kernel_rfl)
    | (show heapOK2 _ _ = true; kernel_rfl)
    | (omega)))
    all_goals first | exact (decide_eq_true (by omega)).symm | exact (decide_eq_false (by omega)).symm | trace_state
  | false =>
    rw [hb] at hbs hat
    have hat : bsN l s = l.length := by simpa using hat
    rw [hat] at hbs ⊢
    have e1 : l.take l.length ++ s :: l.drop l.length = l ++ [s] := by simp
    simp only [Bool.false_eq_true, if_false, e1]
    have e2 : (l ++ [s]).length = l.length + 1 := by simp
    rw [e2]
    simp only [seG, slR, slC] at hsl ⊢
    (refine semF_of_awp (ys := [.bool (decide (l.length + 1 ≤ 100))]) (fun w args => Try.call52 ..) Try.func52 rfl (fun w0 m0 wz => ?_); simp only [Try.ntmps52, Try.results52, initT, junks, rptC, clmC, slR, slC, annC, sl, List.toList_toArray, List.cons_append, List.nil_append, List.length_cons, List.length_nil, Nat.reduceAdd, Nat.reduceSub])
    (repeat' (first
    | (refine awp_ownN 1 rfl ?_; simp (maxSteps := 4000000) only [go_sem, seval, List.take_succ_cons, List.take_zero, e2]; (repeat refine And.intro (by omega) ?_); refine own_go (hsl) [2, 3] rfl ?_ ?_ ?_ ?_ <;> try simp (maxSteps := 4000000) only [go_sem, seval, Nat.lt_irrefl, e2] <;> try decide)
    | (refine awp_ownN 2 rfl ?_; simp (maxSteps := 4000000) only [go_sem, seval, List.take_succ_cons, List.take_zero, e2]; (repeat refine And.intro (by omega) ?_); refine own_go (hbs) [1] rfl ?_ ?_ ?_ ?_ <;> try simp (maxSteps := 4000000) only [go_sem, seval, Nat.lt_irrefl, e2] <;> try decide)
    | (refine awp_ownN 4 rfl ?_; simp (maxSteps := 4000000) only [go_sem, seval, List.take_succ_cons, List.take_zero, e2]; (repeat refine And.intro (by omega) ?_); refine own_go (hins true) [1] rfl ?_ ?_ ?_ ?_ <;> try simp (maxSteps := 4000000) only [go_sem, seval, Nat.lt_irrefl, e2] <;> try decide)
    | ((omega))
    | ((exfalso; omega))
    | (refine awp_seqK ?_)
    | (refine kt ?_)
    | (refine And.intro ?_ ?_)
    | ((first | refine awp_region ?_ | refine awp_draw (by kernel_rfl) (by kernel_rfl) ?_ | refine Imp.le2 ?_ | refine awp_label ?_ | refine awp_skip ?_ | refine awp_exit ?_ | refine awp_cd ?_ | refine awp_ret ?_ | refine go_split (fun _h => ?_) (fun _h => ?_)) <;> try simp (maxSteps := 4000000) only [go_sem, seval, e2])
    | (intro _h)
    | (refine awp_block ?_)
    | (refine awp_scope ?_)
    | (refine cond_b (fun _h => ?_) (fun _h => ?_))
    | (show heapOK _ _ = true; kernel_rfl)
    | (show heapOK2 _ _ = true; kernel_rfl)
    | (omega)))
    all_goals first | exact (decide_eq_true (by omega)).symm | exact (decide_eq_false (by omega)).symm | trace_state
end Go.Am

/- Contracts of the annals functions: all orders of slides, with a visitor (printed by gtue.py). -/
namespace Go.Am
open Go.RowKit Go.Proofs
attribute [local irreducible] AWP CallS Kt goK CallK stepK evOps SemF SemY Imp
set_option maxRecDepth 4000
set_option linter.unusedSimpArgs false
set_option linter.unusedVariables false
set_option maxHeartbeats 6400000

def heW (t : Ann)  (a : EA (List (List Int) × Bool)) : List (Option ABlk) :=
  [some (.cells 28 1 0 [.osl 1 a.v.1.length 0 a.v.1.length]), some (.cells 59 1 a.v.1.length (rowsC a.v.1))] ++ [some (.cells 35 1 0 (annC t)), some (.cells 105 1 0 [.fn (.func 52) [] [.ptr 0 0 0]]), some (.map (kmC a.K)), some (.cells 115 1 0 (seG t 4 a.pl a.dy)), some (.cells 99 1 0 [.ptr 5 0 0]), some (.cells 131 1 0 [.fn (.func 85) [.ptr 5 0 0] []]), some (.cells 132 1 0 [.fn (.func 86) [] [.ptr 3 0 0, .ptr 6 0 0, .ptr 2 0 0, .ptr 7 0 0, .ptr 8 0 0]])]
def ehW (t : Ann)  (s : Ste) (place : Int) (fd : Bool) (a : EA (List (List Int) × Bool)) : List (Option ABlk) :=
  heW t  a ++ [some (.cells 136 1 0 (stC s)), some (.cells 3 1 0 [.int .i64 place]), some (.cells 4 1 0 [.bool fd]), some (.cells 4 1 0 [.bool false]), some (.cells 35 1 0 (annC t)), some (.cells 136 1 0 (stC s))]
def etW : List AV := mkT 88 [(2, .ptr 3 0 0), (3, .ptr 6 0 0), (4, .ptr 2 0 0), (5, .ptr 7 0 0), (6, .ptr 8 0 0), (7, .ptr 9 0 0), (8, .ptr 10 0 0), (9, .ptr 11 0 0), (10, .ptr 12 0 0), (31, .fn (.func 107) [] [.ptr 14 0 0, .ptr 13 0 0])]
theorem eachW_c (t : Ann)  (ht : AnnOK t)  : ∀ (f : Nat) (s : Ste) (place : Int) (a : EA (List (List Int) × Bool)), SteOK t s → s.rest < f → 0 ≤ place → place + s.rest ≤ 1000 → EAOK WaOK a → waF (eachM t (waS t) f s place a).2.v = true →
    SemF Try.prog 86 [.agg (stC s), .int .i64 place, .ptr 3 0 0, .ptr 6 0 0, .ptr 2 0 0, .ptr 7 0 0, .ptr 8 0 0] (heW t  a) (.tup [.bool (eachM t (waS t) f s place a).1.1, .bool (eachM t (waS t) f s place a).1.2]) (heW t  (eachM t (waS t) f s place a).2) := by
  intro f
  induction f with
  | zero => intro s place a _ h; omega
  | succ f ih =>
    intro s place a hs hf hp0 hp ha hfin
    have hok := eachM_ok (step := (waS t)) ht (wa_ok t ht) (f + 1) s place a hs hp0 hp ha
    have hr := ht.reports
    by_cases h0 : s.rest = 0
    · have e : eachM t (waS t) (f + 1) s place a = ((true, ((waS t) a.v a.pl a.dy).2), { a with v := ((waS t) a.v a.pl a.dy).1 }) := by simp only [eachM]; rw [if_pos h0]
      rw [e]
      rw [e] at hfin
      have hv := wa_c t  a.v a.pl a.dy a.K ht  ha.1 ha.2 hfin
      have e0 : ((s.rest : Int) = 0) = True := eq_true (by omega)
      generalize (waS t) a.v a.pl a.dy = R at *
      obtain ⟨v2, more⟩ := R
      simp only [heW, seG, stC, annC, slR, slC, List.cons_append, List.nil_append] at hv ⊢
      (refine semF_of_awp (ys := [.bool true, .bool more]) (fun w args => Try.call86 ..) Try.func86 rfl (fun w0 m0 wz => ?_); simp only [Try.ntmps86, Try.results86, initT, junks, rptC, clmC, slR, slC, annC, sl, List.toList_toArray, List.cons_append, List.nil_append, List.length_cons, List.length_nil, Nat.reduceAdd, Nat.reduceSub])
      (repeat' (first
    | (refine awp_ownN 2 rfl ?_; simp (maxSteps := 4000000) only [go_sem, seval, List.take_succ_cons, List.take_zero, e0, decide_true]; (repeat refine And.intro (by omega) ?_); refine own_go (hv) [0, 1, 5, 4] rfl ?_ ?_ rfl ?_ <;> try simp (maxSteps := 4000000) only [go_sem, seval, Nat.lt_irrefl, e0, decide_true] <;> try decide)
    | (refine awp_seqK ?_)
    | (refine kt ?_)
    | (refine And.intro ?_ ?_)
    | ((first | refine awp_region ?_ | refine awp_draw (by kernel_rfl) (by kernel_rfl) ?_ | refine Imp.le2 ?_ | refine awp_label ?_ | refine awp_skip ?_ | refine awp_exit ?_ | refine awp_cd ?_ | refine awp_ret ?_ | refine go_split (fun _h => ?_) (fun _h => ?_)) <;> try simp (maxSteps := 4000000) only [go_sem, seval, e0, decide_true])
    | (intro _h)
    | (refine awp_block ?_)
    | (refine awp_scope ?_)
    | (refine cond_b (fun _h => ?_) (fun _h => ?_))
    | (show heapOK _ _ = true; kernel_rfl)
    | (show heapOK2 _ _ = true; kernel_rfl)
    | (omega)))
      all_goals trace_state
    · have e0 : ((s.rest : Int) = 0) = False := eq_false (by omega)
      have h256 : s.rest < 256 := Nat.lt_of_lt_of_le hs.rest (show 2 ^ t.reports.length ≤ 2 ^ 8 from Nat.pow_le_pow_right (by omega) (by omega))
      have hst := stt_win hs.sl hs.fl
      have hsn := stt_len hs.sl hs.fl
      have hks : getS a.K s = gmGet a.K ⟨s, hs.sl, hs.fl⟩ := by unfold getS; rw [dif_pos ⟨hs.sl, hs.fl⟩]
      by_cases hlost : getS a.K s = some true
      · have e : eachM t (waS t) (f + 1) s place a = ((false, true), a) := by simp only [eachM]; rw [if_neg h0, if_pos hlost]
        rw [e]
        have hmg := fun z (f : AV → Bool → Prop) => mget_ks (z := z) (f := f) (hks ▸ hlost)
        simp only [keyV, stC] at hmg
        have hkey := fun (a d : Int) => keyS (a := a) (d := d) hs.sl hs.fl
        simp only [heW, seG, stC, annC, slR, slC, List.cons_append, List.nil_append]
        (refine semF_of_awp (ys := [.bool false, .bool true]) (fun w args => Try.call86 ..) Try.func86 rfl (fun w0 m0 wz => ?_); simp only [Try.ntmps86, Try.results86, initT, junks, rptC, clmC, slR, slC, annC, sl, List.toList_toArray, List.cons_append, List.nil_append, List.length_cons, List.length_nil, Nat.reduceAdd, Nat.reduceSub])
        (repeat' (first
    | ((show zeroOK _ = true; rfl))
    | ((exact hkey _ _))
    | ((exact absurd ‹true = false› (by simp)))
    | (refine awp_seqK ?_)
    | (refine kt ?_)
    | (refine And.intro ?_ ?_)
    | ((first | refine awp_region ?_ | refine awp_draw3 (by kernel_rfl) (by kernel_rfl) ?_ | refine Imp.le2 ?_ | refine awp_label ?_ | refine awp_skip ?_ | refine awp_exit ?_ | refine awp_cd ?_ | refine awp_ret ?_ | refine go_split (fun _h => ?_) (fun _h => ?_)) <;> try simp (maxSteps := 4000000) only [go_sem, seval, e0, decide_false, hmg, hst, hsn])
    | (intro _h)
    | (refine awp_block ?_)
    | (refine awp_scope ?_)
    | (refine cond_b (fun _h => ?_) (fun _h => ?_))
    | (show heapOK3 _ _ _ = true; kernel_rfl)
    | (show heapOK _ _ = true; kernel_rfl)
    | (show heapOK2 _ _ = true; kernel_rfl)
    | (omega)))
        all_goals (exact absurd _h (by simp))
      · obtain ⟨b, hmg⟩ : ∃ b : Bool, ∀ (f : AV → Bool → Prop), mgetK (kmC a.K) (keyV ⟨s, hs.sl, hs.fl⟩) (.bool false) f = f (.bool false) b := by
          rw [hks] at hlost
          cases hg : gmGet a.K ⟨s, hs.sl, hs.fl⟩ with
          | none => exact ⟨false, fun f => mget_kn hg⟩
          | some b =>
            cases b with
            | true => exact absurd hg hlost
            | false => exact ⟨true, fun f => mget_ks hg⟩
        have hnx := next_c t s
        have hkey := fun (a d : Int) => keyS (a := a) (d := d) hs.sl hs.fl
        have e : eachM t (waS t) (f + 1) s place a = endM s (goE (oneM t (eachM t (waS t) f) s place) (candN t s.rest s.rest) false a) := by simp only [eachM]; rw [if_neg h0, if_neg hlost]
        rw [e] at hok hfin ⊢
        obtain ⟨⟨⟨fE, mE⟩, aE⟩, hE⟩ : ∃ r, goE (oneM t (eachM t (waS t) f) s place) (candN t s.rest s.rest) false a = r := ⟨_, rfl⟩
        rw [hE] at hok hfin ⊢
        rw [endM_v] at hfin
        replace hfin : waF aE.v = true := hfin
        simp only [keyV, stC] at hmg
        have hpE : PDOK aE.pl aE.dy := by
          unfold endM at hok
          split at hok
          · exact hok.2
          · exact hok.2
        clear e hok
        obtain ⟨st, pend, ex, hcase⟩ : ∃ (st : LoopState) (pend : Option Code) (ex : Exit), (mE = true ∧ st = .ready ∧ pend = none ∧ ex = .normal) ∨ (mE = false ∧ st = .done ∧ pend = some .ret ∧ ex = .ret) := by
          cases mE
          · exact ⟨.done, some .ret, .ret, .inr ⟨rfl, rfl, rfl, rfl⟩⟩
          · exact ⟨.ready, none, .normal, .inl ⟨rfl, rfl, rfl, rfl⟩⟩
        have e1 : (endM s ((fE, mE), aE)).1.1 = fE := by unfold endM; cases mE <;> rfl
        have e2 : (endM s ((fE, mE), aE)).1.2 = mE := by unfold endM; cases mE <;> rfl
        rw [e1, e2]
        simp only [heW, seG, stC, annC, slR, slC, List.cons_append, List.nil_append] at hnx ⊢
        (refine semF_of_awp (ys := [.bool fE, .bool mE]) (fun w args => Try.call86 ..) Try.func86 rfl (fun w0 m0 wz => ?_); simp only [Try.ntmps86, Try.results86, initT, junks, rptC, clmC, slR, slC, annC, sl, List.toList_toArray, List.cons_append, List.nil_append, List.length_cons, List.length_nil, Nat.reduceAdd, Nat.reduceSub])
        (repeat' (first
    | ((show zeroOK _ = true; rfl))
    | ((exact hkey _ _))
    | (refine awp_ownN 2 rfl ?_; simp (maxSteps := 4000000) only [go_sem, seval, List.take_succ_cons, List.take_zero, e0, decide_false, hmg, hst, hsn]; (repeat refine And.intro (by omega) ?_); refine own_go (hnx) [] rfl ?_ ?_ ?_ ?_ <;> try simp (maxSteps := 4000000) only [go_sem, seval, Nat.lt_irrefl, e0, decide_false, hmg, hst, hsn] <;> try decide)
    | (refine awp_seqK ?_)
    | (refine kt ?_)
    | (refine And.intro ?_ ?_)
    | ((first | refine awp_region ?_ | refine awp_draw3 (by kernel_rfl) (by kernel_rfl) ?_ | refine Imp.le2 ?_ | refine awp_label ?_ | refine awp_skip ?_ | refine awp_exit ?_ | refine awp_cd ?_ | refine awp_ret ?_ | refine go_split (fun _h => ?_) (fun _h => ?_)) <;> try simp (maxSteps := 4000000) only [go_sem, seval, e0, decide_false, hmg, hst, hsn])
    | (intro _h)
    | (refine awp_block ?_)
    | (refine awp_scope ?_)
    | (refine cond_b (fun _h => ?_) (fun _h => ?_))
    | (show heapOK3 _ _ _ = true; kernel_rfl)
    | (show heapOK _ _ = true; kernel_rfl)
    | (show heapOK2 _ _ = true; kernel_rfl)
    | (omega)))
        try any_goals (exfalso; simp at _h; done)
        refine AWP.le2 (s' := ⟨etW, ehW t  s place false a, []⟩) (by simp only [etW, ehW, heW, seG, stC, annC, slR, slC, List.cons_append, List.nil_append]; simp (maxSteps := 4000000) only [go_sem, seval]) ?_
        refine awp_rangeZ (gf := 107) (first := []) (caps := [.ptr 14 0 0, .ptr 13 0 0]) (by simp only [etW]; simp (maxSteps := 4000000) only [go_sem, seval]) 15 rfl ?_
        intro ca cb hca hcb
        refine ⟨.tup [], ehW t  s place fE aE ++ [some (.dfr true), some (.loop st pend 0 etW #[32] ca cb 15)], st, pend, ex, ?_, ?_, ?_, ?_, ?_⟩
        · simp only [etW, ehW, heW, seG, stC, annC, slR, slC, List.cons_append, List.nil_append]; simp (maxSteps := 4000000) only [go_sem, seval]
          (refine semF_of_awp (ys := []) (fun w args => Try.call107 ..) Try.func107 rfl (fun w0 m0 wz => ?_); simp only [Try.ntmps107, Try.results107, initT, junks, rptC, clmC, slR, slC, annC, sl, List.toList_toArray, List.cons_append, List.nil_append, List.length_cons, List.length_nil, Nat.reduceAdd, Nat.reduceSub])
          (repeat' (first
    | (refine awp_seqK ?_)
    | (refine kt ?_)
    | (refine And.intro ?_ ?_)
    | ((first | refine awp_region ?_ | refine awp_draw (by kernel_rfl) (by kernel_rfl) ?_ | refine Imp.le2 ?_ | refine awp_label ?_ | refine awp_skip ?_ | refine awp_exit ?_ | refine awp_cd ?_ | refine awp_ret ?_ | refine go_split (fun _h => ?_) (fun _h => ?_)) <;> try simp (maxSteps := 4000000) only [go_sem, seval])
    | (intro _h)
    | (refine awp_block ?_)
    | (refine awp_scope ?_)
    | (refine cond_b (fun _h => ?_) (fun _h => ?_))
    | (show heapOK _ _ = true; kernel_rfl)
    | (show heapOK2 _ _ = true; kernel_rfl)
    | (omega)))
          refine awp_loopJ (fun x : Nat × Bool × EA (List (List Int) × Bool) => x.1 &&& s.rest = x.1 ∧ EAOK WaOK x.2.2 ∧ goE (oneM t (eachM t (waS t) f) s place) (candN t s.rest x.1) x.2.1 x.2.2 = ((fE, mE), aE))
            (fun x => ⟨mkT 54 [(0, .fn (.yield 16) [] []), (1, .ptr 14 0 0), (2, .ptr 13 0 0), (4, .int .u8 (x.1 : Nat))], ehW t  s place x.2.1 x.2.2 ++ [some (.dfr true), some (.loop .ready none 0 etW #[32] ca cb 15)], []⟩) (fun x => x.1) (s.rest, false, a) ⟨Nat.and_self _, ha, hE⟩ (.le2 ?_) ?_
          · simp only [etW, ehW, heW, seG, stC, annC, slR, slC, List.cons_append, List.nil_append]; simp (maxSteps := 4000000) only [go_sem, seval]
            try (first | rfl | exact ⟨rfl, rfl⟩)
          · rintro ⟨x, fd, a1⟩ ⟨hx, ha1, hF⟩
            simp only at hx ha1 hF
            by_cases hx0 : x = 0
            · subst hx0
              rw [candN_zero] at hF
              simp only [goE, Prod.mk.injEq] at hF
              obtain ⟨⟨h1, h2⟩, h3⟩ := hF
              subst h1 h2 h3
              rcases hcase with ⟨_, h2, h3, h4⟩ | ⟨h, _⟩
              · subst h2 h3 h4
                simp only [etW, ehW, heW, seG, stC, annC, slR, slC, List.cons_append, List.nil_append]; simp (maxSteps := 4000000) only [go_sem, seval]
                (repeat' (first
    | ((exfalso; omega))
    | (refine awp_seqK ?_)
    | (refine kt ?_)
    | (refine And.intro ?_ ?_)
    | ((first | refine awp_region ?_ | refine awp_draw (by kernel_rfl) (by kernel_rfl) ?_ | refine Imp.le2 ?_ | refine awp_label ?_ | refine awp_skip ?_ | refine awp_exit ?_ | refine awp_cd ?_ | refine awp_ret ?_ | refine go_split (fun _h => ?_) (fun _h => ?_)) <;> try simp (maxSteps := 4000000) only [go_sem, seval])
    | (intro _h)
    | (refine awp_block ?_)
    | (refine awp_scope ?_)
    | (refine cond_b (fun _h => ?_) (fun _h => ?_))
    | (show heapOK _ _ = true; kernel_rfl)
    | (show heapOK2 _ _ = true; kernel_rfl)
    | (omega)))
                all_goals trace_state
              · exact absurd h (by simp)
            · rw [candN_step hx0] at hF
              have hxr : x ≤ s.rest := by
                have : x &&& s.rest ≤ s.rest := Nat.and_le_right
                rw [hx] at this; exact this
              have hxn : x < 2 ^ t.reports.length := by have := hs.rest; omega
              have hx8 : x < 256 := by omega
              have htz := tz_in hx0 hxn hr.2
              have htc := tz_c x hx8
              have hso : (t.reports.getD (tz x) default).slope = slopeO t x := rfl
              have e5 : IntKind.u8.wrap ((x : Int) - 1) = ((x - 1 : Nat) : Int) := sub_nat hx8 hx0
              have e6 : u8and ((x - 1 : Nat) : Int) (s.rest : Nat) = (((x - 1) &&& s.rest : Nat) : Int) := u8and_nat (by omega) h256
              have hax : (x - 1) &&& s.rest ≤ x - 1 := Nat.and_le_left
              have hxx : ((x - 1) &&& s.rest) &&& s.rest = (x - 1) &&& s.rest := by rw [Nat.and_assoc, Nat.and_self]
              simp only [etW, ehW, heW, seG, stC, annC, slR, slC, List.cons_append, List.nil_append]; simp (maxSteps := 4000000) only [go_sem, seval]
              (repeat' (first
    | ((exfalso; omega))
    | ((omega))
    | (refine awp_seqK ?_)
    | (refine kt ?_)
    | (refine And.intro ?_ ?_)
    | ((first | refine awp_region ?_ | refine awp_draw (by kernel_rfl) (by kernel_rfl) ?_ | refine Imp.le2 ?_ | refine awp_label ?_ | refine awp_skip ?_ | refine awp_exit ?_ | refine awp_cd ?_ | refine awp_ret ?_ | refine callK_of (htc) ?_ | refine go_split (fun _h => ?_) (fun _h => ?_)) <;> try simp (maxSteps := 4000000) only [go_sem, seval, hso])
    | (intro _h)
    | (refine awp_block ?_)
    | (refine awp_scope ?_)
    | (refine cond_b (fun _h => ?_) (fun _h => ?_))
    | (show heapOK _ _ = true; kernel_rfl)
    | (show heapOK2 _ _ = true; kernel_rfl)
    | (omega)))
              refine awp_loopN t.reports.length (fun i => ⟨mkT 54 [(0, .fn (.yield 16) [] []), (1, .ptr 14 0 0), (2, .ptr 13 0 0), (4, .int .u8 (x : Nat)), (5, .int .i64 (slopeO t x)), (6, .bool (sameK t x i)), (26, slR t.reports), (27, .int .i64 t.reports.length), (28, .int .i64 i)], ehW t  s place fd a1 ++ [some (.dfr true), some (.loop .ready none 0 etW #[32] ca cb 15)], []⟩) (.le2 ?_) ?_
              · simp only [etW, ehW, heW, seG, stC, annC, slR, slC, List.cons_append, List.nil_append, sameK]; simp (maxSteps := 4000000) only [go_sem, seval]
                try (first | rfl | exact ⟨rfl, rfl⟩)
              · intro i hi
                rcases Nat.lt_or_eq_of_le hi with hi1 | hi1
                · have hin := inS_c x i hx8 (by omega)
                  obtain ⟨q, hq⟩ : ∃ q, sameK t x i = q := ⟨_, rfl⟩
                  obtain ⟨b, hb⟩ : ∃ b, x.testBit i = b := ⟨_, rfl⟩
                  obtain ⟨z, hz⟩ : ∃ z, slopeO t x = z := ⟨_, rfl⟩
                  have hss : sameK t x (i + 1) = (q && (!b || decide ((t.reports.getD i default).slope = z))) := by simp only [sameK, hq, hb, hz]
                  rw [hss, hq, hz]
                  rw [hb] at hin
                  clear hss hq hz hb hF
                  cases q
                  · simp only [etW, ehW, heW, seG, stC, annC, slR, slC, List.cons_append, List.nil_append, Bool.false_and]; simp (maxSteps := 4000000) only [go_sem, seval]
                    (repeat' (first
    | ((exfalso; omega))
    | ((omega))
    | (refine awp_seqK ?_)
    | (refine kt ?_)
    | (refine And.intro ?_ ?_)
    | ((first | refine awp_region ?_ | refine awp_draw (by kernel_rfl) (by kernel_rfl) ?_ | refine Imp.le2 ?_ | refine awp_label ?_ | refine awp_skip ?_ | refine awp_exit ?_ | refine awp_cd ?_ | refine awp_ret ?_ | refine go_split (fun _h => ?_) (fun _h => ?_)) <;> try simp (maxSteps := 4000000) only [go_sem, seval])
    | (intro _h)
    | (refine awp_block ?_)
    | (refine awp_scope ?_)
    | (refine cond_b (fun _h => ?_) (fun _h => ?_))
    | (show heapOK _ _ = true; kernel_rfl)
    | (show heapOK2 _ _ = true; kernel_rfl)
    | (omega)))
                    all_goals trace_state
                  · cases b
                    · simp only [etW, ehW, heW, seG, stC, annC, slR, slC, List.cons_append, List.nil_append, Bool.not_false, Bool.true_or, Bool.true_and]; simp (maxSteps := 4000000) only [go_sem, seval]
                      (repeat' (first
    | ((exfalso; omega))
    | ((omega))
    | (refine awp_seqK ?_)
    | (refine kt ?_)
    | (refine And.intro ?_ ?_)
    | ((first | refine awp_region ?_ | refine awp_draw (by kernel_rfl) (by kernel_rfl) ?_ | refine Imp.le2 ?_ | refine awp_label ?_ | refine awp_skip ?_ | refine awp_exit ?_ | refine awp_cd ?_ | refine awp_ret ?_ | refine callK_of (hin) ?_ | refine go_split (fun _h => ?_) (fun _h => ?_)) <;> try simp (maxSteps := 4000000) only [go_sem, seval])
    | (intro _h)
    | (refine awp_block ?_)
    | (refine awp_scope ?_)
    | (refine cond_b (fun _h => ?_) (fun _h => ?_))
    | (show heapOK _ _ = true; kernel_rfl)
    | (show heapOK2 _ _ = true; kernel_rfl)
    | (omega)))
                      all_goals trace_state
                    · by_cases hsl : (t.reports.getD i default).slope = z
                      · simp only [etW, ehW, heW, seG, stC, annC, slR, slC, List.cons_append, List.nil_append, Bool.not_true, Bool.false_or, Bool.true_and, hsl, decide_true]; simp (maxSteps := 4000000) only [go_sem, seval]
                        (repeat' (first
    | ((exfalso; omega))
    | ((omega))
    | (refine awp_seqK ?_)
    | (refine kt ?_)
    | (refine And.intro ?_ ?_)
    | ((first | refine awp_region ?_ | refine awp_draw (by kernel_rfl) (by kernel_rfl) ?_ | refine Imp.le2 ?_ | refine awp_label ?_ | refine awp_skip ?_ | refine awp_exit ?_ | refine awp_cd ?_ | refine awp_ret ?_ | refine callK_of (hin) ?_ | refine go_split (fun _h => ?_) (fun _h => ?_)) <;> try simp (maxSteps := 4000000) only [go_sem, seval, hsl, decide_true])
    | (intro _h)
    | (refine awp_block ?_)
    | (refine awp_scope ?_)
    | (refine cond_b (fun _h => ?_) (fun _h => ?_))
    | (show heapOK _ _ = true; kernel_rfl)
    | (show heapOK2 _ _ = true; kernel_rfl)
    | (omega)))
                        all_goals trace_state
                      · simp only [etW, ehW, heW, seG, stC, annC, slR, slC, List.cons_append, List.nil_append, Bool.not_true, Bool.false_or, Bool.true_and, hsl, decide_false]; simp (maxSteps := 4000000) only [go_sem, seval]
                        (repeat' (first
    | ((exfalso; omega))
    | ((omega))
    | (refine awp_seqK ?_)
    | (refine kt ?_)
    | (refine And.intro ?_ ?_)
    | ((first | refine awp_region ?_ | refine awp_draw (by kernel_rfl) (by kernel_rfl) ?_ | refine Imp.le2 ?_ | refine awp_label ?_ | refine awp_skip ?_ | refine awp_exit ?_ | refine awp_cd ?_ | refine awp_ret ?_ | refine callK_of (hin) ?_ | refine go_split (fun _h => ?_) (fun _h => ?_)) <;> try simp (maxSteps := 4000000) only [go_sem, seval, hsl, decide_false])
    | (intro _h)
    | (refine awp_block ?_)
    | (refine awp_scope ?_)
    | (refine cond_b (fun _h => ?_) (fun _h => ?_))
    | (show heapOK _ _ = true; kernel_rfl)
    | (show heapOK2 _ _ = true; kernel_rfl)
    | (omega)))
                        all_goals trace_state
                · subst hi1
                  cases hG : sameK t x t.reports.length with
                  | false =>
                    rw [hG, if_neg (by simp)] at hF
                    simp only [etW, ehW, heW, seG, stC, annC, slR, slC, List.cons_append, List.nil_append]; simp (maxSteps := 4000000) only [go_sem, seval]
                    (repeat' (first
    | ((exfalso; omega))
    | ((omega))
    | (refine awp_seqK ?_)
    | (refine kt ?_)
    | (refine And.intro ?_ ?_)
    | ((first | refine awp_region ?_ | refine awp_draw (by kernel_rfl) (by kernel_rfl) ?_ | refine Imp.le2 ?_ | refine awp_label ?_ | refine awp_skip ?_ | refine awp_exit ?_ | refine awp_cd ?_ | refine awp_ret ?_ | refine go_split (fun _h => ?_) (fun _h => ?_)) <;> try simp (maxSteps := 4000000) only [go_sem, seval, e5, e6])
    | (intro _h)
    | (refine awp_block ?_)
    | (refine awp_scope ?_)
    | (refine cond_b (fun _h => ?_) (fun _h => ?_))
    | (show heapOK _ _ = true; kernel_rfl)
    | (show heapOK2 _ _ = true; kernel_rfl)
    | (omega)))
                    refine ⟨((x - 1) &&& s.rest, fd, a1), ⟨hxx, ha1, hF⟩, by simp only; omega, .le2 ?_⟩
                    simp only [etW, ehW, heW, seG, stC, annC, slR, slC, List.cons_append, List.nil_append]; simp (maxSteps := 4000000) only [go_sem, seval]
                    try (first | rfl | exact ⟨rfl, rfl⟩)
                  | true =>
                    rw [hG, if_pos rfl] at hF
                    simp only [goE] at hF
                    have hmay := may_c t s x a1.pl a1.dy a1.K ht hs hx0 hxn
                    obtain ⟨hl1, hl2⟩ := mayS_len ht hs hx0 hxn
                    have hst2 := stt_win hl1 hl2
                    have hsn2 := stt_len hl1 hl2
                    by_cases hm : (mayS t s x).2 = true
                    · obtain ⟨m1, m2, m3⟩ := mayS_ok ht hs hx0 hx hm
                      have h1 : oneM t (eachM t (waS t) f) s place x a1 = eachM t (waS t) f (mayS t s x).1 (place + 1) (putE t x place (mayS t s x).1.day a1) := by unfold oneM; rw [if_pos hm]
                      have hao : EAOK WaOK (putE t x place (mayS t s x).1.day a1) := ⟨ha1.1, ha1.2.put hr.2 ⟨hp0, by omega⟩ m3⟩
                      have hih := ih (mayS t s x).1 (place + 1) (putE t x place (mayS t s x).1.day a1) m1 (by omega) (by omega) (by omega) hao
                      have hok1 := eachM_ok (step := (waS t)) ht (wa_ok t ht) f (mayS t s x).1 (place + 1) (putE t x place (mayS t s x).1.day a1) m1 (by omega) (by omega) hao
                      have hq1 := ha1.2.lpl
                      have hq2 := ha1.2.ldy
                      rw [h1] at hF
                      rw [hm] at hmay
                      clear h1 hao m1 hG
                      generalize (mayS t s x).1 = to at *
                      obtain ⟨⟨⟨he1, mo⟩, a2⟩, hr2⟩ : ∃ r, eachM t (waS t) f to (place + 1) (putE t x place to.day a1) = r := ⟨_, rfl⟩
                      rw [hr2] at hih hF hok1
                      simp only [etW, ehW, heW, seG, stC, annC, slR, slC, List.cons_append, List.nil_append, seC] at hmay
                      simp only at hF hih hok1
                      have hF0 := hF
                      cases mo with
                      | true =>
                        rw [if_pos rfl] at hF
                        have hih := hih (goE_fin (fin := waF) (oneM_fin (t := t) (eachM_fin (t := t) (waS_fin t) f) s place) (show waF (goE (oneM t (eachM t (waS t) f) s place) (candN t s.rest ((x - 1) &&& s.rest)) (fd || he1) a2).2.v = true by rw [hF]; exact hfin))
                        simp only [etW, ehW, heW, seG, stC, annC, slR, slC, List.cons_append, List.nil_append]; simp (maxSteps := 4000000) only [go_sem, seval]
                        (repeat' (first
    | ((exfalso; omega))
    | ((omega))
    | ((refine awp_ownN (id := 10) 4 rfl ?_; simp (maxSteps := 4000000) only [go_sem, seval, List.take_succ_cons, List.take_zero]; refine callH_yield true (ehW t  s place (fd || he1) a2 ++ [some (.dfr true), some (.loop .ready none 0 etW #[32] ca cb 15)]) ?_ ?_ <;> simp only [etW, ehW, heW, seG, stC, annC, slR, slC, List.cons_append, List.nil_append] <;> (try simp (maxSteps := 4000000) only [go_sem, seval])))
    | (refine awp_seqK ?_)
    | (refine kt ?_)
    | (refine And.intro ?_ ?_)
    | ((first | refine awp_region ?_ | refine awp_draw (by kernel_rfl) (by kernel_rfl) ?_ | refine Imp.le2 ?_ | refine awp_label ?_ | refine awp_skip ?_ | refine awp_exit ?_ | refine awp_cd ?_ | refine awp_ret ?_ | refine go_split (fun _h => ?_) (fun _h => ?_)) <;> try simp (maxSteps := 4000000) only [go_sem, seval, e5, e6])
    | (intro _h)
    | (refine awp_block ?_)
    | (refine awp_scope ?_)
    | (refine cond_b (fun _h => ?_) (fun _h => ?_))
    | (show heapOK _ _ = true; kernel_rfl)
    | (show heapOK2 _ _ = true; kernel_rfl)
    | (omega)))
                        · refine semY_of_awpZ rfl rfl ?_
                          intro B w0 l m w
                          refine awp_code hca ?_
                          (repeat' (first
    | (refine awp_seqK ?_)
    | (refine kt ?_)
    | (refine And.intro ?_ ?_)
    | ((first | refine awp_region ?_ | refine awp_draw (by kernel_rfl) (by kernel_rfl) ?_ | refine Imp.le2 ?_ | refine awp_label ?_ | refine awp_skip ?_ | refine awp_exit ?_ | refine awp_cd ?_ | refine awp_ret ?_ | refine go_split (fun _h => ?_) (fun _h => ?_)) <;> try simp (maxSteps := 4000000) only [go_sem, seval])
    | (intro _h)
    | (refine awp_block ?_)
    | (refine awp_scope ?_)
    | (refine cond_b (fun _h => ?_) (fun _h => ?_))
    | (show heapOK _ _ = true; kernel_rfl)
    | (show heapOK2 _ _ = true; kernel_rfl)
    | (omega)))
                          refine awp_code hcb ?_
                          (repeat' (first
    | (refine awp_ownN 3 rfl ?_; simp (maxSteps := 4000000) only [go_sem, seval, List.take_succ_cons, List.take_zero, hst, hsn, hst2, hsn2]; (repeat refine And.intro (by omega) ?_); refine own_go (hmay) [5, 4] rfl ?_ ?_ ?_ ?_ <;> try simp (maxSteps := 4000000) only [go_sem, seval, Nat.lt_irrefl, hst, hsn, hst2, hsn2] <;> try decide)
    | (refine awp_seqK ?_)
    | (refine kt ?_)
    | (refine And.intro ?_ ?_)
    | ((first | refine awp_region ?_ | refine awp_draw (by kernel_rfl) (by kernel_rfl) ?_ | refine Imp.le2 ?_ | refine awp_label ?_ | refine awp_skip ?_ | refine awp_exit ?_ | refine awp_cd ?_ | refine awp_ret ?_ | refine go_split (fun _h => ?_) (fun _h => ?_)) <;> try simp (maxSteps := 4000000) only [go_sem, seval, hst, hsn, hst2, hsn2])
    | (intro _h)
    | (refine awp_block ?_)
    | (refine awp_scope ?_)
    | (refine cond_b (fun _h => ?_) (fun _h => ?_))
    | (show heapOK _ _ = true; kernel_rfl)
    | (show heapOK2 _ _ = true; kernel_rfl)
    | (omega)))
                          refine awp_loopN t.reports.length (fun j => ⟨mkT 88 [(2, .ptr 3 0 0), (3, .ptr 6 0 0), (4, .ptr 2 0 0), (5, .ptr 7 0 0), (6, .ptr 8 0 0), (7, .ptr 9 0 0), (8, .ptr 10 0 0), (9, .ptr 11 0 0), (10, .ptr 12 0 0), (11, .int .u8 (x : Nat)), (12, .ptr 17 0 0), (44, .int .i64 t.reports.length), (45, .int .i64 j)], ehW t  s place fd ⟨a1.v, wrM x place j a1.pl, wrM x to.day j a1.dy, a1.K⟩ ++ [some (.dfr true), some (.loop .busy none 0 etW #[32] ca cb 15), some (.cells 136 1 0 (stC to))], []⟩) (.le2 ?_) ?_
                          · simp only [etW, ehW, heW, seG, stC, annC, slR, slC, List.cons_append, List.nil_append, wrM]; simp (maxSteps := 4000000) only [go_sem, seval]
                            try (first | rfl | exact ⟨rfl, rfl⟩)
                          · intro j hj
                            have hS1 := wrM_length (now := x) (x := place) (l := a1.pl) (k := j) (by rw [hq1]; omega)
                            have hF1 := wrM_length (now := x) (x := to.day) (l := a1.dy) (k := j) (by rw [hq2]; omega)
                            rw [hq1] at hS1
                            rw [hq2] at hF1
                            rcases Nat.lt_or_eq_of_le hj with hj1 | hj1
                            · have hin := inS_c x j hx8 (by omega)
                              simp only [wrM]
                              generalize wrM x place j a1.pl = S1 at *
                              generalize wrM x to.day j a1.dy = F1 at *
                              have hss := fun x y z u v => ss_pl (x := x) (y := y) (z := z) (u := u) (S := S1) (F := F1) (i := j) (v := v) (by omega)
                              have hsd := fun x y z u v w => ss_dy (x := x) (y := y) (z := z) (u := u) (S := isp S1 j v) (F := F1) (i := j) (v := w) (by rw [isp_length (by omega)]; exact hS1) (by omega)
                              have hle1 := se_len hS1 hF1
                              have hle2 := fun v => se_len (S := isp S1 j v) (F := F1) (by rw [isp_length (by omega)]; exact hS1) hF1
                              generalize x.testBit j = b at *
                              cases b
                              · simp only [etW, ehW, heW, seG, stC, annC, slR, slC, List.cons_append, List.nil_append, Bool.false_eq_true, if_false]; simp (maxSteps := 4000000) only [go_sem, seval]
                                (repeat' (first
    | ((exfalso; omega))
    | ((omega))
    | (refine awp_seqK ?_)
    | (refine kt ?_)
    | (refine And.intro ?_ ?_)
    | ((first | refine awp_region ?_ | refine awp_draw (by kernel_rfl) (by kernel_rfl) ?_ | refine Imp.le2 ?_ | refine awp_label ?_ | refine awp_skip ?_ | refine awp_exit ?_ | refine awp_cd ?_ | refine awp_ret ?_ | refine callK_of (hin) ?_ | refine go_split (fun _h => ?_) (fun _h => ?_)) <;> try simp (maxSteps := 4000000) only [go_sem, seval])
    | (intro _h)
    | (refine awp_block ?_)
    | (refine awp_scope ?_)
    | (refine cond_b (fun _h => ?_) (fun _h => ?_))
    | (show heapOK _ _ = true; kernel_rfl)
    | (show heapOK2 _ _ = true; kernel_rfl)
    | (omega)))
                                all_goals trace_state
                              · simp only [etW, ehW, heW, seG, stC, annC, slR, slC, List.cons_append, List.nil_append, if_true]; simp (maxSteps := 4000000) only [go_sem, seval]
                                (repeat' (first
    | ((exfalso; omega))
    | ((omega))
    | (refine awp_seqK ?_)
    | (refine kt ?_)
    | (refine And.intro ?_ ?_)
    | ((first | refine awp_region ?_ | refine awp_draw3 (by kernel_rfl) (by kernel_rfl) ?_ | refine Imp.le2 ?_ | refine awp_label ?_ | refine awp_skip ?_ | refine awp_exit ?_ | refine awp_cd ?_ | refine awp_ret ?_ | refine callK_of (hin) ?_ | refine go_split (fun _h => ?_) (fun _h => ?_)) <;> try simp (maxSteps := 4000000) only [go_sem, seval, hss, hsd, hle1, hle2])
    | (intro _h)
    | (refine awp_block ?_)
    | (refine awp_scope ?_)
    | (refine cond_b (fun _h => ?_) (fun _h => ?_))
    | (show heapOK3 _ _ _ = true; kernel_rfl)
    | (show heapOK _ _ = true; kernel_rfl)
    | (show heapOK2 _ _ = true; kernel_rfl)
    | (omega)))
                                all_goals trace_state
                            · subst hj1
                              simp only [putE] at hih
                              generalize wrM x place t.reports.length a1.pl = S1 at *
                              generalize wrM x to.day t.reports.length a1.dy = F1 at *
                              clear hF hF0
                              cases fd
                              all_goals
                                simp only [etW, ehW, heW, seG, stC, annC, slR, slC, List.cons_append, List.nil_append, Bool.true_or, Bool.false_or] at hih ⊢
                                simp (maxSteps := 4000000) only [go_sem, seval]
                                (repeat' (first
    | (refine awp_ownN 4 rfl ?_; simp (maxSteps := 4000000) only [go_sem, seval, List.take_succ_cons, List.take_zero, hst2, hsn2]; (repeat refine And.intro (by omega) ?_); refine own_go (hih) [0, 1, 2, 3, 4, 5, 6, 7, 8] rfl ?_ ?_ ?_ ?_ <;> try simp (maxSteps := 4000000) only [go_sem, seval, Nat.lt_irrefl, hst2, hsn2] <;> try decide)
    | ((exfalso; omega))
    | ((omega))
    | (refine awp_seqK ?_)
    | (refine kt ?_)
    | (refine And.intro ?_ ?_)
    | ((first | refine awp_region ?_ | refine awp_draw (by kernel_rfl) (by kernel_rfl) ?_ | refine Imp.le2 ?_ | refine awp_label ?_ | refine awp_skip ?_ | refine awp_exit ?_ | refine awp_cd ?_ | refine awp_ret ?_ | refine go_split (fun _h => ?_) (fun _h => ?_)) <;> try simp (maxSteps := 4000000) only [go_sem, seval, hst2, hsn2])
    | (intro _h)
    | (refine awp_block ?_)
    | (refine awp_scope ?_)
    | (refine cond_b (fun _h => ?_) (fun _h => ?_))
    | (show heapOK _ _ = true; kernel_rfl)
    | (show heapOK2 _ _ = true; kernel_rfl)
    | (omega)))
                              all_goals first | (rw [_h]; done) | trace_state
                        · refine ⟨((x - 1) &&& s.rest, fd || he1, a2), ⟨hxx, hok1, hF⟩, by simp only; omega, .le2 ?_⟩
                          simp only [etW, ehW, heW, seG, stC, annC, slR, slC, List.cons_append, List.nil_append]; simp (maxSteps := 4000000) only [go_sem, seval]
                          try (first | rfl | exact ⟨rfl, rfl⟩)
                      | false =>
                        rw [if_neg (by simp)] at hF
                        simp only [Prod.mk.injEq] at hF
                        obtain ⟨⟨g1, g2⟩, g3⟩ := hF
                        rcases hcase with ⟨h, _⟩ | ⟨_, h2, h3, h4⟩
                        · rw [h] at g2; cases g2
                        subst g1 g2 g3 h2 h3 h4
                        have hih := hih hfin
                        have hF := hF0
                        simp only [etW, ehW, heW, seG, stC, annC, slR, slC, List.cons_append, List.nil_append]; simp (maxSteps := 4000000) only [go_sem, seval]
                        (repeat' (first
    | ((exfalso; omega))
    | ((omega))
    | ((refine awp_ownN (id := 10) 4 rfl ?_; simp (maxSteps := 4000000) only [go_sem, seval, List.take_succ_cons, List.take_zero]; refine callH_yield false (ehW t  s place (fd || he1) a2 ++ [some (.dfr true), some (.loop .done (some .ret) 0 etW #[32] ca cb 15)]) ?_ ?_ <;> simp only [etW, ehW, heW, seG, stC, annC, slR, slC, List.cons_append, List.nil_append] <;> (try simp (maxSteps := 4000000) only [go_sem, seval])))
    | (refine awp_seqK ?_)
    | (refine kt ?_)
    | (refine And.intro ?_ ?_)
    | ((first | refine awp_region ?_ | refine awp_draw (by kernel_rfl) (by kernel_rfl) ?_ | refine Imp.le2 ?_ | refine awp_label ?_ | refine awp_skip ?_ | refine awp_exit ?_ | refine awp_cd ?_ | refine awp_ret ?_ | refine go_split (fun _h => ?_) (fun _h => ?_)) <;> try simp (maxSteps := 4000000) only [go_sem, seval, e5, e6])
    | (intro _h)
    | (refine awp_block ?_)
    | (refine awp_scope ?_)
    | (refine cond_b (fun _h => ?_) (fun _h => ?_))
    | (show heapOK _ _ = true; kernel_rfl)
    | (show heapOK2 _ _ = true; kernel_rfl)
    | (omega)))
                        · refine semY_of_awpZ rfl rfl ?_
                          intro B w0 l m w
                          refine awp_code hca ?_
                          (repeat' (first
    | (refine awp_seqK ?_)
    | (refine kt ?_)
    | (refine And.intro ?_ ?_)
    | ((first | refine awp_region ?_ | refine awp_draw (by kernel_rfl) (by kernel_rfl) ?_ | refine Imp.le2 ?_ | refine awp_label ?_ | refine awp_skip ?_ | refine awp_exit ?_ | refine awp_cd ?_ | refine awp_ret ?_ | refine go_split (fun _h => ?_) (fun _h => ?_)) <;> try simp (maxSteps := 4000000) only [go_sem, seval])
    | (intro _h)
    | (refine awp_block ?_)
    | (refine awp_scope ?_)
    | (refine cond_b (fun _h => ?_) (fun _h => ?_))
    | (show heapOK _ _ = true; kernel_rfl)
    | (show heapOK2 _ _ = true; kernel_rfl)
    | (omega)))
                          refine awp_code hcb ?_
                          (repeat' (first
    | (refine awp_ownN 3 rfl ?_; simp (maxSteps := 4000000) only [go_sem, seval, List.take_succ_cons, List.take_zero, hst, hsn, hst2, hsn2]; (repeat refine And.intro (by omega) ?_); refine own_go (hmay) [5, 4] rfl ?_ ?_ ?_ ?_ <;> try simp (maxSteps := 4000000) only [go_sem, seval, Nat.lt_irrefl, hst, hsn, hst2, hsn2] <;> try decide)
    | (refine awp_seqK ?_)
    | (refine kt ?_)
    | (refine And.intro ?_ ?_)
    | ((first | refine awp_region ?_ | refine awp_draw (by kernel_rfl) (by kernel_rfl) ?_ | refine Imp.le2 ?_ | refine awp_label ?_ | refine awp_skip ?_ | refine awp_exit ?_ | refine awp_cd ?_ | refine awp_ret ?_ | refine go_split (fun _h => ?_) (fun _h => ?_)) <;> try simp (maxSteps := 4000000) only [go_sem, seval, hst, hsn, hst2, hsn2])
    | (intro _h)
    | (refine awp_block ?_)
    | (refine awp_scope ?_)
    | (refine cond_b (fun _h => ?_) (fun _h => ?_))
    | (show heapOK _ _ = true; kernel_rfl)
    | (show heapOK2 _ _ = true; kernel_rfl)
    | (omega)))
                          refine awp_loopN t.reports.length (fun j => ⟨mkT 88 [(2, .ptr 3 0 0), (3, .ptr 6 0 0), (4, .ptr 2 0 0), (5, .ptr 7 0 0), (6, .ptr 8 0 0), (7, .ptr 9 0 0), (8, .ptr 10 0 0), (9, .ptr 11 0 0), (10, .ptr 12 0 0), (11, .int .u8 (x : Nat)), (12, .ptr 17 0 0), (44, .int .i64 t.reports.length), (45, .int .i64 j)], ehW t  s place fd ⟨a1.v, wrM x place j a1.pl, wrM x to.day j a1.dy, a1.K⟩ ++ [some (.dfr true), some (.loop .busy none 0 etW #[32] ca cb 15), some (.cells 136 1 0 (stC to))], []⟩) (.le2 ?_) ?_
                          · simp only [etW, ehW, heW, seG, stC, annC, slR, slC, List.cons_append, List.nil_append, wrM]; simp (maxSteps := 4000000) only [go_sem, seval]
                            try (first | rfl | exact ⟨rfl, rfl⟩)
                          · intro j hj
                            have hS1 := wrM_length (now := x) (x := place) (l := a1.pl) (k := j) (by rw [hq1]; omega)
                            have hF1 := wrM_length (now := x) (x := to.day) (l := a1.dy) (k := j) (by rw [hq2]; omega)
                            rw [hq1] at hS1
                            rw [hq2] at hF1
                            rcases Nat.lt_or_eq_of_le hj with hj1 | hj1
                            · have hin := inS_c x j hx8 (by omega)
                              simp only [wrM]
                              generalize wrM x place j a1.pl = S1 at *
                              generalize wrM x to.day j a1.dy = F1 at *
                              have hss := fun x y z u v => ss_pl (x := x) (y := y) (z := z) (u := u) (S := S1) (F := F1) (i := j) (v := v) (by omega)
                              have hsd := fun x y z u v w => ss_dy (x := x) (y := y) (z := z) (u := u) (S := isp S1 j v) (F := F1) (i := j) (v := w) (by rw [isp_length (by omega)]; exact hS1) (by omega)
                              have hle1 := se_len hS1 hF1
                              have hle2 := fun v => se_len (S := isp S1 j v) (F := F1) (by rw [isp_length (by omega)]; exact hS1) hF1
                              generalize x.testBit j = b at *
                              cases b
                              · simp only [etW, ehW, heW, seG, stC, annC, slR, slC, List.cons_append, List.nil_append, Bool.false_eq_true, if_false]; simp (maxSteps := 4000000) only [go_sem, seval]
                                (repeat' (first
    | ((exfalso; omega))
    | ((omega))
    | (refine awp_seqK ?_)
    | (refine kt ?_)
    | (refine And.intro ?_ ?_)
    | ((first | refine awp_region ?_ | refine awp_draw (by kernel_rfl) (by kernel_rfl) ?_ | refine Imp.le2 ?_ | refine awp_label ?_ | refine awp_skip ?_ | refine awp_exit ?_ | refine awp_cd ?_ | refine awp_ret ?_ | refine callK_of (hin) ?_ | refine go_split (fun _h => ?_) (fun _h => ?_)) <;> try simp (maxSteps := 4000000) only [go_sem, seval])
    | (intro _h)
    | (refine awp_block ?_)
    | (refine awp_scope ?_)
    | (refine cond_b (fun _h => ?_) (fun _h => ?_))
    | (show heapOK _ _ = true; kernel_rfl)
    | (show heapOK2 _ _ = true; kernel_rfl)
    | (omega)))
                                all_goals trace_state
                              · simp only [etW, ehW, heW, seG, stC, annC, slR, slC, List.cons_append, List.nil_append, if_true]; simp (maxSteps := 4000000) only [go_sem, seval]
                                (repeat' (first
    | ((exfalso; omega))
    | ((omega))
    | (refine awp_seqK ?_)
    | (refine kt ?_)
    | (refine And.intro ?_ ?_)
    | ((first | refine awp_region ?_ | refine awp_draw3 (by kernel_rfl) (by kernel_rfl) ?_ | refine Imp.le2 ?_ | refine awp_label ?_ | refine awp_skip ?_ | refine awp_exit ?_ | refine awp_cd ?_ | refine awp_ret ?_ | refine callK_of (hin) ?_ | refine go_split (fun _h => ?_) (fun _h => ?_)) <;> try simp (maxSteps := 4000000) only [go_sem, seval, hss, hsd, hle1, hle2])
    | (intro _h)
    | (refine awp_block ?_)
    | (refine awp_scope ?_)
    | (refine cond_b (fun _h => ?_) (fun _h => ?_))
    | (show heapOK3 _ _ _ = true; kernel_rfl)
    | (show heapOK _ _ = true; kernel_rfl)
    | (show heapOK2 _ _ = true; kernel_rfl)
    | (omega)))
                                all_goals trace_state
                            · subst hj1
                              simp only [putE] at hih
                              generalize wrM x place t.reports.length a1.pl = S1 at *
                              generalize wrM x to.day t.reports.length a1.dy = F1 at *
                              clear hF hF0
                              cases fd
                              all_goals
                                simp only [etW, ehW, heW, seG, stC, annC, slR, slC, List.cons_append, List.nil_append, Bool.true_or, Bool.false_or] at hih ⊢
                                simp (maxSteps := 4000000) only [go_sem, seval]
                                (repeat' (first
    | (refine awp_ownN 4 rfl ?_; simp (maxSteps := 4000000) only [go_sem, seval, List.take_succ_cons, List.take_zero, hst2, hsn2]; (repeat refine And.intro (by omega) ?_); refine own_go (hih) [0, 1, 2, 3, 4, 5, 6, 7, 8] rfl ?_ ?_ ?_ ?_ <;> try simp (maxSteps := 4000000) only [go_sem, seval, Nat.lt_irrefl, hst2, hsn2] <;> try decide)
    | ((exfalso; omega))
    | ((omega))
    | (refine awp_seqK ?_)
    | (refine kt ?_)
    | (refine And.intro ?_ ?_)
    | ((first | refine awp_region ?_ | refine awp_draw (by kernel_rfl) (by kernel_rfl) ?_ | refine Imp.le2 ?_ | refine awp_label ?_ | refine awp_skip ?_ | refine awp_exit ?_ | refine awp_cd ?_ | refine awp_ret ?_ | refine go_split (fun _h => ?_) (fun _h => ?_)) <;> try simp (maxSteps := 4000000) only [go_sem, seval, hst2, hsn2])
    | (intro _h)
    | (refine awp_block ?_)
    | (refine awp_scope ?_)
    | (refine cond_b (fun _h => ?_) (fun _h => ?_))
    | (show heapOK _ _ = true; kernel_rfl)
    | (show heapOK2 _ _ = true; kernel_rfl)
    | (omega)))
                              all_goals first | (rw [_h]; done) | trace_state
                        all_goals trace_state
                    · have h1 : oneM t (eachM t (waS t) f) s place x a1 = ((false, true), a1) := by unfold oneM; rw [if_neg hm]
                      rw [h1] at hF
                      simp only [if_true, Bool.or_false] at hF
                      rw [Bool.not_eq_true] at hm
                      rw [hm] at hmay
                      generalize (mayS t s x).1 = to at *
                      simp only [etW, ehW, heW, seG, stC, annC, slR, slC, List.cons_append, List.nil_append, seC] at hmay ⊢
                      simp (maxSteps := 4000000) only [go_sem, seval]
                      (repeat' (first
    | ((exfalso; omega))
    | ((omega))
    | ((refine awp_ownN (id := 10) 4 rfl ?_; simp (maxSteps := 4000000) only [go_sem, seval, List.take_succ_cons, List.take_zero]; refine callH_yield true (ehW t  s place fd a1 ++ [some (.dfr true), some (.loop .ready none 0 etW #[32] ca cb 15)]) ?_ ?_ <;> simp only [etW, ehW, heW, seG, stC, annC, slR, slC, List.cons_append, List.nil_append] <;> (try simp (maxSteps := 4000000) only [go_sem, seval])))
    | (refine awp_seqK ?_)
    | (refine kt ?_)
    | (refine And.intro ?_ ?_)
    | ((first | refine awp_region ?_ | refine awp_draw (by kernel_rfl) (by kernel_rfl) ?_ | refine Imp.le2 ?_ | refine awp_label ?_ | refine awp_skip ?_ | refine awp_exit ?_ | refine awp_cd ?_ | refine awp_ret ?_ | refine go_split (fun _h => ?_) (fun _h => ?_)) <;> try simp (maxSteps := 4000000) only [go_sem, seval, e5, e6])
    | (intro _h)
    | (refine awp_block ?_)
    | (refine awp_scope ?_)
    | (refine cond_b (fun _h => ?_) (fun _h => ?_))
    | (show heapOK _ _ = true; kernel_rfl)
    | (show heapOK2 _ _ = true; kernel_rfl)
    | (omega)))
                      · refine semY_of_awpZ rfl rfl ?_
                        intro B w0 l m w
                        refine awp_code hca ?_
                        (repeat' (first
    | (refine awp_seqK ?_)
    | (refine kt ?_)
    | (refine And.intro ?_ ?_)
    | ((first | refine awp_region ?_ | refine awp_draw (by kernel_rfl) (by kernel_rfl) ?_ | refine Imp.le2 ?_ | refine awp_label ?_ | refine awp_skip ?_ | refine awp_exit ?_ | refine awp_cd ?_ | refine awp_ret ?_ | refine go_split (fun _h => ?_) (fun _h => ?_)) <;> try simp (maxSteps := 4000000) only [go_sem, seval])
    | (intro _h)
    | (refine awp_block ?_)
    | (refine awp_scope ?_)
    | (refine cond_b (fun _h => ?_) (fun _h => ?_))
    | (show heapOK _ _ = true; kernel_rfl)
    | (show heapOK2 _ _ = true; kernel_rfl)
    | (omega)))
                        refine awp_code hcb ?_
                        (repeat' (first
    | (refine awp_ownN 3 rfl ?_; simp (maxSteps := 4000000) only [go_sem, seval, List.take_succ_cons, List.take_zero, hst, hsn, hst2, hsn2]; (repeat refine And.intro (by omega) ?_); refine own_go (hmay) [5, 4] rfl ?_ ?_ ?_ ?_ <;> try simp (maxSteps := 4000000) only [go_sem, seval, Nat.lt_irrefl, hst, hsn, hst2, hsn2] <;> try decide)
    | (refine awp_seqK ?_)
    | (refine kt ?_)
    | (refine And.intro ?_ ?_)
    | ((first | refine awp_region ?_ | refine awp_draw (by kernel_rfl) (by kernel_rfl) ?_ | refine Imp.le2 ?_ | refine awp_label ?_ | refine awp_skip ?_ | refine awp_exit ?_ | refine awp_cd ?_ | refine awp_ret ?_ | refine go_split (fun _h => ?_) (fun _h => ?_)) <;> try simp (maxSteps := 4000000) only [go_sem, seval, hst, hsn, hst2, hsn2])
    | (intro _h)
    | (refine awp_block ?_)
    | (refine awp_scope ?_)
    | (refine cond_b (fun _h => ?_) (fun _h => ?_))
    | (show heapOK _ _ = true; kernel_rfl)
    | (show heapOK2 _ _ = true; kernel_rfl)
    | (omega)))
                        all_goals trace_state
                      · refine ⟨((x - 1) &&& s.rest, fd, a1), ⟨hxx, ha1, hF⟩, by simp only; omega, .le2 ?_⟩
                        simp only [etW, ehW, heW, seG, stC, annC, slR, slC, List.cons_append, List.nil_append]; simp (maxSteps := 4000000) only [go_sem, seval]
                        try (first | rfl | exact ⟨rfl, rfl⟩)
        · rfl
        · rcases hcase with ⟨_, h, _, _⟩ | ⟨_, h, _, _⟩ <;> (rw [h]; simp)
        · rcases hcase with ⟨_, _, h1, h2⟩ | ⟨_, _, h1, h2⟩ <;> (rw [h1, h2]; rfl)
        · rcases hcase with ⟨h1, h2, h3, h4⟩ | ⟨h1, h2, h3, h4⟩
          · subst h1 h2 h3 h4
            have e3 : (endM s ((fE, true), aE)).2 = { aE with K := gmPut aE.K ⟨s, hs.sl, hs.fl⟩ (!fE) } := by
              unfold endM putS; rw [if_pos rfl, dif_pos ⟨hs.sl, hs.fl⟩]
            rw [e3]
            have hmu1 := fun (f : List (AV × AV) → Prop) => mup_km (m := aE.K) (k := ⟨s, hs.sl, hs.fl⟩) (v := true) (f := f)
            have hmu2 := fun (f : List (AV × AV) → Prop) => mup_km (m := aE.K) (k := ⟨s, hs.sl, hs.fl⟩) (v := false) (f := f)
            simp only [keyV, stC] at hmu1 hmu2
            cases fE
            all_goals
              simp only [Bool.not_true, Bool.not_false]
              simp only [etW, ehW, heW, seG, stC, annC, slR, slC, List.cons_append, List.nil_append]; simp (maxSteps := 4000000) only [go_sem, seval]
              (repeat' (first
    | ((exact hkey _ _))
    | (refine awp_seqK ?_)
    | (refine kt ?_)
    | (refine And.intro ?_ ?_)
    | ((first | refine awp_region ?_ | refine awp_draw (by kernel_rfl) (by kernel_rfl) ?_ | refine Imp.le2 ?_ | refine awp_label ?_ | refine awp_skip ?_ | refine awp_exit ?_ | refine awp_cd ?_ | refine awp_ret ?_ | refine go_split (fun _h => ?_) (fun _h => ?_)) <;> try simp (maxSteps := 4000000) only [go_sem, seval, hst, hsn, hmu1, hmu2])
    | (intro _h)
    | (refine awp_block ?_)
    | (refine awp_scope ?_)
    | (refine cond_b (fun _h => ?_) (fun _h => ?_))
    | (show heapOK _ _ = true; kernel_rfl)
    | (show heapOK2 _ _ = true; kernel_rfl)
    | (omega)))
            all_goals trace_state
          · subst h1 h2 h3 h4
            have e3 : (endM s ((fE, false), aE)).2 = aE := by
              unfold endM; rw [if_neg (by simp)]
            rw [e3]
            simp only [etW, ehW, heW, seG, stC, annC, slR, slC, List.cons_append, List.nil_append]; simp (maxSteps := 4000000) only [go_sem, seval]
            (repeat' (first
    | (refine awp_seqK ?_)
    | (refine kt ?_)
    | (refine And.intro ?_ ?_)
    | ((first | refine awp_region ?_ | refine awp_draw (by kernel_rfl) (by kernel_rfl) ?_ | refine Imp.le2 ?_ | refine awp_label ?_ | refine awp_skip ?_ | refine awp_exit ?_ | refine awp_cd ?_ | refine awp_ret ?_ | refine go_split (fun _h => ?_) (fun _h => ?_)) <;> try simp (maxSteps := 4000000) only [go_sem, seval])
    | (intro _h)
    | (refine awp_block ?_)
    | (refine awp_scope ?_)
    | (refine cond_b (fun _h => ?_) (fun _h => ?_))
    | (show heapOK _ _ = true; kernel_rfl)
    | (show heapOK2 _ _ = true; kernel_rfl)
    | (omega)))
            all_goals trace_state
end Go.Am

/- Contracts of the annals functions: all orders of slides, from the beginning (printed by gtue.py). -/
namespace Go.Am
open Go.RowKit Go.Proofs
attribute [local irreducible] AWP CallS Kt goK CallK stepK evOps SemF SemY Imp
set_option maxRecDepth 4000
set_option linter.unusedSimpArgs false
set_option linter.unusedVariables false
set_option maxHeartbeats 6400000

theorem allW_c (t : Ann)  (ht : AnnOK t)  (v : List (List Int) × Bool) (hv : WaOK v) (hfin : waF (allM t (waS t) v).2.v = true) : SemF Try.prog 51 [.agg (annC t), .fn (.func 52) [] [.ptr 0 0 0]] [some (.cells 28 1 0 [.osl 1 v.1.length 0 v.1.length]), some (.cells 59 1 v.1.length (rowsC v.1))] (.tup []) [some (.cells 28 1 0 [.osl 1 (allM t (waS t) v).2.v.1.length 0 (allM t (waS t) v).2.v.1.length]), some (.cells 59 1 (allM t (waS t) v).2.v.1.length (rowsC (allM t (waS t) v).2.v.1))] := by
  have h128 : (begS t).rest < 128 := by
    show 2 ^ t.reports.length - 1 < 128
    have : 2 ^ t.reports.length ≤ 2 ^ 7 := Nat.pow_le_pow_right (by omega) ht.reports.2
    omega
  have hm := eachW_c t  ht  128 (begS t) 0 ⟨v, zer7, zer7, []⟩ (begS_ok ht) h128 (Int.le_refl _) (by omega) ⟨hv, zer_ok⟩ hfin
  have hbe := begin_c t ht.reports.2
  have hz : (ints zer7 ++ ints zer7) = [.int .i64 0, .int .i64 0, .int .i64 0, .int .i64 0, .int .i64 0, .int .i64 0, .int .i64 0, .int .i64 0, .int .i64 0, .int .i64 0, .int .i64 0, .int .i64 0, .int .i64 0, .int .i64 0] := rfl
  unfold allM
  generalize (eachM t (waS t) 128 (begS t) 0 ⟨v, zer7, zer7, []⟩) = R at *
  obtain ⟨⟨f1, m1⟩, vE, plE, dyE, KE⟩ := R
  simp only [heW, seG, hz, kmC_nil2, annC, slR, slC, List.cons_append, List.nil_append] at hm hbe ⊢
  generalize (begS t) = st at *
  simp only [stC] at hm hbe
  (refine semF_of_awp (ys := []) (fun w args => Try.call51 ..) Try.func51 rfl (fun w0 m0 wz => ?_); simp only [Try.ntmps51, Try.results51, initT, junks, rptC, clmC, slR, slC, annC, sl, List.toList_toArray, List.cons_append, List.nil_append, List.length_cons, List.length_nil, Nat.reduceAdd, Nat.reduceSub])
  (repeat' (first
    | (refine awp_seqK ?_)
    | (refine kt ?_)
    | (refine And.intro ?_ ?_)
    | ((first | refine awp_region ?_ | refine Imp.le2 ?_ | refine awp_label ?_ | refine awp_skip ?_ | refine awp_exit ?_ | refine awp_cd ?_ | refine awp_ret ?_ | refine go_split (fun _h => ?_) (fun _h => ?_)) <;> try simp (maxSteps := 4000000) only [go_sem, seval])
    | (intro _h)
    | (refine awp_block ?_)
    | (refine awp_scope ?_)
    | (refine cond_b (fun _h => ?_) (fun _h => ?_))
    | (show heapOK _ _ = true; kernel_rfl)
    | (show heapOK2 _ _ = true; kernel_rfl)
    | (omega)))
  ((repeat refine awp_seqK ?_); refine awp_draws [(3, [0, 1, 4, 5])] (by kernel_rfl) (by kernel_rfl) ?_; simp (maxSteps := 4000000) only [go_sem, seval, sg_cons, sg_nil, List.take_succ_cons, List.take_zero, List.drop_succ_cons, List.drop_zero])
  (repeat' (first
    | (refine awp_seqK ?_)
    | (refine kt ?_)
    | (refine And.intro ?_ ?_)
    | ((first | refine awp_region ?_ | refine Imp.le2 ?_ | refine awp_label ?_ | refine awp_skip ?_ | refine awp_exit ?_ | refine awp_cd ?_ | refine awp_ret ?_ | refine callK_of (hbe) ?_ | refine go_split (fun _h => ?_) (fun _h => ?_)) <;> try simp (maxSteps := 4000000) only [go_sem, seval])
    | (intro _h)
    | (refine awp_block ?_)
    | (refine awp_scope ?_)
    | (refine cond_b (fun _h => ?_) (fun _h => ?_))
    | (show heapOK _ _ = true; kernel_rfl)
    | (show heapOK2 _ _ = true; kernel_rfl)
    | (omega)))
  (refine own_go (hm) [0, 1, 2, 3, 4, 5, 6, 7, 8] rfl (by simp (maxSteps := 4000000) only [go_sem, seval]) (by simp (maxSteps := 4000000) only [go_sem, seval, Nat.lt_irrefl] <;> decide) (by simp (maxSteps := 4000000) only [go_sem, seval]) ?_; simp (maxSteps := 4000000) only [go_sem, seval]; refine And.intro (frm_of (by repeat (first | exact rfl | exact ⟨_, rfl⟩ | refine And.intro ?_ ?_))) ?_; try simp (maxSteps := 4000000) only [go_sem, seval, sg_cons, sg_nil, List.take_succ_cons, List.take_zero, List.drop_succ_cons, List.drop_zero])
  (repeat' (first
    | (refine awp_seqK ?_)
    | (refine kt ?_)
    | (refine And.intro ?_ ?_)
    | ((first | refine awp_region ?_ | refine Imp.le2 ?_ | refine awp_label ?_ | refine awp_skip ?_ | refine awp_exit ?_ | refine awp_cd ?_ | refine awp_ret ?_ | refine go_split (fun _h => ?_) (fun _h => ?_)) <;> try simp (maxSteps := 4000000) only [go_sem, seval])
    | (intro _h)
    | (refine awp_block ?_)
    | (refine awp_scope ?_)
    | (refine cond_b (fun _h => ?_) (fun _h => ?_))
    | (show heapOK _ _ = true; kernel_rfl)
    | (show heapOK2 _ _ = true; kernel_rfl)
    | (omega)))
  all_goals trace_state
end Go.Am
