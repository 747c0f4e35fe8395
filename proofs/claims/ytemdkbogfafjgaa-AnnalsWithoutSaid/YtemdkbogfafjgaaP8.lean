/- Parts UcA, UcB, UcC, UcD, UdA, VwA of the proof, one behind the other. No statement is proved here. -/
import Derived.Test.YtemdkbogfafjgaaP4
import Derived.Test.YtemdkbogfafjgaaP7
/- Contracts of the annals functions: statements, lists of them. -/
namespace Go.Am
open Go.RowKit Go.Proofs
attribute [local irreducible] AWP CallS Kt goK CallK stepK evOps SemF SemY Imp
set_option maxRecDepth 4000
set_option linter.unusedSimpArgs false
set_option linter.unusedVariables false
set_option maxHeartbeats 1600000

theorem has_c2 (l : List Int) (n : Int) (hl : l.length ≤ 1000000) : CallS Try.prog 70 [sl l, .int .i64 n] (.bool (decide (n ∈ l))) := by
  have hyes : ∀ i, i < l.length → l.getD i 0 = n → true = decide (n ∈ l) := fun i hi h => (decide_eq_true (by rw [← h]; exact getD_mem hi)).symm
  have hno : (∀ j, j < l.length → ¬ l.getD j 0 = n) → false = decide (n ∈ l) := fun h => (decide_eq_false (fun hm => by
    obtain ⟨i, hi, e⟩ := mem_getD (d := 0) hm
    exact h i hi e)).symm
  generalize decide (n ∈ l) = r at *
  (refine callS_of_awp (fun w args => Try.call70 ..) Try.func70 rfl (fun w0 m0 wz => ?_); simp only [Try.ntmps70, Try.results70, initT, junks, rptC, clmC, slR, slC, annC, sl, List.toList_toArray, List.cons_append, List.nil_append, List.length_cons, List.length_nil, Nat.reduceAdd, Nat.reduceSub])
  (repeat' (first
    | (refine awp_seqK ?_)
    | (refine kt ?_)
    | (refine And.intro ?_ ?_)
    | ((first | refine awp_region ?_ | refine awp_draw (by kernel_rfl) (by kernel_rfl) ?_ | refine Imp.le2 ?_ | refine awp_label ?_ | refine awp_skip ?_ | refine awp_exit ?_ | refine awp_cd ?_ | refine awp_ret ?_ | refine go_split (fun _h => ?_) (fun _h => ?_)) <;> try simp (maxSteps := 4000000) only [go_sem, seval])
    | (intro _h)
    | (refine awp_block ?_)
    | (refine awp_scope ?_)
    | (refine cond_b (fun _h => ?_) (fun _h => ?_))
    | (show heapOK _ _ = true; kernel_rfl)
    | (show heapOK2 _ _ = true; kernel_rfl)
    | (omega)))
  refine awp_loopJ (fun i : Nat => i ≤ l.length ∧ ∀ j, j < i → ¬ l.getD j 0 = n) (fun i => ⟨mkT 18 [(0, sl l), (1, .int .i64 n), (5, .int .i64 i)], [], []⟩) (fun i => l.length - i) 0 ⟨Nat.zero_le _, fun j h => by omega⟩ (.le2 ?_) ?_
  · simp (maxSteps := 4000000) only [go_sem, seval]
  · rintro i ⟨hi, hj⟩
    simp (maxSteps := 4000000) only [go_sem, seval]
    (repeat' (first
    | (refine awp_seqK ?_)
    | (refine kt ?_)
    | (refine And.intro ?_ ?_)
    | ((first | refine awp_region ?_ | refine awp_draw (by kernel_rfl) (by kernel_rfl) ?_ | refine Imp.le2 ?_ | refine awp_label ?_ | refine awp_skip ?_ | refine awp_exit ?_ | refine awp_cd ?_ | refine awp_ret ?_ | refine go_split (fun _h => ?_) (fun _h => ?_)) <;> try simp (maxSteps := 4000000) only [go_sem, seval])
    | (intro _h)
    | (refine awp_block ?_)
    | (refine awp_scope ?_)
    | (refine cond_b (fun _h => ?_) (fun _h => ?_))
    | (show heapOK _ _ = true; kernel_rfl)
    | (show heapOK2 _ _ = true; kernel_rfl)
    | (omega)))
    all_goals first
      | (refine ⟨i + 1, ⟨by omega, fun j hji => ?_⟩, by omega, .le2 ?_⟩
         · rcases Nat.lt_succ_iff_lt_or_eq.1 hji with h | rfl
           · exact hj j h
           · assumption
         · simp (maxSteps := 4000000) only [go_sem, seval] <;> omega)
      | exact (hyes i (by omega) ‹_›).symm
      | exact hyes i (by omega) ‹_›
      | exact (hno (fun j h => hj j (by omega))).symm
      | exact hno (fun j h => hj j (by omega))
      | trace_state
theorem index_c (l : List Int) (n : Int) (hl : l.length ≤ 1000000) : CallS Try.prog 112 [sl l, .int .i64 n] (.int .i64 (idxOf (fun x => decide (n = x)) l)) := by
  (refine callS_of_awp (fun w args => Try.call112 ..) Try.func112 rfl (fun w0 m0 wz => ?_); simp only [Try.ntmps112, Try.results112, initT, junks, rptC, clmC, slR, slC, annC, sl, List.toList_toArray, List.cons_append, List.nil_append, List.length_cons, List.length_nil, Nat.reduceAdd, Nat.reduceSub])
  (repeat' (first
    | (refine awp_seqK ?_)
    | (refine kt ?_)
    | (refine And.intro ?_ ?_)
    | ((first | refine awp_region ?_ | refine awp_draw (by kernel_rfl) (by kernel_rfl) ?_ | refine Imp.le2 ?_ | refine awp_label ?_ | refine awp_skip ?_ | refine awp_exit ?_ | refine awp_cd ?_ | refine awp_ret ?_ | refine go_split (fun _h => ?_) (fun _h => ?_)) <;> try simp (maxSteps := 4000000) only [go_sem, seval])
    | (intro _h)
    | (refine awp_block ?_)
    | (refine awp_scope ?_)
    | (refine cond_b (fun _h => ?_) (fun _h => ?_))
    | (show heapOK _ _ = true; kernel_rfl)
    | (show heapOK2 _ _ = true; kernel_rfl)
    | (omega)))
  refine awp_loopJ (fun i : Nat => i ≤ l.length ∧ ∀ j, j < i → decide (n = l.getD j 0) = false) (fun i => ⟨mkT 19 [(0, sl l), (1, .int .i64 n), (6, sl l), (7, .int .i64 l.length), (8, .int .i64 i)], [], []⟩) (fun i => l.length - i) 0 ⟨Nat.zero_le _, fun j h => by omega⟩ (.le2 ?_) ?_
  · simp (maxSteps := 4000000) only [go_sem, seval]
    all_goals trace_state
  · rintro i ⟨hi, hj⟩
    simp (maxSteps := 4000000) only [go_sem, seval]
    (repeat' (first
    | (refine awp_seqK ?_)
    | (refine kt ?_)
    | (refine And.intro ?_ ?_)
    | ((first | refine awp_region ?_ | refine awp_draw (by kernel_rfl) (by kernel_rfl) ?_ | refine Imp.le2 ?_ | refine awp_label ?_ | refine awp_skip ?_ | refine awp_exit ?_ | refine awp_cd ?_ | refine awp_ret ?_ | refine go_split (fun _h => ?_) (fun _h => ?_)) <;> try simp (maxSteps := 4000000) only [go_sem, seval])
    | (intro _h)
    | (refine awp_block ?_)
    | (refine awp_scope ?_)
    | (refine cond_b (fun _h => ?_) (fun _h => ?_))
    | (show heapOK _ _ = true; kernel_rfl)
    | (show heapOK2 _ _ = true; kernel_rfl)
    | (omega)))
    · exact idxOf_some (d := 0) (by omega) (decide_eq_true ‹_›) hj
    · refine ⟨i + 1, ⟨by omega, fun j hji => ?_⟩, by omega, .le2 ?_⟩
      · rcases Nat.lt_succ_iff_lt_or_eq.1 hji with h | h
        · exact of_decide_eq_false (hj j h)
        · rw [h]; assumption
      · simp (maxSteps := 4000000) only [go_sem, seval]
        omega
    · exact idxOf_none (d := 0) (fun j hjl => hj j (by omega))
theorem stats_c (t : Ann) (h : annOK t) : CallS Try.prog 67 [.agg (annC t)] (.int .i64 ((t.reports.length : Int) + t.claims.length)) := by
  obtain ⟨h1, h2⟩ := h
  (refine callS_of_awp (fun w args => Try.call67 ..) Try.func67 rfl (fun w0 m0 wz => ?_); simp only [Try.ntmps67, Try.results67, initT, junks, rptC, clmC, slR, slC, annC, sl, List.toList_toArray, List.cons_append, List.nil_append, List.length_cons, List.length_nil, Nat.reduceAdd, Nat.reduceSub])
  (repeat' (first
    | (refine awp_seqK ?_)
    | (refine kt ?_)
    | (refine And.intro ?_ ?_)
    | ((first | refine awp_region ?_ | refine awp_draw (by kernel_rfl) (by kernel_rfl) ?_ | refine Imp.le2 ?_ | refine awp_label ?_ | refine awp_skip ?_ | refine awp_exit ?_ | refine awp_cd ?_ | refine awp_ret ?_ | refine go_split (fun _h => ?_) (fun _h => ?_)) <;> try simp (maxSteps := 4000000) only [go_sem, seval])
    | (intro _h)
    | (refine awp_block ?_)
    | (refine awp_scope ?_)
    | (refine cond_b (fun _h => ?_) (fun _h => ?_))
    | (show heapOK _ _ = true; kernel_rfl)
    | (show heapOK2 _ _ = true; kernel_rfl)
    | (omega)))
theorem rstats_c (t : Ann) (h : annOK t) : CallS Try.prog 46 [.agg (annC t)] (.int .i64 ((t.reports.length : Int) + t.claims.length)) := by
  obtain ⟨h1, h2⟩ := h
  (refine callS_of_awp (fun w args => Try.call46 ..) Try.func46 rfl (fun w0 m0 wz => ?_); simp only [Try.ntmps46, Try.results46, initT, junks, rptC, clmC, slR, slC, annC, sl, List.toList_toArray, List.cons_append, List.nil_append, List.length_cons, List.length_nil, Nat.reduceAdd, Nat.reduceSub])
  (repeat' (first
    | (refine awp_seqK ?_)
    | (refine kt ?_)
    | (refine And.intro ?_ ?_)
    | ((first | refine awp_region ?_ | refine awp_draw (by kernel_rfl) (by kernel_rfl) ?_ | refine Imp.le2 ?_ | refine awp_label ?_ | refine awp_skip ?_ | refine awp_exit ?_ | refine awp_cd ?_ | refine awp_ret ?_ | refine go_split (fun _h => ?_) (fun _h => ?_)) <;> try simp (maxSteps := 4000000) only [go_sem, seval])
    | (intro _h)
    | (refine awp_block ?_)
    | (refine awp_scope ?_)
    | (refine cond_b (fun _h => ?_) (fun _h => ?_))
    | (show heapOK _ _ = true; kernel_rfl)
    | (show heapOK2 _ _ = true; kernel_rfl)
    | (omega)))
/-- Is a list one of statements, rising? -/
def lisd (n : Int) (l : List Int) (i : Nat) : Prop := (0 ≤ l.getD i 0 ∧ l.getD i 0 ≤ n - 1) ∧ (0 < i → l.getD (i - 1) 0 < l.getD i 0)
instance (n : Int) (l : List Int) (i : Nat) : Decidable (lisd n l i) := inferInstanceAs (Decidable (_ ∧ _))
def Lis (n : Int) (l : List Int) : Prop := ∀ i, i < l.length → lisd n l i
instance (n : Int) (l : List Int) : Decidable (Lis n l) := inferInstanceAs (Decidable (∀ i, i < l.length → lisd n l i))
theorem listed_c (t : Ann) (l : List Int) (h : annOK t) (hl : l.length ≤ 1000000) : CallS Try.prog 39 [.agg (annC t), sl l] (.bool (decide (Lis ((t.reports.length : Int) + t.claims.length) l))) := by
  have hst := rstats_c t h
  obtain ⟨h1, h2⟩ := h
  have hno : ∀ i, i < l.length → ¬ lisd ((t.reports.length : Int) + t.claims.length) l i → false = decide (Lis ((t.reports.length : Int) + t.claims.length) l) := fun i hi hn => (decide_eq_false (fun hx => hn (hx i hi))).symm
  have hyes : (∀ j, j < l.length → lisd ((t.reports.length : Int) + t.claims.length) l j) → true = decide (Lis ((t.reports.length : Int) + t.claims.length) l) := fun hx => (decide_eq_true hx).symm
  generalize decide (Lis ((t.reports.length : Int) + t.claims.length) l) = r at *
  simp only [annC, slR, slC] at hst ⊢
  (refine callS_of_awp (fun w args => Try.call39 ..) Try.func39 rfl (fun w0 m0 wz => ?_); simp only [Try.ntmps39, Try.results39, initT, junks, rptC, clmC, slR, slC, annC, sl, List.toList_toArray, List.cons_append, List.nil_append, List.length_cons, List.length_nil, Nat.reduceAdd, Nat.reduceSub])
  (repeat' (first
    | (refine awp_seqK ?_)
    | (refine kt ?_)
    | (refine And.intro ?_ ?_)
    | ((first | refine awp_region ?_ | refine awp_draw (by kernel_rfl) (by kernel_rfl) ?_ | refine Imp.le2 ?_ | refine awp_label ?_ | refine awp_skip ?_ | refine awp_exit ?_ | refine awp_cd ?_ | refine awp_ret ?_ | refine go_split (fun _h => ?_) (fun _h => ?_)) <;> try simp (maxSteps := 4000000) only [go_sem, seval])
    | (intro _h)
    | (refine awp_block ?_)
    | (refine awp_scope ?_)
    | (refine cond_b (fun _h => ?_) (fun _h => ?_))
    | (show heapOK _ _ = true; kernel_rfl)
    | (show heapOK2 _ _ = true; kernel_rfl)
    | (omega)))
  refine awp_loopJ (fun i : Nat => i ≤ l.length ∧ ∀ j, j < i → lisd ((t.reports.length : Int) + t.claims.length) l j) (fun i => ⟨mkT 37 [(1, sl l), (2, .ptr 0 0 0), (5, .int .i64 i)], [some (.cells 25 1 0 [.psl false t.reports.length (recs rptC t.reports), .psl false t.claims.length (recs clmC t.claims), .int .i64 t.rest])], []⟩) (fun i => l.length - i) 0 ⟨Nat.zero_le _, fun j h => by omega⟩ (.le2 ?_) ?_
  · simp (maxSteps := 4000000) only [go_sem, seval]
  · rintro i ⟨hi, hj⟩
    have ei : 0 < i → ((i : Int) - 1).toNat = i - 1 := fun _ => by omega
    simp (maxSteps := 4000000) only [go_sem, seval]
    (repeat' (first
    | ((exfalso; omega))
    | ((omega))
    | (refine awp_seqK ?_)
    | (refine kt ?_)
    | (refine And.intro ?_ ?_)
    | ((first | refine awp_region ?_ | refine awp_draw (by kernel_rfl) (by kernel_rfl) ?_ | refine Imp.le2 ?_ | refine awp_label ?_ | refine awp_skip ?_ | refine awp_exit ?_ | refine awp_cd ?_ | refine awp_ret ?_ | refine callK_of (hst) ?_ | refine callK_of (in_c _ _ _) ?_ | refine go_split (fun _h => ?_) (fun _h => ?_)) <;> try simp (maxSteps := 4000000) only [go_sem, seval])
    | (intro _h)
    | (refine awp_block ?_)
    | (refine awp_scope ?_)
    | (refine cond_b (fun _h => ?_) (fun _h => ?_))
    | (show heapOK _ _ = true; kernel_rfl)
    | (show heapOK2 _ _ = true; kernel_rfl)
    | (omega)))
    all_goals first
      | (refine ⟨i + 1, ⟨by omega, fun j hji => ?_⟩, by omega, .le2 ?_⟩
         · rcases Nat.lt_succ_iff_lt_or_eq.1 hji with h | h
           · exact hj j h
           · rw [h]
             refine ⟨‹_›, fun h0 => ?_⟩
             first
               | omega
               | (have hh := ‹¬ l.getD i 0 ≤ l.getD ((i : Int) - 1).toNat 0›
                  rw [ei h0] at hh
                  omega)
         · simp (maxSteps := 4000000) only [go_sem, seval] <;> omega)
      | exact hyes (fun j h => hj j (by omega))
      | exact (hyes (fun j h => hj j (by omega))).symm
      | exact hno i (by omega) (fun h => absurd h.1 ‹_›)
      | exact (hno i (by omega) (fun h => absurd h.1 ‹_›)).symm
      | (have hh := ‹l.getD i 0 ≤ l.getD ((i : Int) - 1).toNat 0›
         rw [ei (by omega)] at hh
         first | exact hno i (by omega) (fun h => by have := h.2 (by omega); omega) | exact (hno i (by omega) (fun h => by have := h.2 (by omega); omega)).symm)
      | trace_state
end Go.Am

/- Contracts of the annals functions: annals without some statements. -/
namespace Go.Am
open Go.RowKit Go.Proofs
attribute [local irreducible] AWP CallS Kt goK CallK stepK evOps SemF SemY Imp
set_option maxRecDepth 4000
set_option linter.unusedSimpArgs false
set_option linter.unusedVariables false
set_option maxHeartbeats 1600000

theorem contains_c (l : List Int) (n : Int) (hl : l.length ≤ 1000000) : CallS Try.prog 98 [sl l, .int .i64 n] (.bool (decide (n ∈ l))) := by
  have h := index_c l n hl
  have e : decide (n ∈ l) = decide (0 ≤ idxOf (fun x => decide (n = x)) l) := by
    rw [idxOf_ge, Bool.eq_iff_iff, decide_eq_true_eq, List.any_eq_true]
    constructor
    · intro hm; exact ⟨n, hm, by simp⟩
    · rintro ⟨x, hx, he⟩
      rw [of_decide_eq_true he]; exact hx
  rw [e]
  simp only [sl] at h
  (refine callS_of_awp (fun w args => Try.call98 ..) Try.func98 rfl (fun w0 m0 wz => ?_); simp only [Try.ntmps98, Try.results98, initT, junks, rptC, clmC, slR, slC, annC, sl, List.toList_toArray, List.cons_append, List.nil_append, List.length_cons, List.length_nil, Nat.reduceAdd, Nat.reduceSub])
  (repeat' (first
    | (refine awp_seqK ?_)
    | (refine kt ?_)
    | (refine And.intro ?_ ?_)
    | ((first | refine awp_region ?_ | refine awp_draw (by kernel_rfl) (by kernel_rfl) ?_ | refine Imp.le2 ?_ | refine awp_label ?_ | refine awp_skip ?_ | refine awp_exit ?_ | refine awp_cd ?_ | refine awp_ret ?_ | refine callK_of (h) ?_ | refine go_split (fun _h => ?_) (fun _h => ?_)) <;> try simp (maxSteps := 4000000) only [go_sem, seval])
    | (intro _h)
    | (refine awp_block ?_)
    | (refine awp_scope ?_)
    | (refine cond_b (fun _h => ?_) (fun _h => ?_))
    | (show heapOK _ _ = true; kernel_rfl)
    | (show heapOK2 _ _ = true; kernel_rfl)
    | (omega)))
def wRpt (l : List Int) (t : Ann) (i : Nat) : Rpt := if (i : Int) ∈ l then ⟨(t.reports.getD i default).slope, 0, 100000⟩ else t.reports.getD i default
def wClm (l : List Int) (t : Ann) : Nat → List Clm
  | 0 => []
  | k + 1 => if ((t.reports.length : Int) + k) ∈ l then wClm l t k else wClm l t k ++ [t.claims.getD k default]
/-- Annals without some statements. -/
def withA (t : Ann) (l : List Int) : Ann := ⟨tab t.reports.length (wRpt l t), wClm l t t.claims.length, t.rest⟩
theorem wClm_le {l : List Int} {t : Ann} : ∀ k, (wClm l t k).length ≤ k
  | 0 => by simp [wClm]
  | k + 1 => by
    have := wClm_le (l := l) (t := t) k
    simp only [wClm]
    split <;> simp <;> omega
theorem tab_succ {α : Type} {n : Nat} {f : Nat → α} : tab (n + 1) f = tab n f ++ [f n] := by simp [tab, List.range_succ]
theorem recs_one {α : Type} {enc : α → List AV} {l : List α} {x : α} : recs enc l ++ enc x = recs enc (l ++ [x]) := by simp [recs]
theorem without_c (t : Ann) (l : List Int) (ht : annOK t) (hl : l.length ≤ 1000000) : CallS Try.prog 69 [.agg (annC t), sl l] (.agg (annC (withA t l))) := by
  obtain ⟨hb1, hb2⟩ := ht
  have hco := fun n => contains_c l n hl
  simp only [sl] at hco
  have htl : ∀ k, (tab k (wRpt l t)).length = k := fun k => tab_length
  (refine callS_of_awp (fun w args => Try.call69 ..) Try.func69 rfl (fun w0 m0 wz => ?_); simp only [Try.ntmps69, Try.results69, initT, junks, rptC, clmC, slR, slC, annC, sl, List.toList_toArray, List.cons_append, List.nil_append, List.length_cons, List.length_nil, Nat.reduceAdd, Nat.reduceSub])
  (repeat' (first
    | (refine awp_seqK ?_)
    | (refine kt ?_)
    | (refine And.intro ?_ ?_)
    | ((first | refine awp_region ?_ | refine awp_draw (by kernel_rfl) (by kernel_rfl) ?_ | refine Imp.le2 ?_ | refine awp_label ?_ | refine awp_skip ?_ | refine awp_exit ?_ | refine awp_cd ?_ | refine awp_ret ?_ | refine callK_of (always_c) ?_ | refine go_split (fun _h => ?_) (fun _h => ?_)) <;> try simp (maxSteps := 4000000) only [go_sem, seval])
    | (intro _h)
    | (refine awp_block ?_)
    | (refine awp_scope ?_)
    | (refine cond_b (fun _h => ?_) (fun _h => ?_))
    | (show heapOK _ _ = true; kernel_rfl)
    | (show heapOK2 _ _ = true; kernel_rfl)
    | (omega)))
  refine awp_adH 2 0 58 3 rfl rfl ?_
  simp only [adH, hget, hset, lset, List.length_cons, List.length_nil, Nat.reduceAdd]
  refine awp_adH 2 1 73 3 rfl rfl ?_
  simp only [adH, hget, hset, lset, List.length_cons, List.length_nil, Nat.reduceAdd]
  refine awp_loopN t.reports.length (fun k => ⟨mkT 57 [(1, sl l), (2, .ptr 0 0 0), (4, .ptr 1 0 0), (5, .ptr 2 0 0), (14, slR t.reports), (15, .int .i64 t.reports.length), (16, .int .i64 k)], [some (.cells 35 1 0 (annC t)), some (.cells 35 1 0 [.nils, .nils, .int .i64 0]), some (.cells 35 1 0 [.osl 3 k 0 k, .osl 4 0 0 0, .int .i64 t.rest]), some (.cells 58 3 k (recs rptC (tab k (wRpt l t)))), some (.cells 73 3 0 [])], []⟩) (.le2 ?_) ?_
  · simp only [annC, slR, slC]; simp (maxSteps := 4000000) only [go_sem, seval]
    rfl
  · intro k hk
    rcases Nat.lt_or_eq_of_le hk with hk1 | hk1
    · have htk := htl k
      have hsn := recs_one (enc := rptC) (l := tab k (wRpt l t)) (x := wRpt l t k)
      rw [← tab_succ] at hsn
      have htk1 := htl (k + 1)
      have hc := hco k
      by_cases hm : (k : Int) ∈ l
      · rw [decide_eq_true hm] at hc
        have hw : wRpt l t k = ⟨(t.reports.getD k default).slope, 0, 100000⟩ := if_pos hm
        rw [hw] at hsn
        simp only [rptC] at hsn
        generalize tab (k + 1) (wRpt l t) = W1 at *
        generalize tab k (wRpt l t) = W at *
        simp only [annC, slR, slC]; simp (maxSteps := 4000000) only [go_sem, seval]
        (repeat' (first
    | ((omega))
    | (refine awp_seqK ?_)
    | (refine kt ?_)
    | (refine And.intro ?_ ?_)
    | ((first | refine awp_region ?_ | refine awp_draw (by kernel_rfl) (by kernel_rfl) ?_ | refine Imp.le2 ?_ | refine awp_label ?_ | refine awp_skip ?_ | refine awp_exit ?_ | refine awp_cd ?_ | refine awp_ret ?_ | refine callK_of (hc) ?_ | refine callK_of (always_c) ?_ | refine go_split (fun _h => ?_) (fun _h => ?_)) <;> try simp (maxSteps := 4000000) only [go_sem, seval, htk, hsn])
    | (intro _h)
    | (refine awp_block ?_)
    | (refine awp_scope ?_)
    | (refine cond_b (fun _h => ?_) (fun _h => ?_))
    | (show heapOK _ _ = true; kernel_rfl)
    | (show heapOK2 _ _ = true; kernel_rfl)
    | (omega)))
        all_goals trace_state
      · rw [decide_eq_false hm] at hc
        have hw : wRpt l t k = t.reports.getD k default := if_neg hm
        rw [hw] at hsn
        simp only [rptC] at hsn
        generalize tab (k + 1) (wRpt l t) = W1 at *
        generalize tab k (wRpt l t) = W at *
        simp only [annC, slR, slC]; simp (maxSteps := 4000000) only [go_sem, seval]
        (repeat' (first
    | ((omega))
    | (refine awp_seqK ?_)
    | (refine kt ?_)
    | (refine And.intro ?_ ?_)
    | ((first | refine awp_region ?_ | refine awp_draw (by kernel_rfl) (by kernel_rfl) ?_ | refine Imp.le2 ?_ | refine awp_label ?_ | refine awp_skip ?_ | refine awp_exit ?_ | refine awp_cd ?_ | refine awp_ret ?_ | refine callK_of (hc) ?_ | refine callK_of (always_c) ?_ | refine go_split (fun _h => ?_) (fun _h => ?_)) <;> try simp (maxSteps := 4000000) only [go_sem, seval, htk, hsn])
    | (intro _h)
    | (refine awp_block ?_)
    | (refine awp_scope ?_)
    | (refine cond_b (fun _h => ?_) (fun _h => ?_))
    | (show heapOK _ _ = true; kernel_rfl)
    | (show heapOK2 _ _ = true; kernel_rfl)
    | (omega)))
        all_goals trace_state
    · subst hk1
      have htk := htl t.reports.length
      simp only [withA]
      generalize tab t.reports.length (wRpt l t) = W at *
      simp only [annC, slR, slC]; simp (maxSteps := 4000000) only [go_sem, seval]
      (repeat' (first
    | ((exfalso; omega))
    | (refine awp_seqK ?_)
    | (refine kt ?_)
    | (refine And.intro ?_ ?_)
    | ((first | refine awp_region ?_ | refine awp_draw (by kernel_rfl) (by kernel_rfl) ?_ | refine Imp.le2 ?_ | refine awp_label ?_ | refine awp_skip ?_ | refine awp_exit ?_ | refine awp_cd ?_ | refine awp_ret ?_ | refine go_split (fun _h => ?_) (fun _h => ?_)) <;> try simp (maxSteps := 4000000) only [go_sem, seval, htk])
    | (intro _h)
    | (refine awp_block ?_)
    | (refine awp_scope ?_)
    | (refine cond_b (fun _h => ?_) (fun _h => ?_))
    | (show heapOK _ _ = true; kernel_rfl)
    | (show heapOK2 _ _ = true; kernel_rfl)
    | (omega)))
      refine awp_loopN t.claims.length (fun k => ⟨mkT 57 [(1, sl l), (2, .ptr 0 0 0), (4, .ptr 1 0 0), (5, .ptr 2 0 0), (34, slC t.claims), (35, .int .i64 t.claims.length), (36, .int .i64 k)], [some (.cells 35 1 0 (annC t)), some (.cells 35 1 0 [.nils, .nils, .int .i64 0]), some (.cells 35 1 0 [.osl 3 t.reports.length 0 t.reports.length, .osl 4 (wClm l t k).length 0 (wClm l t k).length, .int .i64 t.rest]), some (.cells 58 3 t.reports.length (recs rptC W)), some (.cells 73 3 (wClm l t k).length (recs clmC (wClm l t k)))], []⟩) (.le2 ?_) ?_
      · simp only [annC, slR, slC, wClm]; simp (maxSteps := 4000000) only [go_sem, seval]
        all_goals first | rfl | exact ⟨rfl, rfl⟩ | trace_state
      · intro k hk
        have hle := wClm_le (l := l) (t := t) k
        rcases Nat.lt_or_eq_of_le hk with hk1 | hk1
        · have hc := hco ((t.reports.length : Int) + k)
          have hws : wClm l t (k + 1) = if ((t.reports.length : Int) + k) ∈ l then wClm l t k else wClm l t k ++ [t.claims.getD k default] := rfl
          rw [hws]
          clear hws
          by_cases hm : ((t.reports.length : Int) + k) ∈ l
          · rw [if_pos hm]
            rw [decide_eq_true hm] at hc
            generalize wClm l t k = G at *
            simp only [annC, slR, slC]; simp (maxSteps := 4000000) only [go_sem, seval]
            (repeat' (first
    | ((exfalso; omega))
    | ((omega))
    | (refine awp_seqK ?_)
    | (refine kt ?_)
    | (refine And.intro ?_ ?_)
    | ((first | refine awp_region ?_ | refine awp_draw (by kernel_rfl) (by kernel_rfl) ?_ | refine Imp.le2 ?_ | refine awp_label ?_ | refine awp_skip ?_ | refine awp_exit ?_ | refine awp_cd ?_ | refine awp_ret ?_ | refine callK_of (hc) ?_ | refine go_split (fun _h => ?_) (fun _h => ?_)) <;> try simp (maxSteps := 4000000) only [go_sem, seval])
    | (intro _h)
    | (refine awp_block ?_)
    | (refine awp_scope ?_)
    | (refine cond_b (fun _h => ?_) (fun _h => ?_))
    | (show heapOK _ _ = true; kernel_rfl)
    | (show heapOK2 _ _ = true; kernel_rfl)
    | (omega)))
            all_goals first | rfl | exact ⟨rfl, rfl⟩ | trace_state
          · rw [if_neg hm]
            rw [decide_eq_false hm] at hc
            have hsn := recs_one (enc := clmC) (l := wClm l t k) (x := t.claims.getD k default)
            simp only [clmC] at hsn
            generalize wClm l t k = G at *
            simp only [annC, slR, slC, List.length_append, List.length_singleton]; simp (maxSteps := 4000000) only [go_sem, seval, List.length_append, List.length_singleton]
            (repeat' (first
    | ((exfalso; omega))
    | ((omega))
    | (refine awp_seqK ?_)
    | (refine kt ?_)
    | (refine And.intro ?_ ?_)
    | ((first | refine awp_region ?_ | refine awp_draw (by kernel_rfl) (by kernel_rfl) ?_ | refine Imp.le2 ?_ | refine awp_label ?_ | refine awp_skip ?_ | refine awp_exit ?_ | refine awp_cd ?_ | refine awp_ret ?_ | refine callK_of (hc) ?_ | refine go_split (fun _h => ?_) (fun _h => ?_)) <;> try simp (maxSteps := 4000000) only [go_sem, seval, hsn, List.length_append, List.length_singleton])
    | (intro _h)
    | (refine awp_block ?_)
    | (refine awp_scope ?_)
    | (refine cond_b (fun _h => ?_) (fun _h => ?_))
    | (show heapOK _ _ = true; kernel_rfl)
    | (show heapOK2 _ _ = true; kernel_rfl)
    | (omega)))
            all_goals first | rfl | exact ⟨rfl, rfl⟩ | trace_state
        · subst hk1
          generalize wClm l t t.claims.length = G at *
          simp only [annC, slR, slC]; simp (maxSteps := 4000000) only [go_sem, seval]
          (repeat' (first
    | ((exfalso; omega))
    | ((omega))
    | (refine awp_seqK ?_)
    | (refine kt ?_)
    | (refine And.intro ?_ ?_)
    | ((first | refine awp_region ?_ | refine awp_draw (by kernel_rfl) (by kernel_rfl) ?_ | refine Imp.le2 ?_ | refine awp_label ?_ | refine awp_skip ?_ | refine awp_exit ?_ | refine awp_cd ?_ | refine awp_ret ?_ | refine go_split (fun _h => ?_) (fun _h => ?_)) <;> try simp (maxSteps := 4000000) only [go_sem, seval, htk])
    | (intro _h)
    | (refine awp_block ?_)
    | (refine awp_scope ?_)
    | (refine cond_b (fun _h => ?_) (fun _h => ?_))
    | (show heapOK _ _ = true; kernel_rfl)
    | (show heapOK2 _ _ = true; kernel_rfl)
    | (omega)))
          all_goals trace_state
end Go.Am

/- Contracts of the annals functions: annals without some statements, by the reference; whether annals are the same. -/
namespace Go.Am
open Go.RowKit Go.Proofs
attribute [local irreducible] AWP CallS Kt goK CallK stepK evOps SemF SemY Imp
set_option maxRecDepth 4000
set_option linter.unusedSimpArgs false
set_option linter.unusedVariables false
set_option maxHeartbeats 1600000

theorem rwithout_c (t : Ann) (l : List Int) (ht : annOK t) (hl : l.length ≤ 1000000) : CallS Try.prog 41 [.agg (annC t), sl l] (.agg (annC (withA t l))) := by
  obtain ⟨hb1, hb2⟩ := ht
  have hco := fun n => has_c2 l n hl
  simp only [sl] at hco
  have htl : ∀ k, (tab k (wRpt l t)).length = k := fun k => tab_length
  (refine callS_of_awp (fun w args => Try.call41 ..) Try.func41 rfl (fun w0 m0 wz => ?_); simp only [Try.ntmps41, Try.results41, initT, junks, rptC, clmC, slR, slC, annC, sl, List.toList_toArray, List.cons_append, List.nil_append, List.length_cons, List.length_nil, Nat.reduceAdd, Nat.reduceSub])
  (repeat' (first
    | (refine awp_seqK ?_)
    | (refine kt ?_)
    | (refine And.intro ?_ ?_)
    | ((first | refine awp_region ?_ | refine awp_draw (by kernel_rfl) (by kernel_rfl) ?_ | refine Imp.le2 ?_ | refine awp_label ?_ | refine awp_skip ?_ | refine awp_exit ?_ | refine awp_cd ?_ | refine awp_ret ?_ | refine go_split (fun _h => ?_) (fun _h => ?_)) <;> try simp (maxSteps := 4000000) only [go_sem, seval])
    | (intro _h)
    | (refine awp_block ?_)
    | (refine awp_scope ?_)
    | (refine cond_b (fun _h => ?_) (fun _h => ?_))
    | (show heapOK _ _ = true; kernel_rfl)
    | (show heapOK2 _ _ = true; kernel_rfl)
    | (omega)))
  refine awp_adH 2 0 76 3 rfl rfl ?_
  simp only [adH, hget, hset, lset, List.length_cons, List.length_nil, Nat.reduceAdd]
  refine awp_adH 2 1 71 3 rfl rfl ?_
  simp only [adH, hget, hset, lset, List.length_cons, List.length_nil, Nat.reduceAdd]
  refine awp_loopN t.reports.length (fun k => ⟨mkT 61 [(1, sl l), (2, .ptr 0 0 0), (4, .ptr 1 0 0), (5, .ptr 2 0 0), (6, .int .i64 k)], [some (.cells 25 1 0 (annC t)), some (.cells 25 1 0 [.nils, .nils, .int .i64 0]), some (.cells 25 1 0 [.osl 3 k 0 k, .osl 4 0 0 0, .int .i64 t.rest]), some (.cells 76 3 k (recs rptC (tab k (wRpt l t)))), some (.cells 71 3 0 [])], []⟩) (.le2 ?_) ?_
  · simp only [annC, slR, slC]; simp (maxSteps := 4000000) only [go_sem, seval]
    rfl
  · intro k hk
    rcases Nat.lt_or_eq_of_le hk with hk1 | hk1
    · have htk := htl k
      have hsn := recs_one (enc := rptC) (l := tab k (wRpt l t)) (x := wRpt l t k)
      rw [← tab_succ] at hsn
      have htk1 := htl (k + 1)
      have hc := hco k
      by_cases hm : (k : Int) ∈ l
      · rw [decide_eq_true hm] at hc
        have hw : wRpt l t k = ⟨(t.reports.getD k default).slope, 0, 100000⟩ := if_pos hm
        rw [hw] at hsn
        simp only [rptC] at hsn
        generalize tab (k + 1) (wRpt l t) = W1 at *
        generalize tab k (wRpt l t) = W at *
        simp only [annC, slR, slC]; simp (maxSteps := 4000000) only [go_sem, seval]
        (repeat' (first
    | ((omega))
    | (refine awp_seqK ?_)
    | (refine kt ?_)
    | (refine And.intro ?_ ?_)
    | ((first | refine awp_region ?_ | refine awp_draw (by kernel_rfl) (by kernel_rfl) ?_ | refine Imp.le2 ?_ | refine awp_label ?_ | refine awp_skip ?_ | refine awp_exit ?_ | refine awp_cd ?_ | refine awp_ret ?_ | refine callK_of (hc) ?_ | refine go_split (fun _h => ?_) (fun _h => ?_)) <;> try simp (maxSteps := 4000000) only [go_sem, seval, htk, hsn])
    | (intro _h)
    | (refine awp_block ?_)
    | (refine awp_scope ?_)
    | (refine cond_b (fun _h => ?_) (fun _h => ?_))
    | (show heapOK _ _ = true; kernel_rfl)
    | (show heapOK2 _ _ = true; kernel_rfl)
    | (omega)))
        all_goals trace_state
      · rw [decide_eq_false hm] at hc
        have hw : wRpt l t k = t.reports.getD k default := if_neg hm
        rw [hw] at hsn
        simp only [rptC] at hsn
        generalize tab (k + 1) (wRpt l t) = W1 at *
        generalize tab k (wRpt l t) = W at *
        simp only [annC, slR, slC]; simp (maxSteps := 4000000) only [go_sem, seval]
        (repeat' (first
    | ((omega))
    | (refine awp_seqK ?_)
    | (refine kt ?_)
    | (refine And.intro ?_ ?_)
    | ((first | refine awp_region ?_ | refine awp_draw (by kernel_rfl) (by kernel_rfl) ?_ | refine Imp.le2 ?_ | refine awp_label ?_ | refine awp_skip ?_ | refine awp_exit ?_ | refine awp_cd ?_ | refine awp_ret ?_ | refine callK_of (hc) ?_ | refine go_split (fun _h => ?_) (fun _h => ?_)) <;> try simp (maxSteps := 4000000) only [go_sem, seval, htk, hsn])
    | (intro _h)
    | (refine awp_block ?_)
    | (refine awp_scope ?_)
    | (refine cond_b (fun _h => ?_) (fun _h => ?_))
    | (show heapOK _ _ = true; kernel_rfl)
    | (show heapOK2 _ _ = true; kernel_rfl)
    | (omega)))
        all_goals trace_state
    · subst hk1
      have htk := htl t.reports.length
      simp only [withA]
      generalize tab t.reports.length (wRpt l t) = W at *
      simp only [annC, slR, slC]; simp (maxSteps := 4000000) only [go_sem, seval]
      (repeat' (first
    | ((exfalso; omega))
    | (refine awp_seqK ?_)
    | (refine kt ?_)
    | (refine And.intro ?_ ?_)
    | ((first | refine awp_region ?_ | refine awp_draw (by kernel_rfl) (by kernel_rfl) ?_ | refine Imp.le2 ?_ | refine awp_label ?_ | refine awp_skip ?_ | refine awp_exit ?_ | refine awp_cd ?_ | refine awp_ret ?_ | refine go_split (fun _h => ?_) (fun _h => ?_)) <;> try simp (maxSteps := 4000000) only [go_sem, seval, htk])
    | (intro _h)
    | (refine awp_block ?_)
    | (refine awp_scope ?_)
    | (refine cond_b (fun _h => ?_) (fun _h => ?_))
    | (show heapOK _ _ = true; kernel_rfl)
    | (show heapOK2 _ _ = true; kernel_rfl)
    | (omega)))
      refine awp_loopN t.claims.length (fun k => ⟨mkT 61 [(1, sl l), (2, .ptr 0 0 0), (4, .ptr 1 0 0), (5, .ptr 2 0 0), (8, .int .i64 k)], [some (.cells 25 1 0 (annC t)), some (.cells 25 1 0 [.nils, .nils, .int .i64 0]), some (.cells 25 1 0 [.osl 3 t.reports.length 0 t.reports.length, .osl 4 (wClm l t k).length 0 (wClm l t k).length, .int .i64 t.rest]), some (.cells 76 3 t.reports.length (recs rptC W)), some (.cells 71 3 (wClm l t k).length (recs clmC (wClm l t k)))], []⟩) (.le2 ?_) ?_
      · simp only [annC, slR, slC, wClm]; simp (maxSteps := 4000000) only [go_sem, seval]
        all_goals first | rfl | exact ⟨rfl, rfl⟩ | trace_state
      · intro k hk
        have hle := wClm_le (l := l) (t := t) k
        rcases Nat.lt_or_eq_of_le hk with hk1 | hk1
        · have hc := hco ((t.reports.length : Int) + k)
          have hws : wClm l t (k + 1) = if ((t.reports.length : Int) + k) ∈ l then wClm l t k else wClm l t k ++ [t.claims.getD k default] := rfl
          rw [hws]
          clear hws
          by_cases hm : ((t.reports.length : Int) + k) ∈ l
          · rw [if_pos hm]
            rw [decide_eq_true hm] at hc
            generalize wClm l t k = G at *
            simp only [annC, slR, slC]; simp (maxSteps := 4000000) only [go_sem, seval]
            (repeat' (first
    | ((exfalso; omega))
    | ((omega))
    | (refine awp_seqK ?_)
    | (refine kt ?_)
    | (refine And.intro ?_ ?_)
    | ((first | refine awp_region ?_ | refine awp_draw (by kernel_rfl) (by kernel_rfl) ?_ | refine Imp.le2 ?_ | refine awp_label ?_ | refine awp_skip ?_ | refine awp_exit ?_ | refine awp_cd ?_ | refine awp_ret ?_ | refine callK_of (hc) ?_ | refine go_split (fun _h => ?_) (fun _h => ?_)) <;> try simp (maxSteps := 4000000) only [go_sem, seval])
    | (intro _h)
    | (refine awp_block ?_)
    | (refine awp_scope ?_)
    | (refine cond_b (fun _h => ?_) (fun _h => ?_))
    | (show heapOK _ _ = true; kernel_rfl)
    | (show heapOK2 _ _ = true; kernel_rfl)
    | (omega)))
            all_goals first | rfl | exact ⟨rfl, rfl⟩ | trace_state
          · rw [if_neg hm]
            rw [decide_eq_false hm] at hc
            have hsn := recs_one (enc := clmC) (l := wClm l t k) (x := t.claims.getD k default)
            simp only [clmC] at hsn
            generalize wClm l t k = G at *
            simp only [annC, slR, slC, List.length_append, List.length_singleton]; simp (maxSteps := 4000000) only [go_sem, seval, List.length_append, List.length_singleton]
            (repeat' (first
    | ((exfalso; omega))
    | ((omega))
    | (refine awp_seqK ?_)
    | (refine kt ?_)
    | (refine And.intro ?_ ?_)
    | ((first | refine awp_region ?_ | refine awp_draw (by kernel_rfl) (by kernel_rfl) ?_ | refine Imp.le2 ?_ | refine awp_label ?_ | refine awp_skip ?_ | refine awp_exit ?_ | refine awp_cd ?_ | refine awp_ret ?_ | refine callK_of (hc) ?_ | refine go_split (fun _h => ?_) (fun _h => ?_)) <;> try simp (maxSteps := 4000000) only [go_sem, seval, hsn, List.length_append, List.length_singleton])
    | (intro _h)
    | (refine awp_block ?_)
    | (refine awp_scope ?_)
    | (refine cond_b (fun _h => ?_) (fun _h => ?_))
    | (show heapOK _ _ = true; kernel_rfl)
    | (show heapOK2 _ _ = true; kernel_rfl)
    | (omega)))
            all_goals first | rfl | exact ⟨rfl, rfl⟩ | trace_state
        · subst hk1
          generalize wClm l t t.claims.length = G at *
          simp only [annC, slR, slC]; simp (maxSteps := 4000000) only [go_sem, seval]
          (repeat' (first
    | ((exfalso; omega))
    | ((omega))
    | (refine awp_seqK ?_)
    | (refine kt ?_)
    | (refine And.intro ?_ ?_)
    | ((first | refine awp_region ?_ | refine awp_draw (by kernel_rfl) (by kernel_rfl) ?_ | refine Imp.le2 ?_ | refine awp_label ?_ | refine awp_skip ?_ | refine awp_exit ?_ | refine awp_cd ?_ | refine awp_ret ?_ | refine go_split (fun _h => ?_) (fun _h => ?_)) <;> try simp (maxSteps := 4000000) only [go_sem, seval, htk])
    | (intro _h)
    | (refine awp_block ?_)
    | (refine awp_scope ?_)
    | (refine cond_b (fun _h => ?_) (fun _h => ?_))
    | (show heapOK _ _ = true; kernel_rfl)
    | (show heapOK2 _ _ = true; kernel_rfl)
    | (omega)))
          all_goals trace_state
theorem same_c (t u : Ann) (ht : annOK t) (hu : annOK u) : CallS Try.prog 40 [.agg (annC t), .agg (annC u)] (.bool (decide (t.reports = u.reports ∧ t.claims = u.claims ∧ t.rest = u.rest))) := by
  obtain ⟨ht1, ht2⟩ := ht
  obtain ⟨hu1, hu2⟩ := hu
  have ext : ∀ {α : Type} [Inhabited α] {a b : List α}, a.length = b.length → (∀ j, j < a.length → a.getD j default = b.getD j default) → a = b := fun {α} _ {a b} h1 h2 => by
    apply List.ext_getElem h1
    intro i hi hj
    have := h2 i hi
    simpa [List.getD_eq_getElem?_getD, hi, hj] using this
  have hyes : t.reports.length = u.reports.length → t.claims.length = u.claims.length → t.rest = u.rest → (∀ j, j < t.reports.length → t.reports.getD j default = u.reports.getD j default) → (∀ j, j < t.claims.length → t.claims.getD j default = u.claims.getD j default) → true = decide (t.reports = u.reports ∧ t.claims = u.claims ∧ t.rest = u.rest) := fun a b c d e => (decide_eq_true ⟨ext a d, ext b e, c⟩).symm
  have hno1 : ¬ (t.reports.length = u.reports.length ∧ t.claims.length = u.claims.length ∧ t.rest = u.rest) → false = decide (t.reports = u.reports ∧ t.claims = u.claims ∧ t.rest = u.rest) := fun h => (decide_eq_false (fun ⟨a, b, c⟩ => h ⟨by rw [a], by rw [b], c⟩)).symm
  have hno2 : ∀ j, ¬ t.reports.getD j default = u.reports.getD j default → false = decide (t.reports = u.reports ∧ t.claims = u.claims ∧ t.rest = u.rest) := fun j h => (decide_eq_false (fun ⟨a, b, c⟩ => h (by rw [a]))).symm
  have hno3 : ∀ j, ¬ t.claims.getD j default = u.claims.getD j default → false = decide (t.reports = u.reports ∧ t.claims = u.claims ∧ t.rest = u.rest) := fun j h => (decide_eq_false (fun ⟨a, b, c⟩ => h (by rw [b]))).symm
  generalize decide (t.reports = u.reports ∧ t.claims = u.claims ∧ t.rest = u.rest) = r at *
  clear ext
  (refine callS_of_awp (fun w args => Try.call40 ..) Try.func40 rfl (fun w0 m0 wz => ?_); simp only [Try.ntmps40, Try.results40, initT, junks, rptC, clmC, slR, slC, annC, sl, List.toList_toArray, List.cons_append, List.nil_append, List.length_cons, List.length_nil, Nat.reduceAdd, Nat.reduceSub])
  (repeat' (first
    | (refine awp_seqK ?_)
    | (refine kt ?_)
    | (refine And.intro ?_ ?_)
    | ((first | refine awp_region ?_ | refine awp_draw (by kernel_rfl) (by kernel_rfl) ?_ | refine Imp.le2 ?_ | refine awp_label ?_ | refine awp_skip ?_ | refine awp_exit ?_ | refine awp_cd ?_ | refine awp_ret ?_ | refine go_split (fun _h => ?_) (fun _h => ?_)) <;> try simp (maxSteps := 4000000) only [go_sem, seval])
    | (intro _h)
    | (refine awp_block ?_)
    | (refine awp_scope ?_)
    | (refine cond_b (fun _h => ?_) (fun _h => ?_))
    | (show heapOK _ _ = true; kernel_rfl)
    | (show heapOK2 _ _ = true; kernel_rfl)
    | (omega)))
  all_goals first
    | exact hno1 (by omega)
    | exact (hno1 (by omega)).symm
    | skip
  refine awp_loopJ (fun i : Nat => i ≤ t.reports.length ∧ ∀ j, j < i → t.reports.getD j default = u.reports.getD j default) (fun i => ⟨mkT 106 [(2, .ptr 0 0 0), (3, .ptr 1 0 0), (5, .int .i64 i)], [some (.cells 35 1 0 (annC t)), some (.cells 25 1 0 (annC u))], []⟩) (fun i => t.reports.length - i) 0 ⟨Nat.zero_le _, fun j h => by omega⟩ (.le2 ?_) ?_
  · simp only [annC, slR, slC]; simp (maxSteps := 4000000) only [go_sem, seval]
    all_goals first | rfl | exact ⟨rfl, rfl⟩ | trace_state
  · rintro i ⟨hi, hj⟩
    rcases Nat.lt_or_eq_of_le hi with hi1 | hi1
    · have hn2 := hno2 i
      have hs : t.reports.getD i default = u.reports.getD i default → ∀ j, j < i + 1 → t.reports.getD j default = u.reports.getD j default := fun h j hji => by
        rcases Nat.lt_succ_iff_lt_or_eq.1 hji with h1 | h1
        · exact hj j h1
        · rw [h1]; exact h
      obtain ⟨x, hx⟩ : ∃ x, t.reports.getD i default = x := ⟨_, rfl⟩
      obtain ⟨y, hy⟩ : ∃ y, u.reports.getD i default = y := ⟨_, rfl⟩
      rw [hx, hy] at hn2 hs
      obtain ⟨x1, x2, x3⟩ := x
      obtain ⟨y1, y2, y3⟩ := y
      simp only [Rpt.mk.injEq] at hn2 hs
      simp only [annC, slR, slC]; simp (maxSteps := 4000000) only [go_sem, seval]
      (repeat' (first
    | ((exact eqOK 48))
    | ((exact tkb48))
    | ((show _ = _; exact tkb48))
    | ((exfalso; omega))
    | ((omega))
    | (refine awp_seqK ?_)
    | (refine kt ?_)
    | (refine And.intro ?_ ?_)
    | ((first | refine awp_region ?_ | refine awp_draw (by kernel_rfl) (by kernel_rfl) ?_ | refine Imp.le2 ?_ | refine awp_label ?_ | refine awp_skip ?_ | refine awp_exit ?_ | refine awp_cd ?_ | refine awp_ret ?_ | refine callK_of (span_c _ _) ?_ | refine go_split (fun _h => ?_) (fun _h => ?_)) <;> try simp (maxSteps := 4000000) only [go_sem, seval, hx, hy])
    | (intro _h)
    | (refine awp_block ?_)
    | (refine awp_scope ?_)
    | (refine cond_b (fun _h => ?_) (fun _h => ?_))
    | (show heapOK _ _ = true; kernel_rfl)
    | (show heapOK2 _ _ = true; kernel_rfl)
    | (omega)))
      · simp at _h
        exact (hn2 (by omega)).symm
      · simp at _h
        refine ⟨i + 1, ⟨by omega, hs (by omega)⟩, by omega, .le2 ?_⟩
        simp (maxSteps := 4000000) only [go_sem, seval]
        all_goals first | rfl | exact ⟨rfl, rfl⟩ | trace_state
      · exact (hn2 (by omega)).symm
    · subst hi1
      simp only [annC, slR, slC]; simp (maxSteps := 4000000) only [go_sem, seval]
      (repeat' (first
    | ((exfalso; omega))
    | (refine awp_seqK ?_)
    | (refine kt ?_)
    | (refine And.intro ?_ ?_)
    | ((first | refine awp_region ?_ | refine awp_draw (by kernel_rfl) (by kernel_rfl) ?_ | refine Imp.le2 ?_ | refine awp_label ?_ | refine awp_skip ?_ | refine awp_exit ?_ | refine awp_cd ?_ | refine awp_ret ?_ | refine go_split (fun _h => ?_) (fun _h => ?_)) <;> try simp (maxSteps := 4000000) only [go_sem, seval])
    | (intro _h)
    | (refine awp_block ?_)
    | (refine awp_scope ?_)
    | (refine cond_b (fun _h => ?_) (fun _h => ?_))
    | (show heapOK _ _ = true; kernel_rfl)
    | (show heapOK2 _ _ = true; kernel_rfl)
    | (omega)))
      have hyes2 := hyes (by omega) (by omega) (by omega) hj
      clear hyes
      refine awp_loopJ (fun i : Nat => i ≤ t.claims.length ∧ ∀ j, j < i → t.claims.getD j default = u.claims.getD j default) (fun i => ⟨mkT 106 [(2, .ptr 0 0 0), (3, .ptr 1 0 0), (6, .int .i64 i)], [some (.cells 35 1 0 (annC t)), some (.cells 25 1 0 (annC u))], []⟩) (fun i => t.claims.length - i) 0 ⟨Nat.zero_le _, fun j h => by omega⟩ (.le2 ?_) ?_
      · simp only [annC, slR, slC]; simp (maxSteps := 4000000) only [go_sem, seval]
        all_goals first | rfl | exact ⟨rfl, rfl⟩ | trace_state
      · rintro i ⟨hi, hj⟩
        rcases Nat.lt_or_eq_of_le hi with hi1 | hi1
        · have hn3 := hno3 i
          have hs : t.claims.getD i default = u.claims.getD i default → ∀ j, j < i + 1 → t.claims.getD j default = u.claims.getD j default := fun h j hji => by
            rcases Nat.lt_succ_iff_lt_or_eq.1 hji with h1 | h1
            · exact hj j h1
            · rw [h1]; exact h
          obtain ⟨x, hx⟩ : ∃ x, t.claims.getD i default = x := ⟨_, rfl⟩
          obtain ⟨y, hy⟩ : ∃ y, u.claims.getD i default = y := ⟨_, rfl⟩
          rw [hx, hy] at hn3 hs
          obtain ⟨x1, x2, x3⟩ := x
          obtain ⟨y1, y2, y3⟩ := y
          simp only [Clm.mk.injEq] at hn3 hs
          simp only [annC, slR, slC]; simp (maxSteps := 4000000) only [go_sem, seval]
          (repeat' (first
    | ((exact eqOK 73))
    | ((exact tkb73))
    | ((show _ = _; exact tkb73))
    | ((exfalso; omega))
    | ((omega))
    | (refine awp_seqK ?_)
    | (refine kt ?_)
    | (refine And.intro ?_ ?_)
    | ((first | refine awp_region ?_ | refine awp_draw (by kernel_rfl) (by kernel_rfl) ?_ | refine Imp.le2 ?_ | refine awp_label ?_ | refine awp_skip ?_ | refine awp_exit ?_ | refine awp_cd ?_ | refine awp_ret ?_ | refine go_split (fun _h => ?_) (fun _h => ?_)) <;> try simp (maxSteps := 4000000) only [go_sem, seval, hx, hy])
    | (intro _h)
    | (refine awp_block ?_)
    | (refine awp_scope ?_)
    | (refine cond_b (fun _h => ?_) (fun _h => ?_))
    | (show heapOK _ _ = true; kernel_rfl)
    | (show heapOK2 _ _ = true; kernel_rfl)
    | (omega)))
          · simp at _h
            exact (hn3 (by omega)).symm
          · simp at _h
            refine ⟨i + 1, ⟨by omega, hs (by omega)⟩, by omega, .le2 ?_⟩
            simp (maxSteps := 4000000) only [go_sem, seval]
            all_goals first | rfl | exact ⟨rfl, rfl⟩ | trace_state
        · subst hi1
          simp only [annC, slR, slC]; simp (maxSteps := 4000000) only [go_sem, seval]
          (repeat' (first
    | ((exfalso; omega))
    | (refine awp_seqK ?_)
    | (refine kt ?_)
    | (refine And.intro ?_ ?_)
    | ((first | refine awp_region ?_ | refine awp_draw (by kernel_rfl) (by kernel_rfl) ?_ | refine Imp.le2 ?_ | refine awp_label ?_ | refine awp_skip ?_ | refine awp_exit ?_ | refine awp_cd ?_ | refine awp_ret ?_ | refine go_split (fun _h => ?_) (fun _h => ?_)) <;> try simp (maxSteps := 4000000) only [go_sem, seval])
    | (intro _h)
    | (refine awp_block ?_)
    | (refine awp_scope ?_)
    | (refine cond_b (fun _h => ?_) (fun _h => ?_))
    | (show heapOK _ _ = true; kernel_rfl)
    | (show heapOK2 _ _ = true; kernel_rfl)
    | (omega)))
          exact (hyes2 hj).symm
end Go.Am

/- Contracts of the annals functions: annals without some statements, checked. -/
namespace Go.Am
open Go.RowKit Go.Proofs
attribute [local irreducible] AWP CallS Kt goK CallK stepK evOps SemF SemY Imp
set_option maxRecDepth 4000
set_option linter.unusedSimpArgs false
set_option linter.unusedVariables false
set_option maxHeartbeats 1600000

/-- How many numbers of a list rise from v on, below n, and the last one that was seen. -/
def runUp (n : Int) : Int → List Int → Nat × Int
  | v, [] => (0, v)
  | v, x :: xs => if v + 1 ≤ x ∧ x ≤ n - 1 then ((runUp n x xs).1 + 1, (runUp n x xs).2) else (0, x)
def nSt (t : Ann) : Int := (t.reports.length : Int) + t.claims.length
def L0 (v : Int) : Option ABlk := some (.cells 3 1 0 [.int .i64 v])
def A1 (t : Ann) : Option ABlk := some (.cells 35 1 0 (annC t))
def R2 : Option ABlk := some (.cells 119 1 0 [.fn (.func 66) [] [.ptr 0 0 0, .ptr 1 0 0]])
theorem rise_c (t : Ann) (v x : Int) (ht : annOK t) (hv : -1 ≤ v ∧ v ≤ 2000000) : SemF Try.prog 66 [.int .i64 x, .ptr 0 0 0, .ptr 1 0 0] [L0 v, A1 t] (.bool (decide (v + 1 ≤ x ∧ x ≤ nSt t - 1))) [L0 x, A1 t] := by
  have hs := stats_c t ht
  obtain ⟨h1, h2⟩ := ht
  unfold nSt
  simp only [L0, A1, annC, slR, slC] at hs ⊢
  (refine semF_of_awp (ys := [.bool (decide (v + 1 ≤ x ∧ x ≤ (t.reports.length : Int) + t.claims.length - 1))]) (fun w args => Try.call66 ..) Try.func66 rfl (fun w0 m0 wz => ?_); simp only [Try.ntmps66, Try.results66, initT, junks, rptC, clmC, slR, slC, annC, sl, List.toList_toArray, List.cons_append, List.nil_append, List.length_cons, List.length_nil, Nat.reduceAdd, Nat.reduceSub])
  (repeat' (first
    | (refine awp_seqK ?_)
    | (refine kt ?_)
    | (refine And.intro ?_ ?_)
    | ((first | refine awp_region ?_ | refine awp_draw (by kernel_rfl) (by kernel_rfl) ?_ | refine Imp.le2 ?_ | refine awp_label ?_ | refine awp_skip ?_ | refine awp_exit ?_ | refine awp_cd ?_ | refine awp_ret ?_ | refine callK_of (hs) ?_ | refine callK_of (within_c _ _ _) ?_ | refine go_split (fun _h => ?_) (fun _h => ?_)) <;> try simp (maxSteps := 4000000) only [go_sem, seval])
    | (intro _h)
    | (refine awp_block ?_)
    | (refine awp_scope ?_)
    | (refine cond_b (fun _h => ?_) (fun _h => ?_))
    | (show heapOK _ _ = true; kernel_rfl)
    | (show heapOK2 _ _ = true; kernel_rfl)
    | (omega)))
  all_goals first | exact (decide_eq_true ‹_›).symm | exact (decide_eq_false ‹_›).symm | trace_state
theorem rise1_c (t : Ann) (v x : Int) (ht : annOK t) (hv : -1 ≤ v ∧ v ≤ 2000000) : SemF Try.prog 97 [.int .i64 x, .ptr 2 0 0] [L0 v, A1 t, R2] (.bool (!decide (v + 1 ≤ x ∧ x ≤ nSt t - 1))) [L0 x, A1 t, R2] := by
  have h1 := rise_c t v x ht hv
  simp only [L0, A1, R2, annC, slR, slC] at h1 ⊢
  generalize decide (v + 1 ≤ x ∧ x ≤ nSt t - 1) = q at *
  (refine semF_of_awp (ys := [.bool (!q)]) (fun w args => Try.call97 ..) Try.func97 rfl (fun w0 m0 wz => ?_); simp only [Try.ntmps97, Try.results97, initT, junks, rptC, clmC, slR, slC, annC, sl, List.toList_toArray, List.cons_append, List.nil_append, List.length_cons, List.length_nil, Nat.reduceAdd, Nat.reduceSub])
  (repeat' (first
    | (refine awp_ownN 2 rfl ?_; simp (maxSteps := 4000000) only [go_sem, seval, List.take_succ_cons, List.take_zero]; (repeat refine And.intro (by omega) ?_); refine own_go (h1) [0, 1] rfl ?_ ?_ rfl ?_ <;> try simp (maxSteps := 4000000) only [go_sem, seval, Nat.lt_irrefl] <;> try decide)
    | (refine awp_seqK ?_)
    | (refine kt ?_)
    | (refine And.intro ?_ ?_)
    | ((first | refine awp_region ?_ | refine awp_draw (by kernel_rfl) (by kernel_rfl) ?_ | refine Imp.le2 ?_ | refine awp_label ?_ | refine awp_skip ?_ | refine awp_exit ?_ | refine awp_cd ?_ | refine awp_ret ?_ | refine go_split (fun _h => ?_) (fun _h => ?_)) <;> try simp (maxSteps := 4000000) only [go_sem, seval])
    | (intro _h)
    | (refine awp_block ?_)
    | (refine awp_scope ?_)
    | (refine cond_b (fun _h => ?_) (fun _h => ?_))
    | (show heapOK _ _ = true; kernel_rfl)
    | (show heapOK2 _ _ = true; kernel_rfl)
    | (omega))) <;> simp [*]
theorem riseI_c (t : Ann) (v : Int) (l : List Int) (ht : annOK t) (hv : -1 ≤ v ∧ v ≤ 2000000) (hl : l.length ≤ 1000000) : SemF Try.prog 111 [sl l, .fn (.func 97) [] [.ptr 2 0 0]] [L0 v, A1 t, R2] (.int .i64 (if (runUp (nSt t) v l).1 = l.length then -1 else (runUp (nSt t) v l).1)) [L0 (runUp (nSt t) v l).2, A1 t, R2] := by
  have hq := fun v i hv => rise1_c t v (l.getD i 0) ht hv
  have hd : ∀ i, i < l.length → l.drop i = l.getD i 0 :: l.drop (i + 1) := fun i hi => by
    rw [List.drop_eq_getElem_cons hi]; simp [List.getD_eq_getElem?_getD, hi]
  obtain ⟨R, hR⟩ : ∃ R, runUp (nSt t) v l = R := ⟨_, rfl⟩
  rw [hR]
  simp only [L0, A1, R2, annC, slR, slC] at hq ⊢
  (refine semF_of_awp (ys := [.int .i64 (if R.1 = l.length then -1 else R.1)]) (fun w args => Try.call111 ..) Try.func111 rfl (fun w0 m0 wz => ?_); simp only [Try.ntmps111, Try.results111, initT, junks, rptC, clmC, slR, slC, annC, sl, List.toList_toArray, List.cons_append, List.nil_append, List.length_cons, List.length_nil, Nat.reduceAdd, Nat.reduceSub])
  (repeat' (first
    | (refine awp_seqK ?_)
    | (refine kt ?_)
    | (refine And.intro ?_ ?_)
    | ((first | refine awp_region ?_ | refine awp_draw (by kernel_rfl) (by kernel_rfl) ?_ | refine Imp.le2 ?_ | refine awp_label ?_ | refine awp_skip ?_ | refine awp_exit ?_ | refine awp_cd ?_ | refine awp_ret ?_ | refine go_split (fun _h => ?_) (fun _h => ?_)) <;> try simp (maxSteps := 4000000) only [go_sem, seval])
    | (intro _h)
    | (refine awp_block ?_)
    | (refine awp_scope ?_)
    | (refine cond_b (fun _h => ?_) (fun _h => ?_))
    | (show heapOK _ _ = true; kernel_rfl)
    | (show heapOK2 _ _ = true; kernel_rfl)
    | (omega)))
  refine awp_loopJ (fun y : Nat × Int => y.1 ≤ l.length ∧ (-1 ≤ y.2 ∧ y.2 ≤ 2000000) ∧ R = (y.1 + (runUp (nSt t) y.2 (l.drop y.1)).1, (runUp (nSt t) y.2 (l.drop y.1)).2)) (fun y => ⟨mkT 19 [(0, sl l), (1, .fn (.func 97) [] [.ptr 2 0 0]), (6, sl l), (7, .int .i64 l.length), (8, .int .i64 y.1)], [L0 y.2, A1 t, R2], []⟩) (fun y => l.length - y.1) (0, v) ⟨Nat.zero_le _, hv, by simp [hR]⟩ (.le2 ?_) ?_
  · simp only [L0, A1, R2, annC, slR, slC]; simp (maxSteps := 4000000) only [go_sem, seval]
    all_goals first | rfl | exact ⟨rfl, rfl⟩ | exact ⟨rfl, rfl, rfl⟩
  · rintro ⟨i, v⟩ ⟨hi, hv, hj⟩
    clear hR
    simp only at hi hv hj
    rcases Nat.lt_or_eq_of_le hi with hi1 | hi1
    · have hqi := hq v i hv
      rw [hd i hi1] at hj
      simp only [runUp] at hj
      obtain ⟨q, hqe⟩ : ∃ q, decide (v + 1 ≤ l.getD i 0 ∧ l.getD i 0 ≤ nSt t - 1) = q := ⟨_, rfl⟩
      have hn : nSt t ≤ 2000000 := by unfold nSt; have := ht.1; have := ht.2; omega
      rw [hqe] at hqi
      cases q with
      | true =>
        rw [if_pos (of_decide_eq_true hqe)] at hj
        simp only [L0, A1, R2, annC, slR, slC]; simp (maxSteps := 4000000) only [go_sem, seval]
        (repeat' (first
    | (refine awp_ownN 5 rfl ?_; simp (maxSteps := 4000000) only [go_sem, seval, List.take_succ_cons, List.take_zero]; (repeat refine And.intro (by omega) ?_); refine own_go (hqi) [0, 1, 2] rfl ?_ ?_ rfl ?_ <;> try simp (maxSteps := 4000000) only [go_sem, seval, Nat.lt_irrefl] <;> try decide)
    | ((omega))
    | ((exfalso; omega))
    | (refine awp_seqK ?_)
    | (refine kt ?_)
    | (refine And.intro ?_ ?_)
    | ((first | refine awp_region ?_ | refine awp_draw (by kernel_rfl) (by kernel_rfl) ?_ | refine Imp.le2 ?_ | refine awp_label ?_ | refine awp_skip ?_ | refine awp_exit ?_ | refine awp_cd ?_ | refine awp_ret ?_ | refine go_split (fun _h => ?_) (fun _h => ?_)) <;> try simp (maxSteps := 4000000) only [go_sem, seval])
    | (intro _h)
    | (refine awp_block ?_)
    | (refine awp_scope ?_)
    | (refine cond_b (fun _h => ?_) (fun _h => ?_))
    | (show heapOK _ _ = true; kernel_rfl)
    | (show heapOK2 _ _ = true; kernel_rfl)
    | (omega)))
        refine ⟨(i + 1, l.getD i 0), ⟨by show i + 1 ≤ l.length; omega, ?_, ?_⟩, by show l.length - (i + 1) < l.length - i; omega, .le2 ?_⟩
        · have := of_decide_eq_true hqe
          show -1 ≤ l.getD i 0 ∧ l.getD i 0 ≤ 2000000
          omega
        · rw [hj]
          simp only [Prod.mk.injEq, and_true]
          omega
        · simp (maxSteps := 4000000) only [go_sem, seval]
          all_goals first | rfl | exact ⟨rfl, rfl⟩ | trace_state
      | false =>
        rw [if_neg (of_decide_eq_false hqe)] at hj
        subst hj
        simp only [L0, A1, R2, annC, slR, slC]; simp (maxSteps := 4000000) only [go_sem, seval]
        (repeat' (first
    | (refine awp_ownN 5 rfl ?_; simp (maxSteps := 4000000) only [go_sem, seval, List.take_succ_cons, List.take_zero]; (repeat refine And.intro (by omega) ?_); refine own_go (hqi) [0, 1, 2] rfl ?_ ?_ rfl ?_ <;> try simp (maxSteps := 4000000) only [go_sem, seval, Nat.lt_irrefl] <;> try decide)
    | ((omega))
    | ((exfalso; omega))
    | (refine awp_seqK ?_)
    | (refine kt ?_)
    | (refine And.intro ?_ ?_)
    | ((first | refine awp_region ?_ | refine awp_draw (by kernel_rfl) (by kernel_rfl) ?_ | refine Imp.le2 ?_ | refine awp_label ?_ | refine awp_skip ?_ | refine awp_exit ?_ | refine awp_cd ?_ | refine awp_ret ?_ | refine go_split (fun _h => ?_) (fun _h => ?_)) <;> try simp (maxSteps := 4000000) only [go_sem, seval])
    | (intro _h)
    | (refine awp_block ?_)
    | (refine awp_scope ?_)
    | (refine cond_b (fun _h => ?_) (fun _h => ?_))
    | (show heapOK _ _ = true; kernel_rfl)
    | (show heapOK2 _ _ = true; kernel_rfl)
    | (omega)))
        all_goals first | (rw [if_neg (by omega)]; rfl) | trace_state
    · subst hi1
      simp only [List.drop_length, runUp] at hj
      subst hj
      simp only [L0, A1, R2, annC, slR, slC]; simp (maxSteps := 4000000) only [go_sem, seval]
      (repeat' (first
    | ((exfalso; omega))
    | (refine awp_seqK ?_)
    | (refine kt ?_)
    | (refine And.intro ?_ ?_)
    | ((first | refine awp_region ?_ | refine awp_draw (by kernel_rfl) (by kernel_rfl) ?_ | refine Imp.le2 ?_ | refine awp_label ?_ | refine awp_skip ?_ | refine awp_exit ?_ | refine awp_cd ?_ | refine awp_ret ?_ | refine go_split (fun _h => ?_) (fun _h => ?_)) <;> try simp (maxSteps := 4000000) only [go_sem, seval])
    | (intro _h)
    | (refine awp_block ?_)
    | (refine awp_scope ?_)
    | (refine cond_b (fun _h => ?_) (fun _h => ?_))
    | (show heapOK _ _ = true; kernel_rfl)
    | (show heapOK2 _ _ = true; kernel_rfl)
    | (omega)))
def risesB (t : Ann) (v : Int) (l : List Int) : Bool := decide ((runUp (nSt t) v l).1 = l.length)
theorem runUp_le {n : Int} : ∀ {l : List Int} {v : Int}, (runUp n v l).1 ≤ l.length
  | [], _ => Nat.le_refl _
  | x :: xs, v => by
    simp only [runUp]
    split
    · have := runUp_le (n := n) (l := xs) (v := x); simp; omega
    · simp
theorem riseH_c (t : Ann) (v : Int) (l : List Int) (ht : annOK t) (hv : -1 ≤ v ∧ v ≤ 2000000) (hl : l.length ≤ 1000000) : SemF Try.prog 96 [sl l, .fn (.func 97) [] [.ptr 2 0 0]] [L0 v, A1 t, R2] (.bool (!risesB t v l)) [L0 (runUp (nSt t) v l).2, A1 t, R2] := by
  have h := riseI_c t v l ht hv hl
  have hle := runUp_le (n := nSt t) (l := l) (v := v)
  have he : decide (0 ≤ (if (runUp (nSt t) v l).1 = l.length then (-1 : Int) else (runUp (nSt t) v l).1)) = !risesB t v l := by
    unfold risesB
    by_cases hc : (runUp (nSt t) v l).1 = l.length
    · rw [if_pos hc, decide_eq_true hc]; rfl
    · rw [if_neg hc, decide_eq_false hc]; simp
  rw [← he]
  clear he
  generalize (if (runUp (nSt t) v l).1 = l.length then (-1 : Int) else (runUp (nSt t) v l).1) = r at *
  simp only [L0, A1, R2, annC, slR, slC, sl] at h ⊢
  (refine semF_of_awp (ys := [.bool (decide (0 ≤ r))]) (fun w args => Try.call96 ..) Try.func96 rfl (fun w0 m0 wz => ?_); simp only [Try.ntmps96, Try.results96, initT, junks, rptC, clmC, slR, slC, annC, sl, List.toList_toArray, List.cons_append, List.nil_append, List.length_cons, List.length_nil, Nat.reduceAdd, Nat.reduceSub])
  (repeat' (first
    | (refine awp_ownN 2 rfl ?_; simp (maxSteps := 4000000) only [go_sem, seval, List.take_succ_cons, List.take_zero]; (repeat refine And.intro (by omega) ?_); refine own_go (h) [0, 1, 2] rfl ?_ ?_ rfl ?_ <;> try simp (maxSteps := 4000000) only [go_sem, seval, Nat.lt_irrefl] <;> try decide)
    | (refine awp_seqK ?_)
    | (refine kt ?_)
    | (refine And.intro ?_ ?_)
    | ((first | refine awp_region ?_ | refine awp_draw (by kernel_rfl) (by kernel_rfl) ?_ | refine Imp.le2 ?_ | refine awp_label ?_ | refine awp_skip ?_ | refine awp_exit ?_ | refine awp_cd ?_ | refine awp_ret ?_ | refine go_split (fun _h => ?_) (fun _h => ?_)) <;> try simp (maxSteps := 4000000) only [go_sem, seval])
    | (intro _h)
    | (refine awp_block ?_)
    | (refine awp_scope ?_)
    | (refine cond_b (fun _h => ?_) (fun _h => ?_))
    | (show heapOK _ _ = true; kernel_rfl)
    | (show heapOK2 _ _ = true; kernel_rfl)
    | (omega))) <;> simp [*]
theorem riseA_c (t : Ann) (v : Int) (l : List Int) (ht : annOK t) (hv : -1 ≤ v ∧ v ≤ 2000000) (hl : l.length ≤ 1000000) : SemF Try.prog 68 [sl l, .fn (.func 66) [] [.ptr 0 0 0, .ptr 1 0 0]] [L0 v, A1 t] (.bool (risesB t v l)) [L0 (runUp (nSt t) v l).2, A1 t] := by
  have h := riseH_c t v l ht hv hl
  generalize risesB t v l = r at *
  simp only [L0, A1, R2, annC, slR, slC, sl] at h ⊢
  (refine semF_of_awp (ys := [.bool r]) (fun w args => Try.call68 ..) Try.func68 rfl (fun w0 m0 wz => ?_); simp only [Try.ntmps68, Try.results68, initT, junks, rptC, clmC, slR, slC, annC, sl, List.toList_toArray, List.cons_append, List.nil_append, List.length_cons, List.length_nil, Nat.reduceAdd, Nat.reduceSub])
  (repeat' (first
    | (refine awp_ownN 2 rfl ?_; simp (maxSteps := 4000000) only [go_sem, seval, List.take_succ_cons, List.take_zero]; (repeat refine And.intro (by omega) ?_); refine own_go (h) [0, 1, 2] rfl ?_ ?_ rfl ?_ <;> try simp (maxSteps := 4000000) only [go_sem, seval, Nat.lt_irrefl] <;> try decide)
    | (refine awp_seqK ?_)
    | (refine kt ?_)
    | (refine And.intro ?_ ?_)
    | ((first | refine awp_region ?_ | refine awp_draw (by kernel_rfl) (by kernel_rfl) ?_ | refine Imp.le2 ?_ | refine awp_label ?_ | refine awp_skip ?_ | refine awp_exit ?_ | refine awp_cd ?_ | refine awp_ret ?_ | refine go_split (fun _h => ?_) (fun _h => ?_)) <;> try simp (maxSteps := 4000000) only [go_sem, seval])
    | (intro _h)
    | (refine awp_block ?_)
    | (refine awp_scope ?_)
    | (refine cond_b (fun _h => ?_) (fun _h => ?_))
    | (show heapOK _ _ = true; kernel_rfl)
    | (show heapOK2 _ _ = true; kernel_rfl)
    | (omega)))
  all_goals first | (rw [Bool.not_not] at _h; exact _h.symm) | trace_state
def wE (t : Ann) (l : List Int) : Int := if faultA t = 0 then (if risesB t (-1) l then 0 else 2) else faultA t
def zAnn : List AV := [.nils, .nils, .int .i64 0]
def wV (t : Ann) (l : List Int) : AV := if wE t l = 0 then .agg (annC (withA t l)) else .agg zAnn
theorem Without_c (t : Ann) (l : List Int) (ht : annOK t) (hl : l.length ≤ 1000000) : CallS Try.prog 37 [.agg (annC t), sl l] (.tup [wV t l, .int .i64 (wE t l)]) := by
  have hch := check_c t ht
  have h := riseA_c t (-1) l ht (by omega) hl
  have hw := without_c t l ht hl
  unfold wV wE
  generalize (runUp (nSt t) (-1) l).2 = v2 at *
  by_cases h0 : faultA t = 0
  · rw [if_pos h0]
    rw [h0] at hch
    obtain ⟨W, hW⟩ : ∃ W, withA t l = W := ⟨_, rfl⟩
    rw [hW] at hw ⊢
    cases hr : risesB t (-1) l with
    | true =>
      rw [hr] at h
      rw [if_pos rfl, if_pos rfl]
      simp only [L0, A1, annC, slR, slC, zAnn, sl] at h hch hw ⊢
      (refine callS_of_awp (fun w args => Try.call37 ..) Try.func37 rfl (fun w0 m0 wz => ?_); simp only [Try.ntmps37, Try.results37, initT, junks, rptC, clmC, slR, slC, annC, sl, List.toList_toArray, List.cons_append, List.nil_append, List.length_cons, List.length_nil, Nat.reduceAdd, Nat.reduceSub])
      (repeat' (first
    | (refine awp_ownN 2 rfl ?_; simp (maxSteps := 4000000) only [go_sem, seval, List.take_succ_cons, List.take_zero]; (repeat refine And.intro (by omega) ?_); refine own_go (h) [2, 0] rfl ?_ ?_ rfl ?_ <;> try simp (maxSteps := 4000000) only [go_sem, seval, Nat.lt_irrefl] <;> try decide)
    | (refine awp_seqK ?_)
    | (refine kt ?_)
    | (refine And.intro ?_ ?_)
    | ((first | refine awp_region ?_ | refine awp_draw (by kernel_rfl) (by kernel_rfl) ?_ | refine Imp.le2 ?_ | refine awp_label ?_ | refine awp_skip ?_ | refine awp_exit ?_ | refine awp_cd ?_ | refine awp_ret ?_ | refine callK_of (hch) ?_ | refine callK_of (hw) ?_ | refine go_split (fun _h => ?_) (fun _h => ?_)) <;> try simp (maxSteps := 4000000) only [go_sem, seval])
    | (intro _h)
    | (refine awp_block ?_)
    | (refine awp_scope ?_)
    | (refine cond_b (fun _h => ?_) (fun _h => ?_))
    | (show heapOK _ _ = true; kernel_rfl)
    | (show heapOK2 _ _ = true; kernel_rfl)
    | (omega)))
      all_goals first | exact (rfl : AV.agg _ = AV.agg _) |  (exfalso; simp at _h; done) | trace_state
    | false =>
      rw [hr] at h
      rw [if_neg (by simp), if_neg (by simp)]
      simp only [L0, A1, annC, slR, slC, zAnn, sl] at h hch hw ⊢
      (refine callS_of_awp (fun w args => Try.call37 ..) Try.func37 rfl (fun w0 m0 wz => ?_); simp only [Try.ntmps37, Try.results37, initT, junks, rptC, clmC, slR, slC, annC, sl, List.toList_toArray, List.cons_append, List.nil_append, List.length_cons, List.length_nil, Nat.reduceAdd, Nat.reduceSub])
      (repeat' (first
    | (refine awp_ownN 2 rfl ?_; simp (maxSteps := 4000000) only [go_sem, seval, List.take_succ_cons, List.take_zero]; (repeat refine And.intro (by omega) ?_); refine own_go (h) [2, 0] rfl ?_ ?_ rfl ?_ <;> try simp (maxSteps := 4000000) only [go_sem, seval, Nat.lt_irrefl] <;> try decide)
    | (refine awp_seqK ?_)
    | (refine kt ?_)
    | (refine And.intro ?_ ?_)
    | ((first | refine awp_region ?_ | refine awp_draw (by kernel_rfl) (by kernel_rfl) ?_ | refine Imp.le2 ?_ | refine awp_label ?_ | refine awp_skip ?_ | refine awp_exit ?_ | refine awp_cd ?_ | refine awp_ret ?_ | refine callK_of (hch) ?_ | refine callK_of (hw) ?_ | refine go_split (fun _h => ?_) (fun _h => ?_)) <;> try simp (maxSteps := 4000000) only [go_sem, seval])
    | (intro _h)
    | (refine awp_block ?_)
    | (refine awp_scope ?_)
    | (refine cond_b (fun _h => ?_) (fun _h => ?_))
    | (show heapOK _ _ = true; kernel_rfl)
    | (show heapOK2 _ _ = true; kernel_rfl)
    | (omega)))
      all_goals first | exact (rfl : AV.agg _ = AV.agg _) |  (exfalso; simp at _h; done) | trace_state
  · rw [if_neg h0, if_neg h0]
    generalize faultA t = e at *
    simp only [L0, A1, annC, slR, slC, zAnn, sl] at h hch hw ⊢
    (refine callS_of_awp (fun w args => Try.call37 ..) Try.func37 rfl (fun w0 m0 wz => ?_); simp only [Try.ntmps37, Try.results37, initT, junks, rptC, clmC, slR, slC, annC, sl, List.toList_toArray, List.cons_append, List.nil_append, List.length_cons, List.length_nil, Nat.reduceAdd, Nat.reduceSub])
    (repeat' (first
    | ((omega))
    | ((exfalso; omega))
    | (refine awp_seqK ?_)
    | (refine kt ?_)
    | (refine And.intro ?_ ?_)
    | ((first | refine awp_region ?_ | refine awp_draw (by kernel_rfl) (by kernel_rfl) ?_ | refine Imp.le2 ?_ | refine awp_label ?_ | refine awp_skip ?_ | refine awp_exit ?_ | refine awp_cd ?_ | refine awp_ret ?_ | refine callK_of (hch) ?_ | refine go_split (fun _h => ?_) (fun _h => ?_)) <;> try simp (maxSteps := 4000000) only [go_sem, seval])
    | (intro _h)
    | (refine awp_block ?_)
    | (refine awp_scope ?_)
    | (refine cond_b (fun _h => ?_) (fun _h => ?_))
    | (show heapOK _ _ = true; kernel_rfl)
    | (show heapOK2 _ _ = true; kernel_rfl)
    | (omega)))
    all_goals first | exact (rfl : AV.agg _ = AV.agg _) | exact AV.noConfusion ‹AV.agg _ = AV.junk› | trace_state
end Go.Am

/- The law AnnalsWithout, as a contract: it returns true, if awake does. -/
namespace Go.Am
open Go.RowKit Go.Proofs
attribute [local irreducible] AWP CallS Kt goK CallK stepK evOps SemF SemY Imp
set_option maxRecDepth 4000
set_option linter.unusedSimpArgs false
set_option linter.unusedVariables false
set_option maxHeartbeats 1600000

theorem runUp_all {n : Int} : ∀ {l : List Int} {v : Int}, (runUp n v l).1 = l.length ↔ ∀ i, i < l.length → (v :: l).getD i 0 + 1 ≤ l.getD i 0 ∧ l.getD i 0 ≤ n - 1
  | [], _ => by simp [runUp]
  | x :: xs, v => by
    simp only [runUp]
    have ih := runUp_all (n := n) (l := xs) (v := x)
    constructor
    · intro h i hi
      split at h
      · rename_i hc
        cases i with
        | zero => simpa using hc
        | succ j =>
          have := ih.1 (by simp at h; omega) j (by simp at hi; omega)
          simpa using this
      · simp at h
    · intro h
      have h0 := h 0 (by simp)
      rw [if_pos (by simpa using h0)]
      show (runUp n x xs).1 + 1 = _
      rw [ih.2 fun j hj => by simpa using h (j + 1) (by simp; omega)]
      rfl
theorem rises_lis {t : Ann} {l : List Int} : risesB t (-1) l = decide (Lis (nSt t) l) := by
  unfold risesB
  rw [decide_eq_decide, runUp_all]
  constructor
  · intro h i hi
    have hlow : ∀ i, i < l.length → 0 ≤ l.getD i 0 := by
      intro i
      induction i with
      | zero => intro hi; have h1 : (-1 : Int) + 1 ≤ l.getD 0 0 := (h 0 hi).1; omega
      | succ j ih => intro hi; have h1 : l.getD j 0 + 1 ≤ l.getD (j + 1) 0 := (h (j + 1) hi).1; have h2 := ih (by omega); omega
    refine ⟨⟨hlow i hi, (h i hi).2⟩, fun h0 => ?_⟩
    cases i with
    | zero => omega
    | succ j => have h1 : l.getD j 0 + 1 ≤ l.getD (j + 1) 0 := (h (j + 1) hi).1; show l.getD j 0 < _; omega
  · intro h i hi
    obtain ⟨⟨h1, h2⟩, h3⟩ := h i hi
    refine ⟨?_, h2⟩
    cases i with
    | zero => show (-1 : Int) + 1 ≤ _; omega
    | succ j => have h4 : l.getD j 0 < l.getD (j + 1) 0 := h3 (by omega); show l.getD j 0 + 1 ≤ _; omega
theorem withA_ok {t : Ann} {l : List Int} (ht : annOK t) : annOK (withA t l) := by
  refine ⟨?_, ?_⟩
  · simp only [withA, tab_length]; exact ht.1
  · have := wClm_le (l := l) (t := t) t.claims.length
    have := ht.2
    simp only [withA]; omega
theorem same0_c : CallS Try.prog 40 [.agg zAnn, .agg zAnn] (.bool true) := by
  simp only [zAnn]
  (refine callS_of_awp (fun w args => Try.call40 ..) Try.func40 rfl (fun w0 m0 wz => ?_); simp only [Try.ntmps40, Try.results40, initT, junks, rptC, clmC, slR, slC, annC, sl, List.toList_toArray, List.cons_append, List.nil_append, List.length_cons, List.length_nil, Nat.reduceAdd, Nat.reduceSub])
  (repeat' (first
    | (refine awp_seqK ?_)
    | (refine kt ?_)
    | (refine And.intro ?_ ?_)
    | ((first | refine awp_region ?_ | refine awp_draw (by kernel_rfl) (by kernel_rfl) ?_ | refine Imp.le2 ?_ | refine awp_label ?_ | refine awp_skip ?_ | refine awp_exit ?_ | refine awp_cd ?_ | refine awp_ret ?_ | refine go_split (fun _h => ?_) (fun _h => ?_)) <;> try simp (maxSteps := 4000000) only [go_sem, seval])
    | (intro _h)
    | (refine awp_block ?_)
    | (refine awp_scope ?_)
    | (refine cond_b (fun _h => ?_) (fun _h => ?_))
    | (show heapOK _ _ = true; kernel_rfl)
    | (show heapOK2 _ _ = true; kernel_rfl)
    | (omega)))
  refine awp_loopN 0 (fun i => ⟨mkT 106 [(2, .ptr 0 0 0), (3, .ptr 1 0 0), (5, .int .i64 i)], [some (.cells 35 1 0 zAnn), some (.cells 25 1 0 zAnn)], []⟩) (.le2 ?_) ?_
  · simp only [zAnn]; simp (maxSteps := 4000000) only [go_sem, seval]
    all_goals first | rfl | exact ⟨rfl, rfl⟩ | trace_state
  · intro k hk
    obtain rfl : k = 0 := by omega
    simp only [zAnn]; simp (maxSteps := 4000000) only [go_sem, seval]
    (repeat' (first
    | (refine awp_seqK ?_)
    | (refine kt ?_)
    | (refine And.intro ?_ ?_)
    | ((first | refine awp_region ?_ | refine awp_draw (by kernel_rfl) (by kernel_rfl) ?_ | refine Imp.le2 ?_ | refine awp_label ?_ | refine awp_skip ?_ | refine awp_exit ?_ | refine awp_cd ?_ | refine awp_ret ?_ | refine go_split (fun _h => ?_) (fun _h => ?_)) <;> try simp (maxSteps := 4000000) only [go_sem, seval])
    | (intro _h)
    | (refine awp_block ?_)
    | (refine awp_scope ?_)
    | (refine cond_b (fun _h => ?_) (fun _h => ?_))
    | (show heapOK _ _ = true; kernel_rfl)
    | (show heapOK2 _ _ = true; kernel_rfl)
    | (omega)))
    refine awp_loopN 0 (fun i => ⟨mkT 106 [(2, .ptr 0 0 0), (3, .ptr 1 0 0), (6, .int .i64 i)], [some (.cells 35 1 0 zAnn), some (.cells 25 1 0 zAnn)], []⟩) (.le2 ?_) ?_
    · simp only [zAnn]; simp (maxSteps := 4000000) only [go_sem, seval]
      all_goals first | rfl | exact ⟨rfl, rfl⟩ | trace_state
    · intro k hk
      obtain rfl : k = 0 := by omega
      simp only [zAnn]; simp (maxSteps := 4000000) only [go_sem, seval]
      (repeat' (first
    | (refine awp_seqK ?_)
    | (refine kt ?_)
    | (refine And.intro ?_ ?_)
    | ((first | refine awp_region ?_ | refine awp_draw (by kernel_rfl) (by kernel_rfl) ?_ | refine Imp.le2 ?_ | refine awp_label ?_ | refine awp_skip ?_ | refine awp_exit ?_ | refine awp_cd ?_ | refine awp_ret ?_ | refine go_split (fun _h => ?_) (fun _h => ?_)) <;> try simp (maxSteps := 4000000) only [go_sem, seval])
    | (intro _h)
    | (refine awp_block ?_)
    | (refine awp_scope ?_)
    | (refine cond_b (fun _h => ?_) (fun _h => ?_))
    | (show heapOK _ _ = true; kernel_rfl)
    | (show heapOK2 _ _ = true; kernel_rfl)
    | (omega)))
/-- What is wrong with annals and statements. -/
theorem withoutLaw (hA : CallS Try.prog 17 [] (.bool true)) (t : Ann) (l : List Int) : CallS Try.prog 10 [.agg (annC t), sl l] (.bool true) := by
  have hth := thin_c t
  cases hT : thinB t with
  | false =>
    rw [hT] at hth
    simp only [annC, slR, slC] at hth ⊢
    (refine callS_of_awp (fun w args => Try.call10 ..) Try.func10 rfl (fun w0 m0 wz => ?_); simp only [Try.ntmps10, Try.results10, initT, junks, rptC, clmC, slR, slC, annC, sl, List.toList_toArray, List.cons_append, List.nil_append, List.length_cons, List.length_nil, Nat.reduceAdd, Nat.reduceSub])
    (repeat' (first
    | (refine awp_seqK ?_)
    | (refine kt ?_)
    | (refine And.intro ?_ ?_)
    | ((first | refine awp_region ?_ | refine awp_draw (by kernel_rfl) (by kernel_rfl) ?_ | refine Imp.le2 ?_ | refine awp_label ?_ | refine awp_skip ?_ | refine awp_exit ?_ | refine awp_cd ?_ | refine awp_ret ?_ | refine callK_of (hth) ?_ | refine callK_of (hA) ?_ | refine go_split (fun _h => ?_) (fun _h => ?_)) <;> try simp (maxSteps := 4000000) only [go_sem, seval])
    | (intro _h)
    | (refine awp_block ?_)
    | (refine awp_scope ?_)
    | (refine cond_b (fun _h => ?_) (fun _h => ?_))
    | (show heapOK _ _ = true; kernel_rfl)
    | (show heapOK2 _ _ = true; kernel_rfl)
    | (omega)))
    all_goals trace_state
  | true =>
    rw [hT] at hth
    by_cases hl : l.length ≤ 45
    · have ht := thinB_ok hT
      have han := annals_c t ht
      have hli := list_c l (by omega)
      have hwi := Without_c t l ht (by omega)
      have hfa := fault_c t ht
      have hls := listed_c t l ht (by omega)
      have hrw := rwithout_c t l ht (by omega)
      have hsa := same_c (withA t l) (withA t l) (withA_ok ht) (withA_ok ht)
      have hs0 := same0_c
      rw [decide_eq_true ⟨rfl, rfl, rfl⟩] at hsa
      rw [show (t.reports.length : Int) + t.claims.length = nSt t from rfl, ← rises_lis] at hls
      unfold wV wE at hwi
      generalize risesB t (-1) l = q at *
      generalize withA t l = W at *
      by_cases h0 : faultA t = 0
      · rw [h0] at hfa
        cases q with
        | true =>
          simp only [h0, if_true] at hwi
          simp only [annC, slR, slC, zAnn, sl] at *
          (refine callS_of_awp (fun w args => Try.call10 ..) Try.func10 rfl (fun w0 m0 wz => ?_); simp only [Try.ntmps10, Try.results10, initT, junks, rptC, clmC, slR, slC, annC, sl, List.toList_toArray, List.cons_append, List.nil_append, List.length_cons, List.length_nil, Nat.reduceAdd, Nat.reduceSub])
          (repeat' (first
    | (refine awp_seqK ?_)
    | (refine kt ?_)
    | (refine And.intro ?_ ?_)
    | ((first | refine awp_region ?_ | refine awp_draw (by kernel_rfl) (by kernel_rfl) ?_ | refine Imp.le2 ?_ | refine awp_label ?_ | refine awp_skip ?_ | refine awp_exit ?_ | refine awp_cd ?_ | refine awp_ret ?_ | refine callK_of (hth) ?_ | refine callK_of (han) ?_ | refine callK_of (hli) ?_ | refine callK_of (hwi) ?_ | refine callK_of (hfa) ?_ | refine callK_of (hls) ?_ | refine callK_of (hrw) ?_ | refine callK_of (hsa) ?_ | refine callK_of (hA) ?_ | refine go_split (fun _h => ?_) (fun _h => ?_)) <;> try simp (maxSteps := 4000000) only [go_sem, seval])
    | (intro _h)
    | (refine awp_block ?_)
    | (refine awp_scope ?_)
    | (refine cond_b (fun _h => ?_) (fun _h => ?_))
    | (show heapOK _ _ = true; kernel_rfl)
    | (show heapOK2 _ _ = true; kernel_rfl)
    | (omega)))
          all_goals trace_state
        | false =>
          simp only [h0, if_true, Bool.false_eq_true, if_false] at hwi
          simp only [annC, slR, slC, zAnn, sl] at *
          rw [if_neg (by omega)] at hwi
          (refine callS_of_awp (fun w args => Try.call10 ..) Try.func10 rfl (fun w0 m0 wz => ?_); simp only [Try.ntmps10, Try.results10, initT, junks, rptC, clmC, slR, slC, annC, sl, List.toList_toArray, List.cons_append, List.nil_append, List.length_cons, List.length_nil, Nat.reduceAdd, Nat.reduceSub])
          (repeat' (first
    | (refine awp_seqK ?_)
    | (refine kt ?_)
    | (refine And.intro ?_ ?_)
    | ((first | refine awp_region ?_ | refine awp_draw (by kernel_rfl) (by kernel_rfl) ?_ | refine Imp.le2 ?_ | refine awp_label ?_ | refine awp_skip ?_ | refine awp_exit ?_ | refine awp_cd ?_ | refine awp_ret ?_ | refine callK_of (hth) ?_ | refine callK_of (han) ?_ | refine callK_of (hli) ?_ | refine callK_of (hwi) ?_ | refine callK_of (hfa) ?_ | refine callK_of (hls) ?_ | refine callK_of (hs0) ?_ | refine callK_of (hA) ?_ | refine go_split (fun _h => ?_) (fun _h => ?_)) <;> try simp (maxSteps := 4000000) only [go_sem, seval])
    | (intro _h)
    | (refine awp_block ?_)
    | (refine awp_scope ?_)
    | (refine cond_b (fun _h => ?_) (fun _h => ?_))
    | (show heapOK _ _ = true; kernel_rfl)
    | (show heapOK2 _ _ = true; kernel_rfl)
    | (omega)))
          all_goals trace_state
      · generalize faultA t = e at *
        simp only [h0, if_false] at hwi
        simp only [annC, slR, slC, zAnn, sl] at *
        (refine callS_of_awp (fun w args => Try.call10 ..) Try.func10 rfl (fun w0 m0 wz => ?_); simp only [Try.ntmps10, Try.results10, initT, junks, rptC, clmC, slR, slC, annC, sl, List.toList_toArray, List.cons_append, List.nil_append, List.length_cons, List.length_nil, Nat.reduceAdd, Nat.reduceSub])
        (repeat' (first
    | ((omega))
    | ((exfalso; omega))
    | (refine awp_seqK ?_)
    | (refine kt ?_)
    | (refine And.intro ?_ ?_)
    | ((first | refine awp_region ?_ | refine awp_draw (by kernel_rfl) (by kernel_rfl) ?_ | refine Imp.le2 ?_ | refine awp_label ?_ | refine awp_skip ?_ | refine awp_exit ?_ | refine awp_cd ?_ | refine awp_ret ?_ | refine callK_of (hth) ?_ | refine callK_of (han) ?_ | refine callK_of (hli) ?_ | refine callK_of (hwi) ?_ | refine callK_of (hfa) ?_ | refine callK_of (hs0) ?_ | refine callK_of (hA) ?_ | refine go_split (fun _h => ?_) (fun _h => ?_)) <;> try simp (maxSteps := 4000000) only [go_sem, seval])
    | (intro _h)
    | (refine awp_block ?_)
    | (refine awp_scope ?_)
    | (refine cond_b (fun _h => ?_) (fun _h => ?_))
    | (show heapOK _ _ = true; kernel_rfl)
    | (show heapOK2 _ _ = true; kernel_rfl)
    | (omega)))
        all_goals trace_state
    · simp only [annC, slR, slC, sl] at hth ⊢
      (refine callS_of_awp (fun w args => Try.call10 ..) Try.func10 rfl (fun w0 m0 wz => ?_); simp only [Try.ntmps10, Try.results10, initT, junks, rptC, clmC, slR, slC, annC, sl, List.toList_toArray, List.cons_append, List.nil_append, List.length_cons, List.length_nil, Nat.reduceAdd, Nat.reduceSub])
      (repeat' (first
    | ((omega))
    | ((exfalso; omega))
    | (refine awp_seqK ?_)
    | (refine kt ?_)
    | (refine And.intro ?_ ?_)
    | ((first | refine awp_region ?_ | refine awp_draw (by kernel_rfl) (by kernel_rfl) ?_ | refine Imp.le2 ?_ | refine awp_label ?_ | refine awp_skip ?_ | refine awp_exit ?_ | refine awp_cd ?_ | refine awp_ret ?_ | refine callK_of (hth) ?_ | refine callK_of (hA) ?_ | refine go_split (fun _h => ?_) (fun _h => ?_)) <;> try simp (maxSteps := 4000000) only [go_sem, seval])
    | (intro _h)
    | (refine awp_block ?_)
    | (refine awp_scope ?_)
    | (refine cond_b (fun _h => ?_) (fun _h => ?_))
    | (show heapOK _ _ = true; kernel_rfl)
    | (show heapOK2 _ _ = true; kernel_rfl)
    | (omega)))
      all_goals trace_state
end Go.Am

/- The law AnnalsWithout, as a contract: it returns true. -/
namespace Go.Am
open Go.RowKit Go.Proofs
theorem annalsWithout_c (t : Ann) (l : List Int) : CallS Try.prog 10 [.agg (annC t), sl l] (.bool true) := withoutLaw awake_c t l
end Go.Am
