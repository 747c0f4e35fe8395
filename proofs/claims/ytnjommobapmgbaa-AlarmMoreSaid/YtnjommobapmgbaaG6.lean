/- Parts BlB, BlC, BlD, BlE, BlF, BlG, BlH, Aw, BlI, BlJ, BlK, RdD of the proof, one behind the other. No statement is proved here. -/
import Derived.Test.YtnjommobapmgbaaG5
import Derived.Test.YtnjommobapmgbaaG3
import Derived.Test.YtnjommobapmgbaaProg
import Derived.KernelRfl
set_option linter.unusedVariables false -- all
set_option linter.unusedSimpArgs false
/- Contracts of the alarm functions: those that may have failed. -/
namespace Go.Am
open Go.RowKit Go.Proofs
attribute [local irreducible] AWP CallS Kt goK CallK stepK evOps SemF SemY
set_option maxRecDepth 4000
set_option linter.unusedSimpArgs false
set_option linter.unusedVariables false
set_option maxHeartbeats 1600000
end Go.Am

/- Contracts of the alarm functions: whether speeds are a truth. -/
namespace Go.Am
open Go.RowKit Go.Proofs
attribute [local irreducible] AWP CallS Kt goK CallK stepK evOps SemF SemY
set_option maxRecDepth 4000
set_option linter.unusedSimpArgs false
set_option linter.unusedVariables false
set_option maxHeartbeats 1600000
/-- One hour of a truth. -/
def okT (p : Post) (reads : List (List Int)) (f : Int) (sp : List Int) (h : Nat) : Prop :=
  ((agreedEnds p.errs (reads.getD h []) f).1 ≤ sp.getD h 0 ∧ sp.getD h 0 ≤ (agreedEnds p.errs (reads.getD h []) f).2) ∧ (h = 0 ∨ (-p.drop ≤ sp.getD h 0 - sp.getD (h - 1) 0 ∧ sp.getD h 0 - sp.getD (h - 1) 0 ≤ p.gain))
instance {p : Post} {reads : List (List Int)} {f : Int} {sp : List Int} {h : Nat} : Decidable (okT p reads f sp h) := by unfold okT; exact inferInstance
end Go.Am

/- Lists that are told by a function; lists of bools; counts. What may be, by the reference's words. -/
namespace Go.Am
open Go.RowKit Go.Proofs
set_option linter.unusedSimpArgs false
set_option linter.unusedVariables false
/-- A list of n elements, told by a function. -/
def tab {α : Type} (n : Nat) (f : Nat → α) : List α := (List.range n).map f
section
variable {α : Type} {n : Nat} {f g : Nat → α}
theorem tab_length : (tab n f).length = n := by simp [tab]
theorem tab_getD {j : Nat} {d : α} (h : j < n) : (tab n f).getD j d = f j := by simp [tab, List.getD_eq_getElem?_getD, h]
end
attribute [go_sem] tab_length
end Go.Am

/- Contracts of the reference: what may be. -/
namespace Go.Am
open Go.RowKit Go.Proofs
attribute [local irreducible] AWP CallS Kt goK CallK stepK evOps SemF SemY Imp tab
set_option maxRecDepth 4000
set_option linter.unusedSimpArgs false
set_option linter.unusedVariables false
set_option maxHeartbeats 1600000
end Go.Am

/- Contracts of the reference: levels, states, truths, errors. -/
namespace Go.Am
open Go.RowKit Go.Proofs
attribute [local irreducible] AWP CallS Kt goK CallK stepK evOps SemF SemY Imp
set_option maxRecDepth 4000
set_option linter.unusedSimpArgs false
set_option linter.unusedVariables false
set_option maxHeartbeats 1600000
end Go.Am

/- Contracts: the reference's errors of posts; what the statements about posts use. -/
namespace Go.Am
open Go.RowKit Go.Proofs
attribute [local irreducible] AWP CallS Kt goK CallK stepK evOps SemF SemY Imp
set_option maxRecDepth 4000
set_option linter.unusedSimpArgs false
set_option linter.unusedVariables false
set_option maxHeartbeats 1600000
theorem right_c (p : Post) (hb : p.errs.length ≤ 9223372036854775807) : CallS Try.prog 34 [.agg (postC p)] (.bool (postB p)) := by
  have hyes : (∀ j, j < p.errs.length → 0 ≤ p.errs.getD j 0 ∧ p.errs.getD j 0 ≤ 1000) → p.errs.all speedB = true := fun h => by
    rw [List.all_eq_true]
    intro x hx
    obtain ⟨j, hj, rfl⟩ := List.mem_iff_getElem.1 hx
    have := h j hj
    rw [show p.errs.getD j 0 = p.errs[j] by simp [List.getD_eq_getElem?_getD, hj]] at this
    exact decide_eq_true this
  have hno : ∀ j, j < p.errs.length → ¬ (0 ≤ p.errs.getD j 0 ∧ p.errs.getD j 0 ≤ 1000) → p.errs.all speedB = false := fun j hj h => by
    cases ha : p.errs.all speedB with
    | false => rfl
    | true => exact absurd (of_decide_eq_true (all_getD ha j hj)) h
  unfold postB
  generalize p.errs.all speedB = al at *
  (refine callS_of_awp (fun w args => Try.call34 ..) Try.func34 rfl (fun w0 m0 wz => ?_); simp only [Try.ntmps34, Try.results34, initT, junks, postC, watchC, sll, sl, List.toList_toArray, List.cons_append, List.nil_append, List.length_cons, List.length_nil, Nat.reduceAdd, Nat.reduceSub])
  (repeat' (first
 | refine awp_seqK ?_
 | refine kt ?_
 | refine And.intro ?_ ?_
 | ((first | refine awp_stp rfl ?_ | refine awp_draw (by kernel_rfl) (by kernel_rfl) ?_ | refine Imp.le2 ?_ | refine go_split (fun _h => ?_) (fun _h => ?_)) <;> try simp (maxSteps := 4000000) only [go_sem, seval, List.append_eq, List.cons_append, List.nil_append, postC, watchC, sll])
 | intro _h
 | refine awp_block ?_
 | refine awp_scope ?_
 | (show heapOK _ _ = true; kernel_rfl)
 | (show heapOK2 _ _ = true; kernel_rfl)
 | (omega)))
  refine awp_loopJ (fun i : Nat => i ≤ p.errs.length ∧ ∀ j, j < i → 0 ≤ p.errs.getD j 0 ∧ p.errs.getD j 0 ≤ 1000) (fun i => ⟨mkT 47 [(1, .ptr 0 0 0), (3, .int .i64 i)], [some (.cells 46 1 0 (postC p))], []⟩) (fun i => p.errs.length - i) 0 ⟨Nat.zero_le _, by simp⟩ (.le2 ?_) ?_
  · simp only [postC]; simp (maxSteps := 4000000) only [go_sem, seval, List.append_eq, List.cons_append, List.nil_append, postC, watchC, sll]
  · rintro i ⟨hi, hj⟩
    have hno := hno i
    simp only [postC]; simp (maxSteps := 4000000) only [go_sem, seval, List.append_eq, List.cons_append, List.nil_append, postC, watchC, sll]
    (repeat' (first
 | refine awp_seqK ?_
 | refine kt ?_
 | refine And.intro ?_ ?_
 | ((first | refine awp_stp rfl ?_ | refine awp_draw (by kernel_rfl) (by kernel_rfl) ?_ | refine Imp.le2 ?_ | refine callK_of (in_c _ _ _) ?_ | refine go_split (fun _h => ?_) (fun _h => ?_)) <;> try simp (maxSteps := 4000000) only [go_sem, seval, List.append_eq, List.cons_append, List.nil_append, postC, watchC, sll])
 | intro _h
 | refine awp_block ?_
 | refine awp_scope ?_
 | (show heapOK _ _ = true; kernel_rfl)
 | (show heapOK2 _ _ = true; kernel_rfl)
 | (omega)))
    all_goals first
      | (refine ⟨i + 1, ⟨by omega, fun j hji => ?_⟩, by omega, .le2 ?_⟩
         · rcases Nat.lt_succ_iff_lt_or_eq.1 hji with h | rfl
           · exact hj j h
           · omega
         · simp (maxSteps := 4000000) only [go_sem, seval, List.append_eq, List.cons_append, List.nil_append, postC, watchC, sll] <;> omega)
      | exact hyes (fun j h => hj j (by omega))
      | (have h9 := hno (by omega) ‹_›; simp_all; done)
      | (have h9 := hyes (fun j h => hj j (by omega)); simp_all; done)
      | trace_state
theorem fault_c (p : Post) (reads : List (List Int)) (hb : InB p reads) : CallS Try.prog 35 [.agg (postC p), sll reads] (.int .i64 (faultP p reads)) := by
  have hri := right_c p hb.e
  have hbe := hb.e
  have hbn := hb.n
  have hbr := hb.rows
  simp only [postC, sl] at hri
  have h1 : postB p = false → faultP p reads = 1 := fun h => by unfold faultP; rw [if_pos h]
  have h2 : postB p = true → 60 < reads.length → faultP p reads = 3 := fun h h' => by unfold faultP; rw [if_neg (by simp [h]), if_pos h']
  have h3 : postB p = true → ¬ 60 < reads.length → ∀ i, i < reads.length → rowB p (reads.getD i []) = false → faultP p reads = 2 := fun h h' i hi hr => by
    unfold faultP; rw [if_neg (by simp [h]), if_neg h', allrows hi hr]; simp
  have h4 : postB p = true → ¬ 60 < reads.length → (∀ i, i < reads.length → rowB p (reads.getD i []) = true) → faultP p reads = 0 := fun h h' hr => by
    unfold faultP; rw [if_neg (by simp [h]), if_neg h', allrows' hr]; simp
  have hrow : ∀ i, rowB p (reads.getD i []) = true ↔ ((reads.getD i []).length = p.errs.length ∧ (reads.getD i []).all readB = true) := fun i => by simp [rowB]
  have hall : ∀ i, (∀ k, k < (reads.getD i []).length → -1000 ≤ (reads.getD i []).getD k 0 ∧ (reads.getD i []).getD k 0 ≤ 2000) → (reads.getD i []).all readB = true := fun i h => by
    clear hrow
    generalize reads.getD i [] = row at *
    rw [List.all_eq_true]
    intro x hx
    obtain ⟨j, hj, rfl⟩ := List.mem_iff_getElem.1 hx
    have := h j hj
    rw [show row.getD j 0 = row[j] by simp [List.getD_eq_getElem?_getD, hj]] at this
    exact decide_eq_true this
  have hnot : ∀ i k, k < (reads.getD i []).length → ¬ (-1000 ≤ (reads.getD i []).getD k 0 ∧ (reads.getD i []).getD k 0 ≤ 2000) → rowB p (reads.getD i []) = false := fun i k hk h => by
    cases hr : rowB p (reads.getD i []) with
    | false => rfl
    | true => exact absurd (of_decide_eq_true (all_getD ((hrow i).1 hr).2 k hk)) h
  have hnot2 : ∀ i, ¬ (reads.getD i []).length = p.errs.length → rowB p (reads.getD i []) = false := fun i h => by
    cases hr : rowB p (reads.getD i []) with
    | false => rfl
    | true => exact absurd ((hrow i).1 hr).1 h
  generalize faultP p reads = r at *
  generalize postB p = pb at *
  (refine callS_of_awp (fun w args => Try.call35 ..) Try.func35 rfl (fun w0 m0 wz => ?_); simp only [Try.ntmps35, Try.results35, initT, junks, postC, watchC, sll, sl, List.toList_toArray, List.cons_append, List.nil_append, List.length_cons, List.length_nil, Nat.reduceAdd, Nat.reduceSub])
  (repeat' (first
 | refine awp_seqK ?_
 | refine kt ?_
 | refine And.intro ?_ ?_
 | ((first | refine awp_stp rfl ?_ | refine awp_draw (by kernel_rfl) (by kernel_rfl) ?_ | refine Imp.le2 ?_ | refine callK_of (hri) ?_ | refine go_split (fun _h => ?_) (fun _h => ?_)) <;> try simp (maxSteps := 4000000) only [go_sem, seval, List.append_eq, List.cons_append, List.nil_append, postC, watchC, sll])
 | intro _h
 | refine awp_block ?_
 | refine awp_scope ?_
 | (show heapOK _ _ = true; kernel_rfl)
 | (show heapOK2 _ _ = true; kernel_rfl)
 | (omega)))
  all_goals first
    | exact (h1 ‹_›).symm
    | exact (h2 ‹_› (by omega)).symm
    | skip
  refine awp_loopJ (fun i : Nat => i ≤ reads.length ∧ ∀ j, j < i → rowB p (reads.getD j []) = true) (fun i => ⟨mkT 46 [(1, sll reads), (2, .ptr 0 0 0), (5, .int .i64 i)], [some (.cells 46 1 0 (postC p))], []⟩) (fun i => reads.length - i) 0 ⟨Nat.zero_le _, by simp⟩ (.le2 ?_) ?_
  · simp only [postC]; simp (maxSteps := 4000000) only [go_sem, seval, List.append_eq, List.cons_append, List.nil_append, postC, watchC, sll]
  · rintro i ⟨hi, hj⟩
    have hbr := hbr i
    simp only [postC]; simp (maxSteps := 4000000) only [go_sem, seval, List.append_eq, List.cons_append, List.nil_append, postC, watchC, sll]
    (repeat' (first
 | refine awp_seqK ?_
 | refine kt ?_
 | refine And.intro ?_ ?_
 | ((first | refine awp_stp rfl ?_ | refine awp_draw (by kernel_rfl) (by kernel_rfl) ?_ | refine Imp.le2 ?_ | refine go_split (fun _h => ?_) (fun _h => ?_)) <;> try simp (maxSteps := 4000000) only [go_sem, seval, List.append_eq, List.cons_append, List.nil_append, postC, watchC, sll])
 | intro _h
 | refine awp_block ?_
 | refine awp_scope ?_
 | (show heapOK _ _ = true; kernel_rfl)
 | (show heapOK2 _ _ = true; kernel_rfl)
 | (omega)))
    all_goals first
      | (refine awp_loopJ (fun k : Nat => k ≤ (reads.getD i []).length ∧ ∀ j, j < k → -1000 ≤ (reads.getD i []).getD j 0 ∧ (reads.getD i []).getD j 0 ≤ 2000) (fun k => ⟨mkT 46 [(1, sll reads), (2, .ptr 0 0 0), (5, .int .i64 i), (6, .int .i64 k)], [some (.cells 46 1 0 (postC p))], []⟩) (fun k => (reads.getD i []).length - k) 0 ⟨Nat.zero_le _, by simp⟩ (.le2 ?_) ?_
         · simp only [postC]; simp (maxSteps := 4000000) only [go_sem, seval, List.append_eq, List.cons_append, List.nil_append, postC, watchC, sll]
         · rintro k ⟨hk, hjk⟩
           simp only [postC]; simp (maxSteps := 4000000) only [go_sem, seval, List.append_eq, List.cons_append, List.nil_append, postC, watchC, sll]
           (repeat' (first
 | refine awp_seqK ?_
 | refine kt ?_
 | refine And.intro ?_ ?_
 | ((first | refine awp_stp rfl ?_ | refine awp_draw (by kernel_rfl) (by kernel_rfl) ?_ | refine Imp.le2 ?_ | refine callK_of (in_c _ _ _) ?_ | refine go_split (fun _h => ?_) (fun _h => ?_)) <;> try simp (maxSteps := 4000000) only [go_sem, seval, List.append_eq, List.cons_append, List.nil_append, postC, watchC, sll])
 | intro _h
 | refine awp_block ?_
 | refine awp_scope ?_
 | (show heapOK _ _ = true; kernel_rfl)
 | (show heapOK2 _ _ = true; kernel_rfl)
 | (omega)))
           all_goals first
             | (refine ⟨k + 1, ⟨by omega, fun j hji => ?_⟩, by omega, .le2 ?_⟩
                · rcases Nat.lt_succ_iff_lt_or_eq.1 hji with h | rfl
                  · exact hjk j h
                  · omega
                · simp (maxSteps := 4000000) only [go_sem, seval, List.append_eq, List.cons_append, List.nil_append, postC, watchC, sll] <;> omega)
             | (refine ⟨i + 1, ⟨by omega, fun j hji => ?_⟩, by omega, .le2 ?_⟩
                · rcases Nat.lt_succ_iff_lt_or_eq.1 hji with h | rfl
                  · exact hj j h
                  · exact (hrow j).2 ⟨by omega, hall j (fun k hk => hjk k (by omega))⟩
                · simp (maxSteps := 4000000) only [go_sem, seval, List.append_eq, List.cons_append, List.nil_append, postC, watchC, sll] <;> omega)
             | exact (h3 ‹_› (by omega) i (by omega) (hnot i k (by omega) ‹_›)).symm
             | trace_state)
      | exact (h3 ‹_› (by omega) i (by omega) (hnot2 i (by omega))).symm
      | exact (h4 ‹_› (by omega) (fun j h => hj j (by omega))).symm
      | trace_state
end Go.Am

/- Contracts: what the statements about posts use. -/
namespace Go.Am
open Go.RowKit Go.Proofs
attribute [local irreducible] AWP CallS Kt goK CallK stepK evOps SemF SemY Imp
set_option maxRecDepth 4000
set_option linter.unusedSimpArgs false
set_option linter.unusedVariables false
set_option maxHeartbeats 1600000
theorem Post_c (p : Post) (hb : p.errs.length ≤ 1000000) : CallS Try.prog 25 [.agg (postC p)] (.agg (postC p)) := by
  have hl := list_c p.errs hb
  simp only [sl] at hl
  (refine callS_of_awp (fun w args => Try.call25 ..) Try.func25 rfl (fun w0 m0 wz => ?_); simp only [Try.ntmps25, Try.results25, initT, junks, postC, watchC, sll, sl, List.toList_toArray, List.cons_append, List.nil_append, List.length_cons, List.length_nil, Nat.reduceAdd, Nat.reduceSub])
  (repeat' (first
 | refine awp_seqK ?_
 | refine kt ?_
 | refine And.intro ?_ ?_
 | ((first | refine awp_stp rfl ?_ | refine awp_draw (by kernel_rfl) (by kernel_rfl) ?_ | refine Imp.le2 ?_ | refine callK_of (hl) ?_ | refine go_split (fun _h => ?_) (fun _h => ?_)) <;> try simp (maxSteps := 4000000) only [go_sem, seval, List.append_eq, List.cons_append, List.nil_append, postC, watchC, sll])
 | intro _h
 | refine awp_block ?_
 | refine awp_scope ?_
 | (show heapOK _ _ = true; kernel_rfl)
 | (show heapOK2 _ _ = true; kernel_rfl)
 | (omega)))
theorem rows_c (l : List (List Int)) (hb : l.length ≤ 1000000) (hr : ∀ i, i < l.length → (l.getD i []).length ≤ 1000000) : CallS Try.prog 26 [sll l] (sll l) := by
  (refine callS_of_awp (fun w args => Try.call26 ..) Try.func26 rfl (fun w0 m0 wz => ?_); simp only [Try.ntmps26, Try.results26, initT, junks, postC, watchC, sll, sl, List.toList_toArray, List.cons_append, List.nil_append, List.length_cons, List.length_nil, Nat.reduceAdd, Nat.reduceSub])
  (repeat' (first
 | refine awp_seqK ?_
 | refine kt ?_
 | refine And.intro ?_ ?_
 | ((first | refine awp_stp rfl ?_ | refine awp_draw (by kernel_rfl) (by kernel_rfl) ?_ | refine Imp.le2 ?_ | refine go_split (fun _h => ?_) (fun _h => ?_)) <;> try simp (maxSteps := 4000000) only [go_sem, seval, List.append_eq, List.cons_append, List.nil_append, postC, watchC, sll])
 | intro _h
 | refine awp_block ?_
 | refine awp_scope ?_
 | (show heapOK _ _ = true; kernel_rfl)
 | (show heapOK2 _ _ = true; kernel_rfl)
 | (omega)))
  (refine awp_adT 3 22 1 rfl ?_; simp only [adT, lset, hset, List.length_cons, List.length_nil, Nat.reduceAdd])
  refine awp_loopN l.length (fun k => ⟨mkT 20 [(0, sll l), (3, .osl 0 k 0 k), (4, .int .i64 k)], [some (.cells 22 1 k (rowsC (l.take k)))], []⟩) (.le2 ?_) ?_
  · simp (maxSteps := 4000000) only [go_sem, seval, List.append_eq, List.cons_append, List.nil_append, postC, watchC, sll]
    simp [rowsC]
  · intro k hk
    rcases Nat.lt_or_eq_of_le hk with hk1 | hk1
    · have hl := list_c (l.getD k []) (hr k hk1)
      simp only [sl] at hl
      have ht : rowsC (l.take k) ++ [AV.psl false (l.getD k []).length (ints (l.getD k []))] = rowsC (l.take (k + 1)) := by
        rw [List.take_succ_eq_append_getElem hk1, rowsC_snoc]
        simp [sl, List.getD_eq_getElem?_getD, hk1]
      have hlt : (l.take k).length = k := by simp; omega
      simp (maxSteps := 4000000) only [go_sem, seval, List.append_eq, List.cons_append, List.nil_append, postC, watchC, sll]
      (repeat' (first
 | refine awp_seqK ?_
 | refine kt ?_
 | refine And.intro ?_ ?_
 | ((first | refine awp_stp rfl ?_ | refine awp_draw (by kernel_rfl) (by kernel_rfl) ?_ | refine Imp.le2 ?_ | refine callK_of (hl) ?_ | refine go_split (fun _h => ?_) (fun _h => ?_)) <;> try simp (maxSteps := 4000000) only [go_sem, seval, List.append_eq, List.cons_append, List.nil_append, postC, watchC, sll, hlt, ht])
 | intro _h
 | refine awp_block ?_
 | refine awp_scope ?_
 | (show heapOK _ _ = true; kernel_rfl)
 | (show heapOK2 _ _ = true; kernel_rfl)
 | (omega)))
      all_goals omega
    · subst hk1
      have hlt : (l.take l.length) = l := by simp
      simp (maxSteps := 4000000) only [go_sem, seval, List.append_eq, List.cons_append, List.nil_append, postC, watchC, sll, hlt]
      (repeat' (first
 | ((exfalso; omega))
 | refine awp_seqK ?_
 | refine kt ?_
 | refine And.intro ?_ ?_
 | ((first | refine awp_stp rfl ?_ | refine awp_draw (by kernel_rfl) (by kernel_rfl) ?_ | refine Imp.le2 ?_ | refine go_split (fun _h => ?_) (fun _h => ?_)) <;> try simp (maxSteps := 4000000) only [go_sem, seval, List.append_eq, List.cons_append, List.nil_append, postC, watchC, sll])
 | intro _h
 | refine awp_block ?_
 | refine awp_scope ?_
 | (show heapOK _ _ = true; kernel_rfl)
 | (show heapOK2 _ _ = true; kernel_rfl)
 | (omega)))
      all_goals omega
def thinB (p : Post) (reads : List (List Int)) : Bool := decide (p.errs.length ≤ 15 ∧ reads.length ≤ 65 ∧ ∀ i, i < reads.length → (reads.getD i []).length ≤ 15)
theorem thin_c (p : Post) (reads : List (List Int)) (hb : InB p reads) : CallS Try.prog 61 [.agg (postC p), sll reads] (.bool (thinB p reads)) := by
  have hbe := hb.e
  have hbn := hb.n
  have hbr := hb.rows
  have hyes : p.errs.length ≤ 15 → reads.length ≤ 65 → (∀ i, i < reads.length → (reads.getD i []).length ≤ 15) → true = thinB p reads := fun a b c => (decide_eq_true ⟨a, b, c⟩).symm
  have hno : (p.errs.length ≤ 15 → reads.length ≤ 65 → (∀ i, i < reads.length → (reads.getD i []).length ≤ 15) → False) → false = thinB p reads := fun a => (decide_eq_false fun ⟨b, c, d⟩ => a b c d).symm
  generalize thinB p reads = r at *
  (refine callS_of_awp (fun w args => Try.call61 ..) Try.func61 rfl (fun w0 m0 wz => ?_); simp only [Try.ntmps61, Try.results61, initT, junks, postC, watchC, sll, sl, List.toList_toArray, List.cons_append, List.nil_append, List.length_cons, List.length_nil, Nat.reduceAdd, Nat.reduceSub])
  (repeat' (first
 | refine awp_seqK ?_
 | refine kt ?_
 | refine And.intro ?_ ?_
 | ((first | refine awp_stp rfl ?_ | refine awp_draw (by kernel_rfl) (by kernel_rfl) ?_ | refine Imp.le2 ?_ | refine go_split (fun _h => ?_) (fun _h => ?_)) <;> try simp (maxSteps := 4000000) only [go_sem, seval, List.append_eq, List.cons_append, List.nil_append, postC, watchC, sll])
 | intro _h
 | refine awp_block ?_
 | refine awp_scope ?_
 | (show heapOK _ _ = true; kernel_rfl)
 | (show heapOK2 _ _ = true; kernel_rfl)
 | (omega)))
  refine awp_loopJ (fun i : Nat => i ≤ reads.length ∧ i ≤ 66 ∧ ∀ j, j < i → (reads.getD j []).length ≤ 15) (fun i => ⟨mkT 31 [(1, sll reads), (2, .ptr 0 0 0), (5, .int .i64 i)], [some (.cells 46 1 0 (postC p))], []⟩) (fun i => reads.length - i) 0 ⟨Nat.zero_le _, by omega, by simp⟩ (.le2 ?_) ?_
  · simp only [postC]; simp (maxSteps := 4000000) only [go_sem, seval, List.append_eq, List.cons_append, List.nil_append, postC, watchC, sll]
  · rintro i ⟨hi, hi6, hj⟩
    have hbr := hbr i
    simp only [postC]; simp (maxSteps := 4000000) only [go_sem, seval, List.append_eq, List.cons_append, List.nil_append, postC, watchC, sll]
    (repeat' (first
 | refine awp_seqK ?_
 | refine kt ?_
 | refine And.intro ?_ ?_
 | ((first | refine awp_stp rfl ?_ | refine awp_draw (by kernel_rfl) (by kernel_rfl) ?_ | refine Imp.le2 ?_ | refine go_split (fun _h => ?_) (fun _h => ?_)) <;> try simp (maxSteps := 4000000) only [go_sem, seval, List.append_eq, List.cons_append, List.nil_append, postC, watchC, sll])
 | intro _h
 | refine awp_block ?_
 | refine awp_scope ?_
 | (show heapOK _ _ = true; kernel_rfl)
 | (show heapOK2 _ _ = true; kernel_rfl)
 | (omega)))
    all_goals first
      | (refine ⟨i + 1, ⟨by omega, by omega, fun j hji => ?_⟩, by omega, .le2 ?_⟩
         · rcases Nat.lt_succ_iff_lt_or_eq.1 hji with h | rfl
           · exact hj j h
           · omega
         · simp (maxSteps := 4000000) only [go_sem, seval, List.append_eq, List.cons_append, List.nil_append, postC, watchC, sll] <;> omega)
      | exact (hno (fun a b c => by omega)).symm
      | exact (hno (fun a b c => by have := c i (by omega); omega)).symm
      | exact (hyes (by omega) (by omega) (fun j h => hj j (by omega))).symm
      | exact (hno (fun a b c => by omega))
      | exact (hno (fun a b c => by have := c i (by omega); omega))
      | exact (hyes (by omega) (by omega) (fun j h => hj j (by omega)))
      | trace_state
def readyB (p : Post) (reads : List (List Int)) : Bool := thinB p reads && decide (faultP p reads = 0)
theorem ready_c (p : Post) (reads : List (List Int)) (hb : InB p reads) : CallS Try.prog 24 [.agg (postC p), sll reads] (.bool (readyB p reads)) := by
  have h1 := thin_c p reads hb
  have h2 := fault_c p reads hb
  have hbn := hb.n
  unfold readyB
  simp only [postC, sl, sll] at h1 h2
  generalize thinB p reads = t at *
  generalize faultP p reads = f at *
  (refine callS_of_awp (fun w args => Try.call24 ..) Try.func24 rfl (fun w0 m0 wz => ?_); simp only [Try.ntmps24, Try.results24, initT, junks, postC, watchC, sll, sl, List.toList_toArray, List.cons_append, List.nil_append, List.length_cons, List.length_nil, Nat.reduceAdd, Nat.reduceSub])
  (repeat' (first
 | refine awp_seqK ?_
 | refine kt ?_
 | refine And.intro ?_ ?_
 | ((first | refine awp_stp rfl ?_ | refine awp_draw (by kernel_rfl) (by kernel_rfl) ?_ | refine Imp.le2 ?_ | refine callK_of (h1) ?_ | refine callK_of (h2) ?_ | refine go_split (fun _h => ?_) (fun _h => ?_)) <;> try simp (maxSteps := 4000000) only [go_sem, seval, List.append_eq, List.cons_append, List.nil_append, postC, watchC, sll])
 | intro _h
 | refine awp_block ?_
 | refine awp_scope ?_
 | (show heapOK _ _ = true; kernel_rfl)
 | (show heapOK2 _ _ = true; kernel_rfl)
 | (omega)))
  all_goals (simp_all; try omega)
end Go.Am

/- What the chapter shows (awake), by running it. -/
namespace Go.Am
open Go.RowKit Go.Proofs
def entA (g : FuncId) : Bool := Nat.ble 3 g && Nat.ble g 107
theorem entA_all : (List.range' 3 105).all (entB Try.prog) = true := by kernel_rfl
theorem entA_ok (g : FuncId) (h : entA g = true) : Enters Try.prog g := by
  simp only [entA, Bool.and_eq_true, Nat.ble_eq] at h
  refine enters_of ?_
  have := List.all_eq_true.1 entA_all g (by rw [List.mem_range']; exact ⟨g - 3, by omega, by omega⟩)
  exact this
theorem mixedA : Try.prog.follows .mixedOrders = true := by kernel_rfl
set_option maxRecDepth 100000 in
theorem awake_c : CallS Try.prog 17 [] (.bool true) :=
  callS_run (eqt := fun _ => true) (pm := fun g => !(Nat.beq g 72 || Nat.beq g 63)) (ent := entA) (lf := 2000) (n := 60) (fun t _ => eqOK t) entA_ok mixedA (by kernel_rfl)
end Go.Am

/- The law AlarmLevels, as a contract: it returns true. -/
namespace Go.Am
open Go.RowKit Go.Proofs
attribute [local irreducible] AWP CallS Kt goK CallK stepK evOps SemF SemY Imp
set_option maxRecDepth 4000
set_option linter.unusedSimpArgs false
set_option linter.unusedVariables false
set_option maxHeartbeats 1600000
theorem thinB_true {p : Post} {reads : List (List Int)} (h : thinB p reads = true) : p.errs.length ≤ 15 ∧ reads.length ≤ 65 ∧ ∀ i, i < reads.length → (reads.getD i []).length ≤ 15 := of_decide_eq_true h
end Go.Am

/- The law AlarmFails, as a contract: it returns true. -/
namespace Go.Am
open Go.RowKit Go.Proofs
attribute [local irreducible] AWP CallS Kt goK CallK stepK evOps SemF SemY Imp
set_option maxRecDepth 4000
set_option linter.unusedSimpArgs false
set_option linter.unusedVariables false
set_option maxHeartbeats 1600000
end Go.Am

/- Contracts: a truth by words. -/
namespace Go.Am
open Go.RowKit Go.Proofs
attribute [local irreducible] AWP CallS Kt goK CallK stepK evOps SemF SemY Imp tab
set_option maxRecDepth 4000
set_option linter.unusedSimpArgs false
set_option linter.unusedVariables false
set_option maxHeartbeats 1600000
theorem fz_ints {b g : Nat} {xs : List AV} : ∀ l : List Int, fzl (fz2 b g xs) (ints l) = ints l
  | [] => rfl
  | a :: l => by
    have := fz_ints (b := b) (g := g) (xs := xs) l
    simp only [ints_cons, fzl, this]
    all_goals rfl
theorem fz_rows {b g : Nat} {xs : List AV} : ∀ l : List (List Int), fzl (fz2 b g xs) (rowsC l) = rowsC l
  | [] => rfl
  | a :: l => by
    have := fz_rows (b := b) (g := g) (xs := xs) l
    simp only [rowsC, List.map_cons, fzl] at this ⊢
    rw [this]
    all_goals rfl
attribute [go_sem] fz_ints fz_rows
def u16s (l : List Int) : List AV := l.map (.int .u16)
def slW (l : List Int) : AV := .psl false l.length (u16s l)
theorem u16s_length {l : List Int} : (u16s l).length = l.length := by simp [u16s]
theorem nth_u16s {l : List Int} {j : Nat} {K : AV → Prop} : optK (nth (u16s l) j) K = (j < l.length ∧ K (.int .u16 (l.getD j 0))) := by
  rw [← nth_is]
  simp only [u16s, List.getElem?_map]
  by_cases h : j < l.length
  · simp [h, optK, List.getD_eq_getElem?_getD]
  · simp [h, optK]
attribute [go_sem] u16s_length nth_u16s
def wordsOK (words : List Int) : Prop := words.length ≤ 9223372036854775807 ∧ ∀ i, i < words.length → 0 ≤ words.getD i 0 ∧ words.getD i 0 ≤ 65535
theorem tmod_bd {a b : Int} (ha : 0 ≤ a) (hb : 0 < b) : 0 ≤ a.tmod b ∧ a.tmod b < b := by
  rw [Int.tmod_eq_emod_of_nonneg ha]
  exact ⟨Int.emod_nonneg _ (by omega), Int.emod_lt_of_pos _ hb⟩
end Go.Am

/- What the arguments of the alarm laws can be read as: words. -/
namespace Go.Am
open Go.RowKit Go.Proofs
theorem wordsOK_of {l : List Int} (h : l.length ≤ 9223372036854775807 ∧ ∀ a ∈ l, okI .u16 a) : wordsOK l :=
  ⟨h.1, fun i hi => by
    rw [show l.getD i 0 = l[i] by simp [List.getD_eq_getElem?_getD, hi]]
    exact okI_u16 (h.2 _ (List.getElem_mem hi))⟩
end Go.Am
