/- Parts RbA, RbB, RbC, RbD, RbE of the proof, one behind the other. No statement is proved here. -/
import Derived.Test.YtaofjkcenmnldaaK5
import Derived.Test.YtaofjkcenmnldaaK4
set_option linter.unusedVariables false -- all
set_option linter.unusedSimpArgs false
/- Contracts of the zone functions: valid valleys. -/
namespace Go.Am
open Go.RowKit Go.Proofs
attribute [local irreducible] AWP CallS Kt goK CallK stepK evOps SemF SemY Imp
set_option maxRecDepth 4000
set_option linter.unusedSimpArgs false
set_option linter.unusedVariables false
set_option maxHeartbeats 3200000
instance sInts {l : List Int} : Still (ints l) := ⟨fun y hy => by
  simp only [ints, List.mem_map] at hy
  obtain ⟨n, _, rfl⟩ := hy
  rfl⟩
instance sParc {l : List Parc} : Still (recs parcC l) := ⟨fun y hy => by
  simp only [recs, List.mem_flatMap] at hy
  obtain ⟨h, _, hy⟩ := hy
  simp only [parcC, List.mem_cons, List.not_mem_nil, or_false] at hy
  rcases hy with rfl | rfl | rfl | rfl <;> rfl⟩
instance sSlid {l : List Slid} : Still (recs slidC l) := ⟨fun y hy => by
  simp only [recs, List.mem_flatMap] at hy
  obtain ⟨h, _, hy⟩ := hy
  simp only [slidC, List.mem_cons, List.not_mem_nil, or_false] at hy
  rcases hy with rfl | rfl | rfl | rfl <;> rfl⟩
structure SlidOK (n : Nat) (s : Slid) : Prop where
  ne : 1 ≤ s.way.length
  inn : ∀ i, i < s.way.length → 0 ≤ s.way.getD i 0 ∧ s.way.getD i 0 ≤ (n : Int) - 1
  nd : ∀ i, i < s.way.length → ∀ j, j < i → s.way.getD j 0 ≠ s.way.getD i 0
  rate : 1 ≤ s.rate ∧ s.rate ≤ 1000
  rng : 0 ≤ s.lo ∧ s.lo ≤ s.hi ∧ s.hi ≤ (s.way.length : Int)
def parcB (p : Parc) : Bool := decide ((0 ≤ p.worth ∧ p.worth ≤ 100000) ∧ (0 ≤ p.price ∧ p.price ≤ 100000) ∧ (0 ≤ p.people ∧ p.people ≤ 1000))
def StepOK (v : Valley) : Prop := (1 ≤ v.s0 ∧ v.s0 < v.s1) ∧ v.s1 < v.s2 ∧ v.s2 ≤ 10000
structure ValOK (v : Valley) : Prop where
  pn : 1 ≤ v.parcels.length ∧ v.parcels.length ≤ 12
  sn : v.slides.length ≤ 10
  st : StepOK v
  pa : ∀ i, i < v.parcels.length → parcB (v.parcels.getD i default) = true
  sl : ∀ k, k < v.slides.length → SlidOK v.parcels.length (v.slides.getD k default)
/-- Lengths are of a valley that may be read. -/
structure ThinV (v : Valley) : Prop where
  p : v.parcels.length ≤ 15
  s : v.slides.length ≤ 12
  w : ∀ k, k < v.slides.length → (v.slides.getD k default).way.length ≤ 15
theorem parcV_c (p : Parc) : CallS Try.prog 54 [.agg (parcC p)] (.bool (parcB p)) := by
  unfold parcB
  (refine callS_of_awp (fun w args => Try.call54 ..) Try.func54 rfl (fun w0 m0 wz => ?_); simp only [Try.ntmps54, Try.results54, initT, junks, sl, List.toList_toArray, List.cons_append, List.nil_append, List.length_cons, List.length_nil, Nat.reduceAdd, Nat.reduceSub])
  (repeat' (first
 | refine awp_seqK ?_
 | refine kt ?_
 | refine And.intro ?_ ?_
 | ((first | refine awp_stp rfl ?_ | refine awp_draw (by kernel_rfl) (by kernel_rfl) ?_ | refine Imp.le2 ?_ | refine callK_of (withinZ_c _ _ _) ?_ | refine go_split (fun _h => ?_) (fun _h => ?_)) <;> try simp (maxSteps := 4000000) only [go_sem, seval])
 | intro _h
 | refine awp_block ?_
 | refine awp_scope ?_
 | refine cond_b ?_ ?_
 | (show heapOK _ _ = true; kernel_rfl)
 | (show heapOK2 _ _ = true; kernel_rfl)
 | (omega)))
  all_goals ((try simp only [decide_eq_true_eq, decide_eq_false_iff_not]); simp_all; try omega)
theorem slide_c (v : Valley) (s : Slid) (hp : 1 ≤ v.parcels.length ∧ v.parcels.length ≤ 12) (hs : SlidOK v.parcels.length s) (hl : s.way.length ≤ 1000000) : CallS Try.prog 56 [.agg (valC v), .agg (slidC s)] (.bool true) := by
  have h1 := hs.inn
  have h2 := hs.nd
  have h3 := hs.rate
  have h4 := hs.rng
  have h5 := hs.ne
  obtain ⟨n, hn⟩ : ∃ n, v.parcels.length = n := ⟨_, rfl⟩
  rw [hn] at hp h1
  have hz : [AV.bool false, .bool false, .bool false, .bool false, .bool false, .bool false, .bool false, .bool false, .bool false, .bool false, .bool false, .bool false] = bools (tab 12 fun p => (List.range 0).any fun j => decide (s.way.getD j 0 = (p : Int))) := rfl
  simp only [valC, slP, slS, slidC, sl, hn]
  (refine callS_of_awp (fun w args => Try.call56 ..) Try.func56 rfl (fun w0 m0 wz => ?_); simp only [Try.ntmps56, Try.results56, initT, junks, sl, List.toList_toArray, List.cons_append, List.nil_append, List.length_cons, List.length_nil, Nat.reduceAdd, Nat.reduceSub])
  (repeat' (first
 | refine awp_seqK ?_
 | refine kt ?_
 | refine And.intro ?_ ?_
 | ((first | refine awp_stp rfl ?_ | refine awp_draw (by kernel_rfl) (by kernel_rfl) ?_ | refine Imp.le2 ?_ | refine go_split (fun _h => ?_) (fun _h => ?_)) <;> try simp (maxSteps := 4000000) only [go_sem, seval])
 | intro _h
 | refine awp_block ?_
 | refine awp_scope ?_
 | refine cond_b ?_ ?_
 | (show heapOK _ _ = true; kernel_rfl)
 | (show heapOK2 _ _ = true; kernel_rfl)
 | (omega)))
  refine awp_loopN s.way.length (fun i => ⟨mkT 47 [(2, .ptr 0 0 0), (3, .ptr 1 0 0), (5, .ptr 2 0 0), (9, sl s.way), (10, .int .i64 s.way.length), (11, .int .i64 i)], [some (.cells 58 1 0 [.psl false n (recs parcC v.parcels), .psl false v.slides.length (recs slidC v.slides), .int .i64 v.s0, .int .i64 v.s1, .int .i64 v.s2]), some (.cells 73 1 0 [sl s.way, .int .i64 s.rate, .int .i64 s.lo, .int .i64 s.hi]), some (.cells 142 1 0 (bools (tab 12 fun p => (List.range i).any fun j => decide (s.way.getD j 0 = (p : Int)))))], []⟩) (.le2 ?_) ?_
  · rw [← hz]; simp only [sl]; simp (maxSteps := 4000000) only [go_sem, seval]
    all_goals first | rfl | exact ⟨rfl, rfl⟩ | trace_state
  · intro i hi
    rcases Nat.lt_or_eq_of_le hi with hi1 | hi1
    · have g1 := h1 i hi1
      have g2 := h2 i hi1
      obtain ⟨p, hpe⟩ : ∃ p, s.way.getD i 0 = p := ⟨_, rfl⟩
      rw [hpe] at g1
      have hgd : (tab 12 fun p => (List.range i).any fun j => decide (s.way.getD j 0 = (p : Int))).getD p.toNat false = false := by
        rw [tab_getD (by omega), List.any_eq_false]
        intro j hj
        have := g2 j (List.mem_range.1 hj)
        rw [hpe] at this
        simp only [decide_eq_true_eq]
        omega
      have e1 : isp (tab 12 fun p => (List.range i).any fun j => decide (s.way.getD j 0 = (p : Int))) p.toNat true = tab 12 fun p => (List.range (i + 1)).any fun j => decide (s.way.getD j 0 = (p : Int)) := by
        rw [isp_tab (by omega)]
        refine tab_congr fun x _ => ?_
        rw [List.range_succ, List.any_append]
        by_cases e : x = p.toNat
        · rw [if_pos e]
          have : decide (s.way.getD i 0 = (x : Int)) = true := decide_eq_true (by rw [hpe]; omega)
          simp only [List.any_cons, List.any_nil, this, Bool.or_false, Bool.or_true]
        · rw [if_neg e]
          have : decide (s.way.getD i 0 = (x : Int)) = false := decide_eq_false (by rw [hpe]; omega)
          simp only [List.any_cons, List.any_nil, this, Bool.or_false]
      generalize (tab 12 fun p => (List.range (i + 1)).any fun j => decide (s.way.getD j 0 = (p : Int))) = F2 at *
      have hFl : (tab 12 fun p => (List.range i).any fun j => decide (s.way.getD j 0 = (p : Int))).length = 12 := tab_length
      generalize (tab 12 fun p => (List.range i).any fun j => decide (s.way.getD j 0 = (p : Int))) = F1 at *
      have f1 : (0 ≤ p ∧ p ≤ (n : Int) - 1) = True := eq_true g1
      simp only [sl]; simp (maxSteps := 4000000) only [go_sem, seval]
      (repeat' (first
 | ((omega))
 | ((exfalso; omega))
 | refine awp_seqK ?_
 | refine kt ?_
 | refine And.intro ?_ ?_
 | ((first | refine awp_stp rfl ?_ | refine awp_draw (by kernel_rfl) (by kernel_rfl) ?_ | refine Imp.le2 ?_ | refine callK_of (withinZ_c _ _ _) ?_ | refine go_split (fun _h => ?_) (fun _h => ?_)) <;> try simp (maxSteps := 4000000) only [go_sem, seval, hpe, hgd, e1, hFl, f1, decide_true, decide_false])
 | intro _h
 | refine awp_block ?_
 | refine awp_scope ?_
 | refine cond_b ?_ ?_
 | (show heapOK _ _ = true; kernel_rfl)
 | (show heapOK2 _ _ = true; kernel_rfl)
 | (omega)))
      all_goals first | rfl | exact ⟨rfl, rfl⟩ | trace_state
    · rw [hi1]
      have f1 : (1 ≤ s.rate ∧ s.rate ≤ 1000) = True := eq_true h3
      have f2 : (0 ≤ s.lo ∧ s.lo ≤ s.hi ∧ s.hi ≤ (s.way.length : Int)) = True := eq_true h4
      have f3 : ((s.way.length : Int) ≥ 1) = True := eq_true (by omega)
      simp only [sl]; simp (maxSteps := 4000000) only [go_sem, seval]
      (repeat' (first
 | ((omega))
 | ((exfalso; omega))
 | refine awp_seqK ?_
 | refine kt ?_
 | refine And.intro ?_ ?_
 | ((first | refine awp_stp rfl ?_ | refine awp_draw (by kernel_rfl) (by kernel_rfl) ?_ | refine Imp.le2 ?_ | refine callK_of (withinZ_c _ _ _) ?_ | refine callK_of (upZ_c _ _ _) ?_ | refine go_split (fun _h => ?_) (fun _h => ?_)) <;> try simp (maxSteps := 4000000) only [go_sem, seval, f1, f2, f3, decide_true])
 | intro _h
 | refine awp_block ?_
 | refine awp_scope ?_
 | refine cond_b ?_ ?_
 | (show heapOK _ _ = true; kernel_rfl)
 | (show heapOK2 _ _ = true; kernel_rfl)
 | (omega)))
      all_goals trace_state
theorem getD_in' {α : Type} {l : List α} {i : Nat} {d : α} (h : i < l.length) : l.getD i d ∈ l := by
  rw [List.getD_eq_getElem?_getD, List.getElem?_eq_getElem h]; exact List.getElem_mem h
theorem all_getD' {α : Type} {l : List α} {q : α → Bool} {d : α} : l.all q = true ↔ ∀ i, i < l.length → q (l.getD i d) = true := by
  rw [List.all_eq_true]
  constructor
  · intro h i hi; exact h _ (getD_in' hi)
  · intro h x hx
    obtain ⟨i, hi, rfl⟩ := List.mem_iff_getElem.1 hx
    have := h i hi
    rwa [List.getD_eq_getElem?_getD, List.getElem?_eq_getElem hi] at this
theorem CheckV_c (v : Valley) (h : ValOK v) (hw : ∀ k, k < v.slides.length → (v.slides.getD k default).way.length ≤ 1000000) : CallS Try.prog 31 [.agg (valC v)] (.int .i64 0) := by
  have hp := h.pn
  have hs := h.sn
  have ht := h.st
  have ha := all_Pa v.parcels 54 parcB (by omega) (fun i _ => parcV_c _)
  have ha1 : v.parcels.all parcB = true := (all_getD' (d := default)).2 h.pa
  have hb := all_Sd v v.slides (fun _ => true) (by omega) (fun i hi => slide_c v _ hp (h.sl i hi) (hw i hi))
  have hb1 : v.slides.all (fun _ => true) = true := by simp
  rw [ha1] at ha
  rw [hb1] at hb
  unfold StepOK at ht
  have f1 : (1 ≤ v.s0) = True := eq_true ht.1.1
  have f2 : (v.s0 < v.s1) = True := eq_true ht.1.2
  have f3 : (v.s1 < v.s2) = True := eq_true ht.2.1
  have f4 : (v.s2 ≤ 10000) = True := eq_true ht.2.2
  have f5 : ((v.slides.length : Int) > 10) = False := eq_false (by omega)
  have f6 : (1 ≤ (v.parcels.length : Int) ∧ (v.parcels.length : Int) ≤ 12) = True := eq_true (by omega)
  simp only [valC, slP, slS] at ha hb ⊢
  (refine callS_of_awp (fun w args => Try.call31 ..) Try.func31 rfl (fun w0 m0 wz => ?_); simp only [Try.ntmps31, Try.results31, initT, junks, sl, List.toList_toArray, List.cons_append, List.nil_append, List.length_cons, List.length_nil, Nat.reduceAdd, Nat.reduceSub])
  (repeat' (first
 | (refine awp_ownN (id := 4) 16 rfl ?_; simp (maxSteps := 4000000) only [go_sem, seval, List.take_succ_cons, List.take_zero, f1, f2, f3, f4, f5, f6, decide_true, decide_false, Bool.not_true])
 | (refine own_go (hb) [] rfl ?_ ?_ rfl ?_ <;> try simp (maxSteps := 4000000) only [go_sem, seval, Nat.lt_irrefl, f1, f2, f3, f4, f5, f6, decide_true, decide_false, Bool.not_true] <;> try decide)
 | ((omega))
 | ((exfalso; omega))
 | refine awp_seqK ?_
 | refine kt ?_
 | refine And.intro ?_ ?_
 | ((first | refine awp_stp rfl ?_ | refine awp_draw (by kernel_rfl) (by kernel_rfl) ?_ | refine Imp.le2 ?_ | refine callK_of (withinZ_c _ _ _) ?_ | refine callK_of (ha) ?_ | refine go_split (fun _h => ?_) (fun _h => ?_)) <;> try simp (maxSteps := 4000000) only [go_sem, seval, f1, f2, f3, f4, f5, f6, decide_true, decide_false, Bool.not_true])
 | intro _h
 | refine awp_block ?_
 | refine awp_scope ?_
 | refine cond_b ?_ ?_
 | (show heapOK _ _ = true; kernel_rfl)
 | (show heapOK2 _ _ = true; kernel_rfl)
 | (omega)))
  all_goals trace_state
theorem listZ_c (l : List Int) (hl : l.length ≤ 1000000) : CallS Try.prog 38 [sl l] (sl l) := by
  (refine callS_of_awp (fun w args => Try.call38 ..) Try.func38 rfl (fun w0 m0 wz => ?_); simp only [Try.ntmps38, Try.results38, initT, junks, sl, List.toList_toArray, List.cons_append, List.nil_append, List.length_cons, List.length_nil, Nat.reduceAdd, Nat.reduceSub])
  (repeat' (first
 | refine awp_seqK ?_
 | refine kt ?_
 | refine And.intro ?_ ?_
 | ((first | refine awp_stp rfl ?_ | refine awp_draw (by kernel_rfl) (by kernel_rfl) ?_ | refine Imp.le2 ?_ | refine go_split (fun _h => ?_) (fun _h => ?_)) <;> try simp (maxSteps := 4000000) only [go_sem, seval])
 | intro _h
 | refine awp_block ?_
 | refine awp_scope ?_
 | refine cond_b ?_ ?_
 | (show heapOK _ _ = true; kernel_rfl)
 | (show heapOK2 _ _ = true; kernel_rfl)
 | (omega)))
  all_goals first | rfl | (rw [List.length_eq_zero_iff.1 _h]; rfl) | (have h0 : l = [] := List.length_eq_zero_iff.1 (by assumption); subst h0; rfl) | trace_state
theorem Thin8_c (v : Valley) (h1 : v.parcels.length ≤ 9223372036854775807) (h2 : v.slides.length ≤ 9223372036854775807) (h3 : ∀ k, k < v.slides.length → (v.slides.getD k default).way.length ≤ 9223372036854775807) : ∃ b, (b = true → ThinV v) ∧ CallS Try.prog 6 [.agg (valC v)] (.bool b) := by
  by_cases hT : ThinV v
  · refine ⟨true, fun _ => hT, ?_⟩
    obtain ⟨t1, t2, t3⟩ := hT
    simp only [valC, slP, slS]
    (refine callS_of_awp (fun w args => Try.call6 ..) Try.func6 rfl (fun w0 m0 wz => ?_); simp only [Try.ntmps6, Try.results6, initT, junks, sl, List.toList_toArray, List.cons_append, List.nil_append, List.length_cons, List.length_nil, Nat.reduceAdd, Nat.reduceSub])
    (repeat' (first
 | refine awp_seqK ?_
 | refine kt ?_
 | refine And.intro ?_ ?_
 | ((first | refine awp_stp rfl ?_ | refine awp_draw (by kernel_rfl) (by kernel_rfl) ?_ | refine Imp.le2 ?_ | refine go_split (fun _h => ?_) (fun _h => ?_)) <;> try simp (maxSteps := 4000000) only [go_sem, seval])
 | intro _h
 | refine awp_block ?_
 | refine awp_scope ?_
 | refine cond_b ?_ ?_
 | (show heapOK _ _ = true; kernel_rfl)
 | (show heapOK2 _ _ = true; kernel_rfl)
 | (omega)))
    refine awp_loopN v.slides.length (fun i => ⟨mkT 33 [(1, .ptr 0 0 0), (3, .int .i64 i)], [some (.cells 29 1 0 [.psl false v.parcels.length (recs parcC v.parcels), .psl false v.slides.length (recs slidC v.slides), .int .i64 v.s0, .int .i64 v.s1, .int .i64 v.s2])], []⟩) (.le2 ?_) ?_
    · simp (maxSteps := 4000000) only [go_sem, seval]
      all_goals first | rfl | exact ⟨rfl, rfl⟩ | trace_state
    · intro i hi
      rcases Nat.lt_or_eq_of_le hi with hi1 | hi1
      · have g1 := t3 i hi1
        have f1 : ((i : Int) > 12) = False := eq_false (by omega)
        have f2 : (((v.slides.getD i default).way.length : Int) > 15) = False := eq_false (by omega)
        simp (maxSteps := 4000000) only [go_sem, seval]
        (repeat' (first
 | ((omega))
 | ((exfalso; omega))
 | refine awp_seqK ?_
 | refine kt ?_
 | refine And.intro ?_ ?_
 | ((first | refine awp_stp rfl ?_ | refine awp_draw (by kernel_rfl) (by kernel_rfl) ?_ | refine Imp.le2 ?_ | refine go_split (fun _h => ?_) (fun _h => ?_)) <;> try simp (maxSteps := 4000000) only [go_sem, seval, f1, f2, decide_false])
 | intro _h
 | refine awp_block ?_
 | refine awp_scope ?_
 | refine cond_b ?_ ?_
 | (show heapOK _ _ = true; kernel_rfl)
 | (show heapOK2 _ _ = true; kernel_rfl)
 | (omega)))
        all_goals first | rfl | exact ⟨rfl, rfl⟩ | trace_state
      · have f1 : ((v.parcels.length : Int) ≤ 15) = True := eq_true (by omega)
        have f2 : ((v.slides.length : Int) ≤ 12) = True := eq_true (by omega)
        rw [hi1]
        simp (maxSteps := 4000000) only [go_sem, seval]
        (repeat' (first
 | ((omega))
 | ((exfalso; omega))
 | refine awp_seqK ?_
 | refine kt ?_
 | refine And.intro ?_ ?_
 | ((first | refine awp_stp rfl ?_ | refine awp_draw (by kernel_rfl) (by kernel_rfl) ?_ | refine Imp.le2 ?_ | refine go_split (fun _h => ?_) (fun _h => ?_)) <;> try simp (maxSteps := 4000000) only [go_sem, seval, f1, f2, decide_true])
 | intro _h
 | refine awp_block ?_
 | refine awp_scope ?_
 | refine cond_b ?_ ?_
 | (show heapOK _ _ = true; kernel_rfl)
 | (show heapOK2 _ _ = true; kernel_rfl)
 | (omega)))
        all_goals trace_state
  · refine ⟨false, fun e => absurd e (by simp), ?_⟩
    simp only [valC, slP, slS]
    (refine callS_of_awp (fun w args => Try.call6 ..) Try.func6 rfl (fun w0 m0 wz => ?_); simp only [Try.ntmps6, Try.results6, initT, junks, sl, List.toList_toArray, List.cons_append, List.nil_append, List.length_cons, List.length_nil, Nat.reduceAdd, Nat.reduceSub])
    (repeat' (first
 | refine awp_seqK ?_
 | refine kt ?_
 | refine And.intro ?_ ?_
 | ((first | refine awp_stp rfl ?_ | refine awp_draw (by kernel_rfl) (by kernel_rfl) ?_ | refine Imp.le2 ?_ | refine go_split (fun _h => ?_) (fun _h => ?_)) <;> try simp (maxSteps := 4000000) only [go_sem, seval])
 | intro _h
 | refine awp_block ?_
 | refine awp_scope ?_
 | refine cond_b ?_ ?_
 | (show heapOK _ _ = true; kernel_rfl)
 | (show heapOK2 _ _ = true; kernel_rfl)
 | (omega)))
    refine awp_loopJ (fun i : Nat => i ≤ v.slides.length ∧ i ≤ 13 ∧ ∀ j, j < i → (v.slides.getD j default).way.length ≤ 15) (fun i => ⟨mkT 33 [(1, .ptr 0 0 0), (3, .int .i64 i)], [some (.cells 29 1 0 [.psl false v.parcels.length (recs parcC v.parcels), .psl false v.slides.length (recs slidC v.slides), .int .i64 v.s0, .int .i64 v.s1, .int .i64 v.s2])], []⟩) (fun i => v.slides.length - i) 0 ⟨Nat.zero_le _, by omega, fun j hj => by omega⟩ (.le2 ?_) ?_
    · simp (maxSteps := 4000000) only [go_sem, seval]
      all_goals first | rfl | exact ⟨rfl, rfl⟩ | trace_state
    · rintro i ⟨hi, hi13, hj⟩
      rcases Nat.lt_or_eq_of_le hi with hi1 | hi1
      · have hb := h3 i hi1
        by_cases c1 : (i : Int) > 12
        · have f1 := eq_true c1
          simp (maxSteps := 4000000) only [go_sem, seval]
          (repeat' (first
 | ((omega))
 | ((exfalso; omega))
 | refine awp_seqK ?_
 | refine kt ?_
 | refine And.intro ?_ ?_
 | ((first | refine awp_stp rfl ?_ | refine awp_draw (by kernel_rfl) (by kernel_rfl) ?_ | refine Imp.le2 ?_ | refine go_split (fun _h => ?_) (fun _h => ?_)) <;> try simp (maxSteps := 4000000) only [go_sem, seval, f1, decide_true, decide_false])
 | intro _h
 | refine awp_block ?_
 | refine awp_scope ?_
 | refine cond_b ?_ ?_
 | (show heapOK _ _ = true; kernel_rfl)
 | (show heapOK2 _ _ = true; kernel_rfl)
 | (omega)))
          all_goals first | rfl | exact ⟨rfl, rfl⟩ | trace_state
        · have f1 := eq_false c1
          by_cases c2 : ((v.slides.getD i default).way.length : Int) > 15
          · have f2 := eq_true c2
            simp (maxSteps := 4000000) only [go_sem, seval]
            (repeat' (first
 | ((omega))
 | ((exfalso; omega))
 | refine awp_seqK ?_
 | refine kt ?_
 | refine And.intro ?_ ?_
 | ((first | refine awp_stp rfl ?_ | refine awp_draw (by kernel_rfl) (by kernel_rfl) ?_ | refine Imp.le2 ?_ | refine go_split (fun _h => ?_) (fun _h => ?_)) <;> try simp (maxSteps := 4000000) only [go_sem, seval, f1, f2, decide_true, decide_false])
 | intro _h
 | refine awp_block ?_
 | refine awp_scope ?_
 | refine cond_b ?_ ?_
 | (show heapOK _ _ = true; kernel_rfl)
 | (show heapOK2 _ _ = true; kernel_rfl)
 | (omega)))
            all_goals first | rfl | exact ⟨rfl, rfl⟩ | trace_state
          · have f2 := eq_false c2
            simp (maxSteps := 4000000) only [go_sem, seval]
            (repeat' (first
 | ((omega))
 | ((exfalso; omega))
 | refine awp_seqK ?_
 | refine kt ?_
 | refine And.intro ?_ ?_
 | ((first | refine awp_stp rfl ?_ | refine awp_draw (by kernel_rfl) (by kernel_rfl) ?_ | refine Imp.le2 ?_ | refine go_split (fun _h => ?_) (fun _h => ?_)) <;> try simp (maxSteps := 4000000) only [go_sem, seval, f1, f2, decide_true, decide_false])
 | intro _h
 | refine awp_block ?_
 | refine awp_scope ?_
 | refine cond_b ?_ ?_
 | (show heapOK _ _ = true; kernel_rfl)
 | (show heapOK2 _ _ = true; kernel_rfl)
 | (omega)))
            refine ⟨i + 1, ⟨by omega, by omega, fun j hji => ?_⟩, by omega, .le2 ?_⟩
            · rcases Nat.lt_succ_iff_lt_or_eq.1 hji with h | rfl
              · exact hj j h
              · omega
            · simp (maxSteps := 4000000) only [go_sem, seval]
              all_goals first | rfl | exact ⟨rfl, rfl⟩ | trace_state
      · by_cases c1 : (v.parcels.length : Int) ≤ 15
        · have f1 := eq_true c1
          have f2 : ((v.slides.length : Int) ≤ 12) = False := eq_false (fun h => hT ⟨by omega, by omega, fun k hk => hj k (by omega)⟩)
          rw [hi1]
          simp (maxSteps := 4000000) only [go_sem, seval]
          (repeat' (first
 | ((omega))
 | ((exfalso; omega))
 | refine awp_seqK ?_
 | refine kt ?_
 | refine And.intro ?_ ?_
 | ((first | refine awp_stp rfl ?_ | refine awp_draw (by kernel_rfl) (by kernel_rfl) ?_ | refine Imp.le2 ?_ | refine go_split (fun _h => ?_) (fun _h => ?_)) <;> try simp (maxSteps := 4000000) only [go_sem, seval, f1, f2, decide_true, decide_false])
 | intro _h
 | refine awp_block ?_
 | refine awp_scope ?_
 | refine cond_b ?_ ?_
 | (show heapOK _ _ = true; kernel_rfl)
 | (show heapOK2 _ _ = true; kernel_rfl)
 | (omega)))
          all_goals trace_state
        · have f1 := eq_false c1
          rw [hi1]
          simp (maxSteps := 4000000) only [go_sem, seval]
          (repeat' (first
 | ((omega))
 | ((exfalso; omega))
 | refine awp_seqK ?_
 | refine kt ?_
 | refine And.intro ?_ ?_
 | ((first | refine awp_stp rfl ?_ | refine awp_draw (by kernel_rfl) (by kernel_rfl) ?_ | refine Imp.le2 ?_ | refine go_split (fun _h => ?_) (fun _h => ?_)) <;> try simp (maxSteps := 4000000) only [go_sem, seval, f1, decide_true, decide_false])
 | intro _h
 | refine awp_block ?_
 | refine awp_scope ?_
 | refine cond_b ?_ ?_
 | (show heapOK _ _ = true; kernel_rfl)
 | (show heapOK2 _ _ = true; kernel_rfl)
 | (omega)))
          all_goals trace_state
end Go.Am

/- Contracts of the zone functions: the fault of a valley by the reference; a valley for the program; its ends. -/
namespace Go.Am
open Go.RowKit Go.Proofs
attribute [local irreducible] AWP CallS Kt goK CallK stepK evOps SemF SemY Imp
set_option maxRecDepth 4000
set_option linter.unusedSimpArgs false
set_option linter.unusedVariables false
set_option maxHeartbeats 3200000
open Classical in
noncomputable def faultV (v : Valley) : Int := if 10 < v.slides.length then 3 else if ValOK v then 0 else 1
theorem faultV_ok {v : Valley} (h : faultV v = 0) : ValOK v := by
  unfold faultV at h
  split at h
  · omega
  · split at h
    · assumption
    · omega
theorem Fault_c (v : Valley) (hT : ThinV v) : CallS Try.prog 7 [.agg (valC v)] (.int .i64 (faultV v)) := by
  obtain ⟨t1, t2, t3⟩ := hT
  by_cases c0 : 10 < v.slides.length
  · have e0 : faultV v = 3 := by unfold faultV; rw [if_pos c0]
    rw [e0]
    have f1 : ((v.slides.length : Int) > 10) = True := eq_true (by omega)
    simp only [valC, slP, slS]
    (refine callS_of_awp (fun w args => Try.call7 ..) Try.func7 rfl (fun w0 m0 wz => ?_); simp only [Try.ntmps7, Try.results7, initT, junks, sl, List.toList_toArray, List.cons_append, List.nil_append, List.length_cons, List.length_nil, Nat.reduceAdd, Nat.reduceSub])
    (repeat' (first
 | ((omega))
 | ((exfalso; omega))
 | refine awp_seqK ?_
 | refine kt ?_
 | refine And.intro ?_ ?_
 | ((first | refine awp_stp rfl ?_ | refine awp_draw (by kernel_rfl) (by kernel_rfl) ?_ | refine Imp.le2 ?_ | refine go_split (fun _h => ?_) (fun _h => ?_)) <;> try simp (maxSteps := 4000000) only [go_sem, seval, f1, decide_true])
 | intro _h
 | refine awp_block ?_
 | refine awp_scope ?_
 | refine cond_b ?_ ?_
 | (show heapOK _ _ = true; kernel_rfl)
 | (show heapOK2 _ _ = true; kernel_rfl)
 | (omega)))
    all_goals trace_state
  · have hE : (ValOK v → faultV v = 0) ∧ (¬ ValOK v → faultV v = 1) := by
      unfold faultV
      rw [if_neg c0]
      exact ⟨fun h => if_pos h, fun h => if_neg h⟩
    generalize faultV v = R at *
    obtain ⟨hE0, hE1⟩ := hE
    have f1 : ((v.slides.length : Int) > 10) = False := eq_false (by omega)
    obtain ⟨n, hn⟩ : ∃ n, v.parcels.length = n := ⟨_, rfl⟩
    by_cases c1 : (1 ≤ v.parcels.length ∧ v.parcels.length ≤ 12) ∧ StepOK v
    · obtain ⟨c2, c3⟩ := c1
      have hst := c3
      unfold StepOK at hst
      have s1 : (v.s0 < 1) = False := eq_false (by omega)
      have s2 : (v.s1 ≤ v.s0) = False := eq_false (by omega)
      have s3 : (v.s2 ≤ v.s1) = False := eq_false (by omega)
      have s4 : (v.s2 > 10000) = False := eq_false (by omega)
      rw [hn] at c2 t1
      have s5 : (1 ≤ (n : Int) ∧ (n : Int) ≤ 12) = True := eq_true (by omega)
      simp only [valC, slP, slS, hn]
      (refine callS_of_awp (fun w args => Try.call7 ..) Try.func7 rfl (fun w0 m0 wz => ?_); simp only [Try.ntmps7, Try.results7, initT, junks, sl, List.toList_toArray, List.cons_append, List.nil_append, List.length_cons, List.length_nil, Nat.reduceAdd, Nat.reduceSub])
      (repeat' (first
 | ((omega))
 | ((exfalso; omega))
 | refine awp_seqK ?_
 | refine kt ?_
 | refine And.intro ?_ ?_
 | ((first | refine awp_stp rfl ?_ | refine awp_draw (by kernel_rfl) (by kernel_rfl) ?_ | refine Imp.le2 ?_ | refine callK_of (inZ_c _ _ _) ?_ | refine go_split (fun _h => ?_) (fun _h => ?_)) <;> try simp (maxSteps := 4000000) only [go_sem, seval, f1, s1, s2, s3, s4, s5, decide_true, decide_false, Bool.not_true])
 | intro _h
 | refine awp_block ?_
 | refine awp_scope ?_
 | refine cond_b ?_ ?_
 | (show heapOK _ _ = true; kernel_rfl)
 | (show heapOK2 _ _ = true; kernel_rfl)
 | (omega)))
      refine awp_loopJ (fun i : Nat => i ≤ n ∧ ∀ j, j < i → parcB (v.parcels.getD j default) = true) (fun i => ⟨mkT 139 [(1, .ptr 0 0 0), (3, .int .i64 n), (4, .int .i64 i)], [some (.cells 29 1 0 [.psl false n (recs parcC v.parcels), .psl false v.slides.length (recs slidC v.slides), .int .i64 v.s0, .int .i64 v.s1, .int .i64 v.s2])], []⟩) (fun i => n - i) 0 ⟨Nat.zero_le _, fun j hj => by omega⟩ (.le2 ?_) ?_
      · simp (maxSteps := 4000000) only [go_sem, seval]
        all_goals first | rfl | exact ⟨rfl, rfl⟩ | trace_state
      · rintro i ⟨hi, hj⟩
        rcases Nat.lt_or_eq_of_le hi with hi1 | hi1
        · obtain ⟨p, hp⟩ : ∃ p, v.parcels.getD i default = p := ⟨_, rfl⟩
          cases hpb : parcB p with
          | true =>
            have hb := of_decide_eq_true hpb
            have g1 := eq_true hb.1
            have g2 := eq_true hb.2.1
            have g3 := eq_true hb.2.2
            simp (maxSteps := 4000000) only [go_sem, seval]
            (repeat' (first
 | ((omega))
 | ((exfalso; omega))
 | refine awp_seqK ?_
 | refine kt ?_
 | refine And.intro ?_ ?_
 | ((first | refine awp_stp rfl ?_ | refine awp_draw (by kernel_rfl) (by kernel_rfl) ?_ | refine Imp.le2 ?_ | refine callK_of (inZ_c _ _ _) ?_ | refine go_split (fun _h => ?_) (fun _h => ?_)) <;> try simp (maxSteps := 4000000) only [go_sem, seval, hn, hp, parcC, g1, g2, g3, decide_true, Bool.not_true])
 | intro _h
 | refine awp_block ?_
 | refine awp_scope ?_
 | refine cond_b ?_ ?_
 | (show heapOK _ _ = true; kernel_rfl)
 | (show heapOK2 _ _ = true; kernel_rfl)
 | (omega)))
            refine ⟨i + 1, ⟨by omega, fun j hji => ?_⟩, by omega, .le2 ?_⟩
            · rcases Nat.lt_succ_iff_lt_or_eq.1 hji with h | rfl
              · exact hj j h
              · rw [hp]; exact hpb
            · simp (maxSteps := 4000000) only [go_sem, seval]
              all_goals first | rfl | exact ⟨rfl, rfl⟩ | trace_state
          | false =>
            have hRf : R = 1 := hE1 (fun h => by have := h.pa i (by omega); rw [hp, hpb] at this; cases this)
            rw [hRf]
            have hb := of_decide_eq_false hpb
            by_cases b1 : 0 ≤ p.worth ∧ p.worth ≤ 100000
            · by_cases b2 : 0 ≤ p.price ∧ p.price ≤ 100000
              · have b3 : ¬ (0 ≤ p.people ∧ p.people ≤ 1000) := fun b3 => hb ⟨b1, b2, b3⟩
                simp (maxSteps := 4000000) only [go_sem, seval]
                (repeat' (first
 | ((omega))
 | ((exfalso; omega))
 | refine awp_seqK ?_
 | refine kt ?_
 | refine And.intro ?_ ?_
 | ((first | refine awp_stp rfl ?_ | refine awp_draw (by kernel_rfl) (by kernel_rfl) ?_ | refine Imp.le2 ?_ | refine callK_of (inZ_c _ _ _) ?_ | refine go_split (fun _h => ?_) (fun _h => ?_)) <;> try simp (maxSteps := 4000000) only [go_sem, seval, hn, hp, parcC, eq_true b1, eq_true b2, eq_false b3, decide_true, decide_false, Bool.not_true, Bool.not_false])
 | intro _h
 | refine awp_block ?_
 | refine awp_scope ?_
 | refine cond_b ?_ ?_
 | (show heapOK _ _ = true; kernel_rfl)
 | (show heapOK2 _ _ = true; kernel_rfl)
 | (omega)))
                all_goals trace_state
              · simp (maxSteps := 4000000) only [go_sem, seval]
                (repeat' (first
 | ((omega))
 | ((exfalso; omega))
 | refine awp_seqK ?_
 | refine kt ?_
 | refine And.intro ?_ ?_
 | ((first | refine awp_stp rfl ?_ | refine awp_draw (by kernel_rfl) (by kernel_rfl) ?_ | refine Imp.le2 ?_ | refine callK_of (inZ_c _ _ _) ?_ | refine go_split (fun _h => ?_) (fun _h => ?_)) <;> try simp (maxSteps := 4000000) only [go_sem, seval, hn, hp, parcC, eq_true b1, eq_false b2, decide_true, decide_false, Bool.not_true, Bool.not_false])
 | intro _h
 | refine awp_block ?_
 | refine awp_scope ?_
 | refine cond_b ?_ ?_
 | (show heapOK _ _ = true; kernel_rfl)
 | (show heapOK2 _ _ = true; kernel_rfl)
 | (omega)))
                all_goals trace_state
            · simp (maxSteps := 4000000) only [go_sem, seval]
              (repeat' (first
 | ((omega))
 | ((exfalso; omega))
 | refine awp_seqK ?_
 | refine kt ?_
 | refine And.intro ?_ ?_
 | ((first | refine awp_stp rfl ?_ | refine awp_draw (by kernel_rfl) (by kernel_rfl) ?_ | refine Imp.le2 ?_ | refine callK_of (inZ_c _ _ _) ?_ | refine go_split (fun _h => ?_) (fun _h => ?_)) <;> try simp (maxSteps := 4000000) only [go_sem, seval, hn, hp, parcC, eq_false b1, decide_true, decide_false, Bool.not_true, Bool.not_false])
 | intro _h
 | refine awp_block ?_
 | refine awp_scope ?_
 | refine cond_b ?_ ?_
 | (show heapOK _ _ = true; kernel_rfl)
 | (show heapOK2 _ _ = true; kernel_rfl)
 | (omega)))
              all_goals trace_state
        · have hpa : ∀ j, j < n → parcB (v.parcels.getD j default) = true := fun j hjn => hj j (by omega)
          rw [hi1]
          simp (maxSteps := 4000000) only [go_sem, seval]
          (repeat' (first
 | ((omega))
 | ((exfalso; omega))
 | refine awp_seqK ?_
 | refine kt ?_
 | refine And.intro ?_ ?_
 | ((first | refine awp_stp rfl ?_ | refine awp_draw (by kernel_rfl) (by kernel_rfl) ?_ | refine Imp.le2 ?_ | refine go_split (fun _h => ?_) (fun _h => ?_)) <;> try simp (maxSteps := 4000000) only [go_sem, seval, hn])
 | intro _h
 | refine awp_block ?_
 | refine awp_scope ?_
 | refine cond_b ?_ ?_
 | (show heapOK _ _ = true; kernel_rfl)
 | (show heapOK2 _ _ = true; kernel_rfl)
 | (omega)))
          refine awp_loopJ (fun k : Nat => k ≤ v.slides.length ∧ ∀ j, j < k → SlidOK n (v.slides.getD j default)) (fun k => ⟨mkT 139 [(1, .ptr 0 0 0), (3, .int .i64 n), (6, .int .i64 k)], [some (.cells 29 1 0 [.psl false n (recs parcC v.parcels), .psl false v.slides.length (recs slidC v.slides), .int .i64 v.s0, .int .i64 v.s1, .int .i64 v.s2])], []⟩) (fun k => v.slides.length - k) 0 ⟨Nat.zero_le _, fun j hj => by omega⟩ (.le2 ?_) ?_
          · simp (maxSteps := 4000000) only [go_sem, seval]
            all_goals first | rfl | exact ⟨rfl, rfl⟩ | trace_state
          · rintro k ⟨hk, hkj⟩
            rcases Nat.lt_or_eq_of_le hk with hk1 | hk1
            · have tw := t3 k hk1
              obtain ⟨q, hq⟩ : ∃ q, v.slides.getD k default = q := ⟨_, rfl⟩
              rw [hq] at tw
              have hbad : ¬ SlidOK n q → R = 1 := fun h9 => hE1 (fun h => by have := h.sl k hk1; rw [hq, hn] at this; exact h9 this)
              have hw0 : (q.way.length : Int) = q.way.length := rfl
              by_cases a1 : 1 ≤ q.way.length
              · have g1 : ((q.way.length : Int) < 1) = False := eq_false (by omega)
                by_cases a2 : 1 ≤ q.rate ∧ q.rate ≤ 1000
                · have g2 := eq_true a2
                  by_cases a3 : 0 ≤ q.lo ∧ q.lo ≤ q.hi ∧ q.hi ≤ (q.way.length : Int)
                  · have g3 := eq_true a3
                    simp (maxSteps := 4000000) only [go_sem, seval]
                    (repeat' (first
 | ((omega))
 | ((exfalso; omega))
 | refine awp_seqK ?_
 | refine kt ?_
 | refine And.intro ?_ ?_
 | ((first | refine awp_stp rfl ?_ | refine awp_draw (by kernel_rfl) (by kernel_rfl) ?_ | refine Imp.le2 ?_ | refine callK_of (inZ_c _ _ _) ?_ | refine callK_of (uptoZ_c _ _ _) ?_ | refine go_split (fun _h => ?_) (fun _h => ?_)) <;> try simp (maxSteps := 4000000) only [go_sem, seval, hn, hq, slidC, sl, g1, g2, g3, decide_true, decide_false, Bool.not_true])
 | intro _h
 | refine awp_block ?_
 | refine awp_scope ?_
 | refine cond_b ?_ ?_
 | (show heapOK _ _ = true; kernel_rfl)
 | (show heapOK2 _ _ = true; kernel_rfl)
 | (omega)))
                    refine awp_loopJ (fun i : Nat => i ≤ q.way.length ∧ (∀ x, x < i → 0 ≤ q.way.getD x 0 ∧ q.way.getD x 0 ≤ (n : Int) - 1) ∧ ∀ x, x < i → ∀ j, j < x → q.way.getD j 0 ≠ q.way.getD x 0) (fun i => ⟨mkT 139 [(1, .ptr 0 0 0), (3, .int .i64 n), (6, .int .i64 k), (7, .ptr 1 0 0), (8, .int .i64 i)], [some (.cells 29 1 0 [.psl false n (recs parcC v.parcels), .psl false v.slides.length (recs slidC v.slides), .int .i64 v.s0, .int .i64 v.s1, .int .i64 v.s2]), some (.cells 39 1 0 [.psl false q.way.length (ints q.way), .int .i64 q.rate, .int .i64 q.lo, .int .i64 q.hi])], []⟩) (fun i => q.way.length - i) 0 ⟨Nat.zero_le _, fun x hx => by omega, fun x hx => by omega⟩ (.le2 ?_) ?_
                    · simp (maxSteps := 4000000) only [go_sem, seval]
                      all_goals first | rfl | exact ⟨rfl, rfl⟩ | trace_state
                    · rintro i ⟨hi2, hii, hid⟩
                      rcases Nat.lt_or_eq_of_le hi2 with hi3 | hi3
                      · obtain ⟨p, hp⟩ : ∃ p, q.way.getD i 0 = p := ⟨_, rfl⟩
                        by_cases a4 : 0 ≤ p ∧ p ≤ (n : Int) - 1
                        · have g4 := eq_true a4
                          simp (maxSteps := 4000000) only [go_sem, seval]
                          (repeat' (first
 | ((omega))
 | ((exfalso; omega))
 | refine awp_seqK ?_
 | refine kt ?_
 | refine And.intro ?_ ?_
 | ((first | refine awp_stp rfl ?_ | refine awp_draw (by kernel_rfl) (by kernel_rfl) ?_ | refine Imp.le2 ?_ | refine callK_of (inZ_c _ _ _) ?_ | refine go_split (fun _h => ?_) (fun _h => ?_)) <;> try simp (maxSteps := 4000000) only [go_sem, seval, hn, hp, g4, decide_true, Bool.not_true])
 | intro _h
 | refine awp_block ?_
 | refine awp_scope ?_
 | refine cond_b ?_ ?_
 | (show heapOK _ _ = true; kernel_rfl)
 | (show heapOK2 _ _ = true; kernel_rfl)
 | (omega)))
                          refine awp_loopJ (fun j : Nat => j ≤ i ∧ ∀ x, x < j → q.way.getD x 0 ≠ p) (fun j => ⟨mkT 139 [(1, .ptr 0 0 0), (3, .int .i64 n), (6, .int .i64 k), (7, .ptr 1 0 0), (8, .int .i64 i), (9, .int .i64 j)], [some (.cells 29 1 0 [.psl false n (recs parcC v.parcels), .psl false v.slides.length (recs slidC v.slides), .int .i64 v.s0, .int .i64 v.s1, .int .i64 v.s2]), some (.cells 39 1 0 [.psl false q.way.length (ints q.way), .int .i64 q.rate, .int .i64 q.lo, .int .i64 q.hi])], []⟩) (fun j => i - j) 0 ⟨Nat.zero_le _, fun x hx => by omega⟩ (.le2 ?_) ?_
                          · simp (maxSteps := 4000000) only [go_sem, seval]
                            all_goals first | rfl | exact ⟨rfl, rfl⟩ | trace_state
                          · rintro j ⟨hj2, hjx⟩
                            rcases Nat.lt_or_eq_of_le hj2 with hj3 | hj3
                            · by_cases a5 : q.way.getD j 0 = p
                              · have hRf : R = 1 := hbad (fun h => h.nd i hi3 j hj3 (by rw [hp]; exact a5))
                                rw [hRf]
                                have g5 := eq_true a5
                                simp (maxSteps := 4000000) only [go_sem, seval]
                                (repeat' (first
 | ((omega))
 | ((exfalso; omega))
 | refine awp_seqK ?_
 | refine kt ?_
 | refine And.intro ?_ ?_
 | ((first | refine awp_stp rfl ?_ | refine awp_draw (by kernel_rfl) (by kernel_rfl) ?_ | refine Imp.le2 ?_ | refine callK_of (inZ_c _ _ _) ?_ | refine go_split (fun _h => ?_) (fun _h => ?_)) <;> try simp (maxSteps := 4000000) only [go_sem, seval, hn, hp, g5, decide_true])
 | intro _h
 | refine awp_block ?_
 | refine awp_scope ?_
 | refine cond_b ?_ ?_
 | (show heapOK _ _ = true; kernel_rfl)
 | (show heapOK2 _ _ = true; kernel_rfl)
 | (omega)))
                                all_goals trace_state
                              · have g5 := eq_false a5
                                simp (maxSteps := 4000000) only [go_sem, seval]
                                (repeat' (first
 | ((omega))
 | ((exfalso; omega))
 | refine awp_seqK ?_
 | refine kt ?_
 | refine And.intro ?_ ?_
 | ((first | refine awp_stp rfl ?_ | refine awp_draw (by kernel_rfl) (by kernel_rfl) ?_ | refine Imp.le2 ?_ | refine callK_of (inZ_c _ _ _) ?_ | refine go_split (fun _h => ?_) (fun _h => ?_)) <;> try simp (maxSteps := 4000000) only [go_sem, seval, hn, hp, g5, decide_false])
 | intro _h
 | refine awp_block ?_
 | refine awp_scope ?_
 | refine cond_b ?_ ?_
 | (show heapOK _ _ = true; kernel_rfl)
 | (show heapOK2 _ _ = true; kernel_rfl)
 | (omega)))
                                refine ⟨j + 1, ⟨by omega, fun x hx => ?_⟩, by omega, .le2 ?_⟩
                                · rcases Nat.lt_succ_iff_lt_or_eq.1 hx with h | rfl
                                  · exact hjx x h
                                  · exact a5
                                · simp (maxSteps := 4000000) only [go_sem, seval]
                                  all_goals first | rfl | exact ⟨rfl, rfl⟩ | trace_state
                            · rw [hj3]
                              simp (maxSteps := 4000000) only [go_sem, seval]
                              (repeat' (first
 | ((omega))
 | ((exfalso; omega))
 | refine awp_seqK ?_
 | refine kt ?_
 | refine And.intro ?_ ?_
 | ((first | refine awp_stp rfl ?_ | refine awp_draw (by kernel_rfl) (by kernel_rfl) ?_ | refine Imp.le2 ?_ | refine go_split (fun _h => ?_) (fun _h => ?_)) <;> try simp (maxSteps := 4000000) only [go_sem, seval])
 | intro _h
 | refine awp_block ?_
 | refine awp_scope ?_
 | refine cond_b ?_ ?_
 | (show heapOK _ _ = true; kernel_rfl)
 | (show heapOK2 _ _ = true; kernel_rfl)
 | (omega)))
                              refine ⟨i + 1, ⟨by omega, fun x hx => ?_, fun x hx => ?_⟩, by omega, .le2 ?_⟩
                              · rcases Nat.lt_succ_iff_lt_or_eq.1 hx with h | rfl
                                · exact hii x h
                                · rw [hp]; exact a4
                              · rcases Nat.lt_succ_iff_lt_or_eq.1 hx with h | rfl
                                · exact hid x h
                                · intro y hy; rw [hp]; exact hjx y (by omega)
                              · simp (maxSteps := 4000000) only [go_sem, seval]
                                all_goals first | rfl | exact ⟨rfl, rfl⟩ | trace_state
                        · have g4 := eq_false a4
                          have hRf : R = 1 := hbad (fun h => a4 (by have := h.inn i hi3; rw [hp] at this; exact this))
                          rw [hRf]
                          simp (maxSteps := 4000000) only [go_sem, seval]
                          (repeat' (first
 | ((omega))
 | ((exfalso; omega))
 | refine awp_seqK ?_
 | refine kt ?_
 | refine And.intro ?_ ?_
 | ((first | refine awp_stp rfl ?_ | refine awp_draw (by kernel_rfl) (by kernel_rfl) ?_ | refine Imp.le2 ?_ | refine callK_of (inZ_c _ _ _) ?_ | refine go_split (fun _h => ?_) (fun _h => ?_)) <;> try simp (maxSteps := 4000000) only [go_sem, seval, hn, hp, g4, decide_false, Bool.not_false])
 | intro _h
 | refine awp_block ?_
 | refine awp_scope ?_
 | refine cond_b ?_ ?_
 | (show heapOK _ _ = true; kernel_rfl)
 | (show heapOK2 _ _ = true; kernel_rfl)
 | (omega)))
                          all_goals trace_state
                      · rw [hi3]
                        simp (maxSteps := 4000000) only [go_sem, seval]
                        (repeat' (first
 | ((omega))
 | ((exfalso; omega))
 | refine awp_seqK ?_
 | refine kt ?_
 | refine And.intro ?_ ?_
 | ((first | refine awp_stp rfl ?_ | refine awp_draw (by kernel_rfl) (by kernel_rfl) ?_ | refine Imp.le2 ?_ | refine go_split (fun _h => ?_) (fun _h => ?_)) <;> try simp (maxSteps := 4000000) only [go_sem, seval])
 | intro _h
 | refine awp_block ?_
 | refine awp_scope ?_
 | refine cond_b ?_ ?_
 | (show heapOK _ _ = true; kernel_rfl)
 | (show heapOK2 _ _ = true; kernel_rfl)
 | (omega)))
                        refine ⟨k + 1, ⟨by omega, fun x hx => ?_⟩, by omega, .le2 ?_⟩
                        · rcases Nat.lt_succ_iff_lt_or_eq.1 hx with h | rfl
                          · exact hkj x h
                          · rw [hq]; exact ⟨a1, fun y hy => hii y (by omega), fun y hy => hid y (by omega), a2, a3⟩
                        · simp (maxSteps := 4000000) only [go_sem, seval]
                          all_goals first | rfl | exact ⟨rfl, rfl⟩ | trace_state
                  · have g3 := eq_false a3
                    have hRf : R = 1 := hbad (fun h => a3 h.rng)
                    rw [hRf]
                    simp (maxSteps := 4000000) only [go_sem, seval]
                    (repeat' (first
 | ((omega))
 | ((exfalso; omega))
 | refine awp_seqK ?_
 | refine kt ?_
 | refine And.intro ?_ ?_
 | ((first | refine awp_stp rfl ?_ | refine awp_draw (by kernel_rfl) (by kernel_rfl) ?_ | refine Imp.le2 ?_ | refine callK_of (inZ_c _ _ _) ?_ | refine callK_of (uptoZ_c _ _ _) ?_ | refine go_split (fun _h => ?_) (fun _h => ?_)) <;> try simp (maxSteps := 4000000) only [go_sem, seval, hn, hq, slidC, sl, g1, g2, g3, decide_true, decide_false, Bool.not_true, Bool.not_false])
 | intro _h
 | refine awp_block ?_
 | refine awp_scope ?_
 | refine cond_b ?_ ?_
 | (show heapOK _ _ = true; kernel_rfl)
 | (show heapOK2 _ _ = true; kernel_rfl)
 | (omega)))
                    all_goals trace_state
                · have g2 := eq_false a2
                  have hRf : R = 1 := hbad (fun h => a2 h.rate)
                  rw [hRf]
                  simp (maxSteps := 4000000) only [go_sem, seval]
                  (repeat' (first
 | ((omega))
 | ((exfalso; omega))
 | refine awp_seqK ?_
 | refine kt ?_
 | refine And.intro ?_ ?_
 | ((first | refine awp_stp rfl ?_ | refine awp_draw (by kernel_rfl) (by kernel_rfl) ?_ | refine Imp.le2 ?_ | refine callK_of (inZ_c _ _ _) ?_ | refine callK_of (uptoZ_c _ _ _) ?_ | refine go_split (fun _h => ?_) (fun _h => ?_)) <;> try simp (maxSteps := 4000000) only [go_sem, seval, hn, hq, slidC, sl, g1, g2, decide_true, decide_false, Bool.not_true, Bool.not_false])
 | intro _h
 | refine awp_block ?_
 | refine awp_scope ?_
 | refine cond_b ?_ ?_
 | (show heapOK _ _ = true; kernel_rfl)
 | (show heapOK2 _ _ = true; kernel_rfl)
 | (omega)))
                  all_goals trace_state
              · have g1 : ((q.way.length : Int) < 1) = True := eq_true (by omega)
                have hRf : R = 1 := hbad (fun h => a1 h.ne)
                rw [hRf]
                simp (maxSteps := 4000000) only [go_sem, seval]
                (repeat' (first
 | ((omega))
 | ((exfalso; omega))
 | refine awp_seqK ?_
 | refine kt ?_
 | refine And.intro ?_ ?_
 | ((first | refine awp_stp rfl ?_ | refine awp_draw (by kernel_rfl) (by kernel_rfl) ?_ | refine Imp.le2 ?_ | refine callK_of (inZ_c _ _ _) ?_ | refine callK_of (uptoZ_c _ _ _) ?_ | refine go_split (fun _h => ?_) (fun _h => ?_)) <;> try simp (maxSteps := 4000000) only [go_sem, seval, hn, hq, slidC, sl, g1, decide_true, decide_false, Bool.not_true, Bool.not_false])
 | intro _h
 | refine awp_block ?_
 | refine awp_scope ?_
 | refine cond_b ?_ ?_
 | (show heapOK _ _ = true; kernel_rfl)
 | (show heapOK2 _ _ = true; kernel_rfl)
 | (omega)))
                all_goals trace_state
            · have hR0 : R = 0 := hE0 ⟨by omega, by omega, c3, fun i hi => hpa i (by omega), fun k hk => by rw [hn]; exact hkj k (by omega)⟩
              rw [hk1, hR0]
              simp (maxSteps := 4000000) only [go_sem, seval]
              (repeat' (first
 | ((omega))
 | ((exfalso; omega))
 | refine awp_seqK ?_
 | refine kt ?_
 | refine And.intro ?_ ?_
 | ((first | refine awp_stp rfl ?_ | refine awp_draw (by kernel_rfl) (by kernel_rfl) ?_ | refine Imp.le2 ?_ | refine go_split (fun _h => ?_) (fun _h => ?_)) <;> try simp (maxSteps := 4000000) only [go_sem, seval])
 | intro _h
 | refine awp_block ?_
 | refine awp_scope ?_
 | refine cond_b ?_ ?_
 | (show heapOK _ _ = true; kernel_rfl)
 | (show heapOK2 _ _ = true; kernel_rfl)
 | (omega)))
              all_goals trace_state
    · have hRf : R = 1 := hE1 (fun h => c1 ⟨h.pn, h.st⟩)
      rw [hRf]
      simp only [valC, slP, slS, hn]
      rw [hn] at c1 t1
      by_cases c2 : 1 ≤ n ∧ n ≤ 12
      · have s5 : (1 ≤ (n : Int) ∧ (n : Int) ≤ 12) = True := eq_true (by omega)
        have hst : ¬ StepOK v := fun h => c1 ⟨c2, h⟩
        unfold StepOK at hst
        by_cases s1 : v.s0 < 1
        · have s1 := eq_true s1
          (refine callS_of_awp (fun w args => Try.call7 ..) Try.func7 rfl (fun w0 m0 wz => ?_); simp only [Try.ntmps7, Try.results7, initT, junks, sl, List.toList_toArray, List.cons_append, List.nil_append, List.length_cons, List.length_nil, Nat.reduceAdd, Nat.reduceSub])
          (repeat' (first
 | ((omega))
 | ((exfalso; omega))
 | refine awp_seqK ?_
 | refine kt ?_
 | refine And.intro ?_ ?_
 | ((first | refine awp_stp rfl ?_ | refine awp_draw (by kernel_rfl) (by kernel_rfl) ?_ | refine Imp.le2 ?_ | refine callK_of (inZ_c _ _ _) ?_ | refine go_split (fun _h => ?_) (fun _h => ?_)) <;> try simp (maxSteps := 4000000) only [go_sem, seval, hn, f1, s1, s5, decide_true, decide_false, Bool.not_true])
 | intro _h
 | refine awp_block ?_
 | refine awp_scope ?_
 | refine cond_b ?_ ?_
 | (show heapOK _ _ = true; kernel_rfl)
 | (show heapOK2 _ _ = true; kernel_rfl)
 | (omega)))
          all_goals trace_state
        · by_cases s2 : v.s1 ≤ v.s0
          · have s1 := eq_false s1
            have s2 := eq_true s2
            (refine callS_of_awp (fun w args => Try.call7 ..) Try.func7 rfl (fun w0 m0 wz => ?_); simp only [Try.ntmps7, Try.results7, initT, junks, sl, List.toList_toArray, List.cons_append, List.nil_append, List.length_cons, List.length_nil, Nat.reduceAdd, Nat.reduceSub])
            (repeat' (first
 | ((omega))
 | ((exfalso; omega))
 | refine awp_seqK ?_
 | refine kt ?_
 | refine And.intro ?_ ?_
 | ((first | refine awp_stp rfl ?_ | refine awp_draw (by kernel_rfl) (by kernel_rfl) ?_ | refine Imp.le2 ?_ | refine callK_of (inZ_c _ _ _) ?_ | refine go_split (fun _h => ?_) (fun _h => ?_)) <;> try simp (maxSteps := 4000000) only [go_sem, seval, hn, f1, s1, s2, s5, decide_true, decide_false, Bool.not_true])
 | intro _h
 | refine awp_block ?_
 | refine awp_scope ?_
 | refine cond_b ?_ ?_
 | (show heapOK _ _ = true; kernel_rfl)
 | (show heapOK2 _ _ = true; kernel_rfl)
 | (omega)))
            all_goals trace_state
          · by_cases s3 : v.s2 ≤ v.s1
            · have s1 := eq_false s1
              have s2 := eq_false s2
              have s3 := eq_true s3
              (refine callS_of_awp (fun w args => Try.call7 ..) Try.func7 rfl (fun w0 m0 wz => ?_); simp only [Try.ntmps7, Try.results7, initT, junks, sl, List.toList_toArray, List.cons_append, List.nil_append, List.length_cons, List.length_nil, Nat.reduceAdd, Nat.reduceSub])
              (repeat' (first
 | ((omega))
 | ((exfalso; omega))
 | refine awp_seqK ?_
 | refine kt ?_
 | refine And.intro ?_ ?_
 | ((first | refine awp_stp rfl ?_ | refine awp_draw (by kernel_rfl) (by kernel_rfl) ?_ | refine Imp.le2 ?_ | refine callK_of (inZ_c _ _ _) ?_ | refine go_split (fun _h => ?_) (fun _h => ?_)) <;> try simp (maxSteps := 4000000) only [go_sem, seval, hn, f1, s1, s2, s3, s5, decide_true, decide_false, Bool.not_true])
 | intro _h
 | refine awp_block ?_
 | refine awp_scope ?_
 | refine cond_b ?_ ?_
 | (show heapOK _ _ = true; kernel_rfl)
 | (show heapOK2 _ _ = true; kernel_rfl)
 | (omega)))
              all_goals trace_state
            · have s4 : (v.s2 > 10000) = True := eq_true (by omega)
              have s1 := eq_false s1
              have s2 := eq_false s2
              have s3 := eq_false s3
              (refine callS_of_awp (fun w args => Try.call7 ..) Try.func7 rfl (fun w0 m0 wz => ?_); simp only [Try.ntmps7, Try.results7, initT, junks, sl, List.toList_toArray, List.cons_append, List.nil_append, List.length_cons, List.length_nil, Nat.reduceAdd, Nat.reduceSub])
              (repeat' (first
 | ((omega))
 | ((exfalso; omega))
 | refine awp_seqK ?_
 | refine kt ?_
 | refine And.intro ?_ ?_
 | ((first | refine awp_stp rfl ?_ | refine awp_draw (by kernel_rfl) (by kernel_rfl) ?_ | refine Imp.le2 ?_ | refine callK_of (inZ_c _ _ _) ?_ | refine go_split (fun _h => ?_) (fun _h => ?_)) <;> try simp (maxSteps := 4000000) only [go_sem, seval, hn, f1, s1, s2, s3, s4, s5, decide_true, decide_false, Bool.not_true])
 | intro _h
 | refine awp_block ?_
 | refine awp_scope ?_
 | refine cond_b ?_ ?_
 | (show heapOK _ _ = true; kernel_rfl)
 | (show heapOK2 _ _ = true; kernel_rfl)
 | (omega)))
              all_goals trace_state
      · have s5 : (1 ≤ (n : Int) ∧ (n : Int) ≤ 12) = False := eq_false (by omega)
        (refine callS_of_awp (fun w args => Try.call7 ..) Try.func7 rfl (fun w0 m0 wz => ?_); simp only [Try.ntmps7, Try.results7, initT, junks, sl, List.toList_toArray, List.cons_append, List.nil_append, List.length_cons, List.length_nil, Nat.reduceAdd, Nat.reduceSub])
        (repeat' (first
 | ((omega))
 | ((exfalso; omega))
 | refine awp_seqK ?_
 | refine kt ?_
 | refine And.intro ?_ ?_
 | ((first | refine awp_stp rfl ?_ | refine awp_draw (by kernel_rfl) (by kernel_rfl) ?_ | refine Imp.le2 ?_ | refine callK_of (inZ_c _ _ _) ?_ | refine go_split (fun _h => ?_) (fun _h => ?_)) <;> try simp (maxSteps := 4000000) only [go_sem, seval, hn, f1, s5, decide_true, decide_false, Bool.not_true, Bool.not_false])
 | intro _h
 | refine awp_block ?_
 | refine awp_scope ?_
 | refine cond_b ?_ ?_
 | (show heapOK _ _ = true; kernel_rfl)
 | (show heapOK2 _ _ = true; kernel_rfl)
 | (omega)))
        all_goals trace_state
end Go.Am

/- Contracts of the zone functions: a valley for the program; ends; zones; ranges. -/
namespace Go.Am
open Go.RowKit Go.Proofs
attribute [local irreducible] AWP CallS Kt goK CallK stepK evOps SemF SemY Imp
set_option maxRecDepth 4000
set_option linter.unusedSimpArgs false
set_option linter.unusedVariables false
set_option maxHeartbeats 3200000
theorem take_snoc' {α : Type} {l : List α} {k : Nat} {d : α} (h : k < l.length) : l.take (k + 1) = l.take k ++ [l.getD k d] := by
  rw [List.take_succ_eq_append_getElem h]; simp [List.getD_eq_getElem?_getD, h]
theorem tab_snoc' {α : Type} {f : Nat → α} {k : Nat} : tab (k + 1) f = tab k f ++ [f k] := by simp [tab, List.range_succ]
theorem ints_snoc' {l : List Int} {x : Int} : ints l ++ [.int .i64 x] = ints (l ++ [x]) := by simp [ints]
theorem recs_nil' {α : Type} {enc : α → List AV} : recs enc [] = [] := rfl
theorem recs_snoc' {α : Type} {enc : α → List AV} {l : List α} {a : α} : recs enc (l ++ [a]) = recs enc l ++ enc a := by simp [recs]
theorem Valley_c (v : Valley) (hT : ThinV v) : CallS Try.prog 15 [.agg (valC v)] (.agg (valC v)) := by
  obtain ⟨t1, t2, t3⟩ := hT
  simp only [valC, slP, slS]
  (refine callS_of_awp (fun w args => Try.call15 ..) Try.func15 rfl (fun w0 m0 wz => ?_); simp only [Try.ntmps15, Try.results15, initT, junks, sl, List.toList_toArray, List.cons_append, List.nil_append, List.length_cons, List.length_nil, Nat.reduceAdd, Nat.reduceSub])
  (repeat' (first
 | refine awp_seqK ?_
 | refine kt ?_
 | refine And.intro ?_ ?_
 | ((first | refine awp_stp rfl ?_ | refine awp_draw (by kernel_rfl) (by kernel_rfl) ?_ | refine Imp.le2 ?_ | refine go_split (fun _h => ?_) (fun _h => ?_)) <;> try simp (maxSteps := 4000000) only [go_sem, seval])
 | intro _h
 | refine awp_block ?_
 | refine awp_scope ?_
 | refine cond_b ?_ ?_
 | (show heapOK _ _ = true; kernel_rfl)
 | (show heapOK2 _ _ = true; kernel_rfl)
 | (omega)))
  refine awp_adH 2 0 71 4 rfl rfl ?_
  simp only [adH, hget, hset, lset, List.length_cons, List.length_nil, Nat.reduceAdd]
  refine awp_adH 2 1 73 4 rfl rfl ?_
  simp only [adH, hget, hset, lset, List.length_cons, List.length_nil, Nat.reduceAdd]
  refine awp_loopN v.parcels.length (fun i => ⟨mkT 68 [(1, .ptr 0 0 0), (2, .ptr 1 0 0), (3, .ptr 2 0 0), (4, .int .i64 i)], [some (.cells 29 1 0 [.psl false v.parcels.length (recs parcC v.parcels), .psl false v.slides.length (recs slidC v.slides), .int .i64 v.s0, .int .i64 v.s1, .int .i64 v.s2]), some (.cells 58 1 0 [.nils, .nils, .int .i64 0, .int .i64 0, .int .i64 0]), some (.cells 58 1 0 [.osl 3 i 0 i, .osl 4 0 0 0, .int .i64 v.s0, .int .i64 v.s1, .int .i64 v.s2]), some (.cells 71 4 i (recs parcC (v.parcels.take i))), some (.cells 73 4 0 [])], []⟩) (.le2 ?_) ?_
  · simp only [List.take_zero, recs_nil']; simp (maxSteps := 4000000) only [go_sem, seval]
    all_goals first | rfl | exact ⟨rfl, rfl⟩ | trace_state
  · intro i hi
    rcases Nat.lt_or_eq_of_le hi with hi1 | hi1
    · have hlt : (v.parcels.take i).length = i := by simp; omega
      have hrl : (recs parcC (v.parcels.take i)).length = i * 4 := by rw [len_Pa, hlt]
      obtain ⟨p, hp⟩ : ∃ p, v.parcels.getD i default = p := ⟨_, rfl⟩
      have e2 : recs parcC (v.parcels.take (i + 1)) = recs parcC (v.parcels.take i) ++ parcC p := by rw [take_snoc' (d := default) hi1, recs_snoc', hp]
      rw [e2]
      simp (maxSteps := 4000000) only [go_sem, seval]
      (repeat' (first
 | ((omega))
 | ((exfalso; omega))
 | refine awp_seqK ?_
 | refine kt ?_
 | refine And.intro ?_ ?_
 | ((first | refine awp_stp rfl ?_ | refine awp_draw (by kernel_rfl) (by kernel_rfl) ?_ | refine Imp.le2 ?_ | refine go_split (fun _h => ?_) (fun _h => ?_)) <;> try simp (maxSteps := 4000000) only [go_sem, seval, hp, parcC, hrl])
 | intro _h
 | refine awp_block ?_
 | refine awp_scope ?_
 | refine cond_b ?_ ?_
 | (show heapOK _ _ = true; kernel_rfl)
 | (show heapOK2 _ _ = true; kernel_rfl)
 | (omega)))
      all_goals first | (rw [List.all_append, lv_Pa]; rfl) | (rw [_h]; done) | trace_state
    · have hrt : v.parcels.take v.parcels.length = v.parcels := by simp
      rw [hi1, hrt]
      simp (maxSteps := 4000000) only [go_sem, seval]
      (repeat' (first
 | ((omega))
 | ((exfalso; omega))
 | refine awp_seqK ?_
 | refine kt ?_
 | refine And.intro ?_ ?_
 | ((first | refine awp_stp rfl ?_ | refine awp_draw (by kernel_rfl) (by kernel_rfl) ?_ | refine Imp.le2 ?_ | refine go_split (fun _h => ?_) (fun _h => ?_)) <;> try simp (maxSteps := 4000000) only [go_sem, seval])
 | intro _h
 | refine awp_block ?_
 | refine awp_scope ?_
 | refine cond_b ?_ ?_
 | (show heapOK _ _ = true; kernel_rfl)
 | (show heapOK2 _ _ = true; kernel_rfl)
 | (omega)))
      refine awp_loopN v.slides.length (fun k => ⟨mkT 68 [(1, .ptr 0 0 0), (2, .ptr 1 0 0), (3, .ptr 2 0 0), (6, .int .i64 k)], [some (.cells 29 1 0 [.psl false v.parcels.length (recs parcC v.parcels), .psl false v.slides.length (recs slidC v.slides), .int .i64 v.s0, .int .i64 v.s1, .int .i64 v.s2]), some (.cells 58 1 0 [.nils, .nils, .int .i64 0, .int .i64 0, .int .i64 0]), some (.cells 58 1 0 [.osl 3 v.parcels.length 0 v.parcels.length, .osl 4 k 0 k, .int .i64 v.s0, .int .i64 v.s1, .int .i64 v.s2]), some (.cells 71 4 v.parcels.length (recs parcC v.parcels)), some (.cells 73 4 k (recs slidC (v.slides.take k)))], []⟩) (.le2 ?_) ?_
      · simp only [List.take_zero, recs_nil']; simp (maxSteps := 4000000) only [go_sem, seval]
        all_goals first | rfl | exact ⟨rfl, rfl⟩ | trace_state
      · intro k hk
        rcases Nat.lt_or_eq_of_le hk with hk1 | hk1
        · have hlt : (v.slides.take k).length = k := by simp; omega
          have hrl : (recs slidC (v.slides.take k)).length = k * 4 := by rw [len_Sd, hlt]
          have tw := t3 k hk1
          obtain ⟨q, hq⟩ : ∃ q, v.slides.getD k default = q := ⟨_, rfl⟩
          rw [hq] at tw
          have hlz := listZ_c q.way (by omega)
          have e2 : recs slidC (v.slides.take (k + 1)) = recs slidC (v.slides.take k) ++ slidC q := by rw [take_snoc' (d := default) hk1, recs_snoc', hq]
          rw [e2]
          simp only [slidC, sl] at hlz ⊢
          simp (maxSteps := 4000000) only [go_sem, seval]
          (repeat' (first
 | ((omega))
 | ((exfalso; omega))
 | refine awp_seqK ?_
 | refine kt ?_
 | refine And.intro ?_ ?_
 | ((first | refine awp_stp rfl ?_ | refine awp_draw (by kernel_rfl) (by kernel_rfl) ?_ | refine Imp.le2 ?_ | refine callK_of (hlz) ?_ | refine go_split (fun _h => ?_) (fun _h => ?_)) <;> try simp (maxSteps := 4000000) only [go_sem, seval, hq, slidC, sl, hrl])
 | intro _h
 | refine awp_block ?_
 | refine awp_scope ?_
 | refine cond_b ?_ ?_
 | (show heapOK _ _ = true; kernel_rfl)
 | (show heapOK2 _ _ = true; kernel_rfl)
 | (omega)))
          all_goals first | (rw [List.all_append, lv_Sd]; rfl) | trace_state
        · have hst : v.slides.take v.slides.length = v.slides := by simp
          rw [hk1, hst]
          simp (maxSteps := 4000000) only [go_sem, seval]
          (repeat' (first
 | ((omega))
 | ((exfalso; omega))
 | refine awp_seqK ?_
 | refine kt ?_
 | refine And.intro ?_ ?_
 | ((first | refine awp_stp rfl ?_ | refine awp_draw (by kernel_rfl) (by kernel_rfl) ?_ | refine Imp.le2 ?_ | refine go_split (fun _h => ?_) (fun _h => ?_)) <;> try simp (maxSteps := 4000000) only [go_sem, seval])
 | intro _h
 | refine awp_block ?_
 | refine awp_scope ?_
 | refine cond_b ?_ ?_
 | (show heapOK _ _ = true; kernel_rfl)
 | (show heapOK2 _ _ = true; kernel_rfl)
 | (omega)))
          all_goals trace_state
def lookV (v : Valley) (truth : List Int) : List AV := [slP v.parcels, slS v.slides, .int .i64 v.s0, .int .i64 v.s1, .int .i64 v.s2, sl truth]
theorem end_c (v : Valley) (hs : v.slides.length ≤ 1000000) (F : FuncId) (g : Slid → Int) (hF : ∀ s : Slid, CallS Try.prog F [.agg [.int .i64 s.lo, .int .i64 s.hi]] (.int .i64 (g s))) : CallS Try.prog 32 [.agg (valC v), .fn (.func F) [] []] (.agg (lookV v (v.slides.map g))) := by
  simp only [valC, slP, slS, lookV, sl, List.length_map]
  (refine callS_of_awp (fun w args => Try.call32 ..) Try.func32 rfl (fun w0 m0 wz => ?_); simp only [Try.ntmps32, Try.results32, initT, junks, sl, List.toList_toArray, List.cons_append, List.nil_append, List.length_cons, List.length_nil, Nat.reduceAdd, Nat.reduceSub])
  (repeat' (first
 | refine awp_seqK ?_
 | refine kt ?_
 | refine And.intro ?_ ?_
 | ((first | refine awp_stp rfl ?_ | refine awp_draw (by kernel_rfl) (by kernel_rfl) ?_ | refine Imp.le2 ?_ | refine go_split (fun _h => ?_) (fun _h => ?_)) <;> try simp (maxSteps := 4000000) only [go_sem, seval])
 | intro _h
 | refine awp_block ?_
 | refine awp_scope ?_
 | refine cond_b ?_ ?_
 | (show heapOK _ _ = true; kernel_rfl)
 | (show heapOK2 _ _ = true; kernel_rfl)
 | (omega)))
  refine awp_adH 2 5 3 1 rfl rfl ?_
  simp only [adH, hget, hset, lset, List.length_cons, List.length_nil, Nat.reduceAdd]
  refine awp_loopN v.slides.length (fun k => ⟨mkT 28 [(1, .fn (.func F) [] []), (2, .ptr 0 0 0), (4, .ptr 1 0 0), (5, .ptr 2 0 0), (11, .psl false v.slides.length (recs slidC v.slides)), (12, .int .i64 v.slides.length), (13, .int .i64 k)], [some (.cells 58 1 0 [.psl false v.parcels.length (recs parcC v.parcels), .psl false v.slides.length (recs slidC v.slides), .int .i64 v.s0, .int .i64 v.s1, .int .i64 v.s2]), some (.cells 101 1 0 [.nils, .nils, .int .i64 0, .int .i64 0, .int .i64 0, .nils]), some (.cells 101 1 0 [.psl false v.parcels.length (recs parcC v.parcels), .psl false v.slides.length (recs slidC v.slides), .int .i64 v.s0, .int .i64 v.s1, .int .i64 v.s2, .osl 3 k 0 k]), some (.cells 3 1 k (ints ((v.slides.take k).map g)))], []⟩) (.le2 ?_) ?_
  · simp only [List.take_zero, List.map_nil, ints]; simp (maxSteps := 4000000) only [go_sem, seval]
    all_goals first | rfl | exact ⟨rfl, rfl⟩ | trace_state
  · intro k hk
    rcases Nat.lt_or_eq_of_le hk with hk1 | hk1
    · have hlt : ((v.slides.take k).map g).length = k := by simp; omega
      obtain ⟨q, hq⟩ : ∃ q, v.slides.getD k default = q := ⟨_, rfl⟩
      have e2 : (v.slides.take (k + 1)).map g = (v.slides.take k).map g ++ [g q] := by rw [take_snoc' (d := default) hk1, List.map_append, hq]; rfl
      have hf := hF q
      rw [e2]
      generalize (v.slides.take k).map g = L at *
      simp (maxSteps := 4000000) only [go_sem, seval]
      (repeat' (first
 | ((omega))
 | ((exfalso; omega))
 | refine awp_seqK ?_
 | refine kt ?_
 | refine And.intro ?_ ?_
 | ((first | refine awp_stp rfl ?_ | refine awp_draw (by kernel_rfl) (by kernel_rfl) ?_ | refine Imp.le2 ?_ | refine callK_of (hf) ?_ | refine go_split (fun _h => ?_) (fun _h => ?_)) <;> try simp (maxSteps := 4000000) only [go_sem, seval, hq, slidC, sl, hlt, ints_snoc'])
 | intro _h
 | refine awp_block ?_
 | refine awp_scope ?_
 | refine cond_b ?_ ?_
 | (show heapOK _ _ = true; kernel_rfl)
 | (show heapOK2 _ _ = true; kernel_rfl)
 | (omega)))
      all_goals trace_state
    · have hst : v.slides.take v.slides.length = v.slides := by simp
      rw [hk1, hst]
      simp (maxSteps := 4000000) only [go_sem, seval]
      (repeat' (first
 | ((omega))
 | ((exfalso; omega))
 | refine awp_seqK ?_
 | refine kt ?_
 | refine And.intro ?_ ?_
 | ((first | refine awp_stp rfl ?_ | refine awp_draw (by kernel_rfl) (by kernel_rfl) ?_ | refine Imp.le2 ?_ | refine go_split (fun _h => ?_) (fun _h => ?_)) <;> try simp (maxSteps := 4000000) only [go_sem, seval, List.length_map])
 | intro _h
 | refine awp_block ?_
 | refine awp_scope ?_
 | refine cond_b ?_ ?_
 | (show heapOK _ _ = true; kernel_rfl)
 | (show heapOK2 _ _ = true; kernel_rfl)
 | (omega)))
      all_goals trace_state
def zoneV (v : Valley) (d : Int) : Int := (if v.s0 ≤ d then 1 else 0) + (if v.s1 ≤ d then 1 else 0) + (if v.s2 ≤ d then 1 else 0)
theorem zone_c (v : Valley) (d : Int) : CallS Try.prog 58 [.agg (valC v), .int .i64 d] (.int .i64 (zoneV v d)) := by
  unfold zoneV
  simp only [valC, slP, slS]
  by_cases c0 : v.s0 ≤ d
  all_goals by_cases c1 : v.s1 ≤ d
  all_goals by_cases c2 : v.s2 ≤ d
  all_goals
    simp only [if_pos, if_neg, c0, c1, c2, if_true, if_false, not_true, not_false_iff, Int.reduceAdd, Int.add_zero, Int.zero_add]
    (refine callS_of_awp (fun w args => Try.call58 ..) Try.func58 rfl (fun w0 m0 wz => ?_); simp only [Try.ntmps58, Try.results58, initT, junks, sl, List.toList_toArray, List.cons_append, List.nil_append, List.length_cons, List.length_nil, Nat.reduceAdd, Nat.reduceSub])
    (repeat' (first
 | refine awp_seqK ?_
 | refine kt ?_
 | refine And.intro ?_ ?_
 | ((first | refine awp_stp rfl ?_ | refine awp_draw (by kernel_rfl) (by kernel_rfl) ?_ | refine Imp.le2 ?_ | refine go_split (fun _h => ?_) (fun _h => ?_)) <;> try simp (maxSteps := 4000000) only [go_sem, seval])
 | intro _h
 | refine awp_block ?_
 | refine awp_scope ?_
 | refine cond_b ?_ ?_
 | (show heapOK _ _ = true; kernel_rfl)
 | (show heapOK2 _ _ = true; kernel_rfl)
 | (omega)))
    (refine awp_rounds 4 ?_; rw [ar_s])
    (repeat' (first
 | ((omega))
 | ((exfalso; omega))
 | refine awp_seqK ?_
 | refine kt ?_
 | refine And.intro ?_ ?_
 | ((first | refine awp_stp rfl ?_ | refine awp_draw (by kernel_rfl) (by kernel_rfl) ?_ | refine Imp.le2 ?_ | refine go_split (fun _h => ?_) (fun _h => ?_)) <;> try simp (maxSteps := 4000000) only [go_sem, seval, c0, c1, c2, decide_true, decide_false])
 | intro _h
 | refine awp_block ?_
 | refine awp_scope ?_
 | refine cond_b ?_ ?_
 | (show heapOK _ _ = true; kernel_rfl)
 | (show heapOK2 _ _ = true; kernel_rfl)
 | (omega)))
    all_goals trace_state
theorem zones_c (v : Valley) (ds : List Int) (hl : ds.length ≤ 1000000) : CallS Try.prog 37 [.agg (valC v), sl ds] (sl (ds.map (zoneV v))) := by
  have hz := zone_c v
  simp only [valC, slP, slS, sl, List.length_map] at hz ⊢
  (refine callS_of_awp (fun w args => Try.call37 ..) Try.func37 rfl (fun w0 m0 wz => ?_); simp only [Try.ntmps37, Try.results37, initT, junks, sl, List.toList_toArray, List.cons_append, List.nil_append, List.length_cons, List.length_nil, Nat.reduceAdd, Nat.reduceSub])
  (repeat' (first
 | refine awp_seqK ?_
 | refine kt ?_
 | refine And.intro ?_ ?_
 | ((first | refine awp_stp rfl ?_ | refine awp_draw (by kernel_rfl) (by kernel_rfl) ?_ | refine Imp.le2 ?_ | refine go_split (fun _h => ?_) (fun _h => ?_)) <;> try simp (maxSteps := 4000000) only [go_sem, seval])
 | intro _h
 | refine awp_block ?_
 | refine awp_scope ?_
 | refine cond_b ?_ ?_
 | (show heapOK _ _ = true; kernel_rfl)
 | (show heapOK2 _ _ = true; kernel_rfl)
 | (omega)))
  (refine awp_adT 4 3 1 rfl ?_; simp only [adT, lset, hset, List.length_cons, List.length_nil, Nat.reduceAdd])
  refine awp_loopN ds.length (fun k => ⟨mkT 24 [(4, .osl 1 k 0 k), (5, .fn (.func 58) [.agg [.psl false v.parcels.length (recs parcC v.parcels), .psl false v.slides.length (recs slidC v.slides), .int .i64 v.s0, .int .i64 v.s1, .int .i64 v.s2]] []), (10, .psl false ds.length (ints ds)), (11, .int .i64 ds.length), (12, .int .i64 k)], [none, some (.cells 3 1 k (ints ((ds.take k).map (zoneV v))))], []⟩) (.le2 ?_) ?_
  · simp only [List.take_zero, List.map_nil, ints]; simp (maxSteps := 4000000) only [go_sem, seval]
    all_goals first | rfl | exact ⟨rfl, rfl⟩ | trace_state
  · intro k hk
    rcases Nat.lt_or_eq_of_le hk with hk1 | hk1
    · have hlt : ((ds.take k).map (zoneV v)).length = k := by simp; omega
      obtain ⟨q, hq⟩ : ∃ q, ds.getD k 0 = q := ⟨_, rfl⟩
      have e2 : (ds.take (k + 1)).map (zoneV v) = (ds.take k).map (zoneV v) ++ [zoneV v q] := by rw [take_snoc' (d := 0) hk1, List.map_append, hq]; rfl
      have hf := hz q
      rw [e2]
      generalize (ds.take k).map (zoneV v) = L at *
      generalize zoneV v q = z at *
      simp (maxSteps := 4000000) only [go_sem, seval]
      (repeat' (first
 | ((omega))
 | ((exfalso; omega))
 | refine awp_seqK ?_
 | refine kt ?_
 | refine And.intro ?_ ?_
 | ((first | refine awp_stp rfl ?_ | refine awp_draw (by kernel_rfl) (by kernel_rfl) ?_ | refine Imp.le2 ?_ | refine callK_of (hf) ?_ | refine go_split (fun _h => ?_) (fun _h => ?_)) <;> try simp (maxSteps := 4000000) only [go_sem, seval, hq, hlt, ints_snoc'])
 | intro _h
 | refine awp_block ?_
 | refine awp_scope ?_
 | refine cond_b ?_ ?_
 | (show heapOK _ _ = true; kernel_rfl)
 | (show heapOK2 _ _ = true; kernel_rfl)
 | (omega)))
      all_goals trace_state
    · have hst : ds.take ds.length = ds := by simp
      rw [hk1, hst]
      simp (maxSteps := 4000000) only [go_sem, seval]
      (repeat' (first
 | ((omega))
 | ((exfalso; omega))
 | refine awp_seqK ?_
 | refine kt ?_
 | refine And.intro ?_ ?_
 | ((first | refine awp_stp rfl ?_ | refine awp_draw (by kernel_rfl) (by kernel_rfl) ?_ | refine Imp.le2 ?_ | refine go_split (fun _h => ?_) (fun _h => ?_)) <;> try simp (maxSteps := 4000000) only [go_sem, seval, List.length_map])
 | intro _h
 | refine awp_block ?_
 | refine awp_scope ?_
 | refine cond_b ?_ ?_
 | (show heapOK _ _ = true; kernel_rfl)
 | (show heapOK2 _ _ = true; kernel_rfl)
 | (omega)))
      all_goals trace_state
def rangV (lo hi : List Int) : List (Int × Int) := tab lo.length fun i => (lo.getD i 0, hi.getD i 0)
theorem ranges_c (lo hi : List Int) (hl : lo.length ≤ 1000000) (hh : hi.length = lo.length) : CallS Try.prog 36 [sl lo, sl hi] (slRg (rangV lo hi)) := by
  have hlr : (rangV lo hi).length = lo.length := tab_length
  unfold slRg
  rw [hlr]
  unfold rangV
  simp only [sl, hh]
  (refine callS_of_awp (fun w args => Try.call36 ..) Try.func36 rfl (fun w0 m0 wz => ?_); simp only [Try.ntmps36, Try.results36, initT, junks, sl, List.toList_toArray, List.cons_append, List.nil_append, List.length_cons, List.length_nil, Nat.reduceAdd, Nat.reduceSub])
  (repeat' (first
 | refine awp_seqK ?_
 | refine kt ?_
 | refine And.intro ?_ ?_
 | ((first | refine awp_stp rfl ?_ | refine awp_draw (by kernel_rfl) (by kernel_rfl) ?_ | refine Imp.le2 ?_ | refine go_split (fun _h => ?_) (fun _h => ?_)) <;> try simp (maxSteps := 4000000) only [go_sem, seval])
 | intro _h
 | refine awp_block ?_
 | refine awp_scope ?_
 | refine cond_b ?_ ?_
 | (show heapOK _ _ = true; kernel_rfl)
 | (show heapOK2 _ _ = true; kernel_rfl)
 | (omega)))
  (refine awp_adT 4 61 2 rfl ?_; simp only [adT, lset, hset, List.length_cons, List.length_nil, Nat.reduceAdd])
  refine awp_loopN lo.length (fun k => ⟨mkT 25 [(1, .psl false lo.length (ints hi)), (4, .osl 0 k 0 k), (7, .psl false lo.length (ints lo)), (8, .int .i64 lo.length), (9, .int .i64 k)], [some (.cells 61 2 k (recs rngC (tab k fun i => (lo.getD i 0, hi.getD i 0))))], []⟩) (.le2 ?_) ?_
  · have e0 : recs rngC (tab 0 fun i => (lo.getD i 0, hi.getD i 0)) = [] := rfl
    rw [e0]; simp (maxSteps := 4000000) only [go_sem, seval]
    all_goals first | rfl | exact ⟨rfl, rfl⟩ | trace_state
  · intro k hk
    rcases Nat.lt_or_eq_of_le hk with hk1 | hk1
    · have hcl : (recs rngC (tab k fun i => (lo.getD i 0, hi.getD i 0))).length = k * 2 := by rw [len_Rg, tab_length]
      have e2 : recs rngC (tab (k + 1) fun i => (lo.getD i 0, hi.getD i 0)) = recs rngC (tab k fun i => (lo.getD i 0, hi.getD i 0)) ++ rngC (lo.getD k 0, hi.getD k 0) := by rw [tab_snoc', recs_snoc']
      rw [e2]
      obtain ⟨a, ha⟩ : ∃ a, lo.getD k 0 = a := ⟨_, rfl⟩
      obtain ⟨b, hb⟩ : ∃ b, hi.getD k 0 = b := ⟨_, rfl⟩
      have hRv : ∀ p : Nat → Bool, (recs rngC (tab k fun i => (lo.getD i 0, hi.getD i 0))).all (live2 p) = true := fun p => lv_Rg
      generalize recs rngC (tab k fun i => (lo.getD i 0, hi.getD i 0)) = Rk at *
      rw [ha, hb]
      simp (maxSteps := 4000000) only [go_sem, seval]
      (repeat' (first
 | ((omega))
 | ((exfalso; omega))
 | refine awp_seqK ?_
 | refine kt ?_
 | refine And.intro ?_ ?_
 | ((first | refine awp_stp rfl ?_ | refine awp_draw (by kernel_rfl) (by kernel_rfl) ?_ | refine Imp.le2 ?_ | refine go_split (fun _h => ?_) (fun _h => ?_)) <;> try simp (maxSteps := 4000000) only [go_sem, seval, ha, hb, rngC, hcl])
 | intro _h
 | refine awp_block ?_
 | refine awp_scope ?_
 | refine cond_b ?_ ?_
 | (show heapOK _ _ = true; kernel_rfl)
 | (show heapOK2 _ _ = true; kernel_rfl)
 | (omega)))
      all_goals first | (rw [List.all_append, hRv]; rfl) | trace_state
    · rw [hk1]
      simp (maxSteps := 4000000) only [go_sem, seval]
      (repeat' (first
 | ((omega))
 | ((exfalso; omega))
 | refine awp_seqK ?_
 | refine kt ?_
 | refine And.intro ?_ ?_
 | ((first | refine awp_stp rfl ?_ | refine awp_draw (by kernel_rfl) (by kernel_rfl) ?_ | refine Imp.le2 ?_ | refine go_split (fun _h => ?_) (fun _h => ?_)) <;> try simp (maxSteps := 4000000) only [go_sem, seval])
 | intro _h
 | refine awp_block ?_
 | refine awp_scope ?_
 | refine cond_b ?_ ?_
 | (show heapOK _ _ = true; kernel_rfl)
 | (show heapOK2 _ _ = true; kernel_rfl)
 | (omega)))
      all_goals trace_state
theorem EndsZ_o (v : Valley) (hs : v.slides.length ≤ 1000000) : SemF Try.prog 13 [.agg (valC v), .bool false] [] (.osl 1 v.slides.length 0 v.slides.length) [none, some (.cells 3 1 v.slides.length (ints (v.slides.map fun s => s.lo)))] := by
  simp only [valC, slP, slS]
  (refine semF_of_awp (ys := [.osl 1 v.slides.length 0 v.slides.length]) (fun w args => Try.call13 ..) Try.func13 rfl (fun w0 m0 wz => ?_); simp only [Try.ntmps13, Try.results13, initT, junks, sl, List.toList_toArray, List.cons_append, List.nil_append, List.length_cons, List.length_nil, Nat.reduceAdd, Nat.reduceSub])
  (repeat' (first
 | refine awp_seqK ?_
 | refine kt ?_
 | refine And.intro ?_ ?_
 | ((first | refine awp_stp rfl ?_ | refine awp_draw (by kernel_rfl) (by kernel_rfl) ?_ | refine Imp.le2 ?_ | refine go_split (fun _h => ?_) (fun _h => ?_)) <;> try simp (maxSteps := 4000000) only [go_sem, seval])
 | intro _h
 | refine awp_block ?_
 | refine awp_scope ?_
 | refine cond_b ?_ ?_
 | (show heapOK _ _ = true; kernel_rfl)
 | (show heapOK2 _ _ = true; kernel_rfl)
 | (omega)))
  (refine awp_adT 5 3 1 rfl ?_; simp only [adT, lset, hset, List.length_cons, List.length_nil, Nat.reduceAdd])
  refine awp_loopN v.slides.length (fun k => ⟨mkT 36 [(1, .bool false), (2, .ptr 0 0 0), (5, .osl 1 k 0 k), (6, .int .i64 k)], [some (.cells 29 1 0 [.psl false v.parcels.length (recs parcC v.parcels), .psl false v.slides.length (recs slidC v.slides), .int .i64 v.s0, .int .i64 v.s1, .int .i64 v.s2]), some (.cells 3 1 k (ints ((v.slides.take k).map fun s => s.lo)))], []⟩) (.le2 ?_) ?_
  · simp only [List.take_zero, List.map_nil, ints]; simp (maxSteps := 4000000) only [go_sem, seval]
    all_goals first | rfl | exact ⟨rfl, rfl⟩ | trace_state
  · intro k hk
    rcases Nat.lt_or_eq_of_le hk with hk1 | hk1
    · have hlt : ((v.slides.take k).map fun s => s.lo).length = k := by simp; omega
      obtain ⟨q, hq⟩ : ∃ q, v.slides.getD k default = q := ⟨_, rfl⟩
      have e2 : ((v.slides.take (k + 1)).map fun s => s.lo) = ((v.slides.take k).map fun s => s.lo) ++ [q.lo] := by rw [take_snoc' (d := default) hk1, List.map_append, hq]; rfl
      rw [e2]
      generalize ((v.slides.take k).map fun s => s.lo) = L at *
      simp (maxSteps := 4000000) only [go_sem, seval]
      (repeat' (first
 | ((omega))
 | ((exfalso; omega))
 | refine awp_seqK ?_
 | refine kt ?_
 | refine And.intro ?_ ?_
 | ((first | refine awp_stp rfl ?_ | refine awp_draw (by kernel_rfl) (by kernel_rfl) ?_ | refine Imp.le2 ?_ | refine go_split (fun _h => ?_) (fun _h => ?_)) <;> try simp (maxSteps := 4000000) only [go_sem, seval, hq, slidC, sl, hlt, ints_snoc'])
 | intro _h
 | refine awp_block ?_
 | refine awp_scope ?_
 | refine cond_b ?_ ?_
 | (show heapOK _ _ = true; kernel_rfl)
 | (show heapOK2 _ _ = true; kernel_rfl)
 | (omega)))
      all_goals trace_state
    · have hst : v.slides.take v.slides.length = v.slides := by simp
      rw [hk1, hst]
      simp (maxSteps := 4000000) only [go_sem, seval]
      (repeat' (first
 | ((omega))
 | ((exfalso; omega))
 | refine awp_seqK ?_
 | refine kt ?_
 | refine And.intro ?_ ?_
 | ((first | refine awp_stp rfl ?_ | refine awp_draw (by kernel_rfl) (by kernel_rfl) ?_ | refine Imp.le2 ?_ | refine go_split (fun _h => ?_) (fun _h => ?_)) <;> try simp (maxSteps := 4000000) only [go_sem, seval])
 | intro _h
 | refine awp_block ?_
 | refine awp_scope ?_
 | refine cond_b ?_ ?_
 | (show heapOK _ _ = true; kernel_rfl)
 | (show heapOK2 _ _ = true; kernel_rfl)
 | (omega)))
      all_goals trace_state
end Go.Am

/- Contracts of the zone functions: dangers; Zones, Danger. -/
namespace Go.Am
open Go.RowKit Go.Proofs
attribute [local irreducible] AWP CallS Kt goK CallK stepK evOps SemF SemY Imp
set_option maxRecDepth 4000
set_option linter.unusedSimpArgs false
set_option linter.unusedVariables false
set_option maxHeartbeats 3200000
def addW (rate : Int) (way : List Int) (o : List Int) : Nat → List Int
  | 0 => o
  | j + 1 => isp (addW rate way o j) (way.getD j 0).toNat ((addW rate way o j).getD (way.getD j 0).toNat 0 + rate)
def dangN (v : Valley) (tr : List Int) : Nat → List Int
  | 0 => tab v.parcels.length fun _ => 0
  | k + 1 => addW (v.slides.getD k default).rate (v.slides.getD k default).way (dangN v tr k) (tr.getD k 0).toNat
/-- A truth of some slides of a valley. -/
structure TruOK (v : Valley) (tr : List Int) : Prop where
  len : tr.length ≤ v.slides.length
  bd : ∀ k, k < tr.length → 0 ≤ tr.getD k 0 ∧ tr.getD k 0 ≤ ((v.slides.getD k default).way.length : Int)
theorem addW_ok {rate : Int} {n B : Nat} {way o : List Int} (ho : o.length = n) (hb : ∀ p, p < n → 0 ≤ o.getD p 0 ∧ o.getD p 0 ≤ 1000 * (B : Int)) (hr : 1 ≤ rate ∧ rate ≤ 1000) (hw : ∀ i, i < way.length → 0 ≤ way.getD i 0 ∧ way.getD i 0 ≤ (n : Int) - 1) : ∀ j, j ≤ way.length → (addW rate way o j).length = n ∧ ∀ p, p < n → 0 ≤ (addW rate way o j).getD p 0 ∧ (addW rate way o j).getD p 0 ≤ 1000 * ((B + j : Nat) : Int)
  | 0, _ => ⟨ho, hb⟩
  | j + 1, hj => by
    obtain ⟨h1, h2⟩ := addW_ok ho hb hr hw j (by omega)
    have h3 := hw j (by omega)
    have h4 := h2 (way.getD j 0).toNat (by omega)
    simp only [addW]
    generalize addW rate way o j = A at *
    refine ⟨by rw [isp_length (by omega)]; exact h1, fun p hp => ?_⟩
    rw [isp_getD (by omega)]
    have h5 := h2 p hp
    split <;> omega
theorem dangN_ok {v : Valley} {tr : List Int} (h : ValOK v) (ht : TruOK v tr) (hw : ∀ k, k < v.slides.length → (v.slides.getD k default).way.length ≤ 15) : ∀ k, k ≤ tr.length → (dangN v tr k).length = v.parcels.length ∧ ∀ p, p < v.parcels.length → 0 ≤ (dangN v tr k).getD p 0 ∧ (dangN v tr k).getD p 0 ≤ 1000 * ((k * 15 : Nat) : Int)
  | 0, _ => ⟨tab_length, fun p hp => by simp only [dangN]; rw [tab_getD hp]; omega⟩
  | k + 1, hk => by
    obtain ⟨h1, h2⟩ := dangN_ok h ht hw k (by omega)
    have h3 := ht.len
    have h4 := ht.bd k (by omega)
    have h5 := h.sl k (by omega)
    have h6 := hw k (by omega)
    obtain ⟨a1, a2⟩ := addW_ok h1 h2 h5.rate h5.inn (tr.getD k 0).toNat (by omega)
    refine ⟨a1, fun p hp => ?_⟩
    have := a2 p hp
    simp only [dangN]
    omega
theorem ints_take {l : List Int} {n : Nat} : (ints l).take n = ints (l.take n) := by simp [ints]
theorem win_take {l : List Int} {n : Nat} : window (ints l) 0 n = ints (l.take n) := by simp [window, ints]
theorem take_getD' {α : Type} {l : List α} {k i : Nat} {d : α} (h : i < k) : (l.take k).getD i d = l.getD i d := by
  simp only [List.getD_eq_getElem?_getD, List.getElem?_take, if_pos h]
theorem hits_c (v : Valley) (tr : List Int) : SemF Try.prog 57 [.agg (lookV v tr)] [] (.fn (.func 74) [] [.ptr 0 0 0]) [some (.cells 101 1 0 (lookV v tr))] := by
  simp only [lookV, slP, slS, sl]
  (refine semF_of_awp (ys := [.fn (.func 74) [] [.ptr 0 0 0]]) (fun w args => Try.call57 ..) Try.func57 rfl (fun w0 m0 wz => ?_); simp only [Try.ntmps57, Try.results57, initT, junks, sl, List.toList_toArray, List.cons_append, List.nil_append, List.length_cons, List.length_nil, Nat.reduceAdd, Nat.reduceSub])
  (repeat' (first
 | refine awp_seqK ?_
 | refine kt ?_
 | refine And.intro ?_ ?_
 | ((first | refine awp_stp rfl ?_ | refine awp_draw (by kernel_rfl) (by kernel_rfl) ?_ | refine Imp.le2 ?_ | refine go_split (fun _h => ?_) (fun _h => ?_)) <;> try simp (maxSteps := 4000000) only [go_sem, seval])
 | intro _h
 | refine awp_block ?_
 | refine awp_scope ?_
 | refine cond_b ?_ ?_
 | (show heapOK _ _ = true; kernel_rfl)
 | (show heapOK2 _ _ = true; kernel_rfl)
 | (omega)))
  all_goals trace_state
def daH (v : Valley) (tr o : List Int) : List (Option ABlk) := [some (.cells 101 1 0 (lookV v tr)), some (.cells 3 1 0 (ints o)), some (.cells 35 1 0 [.osl 1 0 0 v.parcels.length]), some (.cells 101 1 0 (lookV v tr))]
def daT : List AV := mkT 29 [(1, .ptr 0 0 0), (3, .ptr 2 0 0), (12, .fn (.func 74) [] [.ptr 3 0 0])]
theorem dangers_c (v : Valley) (tr : List Int) (h : ValOK v) (ht : TruOK v tr) (hw : ∀ k, k < v.slides.length → (v.slides.getD k default).way.length ≤ 15) : CallS Try.prog 34 [.agg (lookV v tr)] (sl (dangN v tr tr.length)) := by
  have hh := hits_c v tr
  have hpn := h.pn
  have hsn := h.sn
  have htl := ht.len
  have hok := dangN_ok h ht hw
  have hst : ∀ k, dangN v tr (k + 1) = addW (v.slides.getD k default).rate (v.slides.getD k default).way (dangN v tr k) (tr.getD k 0).toNat := fun _ => rfl
  have h0 : dangN v tr 0 = tab v.parcels.length fun _ => 0 := rfl
  have hfl := (hok tr.length (Nat.le_refl _)).1
  obtain ⟨D, hD⟩ : ∃ D : Nat → List Int, dangN v tr = D := ⟨_, rfl⟩
  rw [hD] at hok hst h0 hfl ⊢
  clear hD
  obtain ⟨np, hnp⟩ : ∃ np, v.parcels.length = np := ⟨_, rfl⟩
  simp only [hnp] at hpn hok h0 hfl
  have hdH : ∀ o, daH v tr o = [some (.cells 101 1 0 (lookV v tr)), some (.cells 3 1 0 (ints o)), some (.cells 35 1 0 [.osl 1 0 0 np]), some (.cells 101 1 0 (lookV v tr))] := fun o => by unfold daH; rw [hnp]
  simp only [sl, hfl]
  simp only [lookV, slP, slS, sl, hnp] at hh hdH ⊢
  (refine callS_of_awp (fun w args => Try.call34 ..) Try.func34 rfl (fun w0 m0 wz => ?_); simp only [Try.ntmps34, Try.results34, initT, junks, sl, List.toList_toArray, List.cons_append, List.nil_append, List.length_cons, List.length_nil, Nat.reduceAdd, Nat.reduceSub])
  (repeat' (first
 | (refine awp_ownN (id := 2) 1 rfl ?_; simp (maxSteps := 4000000) only [go_sem, seval, List.take_succ_cons, List.take_zero, ↓rep_ints, hnp])
 | (refine own_go (hh) [] rfl ?_ ?_ rfl ?_ <;> try simp (maxSteps := 4000000) only [go_sem, seval, Nat.lt_irrefl, ↓rep_ints, hnp] <;> try decide)
 | ((show zeroOK _ = true; rfl))
 | ((omega))
 | refine awp_seqK ?_
 | refine kt ?_
 | refine And.intro ?_ ?_
 | ((first | refine awp_stp rfl ?_ | refine awp_draw (by kernel_rfl) (by kernel_rfl) ?_ | refine Imp.le2 ?_ | refine go_split (fun _h => ?_) (fun _h => ?_)) <;> try simp (maxSteps := 4000000) only [go_sem, seval, ↓rep_ints, hnp])
 | intro _h
 | refine awp_block ?_
 | refine awp_scope ?_
 | refine cond_b ?_ ?_
 | (show heapOK _ _ = true; kernel_rfl)
 | (show heapOK2 _ _ = true; kernel_rfl)
 | (omega)))
  refine AWP.le2 (s' := ⟨daT, daH v tr (D 0), []⟩) (by simp only [daT, hdH, h0]; simp (maxSteps := 4000000) only [go_sem, seval]) ?_
  refine awp_rangeZ (gf := 74) (first := []) (caps := [.ptr 3 0 0]) (by simp only [daT]; simp (maxSteps := 4000000) only [go_sem, seval]) 4 (by rw [hdH]; rfl) ?_
  intro ca cb hca hcb2
  refine ⟨.tup [], daH v tr (D tr.length) ++ [some (.dfr true), some (.loop .ready none 0 daT #[13, 14] ca cb 4)], .ready, none, .normal, ?_, ?_, by simp, rfl, ?_⟩
  · simp only [hdH, daT, List.cons_append, List.nil_append]
    simp (maxSteps := 4000000) only [go_sem, seval]
    (refine semF_of_awp (ys := []) (fun w args => Try.call74 ..) Try.func74 rfl (fun w0 m0 wz => ?_); simp only [Try.ntmps74, Try.results74, initT, junks, sl, List.toList_toArray, List.cons_append, List.nil_append, List.length_cons, List.length_nil, Nat.reduceAdd, Nat.reduceSub])
    (repeat' (first
 | refine awp_seqK ?_
 | refine kt ?_
 | refine And.intro ?_ ?_
 | ((first | refine awp_stp rfl ?_ | refine awp_draw (by kernel_rfl) (by kernel_rfl) ?_ | refine Imp.le2 ?_ | refine go_split (fun _h => ?_) (fun _h => ?_)) <;> try simp (maxSteps := 4000000) only [go_sem, seval])
 | intro _h
 | refine awp_block ?_
 | refine awp_scope ?_
 | refine cond_b ?_ ?_
 | (show heapOK _ _ = true; kernel_rfl)
 | (show heapOK2 _ _ = true; kernel_rfl)
 | (omega)))
    refine awp_loopN tr.length (fun k => ⟨mkT 36 [(0, .fn (.yield 5) [] []), (1, .ptr 3 0 0), (8, .psl false tr.length (ints tr)), (9, .int .i64 tr.length), (10, .int .i64 k)], daH v tr (D k) ++ [some (.dfr true), some (.loop .ready none 0 daT #[13, 14] ca cb 4)], []⟩) (.le2 ?_) ?_
    · simp only [hdH, daT, List.cons_append, List.nil_append]; simp (maxSteps := 4000000) only [go_sem, seval]
      all_goals first | rfl | exact ⟨rfl, rfl⟩ | trace_state
    · intro k hk
      rcases Nat.lt_or_eq_of_le hk with hk1 | hk1
      · obtain ⟨o1, o2⟩ := hok k hk
        have hbd := ht.bd k hk1
        have hwk := hw k (by omega)
        have hsl := h.sl k (by omega)
        have hD1 := hst k
        obtain ⟨q, hq⟩ : ∃ q, v.slides.getD k default = q := ⟨_, rfl⟩
        rw [hq] at hbd hwk hsl hD1
        obtain ⟨nn, hnn⟩ : ∃ nn : Nat, tr.getD k 0 = (nn : Int) := ⟨(tr.getD k 0).toNat, by omega⟩
        rw [hnn] at hbd hD1
        rw [Int.toNat_natCast] at hD1
        rw [hnp] at hsl
        have hrate := hsl.rate
        have hinn := hsl.inn
        have hAok := addW_ok o1 o2 hrate hinn
        rw [hD1]
        have hA0 : addW q.rate q.way (D k) 0 = D k := rfl
        have hA1 : ∀ j, addW q.rate q.way (D k) (j + 1) = isp (addW q.rate q.way (D k) j) (q.way.getD j 0).toNat ((addW q.rate q.way (D k) j).getD (q.way.getD j 0).toNat 0 + q.rate) := fun _ => rfl
        generalize addW q.rate q.way (D k) = A at *
        have htl2 : (q.way.take nn).length = nn := by simp; omega
        simp only [hdH, daT, List.cons_append, List.nil_append]; simp (maxSteps := 4000000) only [go_sem, seval]
        (repeat' (first
 | ((omega))
 | ((exfalso; omega))
 | refine awp_seqK ?_
 | refine kt ?_
 | refine And.intro ?_ ?_
 | ((first | refine awp_stp rfl ?_ | refine awp_draw (by kernel_rfl) (by kernel_rfl) ?_ | refine Imp.le2 ?_ | refine go_split (fun _h => ?_) (fun _h => ?_)) <;> try simp (maxSteps := 4000000) only [go_sem, seval, hq, hnn, slidC, sl, ints_take, win_take, Int.toNat_natCast])
 | intro _h
 | refine awp_block ?_
 | refine awp_scope ?_
 | refine cond_b ?_ ?_
 | (show heapOK _ _ = true; kernel_rfl)
 | (show heapOK2 _ _ = true; kernel_rfl)
 | (omega)))
        refine awp_loopN nn (fun j => ⟨mkT 36 [(0, .fn (.yield 5) [] []), (1, .ptr 3 0 0), (8, .psl false tr.length (ints tr)), (9, .int .i64 tr.length), (10, .int .i64 k), (3, .int .i64 k), (4, .int .i64 nn), (23, .psl false nn (ints (q.way.take nn))), (24, .int .i64 nn), (25, .int .i64 j)], daH v tr (A j) ++ [some (.dfr true), some (.loop .ready none 0 daT #[13, 14] ca cb 4)], []⟩) (.le2 ?_) ?_
        · rw [hA0]
          simp only [hdH, daT, List.cons_append, List.nil_append]; simp (maxSteps := 4000000) only [go_sem, seval]
          all_goals first | rfl | exact ⟨rfl, rfl⟩ | trace_state
        · intro j hj
          rcases Nat.lt_or_eq_of_le hj with hj1 | hj1
          · obtain ⟨a1, a2⟩ := hAok j (by omega)
            have a3 := hinn j (by omega)
            have htg : (q.way.take nn).getD j 0 = q.way.getD j 0 := take_getD' hj1
            have a4 := hA1 j
            obtain ⟨p, hp⟩ : ∃ p, q.way.getD j 0 = p := ⟨_, rfl⟩
            rw [hp] at a3 htg a4
            have a5 := a2 p.toNat (by omega)
            have e1 := sp_ints (l := A j) (j := p.toNat) (v := (A j).getD p.toNat 0 + q.rate)
            rw [← a4] at e1
            simp only [hdH, daT, List.cons_append, List.nil_append]; simp (maxSteps := 4000000) only [go_sem, seval]
            (repeat' (first
 | ((exfalso; omega))
 | ((refine awp_ownN (id := 6) 3 rfl ?_; simp (maxSteps := 4000000) only [go_sem, seval, List.take_succ_cons, List.take_zero]; refine callH_yield true (daH v tr (A (j + 1)) ++ [some (.dfr true), some (.loop .ready none 0 daT #[13, 14] ca cb 4)]) ?_ ?_ <;> simp only [hdH, daT, List.cons_append, List.nil_append] <;> (try simp (maxSteps := 4000000) only [go_sem, seval])))
 | ((omega))
 | refine awp_seqK ?_
 | refine kt ?_
 | refine And.intro ?_ ?_
 | ((first | refine awp_stp rfl ?_ | refine awp_draw (by kernel_rfl) (by kernel_rfl) ?_ | refine Imp.le2 ?_ | refine go_split (fun _h => ?_) (fun _h => ?_)) <;> try simp (maxSteps := 4000000) only [go_sem, seval, htg, htl2])
 | intro _h
 | refine awp_block ?_
 | refine awp_scope ?_
 | refine cond_b ?_ ?_
 | (show heapOK _ _ = true; kernel_rfl)
 | (show heapOK2 _ _ = true; kernel_rfl)
 | (omega)))
            · refine semY_of_awpZ rfl rfl ?_
              intro B w0 l m w
              refine awp_code hca ?_
              (repeat' (first
 | refine awp_seqK ?_
 | refine kt ?_
 | refine And.intro ?_ ?_
 | ((first | refine awp_stp rfl ?_ | refine awp_draw (by kernel_rfl) (by kernel_rfl) ?_ | refine Imp.le2 ?_ | refine go_split (fun _h => ?_) (fun _h => ?_)) <;> try simp (maxSteps := 4000000) only [go_sem, seval])
 | intro _h
 | refine awp_block ?_
 | refine awp_scope ?_
 | refine cond_b ?_ ?_
 | (show heapOK _ _ = true; kernel_rfl)
 | (show heapOK2 _ _ = true; kernel_rfl)
 | (omega)))
              refine awp_code hcb2 ?_
              (repeat' (first
 | ((omega))
 | ((exfalso; omega))
 | refine awp_seqK ?_
 | refine kt ?_
 | refine And.intro ?_ ?_
 | ((first | refine awp_stp rfl ?_ | refine awp_draw (by kernel_rfl) (by kernel_rfl) ?_ | refine Imp.le2 ?_ | refine go_split (fun _h => ?_) (fun _h => ?_)) <;> try simp (maxSteps := 4000000) only [go_sem, seval, hq, slidC, sl, e1])
 | intro _h
 | refine awp_block ?_
 | refine awp_scope ?_
 | refine cond_b ?_ ?_
 | (show heapOK _ _ = true; kernel_rfl)
 | (show heapOK2 _ _ = true; kernel_rfl)
 | (omega)))
              all_goals trace_state
          · rw [hj1]
            simp only [hdH, daT, List.cons_append, List.nil_append]; simp (maxSteps := 4000000) only [go_sem, seval]
            (repeat' (first
 | ((exfalso; omega))
 | ((omega))
 | refine awp_seqK ?_
 | refine kt ?_
 | refine And.intro ?_ ?_
 | ((first | refine awp_stp rfl ?_ | refine awp_draw (by kernel_rfl) (by kernel_rfl) ?_ | refine Imp.le2 ?_ | refine go_split (fun _h => ?_) (fun _h => ?_)) <;> try simp (maxSteps := 4000000) only [go_sem, seval])
 | intro _h
 | refine awp_block ?_
 | refine awp_scope ?_
 | refine cond_b ?_ ?_
 | (show heapOK _ _ = true; kernel_rfl)
 | (show heapOK2 _ _ = true; kernel_rfl)
 | (omega)))
            all_goals first | rfl | exact ⟨rfl, rfl⟩ | trace_state
      · rw [hk1]
        simp only [hdH, daT, List.cons_append, List.nil_append]; simp (maxSteps := 4000000) only [go_sem, seval]
        (repeat' (first
 | ((exfalso; omega))
 | ((omega))
 | refine awp_seqK ?_
 | refine kt ?_
 | refine And.intro ?_ ?_
 | ((first | refine awp_stp rfl ?_ | refine awp_draw (by kernel_rfl) (by kernel_rfl) ?_ | refine Imp.le2 ?_ | refine go_split (fun _h => ?_) (fun _h => ?_)) <;> try simp (maxSteps := 4000000) only [go_sem, seval])
 | intro _h
 | refine awp_block ?_
 | refine awp_scope ?_
 | refine cond_b ?_ ?_
 | (show heapOK _ _ = true; kernel_rfl)
 | (show heapOK2 _ _ = true; kernel_rfl)
 | (omega)))
        all_goals first | rfl | exact ⟨rfl, rfl⟩ | trace_state
  · rw [hdH]; rfl
  · simp only [hdH, daT, List.cons_append, List.nil_append]
    simp (maxSteps := 4000000) only [go_sem, seval]
    (repeat' (first
 | ((omega))
 | refine awp_seqK ?_
 | refine kt ?_
 | refine And.intro ?_ ?_
 | ((first | refine awp_stp rfl ?_ | refine awp_draw (by kernel_rfl) (by kernel_rfl) ?_ | refine Imp.le2 ?_ | refine go_split (fun _h => ?_) (fun _h => ?_)) <;> try simp (maxSteps := 4000000) only [go_sem, seval])
 | intro _h
 | refine awp_block ?_
 | refine awp_scope ?_
 | refine cond_b ?_ ?_
 | (show heapOK _ _ = true; kernel_rfl)
 | (show heapOK2 _ _ = true; kernel_rfl)
 | (omega)))
    all_goals trace_state
def loL (v : Valley) : List Int := v.slides.map fun s => s.lo
def hiL (v : Valley) : List Int := v.slides.map fun s => s.hi
theorem map_getD {α : Type} [Inhabited α] {l : List α} {g : α → Int} {k : Nat} (h : k < l.length) : (l.map g).getD k 0 = g (l.getD k default) := by
  simp [List.getD_eq_getElem?_getD, h]
theorem loL_ok {v : Valley} (h : ValOK v) : TruOK v (loL v) := ⟨by simp [loL], fun k hk => by
  have hk' : k < v.slides.length := by simpa [loL] using hk
  have := (h.sl k hk').rng
  unfold loL
  rw [map_getD hk']; omega⟩
theorem hiL_ok {v : Valley} (h : ValOK v) : TruOK v (hiL v) := ⟨by simp [hiL], fun k hk => by
  have hk' : k < v.slides.length := by simpa [hiL] using hk
  have := (h.sl k hk').rng
  unfold hiL
  rw [map_getD hk']; omega⟩
def dangV (v : Valley) (tr : List Int) : List Int := dangN v tr tr.length
theorem dangV_length {v : Valley} {tr : List Int} (h : ValOK v) (ht : TruOK v tr) (hw : ∀ k, k < v.slides.length → (v.slides.getD k default).way.length ≤ 15) : (dangV v tr).length = v.parcels.length := (dangN_ok h ht hw tr.length (Nat.le_refl _)).1
theorem Zones_c (v : Valley) (h : ValOK v) (hw : ∀ k, k < v.slides.length → (v.slides.getD k default).way.length ≤ 15) : CallS Try.prog 14 [.agg (valC v)] (.tup [slRg (rangV (dangV v (loL v)) (dangV v (hiL v))), slRg (rangV ((dangV v (loL v)).map (zoneV v)) ((dangV v (hiL v)).map (zoneV v))), .int .i64 0]) := by
  have hsn := h.sn
  have hpn := h.pn
  have h1 := CheckV_c v h (fun k hk => by have := hw k hk; omega)
  have h2 := end_c v (by omega) 33 (fun s => s.lo) (fun s => lowZ_c _ _)
  have h3 := end_c v (by omega) 35 (fun s => s.hi) (fun s => highZ_c _ _)
  have h4 := dangers_c v (loL v) h (loL_ok h) hw
  have h5 := dangers_c v (hiL v) h (hiL_ok h) hw
  have l1 := dangV_length h (loL_ok h) hw
  have l2 := dangV_length h (hiL_ok h) hw
  have m1 : (v.slides.map fun s => s.lo) = loL v := rfl
  have m2 : (v.slides.map fun s => s.hi) = hiL v := rfl
  have d1 : dangN v (loL v) (loL v).length = dangV v (loL v) := rfl
  have d2 : dangN v (hiL v) (hiL v).length = dangV v (hiL v) := rfl
  have n1 : (loL v).length = v.slides.length := by simp [loL]
  have n2 : (hiL v).length = v.slides.length := by simp [hiL]
  rw [m1] at h2
  rw [m2] at h3
  rw [d1] at h4
  rw [d2] at h5
  generalize dangV v (loL v) = A at *
  generalize dangV v (hiL v) = B at *
  generalize loL v = L1 at *
  generalize hiL v = L2 at *
  have h6 := ranges_c A B (by omega) (by omega)
  have h7 := zones_c v A (by omega)
  have h8 := zones_c v B (by omega)
  have h9 := ranges_c (A.map (zoneV v)) (B.map (zoneV v)) (by simp; omega) (by simp; omega)
  have r1 : (rangV A B).length = A.length := tab_length
  have r2 : (rangV (A.map (zoneV v)) (B.map (zoneV v))).length = A.length := by unfold rangV; rw [tab_length, List.length_map]
  have q1 : (A.map (zoneV v)).length = A.length := List.length_map _
  have q2 : (B.map (zoneV v)).length = B.length := List.length_map _
  generalize A.map (zoneV v) = C at *
  generalize B.map (zoneV v) = D at *
  generalize rangV A B = RA at *
  generalize rangV C D = RB at *
  simp only [valC, slP, slS, lookV, sl, slRg, n1, n2, l1, l2, r1, r2, q1, q2] at h1 h2 h3 h4 h5 h6 h7 h8 h9 ⊢
  (refine callS_of_awp (fun w args => Try.call14 ..) Try.func14 rfl (fun w0 m0 wz => ?_); simp only [Try.ntmps14, Try.results14, initT, junks, sl, List.toList_toArray, List.cons_append, List.nil_append, List.length_cons, List.length_nil, Nat.reduceAdd, Nat.reduceSub])
  (repeat' (first
 | refine awp_seqK ?_
 | refine kt ?_
 | refine And.intro ?_ ?_
 | ((first | refine awp_stp rfl ?_ | refine awp_draw (by kernel_rfl) (by kernel_rfl) ?_ | refine Imp.le2 ?_ | refine callK_of (h1) ?_ | refine callK_of (h2) ?_ | refine callK_of (h3) ?_ | refine callK_of (h4) ?_ | refine callK_of (h5) ?_ | refine callK_of (h6) ?_ | refine callK_of (h7) ?_ | refine callK_of (h8) ?_ | refine callK_of (h9) ?_ | refine go_split (fun _h => ?_) (fun _h => ?_)) <;> try simp (maxSteps := 4000000) only [go_sem, seval])
 | intro _h
 | refine awp_block ?_
 | refine awp_scope ?_
 | refine cond_b ?_ ?_
 | (show heapOK _ _ = true; kernel_rfl)
 | (show heapOK2 _ _ = true; kernel_rfl)
 | (omega)))
  all_goals trace_state
theorem Danger_c (v : Valley) (tr : List Int) (h : ValOK v) (hl : tr.length = v.slides.length) (hr : ∀ k, k < v.slides.length → (v.slides.getD k default).lo ≤ tr.getD k 0 ∧ tr.getD k 0 ≤ (v.slides.getD k default).hi) (hw : ∀ k, k < v.slides.length → (v.slides.getD k default).way.length ≤ 15) : CallS Try.prog 16 [.agg (valC v), sl tr] (.tup [sl (dangV v tr), sl ((dangV v tr).map (zoneV v)), .int .i64 0]) := by
  have hsn := h.sn
  have hpn := h.pn
  have ht : TruOK v tr := ⟨by omega, fun k hk => by
    have h1 := hr k (by omega)
    have h2 := (h.sl k (by omega)).rng
    omega⟩
  have h1 := CheckV_c v h (fun k hk => by have := hw k hk; omega)
  have h4 := dangers_c v tr h ht hw
  have l1 := dangV_length h ht hw
  have d1 : dangN v tr tr.length = dangV v tr := rfl
  rw [d1] at h4
  generalize dangV v tr = A at *
  have h7 := zones_c v A (by omega)
  have q1 : (A.map (zoneV v)).length = A.length := List.length_map _
  generalize A.map (zoneV v) = C at *
  obtain ⟨n, hn⟩ : ∃ n, v.slides.length = n := ⟨_, rfl⟩
  simp only [valC, slP, slS, lookV, sl, l1, q1, hl, hn] at h1 h4 h7 hr hsn ⊢
  (refine callS_of_awp (fun w args => Try.call16 ..) Try.func16 rfl (fun w0 m0 wz => ?_); simp only [Try.ntmps16, Try.results16, initT, junks, sl, List.toList_toArray, List.cons_append, List.nil_append, List.length_cons, List.length_nil, Nat.reduceAdd, Nat.reduceSub])
  (repeat' (first
 | ((omega))
 | ((exfalso; omega))
 | refine awp_seqK ?_
 | refine kt ?_
 | refine And.intro ?_ ?_
 | ((first | refine awp_stp rfl ?_ | refine awp_draw (by kernel_rfl) (by kernel_rfl) ?_ | refine Imp.le2 ?_ | refine callK_of (h1) ?_ | refine go_split (fun _h => ?_) (fun _h => ?_)) <;> try simp (maxSteps := 4000000) only [go_sem, seval, hn])
 | intro _h
 | refine awp_block ?_
 | refine awp_scope ?_
 | refine cond_b ?_ ?_
 | (show heapOK _ _ = true; kernel_rfl)
 | (show heapOK2 _ _ = true; kernel_rfl)
 | (omega)))
  refine awp_loopN n (fun k => ⟨mkT 46 [(1, .psl false n (ints tr)), (2, .ptr 0 0 0), (21, .psl false n (ints tr)), (22, .int .i64 n), (23, .int .i64 k)], [some (.cells 58 1 0 [.psl false v.parcels.length (recs parcC v.parcels), .psl false n (recs slidC v.slides), .int .i64 v.s0, .int .i64 v.s1, .int .i64 v.s2])], []⟩) (.le2 ?_) ?_
  · simp (maxSteps := 4000000) only [go_sem, seval]
    all_goals first | rfl | exact ⟨rfl, rfl⟩ | trace_state
  · intro k hk
    rcases Nat.lt_or_eq_of_le hk with hk1 | hk1
    · have g1 := eq_true (hr k hk1)
      obtain ⟨q, hq⟩ : ∃ q, v.slides.getD k default = q := ⟨_, rfl⟩
      obtain ⟨t, htq⟩ : ∃ t, tr.getD k 0 = t := ⟨_, rfl⟩
      rw [hq, htq] at g1
      simp (maxSteps := 4000000) only [go_sem, seval]
      (repeat' (first
 | ((omega))
 | ((exfalso; omega))
 | refine awp_seqK ?_
 | refine kt ?_
 | refine And.intro ?_ ?_
 | ((first | refine awp_stp rfl ?_ | refine awp_draw (by kernel_rfl) (by kernel_rfl) ?_ | refine Imp.le2 ?_ | refine callK_of (has_c _ _ _) ?_ | refine go_split (fun _h => ?_) (fun _h => ?_)) <;> try simp (maxSteps := 4000000) only [go_sem, seval, hn, hq, htq, slidC, sl, g1, decide_true])
 | intro _h
 | refine awp_block ?_
 | refine awp_scope ?_
 | refine cond_b ?_ ?_
 | (show heapOK _ _ = true; kernel_rfl)
 | (show heapOK2 _ _ = true; kernel_rfl)
 | (omega)))
      all_goals first | rfl | exact ⟨rfl, rfl⟩ | trace_state
    · rw [hk1]
      simp (maxSteps := 4000000) only [go_sem, seval]
      (repeat' (first
 | ((omega))
 | ((exfalso; omega))
 | refine awp_seqK ?_
 | refine kt ?_
 | refine And.intro ?_ ?_
 | ((first | refine awp_stp rfl ?_ | refine awp_draw (by kernel_rfl) (by kernel_rfl) ?_ | refine Imp.le2 ?_ | refine callK_of (h4) ?_ | refine callK_of (h7) ?_ | refine go_split (fun _h => ?_) (fun _h => ?_)) <;> try simp (maxSteps := 4000000) only [go_sem, seval, hn])
 | intro _h
 | refine awp_block ?_
 | refine awp_scope ?_
 | refine cond_b ?_ ?_
 | (show heapOK _ _ = true; kernel_rfl)
 | (show heapOK2 _ _ = true; kernel_rfl)
 | (omega)))
      all_goals trace_state
end Go.Am

/- Plain: dangers of valleys; the example. -/
namespace Go.Am
open Go.RowKit Go.Proofs
/-- What says more. -/
def DS (x y : AV) : Prop := ∀ (ok : Nat → Prop) (w : World) (v : Value), PRep ok w x v → PRep ok w y v
inductive DSL : List AV → List AV → Prop
  | nil : DSL [] []
  | cons {x y : AV} {xs ys : List AV} (h : DS x y) (t : DSL xs ys) : DSL (x :: xs) (y :: ys)
theorem DSL.spec {xs ys : List AV} (h : DSL xs ys) : ys.length = xs.length ∧ ∀ j (a : j < xs.length) (b : j < ys.length), DS xs[j] ys[j] := by
  induction h with
  | nil => exact ⟨rfl, fun j a => by simp at a⟩
  | cons h t ih =>
    refine ⟨by simp [ih.1], fun j a b => ?_⟩
    cases j with
    | zero => exact h
    | succ j => exact ih.2 j (by simpa using a) (by simpa using b)
theorem DS.refl {x : AV} : DS x x := fun _ _ _ h => h
theorem DS.full {n : Nat} {xs ys : List AV} (h : DSL xs ys) : DS (.psl true n xs) (.psl false n ys) := fun ok w v p => by
  obtain ⟨hl, hj⟩ := h.spec
  cases p with
  | psle h1 h2 h3 =>
    have : ys = [] := List.length_eq_zero_iff.1 (by simpa using hl)
    subst this
    exact .psle h1 (fun e => by cases e) h3
  | psl vs h1 h2 hok hc hr => exact .psl vs h1 (fun e => by cases e) hok (fun j a => hc j (by omega)) (fun j a => hj j (by omega) a ok w _ (hr j (by omega)))
theorem DS.agg {xs ys : List AV} (h : DSL xs ys) : DS (.agg xs) (.agg ys) := fun ok w v p => by
  obtain ⟨hl, hj⟩ := h.spec
  cases p with
  | agg us h1 ho r1 => exact .agg us (by omega) ho (fun j a b => hj j (by omega) a ok w _ (r1 j (by omega) b))
theorem CallS.ds {P : Program} {f : FuncId} {xs ys : List AV} {r : AV} (h : CallS P f ys r) (hs : DSL xs ys) : CallS P f xs r := by
  obtain ⟨hl, hj⟩ := hs.spec
  exact ⟨h.1, fun w vs ok hok hlen hrep => h.2 w vs ok hok (by omega) (fun j a b => hj j (by omega) a ok w _ (hrep j (by omega) b))⟩
attribute [local irreducible] AWP CallS Kt goK CallK stepK evOps SemF SemY Imp
set_option maxRecDepth 4000
set_option linter.unusedSimpArgs false
set_option linter.unusedVariables false
set_option maxHeartbeats 3200000
theorem addW_mono {rate rate' : Int} {n : Nat} {way o o' : List Int} (hr : 0 ≤ rate) (ho : o.length = n) (ho' : o'.length = n) (hle : ∀ p, p < n → o.getD p 0 ≤ o'.getD p 0) (hw : ∀ i, i < way.length → 0 ≤ way.getD i 0 ∧ way.getD i 0 ≤ (n : Int) - 1) : ∀ j, j ≤ way.length → (addW rate way o j).length = n ∧ (addW rate way o' j).length = n ∧ ∀ p, p < n → (addW rate way o j).getD p 0 ≤ (addW rate way o' j).getD p 0
  | 0, _ => ⟨ho, ho', hle⟩
  | j + 1, hj => by
    obtain ⟨h1, h2, h3⟩ := addW_mono (rate' := rate') hr ho ho' hle hw j (by omega)
    have h4 := hw j (by omega)
    simp only [addW]
    generalize addW rate way o j = A at *
    generalize addW rate way o' j = B at *
    refine ⟨by rw [isp_length (by omega)]; exact h1, by rw [isp_length (by omega)]; exact h2, fun p hp => ?_⟩
    rw [isp_getD (by omega), isp_getD (by omega)]
    have h5 := h3 p hp
    have h6 := h3 (way.getD j 0).toNat (by omega)
    split <;> omega
theorem addW_more {rate : Int} {n : Nat} {way o : List Int} (hr : 0 ≤ rate) (ho : o.length = n) (hw : ∀ i, i < way.length → 0 ≤ way.getD i 0 ∧ way.getD i 0 ≤ (n : Int) - 1) {i : Nat} : ∀ j, i + j ≤ way.length → ∀ p, p < n → (addW rate way o i).getD p 0 ≤ (addW rate way o (i + j)).getD p 0
  | 0, _, p, _ => Int.le_refl _
  | j + 1, hj, p, hp => by
    have ih := addW_more hr ho hw (i := i) j (by omega) p hp
    have h4 := hw (i + j) (by omega)
    have hl := (addW_mono (rate' := rate) hr ho ho (fun _ _ => Int.le_refl _) hw (i + j) (by omega)).1
    rw [← Nat.add_assoc]
    simp only [addW]
    generalize addW rate way o (i + j) = A at *
    rw [isp_getD (by omega)]
    split
    · rename_i e; subst e; omega
    · exact ih
theorem dangN_mono {v : Valley} {t t' : List Int} (h : ValOK v) (ht : TruOK v t) (ht' : TruOK v t') (hw : ∀ k, k < v.slides.length → (v.slides.getD k default).way.length ≤ 15) (hl : t.length = t'.length) (hle : ∀ k, k < t.length → t.getD k 0 ≤ t'.getD k 0) : ∀ k, k ≤ t.length → ∀ p, p < v.parcels.length → (dangN v t k).getD p 0 ≤ (dangN v t' k).getD p 0
  | 0, _, p, _ => Int.le_refl _
  | k + 1, hk, p, hp => by
    have ih := dangN_mono h ht ht' hw hl hle k (by omega)
    have h1 := (dangN_ok h ht hw k (by omega)).1
    have h2 := (dangN_ok h ht' hw k (by omega)).1
    have hs := h.sl k (by have := ht.len; omega)
    have b1 := ht.bd k (by omega)
    have b2 := ht'.bd k (by omega)
    have b3 := hle k (by omega)
    simp only [dangN]
    have m1 := (addW_mono (rate' := 0) (show 0 ≤ (v.slides.getD k default).rate by have := hs.rate; omega) h1 h2 ih hs.inn (t.getD k 0).toNat (by omega)).2.2 p hp
    have m2 := addW_more (rate := (v.slides.getD k default).rate) (by have := hs.rate; omega) h2 hs.inn (i := (t.getD k 0).toNat) ((t'.getD k 0).toNat - (t.getD k 0).toNat) (by omega) p hp
    rw [show (t.getD k 0).toNat + ((t'.getD k 0).toNat - (t.getD k 0).toNat) = (t'.getD k 0).toNat by omega] at m2
    omega
theorem dangV_mono {v : Valley} {t t' : List Int} (h : ValOK v) (ht : TruOK v t) (ht' : TruOK v t') (hw : ∀ k, k < v.slides.length → (v.slides.getD k default).way.length ≤ 15) (hl : t.length = t'.length) (hle : ∀ k, k < t.length → t.getD k 0 ≤ t'.getD k 0) (p : Nat) (hp : p < v.parcels.length) : (dangV v t).getD p 0 ≤ (dangV v t').getD p 0 := by
  unfold dangV
  rw [← hl]
  exact dangN_mono h ht ht' hw hl hle t.length (Nat.le_refl _) p hp
theorem zoneV_mono {v : Valley} {a b : Int} (h : a ≤ b) : zoneV v a ≤ zoneV v b := by
  unfold zoneV
  repeat' split
  all_goals omega
/-- The first slide reaches from a to b. -/
def reach (v : Valley) (a b : Int) : Valley := ⟨v.parcels, isp v.slides 0 ⟨(v.slides.getD 0 default).way, (v.slides.getD 0 default).rate, a, b⟩, v.s0, v.s1, v.s2⟩
theorem reach_len {v : Valley} {a b : Int} (h : 0 < v.slides.length) : (reach v a b).slides.length = v.slides.length := isp_length h
theorem reach_at {v : Valley} {a b : Int} (h : 0 < v.slides.length) (k : Nat) : (reach v a b).slides.getD k default = if k = 0 then ⟨(v.slides.getD 0 default).way, (v.slides.getD 0 default).rate, a, b⟩ else v.slides.getD k default := isp_getD h
theorem reach_ok {v : Valley} {a b : Int} (h : ValOK v) (h0 : 0 < v.slides.length) (hab : 0 ≤ a ∧ a ≤ b ∧ b ≤ ((v.slides.getD 0 default).way.length : Int)) : ValOK (reach v a b) := by
  refine ⟨h.pn, by rw [reach_len h0]; exact h.sn, h.st, h.pa, fun k hk => ?_⟩
  rw [reach_len h0] at hk
  rw [reach_at h0]
  have h1 := h.sl k hk
  by_cases e : k = 0
  · subst e
    rw [if_pos rfl]
    exact ⟨h1.ne, h1.inn, h1.nd, h1.rate, hab⟩
  · rw [if_neg e]; exact h1
theorem reach_way {v : Valley} {a b : Int} {B : Nat} (h0 : 0 < v.slides.length) (hw : ∀ k, k < v.slides.length → (v.slides.getD k default).way.length ≤ B) : ∀ k, k < (reach v a b).slides.length → ((reach v a b).slides.getD k default).way.length ≤ B := fun k hk => by
  rw [reach_len h0] at hk
  rw [reach_at h0]
  split
  · exact hw 0 h0
  · exact hw k hk
/-- What the statement asks of the valley. -/
theorem reach_law {v : Valley} {a b n : Int} (h : ValOK v) (h0 : 0 < v.slides.length) (hw : ∀ k, k < v.slides.length → (v.slides.getD k default).way.length ≤ 15) (hab : 0 ≤ a ∧ a ≤ b ∧ b ≤ ((v.slides.getD 0 default).way.length : Int)) (hn : a ≤ n ∧ n ≤ b) :
    (isp (loL (reach v a b)) 0 n).length = (reach v a b).slides.length ∧ (∀ k, k < (reach v a b).slides.length → ((reach v a b).slides.getD k default).lo ≤ (isp (loL (reach v a b)) 0 n).getD k 0 ∧ (isp (loL (reach v a b)) 0 n).getD k 0 ≤ ((reach v a b).slides.getD k default).hi) ∧
    ∀ p, p < v.parcels.length → ((dangV (reach v a b) (loL (reach v a b))).getD p 0 ≤ (dangV (reach v a b) (isp (loL (reach v a b)) 0 n)).getD p 0 ∧ (dangV (reach v a b) (isp (loL (reach v a b)) 0 n)).getD p 0 ≤ (dangV (reach v a b) (hiL (reach v a b))).getD p 0) := by
  have hX := reach_ok h h0 hab
  have hXw := reach_way (a := a) (b := b) h0 hw
  have hXl := reach_len (a := a) (b := b) h0
  have hX0 := reach_at (a := a) (b := b) h0 0
  have hlo := loL_ok hX
  have hhi := hiL_ok hX
  rw [if_pos rfl] at hX0
  generalize hXe : reach v a b = X at *
  have hXp : X.parcels = v.parcels := by rw [← hXe]; rfl
  have ll : (loL X).length = X.slides.length := by simp [loL]
  have lh : (hiL X).length = X.slides.length := by simp [hiL]
  have lt : (isp (loL X) 0 n).length = X.slides.length := by rw [isp_length (by omega)]; exact ll
  have gl : ∀ k, k < X.slides.length → (loL X).getD k 0 = (X.slides.getD k default).lo := fun k hk => map_getD hk
  have gh : ∀ k, k < X.slides.length → (hiL X).getD k 0 = (X.slides.getD k default).hi := fun k hk => map_getD hk
  have gt : ∀ k, (isp (loL X) 0 n).getD k 0 = if k = 0 then n else (loL X).getD k 0 := fun k => isp_getD (by omega)
  have hr : ∀ k, k < X.slides.length → (X.slides.getD k default).lo ≤ (isp (loL X) 0 n).getD k 0 ∧ (isp (loL X) 0 n).getD k 0 ≤ (X.slides.getD k default).hi := fun k hk => by
    rw [gt]
    by_cases e : k = 0
    · subst e; rw [if_pos rfl, hX0]; exact hn
    · rw [if_neg e, gl k hk]
      have := (hX.sl k hk).rng
      omega
  have htr : TruOK X (isp (loL X) 0 n) := ⟨by omega, fun k hk => by
    have h1 := hr k (by omega)
    have h2 := (hX.sl k (by omega)).rng
    omega⟩
  refine ⟨lt, hr, fun p hp => ⟨?_, ?_⟩⟩
  · refine dangV_mono hX hlo htr hXw (by omega) (fun k hk => ?_) p (by rw [hXp]; exact hp)
    rw [gl k (by omega)]; exact (hr k (by omega)).1
  · refine dangV_mono hX htr hhi hXw (by omega) (fun k hk => ?_) p (by rw [hXp]; exact hp)
    rw [gh k (by omega)]; exact (hr k (by omega)).2
def val0 : Valley := ⟨[⟨0, 0, 0, false⟩], [⟨[0], 2, 0, 1⟩], 1, 2, 3⟩
theorem val0_ok : ValOK val0 := by
  refine ⟨by decide, by decide, by unfold StepOK; decide, fun i hi => ?_, fun k hk => ?_⟩
  · have : i = 0 := by simp [val0] at hi; omega
    subst this; rfl
  · have : k = 0 := by simp [val0] at hk; omega
    subst this
    refine ⟨by decide, fun i hi => ?_, fun i hi j hj => ?_, by decide, by decide⟩
    · have : i = 0 := by simp [val0] at hi; omega
      subst this; decide
    · have : i = 0 := by simp [val0] at hi; omega
      omega
theorem settles_c : CallS Try.prog 8 [] (.bool true) := by
  have hz := (Zones_c val0 val0_ok (fun k hk => by have : k = 0 := by simp [val0] at hk; omega
                                                   subst this; decide)).ds (xs := [.agg [.psl true 1 [.int .i64 0, .int .i64 0, .int .i64 0, .bool false], .psl true 1 [.psl true 1 [.int .i64 0], .int .i64 2, .int .i64 0, .int .i64 1], .int .i64 1, .int .i64 2, .int .i64 3]])
    (.cons (.agg (.cons (.full (.cons .refl (.cons .refl (.cons .refl (.cons .refl .nil))))) (.cons (.full (.cons (.full (.cons .refl .nil)) (.cons .refl (.cons .refl (.cons .refl .nil))))) (.cons .refl (.cons .refl (.cons .refl .nil)))))) .nil)
  have e1 : rangV (dangV val0 (loL val0)) (dangV val0 (hiL val0)) = [(0, 2)] := by decide
  have e2 : rangV ((dangV val0 (loL val0)).map (zoneV val0)) ((dangV val0 (hiL val0)).map (zoneV val0)) = [(0, 2)] := by decide
  rw [e1, e2] at hz
  have e3 : slRg [(0, 2)] = .psl false 1 [.int .i64 0, .int .i64 2] := rfl
  rw [e3] at hz
  (refine callS_of_awp (fun w args => Try.call8 ..) Try.func8 rfl (fun w0 m0 wz => ?_); simp only [Try.ntmps8, Try.results8, initT, junks, sl, List.toList_toArray, List.cons_append, List.nil_append, List.length_cons, List.length_nil, Nat.reduceAdd, Nat.reduceSub])
  (repeat' (first
 | refine awp_seqK ?_
 | refine kt ?_
 | refine And.intro ?_ ?_
 | ((first | refine awp_stp rfl ?_ | refine awp_draw (by kernel_rfl) (by kernel_rfl) ?_ | refine Imp.le2 ?_ | refine callK_of (hz) ?_ | refine go_split (fun _h => ?_) (fun _h => ?_)) <;> try simp (maxSteps := 4000000) only [go_sem, seval])
 | intro _h
 | refine awp_block ?_
 | refine awp_scope ?_
 | refine cond_b ?_ ?_
 | (show heapOK _ _ = true; kernel_rfl)
 | (show heapOK2 _ _ = true; kernel_rfl)
 | (omega)))
  all_goals trace_state
end Go.Am
