/- Parts TmA, TmB, TmC, TnA of the proof, one behind the other. No statement is proved here. -/
import Derived.Test.YtghlpjfpfjpddaaD6
import Derived.Test.YtghlpjfpfjpddaaDb
/- Contracts of the away functions: what the reference says of a plan. -/
namespace Go.Am
open Go.RowKit Go.Proofs
attribute [local irreducible] AWP CallS Kt goK CallK stepK evOps SemF SemY Imp
set_option maxRecDepth 4000
set_option linter.unusedSimpArgs false
set_option linter.unusedVariables false
set_option maxHeartbeats 3200000

theorem takesI_c (t : Town) (k i : Int) (hk : 0 ≤ k ∧ k < t.halls.length) (hi : 0 ≤ i ∧ i < t.homes.length) : CallS Try.prog 84 [.agg (townC t), .int .i64 k, .int .i64 i] (.bool (decide (andn (t.homes.getD i.toNat default).pets (t.halls.getD k.toNat default).pets = 0))) := by
  have := takes_c t k.toNat i.toNat (by omega) (by omega)
  rwa [show ((k.toNat : Nat) : Int) = k by omega, show ((i.toNat : Nat) : Int) = i by omega] at this
theorem rWorstI_c (t : Town) (i : Int) (ht : TownOK t) (hi : 0 ≤ i ∧ i < t.homes.length) : CallS Try.prog 40 [.agg (townC t), .int .i64 i] (.int .i64 (worstN t (t.homes.getD i.toNat default))) := by
  have := rWorst_c t i.toNat ht (by omega)
  rwa [show ((i.toNat : Nat) : Int) = i by omega] at this
def riseB (l : List Int) : Prop := ∀ i, 0 < i → i < l.length → l.getD (i - 1) 0 < l.getD i 0
/-- May a bus be in a plan, looked at alone? -/
def OneP (t : Town) (b : Bus) : Prop := BusG t b ∧ riseB b.homes
open Classical in
noncomputable def oneB (t : Town) (b : Bus) : Bool := decide (OneP t b)
theorem one_yes {t : Town} {b : Bus} (h : OneP t b) : true = oneB t b := by unfold oneB; exact (@decide_eq_true _ (Classical.propDecidable _) h).symm
theorem one_no {t : Town} {b : Bus} (h : ¬ OneP t b) : false = oneB t b := by unfold oneB; exact (@decide_eq_false _ (Classical.propDecidable _) h).symm
/-- What is looked at of the first homes of a bus. -/
def preOne (t : Town) (b : Bus) (i : Nat) : Prop := ∀ j, j < i → (0 ≤ b.homes.getD j 0 ∧ b.homes.getD j 0 < t.homes.length) ∧ (0 < j → b.homes.getD (j - 1) 0 < b.homes.getD j 0) ∧ sheB t b (b.homes.getD j 0) = true ∧ timB t b (b.homes.getD j 0) = true
theorem one_c (t : Town) (b : Bus) (ht : TownOK t) (hbl : b.homes.length ≤ 1000000) : CallS Try.prog 59 [.agg (townC t), .agg (busC b)] (.bool (oneB t b)) := by
  have hln := ht.homes
  have hhl := ht.halls
  have hsea := ht.seats
  have hno : ¬ OneP t b → false = oneB t b := one_no
  have hyes : OneP t b → true = oneB t b := one_yes
  generalize oneB t b = r at *
  by_cases c1 : 0 ≤ b.leave ∧ b.leave ≤ 10000
  · have e1 : (0 ≤ b.leave ∧ b.leave ≤ 10000) = True := eq_true c1
    by_cases c2 : 0 ≤ b.hall ∧ b.hall ≤ t.halls.length - 1
    · have e2 : (0 ≤ b.hall ∧ b.hall ≤ (t.halls.length : Int) - 1) = True := eq_true c2
      by_cases c3 : b.homes = []
      · have e3 : ((b.homes.length : Int) = 0) = True := eq_true (by rw [c3]; rfl)
        rw [← hno (fun h => h.1.some c3)]
        simp only [townC, slH, slL, sl, busC]
        (refine callS_of_awp (fun w args => Try.call59 ..) Try.func59 rfl (fun w0 m0 wz => ?_); simp only [Try.ntmps59, Try.results59, initT, junks, homeC, hallC, slH, slL, townC, sl, List.toList_toArray, List.cons_append, List.nil_append, List.length_cons, List.length_nil, Nat.reduceAdd, Nat.reduceSub])
        (repeat' (first
    | ((exfalso; omega))
    | (refine awp_seqK ?_)
    | (refine kt ?_)
    | (refine And.intro ?_ ?_)
    | ((first | refine awp_region ?_ | refine awp_draw (by kernel_rfl) (by kernel_rfl) ?_ | refine Imp.le2 ?_ | refine awp_label ?_ | refine awp_skip ?_ | refine awp_exit ?_ | refine awp_cd ?_ | refine awp_ret ?_ | refine callK_of (in_c _ _ _) ?_ | refine go_split (fun _h => ?_) (fun _h => ?_)) <;> try simp (maxSteps := 4000000) only [go_sem, seval, e1, e2, e3, decide_true, Bool.not_true])
    | (intro _h)
    | (refine awp_block ?_)
    | (refine awp_scope ?_)
    | (refine cond_b (fun _h => ?_) (fun _h => ?_))
    | (show heapOK _ _ = true; kernel_rfl)
    | (show heapOK2 _ _ = true; kernel_rfl)
    | (omega)))
      · have e3 : ((b.homes.length : Int) = 0) = False := eq_false (fun h => c3 (List.eq_nil_of_length_eq_zero (by omega)))
        have hdr := (ht.hall b.hall.toNat (by omega)).drive
        simp only [townC, slH, slL, sl, busC]
        (refine callS_of_awp (fun w args => Try.call59 ..) Try.func59 rfl (fun w0 m0 wz => ?_); simp only [Try.ntmps59, Try.results59, initT, junks, homeC, hallC, slH, slL, townC, sl, List.toList_toArray, List.cons_append, List.nil_append, List.length_cons, List.length_nil, Nat.reduceAdd, Nat.reduceSub])
        (repeat' (first
    | ((exfalso; omega))
    | (refine awp_seqK ?_)
    | (refine kt ?_)
    | (refine And.intro ?_ ?_)
    | ((first | refine awp_region ?_ | refine awp_draw (by kernel_rfl) (by kernel_rfl) ?_ | refine Imp.le2 ?_ | refine awp_label ?_ | refine awp_skip ?_ | refine awp_exit ?_ | refine awp_cd ?_ | refine awp_ret ?_ | refine callK_of (in_c _ _ _) ?_ | refine go_split (fun _h => ?_) (fun _h => ?_)) <;> try simp (maxSteps := 4000000) only [go_sem, seval, e1, e2, e3, decide_true, decide_false, Bool.not_true])
    | (intro _h)
    | (refine awp_block ?_)
    | (refine awp_scope ?_)
    | (refine cond_b (fun _h => ?_) (fun _h => ?_))
    | (show heapOK _ _ = true; kernel_rfl)
    | (show heapOK2 _ _ = true; kernel_rfl)
    | (omega)))
        refine awp_loopJ (fun i : Nat => i ≤ b.homes.length ∧ preOne t b i) (fun i => ⟨mkT 108 [(2, .ptr 0 0 0), (3, .ptr 1 0 0), (5, .int .i64 (pplL t b.homes i)), (6, .int .i64 i)], [some (.cells 27 1 0 (townC t)), some (.cells 49 1 0 (busC b))], []⟩) (fun i => b.homes.length - i) 0 ⟨Nat.zero_le _, fun j hj => by omega⟩ (.le2 ?_) ?_
        · simp only [townC, slH, slL, sl, busC, pplL]; simp (maxSteps := 4000000) only [go_sem, seval]
          try (first | rfl | exact ⟨rfl, rfl⟩)
        · rintro i ⟨hi, hj⟩
          rcases Nat.lt_or_eq_of_le hi with hi1 | hi1
          · have hpb : 0 ≤ pplL t b.homes i ∧ pplL t b.homes i ≤ 200 * i := by
              have : ∀ k, k ≤ i → 0 ≤ pplL t b.homes k ∧ pplL t b.homes k ≤ 200 * k := by
                intro k
                induction k with
                | zero => intro _; simp [pplL]
                | succ k ih =>
                  intro hk
                  have h1 := ih (by omega)
                  have h2 := (hj k (by omega)).1
                  have h3 := (ht.home (b.homes.getD k 0).toNat (by omega)).people
                  simp only [pplL]; omega
              exact this i (Nat.le_refl _)
            have hG : OneP t b → (0 ≤ b.homes.getD i 0 ∧ b.homes.getD i 0 < t.homes.length) ∧ (0 < i → b.homes.getD (i - 1) 0 < b.homes.getD i 0) ∧ sheB t b (b.homes.getD i 0) = true ∧ timB t b (b.homes.getD i 0) = true := fun h => by
              have hm := getD_mem (d := 0) hi1
              have hy := h.1.may
              simp only [mayB, Bool.and_eq_true, decide_eq_true_eq, List.all_eq_true] at hy
              exact ⟨h.1.homes _ hm, fun h0 => h.2 i h0 hi1, hy.1.2 _ hm, hy.2 _ hm⟩
            by_cases d1 : 0 ≤ b.homes.getD i 0 ∧ b.homes.getD i 0 ≤ t.homes.length - 1
            · have f1 : (0 ≤ b.homes.getD i 0 ∧ b.homes.getD i 0 ≤ (t.homes.length : Int) - 1) = True := eq_true d1
              have hx : 0 ≤ b.homes.getD i 0 ∧ b.homes.getD i 0 < t.homes.length := by omega
              have htk := takesI_c t b.hall (b.homes.getD i 0) (by omega) hx
              have hwo := rWorstI_c t (b.homes.getD i 0) ht hx
              have hwb := worstN_bd ht (i := (b.homes.getD i 0).toNat) (by omega)
              have hpo := (ht.home (b.homes.getD i 0).toNat (by omega)).people
              have sh : sheB t b (b.homes.getD i 0) = decide (andn (t.homes.getD (b.homes.getD i 0).toNat default).pets (t.halls.getD b.hall.toNat default).pets = 0) := rfl
              have ti : timB t b (b.homes.getD i 0) = decide (worstN t (t.homes.getD (b.homes.getD i 0).toNat default) ≤ b.leave ∧ b.leave + (t.halls.getD b.hall.toNat default).drive ≤ (t.homes.getD (b.homes.getD i 0).toNat default).gone) := by
                unfold timB; rw [worst_at hx]
              by_cases d2 : 0 < i ∧ b.homes.getD i 0 ≤ b.homes.getD (i - 1) 0
              · have f2 : (0 < (i : Int)) = True := eq_true (by omega)
                have f3 : (b.homes.getD i 0 ≤ b.homes.getD (i - 1) 0) = True := eq_true d2.2
                have ei : ((i : Int) - 1).toNat = i - 1 := by omega
                rw [← hno (fun h => by have := (hG h).2.1 d2.1; omega)]
                simp only [townC, slH, slL, sl, busC] at htk hwo ⊢; simp (maxSteps := 4000000) only [go_sem, seval]
                (repeat' (first
    | ((exfalso; omega))
    | ((omega))
    | (refine awp_seqK ?_)
    | (refine kt ?_)
    | (refine And.intro ?_ ?_)
    | ((first | refine awp_region ?_ | refine awp_draw (by kernel_rfl) (by kernel_rfl) ?_ | refine Imp.le2 ?_ | refine awp_label ?_ | refine awp_skip ?_ | refine awp_exit ?_ | refine awp_cd ?_ | refine awp_ret ?_ | refine callK_of (in_c _ _ _) ?_ | refine callK_of (htk) ?_ | refine callK_of (hwo) ?_ | refine go_split (fun _h => ?_) (fun _h => ?_)) <;> try simp (maxSteps := 4000000) only [go_sem, seval, f1, f2, f3, ei, decide_true, Bool.not_true])
    | (intro _h)
    | (refine awp_block ?_)
    | (refine awp_scope ?_)
    | (refine cond_b (fun _h => ?_) (fun _h => ?_))
    | (show heapOK _ _ = true; kernel_rfl)
    | (show heapOK2 _ _ = true; kernel_rfl)
    | (omega)))
              · have f2 : (i = 0 ∧ (0 < (i : Int)) = False) ∨ (0 < i ∧ (0 < (i : Int)) = True ∧ (b.homes.getD i 0 ≤ b.homes.getD (i - 1) 0) = False) := by
                  by_cases h0 : i = 0
                  · exact .inl ⟨h0, eq_false (by omega)⟩
                  · exact .inr ⟨by omega, eq_true (by omega), eq_false (fun h => d2 ⟨by omega, h⟩)⟩
                have ei : ((i : Int) - 1).toNat = i - 1 := by omega
                have hstep : sheB t b (b.homes.getD i 0) = true → timB t b (b.homes.getD i 0) = true → preOne t b (i + 1) := fun h1 h2 j hji => by
                  rcases Nat.lt_succ_iff_lt_or_eq.1 hji with h | rfl
                  · exact hj j h
                  · exact ⟨hx, fun h0 => by have : ¬ (b.homes.getD j 0 ≤ b.homes.getD (j - 1) 0) := fun h => d2 ⟨h0, h⟩
                                            omega, h1, h2⟩
                have hps : pplL t b.homes i + (t.homes.getD (b.homes.getD i 0).toNat default).people = pplL t b.homes (i + 1) := rfl
                have hG3 := fun h => (hG h).2.2.1
                have hG4 := fun h => (hG h).2.2.2
                rw [sh] at hG3 hstep
                rw [ti] at hG4 hstep
                simp only [decide_eq_true_eq] at hG3 hG4 hstep
                simp only [townC, slH, slL, sl, busC] at htk hwo
                rcases f2 with ⟨f0, f2⟩ | ⟨f0, f2, f3⟩
                · subst f0
                  simp only [townC, slH, slL, sl, busC]; simp (maxSteps := 4000000) only [go_sem, seval]
                  have f2' : ((0 : Int) < 0) = False := eq_false (by omega)
                  (repeat' (first
    | ((exfalso; omega))
    | ((omega))
    | (refine awp_seqK ?_)
    | (refine kt ?_)
    | (refine And.intro ?_ ?_)
    | ((first | refine awp_region ?_ | refine awp_draw (by kernel_rfl) (by kernel_rfl) ?_ | refine Imp.le2 ?_ | refine awp_label ?_ | refine awp_skip ?_ | refine awp_exit ?_ | refine awp_cd ?_ | refine awp_ret ?_ | refine callK_of (in_c _ _ _) ?_ | refine callK_of (htk) ?_ | refine callK_of (hwo) ?_ | refine go_split (fun _h => ?_) (fun _h => ?_)) <;> try simp (maxSteps := 4000000) only [go_sem, seval, f1, f2', decide_true, decide_false, Bool.not_true])
    | (intro _h)
    | (refine awp_block ?_)
    | (refine awp_scope ?_)
    | (refine cond_b (fun _h => ?_) (fun _h => ?_))
    | (show heapOK _ _ = true; kernel_rfl)
    | (show heapOK2 _ _ = true; kernel_rfl)
    | (omega)))
                  all_goals first
                    | exact hno (fun h => absurd (hG3 h) (by assumption))
                    | exact (hno (fun h => absurd (hG3 h) (by assumption))).symm
                    | exact hno (fun h => by have := hG4 h; omega)
                    | exact (hno (fun h => by have := hG4 h; omega)).symm
                    | (refine ⟨1, ⟨by omega, hstep (by assumption) (by omega)⟩, by omega, .le2 ?_⟩
                       (try simp only [townC, slH, slL, sl, busC]); simp (maxSteps := 4000000) only [go_sem, seval, hps]
                       try (first | rfl | exact ⟨rfl, rfl⟩))
                    | trace_state
                · simp only [townC, slH, slL, sl, busC]; simp (maxSteps := 4000000) only [go_sem, seval]
                  (repeat' (first
    | ((exfalso; omega))
    | ((omega))
    | (refine awp_seqK ?_)
    | (refine kt ?_)
    | (refine And.intro ?_ ?_)
    | ((first | refine awp_region ?_ | refine awp_draw (by kernel_rfl) (by kernel_rfl) ?_ | refine Imp.le2 ?_ | refine awp_label ?_ | refine awp_skip ?_ | refine awp_exit ?_ | refine awp_cd ?_ | refine awp_ret ?_ | refine callK_of (in_c _ _ _) ?_ | refine callK_of (htk) ?_ | refine callK_of (hwo) ?_ | refine go_split (fun _h => ?_) (fun _h => ?_)) <;> try simp (maxSteps := 4000000) only [go_sem, seval, f1, f2, f3, ei, decide_true, decide_false, Bool.not_true])
    | (intro _h)
    | (refine awp_block ?_)
    | (refine awp_scope ?_)
    | (refine cond_b (fun _h => ?_) (fun _h => ?_))
    | (show heapOK _ _ = true; kernel_rfl)
    | (show heapOK2 _ _ = true; kernel_rfl)
    | (omega)))
                  all_goals first
                    | exact hno (fun h => absurd (hG3 h) (by assumption))
                    | exact (hno (fun h => absurd (hG3 h) (by assumption))).symm
                    | exact hno (fun h => by have := hG4 h; omega)
                    | exact (hno (fun h => by have := hG4 h; omega)).symm
                    | (refine ⟨i + 1, ⟨by omega, hstep (by assumption) (by omega)⟩, by omega, .le2 ?_⟩
                       (try simp only [townC, slH, slL, sl, busC]); simp (maxSteps := 4000000) only [go_sem, seval, hps]
                       try (first | rfl | exact ⟨rfl, rfl⟩))
                    | trace_state
            · have f1 : (0 ≤ b.homes.getD i 0 ∧ b.homes.getD i 0 ≤ (t.homes.length : Int) - 1) = False := eq_false d1
              rw [← hno (fun h => d1 (by have := (hG h).1; omega))]
              simp only [townC, slH, slL, sl, busC]; simp (maxSteps := 4000000) only [go_sem, seval]
              (repeat' (first
    | ((exfalso; omega))
    | ((omega))
    | (refine awp_seqK ?_)
    | (refine kt ?_)
    | (refine And.intro ?_ ?_)
    | ((first | refine awp_region ?_ | refine awp_draw (by kernel_rfl) (by kernel_rfl) ?_ | refine Imp.le2 ?_ | refine awp_label ?_ | refine awp_skip ?_ | refine awp_exit ?_ | refine awp_cd ?_ | refine awp_ret ?_ | refine callK_of (in_c _ _ _) ?_ | refine go_split (fun _h => ?_) (fun _h => ?_)) <;> try simp (maxSteps := 4000000) only [go_sem, seval, f1, decide_false, Bool.not_false])
    | (intro _h)
    | (refine awp_block ?_)
    | (refine awp_scope ?_)
    | (refine cond_b (fun _h => ?_) (fun _h => ?_))
    | (show heapOK _ _ = true; kernel_rfl)
    | (show heapOK2 _ _ = true; kernel_rfl)
    | (omega)))
          · subst hi1
            have hmem : ∀ x ∈ b.homes, (0 ≤ x ∧ x < t.homes.length) ∧ sheB t b x = true ∧ timB t b x = true := fun x hx => by
              obtain ⟨j, hjl, rfl⟩ := mem_getD (d := 0) hx
              have := hj j hjl
              exact ⟨this.1, this.2.2⟩
            have hfin : ppl t b.homes ≤ t.seats → OneP t b := fun h => ⟨⟨c1, c2, c3, fun x hx => (hmem x hx).1, by
              simp only [mayB, Bool.and_eq_true, decide_eq_true_eq, List.all_eq_true]
              exact ⟨⟨h, fun x hx => (hmem x hx).2.1⟩, fun x hx => (hmem x hx).2.2⟩⟩, fun i h0 hi => (hj i hi).2.1 h0⟩
            have hfin2 : OneP t b → ppl t b.homes ≤ t.seats := fun h => by
              have hy := h.1.may
              simp only [mayB, Bool.and_eq_true, decide_eq_true_eq, List.all_eq_true] at hy
              exact hy.1.1
            have hpp : pplL t b.homes b.homes.length = ppl t b.homes := rfl
            rw [hpp]
            simp only [townC, slH, slL, sl, busC]; simp (maxSteps := 4000000) only [go_sem, seval]
            (repeat' (first
    | ((exfalso; omega))
    | (refine awp_seqK ?_)
    | (refine kt ?_)
    | (refine And.intro ?_ ?_)
    | ((first | refine awp_region ?_ | refine awp_draw (by kernel_rfl) (by kernel_rfl) ?_ | refine Imp.le2 ?_ | refine awp_label ?_ | refine awp_skip ?_ | refine awp_exit ?_ | refine awp_cd ?_ | refine awp_ret ?_ | refine go_split (fun _h => ?_) (fun _h => ?_)) <;> try simp (maxSteps := 4000000) only [go_sem, seval])
    | (intro _h)
    | (refine awp_block ?_)
    | (refine awp_scope ?_)
    | (refine cond_b (fun _h => ?_) (fun _h => ?_))
    | (show heapOK _ _ = true; kernel_rfl)
    | (show heapOK2 _ _ = true; kernel_rfl)
    | (omega)))
            all_goals first
              | exact hyes (hfin (by assumption))
              | exact (hyes (hfin (by assumption))).symm
              | exact hno (fun h => absurd (hfin2 h) (by assumption))
              | exact (hno (fun h => absurd (hfin2 h) (by assumption))).symm
              | trace_state
    · have e2 : (0 ≤ b.hall ∧ b.hall ≤ (t.halls.length : Int) - 1) = False := eq_false c2
      rw [← hno (fun h => c2 h.1.hall)]
      simp only [townC, slH, slL, sl, busC]
      (refine callS_of_awp (fun w args => Try.call59 ..) Try.func59 rfl (fun w0 m0 wz => ?_); simp only [Try.ntmps59, Try.results59, initT, junks, homeC, hallC, slH, slL, townC, sl, List.toList_toArray, List.cons_append, List.nil_append, List.length_cons, List.length_nil, Nat.reduceAdd, Nat.reduceSub])
      (repeat' (first
    | ((exfalso; omega))
    | (refine awp_seqK ?_)
    | (refine kt ?_)
    | (refine And.intro ?_ ?_)
    | ((first | refine awp_region ?_ | refine awp_draw (by kernel_rfl) (by kernel_rfl) ?_ | refine Imp.le2 ?_ | refine awp_label ?_ | refine awp_skip ?_ | refine awp_exit ?_ | refine awp_cd ?_ | refine awp_ret ?_ | refine callK_of (in_c _ _ _) ?_ | refine go_split (fun _h => ?_) (fun _h => ?_)) <;> try simp (maxSteps := 4000000) only [go_sem, seval, e1, e2, decide_true, decide_false, Bool.not_true])
    | (intro _h)
    | (refine awp_block ?_)
    | (refine awp_scope ?_)
    | (refine cond_b (fun _h => ?_) (fun _h => ?_))
    | (show heapOK _ _ = true; kernel_rfl)
    | (show heapOK2 _ _ = true; kernel_rfl)
    | (omega)))
  · have e1 : (0 ≤ b.leave ∧ b.leave ≤ 10000) = False := eq_false c1
    rw [← hno (fun h => c1 h.1.leave)]
    simp only [townC, slH, slL, sl, busC]
    (refine callS_of_awp (fun w args => Try.call59 ..) Try.func59 rfl (fun w0 m0 wz => ?_); simp only [Try.ntmps59, Try.results59, initT, junks, homeC, hallC, slH, slL, townC, sl, List.toList_toArray, List.cons_append, List.nil_append, List.length_cons, List.length_nil, Nat.reduceAdd, Nat.reduceSub])
    (repeat' (first
    | ((exfalso; omega))
    | (refine awp_seqK ?_)
    | (refine kt ?_)
    | (refine And.intro ?_ ?_)
    | ((first | refine awp_region ?_ | refine awp_draw (by kernel_rfl) (by kernel_rfl) ?_ | refine Imp.le2 ?_ | refine awp_label ?_ | refine awp_skip ?_ | refine awp_exit ?_ | refine awp_cd ?_ | refine awp_ret ?_ | refine callK_of (in_c _ _ _) ?_ | refine go_split (fun _h => ?_) (fun _h => ?_)) <;> try simp (maxSteps := 4000000) only [go_sem, seval, e1, decide_false])
    | (intro _h)
    | (refine awp_block ?_)
    | (refine awp_scope ?_)
    | (refine cond_b (fun _h => ?_) (fun _h => ?_))
    | (show heapOK _ _ = true; kernel_rfl)
    | (show heapOK2 _ _ = true; kernel_rfl)
    | (omega)))

/-! ### Return, opens, by the reference -/
theorem rOpened_c (t : Town) (opens : List Int) (hb : townOK t) (ho : opens.length ≤ 1000000) : CallS Try.prog 33 [.agg (townC t), sl opens] (.bool (decide (Opn t opens))) := by
  obtain ⟨hb1, hb2⟩ := hb
  have hno1 : ∀ k, k < opens.length → ¬ (0 ≤ opens.getD k 0 ∧ opens.getD k 0 ≤ 1000000) → false = decide (Opn t opens) := fun k hk h => (decide_eq_false fun o => h (o.inn _ (getD_mem hk))).symm
  have hno2 : opens.length ≠ t.homes.length → false = decide (Opn t opens) := fun h => (decide_eq_false fun o => h o.len).symm
  have hyes : opens.length = t.homes.length → (∀ k, k < opens.length → 0 ≤ opens.getD k 0 ∧ opens.getD k 0 ≤ 1000000) → true = decide (Opn t opens) := fun h h2 => (decide_eq_true ⟨h, fun x hx => by obtain ⟨i, hi, rfl⟩ := mem_getD (d := 0) hx; exact h2 i hi⟩).symm
  generalize decide (Opn t opens) = r at *
  simp only [townC, slH, slL, sl, busC]
  (refine callS_of_awp (fun w args => Try.call33 ..) Try.func33 rfl (fun w0 m0 wz => ?_); simp only [Try.ntmps33, Try.results33, initT, junks, homeC, hallC, slH, slL, townC, sl, List.toList_toArray, List.cons_append, List.nil_append, List.length_cons, List.length_nil, Nat.reduceAdd, Nat.reduceSub])
  (repeat' (first
    | (refine awp_seqK ?_)
    | (refine kt ?_)
    | (refine And.intro ?_ ?_)
    | ((first | refine awp_region ?_ | refine awp_draw (by kernel_rfl) (by kernel_rfl) ?_ | refine Imp.le2 ?_ | refine awp_label ?_ | refine awp_skip ?_ | refine awp_exit ?_ | refine awp_cd ?_ | refine awp_ret ?_ | refine go_split (fun _h => ?_) (fun _h => ?_)) <;> try simp (maxSteps := 4000000) only [go_sem, seval])
    | (intro _h)
    | (refine awp_block ?_)
    | (refine awp_scope ?_)
    | (refine cond_b (fun _h => ?_) (fun _h => ?_))
    | (show heapOK _ _ = true; kernel_rfl)
    | (show heapOK2 _ _ = true; kernel_rfl)
    | (omega)))
  refine awp_loopJ (fun i : Nat => i ≤ opens.length ∧ ∀ j, j < i → 0 ≤ opens.getD j 0 ∧ opens.getD j 0 ≤ 1000000) (fun i => ⟨mkT 24 [(1, sl opens), (2, .ptr 0 0 0), (5, .int .i64 i)], [some (.cells 27 1 0 (townC t))], []⟩) (fun i => opens.length - i) 0 ⟨Nat.zero_le _, fun j hj => by omega⟩ (.le2 ?_) ?_
  · simp only [townC, slH, slL, sl, busC]; simp (maxSteps := 4000000) only [go_sem, seval]
  · rintro i ⟨hi, hj⟩
    simp only [townC, slH, slL, sl, busC]; simp (maxSteps := 4000000) only [go_sem, seval]
    (repeat' (first
    | (refine awp_seqK ?_)
    | (refine kt ?_)
    | (refine And.intro ?_ ?_)
    | ((first | refine awp_region ?_ | refine awp_draw (by kernel_rfl) (by kernel_rfl) ?_ | refine Imp.le2 ?_ | refine awp_label ?_ | refine awp_skip ?_ | refine awp_exit ?_ | refine awp_cd ?_ | refine awp_ret ?_ | refine callK_of (in_c _ _ _) ?_ | refine go_split (fun _h => ?_) (fun _h => ?_)) <;> try simp (maxSteps := 4000000) only [go_sem, seval])
    | (intro _h)
    | (refine awp_block ?_)
    | (refine awp_scope ?_)
    | (refine cond_b (fun _h => ?_) (fun _h => ?_))
    | (show heapOK _ _ = true; kernel_rfl)
    | (show heapOK2 _ _ = true; kernel_rfl)
    | (omega)))
    all_goals first
      | exact hno1 i (by omega) (by assumption)
      | exact (hno1 i (by omega) (by assumption)).symm
      | exact hno2 (by omega)
      | exact (hno2 (by omega)).symm
      | exact hyes (by omega) (fun k hk => hj k (by omega))
      | exact (hyes (by omega) (fun k hk => hj k (by omega))).symm
      | (refine ⟨i + 1, ⟨by omega, fun j hji => ?_⟩, by omega, .le2 ?_⟩
         · rcases Nat.lt_succ_iff_lt_or_eq.1 hji with h | rfl
           · exact hj j h
           · assumption
         · (try simp only [townC, slH, slL, sl, busC]); simp (maxSteps := 4000000) only [go_sem, seval]
           try omega)
      | trace_state
theorem rReturn_c (t : Town) (P : List Bus) (opens : List Int) (ht : TownOK t) (hp : PlanS P) (hq : rightB t P = true) (hO : Opn t opens) : CallS Try.prog 35 [.agg (townC t), slB P, sl opens] (sl (rOut t P opens P.length)) := by
  have hOl := hO.len
  have hln := ht.homes
  obtain ⟨S, hS, h8, _, _⟩ := rightB_some hq
  have hG : ∀ j, j < P.length → BusG t (P.getD j default) := fun j hj => ((runI ht _ S hS).bus j hj).1
  have hrl := fun k hk => rOut_length (opens := opens) hG k hk
  have hrl2 := hrl P.length (Nat.le_refl _)
  simp only [townC, slH, slL, sl, slB, busC]
  (refine callS_of_awp (fun w args => Try.call35 ..) Try.func35 rfl (fun w0 m0 wz => ?_); simp only [Try.ntmps35, Try.results35, initT, junks, homeC, hallC, slH, slL, townC, sl, List.toList_toArray, List.cons_append, List.nil_append, List.length_cons, List.length_nil, Nat.reduceAdd, Nat.reduceSub])
  (repeat' (first
    | (refine awp_seqK ?_)
    | (refine kt ?_)
    | (refine And.intro ?_ ?_)
    | ((first | refine awp_region ?_ | refine awp_draw (by kernel_rfl) (by kernel_rfl) ?_ | refine Imp.le2 ?_ | refine awp_label ?_ | refine awp_skip ?_ | refine awp_exit ?_ | refine awp_cd ?_ | refine awp_ret ?_ | refine go_split (fun _h => ?_) (fun _h => ?_)) <;> try simp (maxSteps := 4000000) only [go_sem, seval, ↓rep_ints])
    | (intro _h)
    | (refine awp_block ?_)
    | (refine awp_scope ?_)
    | (refine cond_b (fun _h => ?_) (fun _h => ?_))
    | (show heapOK _ _ = true; kernel_rfl)
    | (show heapOK2 _ _ = true; kernel_rfl)
    | (omega)))
  refine awp_loopN P.length (fun k => ⟨mkT 79 [(1, slB P), (2, sl opens), (3, .ptr 0 0 0), (7, .osl 1 0 0 t.homes.length), (8, .int .i64 k)], [some (.cells 27 1 0 (townC t)), some (.cells 3 1 0 (ints (rOut t P opens k)))], []⟩) (.le2 ?_) ?_
  · simp only [townC, slH, slL, sl, slB, busC, rOut]; simp (maxSteps := 4000000) only [go_sem, seval]
    try (first | rfl | exact ⟨rfl, rfl⟩)
  · intro k hk
    have hlk := hrl k hk
    rcases Nat.lt_or_eq_of_le hk with hk1 | hk1
    · have hGk := hG k hk1
      have hst : rOut t P opens (k + 1) = outB t (P.getD k default) (safeL opens (P.getD k default).homes (P.getD k default).homes.length) (rOut t P opens k) (P.getD k default).homes.length := rfl
      obtain ⟨b, hb2⟩ : ∃ b, P.getD k default = b := ⟨_, rfl⟩
      have hbl := hp.2 _ (getD_mem (d := default) hk1)
      rw [hb2] at hGk hst hbl
      rw [hst]
      have hsb := fun j hj => safeL_bd hO hGk.homes j hj
      have hbh := hGk.homes
      have hhall := hGk.hall
      have hdr := (ht.hall b.hall.toNat (by omega)).drive
      generalize rOut t P opens k = O at *
      simp only [townC, slH, slL, sl, slB]; simp (maxSteps := 4000000) only [go_sem, seval]
      (repeat' (first
    | ((exfalso; omega))
    | (refine awp_seqK ?_)
    | (refine kt ?_)
    | (refine And.intro ?_ ?_)
    | ((first | refine awp_region ?_ | refine awp_draw (by kernel_rfl) (by kernel_rfl) ?_ | refine Imp.le2 ?_ | refine awp_label ?_ | refine awp_skip ?_ | refine awp_exit ?_ | refine awp_cd ?_ | refine awp_ret ?_ | refine go_split (fun _h => ?_) (fun _h => ?_)) <;> try simp (maxSteps := 4000000) only [go_sem, seval, hb2, busC])
    | (intro _h)
    | (refine awp_block ?_)
    | (refine awp_scope ?_)
    | (refine cond_b (fun _h => ?_) (fun _h => ?_))
    | (show heapOK _ _ = true; kernel_rfl)
    | (show heapOK2 _ _ = true; kernel_rfl)
    | (omega)))
      refine awp_loopN b.homes.length (fun j => ⟨mkT 79 [(1, slB P), (2, sl opens), (3, .ptr 0 0 0), (7, .osl 1 0 0 t.homes.length), (8, .int .i64 k), (9, .ptr 2 0 0), (10, .int .i64 (safeL opens b.homes j)), (11, .int .i64 j)], [some (.cells 27 1 0 (townC t)), some (.cells 3 1 0 (ints O)), some (.cells 49 1 0 (busC b))], []⟩) (.le2 ?_) ?_
      · simp only [townC, slH, slL, sl, slB, busC, safeL]; simp (maxSteps := 4000000) only [go_sem, seval]
        try (first | rfl | exact ⟨rfl, rfl⟩)
      · intro j hj
        rcases Nat.lt_or_eq_of_le hj with hj1 | hj1
        · have hx := hbh _ (getD_mem (d := 0) hj1)
          have hs0 := hsb j hj
          have hs1 : max (safeL opens b.homes j) (opens.getD (b.homes.getD j 0).toNat 0) = safeL opens b.homes (j + 1) := rfl
          have hs2 : (if safeL opens b.homes j < opens.getD (b.homes.getD j 0).toNat 0 then opens.getD (b.homes.getD j 0).toNat 0 else safeL opens b.homes j) = safeL opens b.homes (j + 1) := by rw [← hs1]; split <;> omega
          simp only [townC, slH, slL, sl, slB, busC]; simp (maxSteps := 4000000) only [go_sem, seval]
          (repeat' (first
    | ((exfalso; omega))
    | (refine awp_seqK ?_)
    | (refine kt ?_)
    | (refine And.intro ?_ ?_)
    | ((first | refine awp_region ?_ | refine awp_draw (by kernel_rfl) (by kernel_rfl) ?_ | refine Imp.le2 ?_ | refine awp_label ?_ | refine awp_skip ?_ | refine awp_exit ?_ | refine awp_cd ?_ | refine awp_ret ?_ | refine go_split (fun _h => ?_) (fun _h => ?_)) <;> try simp (maxSteps := 4000000) only [go_sem, seval, hs2, hs1])
    | (intro _h)
    | (refine awp_block ?_)
    | (refine awp_scope ?_)
    | (refine cond_b (fun _h => ?_) (fun _h => ?_))
    | (show heapOK _ _ = true; kernel_rfl)
    | (show heapOK2 _ _ = true; kernel_rfl)
    | (omega)))
          all_goals trace_state
        · subst hj1
          have hsb2 := hsb b.homes.length (Nat.le_refl _)
          generalize safeL opens b.homes b.homes.length = safe at *
          simp only [townC, slH, slL, sl, slB, busC]; simp (maxSteps := 4000000) only [go_sem, seval]
          (repeat' (first
    | ((exfalso; omega))
    | (refine awp_seqK ?_)
    | (refine kt ?_)
    | (refine And.intro ?_ ?_)
    | ((first | refine awp_region ?_ | refine awp_draw (by kernel_rfl) (by kernel_rfl) ?_ | refine Imp.le2 ?_ | refine awp_label ?_ | refine awp_skip ?_ | refine awp_exit ?_ | refine awp_cd ?_ | refine awp_ret ?_ | refine go_split (fun _h => ?_) (fun _h => ?_)) <;> try simp (maxSteps := 4000000) only [go_sem, seval])
    | (intro _h)
    | (refine awp_block ?_)
    | (refine awp_scope ?_)
    | (refine cond_b (fun _h => ?_) (fun _h => ?_))
    | (show heapOK _ _ = true; kernel_rfl)
    | (show heapOK2 _ _ = true; kernel_rfl)
    | (omega)))
          refine awp_loopN b.homes.length (fun j => ⟨mkT 79 [(1, slB P), (2, sl opens), (3, .ptr 0 0 0), (7, .osl 1 0 0 t.homes.length), (8, .int .i64 k), (9, .ptr 2 0 0), (10, .int .i64 safe), (12, .int .i64 j)], [some (.cells 27 1 0 (townC t)), some (.cells 3 1 0 (ints (outB t b safe O j))), some (.cells 49 1 0 (busC b))], []⟩) (.le2 ?_) ?_
          · simp only [townC, slH, slL, sl, slB, busC, outB]; simp (maxSteps := 4000000) only [go_sem, seval]
            try (first | rfl | exact ⟨rfl, rfl⟩)
          · intro j hj
            have hol := outB_length (t := t) (safe := safe) hlk hbh j hj
            rcases Nat.lt_or_eq_of_le hj with hj1 | hj1
            · have hx := hbh _ (getD_mem (d := 0) hj1)
              have hwk := (ht.home (b.homes.getD j 0).toNat (by omega)).walk
              have hs1 : outB t b safe O (j + 1) = isp (outB t b safe O j) (b.homes.getD j 0).toNat (safe + (t.halls.getD b.hall.toNat default).drive + (t.homes.getD (b.homes.getD j 0).toNat default).walk) := rfl
              rw [hs1]
              simp only [townC, slH, slL, sl, slB, busC]; simp (maxSteps := 4000000) only [go_sem, seval]
              (repeat' (first
    | ((exfalso; omega))
    | ((omega))
    | (refine awp_seqK ?_)
    | (refine kt ?_)
    | (refine And.intro ?_ ?_)
    | ((first | refine awp_region ?_ | refine awp_draw (by kernel_rfl) (by kernel_rfl) ?_ | refine Imp.le2 ?_ | refine awp_label ?_ | refine awp_skip ?_ | refine awp_exit ?_ | refine awp_cd ?_ | refine awp_ret ?_ | refine go_split (fun _h => ?_) (fun _h => ?_)) <;> try simp (maxSteps := 4000000) only [go_sem, seval, hol])
    | (intro _h)
    | (refine awp_block ?_)
    | (refine awp_scope ?_)
    | (refine cond_b (fun _h => ?_) (fun _h => ?_))
    | (show heapOK _ _ = true; kernel_rfl)
    | (show heapOK2 _ _ = true; kernel_rfl)
    | (omega)))
              all_goals trace_state
            · subst hj1
              simp only [townC, slH, slL, sl, slB, busC]; simp (maxSteps := 4000000) only [go_sem, seval]
              (repeat' (first
    | ((exfalso; omega))
    | ((omega))
    | (refine awp_seqK ?_)
    | (refine kt ?_)
    | (refine And.intro ?_ ?_)
    | ((first | refine awp_region ?_ | refine awp_draw (by kernel_rfl) (by kernel_rfl) ?_ | refine Imp.le2 ?_ | refine awp_label ?_ | refine awp_skip ?_ | refine awp_exit ?_ | refine awp_cd ?_ | refine awp_ret ?_ | refine go_split (fun _h => ?_) (fun _h => ?_)) <;> try simp (maxSteps := 4000000) only [go_sem, seval, hol])
    | (intro _h)
    | (refine awp_block ?_)
    | (refine awp_scope ?_)
    | (refine cond_b (fun _h => ?_) (fun _h => ?_))
    | (show heapOK _ _ = true; kernel_rfl)
    | (show heapOK2 _ _ = true; kernel_rfl)
    | (omega)))
              all_goals trace_state
    · subst hk1
      simp only [townC, slH, slL, sl, slB, busC]; simp (maxSteps := 4000000) only [go_sem, seval]
      (repeat' (first
    | ((exfalso; omega))
    | (refine awp_seqK ?_)
    | (refine kt ?_)
    | (refine And.intro ?_ ?_)
    | ((first | refine awp_region ?_ | refine awp_draw (by kernel_rfl) (by kernel_rfl) ?_ | refine Imp.le2 ?_ | refine awp_label ?_ | refine awp_skip ?_ | refine awp_exit ?_ | refine awp_cd ?_ | refine awp_ret ?_ | refine go_split (fun _h => ?_) (fun _h => ?_)) <;> try simp (maxSteps := 4000000) only [go_sem, seval, hlk])
    | (intro _h)
    | (refine awp_block ?_)
    | (refine awp_scope ?_)
    | (refine cond_b (fun _h => ?_) (fun _h => ?_))
    | (show heapOK _ _ = true; kernel_rfl)
    | (show heapOK2 _ _ = true; kernel_rfl)
    | (omega)))
      all_goals trace_state
end Go.Am

/- Contracts of the away functions: whether a plan is right, by the reference. -/
namespace Go.Am
open Go.RowKit Go.Proofs
set_option linter.unusedSimpArgs false
set_option linter.unusedVariables false

def cntN (P : List Bus) (k h : Nat) : Int := sumN (fun j => if (h : Int) ∈ (P.getD j default).homes then 1 else 0) k
def roomN (t : Town) (P : List Bus) (k i : Nat) : Int := sumN (fun j => if (P.getD j default).hall.toNat = i then ppl t (P.getD j default).homes else 0) k
structure RefR (t : Town) (P : List Bus) : Prop where
  len : P.length ≤ 8
  one : ∀ j, j < P.length → OneP t (P.getD j default)
  cnt : ∀ h, h < t.homes.length → cntN P P.length h = 1
  roo : ∀ i, i < t.halls.length → roomN t P P.length i ≤ (t.halls.getD i default).room
theorem rise_pw {l : List Int} (h : riseB l) : l.Pairwise (· < ·) := by
  rw [List.pairwise_iff_getElem]
  intro i j hi hj hij
  have key : ∀ d, i + d + 1 < l.length → l.getD i 0 < l.getD (i + d + 1) 0 := by
    intro d
    induction d with
    | zero => intro h1; have := h (i + 0 + 1) (by omega) h1; simpa using this
    | succ d ih =>
      intro h1
      have h2 := ih (by omega)
      have h3 := h (i + (d + 1) + 1) (by omega) h1
      rw [show i + (d + 1) + 1 - 1 = i + d + 1 by omega] at h3
      omega
  have := key (j - i - 1) (by omega)
  rw [show i + (j - i - 1) + 1 = j by omega] at this
  simpa [List.getD_eq_getElem?_getD, hi, hj] using this
theorem rise_le {t : Town} {b : Bus} (h : OneP t b) : b.homes.length ≤ t.homes.length := nodup_le _ _ ((rise_pw h.2).imp (fun h => by omega)) h.1.homes
theorem sumN_two {f : Nat → Int} {n a b : Nat} (hf : ∀ i, i < n → 0 ≤ f i) (ha : a < b) (hb : b < n) : f a + f b ≤ sumN f n := by
  have e : sumN (fun i => (if i = a then f a else 0) + (if i = b then f b else 0)) n ≤ sumN f n := sumN_le fun i hi => by
    by_cases h1 : i = a
    · subst h1
      rw [if_pos rfl, if_neg (by omega)]; omega
    · rw [if_neg h1]
      by_cases h2 : i = b
      · subst h2; rw [if_pos rfl]; omega
      · rw [if_neg h2]; have := hf i hi; omega
  rw [sumN_add, sumN_pick, sumN_pick, if_pos (by omega), if_pos hb] at e
  exact e
theorem refR_run {t : Town} {P : List Bus} (ht : TownOK t) (h : RefR t P) : ∀ k, k ≤ P.length → ∃ S, runN t P k = some S
  | 0, _ => ⟨_, rfl⟩
  | k + 1, hk => by
    obtain ⟨⟨I, R⟩, hS⟩ := refR_run ht h k (by omega)
    have hI := runI ht k _ hS
    obtain ⟨l1, l2, l3⟩ := runN_length ht k _ hS
    have ho := h.one k (by omega)
    have hf : ∀ x ∈ (P.getD k default).homes, I.getD x.toNat false = false := fun x hx => by
      have h1 := ho.1.homes x hx
      cases e : I.getD x.toNat false
      · rfl
      · obtain ⟨j, hj, hm⟩ := (hI.mark x.toNat (by omega)).1 e
        have h2 := sumN_two (f := fun j => if ((x.toNat : Nat) : Int) ∈ (P.getD j default).homes then 1 else 0) (n := P.length) (a := j) (b := k) (fun i _ => by split <;> omega) hj (by omega)
        rw [show ((x.toNat : Nat) : Int) = x by omega] at hm h2
        simp only [hm, hx, if_true] at h2
        have h3 := h.cnt x.toNat (by omega)
        unfold cntN at h3
        rw [show ((x.toNat : Nat) : Int) = x by omega] at h3
        omega
    obtain ⟨J, hJ⟩ := mark_ok l1 ho.1.homes (rise_pw ho.2) hf _ (Nat.le_refl _)
    refine ⟨(J, isp R (P.getD k default).hall.toNat (R.getD (P.getD k default).hall.toNat 0 + ppl t (P.getD k default).homes)), ?_⟩
    simp only [runN, hS]
    unfold busN
    rw [if_pos ho.1]
    show (match markN (P.getD k default).homes I (P.getD k default).homes.length with | none => none | some J => some (J, isp R (P.getD k default).hall.toNat (R.getD (P.getD k default).hall.toNat 0 + ppl t (P.getD k default).homes))) = _
    rw [hJ]
theorem refR_iff {t : Town} {P : List Bus} (ht : TownOK t) : rightB t P = true ↔ RefR t P := by
  constructor
  · intro h
    obtain ⟨S, hS, h8, hroom, hall⟩ := rightB_some h
    have R := runI ht _ S hS
    obtain ⟨l1, l2, l3⟩ := runN_length ht _ S hS
    refine ⟨h8, fun j hj => ⟨(R.bus j hj).1, fun i h0 hi => ?_⟩, fun h hh => ?_, fun i hi => by have := hroom i hi; rw [R.room i hi] at this; exact this⟩
    · have hpre : ∀ k, k ≤ P.length → ∃ S, runN t P k = some S := by
        intro k hk
        cases hr : runN t P k with
        | some S => exact ⟨S, rfl⟩
        | none =>
          have : ∀ d, runN t P (k + d) = none := fun d => by
            induction d with
            | zero => exact hr
            | succ d ih => rw [← Nat.add_assoc]; simp only [runN, ih]
          have h9 := this (P.length - k)
          rw [show k + (P.length - k) = P.length by omega, hS] at h9
          cases h9
      obtain ⟨⟨I, Rr⟩, hSj⟩ := hpre j (by omega)
      obtain ⟨hG, J, hJ, _⟩ := runN_pre hS hj hSj
      have hmk : ∀ k, k ≤ (P.getD j default).homes.length → ∃ J', markN (P.getD j default).homes I k = some J' := by
        intro k hk
        cases hr : markN (P.getD j default).homes I k with
        | some S => exact ⟨S, rfl⟩
        | none =>
          have : ∀ d, markN (P.getD j default).homes I (k + d) = none := fun d => by
            induction d with
            | zero => exact hr
            | succ d ih => rw [← Nat.add_assoc]; simp only [markN, ih]
          have h9 := this ((P.getD j default).homes.length - k)
          rw [show k + ((P.getD j default).homes.length - k) = (P.getD j default).homes.length by omega, hJ] at h9
          cases h9
      obtain ⟨J', hJ'⟩ := hmk i (by omega)
      exact (markN_pre hJ hi hJ').2.2 h0
    · have hm : ∃ j, j < P.length ∧ (h : Int) ∈ (P.getD j default).homes := by
        refine (R.mark h hh).1 ?_
        rw [List.any_eq_false] at hall
        have := hall _ (getD_mem (d := false) (i := h) (by omega))
        simpa using this
      obtain ⟨j0, hj0, hm⟩ := hm
      unfold cntN
      have e : sumN (fun j => if (h : Int) ∈ (P.getD j default).homes then 1 else 0) P.length = sumN (fun j => if j = j0 then 1 else 0) P.length := by
        refine sumN_congr fun j hj => ?_
        by_cases e1 : j = j0
        · subst e1; rw [if_pos hm, if_pos rfl]
        · rw [if_neg e1, if_neg]
          intro hm2
          rcases Nat.lt_or_gt_of_ne e1 with h1 | h1
          · exact R.once _ _ h1 hj0 _ hm2 hm
          · exact R.once _ _ h1 hj _ hm hm2
      rw [e, sumN_pick, if_pos hj0]
  · intro h
    obtain ⟨⟨I, Rr⟩, hS⟩ := refR_run ht h P.length (Nat.le_refl _)
    have R := runI ht _ _ hS
    obtain ⟨l1, l2, l3⟩ := runN_length ht _ _ hS
    unfold rightB
    rw [hS]
    simp only [Bool.and_eq_true, decide_eq_true_eq, Bool.not_eq_true']
    refine ⟨⟨h.len, fun i hi => ?_⟩, ?_⟩
    · have := h.roo i hi
      rw [R.room i hi]; exact this
    · rw [List.any_eq_false]
      intro x hx
      obtain ⟨i, hi, rfl⟩ := mem_getD (d := false) hx
      have hc := h.cnt i (by simp only at l1; omega)
      cases e : I.getD i false
      · exfalso
        have hz : cntN P P.length i = 0 := by
          unfold cntN
          rw [sumN_congr (g := fun _ => 0), sumN_zero]
          intro j hj
          rw [if_neg]
          intro hm
          have := (R.mark i (by simp only at l1; omega)).2 ⟨j, hj, hm⟩
          simp only at this
          rw [e] at this; cases this
        omega
      · simp
end Go.Am

/- Contracts of the away functions: the reference's Right, walked. -/
namespace Go.Am
open Go.RowKit Go.Proofs
attribute [local irreducible] AWP CallS Kt goK CallK stepK evOps SemF SemY Imp
set_option maxRecDepth 4000
set_option linter.unusedSimpArgs false
set_option linter.unusedVariables false
set_option maxHeartbeats 3200000

def inJ (c : Nat → Int) (l : List Int) (n j : Nat) : List Int := tab n fun h => c h + (if (h : Int) ∈ l.take j then 1 else 0)
def roJ (t : Town) (c : Nat → Int) (b : Bus) (n j : Nat) : List Int := tab n fun i => c i + (if b.hall.toNat = i then pplL t b.homes j else 0)
theorem inJ_zero {c : Nat → Int} {l : List Int} {n : Nat} : inJ c l n 0 = tab n c := tab_congr fun h _ => by simp
theorem inJ_all {P : List Bus} {n k : Nat} : inJ (cntN P k) (P.getD k default).homes n (P.getD k default).homes.length = tab n (cntN P (k + 1)) := tab_congr fun h _ => by rw [List.take_length]; rfl
theorem roJ_zero {t : Town} {c : Nat → Int} {b : Bus} {n : Nat} : roJ t c b n 0 = tab n c := tab_congr fun h _ => by simp [pplL]
theorem roJ_all {t : Town} {P : List Bus} {n k : Nat} : roJ t (roomN t P k) (P.getD k default) n (P.getD k default).homes.length = tab n (roomN t P (k + 1)) := tab_congr fun h _ => rfl
theorem inJ_step {c : Nat → Int} {l : List Int} {n j : Nat} (hj : j < l.length) (hnd : l.Nodup) (hx : 0 ≤ l.getD j 0 ∧ l.getD j 0 < n) :
    (inJ c l n j).getD (l.getD j 0).toNat 0 = c (l.getD j 0).toNat ∧ isp (inJ c l n j) (l.getD j 0).toNat (c (l.getD j 0).toNat + 1) = inJ c l n (j + 1) := by
  have e0 : ((l.getD j 0).toNat : Int) = l.getD j 0 := by omega
  have hni : l.getD j 0 ∉ l.take j := fun hm => by
    obtain ⟨i, hi, e⟩ := mem_getD (d := 0) hm
    have hi2 : i < j := by simp at hi; omega
    rw [getD_take hi2] at e
    have h1 := List.pairwise_iff_getElem.1 hnd i j (by omega) hj hi2
    have e1 : l[i]'(by omega) = l[j] := by
      simpa [List.getD_eq_getElem?_getD, hj, show i < l.length by omega] using e
    exact h1 e1
  constructor
  · unfold inJ
    rw [tab_getD (by omega), e0, if_neg hni]; omega
  · unfold inJ
    rw [isp_tab (by omega)]
    refine tab_congr fun h hh => ?_
    rw [take_snoc (d := 0) hj]
    by_cases e : h = (l.getD j 0).toNat
    · rw [if_pos e, if_pos (List.mem_append.2 (.inr (by rw [List.mem_singleton, e]; exact e0))), e]
    · rw [if_neg e]
      have : ((h : Int) ∈ l.take j ++ [l.getD j 0]) ↔ (h : Int) ∈ l.take j := by
        rw [List.mem_append, List.mem_singleton]
        constructor
        · rintro (h6 | h6)
          · exact h6
          · exact absurd (show h = (l.getD j 0).toNat by omega) e
        · exact .inl
      by_cases e2 : (h : Int) ∈ l.take j
      · rw [if_pos e2, if_pos (this.2 e2)]
      · rw [if_neg e2, if_neg (fun h9 => e2 (this.1 h9))]
theorem roJ_step {t : Town} {c : Nat → Int} {b : Bus} {n j : Nat} (hh : 0 ≤ b.hall ∧ b.hall < n) : (roJ t c b n j).getD b.hall.toNat 0 = c b.hall.toNat + pplL t b.homes j ∧ isp (roJ t c b n j) b.hall.toNat (c b.hall.toNat + pplL t b.homes j + (t.homes.getD (b.homes.getD j 0).toNat default).people) = roJ t c b n (j + 1) := by
  constructor
  · unfold roJ; rw [tab_getD (by omega), if_pos rfl]
  · unfold roJ
    rw [isp_tab (by omega)]
    refine tab_congr fun h hh => ?_
    by_cases e : h = b.hall.toNat
    · subst e; rw [if_pos rfl, if_pos rfl]; simp only [pplL]; omega
    · rw [if_neg e, if_neg (Ne.symm e), if_neg (Ne.symm e)]
theorem cntN_bd {P : List Bus} {h : Nat} : ∀ k, 0 ≤ cntN P k h ∧ cntN P k h ≤ k
  | 0 => by simp [cntN, sumN]
  | k + 1 => by
    have := cntN_bd (P := P) (h := h) k
    simp only [cntN, sumN] at this ⊢
    split <;> omega
theorem roomN_bd {t : Town} {P : List Bus} (ht : TownOK t) {i : Nat} : ∀ k, (∀ j, j < k → OneP t (P.getD j default)) → 0 ≤ roomN t P k i ∧ roomN t P k i ≤ 200 * k
  | 0, _ => by simp [roomN, sumN]
  | k + 1, h => by
    have h1 := roomN_bd (t := t) (P := P) ht (i := i) k (fun j hj => h j (by omega))
    have h2 := (h k (by omega)).1
    have h3 := pplL_bd ht h2.homes _ (Nat.le_refl _)
    have h4 : 0 ≤ ppl t (P.getD k default).homes := h3.1
    have h5 := h2.may
    simp only [mayB, Bool.and_eq_true, decide_eq_true_eq] at h5
    have h6 := ht.seats
    simp only [roomN, sumN] at h1 ⊢
    split <;> omega
theorem rRight_c (t : Town) (P : List Bus) (ht : TownOK t) (hp : PlanS P) : CallS Try.prog 28 [.agg (townC t), slB P, .int .i64 t.homes.length] (.bool (rightB t P)) := by
  have hln := ht.homes
  have hhl := ht.halls
  have hyes : RefR t P → true = rightB t P := fun h => ((refR_iff ht).2 h).symm
  have hno : ¬ RefR t P → false = rightB t P := fun h => by
    cases e : rightB t P
    · rfl
    · exact absurd ((refR_iff ht).1 e) h
  generalize rightB t P = r at *
  by_cases h8 : P.length ≤ 8
  · have e8 : (8 < (P.length : Int)) = False := eq_false (by omega)
    simp only [townC, slH, slL, sl, slB]
    (refine callS_of_awp (fun w args => Try.call28 ..) Try.func28 rfl (fun w0 m0 wz => ?_); simp only [Try.ntmps28, Try.results28, initT, junks, homeC, hallC, slH, slL, townC, sl, List.toList_toArray, List.cons_append, List.nil_append, List.length_cons, List.length_nil, Nat.reduceAdd, Nat.reduceSub])
    (repeat' (first
    | (refine awp_seqK ?_)
    | (refine kt ?_)
    | (refine And.intro ?_ ?_)
    | ((first | refine awp_region ?_ | refine awp_draw (by kernel_rfl) (by kernel_rfl) ?_ | refine Imp.le2 ?_ | refine awp_label ?_ | refine awp_skip ?_ | refine awp_exit ?_ | refine awp_cd ?_ | refine awp_ret ?_ | refine go_split (fun _h => ?_) (fun _h => ?_)) <;> try simp (maxSteps := 4000000) only [go_sem, seval, e8, decide_false, ↓rep_ints])
    | (intro _h)
    | (refine awp_block ?_)
    | (refine awp_scope ?_)
    | (refine cond_b (fun _h => ?_) (fun _h => ?_))
    | (show heapOK _ _ = true; kernel_rfl)
    | (show heapOK2 _ _ = true; kernel_rfl)
    | (omega)))
    refine awp_loopJ (fun k : Nat => k ≤ P.length ∧ ∀ j, j < k → OneP t (P.getD j default)) (fun k => ⟨mkT 128 [(1, slB P), (2, .int .i64 t.homes.length), (3, .ptr 0 0 0), (7, .osl 1 0 0 t.homes.length), (8, .osl 2 0 0 t.halls.length), (9, .int .i64 k)], [some (.cells 27 1 0 (townC t)), some (.cells 3 1 0 (ints (tab t.homes.length (cntN P k)))), some (.cells 3 1 0 (ints (tab t.halls.length (roomN t P k))))], []⟩) (fun k => P.length - k) 0 ⟨Nat.zero_le _, fun j hj => by omega⟩ (.le2 ?_) ?_
    · have z1 : tab t.homes.length (cntN P 0) = tab t.homes.length fun _ => 0 := tab_congr fun _ _ => rfl
      have z2 : tab t.halls.length (roomN t P 0) = tab t.halls.length fun _ => 0 := tab_congr fun _ _ => rfl
      rw [z1, z2]
      simp only [townC, slH, slL, sl, slB]; simp (maxSteps := 4000000) only [go_sem, seval]
      try (first | rfl | exact ⟨rfl, rfl⟩)
    · rintro k ⟨hk, hj⟩
      rcases Nat.lt_or_eq_of_le hk with hk1 | hk1
      · have hbl := hp.2 _ (getD_mem (d := default) hk1)
        have hon := one_c t (P.getD k default) ht hbl
        have a1 := inJ_all (P := P) (n := t.homes.length) (k := k)
        have a2 := roJ_all (t := t) (P := P) (n := t.halls.length) (k := k)
        have hrb := fun i => roomN_bd (t := t) (P := P) ht (i := i) k hj
        have hcb := fun h => cntN_bd (P := P) (h := h) k
        have hstep : OneP t (P.getD k default) → ∀ j, j < k + 1 → OneP t (P.getD j default) := fun h j hji => by
          rcases Nat.lt_succ_iff_lt_or_eq.1 hji with h1 | rfl
          · exact hj j h1
          · exact h
        have hR1 : RefR t P → OneP t (P.getD k default) := fun h => h.one k hk1
        obtain ⟨b, hb2⟩ : ∃ b, P.getD k default = b := ⟨_, rfl⟩
        rw [hb2] at hbl hon a1 a2 hstep hR1
        simp only [townC, slH, slL, sl, busC] at hon
        by_cases hO : OneP t b
        · rw [← one_yes hO] at hon
          have hbh := hO.1.homes
          have hhall := hO.1.hall
          have hnd := (rise_pw hO.2).imp (R := (· < ·)) (S := (· ≠ ·)) (fun h => by omega)
          have hle := rise_le hO
          simp only [townC, slH, slL, sl, slB]; simp (maxSteps := 4000000) only [go_sem, seval]
          (repeat' (first
    | ((exfalso; omega))
    | (refine awp_seqK ?_)
    | (refine kt ?_)
    | (refine And.intro ?_ ?_)
    | ((first | refine awp_region ?_ | refine awp_draw (by kernel_rfl) (by kernel_rfl) ?_ | refine Imp.le2 ?_ | refine awp_label ?_ | refine awp_skip ?_ | refine awp_exit ?_ | refine awp_cd ?_ | refine awp_ret ?_ | refine callK_of (hon) ?_ | refine go_split (fun _h => ?_) (fun _h => ?_)) <;> try simp (maxSteps := 4000000) only [go_sem, seval, hb2, busC, sl])
    | (intro _h)
    | (refine awp_block ?_)
    | (refine awp_scope ?_)
    | (refine cond_b (fun _h => ?_) (fun _h => ?_))
    | (show heapOK _ _ = true; kernel_rfl)
    | (show heapOK2 _ _ = true; kernel_rfl)
    | (omega)))
          refine awp_loopN b.homes.length (fun j => ⟨mkT 128 [(1, slB P), (2, .int .i64 t.homes.length), (3, .ptr 0 0 0), (7, .osl 1 0 0 t.homes.length), (8, .osl 2 0 0 t.halls.length), (9, .int .i64 k), (10, .int .i64 j)], [some (.cells 27 1 0 (townC t)), some (.cells 3 1 0 (ints (inJ (cntN P k) b.homes t.homes.length j))), some (.cells 3 1 0 (ints (roJ t (roomN t P k) b t.halls.length j)))], []⟩) (.le2 ?_) ?_
          · rw [inJ_zero, roJ_zero]
            simp only [townC, slH, slL, sl, slB]; simp (maxSteps := 4000000) only [go_sem, seval]
            try (first | rfl | exact ⟨rfl, rfl⟩)
          · intro j hj2
            have il : (inJ (cntN P k) b.homes t.homes.length j).length = t.homes.length := tab_length
            have rl : (roJ t (roomN t P k) b t.halls.length j).length = t.halls.length := tab_length
            rcases Nat.lt_or_eq_of_le hj2 with hj3 | hj3
            · have hx := hbh _ (getD_mem (d := 0) hj3)
              have hpo := (ht.home (b.homes.getD j 0).toNat (by omega)).people
              obtain ⟨s1, s2⟩ := inJ_step (c := cntN P k) (n := t.homes.length) hj3 hnd hx
              obtain ⟨s3, s4⟩ := roJ_step (t := t) (c := roomN t P k) (b := b) (n := t.halls.length) (j := j) (by omega)
              have hpb := pplL_bd ht hbh j hj2
              have hrk := hrb b.hall.toNat
              have hck := hcb (b.homes.getD j 0).toNat
              simp only [townC, slH, slL, sl, slB]; simp (maxSteps := 4000000) only [go_sem, seval]
              (repeat' (first
    | ((exfalso; omega))
    | ((omega))
    | (refine awp_seqK ?_)
    | (refine kt ?_)
    | (refine And.intro ?_ ?_)
    | ((first | refine awp_region ?_ | refine awp_draw (by kernel_rfl) (by kernel_rfl) ?_ | refine Imp.le2 ?_ | refine awp_label ?_ | refine awp_skip ?_ | refine awp_exit ?_ | refine awp_cd ?_ | refine awp_ret ?_ | refine go_split (fun _h => ?_) (fun _h => ?_)) <;> try simp (maxSteps := 4000000) only [go_sem, seval, hb2, sl, s1, s2, s3, s4, il, rl])
    | (intro _h)
    | (refine awp_block ?_)
    | (refine awp_scope ?_)
    | (refine cond_b (fun _h => ?_) (fun _h => ?_))
    | (show heapOK _ _ = true; kernel_rfl)
    | (show heapOK2 _ _ = true; kernel_rfl)
    | (omega)))
              all_goals trace_state
            · subst hj3
              rw [a1, a2]
              simp only [townC, slH, slL, sl, slB]; simp (maxSteps := 4000000) only [go_sem, seval]
              (repeat' (first
    | ((exfalso; omega))
    | (refine awp_seqK ?_)
    | (refine kt ?_)
    | (refine And.intro ?_ ?_)
    | ((first | refine awp_region ?_ | refine awp_draw (by kernel_rfl) (by kernel_rfl) ?_ | refine Imp.le2 ?_ | refine awp_label ?_ | refine awp_skip ?_ | refine awp_exit ?_ | refine awp_cd ?_ | refine awp_ret ?_ | refine go_split (fun _h => ?_) (fun _h => ?_)) <;> try simp (maxSteps := 4000000) only [go_sem, seval, hb2, sl])
    | (intro _h)
    | (refine awp_block ?_)
    | (refine awp_scope ?_)
    | (refine cond_b (fun _h => ?_) (fun _h => ?_))
    | (show heapOK _ _ = true; kernel_rfl)
    | (show heapOK2 _ _ = true; kernel_rfl)
    | (omega)))
              refine ⟨k + 1, ⟨by omega, hstep hO⟩, by omega, .le2 ?_⟩
              (try simp only [townC, slH, slL, sl, slB]); simp (maxSteps := 4000000) only [go_sem, seval]
              try (first | rfl | exact ⟨rfl, rfl⟩)
        · rw [← one_no hO] at hon
          rw [← hno (fun h => hO (hR1 h))]
          simp only [townC, slH, slL, sl, slB]; simp (maxSteps := 4000000) only [go_sem, seval]
          (repeat' (first
    | ((exfalso; omega))
    | (refine awp_seqK ?_)
    | (refine kt ?_)
    | (refine And.intro ?_ ?_)
    | ((first | refine awp_region ?_ | refine awp_draw (by kernel_rfl) (by kernel_rfl) ?_ | refine Imp.le2 ?_ | refine awp_label ?_ | refine awp_skip ?_ | refine awp_exit ?_ | refine awp_cd ?_ | refine awp_ret ?_ | refine callK_of (hon) ?_ | refine go_split (fun _h => ?_) (fun _h => ?_)) <;> try simp (maxSteps := 4000000) only [go_sem, seval, hb2, busC, sl])
    | (intro _h)
    | (refine awp_block ?_)
    | (refine awp_scope ?_)
    | (refine cond_b (fun _h => ?_) (fun _h => ?_))
    | (show heapOK _ _ = true; kernel_rfl)
    | (show heapOK2 _ _ = true; kernel_rfl)
    | (omega)))
      · subst hk1
        have hcl : (tab t.homes.length (cntN P P.length)).length = t.homes.length := tab_length
        have hrl : (tab t.halls.length (roomN t P P.length)).length = t.halls.length := tab_length
        simp only [townC, slH, slL, sl, slB]; simp (maxSteps := 4000000) only [go_sem, seval]
        (repeat' (first
    | ((exfalso; omega))
    | (refine awp_seqK ?_)
    | (refine kt ?_)
    | (refine And.intro ?_ ?_)
    | ((first | refine awp_region ?_ | refine awp_draw (by kernel_rfl) (by kernel_rfl) ?_ | refine Imp.le2 ?_ | refine awp_label ?_ | refine awp_skip ?_ | refine awp_exit ?_ | refine awp_cd ?_ | refine awp_ret ?_ | refine go_split (fun _h => ?_) (fun _h => ?_)) <;> try simp (maxSteps := 4000000) only [go_sem, seval])
    | (intro _h)
    | (refine awp_block ?_)
    | (refine awp_scope ?_)
    | (refine cond_b (fun _h => ?_) (fun _h => ?_))
    | (show heapOK _ _ = true; kernel_rfl)
    | (show heapOK2 _ _ = true; kernel_rfl)
    | (omega)))
        refine awp_loopJ (fun h : Nat => h ≤ t.homes.length ∧ ∀ j, j < h → cntN P P.length j = 1) (fun h => ⟨mkT 128 [(2, .int .i64 t.homes.length), (3, .ptr 0 0 0), (7, .osl 1 0 0 t.homes.length), (8, .osl 2 0 0 t.halls.length), (11, .int .i64 h)], [some (.cells 27 1 0 (townC t)), some (.cells 3 1 0 (ints (tab t.homes.length (cntN P P.length)))), some (.cells 3 1 0 (ints (tab t.halls.length (roomN t P P.length))))], []⟩) (fun h => t.homes.length - h) 0 ⟨Nat.zero_le _, fun j hj => by omega⟩ (.le2 ?_) ?_
        · simp only [townC, slH, slL, sl, slB]; simp (maxSteps := 4000000) only [go_sem, seval]
          try (first | rfl | exact ⟨rfl, rfl⟩)
        · rintro h ⟨hh, hc⟩
          rcases Nat.lt_or_eq_of_le hh with hh1 | hh1
          · have hv : (tab t.homes.length (cntN P P.length)).getD h 0 = cntN P P.length h := tab_getD hh1
            have f1 : ((h : Int) < t.homes.length) = True := eq_true (by omega)
            have f2 : ((t.homes.length : Int) ≤ h) = False := eq_false (by omega)
            by_cases hc1 : cntN P P.length h = 1
            · have f3 : (cntN P P.length h = 1) = True := eq_true hc1
              simp only [townC, slH, slL, sl, slB]; simp (maxSteps := 4000000) only [go_sem, seval]
              (repeat' (first
    | ((exfalso; omega))
    | ((omega))
    | (refine awp_seqK ?_)
    | (refine kt ?_)
    | (refine And.intro ?_ ?_)
    | ((first | refine awp_region ?_ | refine awp_draw (by kernel_rfl) (by kernel_rfl) ?_ | refine Imp.le2 ?_ | refine awp_label ?_ | refine awp_skip ?_ | refine awp_exit ?_ | refine awp_cd ?_ | refine awp_ret ?_ | refine go_split (fun _h => ?_) (fun _h => ?_)) <;> try simp (maxSteps := 4000000) only [go_sem, seval, hcl, hv, f1, f2, f3, decide_true, decide_false, Bool.not_true])
    | (intro _h)
    | (refine awp_block ?_)
    | (refine awp_scope ?_)
    | (refine cond_b (fun _h => ?_) (fun _h => ?_))
    | (show heapOK _ _ = true; kernel_rfl)
    | (show heapOK2 _ _ = true; kernel_rfl)
    | (omega)))
              refine ⟨h + 1, ⟨by omega, fun j hji => ?_⟩, by omega, .le2 ?_⟩
              · rcases Nat.lt_succ_iff_lt_or_eq.1 hji with h1 | rfl
                · exact hc j h1
                · exact hc1
              · (try simp only [townC, slH, slL, sl, slB]); simp (maxSteps := 4000000) only [go_sem, seval]
                try (first | rfl | exact ⟨rfl, rfl⟩)
            · have f3 : (cntN P P.length h = 1) = False := eq_false hc1
              rw [← hno (fun hr => hc1 (hr.cnt h hh1))]
              simp only [townC, slH, slL, sl, slB]; simp (maxSteps := 4000000) only [go_sem, seval]
              (repeat' (first
    | ((exfalso; omega))
    | ((omega))
    | (refine awp_seqK ?_)
    | (refine kt ?_)
    | (refine And.intro ?_ ?_)
    | ((first | refine awp_region ?_ | refine awp_draw (by kernel_rfl) (by kernel_rfl) ?_ | refine Imp.le2 ?_ | refine awp_label ?_ | refine awp_skip ?_ | refine awp_exit ?_ | refine awp_cd ?_ | refine awp_ret ?_ | refine go_split (fun _h => ?_) (fun _h => ?_)) <;> try simp (maxSteps := 4000000) only [go_sem, seval, hcl, hv, f1, f2, f3, decide_true, decide_false, Bool.not_false])
    | (intro _h)
    | (refine awp_block ?_)
    | (refine awp_scope ?_)
    | (refine cond_b (fun _h => ?_) (fun _h => ?_))
    | (show heapOK _ _ = true; kernel_rfl)
    | (show heapOK2 _ _ = true; kernel_rfl)
    | (omega)))
          · subst hh1
            simp only [townC, slH, slL, sl, slB]; simp (maxSteps := 4000000) only [go_sem, seval]
            (repeat' (first
    | ((exfalso; omega))
    | ((omega))
    | (refine awp_seqK ?_)
    | (refine kt ?_)
    | (refine And.intro ?_ ?_)
    | ((first | refine awp_region ?_ | refine awp_draw (by kernel_rfl) (by kernel_rfl) ?_ | refine Imp.le2 ?_ | refine awp_label ?_ | refine awp_skip ?_ | refine awp_exit ?_ | refine awp_cd ?_ | refine awp_ret ?_ | refine go_split (fun _h => ?_) (fun _h => ?_)) <;> try simp (maxSteps := 4000000) only [go_sem, seval, hcl])
    | (intro _h)
    | (refine awp_block ?_)
    | (refine awp_scope ?_)
    | (refine cond_b (fun _h => ?_) (fun _h => ?_))
    | (show heapOK _ _ = true; kernel_rfl)
    | (show heapOK2 _ _ = true; kernel_rfl)
    | (omega)))
            refine awp_loopJ (fun i : Nat => i ≤ t.halls.length ∧ ∀ j, j < i → roomN t P P.length j ≤ (t.halls.getD j default).room) (fun i => ⟨mkT 128 [(2, .int .i64 t.homes.length), (3, .ptr 0 0 0), (8, .osl 2 0 0 t.halls.length), (12, .int .i64 i)], [some (.cells 27 1 0 (townC t)), none, some (.cells 3 1 0 (ints (tab t.halls.length (roomN t P P.length))))], []⟩) (fun i => t.halls.length - i) 0 ⟨Nat.zero_le _, fun j hj => by omega⟩ (.le2 ?_) ?_
            · simp only [townC, slH, slL, sl, slB]; simp (maxSteps := 4000000) only [go_sem, seval]
              try (first | rfl | exact ⟨rfl, rfl⟩)
            · rintro i ⟨hi, hr⟩
              rcases Nat.lt_or_eq_of_le hi with hi1 | hi1
              · have hv : (tab t.halls.length (roomN t P P.length)).getD i 0 = roomN t P P.length i := tab_getD hi1
                simp only [townC, slH, slL, sl, slB]; simp (maxSteps := 4000000) only [go_sem, seval]
                (repeat' (first
    | ((exfalso; omega))
    | ((omega))
    | (refine awp_seqK ?_)
    | (refine kt ?_)
    | (refine And.intro ?_ ?_)
    | ((first | refine awp_region ?_ | refine awp_draw (by kernel_rfl) (by kernel_rfl) ?_ | refine Imp.le2 ?_ | refine awp_label ?_ | refine awp_skip ?_ | refine awp_exit ?_ | refine awp_cd ?_ | refine awp_ret ?_ | refine go_split (fun _h => ?_) (fun _h => ?_)) <;> try simp (maxSteps := 4000000) only [go_sem, seval, hrl, hv])
    | (intro _h)
    | (refine awp_block ?_)
    | (refine awp_scope ?_)
    | (refine cond_b (fun _h => ?_) (fun _h => ?_))
    | (show heapOK _ _ = true; kernel_rfl)
    | (show heapOK2 _ _ = true; kernel_rfl)
    | (omega)))
                all_goals first
                  | exact hno (fun h => by have := h.roo i hi1; omega)
                  | exact (hno (fun h => by have := h.roo i hi1; omega)).symm
                  | (refine ⟨i + 1, ⟨by omega, fun j hji => ?_⟩, by omega, .le2 ?_⟩
                     · rcases Nat.lt_succ_iff_lt_or_eq.1 hji with h1 | rfl
                       · exact hr j h1
                       · omega
                     · (try simp only [townC, slH, slL, sl, slB]); simp (maxSteps := 4000000) only [go_sem, seval]
                       try (first | rfl | exact ⟨rfl, rfl⟩))
                  | trace_state
              · subst hi1
                rw [← hyes ⟨h8, hj, hc, hr⟩]
                simp only [townC, slH, slL, sl, slB]; simp (maxSteps := 4000000) only [go_sem, seval]
                (repeat' (first
    | ((exfalso; omega))
    | ((omega))
    | (refine awp_seqK ?_)
    | (refine kt ?_)
    | (refine And.intro ?_ ?_)
    | ((first | refine awp_region ?_ | refine awp_draw (by kernel_rfl) (by kernel_rfl) ?_ | refine Imp.le2 ?_ | refine awp_label ?_ | refine awp_skip ?_ | refine awp_exit ?_ | refine awp_cd ?_ | refine awp_ret ?_ | refine go_split (fun _h => ?_) (fun _h => ?_)) <;> try simp (maxSteps := 4000000) only [go_sem, seval, hrl])
    | (intro _h)
    | (refine awp_block ?_)
    | (refine awp_scope ?_)
    | (refine cond_b (fun _h => ?_) (fun _h => ?_))
    | (show heapOK _ _ = true; kernel_rfl)
    | (show heapOK2 _ _ = true; kernel_rfl)
    | (omega)))
                all_goals trace_state
  · rw [← hno (fun h => h8 h.len)]
    have e8 : (8 < (P.length : Int)) = True := eq_true (by omega)
    simp only [townC, slH, slL, sl, slB]
    (refine callS_of_awp (fun w args => Try.call28 ..) Try.func28 rfl (fun w0 m0 wz => ?_); simp only [Try.ntmps28, Try.results28, initT, junks, homeC, hallC, slH, slL, townC, sl, List.toList_toArray, List.cons_append, List.nil_append, List.length_cons, List.length_nil, Nat.reduceAdd, Nat.reduceSub])
    (repeat' (first
    | (refine awp_seqK ?_)
    | (refine kt ?_)
    | (refine And.intro ?_ ?_)
    | ((first | refine awp_region ?_ | refine awp_draw (by kernel_rfl) (by kernel_rfl) ?_ | refine Imp.le2 ?_ | refine awp_label ?_ | refine awp_skip ?_ | refine awp_exit ?_ | refine awp_cd ?_ | refine awp_ret ?_ | refine go_split (fun _h => ?_) (fun _h => ?_)) <;> try simp (maxSteps := 4000000) only [go_sem, seval, e8, decide_true])
    | (intro _h)
    | (refine awp_block ?_)
    | (refine awp_scope ?_)
    | (refine cond_b (fun _h => ?_) (fun _h => ?_))
    | (show heapOK _ _ = true; kernel_rfl)
    | (show heapOK2 _ _ = true; kernel_rfl)
    | (omega)))
end Go.Am

/- The law AwayReturns, as a contract: it returns true. -/
namespace Go.Am
open Go.RowKit Go.Proofs
attribute [local irreducible] AWP CallS Kt goK CallK stepK evOps SemF SemY Imp
set_option maxRecDepth 4000
set_option linter.unusedSimpArgs false
set_option linter.unusedVariables false
set_option maxHeartbeats 3200000

theorem planL_sh {t : Town} (h0 : faultT t = 0) : PlanS (planL t) := by
  have ht := faultT_zero h0
  refine ⟨by have := planF_le (t := t) 256 (stBeg t t.homes.length t.halls.length); unfold planL; omega, fun b hb => ?_⟩
  have := planF_short ht 256 _ (stBeg_ok ht (Nat.le_refl _)) b hb
  omega
theorem awayReturns_c (t : Town) (plan : List Bus) (own : Bool) (opens : List Int) : CallS Try.prog 8 [.agg (townC t), slB plan, .bool own, sl opens] (.bool true) := by
  have hth := thin_c t
  have hsh := short_c plan
  have hA := awake_c
  cases hR : thinB t with
  | false =>
    rw [hR] at hth
    simp only [slB, townC, slH, slL, sl] at hth ⊢
    (refine callS_of_awp (fun w args => Try.call8 ..) Try.func8 rfl (fun w0 m0 wz => ?_); simp only [Try.ntmps8, Try.results8, initT, junks, homeC, hallC, slH, slL, townC, sl, List.toList_toArray, List.cons_append, List.nil_append, List.length_cons, List.length_nil, Nat.reduceAdd, Nat.reduceSub])
    (repeat' (first
    | (refine awp_seqK ?_)
    | (refine kt ?_)
    | (refine And.intro ?_ ?_)
    | ((first | refine awp_region ?_ | refine awp_draw (by kernel_rfl) (by kernel_rfl) ?_ | refine Imp.le2 ?_ | refine awp_label ?_ | refine awp_skip ?_ | refine awp_exit ?_ | refine awp_cd ?_ | refine awp_ret ?_ | refine callK_of (hth) ?_ | refine callK_of (hA) ?_ | refine go_split (fun _h => ?_) (fun _h => ?_)) <;> try simp (maxSteps := 4000000) only [go_sem, seval])
    | (intro _h)
    | (refine awp_block ?_)
    | (refine awp_scope ?_)
    | (refine cond_b (fun _h => ?_) (fun _h => ?_))
    | (show heapOK _ _ = true; kernel_rfl)
    | (show heapOK2 _ _ = true; kernel_rfl)
    | (omega)))
  | true =>
    rw [hR] at hth
    cases hS : shortB plan with
    | false =>
      rw [hS] at hsh
      simp only [slB, townC, slH, slL, sl] at hth hsh ⊢
      (refine callS_of_awp (fun w args => Try.call8 ..) Try.func8 rfl (fun w0 m0 wz => ?_); simp only [Try.ntmps8, Try.results8, initT, junks, homeC, hallC, slH, slL, townC, sl, List.toList_toArray, List.cons_append, List.nil_append, List.length_cons, List.length_nil, Nat.reduceAdd, Nat.reduceSub])
      (repeat' (first
    | (refine awp_seqK ?_)
    | (refine kt ?_)
    | (refine And.intro ?_ ?_)
    | ((first | refine awp_region ?_ | refine awp_draw (by kernel_rfl) (by kernel_rfl) ?_ | refine Imp.le2 ?_ | refine awp_label ?_ | refine awp_skip ?_ | refine awp_exit ?_ | refine awp_cd ?_ | refine awp_ret ?_ | refine callK_of (hth) ?_ | refine callK_of (hsh) ?_ | refine callK_of (hA) ?_ | refine go_split (fun _h => ?_) (fun _h => ?_)) <;> try simp (maxSteps := 4000000) only [go_sem, seval])
    | (intro _h)
    | (refine awp_block ?_)
    | (refine awp_scope ?_)
    | (refine cond_b (fun _h => ?_) (fun _h => ?_))
    | (show heapOK _ _ = true; kernel_rfl)
    | (show heapOK2 _ _ = true; kernel_rfl)
    | (omega)))
    | true =>
      rw [hS] at hsh
      by_cases hL : opens.length ≤ 12
      · have eL : (12 < (opens.length : Int)) = False := eq_false (by omega)
        have hb := (thinB_ok hR).1
        obtain ⟨hP0, hP1, hP2⟩ := shortB_ok hS
        have hfa := fault_c t hb
        have hto := Town_c t hb
        have hpl := Plan_c t hb
        have hli := list_c opens (by omega)
        obtain ⟨P, hPS, hP⟩ : ∃ P : List Bus, PlanS P ∧ ((own = false ∧ P = plan) ∨ (own = true ∧ planE t = 0 ∧ P = planL t ∧ P.length ≤ 8) ∨ (own = true ∧ planE t ≠ 0 ∧ P = plan)) := by
          cases own
          · exact ⟨plan, hP0, .inl ⟨rfl, rfl⟩⟩
          · by_cases hE : planE t = 0
            · have h0 : faultT t = 0 := by
                unfold planE at hE
                by_cases h : faultT t = 0
                · exact h
                · rw [if_pos h] at hE; exact absurd hE h
              have hrp := (plan_right h0 hE).1
              obtain ⟨S, hSr, h8, _, _⟩ := rightB_some hrp
              exact ⟨planL t, planL_sh h0, .inr (.inl ⟨rfl, hE, rfl, h8⟩)⟩
            · exact ⟨plan, hP0, .inr (.inr ⟨rfl, hE, rfl⟩)⟩
        have hpt := planTo_c P hPS
        have hbk := back_c P hPS
        have hre := Return_c t P opens hb hPS (by omega)
        have hro := rOpened_c t opens hb (by omega)
        have hcase : (faultT t ≠ 0 ∧ retE t P opens = faultT t) ∨ (faultT t = 0 ∧ rightB t P = false ∧ retE t P opens = 9) ∨ (faultT t = 0 ∧ rightB t P = true ∧ ¬ Opn t opens ∧ retE t P opens = 2) ∨ (faultT t = 0 ∧ rightB t P = true ∧ Opn t opens ∧ retE t P opens = 0) := by
          unfold retE
          by_cases h0 : faultT t = 0
          · rw [if_neg (by simpa using h0)]
            cases hq : rightB t P
            · exact .inr (.inl ⟨h0, rfl, if_pos rfl⟩)
            · rw [if_neg (by simp)]
              by_cases hO : Opn t opens
              · exact .inr (.inr (.inr ⟨h0, rfl, hO, if_neg (by simpa using hO)⟩))
              · exact .inr (.inr (.inl ⟨h0, rfl, hO, if_pos hO⟩))
          · exact .inl ⟨h0, if_pos h0⟩
        rcases hcase with ⟨c0, cE⟩ | ⟨c0, c1, cE⟩ | ⟨c0, c1, c2, cE⟩ | ⟨c0, c1, c2, cE⟩
        · have e0 : (faultT t = 0) = False := eq_false c0
          have cV : retV t P opens = .nils := by simp [retV, cE, c0]
          rw [cE, cV] at hre
          rcases hP with ⟨rfl, rfl⟩ | ⟨rfl, hE, hPe, h8⟩ | ⟨rfl, hE, rfl⟩
          · simp only [slB, townC, slH, slL, sl] at hth hsh hto hpt hli hre hfa ⊢
            (refine callS_of_awp (fun w args => Try.call8 ..) Try.func8 rfl (fun w0 m0 wz => ?_); simp only [Try.ntmps8, Try.results8, initT, junks, homeC, hallC, slH, slL, townC, sl, List.toList_toArray, List.cons_append, List.nil_append, List.length_cons, List.length_nil, Nat.reduceAdd, Nat.reduceSub])
            (repeat' (first
    | ((exfalso; omega))
    | (refine awp_seqK ?_)
    | (refine kt ?_)
    | (refine And.intro ?_ ?_)
    | ((first | refine awp_region ?_ | refine awp_draw (by kernel_rfl) (by kernel_rfl) ?_ | refine Imp.le2 ?_ | refine awp_label ?_ | refine awp_skip ?_ | refine awp_exit ?_ | refine awp_cd ?_ | refine awp_ret ?_ | refine callK_of (hth) ?_ | refine callK_of (hsh) ?_ | refine callK_of (hto) ?_ | refine callK_of (hpt) ?_ | refine callK_of (hli) ?_ | refine callK_of (hre) ?_ | refine callK_of (hfa) ?_ | refine callK_of (hA) ?_ | refine go_split (fun _h => ?_) (fun _h => ?_)) <;> try simp (maxSteps := 4000000) only [go_sem, seval, eL, e0, decide_false, decide_true])
    | (intro _h)
    | (refine awp_block ?_)
    | (refine awp_scope ?_)
    | (refine cond_b (fun _h => ?_) (fun _h => ?_))
    | (show heapOK _ _ = true; kernel_rfl)
    | (show heapOK2 _ _ = true; kernel_rfl)
    | (omega)))
            all_goals trace_state
          · have e8 : ((P.length : Int) ≤ 8) = True := eq_true (by omega)
            simp only [planV, hE, if_true] at hpl
            rw [← hPe] at hpl
            simp only [slB, townC, slH, slL, sl] at hth hsh hto hpt hli hre hfa hpl hbk ⊢
            (refine callS_of_awp (fun w args => Try.call8 ..) Try.func8 rfl (fun w0 m0 wz => ?_); simp only [Try.ntmps8, Try.results8, initT, junks, homeC, hallC, slH, slL, townC, sl, List.toList_toArray, List.cons_append, List.nil_append, List.length_cons, List.length_nil, Nat.reduceAdd, Nat.reduceSub])
            (repeat' (first
    | ((exfalso; omega))
    | (refine awp_seqK ?_)
    | (refine kt ?_)
    | (refine And.intro ?_ ?_)
    | ((first | refine awp_region ?_ | refine awp_draw (by kernel_rfl) (by kernel_rfl) ?_ | refine Imp.le2 ?_ | refine awp_label ?_ | refine awp_skip ?_ | refine awp_exit ?_ | refine awp_cd ?_ | refine awp_ret ?_ | refine callK_of (hpl) ?_ | refine callK_of (hbk) ?_ | refine callK_of (hth) ?_ | refine callK_of (hsh) ?_ | refine callK_of (hto) ?_ | refine callK_of (hpt) ?_ | refine callK_of (hli) ?_ | refine callK_of (hre) ?_ | refine callK_of (hfa) ?_ | refine callK_of (hA) ?_ | refine go_split (fun _h => ?_) (fun _h => ?_)) <;> try simp (maxSteps := 4000000) only [go_sem, seval, eL, e8, e0, decide_false, decide_true])
    | (intro _h)
    | (refine awp_block ?_)
    | (refine awp_scope ?_)
    | (refine cond_b (fun _h => ?_) (fun _h => ?_))
    | (show heapOK _ _ = true; kernel_rfl)
    | (show heapOK2 _ _ = true; kernel_rfl)
    | (omega)))
            all_goals trace_state
          · have eE : (planE t = 0) = False := eq_false hE
            have eV : planV t = .nils := by simp [planV, hE]
            rw [eV] at hpl
            generalize planE t = pe at *
            simp only [slB, townC, slH, slL, sl] at hth hsh hto hpt hli hre hfa hpl ⊢
            (refine callS_of_awp (fun w args => Try.call8 ..) Try.func8 rfl (fun w0 m0 wz => ?_); simp only [Try.ntmps8, Try.results8, initT, junks, homeC, hallC, slH, slL, townC, sl, List.toList_toArray, List.cons_append, List.nil_append, List.length_cons, List.length_nil, Nat.reduceAdd, Nat.reduceSub])
            (repeat' (first
    | ((exfalso; omega))
    | (refine awp_seqK ?_)
    | (refine kt ?_)
    | (refine And.intro ?_ ?_)
    | ((first | refine awp_region ?_ | refine awp_draw (by kernel_rfl) (by kernel_rfl) ?_ | refine Imp.le2 ?_ | refine awp_label ?_ | refine awp_skip ?_ | refine awp_exit ?_ | refine awp_cd ?_ | refine awp_ret ?_ | refine callK_of (hpl) ?_ | refine callK_of (hth) ?_ | refine callK_of (hsh) ?_ | refine callK_of (hto) ?_ | refine callK_of (hpt) ?_ | refine callK_of (hli) ?_ | refine callK_of (hre) ?_ | refine callK_of (hfa) ?_ | refine callK_of (hA) ?_ | refine go_split (fun _h => ?_) (fun _h => ?_)) <;> try simp (maxSteps := 4000000) only [go_sem, seval, eL, eE, e0, decide_false, decide_true])
    | (intro _h)
    | (refine awp_block ?_)
    | (refine awp_scope ?_)
    | (refine cond_b (fun _h => ?_) (fun _h => ?_))
    | (show heapOK _ _ = true; kernel_rfl)
    | (show heapOK2 _ _ = true; kernel_rfl)
    | (omega)))
            all_goals trace_state
        · have ht := faultT_zero c0
          have hri := rRight_c t P ht hPS
          have cV : retV t P opens = .nils := by simp [retV, cE]
          rw [cE, cV] at hre
          rw [c0] at hfa
          rw [c1] at hri
          rcases hP with ⟨rfl, rfl⟩ | ⟨rfl, hE, hPe, h8⟩ | ⟨rfl, hE, rfl⟩
          · simp only [slB, townC, slH, slL, sl] at hth hsh hto hpt hli hre hfa hri ⊢
            (refine callS_of_awp (fun w args => Try.call8 ..) Try.func8 rfl (fun w0 m0 wz => ?_); simp only [Try.ntmps8, Try.results8, initT, junks, homeC, hallC, slH, slL, townC, sl, List.toList_toArray, List.cons_append, List.nil_append, List.length_cons, List.length_nil, Nat.reduceAdd, Nat.reduceSub])
            (repeat' (first
    | ((exfalso; omega))
    | (refine awp_seqK ?_)
    | (refine kt ?_)
    | (refine And.intro ?_ ?_)
    | ((first | refine awp_region ?_ | refine awp_draw (by kernel_rfl) (by kernel_rfl) ?_ | refine Imp.le2 ?_ | refine awp_label ?_ | refine awp_skip ?_ | refine awp_exit ?_ | refine awp_cd ?_ | refine awp_ret ?_ | refine callK_of (hth) ?_ | refine callK_of (hsh) ?_ | refine callK_of (hto) ?_ | refine callK_of (hpt) ?_ | refine callK_of (hli) ?_ | refine callK_of (hre) ?_ | refine callK_of (hfa) ?_ | refine callK_of (hri) ?_ | refine callK_of (hA) ?_ | refine go_split (fun _h => ?_) (fun _h => ?_)) <;> try simp (maxSteps := 4000000) only [go_sem, seval, eL, decide_true, decide_false])
    | (intro _h)
    | (refine awp_block ?_)
    | (refine awp_scope ?_)
    | (refine cond_b (fun _h => ?_) (fun _h => ?_))
    | (show heapOK _ _ = true; kernel_rfl)
    | (show heapOK2 _ _ = true; kernel_rfl)
    | (omega)))
            all_goals trace_state
          · have e8 : ((P.length : Int) ≤ 8) = True := eq_true (by omega)
            simp only [planV, hE, if_true] at hpl
            rw [← hPe] at hpl
            simp only [slB, townC, slH, slL, sl] at hth hsh hto hpt hli hre hfa hri hpl hbk ⊢
            (refine callS_of_awp (fun w args => Try.call8 ..) Try.func8 rfl (fun w0 m0 wz => ?_); simp only [Try.ntmps8, Try.results8, initT, junks, homeC, hallC, slH, slL, townC, sl, List.toList_toArray, List.cons_append, List.nil_append, List.length_cons, List.length_nil, Nat.reduceAdd, Nat.reduceSub])
            (repeat' (first
    | ((exfalso; omega))
    | (refine awp_seqK ?_)
    | (refine kt ?_)
    | (refine And.intro ?_ ?_)
    | ((first | refine awp_region ?_ | refine awp_draw (by kernel_rfl) (by kernel_rfl) ?_ | refine Imp.le2 ?_ | refine awp_label ?_ | refine awp_skip ?_ | refine awp_exit ?_ | refine awp_cd ?_ | refine awp_ret ?_ | refine callK_of (hpl) ?_ | refine callK_of (hbk) ?_ | refine callK_of (hth) ?_ | refine callK_of (hsh) ?_ | refine callK_of (hto) ?_ | refine callK_of (hpt) ?_ | refine callK_of (hli) ?_ | refine callK_of (hre) ?_ | refine callK_of (hfa) ?_ | refine callK_of (hri) ?_ | refine callK_of (hA) ?_ | refine go_split (fun _h => ?_) (fun _h => ?_)) <;> try simp (maxSteps := 4000000) only [go_sem, seval, eL, e8, decide_true, decide_false])
    | (intro _h)
    | (refine awp_block ?_)
    | (refine awp_scope ?_)
    | (refine cond_b (fun _h => ?_) (fun _h => ?_))
    | (show heapOK _ _ = true; kernel_rfl)
    | (show heapOK2 _ _ = true; kernel_rfl)
    | (omega)))
            all_goals trace_state
          · have eE : (planE t = 0) = False := eq_false hE
            have eV : planV t = .nils := by simp [planV, hE]
            rw [eV] at hpl
            generalize planE t = pe at *
            simp only [slB, townC, slH, slL, sl] at hth hsh hto hpt hli hre hfa hri hpl ⊢
            (refine callS_of_awp (fun w args => Try.call8 ..) Try.func8 rfl (fun w0 m0 wz => ?_); simp only [Try.ntmps8, Try.results8, initT, junks, homeC, hallC, slH, slL, townC, sl, List.toList_toArray, List.cons_append, List.nil_append, List.length_cons, List.length_nil, Nat.reduceAdd, Nat.reduceSub])
            (repeat' (first
    | ((exfalso; omega))
    | (refine awp_seqK ?_)
    | (refine kt ?_)
    | (refine And.intro ?_ ?_)
    | ((first | refine awp_region ?_ | refine awp_draw (by kernel_rfl) (by kernel_rfl) ?_ | refine Imp.le2 ?_ | refine awp_label ?_ | refine awp_skip ?_ | refine awp_exit ?_ | refine awp_cd ?_ | refine awp_ret ?_ | refine callK_of (hpl) ?_ | refine callK_of (hth) ?_ | refine callK_of (hsh) ?_ | refine callK_of (hto) ?_ | refine callK_of (hpt) ?_ | refine callK_of (hli) ?_ | refine callK_of (hre) ?_ | refine callK_of (hfa) ?_ | refine callK_of (hri) ?_ | refine callK_of (hA) ?_ | refine go_split (fun _h => ?_) (fun _h => ?_)) <;> try simp (maxSteps := 4000000) only [go_sem, seval, eL, eE, decide_true, decide_false])
    | (intro _h)
    | (refine awp_block ?_)
    | (refine awp_scope ?_)
    | (refine cond_b (fun _h => ?_) (fun _h => ?_))
    | (show heapOK _ _ = true; kernel_rfl)
    | (show heapOK2 _ _ = true; kernel_rfl)
    | (omega)))
            all_goals trace_state
        · have ht := faultT_zero c0
          have hri := rRight_c t P ht hPS
          have cV : retV t P opens = .nils := by simp [retV, cE]
          rw [cE, cV] at hre
          rw [c0] at hfa
          rw [c1] at hri
          rw [decide_eq_false c2] at hro
          rcases hP with ⟨rfl, rfl⟩ | ⟨rfl, hE, hPe, h8⟩ | ⟨rfl, hE, rfl⟩
          · simp only [slB, townC, slH, slL, sl] at hth hsh hto hpt hli hre hfa hri hro ⊢
            (refine callS_of_awp (fun w args => Try.call8 ..) Try.func8 rfl (fun w0 m0 wz => ?_); simp only [Try.ntmps8, Try.results8, initT, junks, homeC, hallC, slH, slL, townC, sl, List.toList_toArray, List.cons_append, List.nil_append, List.length_cons, List.length_nil, Nat.reduceAdd, Nat.reduceSub])
            (repeat' (first
    | ((exfalso; omega))
    | (refine awp_seqK ?_)
    | (refine kt ?_)
    | (refine And.intro ?_ ?_)
    | ((first | refine awp_region ?_ | refine awp_draw (by kernel_rfl) (by kernel_rfl) ?_ | refine Imp.le2 ?_ | refine awp_label ?_ | refine awp_skip ?_ | refine awp_exit ?_ | refine awp_cd ?_ | refine awp_ret ?_ | refine callK_of (hth) ?_ | refine callK_of (hsh) ?_ | refine callK_of (hto) ?_ | refine callK_of (hpt) ?_ | refine callK_of (hli) ?_ | refine callK_of (hre) ?_ | refine callK_of (hfa) ?_ | refine callK_of (hri) ?_ | refine callK_of (hro) ?_ | refine callK_of (hA) ?_ | refine go_split (fun _h => ?_) (fun _h => ?_)) <;> try simp (maxSteps := 4000000) only [go_sem, seval, eL, decide_true, decide_false])
    | (intro _h)
    | (refine awp_block ?_)
    | (refine awp_scope ?_)
    | (refine cond_b (fun _h => ?_) (fun _h => ?_))
    | (show heapOK _ _ = true; kernel_rfl)
    | (show heapOK2 _ _ = true; kernel_rfl)
    | (omega)))
            all_goals trace_state
          · have e8 : ((P.length : Int) ≤ 8) = True := eq_true (by omega)
            simp only [planV, hE, if_true] at hpl
            rw [← hPe] at hpl
            simp only [slB, townC, slH, slL, sl] at hth hsh hto hpt hli hre hfa hri hro hpl hbk ⊢
            (refine callS_of_awp (fun w args => Try.call8 ..) Try.func8 rfl (fun w0 m0 wz => ?_); simp only [Try.ntmps8, Try.results8, initT, junks, homeC, hallC, slH, slL, townC, sl, List.toList_toArray, List.cons_append, List.nil_append, List.length_cons, List.length_nil, Nat.reduceAdd, Nat.reduceSub])
            (repeat' (first
    | ((exfalso; omega))
    | (refine awp_seqK ?_)
    | (refine kt ?_)
    | (refine And.intro ?_ ?_)
    | ((first | refine awp_region ?_ | refine awp_draw (by kernel_rfl) (by kernel_rfl) ?_ | refine Imp.le2 ?_ | refine awp_label ?_ | refine awp_skip ?_ | refine awp_exit ?_ | refine awp_cd ?_ | refine awp_ret ?_ | refine callK_of (hpl) ?_ | refine callK_of (hbk) ?_ | refine callK_of (hth) ?_ | refine callK_of (hsh) ?_ | refine callK_of (hto) ?_ | refine callK_of (hpt) ?_ | refine callK_of (hli) ?_ | refine callK_of (hre) ?_ | refine callK_of (hfa) ?_ | refine callK_of (hri) ?_ | refine callK_of (hro) ?_ | refine callK_of (hA) ?_ | refine go_split (fun _h => ?_) (fun _h => ?_)) <;> try simp (maxSteps := 4000000) only [go_sem, seval, eL, e8, decide_true, decide_false])
    | (intro _h)
    | (refine awp_block ?_)
    | (refine awp_scope ?_)
    | (refine cond_b (fun _h => ?_) (fun _h => ?_))
    | (show heapOK _ _ = true; kernel_rfl)
    | (show heapOK2 _ _ = true; kernel_rfl)
    | (omega)))
            all_goals trace_state
          · have eE : (planE t = 0) = False := eq_false hE
            have eV : planV t = .nils := by simp [planV, hE]
            rw [eV] at hpl
            generalize planE t = pe at *
            simp only [slB, townC, slH, slL, sl] at hth hsh hto hpt hli hre hfa hri hro hpl ⊢
            (refine callS_of_awp (fun w args => Try.call8 ..) Try.func8 rfl (fun w0 m0 wz => ?_); simp only [Try.ntmps8, Try.results8, initT, junks, homeC, hallC, slH, slL, townC, sl, List.toList_toArray, List.cons_append, List.nil_append, List.length_cons, List.length_nil, Nat.reduceAdd, Nat.reduceSub])
            (repeat' (first
    | ((exfalso; omega))
    | (refine awp_seqK ?_)
    | (refine kt ?_)
    | (refine And.intro ?_ ?_)
    | ((first | refine awp_region ?_ | refine awp_draw (by kernel_rfl) (by kernel_rfl) ?_ | refine Imp.le2 ?_ | refine awp_label ?_ | refine awp_skip ?_ | refine awp_exit ?_ | refine awp_cd ?_ | refine awp_ret ?_ | refine callK_of (hpl) ?_ | refine callK_of (hth) ?_ | refine callK_of (hsh) ?_ | refine callK_of (hto) ?_ | refine callK_of (hpt) ?_ | refine callK_of (hli) ?_ | refine callK_of (hre) ?_ | refine callK_of (hfa) ?_ | refine callK_of (hri) ?_ | refine callK_of (hro) ?_ | refine callK_of (hA) ?_ | refine go_split (fun _h => ?_) (fun _h => ?_)) <;> try simp (maxSteps := 4000000) only [go_sem, seval, eL, eE, decide_true, decide_false])
    | (intro _h)
    | (refine awp_block ?_)
    | (refine awp_scope ?_)
    | (refine cond_b (fun _h => ?_) (fun _h => ?_))
    | (show heapOK _ _ = true; kernel_rfl)
    | (show heapOK2 _ _ = true; kernel_rfl)
    | (omega)))
            all_goals trace_state
        · have ht := faultT_zero c0
          have hri := rRight_c t P ht hPS
          have hrr := rReturn_c t P opens ht hPS c1 c2
          have cV : retV t P opens = sl (rOut t P opens P.length) := by simp [retV, cE]
          have hrl : (rOut t P opens P.length).length = t.homes.length := by
            obtain ⟨S, hSr, h8, _, _⟩ := rightB_some c1
            exact rOut_length (fun j hj => ((runI ht _ S hSr).bus j hj).1) _ (Nat.le_refl _)
          have hli2 := ints_c (rOut t P opens P.length) (rOut t P opens P.length) (by have := ht.homes; omega)
          rw [decide_eq_true rfl] at hli2
          rw [cE, cV] at hre
          rw [c0] at hfa
          rw [c1] at hri
          rw [decide_eq_true c2] at hro
          generalize rOut t P opens P.length = R at *
          rcases hP with ⟨rfl, rfl⟩ | ⟨rfl, hE, hPe, h8⟩ | ⟨rfl, hE, rfl⟩
          · simp only [slB, townC, slH, slL, sl] at hth hsh hto hpt hli hre hfa hri hro hrr hli2 ⊢
            (refine callS_of_awp (fun w args => Try.call8 ..) Try.func8 rfl (fun w0 m0 wz => ?_); simp only [Try.ntmps8, Try.results8, initT, junks, homeC, hallC, slH, slL, townC, sl, List.toList_toArray, List.cons_append, List.nil_append, List.length_cons, List.length_nil, Nat.reduceAdd, Nat.reduceSub])
            (repeat' (first
    | ((exfalso; omega))
    | (refine awp_seqK ?_)
    | (refine kt ?_)
    | (refine And.intro ?_ ?_)
    | ((first | refine awp_region ?_ | refine awp_draw (by kernel_rfl) (by kernel_rfl) ?_ | refine Imp.le2 ?_ | refine awp_label ?_ | refine awp_skip ?_ | refine awp_exit ?_ | refine awp_cd ?_ | refine awp_ret ?_ | refine callK_of (hth) ?_ | refine callK_of (hsh) ?_ | refine callK_of (hto) ?_ | refine callK_of (hpt) ?_ | refine callK_of (hli) ?_ | refine callK_of (hre) ?_ | refine callK_of (hfa) ?_ | refine callK_of (hri) ?_ | refine callK_of (hro) ?_ | refine callK_of (hrr) ?_ | refine callK_of (hli2) ?_ | refine callK_of (hA) ?_ | refine go_split (fun _h => ?_) (fun _h => ?_)) <;> try simp (maxSteps := 4000000) only [go_sem, seval, eL, decide_true, decide_false])
    | (intro _h)
    | (refine awp_block ?_)
    | (refine awp_scope ?_)
    | (refine cond_b (fun _h => ?_) (fun _h => ?_))
    | (show heapOK _ _ = true; kernel_rfl)
    | (show heapOK2 _ _ = true; kernel_rfl)
    | (omega)))
            all_goals trace_state
          · have e8 : ((P.length : Int) ≤ 8) = True := eq_true (by omega)
            simp only [planV, hE, if_true] at hpl
            rw [← hPe] at hpl
            simp only [slB, townC, slH, slL, sl] at hth hsh hto hpt hli hre hfa hri hro hrr hli2 hpl hbk ⊢
            (refine callS_of_awp (fun w args => Try.call8 ..) Try.func8 rfl (fun w0 m0 wz => ?_); simp only [Try.ntmps8, Try.results8, initT, junks, homeC, hallC, slH, slL, townC, sl, List.toList_toArray, List.cons_append, List.nil_append, List.length_cons, List.length_nil, Nat.reduceAdd, Nat.reduceSub])
            (repeat' (first
    | ((exfalso; omega))
    | (refine awp_seqK ?_)
    | (refine kt ?_)
    | (refine And.intro ?_ ?_)
    | ((first | refine awp_region ?_ | refine awp_draw (by kernel_rfl) (by kernel_rfl) ?_ | refine Imp.le2 ?_ | refine awp_label ?_ | refine awp_skip ?_ | refine awp_exit ?_ | refine awp_cd ?_ | refine awp_ret ?_ | refine callK_of (hpl) ?_ | refine callK_of (hbk) ?_ | refine callK_of (hth) ?_ | refine callK_of (hsh) ?_ | refine callK_of (hto) ?_ | refine callK_of (hpt) ?_ | refine callK_of (hli) ?_ | refine callK_of (hre) ?_ | refine callK_of (hfa) ?_ | refine callK_of (hri) ?_ | refine callK_of (hro) ?_ | refine callK_of (hrr) ?_ | refine callK_of (hli2) ?_ | refine callK_of (hA) ?_ | refine go_split (fun _h => ?_) (fun _h => ?_)) <;> try simp (maxSteps := 4000000) only [go_sem, seval, eL, e8, decide_true, decide_false])
    | (intro _h)
    | (refine awp_block ?_)
    | (refine awp_scope ?_)
    | (refine cond_b (fun _h => ?_) (fun _h => ?_))
    | (show heapOK _ _ = true; kernel_rfl)
    | (show heapOK2 _ _ = true; kernel_rfl)
    | (omega)))
            all_goals trace_state
          · have eE : (planE t = 0) = False := eq_false hE
            have eV : planV t = .nils := by simp [planV, hE]
            rw [eV] at hpl
            generalize planE t = pe at *
            simp only [slB, townC, slH, slL, sl] at hth hsh hto hpt hli hre hfa hri hro hrr hli2 hpl ⊢
            (refine callS_of_awp (fun w args => Try.call8 ..) Try.func8 rfl (fun w0 m0 wz => ?_); simp only [Try.ntmps8, Try.results8, initT, junks, homeC, hallC, slH, slL, townC, sl, List.toList_toArray, List.cons_append, List.nil_append, List.length_cons, List.length_nil, Nat.reduceAdd, Nat.reduceSub])
            (repeat' (first
    | ((exfalso; omega))
    | (refine awp_seqK ?_)
    | (refine kt ?_)
    | (refine And.intro ?_ ?_)
    | ((first | refine awp_region ?_ | refine awp_draw (by kernel_rfl) (by kernel_rfl) ?_ | refine Imp.le2 ?_ | refine awp_label ?_ | refine awp_skip ?_ | refine awp_exit ?_ | refine awp_cd ?_ | refine awp_ret ?_ | refine callK_of (hpl) ?_ | refine callK_of (hth) ?_ | refine callK_of (hsh) ?_ | refine callK_of (hto) ?_ | refine callK_of (hpt) ?_ | refine callK_of (hli) ?_ | refine callK_of (hre) ?_ | refine callK_of (hfa) ?_ | refine callK_of (hri) ?_ | refine callK_of (hro) ?_ | refine callK_of (hrr) ?_ | refine callK_of (hli2) ?_ | refine callK_of (hA) ?_ | refine go_split (fun _h => ?_) (fun _h => ?_)) <;> try simp (maxSteps := 4000000) only [go_sem, seval, eL, eE, decide_true, decide_false])
    | (intro _h)
    | (refine awp_block ?_)
    | (refine awp_scope ?_)
    | (refine cond_b (fun _h => ?_) (fun _h => ?_))
    | (show heapOK _ _ = true; kernel_rfl)
    | (show heapOK2 _ _ = true; kernel_rfl)
    | (omega)))
            all_goals trace_state
      · have eL : (12 < (opens.length : Int)) = True := eq_true (by omega)
        simp only [slB, townC, slH, slL, sl] at hth hsh ⊢
        (refine callS_of_awp (fun w args => Try.call8 ..) Try.func8 rfl (fun w0 m0 wz => ?_); simp only [Try.ntmps8, Try.results8, initT, junks, homeC, hallC, slH, slL, townC, sl, List.toList_toArray, List.cons_append, List.nil_append, List.length_cons, List.length_nil, Nat.reduceAdd, Nat.reduceSub])
        (repeat' (first
    | (refine awp_seqK ?_)
    | (refine kt ?_)
    | (refine And.intro ?_ ?_)
    | ((first | refine awp_region ?_ | refine awp_draw (by kernel_rfl) (by kernel_rfl) ?_ | refine Imp.le2 ?_ | refine awp_label ?_ | refine awp_skip ?_ | refine awp_exit ?_ | refine awp_cd ?_ | refine awp_ret ?_ | refine callK_of (hth) ?_ | refine callK_of (hsh) ?_ | refine callK_of (hA) ?_ | refine go_split (fun _h => ?_) (fun _h => ?_)) <;> try simp (maxSteps := 4000000) only [go_sem, seval, eL, decide_true])
    | (intro _h)
    | (refine awp_block ?_)
    | (refine awp_scope ?_)
    | (refine cond_b (fun _h => ?_) (fun _h => ?_))
    | (show heapOK _ _ = true; kernel_rfl)
    | (show heapOK2 _ _ = true; kernel_rfl)
    | (omega)))
end Go.Am
