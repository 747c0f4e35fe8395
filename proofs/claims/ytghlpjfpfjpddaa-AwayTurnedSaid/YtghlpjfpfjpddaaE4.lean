/- Parts TbB of the proof, one behind the other. No statement is proved here. -/
import Derived.Test.YtghlpjfpfjpddaaE1
/- Contracts of the away functions: when people are there; what the reference says of it. -/
namespace Go.Am
open Go.RowKit Go.Proofs
attribute [local irreducible] AWP CallS Kt goK CallK stepK evOps SemF SemY Imp
set_option maxRecDepth 4000
set_option linter.unusedSimpArgs false
set_option linter.unusedVariables false
set_option maxHeartbeats 1600000

/-- An order of homes has each of them once. -/
structure Ord (n : Nat) (l : List Int) : Prop where
  len : l.length = n
  inn : ∀ x ∈ l, 0 ≤ x ∧ x < n
  once : l.Nodup
instance (n : Nat) (l : List Int) : Decidable (Ord n l) := decidable_of_iff (l.length = n ∧ (∀ x ∈ l, 0 ≤ x ∧ x < n) ∧ l.Nodup) ⟨fun ⟨a, b, c⟩ => ⟨a, b, c⟩, fun ⟨a, b, c⟩ => ⟨a, b, c⟩⟩
theorem Ord.all {n : Nat} {l : List Int} (h : Ord n l) (i : Nat) (hi : i < n) : (i : Int) ∈ l := by
  by_cases hm : (i : Int) ∈ l
  · exact hm
  · have h9 := nodup_le n ((i : Int) :: l) (List.nodup_cons.2 ⟨hm, h.once⟩) (fun x hx => by
      rcases List.mem_cons.1 hx with rfl | hx
      · omega
      · exact h.inn x hx)
    have := h.len
    simp only [List.length_cons] at h9
    omega
theorem Ord.at {n : Nat} {l : List Int} (h : Ord n l) {k : Nat} (hk : k < l.length) : 0 ≤ l.getD k 0 ∧ l.getD k 0 < n := h.inn _ (getD_mem hk)
structure Tim (t : Town) (calls preps : List Int) : Prop where
  lc : calls.length = t.homes.length
  lp : preps.length = t.homes.length
  call : ∀ i, i < t.homes.length → t.clo ≤ calls.getD i 0 ∧ calls.getD i 0 ≤ t.chi
  prep : ∀ i, i < t.homes.length → (t.homes.getD i default).lo ≤ preps.getD i 0 ∧ preps.getD i 0 ≤ (t.homes.getD i default).hi
instance (t : Town) (calls preps : List Int) : Decidable (Tim t calls preps) := decidable_of_iff (calls.length = t.homes.length ∧ preps.length = t.homes.length ∧ (∀ i, i < t.homes.length → t.clo ≤ calls.getD i 0 ∧ calls.getD i 0 ≤ t.chi) ∧ ∀ i, i < t.homes.length → (t.homes.getD i default).lo ≤ preps.getD i 0 ∧ preps.getD i 0 ≤ (t.homes.getD i default).hi)
  ⟨fun ⟨a, b, c, d⟩ => ⟨a, b, c, d⟩, fun ⟨a, b, c, d⟩ => ⟨a, b, c, d⟩⟩

def thNow (order calls : List Int) : Nat → Int
  | 0 => 0
  | k + 1 => thNow order calls k + calls.getD (order.getD k 0).toNat 0
def thOut (t : Town) (order calls preps : List Int) : Nat → List Int
  | 0 => tab t.homes.length fun _ => 0
  | k + 1 => isp (thOut t order calls preps k) (order.getD k 0).toNat (thNow order calls (k + 1) + preps.getD (order.getD k 0).toNat 0 + (t.homes.getD (order.getD k 0).toNat default).walk)
theorem thOut_length {t : Town} {order calls preps : List Int} (ho : Ord t.homes.length order) : ∀ k, k ≤ order.length → (thOut t order calls preps k).length = t.homes.length
  | 0, _ => by simp [thOut, tab_length]
  | k + 1, h => by
    have := thOut_length (calls := calls) (preps := preps) ho k (by omega)
    have h2 := ho.at (k := k) (by omega)
    simp only [thOut]
    rw [isp_length (by omega), this]
theorem thNow_bd {t : Town} {order calls preps : List Int} (ht : TownOK t) (ho : Ord t.homes.length order) (hc : ∀ i, i < t.homes.length → t.clo ≤ calls.getD i 0 ∧ calls.getD i 0 ≤ t.chi) : ∀ k, k ≤ order.length → 0 ≤ thNow order calls k ∧ thNow order calls k ≤ 60 * k
  | 0, _ => by simp [thNow]
  | k + 1, h => by
    have := thNow_bd (preps := preps) ht ho hc k (by omega)
    have h2 := ho.at (k := k) (by omega)
    have h3 := hc (order.getD k 0).toNat (by omega)
    have h4 := ht.call
    simp only [thNow]
    omega
theorem rOrdered_c (t : Town) (order : List Int) (hb : townOK t) (hl : order.length ≤ 1000000) : CallS Try.prog 41 [.agg (townC t), sl order] (.bool (decide (Ord t.homes.length order))) := by
  obtain ⟨hb1, hb2⟩ := hb
  have hno1 : ∀ k, k < order.length → ¬ (0 ≤ order.getD k 0 ∧ order.getD k 0 ≤ t.homes.length - 1) → false = decide (Ord t.homes.length order) := fun k hk h => (decide_eq_false fun ho => h (by have := ho.at hk; omega)).symm
  have hno2 : ∀ k i, k < i → i < order.length → order.getD k 0 = order.getD i 0 → false = decide (Ord t.homes.length order) := fun k i hk hi h => (decide_eq_false fun ho => by
    have h1 := List.pairwise_iff_getElem.1 ho.once k i (by omega) hi hk
    simp [List.getD_eq_getElem?_getD, hi, show k < order.length by omega] at h
    exact h1 h).symm
  have hno3 : order.length ≠ t.homes.length → false = decide (Ord t.homes.length order) := fun h => (decide_eq_false fun ho => h ho.len).symm
  have hyes : order.length = t.homes.length → (∀ k, k < order.length → (0 ≤ order.getD k 0 ∧ order.getD k 0 ≤ t.homes.length - 1) ∧ ∀ j, j < k → order.getD j 0 ≠ order.getD k 0) → true = decide (Ord t.homes.length order) := fun h1 h2 => by
    refine (decide_eq_true ⟨h1, fun x hx => ?_, List.pairwise_iff_getElem.2 fun i j hi hj hij e => ?_⟩).symm
    · obtain ⟨i, hi, rfl⟩ := mem_getD (d := 0) hx
      have := (h2 i hi).1; omega
    · refine (h2 j hj).2 i hij ?_
      simp [List.getD_eq_getElem?_getD, hi, hj, e]
  generalize decide (Ord t.homes.length order) = r at *
  (refine callS_of_awp (fun w args => Try.call41 ..) Try.func41 rfl (fun w0 m0 wz => ?_); simp only [Try.ntmps41, Try.results41, initT, junks, homeC, hallC, slH, slL, townC, sl, List.toList_toArray, List.cons_append, List.nil_append, List.length_cons, List.length_nil, Nat.reduceAdd, Nat.reduceSub])
  (repeat' (first
    | (refine awp_seqK ?_)
    | (refine kt ?_)
    | (refine And.intro ?_ ?_)
    | ((first | refine awp_region ?_ | refine awp_draw (by kernel_rfl) (by kernel_rfl) ?_ | refine Imp.le2 ?_ | refine awp_label ?_ | refine awp_skip ?_ | refine awp_exit ?_ | refine awp_cd ?_ | refine awp_ret ?_ | refine go_split (fun _h => ?_) (fun _h => ?_)) <;> try simp (maxSteps := 4000000) only [go_sem, seval])
    | (intro _h)
    | (refine awp_block ?_)
    | (refine awp_scope ?_)
    | (refine cond_b (fun _h => ?_) (fun _h => ?_))
    | (show heapOK _ _ = true; kernel_rfl)
    | (show heapOK2 _ _ = true; kernel_rfl)
    | (omega)))
  refine awp_loopJ (fun i : Nat => i ≤ order.length ∧ ∀ k, k < i → (0 ≤ order.getD k 0 ∧ order.getD k 0 ≤ t.homes.length - 1) ∧ ∀ j, j < k → order.getD j 0 ≠ order.getD k 0) (fun i => ⟨mkT 43 [(1, sl order), (2, .ptr 0 0 0), (5, .int .i64 i)], [some (.cells 27 1 0 (townC t))], []⟩) (fun i => order.length - i) 0 ⟨Nat.zero_le _, by simp⟩ (.le2 ?_) ?_
  · simp only [townC, slH, slL]; simp (maxSteps := 4000000) only [go_sem, seval]
  · rintro i ⟨hi, hj⟩
    simp only [townC, slH, slL]; simp (maxSteps := 4000000) only [go_sem, seval]
    (repeat' (first
    | (refine awp_seqK ?_)
    | (refine kt ?_)
    | (refine And.intro ?_ ?_)
    | ((first | refine awp_region ?_ | refine awp_draw (by kernel_rfl) (by kernel_rfl) ?_ | refine Imp.le2 ?_ | refine awp_label ?_ | refine awp_skip ?_ | refine awp_exit ?_ | refine awp_cd ?_ | refine awp_ret ?_ | refine callK_of (in_c _ _ _) ?_ | refine go_split (fun _h => ?_) (fun _h => ?_)) <;> try simp (maxSteps := 4000000) only [go_sem, seval])
    | (intro _h)
    | (refine awp_block ?_)
    | (refine awp_scope ?_)
    | (refine cond_b (fun _h => ?_) (fun _h => ?_))
    | (show heapOK _ _ = true; kernel_rfl)
    | (show heapOK2 _ _ = true; kernel_rfl)
    | (omega)))
    all_goals first
      | (exact hno1 i (by omega) ‹_›)
      | (exact (hno1 i (by omega) ‹_›).symm)
      | (exact hno3 (by omega))
      | (exact (hno3 (by omega)).symm)
      | (exact hyes (by omega) (fun k hk => hj k (by omega)))
      | (exact (hyes (by omega) (fun k hk => hj k (by omega))).symm)
      | skip
    refine awp_loopJ (fun k : Nat => k ≤ i ∧ ∀ j, j < k → order.getD j 0 ≠ order.getD i 0) (fun k => ⟨mkT 43 [(1, sl order), (2, .ptr 0 0 0), (5, .int .i64 i), (6, .int .i64 k)], [some (.cells 27 1 0 (townC t))], []⟩) (fun k => i - k) 0 ⟨Nat.zero_le _, by simp⟩ (.le2 ?_) ?_
    · simp only [townC, slH, slL]; simp (maxSteps := 4000000) only [go_sem, seval]
    · rintro k ⟨hk, hkj⟩
      simp only [townC, slH, slL]; simp (maxSteps := 4000000) only [go_sem, seval]
      (repeat' (first
    | (refine awp_seqK ?_)
    | (refine kt ?_)
    | (refine And.intro ?_ ?_)
    | ((first | refine awp_region ?_ | refine awp_draw (by kernel_rfl) (by kernel_rfl) ?_ | refine Imp.le2 ?_ | refine awp_label ?_ | refine awp_skip ?_ | refine awp_exit ?_ | refine awp_cd ?_ | refine awp_ret ?_ | refine go_split (fun _h => ?_) (fun _h => ?_)) <;> try simp (maxSteps := 4000000) only [go_sem, seval])
    | (intro _h)
    | (refine awp_block ?_)
    | (refine awp_scope ?_)
    | (refine cond_b (fun _h => ?_) (fun _h => ?_))
    | (show heapOK _ _ = true; kernel_rfl)
    | (show heapOK2 _ _ = true; kernel_rfl)
    | (omega)))
      all_goals first
        | (exact hno2 k i (by omega) (by omega) ‹_›)
        | (exact (hno2 k i (by omega) (by omega) ‹_›).symm)
        | (refine ⟨k + 1, ⟨by omega, fun j hji => ?_⟩, by omega, .le2 ?_⟩
           · rcases Nat.lt_succ_iff_lt_or_eq.1 hji with h | rfl
             · exact hkj j h
             · assumption
           · simp (maxSteps := 4000000) only [go_sem, seval] <;> omega)
        | (refine ⟨i + 1, ⟨by omega, fun j hji => ?_⟩, by omega, .le2 ?_⟩
           · rcases Nat.lt_succ_iff_lt_or_eq.1 hji with h | rfl
             · exact hj j h
             · exact ⟨by assumption, fun j' h' => hkj j' (by omega)⟩
           · simp (maxSteps := 4000000) only [go_sem, seval] <;> omega)
        | trace_state
theorem rTimed_c (t : Town) (calls preps : List Int) (hb : townOK t) (hl : calls.length ≤ 1000000) (hl' : preps.length ≤ 1000000) : CallS Try.prog 42 [.agg (townC t), sl calls, sl preps] (.bool (decide (Tim t calls preps))) := by
  obtain ⟨hb1, hb2⟩ := hb
  have hno1 : calls.length ≠ t.homes.length ∨ preps.length ≠ t.homes.length → false = decide (Tim t calls preps) := fun h => (decide_eq_false fun ht => by have := ht.lc; have := ht.lp; omega).symm
  have hno2 : ∀ i, i < t.homes.length → (¬ (t.clo ≤ calls.getD i 0 ∧ calls.getD i 0 ≤ t.chi) ∨ ¬ ((t.homes.getD i default).lo ≤ preps.getD i 0 ∧ preps.getD i 0 ≤ (t.homes.getD i default).hi)) → false = decide (Tim t calls preps) := fun i hi h => (decide_eq_false fun ht => by
    have := ht.call i hi; have := ht.prep i hi; omega).symm
  have hyes : calls.length = t.homes.length → preps.length = t.homes.length → (∀ i, i < t.homes.length → (t.clo ≤ calls.getD i 0 ∧ calls.getD i 0 ≤ t.chi) ∧ ((t.homes.getD i default).lo ≤ preps.getD i 0 ∧ preps.getD i 0 ≤ (t.homes.getD i default).hi)) → true = decide (Tim t calls preps) := fun a b c => (decide_eq_true ⟨a, b, fun i hi => (c i hi).1, fun i hi => (c i hi).2⟩).symm
  generalize decide (Tim t calls preps) = r at *
  (refine callS_of_awp (fun w args => Try.call42 ..) Try.func42 rfl (fun w0 m0 wz => ?_); simp only [Try.ntmps42, Try.results42, initT, junks, homeC, hallC, slH, slL, townC, sl, List.toList_toArray, List.cons_append, List.nil_append, List.length_cons, List.length_nil, Nat.reduceAdd, Nat.reduceSub])
  (repeat' (first
    | (refine awp_seqK ?_)
    | (refine kt ?_)
    | (refine And.intro ?_ ?_)
    | ((first | refine awp_region ?_ | refine awp_draw (by kernel_rfl) (by kernel_rfl) ?_ | refine Imp.le2 ?_ | refine awp_label ?_ | refine awp_skip ?_ | refine awp_exit ?_ | refine awp_cd ?_ | refine awp_ret ?_ | refine go_split (fun _h => ?_) (fun _h => ?_)) <;> try simp (maxSteps := 4000000) only [go_sem, seval])
    | (intro _h)
    | (refine awp_block ?_)
    | (refine awp_scope ?_)
    | (refine cond_b (fun _h => ?_) (fun _h => ?_))
    | (show heapOK _ _ = true; kernel_rfl)
    | (show heapOK2 _ _ = true; kernel_rfl)
    | (omega)))
  all_goals first
    | (exact hno1 (by omega))
    | (exact (hno1 (by omega)).symm)
    | skip
  refine awp_loopJ (fun i : Nat => i ≤ t.homes.length ∧ ∀ j, j < i → (t.clo ≤ calls.getD j 0 ∧ calls.getD j 0 ≤ t.chi) ∧ ((t.homes.getD j default).lo ≤ preps.getD j 0 ∧ preps.getD j 0 ≤ (t.homes.getD j default).hi)) (fun i => ⟨mkT 59 [(1, sl calls), (2, sl preps), (3, .ptr 0 0 0), (7, .int .i64 i)], [some (.cells 27 1 0 (townC t))], []⟩) (fun i => t.homes.length - i) 0 ⟨Nat.zero_le _, by simp⟩ (.le2 ?_) ?_
  · simp only [townC, slH, slL]; simp (maxSteps := 4000000) only [go_sem, seval]
  · rintro i ⟨hi, hj⟩
    simp only [townC, slH, slL]; simp (maxSteps := 4000000) only [go_sem, seval]
    (repeat' (first
    | (refine awp_seqK ?_)
    | (refine kt ?_)
    | (refine And.intro ?_ ?_)
    | ((first | refine awp_region ?_ | refine awp_draw (by kernel_rfl) (by kernel_rfl) ?_ | refine Imp.le2 ?_ | refine awp_label ?_ | refine awp_skip ?_ | refine awp_exit ?_ | refine awp_cd ?_ | refine awp_ret ?_ | refine callK_of (in_c _ _ _) ?_ | refine go_split (fun _h => ?_) (fun _h => ?_)) <;> try simp (maxSteps := 4000000) only [go_sem, seval])
    | (intro _h)
    | (refine awp_block ?_)
    | (refine awp_scope ?_)
    | (refine cond_b (fun _h => ?_) (fun _h => ?_))
    | (show heapOK _ _ = true; kernel_rfl)
    | (show heapOK2 _ _ = true; kernel_rfl)
    | (omega)))
    all_goals first
      | (refine ⟨i + 1, ⟨by omega, fun j hji => ?_⟩, by omega, .le2 ?_⟩
         · rcases Nat.lt_succ_iff_lt_or_eq.1 hji with h | rfl
           · exact hj j h
           · exact ⟨by assumption, by assumption⟩
         · simp (maxSteps := 4000000) only [go_sem, seval] <;> omega)
      | (exact hno2 i (by omega) (.inl (by assumption)))
      | (exact hno2 i (by omega) (.inr (by assumption)))
      | (exact (hno2 i (by omega) (.inl (by assumption))).symm)
      | (exact (hno2 i (by omega) (.inr (by assumption))).symm)
      | (exact hyes (by omega) (by omega) (fun j hjl => hj j (by omega)))
      | (exact (hyes (by omega) (by omega) (fun j hjl => hj j (by omega))).symm)
      | trace_state
theorem rThere_c (t : Town) (order calls preps : List Int) (ht : TownOK t) (ho : Ord t.homes.length order) (hm : Tim t calls preps) : CallS Try.prog 43 [.agg (townC t), sl order, sl calls, sl preps] (sl (thOut t order calls preps order.length)) := by
  have hlen := ht.homes
  have hol := ho.len
  have hcl := hm.lc
  have hpl := hm.lp
  have hlo := fun k hk => thOut_length (t := t) (calls := calls) (preps := preps) ho k hk
  (refine callS_of_awp (fun w args => Try.call43 ..) Try.func43 rfl (fun w0 m0 wz => ?_); simp only [Try.ntmps43, Try.results43, initT, junks, homeC, hallC, slH, slL, townC, sl, List.toList_toArray, List.cons_append, List.nil_append, List.length_cons, List.length_nil, Nat.reduceAdd, Nat.reduceSub])
  (repeat' (first
    | (refine awp_seqK ?_)
    | (refine kt ?_)
    | (refine And.intro ?_ ?_)
    | ((first | refine awp_region ?_ | refine awp_draw (by kernel_rfl) (by kernel_rfl) ?_ | refine Imp.le2 ?_ | refine awp_label ?_ | refine awp_skip ?_ | refine awp_exit ?_ | refine awp_cd ?_ | refine awp_ret ?_ | refine go_split (fun _h => ?_) (fun _h => ?_)) <;> try simp (maxSteps := 4000000) only [go_sem, seval, ↓rep_bools, ↓rep_ints])
    | (intro _h)
    | (refine awp_block ?_)
    | (refine awp_scope ?_)
    | (refine cond_b (fun _h => ?_) (fun _h => ?_))
    | (show heapOK _ _ = true; kernel_rfl)
    | (show heapOK2 _ _ = true; kernel_rfl)
    | (omega)))
  refine awp_loopN order.length (fun k => ⟨mkT 50 [(1, sl order), (2, sl calls), (3, sl preps), (4, .ptr 0 0 0), (9, .osl 1 0 0 t.homes.length), (10, .int .i64 (thNow order calls k)), (11, .int .i64 k)], [some (.cells 27 1 0 (townC t)), some (.cells 3 1 0 (ints (thOut t order calls preps k)))], []⟩) (.le2 ?_) ?_
  · simp only [townC, slH, slL]; simp (maxSteps := 4000000) only [go_sem, seval]
    first | rfl | exact ⟨rfl, rfl⟩
  · intro k hk
    have hlk := hlo k hk
    have hlk1 := hlo (k + 1)
    have hnb := thNow_bd (preps := preps) ht ho hm.call k hk
    rcases Nat.lt_or_eq_of_le hk with hk1 | hk1
    · have hor := ho.at hk1
      have hcb := hm.call (order.getD k 0).toNat (by omega)
      have hpb := hm.prep (order.getD k 0).toNat (by omega)
      obtain ⟨_, h1, h2, _⟩ := ht.home (order.getD k 0).toNat (by omega)
      have hc := ht.call
      have e1 : thNow order calls k + calls.getD (order.getD k 0).toNat 0 = thNow order calls (k + 1) := rfl
      have e2 : isp (thOut t order calls preps k) (order.getD k 0).toNat (thNow order calls (k + 1) + preps.getD (order.getD k 0).toNat 0 + (t.homes.getD (order.getD k 0).toNat default).walk) = thOut t order calls preps (k + 1) := rfl
      have hnb1 := thNow_bd (preps := preps) ht ho hm.call (k + 1) hk1
      simp only [townC, slH, slL]; simp (maxSteps := 4000000) only [go_sem, seval]
      (repeat' (first
    | ((omega))
    | (refine awp_seqK ?_)
    | (refine kt ?_)
    | (refine And.intro ?_ ?_)
    | ((first | refine awp_region ?_ | refine awp_draw (by kernel_rfl) (by kernel_rfl) ?_ | refine Imp.le2 ?_ | refine awp_label ?_ | refine awp_skip ?_ | refine awp_exit ?_ | refine awp_cd ?_ | refine awp_ret ?_ | refine go_split (fun _h => ?_) (fun _h => ?_)) <;> try simp (maxSteps := 4000000) only [go_sem, seval, hlk, e1, e2])
    | (intro _h)
    | (refine awp_block ?_)
    | (refine awp_scope ?_)
    | (refine cond_b (fun _h => ?_) (fun _h => ?_))
    | (show heapOK _ _ = true; kernel_rfl)
    | (show heapOK2 _ _ = true; kernel_rfl)
    | (omega)))
      all_goals trace_state
    · subst hk1
      simp only [townC, slH, slL]; simp (maxSteps := 4000000) only [go_sem, seval]
      (repeat' (first
    | ((exfalso; omega))
    | (refine awp_seqK ?_)
    | (refine kt ?_)
    | (refine And.intro ?_ ?_)
    | ((first | refine awp_region ?_ | refine awp_draw (by kernel_rfl) (by kernel_rfl) ?_ | refine Imp.le2 ?_ | refine awp_label ?_ | refine awp_skip ?_ | refine awp_exit ?_ | refine awp_cd ?_ | refine awp_ret ?_ | refine go_split (fun _h => ?_) (fun _h => ?_)) <;> try simp (maxSteps := 4000000) only [go_sem, seval, hlk])
    | (intro _h)
    | (refine awp_block ?_)
    | (refine awp_scope ?_)
    | (refine cond_b (fun _h => ?_) (fun _h => ?_))
    | (show heapOK _ _ = true; kernel_rfl)
    | (show heapOK2 _ _ = true; kernel_rfl)
    | (omega)))
      all_goals trace_state
end Go.Am
