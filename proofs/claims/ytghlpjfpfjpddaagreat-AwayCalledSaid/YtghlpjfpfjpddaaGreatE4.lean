/- Parts TbB, TbC, TcA of the proof, one behind the other. No statement is proved here. -/
import Derived.Test.YtghlpjfpfjpddaaGreatE1
/- Contracts of the away functions: when people are there; what the reference says of it. -/
namespace Go.Am
open Go.RowKit Go.Proofs
attribute [local irreducible] AWP CallS Kt goK CallK stepK evOps SemF SemY Imp
set_option maxRecDepth 4000
set_option linter.unusedSimpArgs false
set_option linter.unusedVariables false
set_option maxHeartbeats 1600000

/-- An order of homes has each of them once. -/
structure Ord (n : Nat) (l : List Int) : Prop where
  len : l.length = n
  inn : ∀ x ∈ l, 0 ≤ x ∧ x < n
  once : l.Nodup
instance (n : Nat) (l : List Int) : Decidable (Ord n l) := decidable_of_iff (l.length = n ∧ (∀ x ∈ l, 0 ≤ x ∧ x < n) ∧ l.Nodup) ⟨fun ⟨a, b, c⟩ => ⟨a, b, c⟩, fun ⟨a, b, c⟩ => ⟨a, b, c⟩⟩
theorem Ord.all {n : Nat} {l : List Int} (h : Ord n l) (i : Nat) (hi : i < n) : (i : Int) ∈ l := by
  by_cases hm : (i : Int) ∈ l
  · exact hm
  · have h9 := nodup_le n ((i : Int) :: l) (List.nodup_cons.2 ⟨hm, h.once⟩) (fun x hx => by
      rcases List.mem_cons.1 hx with rfl | hx
      · omega
      · exact h.inn x hx)
    have := h.len
    simp only [List.length_cons] at h9
    omega
theorem Ord.at {n : Nat} {l : List Int} (h : Ord n l) {k : Nat} (hk : k < l.length) : 0 ≤ l.getD k 0 ∧ l.getD k 0 < n := h.inn _ (getD_mem hk)
structure Tim (t : Town) (calls preps : List Int) : Prop where
  lc : calls.length = t.homes.length
  lp : preps.length = t.homes.length
  call : ∀ i, i < t.homes.length → t.clo ≤ calls.getD i 0 ∧ calls.getD i 0 ≤ t.chi
  prep : ∀ i, i < t.homes.length → (t.homes.getD i default).lo ≤ preps.getD i 0 ∧ preps.getD i 0 ≤ (t.homes.getD i default).hi
instance (t : Town) (calls preps : List Int) : Decidable (Tim t calls preps) := decidable_of_iff (calls.length = t.homes.length ∧ preps.length = t.homes.length ∧ (∀ i, i < t.homes.length → t.clo ≤ calls.getD i 0 ∧ calls.getD i 0 ≤ t.chi) ∧ ∀ i, i < t.homes.length → (t.homes.getD i default).lo ≤ preps.getD i 0 ∧ preps.getD i 0 ≤ (t.homes.getD i default).hi)
  ⟨fun ⟨a, b, c, d⟩ => ⟨a, b, c, d⟩, fun ⟨a, b, c, d⟩ => ⟨a, b, c, d⟩⟩

def thNow (order calls : List Int) : Nat → Int
  | 0 => 0
  | k + 1 => thNow order calls k + calls.getD (order.getD k 0).toNat 0
def thOut (t : Town) (order calls preps : List Int) : Nat → List Int
  | 0 => tab t.homes.length fun _ => 0
  | k + 1 => isp (thOut t order calls preps k) (order.getD k 0).toNat (thNow order calls (k + 1) + preps.getD (order.getD k 0).toNat 0 + (t.homes.getD (order.getD k 0).toNat default).walk)
theorem thOut_length {t : Town} {order calls preps : List Int} (ho : Ord t.homes.length order) : ∀ k, k ≤ order.length → (thOut t order calls preps k).length = t.homes.length
  | 0, _ => by simp [thOut, tab_length]
  | k + 1, h => by
    have := thOut_length (calls := calls) (preps := preps) ho k (by omega)
    have h2 := ho.at (k := k) (by omega)
    simp only [thOut]
    rw [isp_length (by omega), this]
theorem thNow_bd {t : Town} {order calls preps : List Int} (ht : TownOK t) (ho : Ord t.homes.length order) (hc : ∀ i, i < t.homes.length → t.clo ≤ calls.getD i 0 ∧ calls.getD i 0 ≤ t.chi) : ∀ k, k ≤ order.length → 0 ≤ thNow order calls k ∧ thNow order calls k ≤ 60 * k
  | 0, _ => by simp [thNow]
  | k + 1, h => by
    have := thNow_bd (preps := preps) ht ho hc k (by omega)
    have h2 := ho.at (k := k) (by omega)
    have h3 := hc (order.getD k 0).toNat (by omega)
    have h4 := ht.call
    simp only [thNow]
    omega
theorem rOrdered_c (t : Town) (order : List Int) (hb : townOK t) (hl : order.length ≤ 1000000) : CallS Tryz.prog 10 [.agg (townC t), sl order] (.bool (decide (Ord t.homes.length order))) := by
  obtain ⟨hb1, hb2⟩ := hb
  have hno1 : ∀ k, k < order.length → ¬ (0 ≤ order.getD k 0 ∧ order.getD k 0 ≤ t.homes.length - 1) → false = decide (Ord t.homes.length order) := fun k hk h => (decide_eq_false fun ho => h (by have := ho.at hk; omega)).symm
  have hno2 : ∀ k i, k < i → i < order.length → order.getD k 0 = order.getD i 0 → false = decide (Ord t.homes.length order) := fun k i hk hi h => (decide_eq_false fun ho => by
    have h1 := List.pairwise_iff_getElem.1 ho.once k i (by omega) hi hk
    simp [List.getD_eq_getElem?_getD, hi, show k < order.length by omega] at h
    exact h1 h).symm
  have hno3 : order.length ≠ t.homes.length → false = decide (Ord t.homes.length order) := fun h => (decide_eq_false fun ho => h ho.len).symm
  have hyes : order.length = t.homes.length → (∀ k, k < order.length → (0 ≤ order.getD k 0 ∧ order.getD k 0 ≤ t.homes.length - 1) ∧ ∀ j, j < k → order.getD j 0 ≠ order.getD k 0) → true = decide (Ord t.homes.length order) := fun h1 h2 => by
    refine (decide_eq_true ⟨h1, fun x hx => ?_, List.pairwise_iff_getElem.2 fun i j hi hj hij e => ?_⟩).symm
    · obtain ⟨i, hi, rfl⟩ := mem_getD (d := 0) hx
      have := (h2 i hi).1; omega
    · refine (h2 j hj).2 i hij ?_
      simp [List.getD_eq_getElem?_getD, hi, hj, e]
  generalize decide (Ord t.homes.length order) = r at *
  (refine callS_of_awp (fun w args => Tryz.call10 ..) Tryz.func10 rfl (fun w0 m0 wz => ?_); simp only [Tryz.ntmps10, Tryz.results10, initT, junks, homeC, hallC, slH, slL, townC, sl, List.toList_toArray, List.cons_append, List.nil_append, List.length_cons, List.length_nil, Nat.reduceAdd, Nat.reduceSub])
  (repeat' (first
    | (refine awp_seqK ?_)
    | (refine kt ?_)
    | (refine And.intro ?_ ?_)
    | ((first | refine awp_region ?_ | refine awp_draw (by kernel_rfl) (by kernel_rfl) ?_ | refine Imp.le2 ?_ | refine awp_label ?_ | refine awp_skip ?_ | refine awp_exit ?_ | refine awp_cd ?_ | refine awp_ret ?_ | refine go_split (fun _h => ?_) (fun _h => ?_)) <;> try simp (maxSteps := 4000000) only [go_sem, seval])
    | (intro _h)
    | (refine awp_block ?_)
    | (refine awp_scope ?_)
    | (refine cond_b (fun _h => ?_) (fun _h => ?_))
    | (show heapOK _ _ = true; kernel_rfl)
    | (show heapOK2 _ _ = true; kernel_rfl)
    | (omega)))
  refine awp_loopJ (fun i : Nat => i ≤ order.length ∧ ∀ k, k < i → (0 ≤ order.getD k 0 ∧ order.getD k 0 ≤ t.homes.length - 1) ∧ ∀ j, j < k → order.getD j 0 ≠ order.getD k 0) (fun i => ⟨mkT 43 [(1, sl order), (2, .ptr 0 0 0), (5, .int .i64 i)], [some (.cells 27 1 0 (townC t))], []⟩) (fun i => order.length - i) 0 ⟨Nat.zero_le _, by simp⟩ (.le2 ?_) ?_
  · simp only [townC, slH, slL]; simp (maxSteps := 4000000) only [go_sem, seval]
  · rintro i ⟨hi, hj⟩
    simp only [townC, slH, slL]; simp (maxSteps := 4000000) only [go_sem, seval]
    (repeat' (first
    | (refine awp_seqK ?_)
    | (refine kt ?_)
    | (refine And.intro ?_ ?_)
    | ((first | refine awp_region ?_ | refine awp_draw (by kernel_rfl) (by kernel_rfl) ?_ | refine Imp.le2 ?_ | refine awp_label ?_ | refine awp_skip ?_ | refine awp_exit ?_ | refine awp_cd ?_ | refine awp_ret ?_ | refine callK_of (in_c _ _ _) ?_ | refine go_split (fun _h => ?_) (fun _h => ?_)) <;> try simp (maxSteps := 4000000) only [go_sem, seval])
    | (intro _h)
    | (refine awp_block ?_)
    | (refine awp_scope ?_)
    | (refine cond_b (fun _h => ?_) (fun _h => ?_))
    | (show heapOK _ _ = true; kernel_rfl)
    | (show heapOK2 _ _ = true; kernel_rfl)
    | (omega)))
    all_goals first
      | (exact hno1 i (by omega) ‹_›)
      | (exact (hno1 i (by omega) ‹_›).symm)
      | (exact hno3 (by omega))
      | (exact (hno3 (by omega)).symm)
      | (exact hyes (by omega) (fun k hk => hj k (by omega)))
      | (exact (hyes (by omega) (fun k hk => hj k (by omega))).symm)
      | skip
    refine awp_loopJ (fun k : Nat => k ≤ i ∧ ∀ j, j < k → order.getD j 0 ≠ order.getD i 0) (fun k => ⟨mkT 43 [(1, sl order), (2, .ptr 0 0 0), (5, .int .i64 i), (6, .int .i64 k)], [some (.cells 27 1 0 (townC t))], []⟩) (fun k => i - k) 0 ⟨Nat.zero_le _, by simp⟩ (.le2 ?_) ?_
    · simp only [townC, slH, slL]; simp (maxSteps := 4000000) only [go_sem, seval]
    · rintro k ⟨hk, hkj⟩
      simp only [townC, slH, slL]; simp (maxSteps := 4000000) only [go_sem, seval]
      (repeat' (first
    | (refine awp_seqK ?_)
    | (refine kt ?_)
    | (refine And.intro ?_ ?_)
    | ((first | refine awp_region ?_ | refine awp_draw (by kernel_rfl) (by kernel_rfl) ?_ | refine Imp.le2 ?_ | refine awp_label ?_ | refine awp_skip ?_ | refine awp_exit ?_ | refine awp_cd ?_ | refine awp_ret ?_ | refine go_split (fun _h => ?_) (fun _h => ?_)) <;> try simp (maxSteps := 4000000) only [go_sem, seval])
    | (intro _h)
    | (refine awp_block ?_)
    | (refine awp_scope ?_)
    | (refine cond_b (fun _h => ?_) (fun _h => ?_))
    | (show heapOK _ _ = true; kernel_rfl)
    | (show heapOK2 _ _ = true; kernel_rfl)
    | (omega)))
      all_goals first
        | (exact hno2 k i (by omega) (by omega) ‹_›)
        | (exact (hno2 k i (by omega) (by omega) ‹_›).symm)
        | (refine ⟨k + 1, ⟨by omega, fun j hji => ?_⟩, by omega, .le2 ?_⟩
           · rcases Nat.lt_succ_iff_lt_or_eq.1 hji with h | rfl
             · exact hkj j h
             · assumption
           · simp (maxSteps := 4000000) only [go_sem, seval] <;> omega)
        | (refine ⟨i + 1, ⟨by omega, fun j hji => ?_⟩, by omega, .le2 ?_⟩
           · rcases Nat.lt_succ_iff_lt_or_eq.1 hji with h | rfl
             · exact hj j h
             · exact ⟨by assumption, fun j' h' => hkj j' (by omega)⟩
           · simp (maxSteps := 4000000) only [go_sem, seval] <;> omega)
        | trace_state
end Go.Am

/- Contracts of the away functions: There. -/
namespace Go.Am
open Go.RowKit Go.Proofs
attribute [local irreducible] AWP CallS Kt goK CallK stepK evOps SemF SemY Imp
set_option maxRecDepth 4000
set_option linter.unusedSimpArgs false
set_option linter.unusedVariables false
set_option maxHeartbeats 1600000

def thereE (t : Town) (order calls preps : List Int) : Int := if faultT t ≠ 0 then faultT t else if ¬ Ord t.homes.length order then 1 else if ¬ Tim t calls preps then 2 else 0
def thereV (t : Town) (order calls preps : List Int) : AV := if thereE t order calls preps = 0 then sl (thOut t order calls preps order.length) else .nils
theorem There_c (t : Town) (order calls preps : List Int) (hb : townOK t) (hl : order.length ≤ 1000000) (hl2 : calls.length ≤ 1000000) (hl3 : preps.length ≤ 1000000) :
    CallS Tryz.prog 12 [.agg (townC t), sl order, sl calls, sl preps] (.tup [thereV t order calls preps, .int .i64 (thereE t order calls preps)]) := by
  have hch := check_c t hb
  by_cases h0 : faultT t = 0
  · have ht := faultT_zero h0
    have hlen := ht.homes
    have hc := ht.call
    have e0 : (faultT t = 0) = True := eq_true h0
    have r1 : ¬ Ord t.homes.length order → .tup [.nils, .int .i64 1] = AV.tup [thereV t order calls preps, .int .i64 (thereE t order calls preps)] := fun h => by
      have : thereE t order calls preps = 1 := by simp [thereE, h0, h]
      simp [thereV, this]
    have r2 : Ord t.homes.length order → ¬ Tim t calls preps → .tup [.nils, .int .i64 2] = AV.tup [thereV t order calls preps, .int .i64 (thereE t order calls preps)] := fun h h' => by
      have : thereE t order calls preps = 2 := by simp [thereE, h0, h, h']
      simp [thereV, this]
    have r0 : Ord t.homes.length order → Tim t calls preps → .tup [sl (thOut t order calls preps order.length), .int .i64 0] = AV.tup [thereV t order calls preps, .int .i64 (thereE t order calls preps)] := fun h h' => by
      have : thereE t order calls preps = 0 := by simp [thereE, h0, h, h']
      simp [thereV, this]
    have hpl := fun (l : List Int) => putAll_length (g := fun x => decide (0 ≤ x ∧ x < t.homes.length)) (l := l.reverse)
    have hal := allB_home (t := t) order (fun x => decide (0 ≤ x ∧ x < t.homes.length)) hl (fun i hi => home_c t _ hb.1)
    have hah := allB_has (lo := t.clo) (hi := t.chi) calls (fun x => decide (t.clo ≤ x ∧ x ≤ t.chi)) hl2 (fun i hi => has_c _ _ _)
    have hom := fun x => home_c t x hb.1
    simp only [townC, slH, slL, sl, h0] at hch hal hah hom
    generalize AV.tup [thereV t order calls preps, .int .i64 (thereE t order calls preps)] = res at *
    (refine callS_of_awp (fun w args => Tryz.call12 ..) Tryz.func12 rfl (fun w0 m0 wz => ?_); simp only [Tryz.ntmps12, Tryz.results12, initT, junks, homeC, hallC, slH, slL, townC, sl, List.toList_toArray, List.cons_append, List.nil_append, List.length_cons, List.length_nil, Nat.reduceAdd, Nat.reduceSub])
    (repeat' (first
    | (refine awp_seqK ?_)
    | (refine kt ?_)
    | (refine And.intro ?_ ?_)
    | ((first | refine awp_region ?_ | refine awp_draw (by kernel_rfl) (by kernel_rfl) ?_ | refine Imp.le2 ?_ | refine awp_label ?_ | refine awp_skip ?_ | refine awp_exit ?_ | refine awp_cd ?_ | refine awp_ret ?_ | refine callK_of (hch) ?_ | refine go_split (fun _h => ?_) (fun _h => ?_)) <;> try simp (maxSteps := 4000000) only [go_sem, seval, e0, decide_true])
    | (intro _h)
    | (refine awp_block ?_)
    | (refine awp_scope ?_)
    | (refine cond_b (fun _h => ?_) (fun _h => ?_))
    | (show heapOK _ _ = true; kernel_rfl)
    | (show heapOK2 _ _ = true; kernel_rfl)
    | (omega)))
    refine awp_loopN order.length (fun k => ⟨mkT 119 [(1, sl order), (2, sl calls), (3, sl preps), (4, .ptr 0 0 0), (11, .map 1), (25, sl order), (26, .int .i64 order.length), (27, .int .i64 k)], [some (.cells 39 1 0 (townC t)), some (.map (bmC (putAll (fun x => decide (0 ≤ x ∧ x < t.homes.length)) (order.take k).reverse)))], []⟩) (.le2 ?_) ?_
    · simp only [townC, slH, slL]; simp (maxSteps := 4000000) only [go_sem, seval]
      rfl
    · intro k hk
      rcases Nat.lt_or_eq_of_le hk with hk1 | hk1
      · have hput : gmPut (putAll (fun x => decide (0 ≤ x ∧ x < (t.homes.length : Int))) (order.take k).reverse) (order.getD k 0) (decide (0 ≤ order.getD k 0 ∧ order.getD k 0 < t.homes.length)) = putAll (fun x => decide (0 ≤ x ∧ x < t.homes.length)) (order.take (k + 1)).reverse := by
          rw [rev_take_succ hk1]; rfl
        simp only [townC, slH, slL]; simp (maxSteps := 4000000) only [go_sem, seval]
        (repeat' (first
    | ((omega))
    | (refine awp_seqK ?_)
    | (refine kt ?_)
    | (refine And.intro ?_ ?_)
    | ((first | refine awp_region ?_ | refine awp_draw (by kernel_rfl) (by kernel_rfl) ?_ | refine Imp.le2 ?_ | refine awp_label ?_ | refine awp_skip ?_ | refine awp_exit ?_ | refine awp_cd ?_ | refine awp_ret ?_ | refine callK_of (hom _) ?_ | refine go_split (fun _h => ?_) (fun _h => ?_)) <;> try simp (maxSteps := 4000000) only [go_sem, seval, hput])
    | (intro _h)
    | (refine awp_block ?_)
    | (refine awp_scope ?_)
    | (refine cond_b (fun _h => ?_) (fun _h => ?_))
    | (show heapOK _ _ = true; kernel_rfl)
    | (show heapOK2 _ _ = true; kernel_rfl)
    | (omega)))
        all_goals first
          | (rw [← hput, decide_eq_true ‹_›])
          | (rw [← hput, decide_eq_false ‹_›])
      · subst hk1
        obtain ⟨hp1, hp2⟩ := hpl order
        have htl : order.take order.length = order := by simp
        have hnr : order.reverse.Nodup ↔ order.Nodup := by
          unfold List.Nodup
          rw [List.pairwise_reverse]
          constructor <;> (intro h; exact h.imp Ne.symm)
        simp only [List.length_reverse, hnr] at hp1 hp2
        have hord : order.length = t.homes.length → (putAll (fun x => decide (0 ≤ x ∧ x < (t.homes.length : Int))) order.reverse).length = t.homes.length → (order.all fun x => decide (0 ≤ x ∧ x < (t.homes.length : Int))) = true → Ord t.homes.length order := fun a b c => ⟨a, fun x hx => by
          rw [List.all_eq_true] at c; exact of_decide_eq_true (c x hx), hp2.1 (by omega)⟩
        have hnord : (order.length ≠ t.homes.length ∨ (putAll (fun x => decide (0 ≤ x ∧ x < (t.homes.length : Int))) order.reverse).length ≠ t.homes.length ∨ (order.all fun x => decide (0 ≤ x ∧ x < (t.homes.length : Int))) = false) → ¬ Ord t.homes.length order := fun a b => by
          rcases a with a | a | a
          · exact a b.len
          · exact a (by rw [hp2.2 b.once, b.len])
          · rw [List.all_eq_false] at a
            obtain ⟨x, hx, hn⟩ := a
            exact hn (decide_eq_true (b.inn x hx))
        simp only [townC, slH, slL]; simp (maxSteps := 4000000) only [go_sem, seval, htl]
        by_cases hO : Ord t.homes.length order
        · have hol := hO.len
          have hpln := hp2.2 hO.once
          have hoa : (order.all fun x => decide (0 ≤ x ∧ x < (t.homes.length : Int))) = true := by
            rw [List.all_eq_true]; intro x hx; exact decide_eq_true (hO.inn x hx)
          have eL : ((order.length : Int) = t.homes.length) = True := eq_true (by omega)
          have eP : (((putAll (fun x => decide (0 ≤ x ∧ x < (t.homes.length : Int))) order.reverse).length : Int) = t.homes.length) = True := eq_true (by omega)
          by_cases hL : calls.length = t.homes.length ∧ preps.length = t.homes.length ∧ (calls.all fun x => decide (t.clo ≤ x ∧ x ≤ t.chi)) = true
          · obtain ⟨hcl, hpl', hca⟩ := hL
            have hcall : ∀ i, i < t.homes.length → t.clo ≤ calls.getD i 0 ∧ calls.getD i 0 ≤ t.chi := fun i hi => by
              rw [List.all_eq_true] at hca; exact of_decide_eq_true (hca _ (getD_mem (by omega)))
            have eC : ((calls.length : Int) = t.homes.length) = True := eq_true (by omega)
            have eQ : ((preps.length : Int) = t.homes.length) = True := eq_true (by omega)
            have hlo := fun k hk => thOut_length (t := t) (calls := calls) (preps := preps) hO k hk
            (repeat' (first
    | ((exfalso; omega))
    | (refine awp_ownN (id := 11) 14 rfl ?_; simp (maxSteps := 4000000) only [go_sem, seval, List.take_succ_cons, List.take_zero, ↓rep_bools, ↓rep_ints, eL, eP, eC, eQ, hca, hoa, decide_true, Bool.not_true])
    | (refine own_go (hal) [] rfl ?_ ?_ rfl ?_ <;> try simp (maxSteps := 4000000) only [go_sem, seval, Nat.lt_irrefl, ↓rep_bools, ↓rep_ints, eL, eP, eC, eQ, hca, hoa, decide_true, Bool.not_true] <;> try decide)
    | (refine awp_ownN (id := 13) 15 rfl ?_; simp (maxSteps := 4000000) only [go_sem, seval, List.take_succ_cons, List.take_zero, ↓rep_bools, ↓rep_ints, eL, eP, eC, eQ, hca, hoa, decide_true, Bool.not_true])
    | (refine own_go (hah) [] rfl ?_ ?_ rfl ?_ <;> try simp (maxSteps := 4000000) only [go_sem, seval, Nat.lt_irrefl, ↓rep_bools, ↓rep_ints, eL, eP, eC, eQ, hca, hoa, decide_true, Bool.not_true] <;> try decide)
    | (refine awp_seqK ?_)
    | (refine kt ?_)
    | (refine And.intro ?_ ?_)
    | ((first | refine awp_region ?_ | refine awp_draw (by kernel_rfl) (by kernel_rfl) ?_ | refine Imp.le2 ?_ | refine awp_label ?_ | refine awp_skip ?_ | refine awp_exit ?_ | refine awp_cd ?_ | refine awp_ret ?_ | refine go_split (fun _h => ?_) (fun _h => ?_)) <;> try simp (maxSteps := 4000000) only [go_sem, seval, ↓rep_bools, ↓rep_ints, eL, eP, eC, eQ, hca, hoa, decide_true, Bool.not_true])
    | (intro _h)
    | (refine awp_block ?_)
    | (refine awp_scope ?_)
    | (refine cond_b (fun _h => ?_) (fun _h => ?_))
    | (show heapOK _ _ = true; kernel_rfl)
    | (show heapOK2 _ _ = true; kernel_rfl)
    | (omega)))
            have hpOK : (∀ k, k < order.length → (t.homes.getD (order.getD k 0).toNat default).lo ≤ preps.getD (order.getD k 0).toNat 0 ∧ preps.getD (order.getD k 0).toNat 0 ≤ (t.homes.getD (order.getD k 0).toNat default).hi) → Tim t calls preps := fun h => ⟨hcl, hpl', hcall, fun i hi => by
              obtain ⟨k, hk, e⟩ := mem_getD (d := 0) (hO.all i hi)
              have := h k hk
              rw [e] at this; simpa using this⟩
            refine awp_loopJ (fun k : Nat => k ≤ order.length ∧ ∀ j, j < k → (t.homes.getD (order.getD j 0).toNat default).lo ≤ preps.getD (order.getD j 0).toNat 0 ∧ preps.getD (order.getD j 0).toNat 0 ≤ (t.homes.getD (order.getD j 0).toNat default).hi) (fun k => ⟨mkT 119 [(1, sl order), (2, sl calls), (3, sl preps), (4, .ptr 0 0 0), (15, .osl 2 0 0 t.homes.length), (16, .int .i64 (thNow order calls k)), (77, sl order), (78, .int .i64 order.length), (79, .int .i64 k)], [some (.cells 39 1 0 (townC t)), none, some (.cells 3 1 0 (ints (thOut t order calls preps k)))], []⟩) (fun k => order.length - k) 0 ⟨Nat.zero_le _, by simp⟩ (.le2 ?_) ?_
            · simp only [townC, slH, slL]; simp (maxSteps := 4000000) only [go_sem, seval]
              first | rfl | exact ⟨rfl, rfl⟩
            · rintro k ⟨hk, hkj⟩
              have hlk := hlo k hk
              rcases Nat.lt_or_eq_of_le hk with hk1 | hk1
              · have hlk1 := hlo (k + 1) hk1
                have hnb := thNow_bd (preps := preps) ht hO hcall k hk
                have hor := hO.at hk1
                have hcb := hcall (order.getD k 0).toNat (by omega)
                obtain ⟨_, h1, h2, _⟩ := ht.home (order.getD k 0).toNat (by omega)
                have e1 : thNow order calls k + calls.getD (order.getD k 0).toNat 0 = thNow order calls (k + 1) := rfl
                have e2 : isp (thOut t order calls preps k) (order.getD k 0).toNat (thNow order calls (k + 1) + preps.getD (order.getD k 0).toNat 0 + (t.homes.getD (order.getD k 0).toNat default).walk) = thOut t order calls preps (k + 1) := rfl
                have hnb1 := thNow_bd (preps := preps) ht hO hcall (k + 1) hk1
                simp only [townC, slH, slL]; simp (maxSteps := 4000000) only [go_sem, seval]
                (repeat' (first
    | ((omega))
    | (refine awp_seqK ?_)
    | (refine kt ?_)
    | (refine And.intro ?_ ?_)
    | ((first | refine awp_region ?_ | refine awp_draw (by kernel_rfl) (by kernel_rfl) ?_ | refine Imp.le2 ?_ | refine awp_label ?_ | refine awp_skip ?_ | refine awp_exit ?_ | refine awp_cd ?_ | refine awp_ret ?_ | refine callK_of (has_c _ _ _) ?_ | refine go_split (fun _h => ?_) (fun _h => ?_)) <;> try simp (maxSteps := 4000000) only [go_sem, seval, hlk, e1, e2])
    | (intro _h)
    | (refine awp_block ?_)
    | (refine awp_scope ?_)
    | (refine cond_b (fun _h => ?_) (fun _h => ?_))
    | (show heapOK _ _ = true; kernel_rfl)
    | (show heapOK2 _ _ = true; kernel_rfl)
    | (omega)))
                all_goals first
                  | (refine ⟨k + 1, ⟨by omega, fun j hji => ?_⟩, by omega, .le2 ?_⟩
                     · rcases Nat.lt_succ_iff_lt_or_eq.1 hji with h | rfl
                       · exact hkj j h
                       · assumption
                     · simp (maxSteps := 4000000) only [go_sem, seval]
                       first | rfl | exact ⟨rfl, rfl⟩ | exact ⟨by omega, rfl⟩)
                  | (have hNT : ¬ Tim t calls preps := fun h => absurd (h.prep (order.getD k 0).toNat (by omega)) (by assumption)
                     rw [← r2 hO hNT]; simp (maxSteps := 4000000) only [go_sem, seval]; done)
                  | trace_state
              · subst hk1
                rw [← r0 hO (hpOK hkj)]
                simp only [townC, slH, slL]; simp (maxSteps := 4000000) only [go_sem, seval]
                (repeat' (first
    | ((exfalso; omega))
    | (refine awp_seqK ?_)
    | (refine kt ?_)
    | (refine And.intro ?_ ?_)
    | ((first | refine awp_region ?_ | refine awp_draw (by kernel_rfl) (by kernel_rfl) ?_ | refine Imp.le2 ?_ | refine awp_label ?_ | refine awp_skip ?_ | refine awp_exit ?_ | refine awp_cd ?_ | refine awp_ret ?_ | refine go_split (fun _h => ?_) (fun _h => ?_)) <;> try simp (maxSteps := 4000000) only [go_sem, seval, hlk])
    | (intro _h)
    | (refine awp_block ?_)
    | (refine awp_scope ?_)
    | (refine cond_b (fun _h => ?_) (fun _h => ?_))
    | (show heapOK _ _ = true; kernel_rfl)
    | (show heapOK2 _ _ = true; kernel_rfl)
    | (omega)))
          · have hN : ¬ Tim t calls preps := fun h => hL ⟨h.lc, h.lp, by
              rw [List.all_eq_true]; intro x hx
              obtain ⟨i, hi, rfl⟩ := mem_getD (d := 0) hx
              exact decide_eq_true (h.call i (by have := h.lc; omega))⟩
            rw [← r2 hO hN]
            (repeat' (first
    | ((exfalso; omega))
    | ((exfalso; exact hL ⟨by omega, by omega, by simpa using (by assumption : (!calls.all fun x => decide (t.clo ≤ x ∧ x ≤ t.chi)) = false)⟩))
    | (refine awp_ownN (id := 11) 14 rfl ?_; simp (maxSteps := 4000000) only [go_sem, seval, List.take_succ_cons, List.take_zero, eL, eP, hoa, decide_true, Bool.not_true])
    | (refine own_go (hal) [] rfl ?_ ?_ rfl ?_ <;> try simp (maxSteps := 4000000) only [go_sem, seval, Nat.lt_irrefl, eL, eP, hoa, decide_true, Bool.not_true] <;> try decide)
    | (refine awp_ownN (id := 13) 15 rfl ?_; simp (maxSteps := 4000000) only [go_sem, seval, List.take_succ_cons, List.take_zero, eL, eP, hoa, decide_true, Bool.not_true])
    | (refine own_go (hah) [] rfl ?_ ?_ rfl ?_ <;> try simp (maxSteps := 4000000) only [go_sem, seval, Nat.lt_irrefl, eL, eP, hoa, decide_true, Bool.not_true] <;> try decide)
    | (refine awp_seqK ?_)
    | (refine kt ?_)
    | (refine And.intro ?_ ?_)
    | ((first | refine awp_region ?_ | refine awp_draw (by kernel_rfl) (by kernel_rfl) ?_ | refine Imp.le2 ?_ | refine awp_label ?_ | refine awp_skip ?_ | refine awp_exit ?_ | refine awp_cd ?_ | refine awp_ret ?_ | refine go_split (fun _h => ?_) (fun _h => ?_)) <;> try simp (maxSteps := 4000000) only [go_sem, seval, eL, eP, hoa, decide_true, Bool.not_true])
    | (intro _h)
    | (refine awp_block ?_)
    | (refine awp_scope ?_)
    | (refine cond_b (fun _h => ?_) (fun _h => ?_))
    | (show heapOK _ _ = true; kernel_rfl)
    | (show heapOK2 _ _ = true; kernel_rfl)
    | (omega)))
            all_goals trace_state
        · rw [← r1 hO]
          (repeat' (first
    | ((exfalso; omega))
    | ((exfalso; exact hO (hord (by omega) (by omega) (by simpa using (by assumption : (!order.all fun x => decide (0 ≤ x ∧ x < (t.homes.length : Int))) = false)))))
    | (refine awp_ownN (id := 11) 14 rfl ?_; simp (maxSteps := 4000000) only [go_sem, seval, List.take_succ_cons, List.take_zero])
    | (refine own_go (hal) [] rfl ?_ ?_ rfl ?_ <;> try simp (maxSteps := 4000000) only [go_sem, seval, Nat.lt_irrefl] <;> try decide)
    | (refine awp_seqK ?_)
    | (refine kt ?_)
    | (refine And.intro ?_ ?_)
    | ((first | refine awp_region ?_ | refine awp_draw (by kernel_rfl) (by kernel_rfl) ?_ | refine Imp.le2 ?_ | refine awp_label ?_ | refine awp_skip ?_ | refine awp_exit ?_ | refine awp_cd ?_ | refine awp_ret ?_ | refine go_split (fun _h => ?_) (fun _h => ?_)) <;> try simp (maxSteps := 4000000) only [go_sem, seval])
    | (intro _h)
    | (refine awp_block ?_)
    | (refine awp_scope ?_)
    | (refine cond_b (fun _h => ?_) (fun _h => ?_))
    | (show heapOK _ _ = true; kernel_rfl)
    | (show heapOK2 _ _ = true; kernel_rfl)
    | (omega)))
          all_goals trace_state
  · have e0 : (faultT t = 0) = False := eq_false h0
    have hr : .tup [.nils, .int .i64 (faultT t)] = AV.tup [thereV t order calls preps, .int .i64 (thereE t order calls preps)] := by
      have : thereE t order calls preps = faultT t := by simp [thereE, h0]
      simp [thereV, this, h0]
    rw [← hr]
    simp only [townC, slH, slL, sl] at hch
    (refine callS_of_awp (fun w args => Tryz.call12 ..) Tryz.func12 rfl (fun w0 m0 wz => ?_); simp only [Tryz.ntmps12, Tryz.results12, initT, junks, homeC, hallC, slH, slL, townC, sl, List.toList_toArray, List.cons_append, List.nil_append, List.length_cons, List.length_nil, Nat.reduceAdd, Nat.reduceSub])
    (repeat' (first
    | (refine awp_seqK ?_)
    | (refine kt ?_)
    | (refine And.intro ?_ ?_)
    | ((first | refine awp_region ?_ | refine awp_draw (by kernel_rfl) (by kernel_rfl) ?_ | refine Imp.le2 ?_ | refine awp_label ?_ | refine awp_skip ?_ | refine awp_exit ?_ | refine awp_cd ?_ | refine awp_ret ?_ | refine callK_of (hch) ?_ | refine go_split (fun _h => ?_) (fun _h => ?_)) <;> try simp (maxSteps := 4000000) only [go_sem, seval, e0, decide_false])
    | (intro _h)
    | (refine awp_block ?_)
    | (refine awp_scope ?_)
    | (refine cond_b (fun _h => ?_) (fun _h => ?_))
    | (show heapOK _ _ = true; kernel_rfl)
    | (show heapOK2 _ _ = true; kernel_rfl)
    | (omega)))
end Go.Am

/- Plain words: sorting by sinking, as slices does for short lists. No program is in sight. -/
namespace Go.Am
set_option linter.unusedSimpArgs false
set_option linter.unusedVariables false

/-- Two neighbours change places. -/
def swp2 (l : List Int) (j : Nat) : List Int := isp (isp l (j + 1) (l.getD j 0)) j (l.getD (j + 1) 0)
theorem swp2_length {l : List Int} {j : Nat} (h : j + 1 < l.length) : (swp2 l j).length = l.length := by
  unfold swp2
  rw [isp_length (by rw [isp_length h]; omega), isp_length h]
theorem swp2_eq {l : List Int} {j : Nat} (h : j + 1 < l.length) : swp2 l j = l.take j ++ l.getD (j + 1) 0 :: l.getD j 0 :: l.drop (j + 2) := by
  have h1 : (isp l (j + 1) (l.getD j 0)).take j = l.take j := by
    unfold isp
    rw [List.take_append_of_le_length (by simp; omega), List.take_take, Nat.min_eq_left (by omega)]
  have h2 : (isp l (j + 1) (l.getD j 0)).drop (j + 1) = l.getD j 0 :: l.drop (j + 2) := by
    unfold isp
    have : (l.take (j + 1)).length = j + 1 := by simp; omega
    rw [List.drop_append, this, Nat.sub_self, List.drop_zero, List.drop_eq_nil_of_le (by omega), List.nil_append]
  unfold swp2
  rw [isp, h1, h2]
theorem split2 {l : List Int} {j : Nat} (h : j + 1 < l.length) : l = l.take j ++ l.getD j 0 :: l.getD (j + 1) 0 :: l.drop (j + 2) := by
  have h1 : l.drop j = l.getD j 0 :: l.drop (j + 1) := by
    rw [List.drop_eq_getElem_cons (by omega)]; simp [List.getD_eq_getElem?_getD, show j < l.length by omega]
  have h2 : l.drop (j + 1) = l.getD (j + 1) 0 :: l.drop (j + 2) := by
    rw [List.drop_eq_getElem_cons (by omega)]; simp [List.getD_eq_getElem?_getD, h]
  rw [← h2, ← h1, List.take_append_drop]
theorem swp2_perm {l : List Int} {j : Nat} (h : j + 1 < l.length) : (swp2 l j).Perm l := by
  rw [swp2_eq h]
  conv => rhs; rw [split2 h]
  exact List.Perm.append_left _ (List.Perm.swap _ _ _)

/-- The element at a place sinks as long as it is less than the one before it. -/
def sink (lt : Int → Int → Bool) : Nat → List Int → List Int
  | 0, l => l
  | j + 1, l => if lt (l.getD (j + 1) 0) (l.getD j 0) = true then sink lt j (swp2 l j) else l
def isort (lt : Int → Int → Bool) (l : List Int) : Nat → List Int
  | 0 => l
  | k + 1 => sink lt k (isort lt l k)
theorem sink_perm {lt : Int → Int → Bool} : ∀ (j : Nat) (l : List Int), j < l.length → (sink lt j l).Perm l
  | 0, l, _ => .refl _
  | j + 1, l, h => by
    simp only [sink]
    split
    · exact (sink_perm j _ (by rw [swp2_length h]; omega)).trans (swp2_perm h)
    · exact .refl _
theorem isort_perm {lt : Int → Int → Bool} {l : List Int} : ∀ k, k ≤ l.length → (isort lt l k).Perm l
  | 0, _ => .refl _
  | k + 1, h => by
    have h1 := isort_perm (lt := lt) (l := l) k (by omega)
    simp only [isort]
    exact (sink_perm k _ (by rw [h1.length_eq]; omega)).trans h1
theorem isort_length {lt : Int → Int → Bool} {l : List Int} {k : Nat} (h : k ≤ l.length) : (isort lt l k).length = l.length := (isort_perm k h).length_eq
theorem getD_app {l r : List Int} {j : Nat} (h : j < l.length) : (l ++ r).getD j 0 = l.getD j 0 := by
  simp [List.getD_eq_getElem?_getD, List.getElem?_append_left h]
theorem sink_app {lt : Int → Int → Bool} {r : List Int} : ∀ (j : Nat) (l : List Int), j < l.length → sink lt j (l ++ r) = sink lt j l ++ r
  | 0, l, _ => rfl
  | j + 1, l, h => by
    simp only [sink]
    rw [getD_app h, getD_app (by omega)]
    have : swp2 (l ++ r) j = swp2 l j ++ r := by
      rw [swp2_eq (by simp; omega), swp2_eq h, getD_app h, getD_app (by omega), List.take_append_of_le_length (by omega)]
      rw [List.drop_append_of_le_length (by omega)]
      simp
    rw [this]
    split
    · exact sink_app j _ (by rw [swp2_length h]; omega)
    · rfl
/-- Sorting the first ones leaves the others. -/
theorem isort_app {lt : Int → Int → Bool} {l r : List Int} : ∀ k, k ≤ l.length → isort lt (l ++ r) k = isort lt l k ++ r
  | 0, _ => rfl
  | k + 1, h => by
    simp only [isort]
    rw [isort_app k (by omega), sink_app k _ (by rw [isort_length (by omega)]; omega)]
/-- The numbers from 0 on. -/
def upTo (n : Nat) : List Int := tab n fun i => (i : Int)
theorem upTo_length {n : Nat} : (upTo n).length = n := tab_length
theorem upTo_succ {n : Nat} : upTo (n + 1) = upTo n ++ [(n : Int)] := by simp [upTo, tab, List.range_succ]
theorem upTo_mem {n : Nat} {x : Int} : x ∈ upTo n ↔ 0 ≤ x ∧ x < n := by
  simp only [upTo, tab, List.mem_map, List.mem_range]
  constructor
  · rintro ⟨i, h, rfl⟩; omega
  · rintro ⟨h1, h2⟩; exact ⟨x.toNat, by omega, by omega⟩
theorem upTo_nodup : ∀ {n : Nat}, (upTo n).Nodup
  | 0 => by simp [upTo, tab]
  | n + 1 => by
    rw [upTo_succ, List.nodup_append]
    refine ⟨upTo_nodup, by simp, fun a ha b hb => ?_⟩
    rw [upTo_mem] at ha
    simp only [List.mem_singleton] at hb
    omega
/-- The first ones sorted, one more added and sunk. -/
theorem isort_step {lt : Int → Int → Bool} {n : Nat} : isort lt (upTo (n + 1)) (n + 1) = sink lt n (isort lt (upTo n) n ++ [(n : Int)]) := by
  simp only [isort]
  rw [upTo_succ, isort_app n (by rw [upTo_length]; omega)]

/-- Each element is not less than those before it. -/
def Sorted (key : Int → Int) (l : List Int) : Prop := l.Pairwise fun a b => key a ≤ key b
end Go.Am
