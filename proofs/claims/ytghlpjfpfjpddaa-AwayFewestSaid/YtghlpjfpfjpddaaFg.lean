/- Parts TpA, TpB of the proof, one behind the other. No statement is proved here. -/
import Derived.Test.YtghlpjfpfjpddaaEc
import Derived.Test.YtghlpjfpfjpddaaEd
/- A right plan: how many buses, how many people. Fewer buses than the fewest are never right. -/
namespace Go.Am
open Go.RowKit Go.Proofs
set_option linter.unusedSimpArgs false
set_option linter.unusedVariables false

theorem sumN_const {c : Int} : ∀ k : Nat, sumN (fun _ => c) k = k * c
  | 0 => by simp [sumN]
  | k + 1 => by
    simp only [sumN, sumN_const k]
    rw [Int.natCast_succ, Int.add_mul, Int.one_mul]
theorem sumN_if {p : Nat → Prop} [DecidablePred p] {c : Int} : ∀ k : Nat, sumN (fun j => if p j then c else 0) k = c * sumN (fun j => if p j then 1 else 0) k
  | 0 => by simp [sumN]
  | k + 1 => by
    simp only [sumN]
    rw [sumN_if k (c := c), Int.mul_add]
    split
    · rw [Int.mul_one]
    · rw [Int.mul_zero]
theorem sumN_one {f : Nat → Int} {n a : Nat} (hf : ∀ i, i < n → 0 ≤ f i) (ha : a < n) : f a ≤ sumN f n := by
  have e : sumN (fun i => if i = a then f a else 0) n ≤ sumN f n := sumN_le fun i hi => by
    by_cases h1 : i = a
    · subst h1; rw [if_pos rfl]; exact Int.le_refl _
    · rw [if_neg h1]; exact hf i hi
  rw [sumN_pick, if_pos ha] at e
  exact e
theorem right_sum {t : Town} {P : List Bus} (ht : TownOK t) (hq : rightB t P = true) : sumN (fun h => peo t h) t.homes.length ≤ P.length * t.seats ∧ 1 ≤ P.length ∧ P.length ≤ t.homes.length := by
  have R := (refR_iff ht).1 hq
  have hln := ht.homes
  refine ⟨?_, ?_, ?_⟩
  · have h1 : sumN (fun j => ppl t (P.getD j default).homes) P.length ≤ P.length * t.seats := by
      rw [← sumN_const (c := t.seats) P.length]
      refine sumN_le fun j hj => ?_
      have := (R.one j hj).1.may
      simp only [mayB, Bool.and_eq_true, decide_eq_true_eq] at this
      exact this.1.1
    have h2 : sumN (fun j => ppl t (P.getD j default).homes) P.length = sumN (fun h => sumN (fun j => if (h : Int) ∈ (P.getD j default).homes then peo t h else 0) P.length) 8 := by
      rw [sumN_swap]
      refine sumN_congr fun j hj => ?_
      have ho := R.one j hj
      exact ppl_sum ((rise_pw ho.2).imp (fun h => by omega)) (fun x hx => by have := ho.1.homes x hx; omega)
    have h3 : sumN (fun h => if h < t.homes.length then peo t h else 0) 8 ≤ sumN (fun h => sumN (fun j => if (h : Int) ∈ (P.getD j default).homes then peo t h else 0) P.length) 8 := by
      refine sumN_le fun h hh => ?_
      rw [sumN_if (p := fun j => (h : Int) ∈ (P.getD j default).homes)]
      by_cases hn : h < t.homes.length
      · have := R.cnt h hn
        unfold cntN at this
        rw [if_pos hn, this]; omega
      · have e0 : peo t h = 0 := by
          unfold peo
          simp [List.getD_eq_getElem?_getD, List.getElem?_eq_none (show t.homes.length ≤ h by omega)]; rfl
        rw [if_neg hn, e0, Int.zero_mul]; exact Int.le_refl _
    have h4 : sumN (fun h => if h < t.homes.length then peo t h else 0) 8 = sumN (fun h => peo t h) t.homes.length := by
      have key : ∀ d, t.homes.length + d ≤ 8 → sumN (fun h => if h < t.homes.length then peo t h else 0) (t.homes.length + d) = sumN (fun h => peo t h) t.homes.length := by
        intro d
        induction d with
        | zero => intro _; exact sumN_congr fun h hh => if_pos hh
        | succ d ih =>
          intro hd
          rw [← Nat.add_assoc]
          simp only [sumN]
          rw [ih (by omega), if_neg (by omega)]; omega
      have := key (8 - t.homes.length) (by omega)
      rwa [show t.homes.length + (8 - t.homes.length) = 8 by omega] at this
    omega
  · rcases Nat.eq_zero_or_pos P.length with h | h
    · have := R.cnt 0 (by omega)
      rw [h] at this
      simp [cntN, sumN] at this
    · exact h
  · have h1 : (P.length : Int) ≤ sumN (fun j => sumN (fun h => if (h : Int) ∈ (P.getD j default).homes then 1 else 0) t.homes.length) P.length := by
      have e := sumN_const (c := 1) P.length
      rw [Int.mul_one] at e
      rw [← e]
      refine sumN_le fun j hj => ?_
      have ho := (R.one j hj).1
      have hp := List.length_pos_iff.2 ho.some
      have hx := ho.homes _ (getD_mem (d := 0) (i := 0) hp)
      have := sumN_one (f := fun h => if (h : Int) ∈ (P.getD j default).homes then 1 else 0) (n := t.homes.length) (a := ((P.getD j default).homes.getD 0 0).toNat) (fun i _ => by split <;> omega) (by omega)
      rw [if_pos (by rw [show ((((P.getD j default).homes.getD 0 0).toNat : Nat) : Int) = (P.getD j default).homes.getD 0 0 by omega]; exact getD_mem (d := 0) (i := 0) hp)] at this
      exact this
    rw [← sumN_swap] at h1
    have h2 : sumN (fun h => sumN (fun j => if (h : Int) ∈ (P.getD j default).homes then 1 else 0) P.length) t.homes.length = sumN (fun _ => 1) t.homes.length := sumN_congr fun h hh => R.cnt h hh
    rw [h2, sumN_const] at h1
    omega
/-- Fewer buses than the fewest. -/
theorem few_not {t : Town} (h0 : faultT t = 0) (hE : planE t = 0) {Q : List Bus} (h : Q.length < (planL t).length) : proveB t Q = false := by
  unfold proveB
  cases hq : rightB t Q
  · simp
  · have h1 := (plan_few h0 hq).1
    have h2 := (plan_right h0 hE).2
    omega
end Go.Am

/- The law AwayFewest, as a contract: it returns true. -/
namespace Go.Am
open Go.RowKit Go.Proofs
attribute [local irreducible] AWP CallS Kt goK CallK stepK evOps SemF SemY Imp
set_option maxRecDepth 4000
set_option linter.unusedSimpArgs false
set_option linter.unusedVariables false
set_option maxHeartbeats 3200000

def peoN (t : Town) (k : Nat) : Int := sumN (fun h => peo t h) k
theorem peoN_bd {t : Town} (ht : TownOK t) : ∀ k, k ≤ t.homes.length → 0 ≤ peoN t k ∧ peoN t k ≤ 200 * k
  | 0, _ => by simp [peoN, sumN]
  | k + 1, h => by
    have h1 := peoN_bd ht k (by omega)
    have h2 := (ht.home k (by omega)).people
    simp only [peoN, sumN, peo] at h1 ⊢
    omega
theorem few_nine (t : Town) (plan : List Bus) (one two : Int) (h1 : 0 ≤ one ∧ one ≤ 255) (h2 : 0 ≤ two ∧ two ≤ 255) (hR : readyB t = true) (hS : shortB plan = true) (hE : planE t ≠ 0) : CallS Try.prog 3 [.agg (townC t), slB plan, .int .u8 one, .int .u8 two] (.bool true) := by
  have hre := ready_c t
  have hsh := short_c plan
  have hA := awake_c
  rw [hR] at hre
  rw [hS] at hsh
  obtain ⟨hb, h0⟩ := ready_ok hR
  obtain ⟨hP, hP1, hP2⟩ := shortB_ok hS
  have hto := Town_c t hb
  have hpl := Plan_c t hb
  have hpt := planTo_c plan hP
  have hpr := prove_c t plan hb hP
  have hE9 := planE_nine h0 hE
  have eV : planV t = .nils := by simp [planV, hE9]
  have hb1 : proveB t plan = false := by
    cases hq : proveB t plan
    · rfl
    · unfold proveB at hq
      simp only [Bool.and_eq_true, decide_eq_true_eq, h0, true_and] at hq
      exact absurd (plan_few h0 hq).2 hE
  rw [hE9, eV] at hpl
  rw [hb1] at hpr
  simp only [slB, townC, slH, slL, sl] at hre hsh hto hpl hpt hpr ⊢
  (refine callS_of_awp (fun w args => Try.call3 ..) Try.func3 rfl (fun w0 m0 wz => ?_); simp only [Try.ntmps3, Try.results3, initT, junks, homeC, hallC, slH, slL, townC, sl, List.toList_toArray, List.cons_append, List.nil_append, List.length_cons, List.length_nil, Nat.reduceAdd, Nat.reduceSub])
  (repeat' (first
    | ((exfalso; omega))
    | (refine awp_seqK ?_)
    | (refine kt ?_)
    | (refine And.intro ?_ ?_)
    | ((first | refine awp_region ?_ | refine awp_draw (by kernel_rfl) (by kernel_rfl) ?_ | refine Imp.le2 ?_ | refine awp_label ?_ | refine awp_skip ?_ | refine awp_exit ?_ | refine awp_cd ?_ | refine awp_ret ?_ | refine callK_of (hre) ?_ | refine callK_of (hsh) ?_ | refine callK_of (hto) ?_ | refine callK_of (hpl) ?_ | refine callK_of (hpt) ?_ | refine callK_of (hpr) ?_ | refine callK_of (hA) ?_ | refine go_split (fun _h => ?_) (fun _h => ?_)) <;> try simp (maxSteps := 4000000) only [go_sem, seval, decide_true, decide_false])
    | (intro _h)
    | (refine awp_block ?_)
    | (refine awp_scope ?_)
    | (refine cond_b (fun _h => ?_) (fun _h => ?_))
    | (show heapOK _ _ = true; kernel_rfl)
    | (show heapOK2 _ _ = true; kernel_rfl)
    | (omega)))
  all_goals trace_state
theorem few_out (t : Town) (plan : List Bus) (one two : Int) (h : readyB t = false ∨ readyB t = true ∧ shortB plan = false) : CallS Try.prog 3 [.agg (townC t), slB plan, .int .u8 one, .int .u8 two] (.bool true) := by
  have hre := ready_c t
  have hsh := short_c plan
  have hA := awake_c
  rcases h with hR | ⟨hR, hS⟩
  · rw [hR] at hre
    simp only [slB, townC, slH, slL] at hre ⊢
    (refine callS_of_awp (fun w args => Try.call3 ..) Try.func3 rfl (fun w0 m0 wz => ?_); simp only [Try.ntmps3, Try.results3, initT, junks, homeC, hallC, slH, slL, townC, sl, List.toList_toArray, List.cons_append, List.nil_append, List.length_cons, List.length_nil, Nat.reduceAdd, Nat.reduceSub])
    (repeat' (first
    | (refine awp_seqK ?_)
    | (refine kt ?_)
    | (refine And.intro ?_ ?_)
    | ((first | refine awp_region ?_ | refine awp_draw (by kernel_rfl) (by kernel_rfl) ?_ | refine Imp.le2 ?_ | refine awp_label ?_ | refine awp_skip ?_ | refine awp_exit ?_ | refine awp_cd ?_ | refine awp_ret ?_ | refine callK_of (hre) ?_ | refine callK_of (hA) ?_ | refine go_split (fun _h => ?_) (fun _h => ?_)) <;> try simp (maxSteps := 4000000) only [go_sem, seval])
    | (intro _h)
    | (refine awp_block ?_)
    | (refine awp_scope ?_)
    | (refine cond_b (fun _h => ?_) (fun _h => ?_))
    | (show heapOK _ _ = true; kernel_rfl)
    | (show heapOK2 _ _ = true; kernel_rfl)
    | (omega)))
  · rw [hR] at hre
    rw [hS] at hsh
    simp only [slB, townC, slH, slL] at hre hsh ⊢
    (refine callS_of_awp (fun w args => Try.call3 ..) Try.func3 rfl (fun w0 m0 wz => ?_); simp only [Try.ntmps3, Try.results3, initT, junks, homeC, hallC, slH, slL, townC, sl, List.toList_toArray, List.cons_append, List.nil_append, List.length_cons, List.length_nil, Nat.reduceAdd, Nat.reduceSub])
    (repeat' (first
    | (refine awp_seqK ?_)
    | (refine kt ?_)
    | (refine And.intro ?_ ?_)
    | ((first | refine awp_region ?_ | refine awp_draw (by kernel_rfl) (by kernel_rfl) ?_ | refine Imp.le2 ?_ | refine awp_label ?_ | refine awp_skip ?_ | refine awp_exit ?_ | refine awp_cd ?_ | refine awp_ret ?_ | refine callK_of (hre) ?_ | refine callK_of (hsh) ?_ | refine callK_of (hA) ?_ | refine go_split (fun _h => ?_) (fun _h => ?_)) <;> try simp (maxSteps := 4000000) only [go_sem, seval])
    | (intro _h)
    | (refine awp_block ?_)
    | (refine awp_scope ?_)
    | (refine cond_b (fun _h => ?_) (fun _h => ?_))
    | (show heapOK _ _ = true; kernel_rfl)
    | (show heapOK2 _ _ = true; kernel_rfl)
    | (omega)))
end Go.Am
