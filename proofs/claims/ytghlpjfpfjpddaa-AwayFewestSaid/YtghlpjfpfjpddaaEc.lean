/- Parts TmP, TmB of the proof, one behind the other. No statement is proved here. -/
import Derived.Test.YtghlpjfpfjpddaaE6
import Derived.Test.YtghlpjfpfjpddaaEb
/- When a bus may be in a plan, looked at alone. -/
namespace Go.Am
open Go.RowKit Go.Proofs
set_option linter.unusedSimpArgs false
set_option linter.unusedVariables false

def riseB (l : List Int) : Prop := ∀ i, 0 < i → i < l.length → l.getD (i - 1) 0 < l.getD i 0
/-- May a bus be in a plan, looked at alone? -/
def OneP (t : Town) (b : Bus) : Prop := BusG t b ∧ riseB b.homes
open Classical in
noncomputable def oneB (t : Town) (b : Bus) : Bool := decide (OneP t b)
theorem one_yes {t : Town} {b : Bus} (h : OneP t b) : true = oneB t b := by unfold oneB; exact (@decide_eq_true _ (Classical.propDecidable _) h).symm
theorem one_no {t : Town} {b : Bus} (h : ¬ OneP t b) : false = oneB t b := by unfold oneB; exact (@decide_eq_false _ (Classical.propDecidable _) h).symm
end Go.Am

/- Contracts of the away functions: whether a plan is right, by the reference. -/
namespace Go.Am
open Go.RowKit Go.Proofs
set_option linter.unusedSimpArgs false
set_option linter.unusedVariables false

def cntN (P : List Bus) (k h : Nat) : Int := sumN (fun j => if (h : Int) ∈ (P.getD j default).homes then 1 else 0) k
def roomN (t : Town) (P : List Bus) (k i : Nat) : Int := sumN (fun j => if (P.getD j default).hall.toNat = i then ppl t (P.getD j default).homes else 0) k
structure RefR (t : Town) (P : List Bus) : Prop where
  len : P.length ≤ 8
  one : ∀ j, j < P.length → OneP t (P.getD j default)
  cnt : ∀ h, h < t.homes.length → cntN P P.length h = 1
  roo : ∀ i, i < t.halls.length → roomN t P P.length i ≤ (t.halls.getD i default).room
theorem rise_pw {l : List Int} (h : riseB l) : l.Pairwise (· < ·) := by
  rw [List.pairwise_iff_getElem]
  intro i j hi hj hij
  have key : ∀ d, i + d + 1 < l.length → l.getD i 0 < l.getD (i + d + 1) 0 := by
    intro d
    induction d with
    | zero => intro h1; have := h (i + 0 + 1) (by omega) h1; simpa using this
    | succ d ih =>
      intro h1
      have h2 := ih (by omega)
      have h3 := h (i + (d + 1) + 1) (by omega) h1
      rw [show i + (d + 1) + 1 - 1 = i + d + 1 by omega] at h3
      omega
  have := key (j - i - 1) (by omega)
  rw [show i + (j - i - 1) + 1 = j by omega] at this
  simpa [List.getD_eq_getElem?_getD, hi, hj] using this
theorem rise_le {t : Town} {b : Bus} (h : OneP t b) : b.homes.length ≤ t.homes.length := nodup_le _ _ ((rise_pw h.2).imp (fun h => by omega)) h.1.homes
theorem sumN_two {f : Nat → Int} {n a b : Nat} (hf : ∀ i, i < n → 0 ≤ f i) (ha : a < b) (hb : b < n) : f a + f b ≤ sumN f n := by
  have e : sumN (fun i => (if i = a then f a else 0) + (if i = b then f b else 0)) n ≤ sumN f n := sumN_le fun i hi => by
    by_cases h1 : i = a
    · subst h1
      rw [if_pos rfl, if_neg (by omega)]; omega
    · rw [if_neg h1]
      by_cases h2 : i = b
      · subst h2; rw [if_pos rfl]; omega
      · rw [if_neg h2]; have := hf i hi; omega
  rw [sumN_add, sumN_pick, sumN_pick, if_pos (by omega), if_pos hb] at e
  exact e
theorem refR_run {t : Town} {P : List Bus} (ht : TownOK t) (h : RefR t P) : ∀ k, k ≤ P.length → ∃ S, runN t P k = some S
  | 0, _ => ⟨_, rfl⟩
  | k + 1, hk => by
    obtain ⟨⟨I, R⟩, hS⟩ := refR_run ht h k (by omega)
    have hI := runI ht k _ hS
    obtain ⟨l1, l2, l3⟩ := runN_length ht k _ hS
    have ho := h.one k (by omega)
    have hf : ∀ x ∈ (P.getD k default).homes, I.getD x.toNat false = false := fun x hx => by
      have h1 := ho.1.homes x hx
      cases e : I.getD x.toNat false
      · rfl
      · obtain ⟨j, hj, hm⟩ := (hI.mark x.toNat (by omega)).1 e
        have h2 := sumN_two (f := fun j => if ((x.toNat : Nat) : Int) ∈ (P.getD j default).homes then 1 else 0) (n := P.length) (a := j) (b := k) (fun i _ => by split <;> omega) hj (by omega)
        rw [show ((x.toNat : Nat) : Int) = x by omega] at hm h2
        simp only [hm, hx, if_true] at h2
        have h3 := h.cnt x.toNat (by omega)
        unfold cntN at h3
        rw [show ((x.toNat : Nat) : Int) = x by omega] at h3
        omega
    obtain ⟨J, hJ⟩ := mark_ok l1 ho.1.homes (rise_pw ho.2) hf _ (Nat.le_refl _)
    refine ⟨(J, isp R (P.getD k default).hall.toNat (R.getD (P.getD k default).hall.toNat 0 + ppl t (P.getD k default).homes)), ?_⟩
    simp only [runN, hS]
    unfold busN
    rw [if_pos ho.1]
    show (match markN (P.getD k default).homes I (P.getD k default).homes.length with | none => none | some J => some (J, isp R (P.getD k default).hall.toNat (R.getD (P.getD k default).hall.toNat 0 + ppl t (P.getD k default).homes))) = _
    rw [hJ]
theorem refR_iff {t : Town} {P : List Bus} (ht : TownOK t) : rightB t P = true ↔ RefR t P := by
  constructor
  · intro h
    obtain ⟨S, hS, h8, hroom, hall⟩ := rightB_some h
    have R := runI ht _ S hS
    obtain ⟨l1, l2, l3⟩ := runN_length ht _ S hS
    refine ⟨h8, fun j hj => ⟨(R.bus j hj).1, fun i h0 hi => ?_⟩, fun h hh => ?_, fun i hi => by have := hroom i hi; rw [R.room i hi] at this; exact this⟩
    · have hpre : ∀ k, k ≤ P.length → ∃ S, runN t P k = some S := by
        intro k hk
        cases hr : runN t P k with
        | some S => exact ⟨S, rfl⟩
        | none =>
          have : ∀ d, runN t P (k + d) = none := fun d => by
            induction d with
            | zero => exact hr
            | succ d ih => rw [← Nat.add_assoc]; simp only [runN, ih]
          have h9 := this (P.length - k)
          rw [show k + (P.length - k) = P.length by omega, hS] at h9
          cases h9
      obtain ⟨⟨I, Rr⟩, hSj⟩ := hpre j (by omega)
      obtain ⟨hG, J, hJ, _⟩ := runN_pre hS hj hSj
      have hmk : ∀ k, k ≤ (P.getD j default).homes.length → ∃ J', markN (P.getD j default).homes I k = some J' := by
        intro k hk
        cases hr : markN (P.getD j default).homes I k with
        | some S => exact ⟨S, rfl⟩
        | none =>
          have : ∀ d, markN (P.getD j default).homes I (k + d) = none := fun d => by
            induction d with
            | zero => exact hr
            | succ d ih => rw [← Nat.add_assoc]; simp only [markN, ih]
          have h9 := this ((P.getD j default).homes.length - k)
          rw [show k + ((P.getD j default).homes.length - k) = (P.getD j default).homes.length by omega, hJ] at h9
          cases h9
      obtain ⟨J', hJ'⟩ := hmk i (by omega)
      exact (markN_pre hJ hi hJ').2.2 h0
    · have hm : ∃ j, j < P.length ∧ (h : Int) ∈ (P.getD j default).homes := by
        refine (R.mark h hh).1 ?_
        rw [List.any_eq_false] at hall
        have := hall _ (getD_mem (d := false) (i := h) (by omega))
        simpa using this
      obtain ⟨j0, hj0, hm⟩ := hm
      unfold cntN
      have e : sumN (fun j => if (h : Int) ∈ (P.getD j default).homes then 1 else 0) P.length = sumN (fun j => if j = j0 then 1 else 0) P.length := by
        refine sumN_congr fun j hj => ?_
        by_cases e1 : j = j0
        · subst e1; rw [if_pos hm, if_pos rfl]
        · rw [if_neg e1, if_neg]
          intro hm2
          rcases Nat.lt_or_gt_of_ne e1 with h1 | h1
          · exact R.once _ _ h1 hj0 _ hm2 hm
          · exact R.once _ _ h1 hj _ hm hm2
      rw [e, sumN_pick, if_pos hj0]
  · intro h
    obtain ⟨⟨I, Rr⟩, hS⟩ := refR_run ht h P.length (Nat.le_refl _)
    have R := runI ht _ _ hS
    obtain ⟨l1, l2, l3⟩ := runN_length ht _ _ hS
    unfold rightB
    rw [hS]
    simp only [Bool.and_eq_true, decide_eq_true_eq, Bool.not_eq_true']
    refine ⟨⟨h.len, fun i hi => ?_⟩, ?_⟩
    · have := h.roo i hi
      rw [R.room i hi]; exact this
    · rw [List.any_eq_false]
      intro x hx
      obtain ⟨i, hi, rfl⟩ := mem_getD (d := false) hx
      have hc := h.cnt i (by simp only at l1; omega)
      cases e : I.getD i false
      · exfalso
        have hz : cntN P P.length i = 0 := by
          unfold cntN
          rw [sumN_congr (g := fun _ => 0), sumN_zero]
          intro j hj
          rw [if_neg]
          intro hm
          have := (R.mark i (by simp only at l1; omega)).2 ⟨j, hj, hm⟩
          simp only at this
          rw [e] at this; cases this
        omega
      · simp
end Go.Am
