/- Parts TjF of the proof, one behind the other. No statement is proved here. -/
import Derived.Test.YtghlpjfpfjpddaaE6
import Derived.Test.YtghlpjfpfjpddaaE4
/- Plain words: when people are there at the latest; how a right plan is gone through. No program is in sight. -/
namespace Go.Am
set_option linter.unusedSimpArgs false
set_option linter.unusedVariables false

theorem thNow_le {t : Town} {order calls : List Int} (ht : TownOK t) (ho : Ord t.homes.length order) (hc : ∀ i, i < t.homes.length → t.clo ≤ calls.getD i 0 ∧ calls.getD i 0 ≤ t.chi) : ∀ k, k ≤ order.length → thNow order calls k ≤ k * t.chi
  | 0, _ => by simp [thNow]
  | k + 1, h => by
    have := thNow_le ht ho hc k (by omega)
    have h2 := ho.at (k := k) (by omega)
    have h3 := hc (order.getD k 0).toNat (by omega)
    have e : ((k + 1 : Nat) : Int) * t.chi = (k : Int) * t.chi + t.chi := by
      rw [show ((k + 1 : Nat) : Int) = (k : Int) + 1 by omega, Int.add_mul, Int.one_mul]
    simp only [thNow]
    omega
theorem worstN_nonneg {t : Town} (ht : TownOK t) {h : Nat} (hh : h < t.homes.length) : 0 ≤ worstN t (t.homes.getD h default) := by
  obtain ⟨_, hp, hw, _⟩ := ht.home h hh
  have hc := ht.call
  have := Int.mul_nonneg (a := (t.homes.length : Int)) (b := t.chi) (by omega) (by omega)
  unfold worstN; omega
theorem thOut_le {t : Town} {order calls preps : List Int} (ht : TownOK t) (ho : Ord t.homes.length order) (hm : Tim t calls preps) : ∀ k, k ≤ order.length → ∀ h, h < t.homes.length → (thOut t order calls preps k).getD h 0 ≤ worstN t (t.homes.getD h default)
  | 0, _, h, hh => by
    simp only [thOut, tab_getD hh]; exact worstN_nonneg ht hh
  | k + 1, hk, h, hh => by
    have ih := thOut_le ht ho hm k (by omega) h hh
    have hl := thOut_length (t := t) (calls := calls) (preps := preps) ho k (by omega)
    have h2 := ho.at (k := k) (by omega)
    simp only [thOut]
    rw [isp_getD (by omega)]
    split
    · rename_i e
      have h3 := thNow_le ht ho hm.call (k + 1) hk
      have h4 := (hm.prep h hh).2
      have hc := ht.call
      have h5 : ((k + 1 : Nat) : Int) * t.chi ≤ t.homes.length * t.chi := Int.mul_le_mul_of_nonneg_right (by have := ho.len; omega) (by omega)
      rw [← e]
      unfold worstN
      omega
    · exact ih
/-- Marks as numbers. -/
def cntL (I : List Bool) : List Int := I.map fun b => if b then 1 else 0
theorem cntL_length {I : List Bool} : (cntL I).length = I.length := by simp [cntL]
theorem cntL_getD {I : List Bool} {j : Nat} (h : j < I.length) : (cntL I).getD j 0 = if I.getD j false = true then 1 else 0 := by
  simp [cntL, List.getD_eq_getElem?_getD, h]
theorem cntL_isp {I : List Bool} {j : Nat} : cntL (isp I j true) = isp (cntL I) j 1 := by
  simp [cntL, isp, List.map_take, List.map_drop]
theorem cntL_tab {n : Nat} : cntL (tab n fun _ => false) = tab n fun _ => 0 := by simp [cntL, tab]
/-- A plan that can be gone through can be gone through as far as one likes. -/
theorem runN_pre {t : Town} {P : List Bus} {S : List Bool × List Int} (h : runN t P P.length = some S) {k : Nat} (hk : k < P.length) {I : List Bool} {R : List Int} (hS : runN t P k = some (I, R)) :
    BusG t (P.getD k default) ∧ ∃ J, markN (P.getD k default).homes I (P.getD k default).homes.length = some J ∧ runN t P (k + 1) = some (J, isp R (P.getD k default).hall.toNat (R.getD (P.getD k default).hall.toNat 0 + ppl t (P.getD k default).homes)) := by
  have hnx : runN t P (k + 1) = busN t (P.getD k default) (I, R) := by simp only [runN, hS]
  have hne : runN t P (k + 1) ≠ none := fun e => by
    have : ∀ d, runN t P (k + 1 + d) = none := fun d => by
      induction d with
      | zero => exact e
      | succ d ih => rw [← Nat.add_assoc]; simp only [runN, ih]
    have h9 := this (P.length - (k + 1))
    rw [show k + 1 + (P.length - (k + 1)) = P.length by omega, h] at h9
    cases h9
  rw [hnx] at hne ⊢
  unfold busN at hne ⊢
  by_cases hG : BusG t (P.getD k default)
  · rw [if_pos hG] at hne ⊢
    cases hM : markN (P.getD k default).homes I (P.getD k default).homes.length with
    | none => rw [hM] at hne; exact absurd rfl hne
    | some J => exact ⟨hG, J, rfl, rfl⟩
  · rw [if_neg hG] at hne; exact absurd rfl hne
theorem markN_pre {l : List Int} {I : List Bool} {K : List Bool} (h : markN l I l.length = some K) {j : Nat} (hj : j < l.length) {J : List Bool} (hJ : markN l I j = some J) :
    J.getD (l.getD j 0).toNat false = false ∧ markN l I (j + 1) = some (isp J (l.getD j 0).toNat true) ∧ (0 < j → l.getD (j - 1) 0 < l.getD j 0) := by
  have hne : markN l I (j + 1) ≠ none := fun e => by
    have : ∀ d, markN l I (j + 1 + d) = none := fun d => by
      induction d with
      | zero => exact e
      | succ d ih => rw [← Nat.add_assoc]; simp only [markN, ih]
    have h9 := this (l.length - (j + 1))
    rw [show j + 1 + (l.length - (j + 1)) = l.length by omega, h] at h9
    cases h9
  simp only [markN, hJ] at hne ⊢
  by_cases hc : J.getD (l.getD j 0).toNat false = true ∨ (0 < j ∧ l.getD j 0 ≤ l.getD (j - 1) 0)
  · rw [if_pos hc] at hne; exact absurd rfl hne
  · rw [if_neg hc]
    refine ⟨?_, rfl, fun h0 => ?_⟩
    · cases e : J.getD (l.getD j 0).toNat false
      · rfl
      · exact absurd (.inl e) hc
    · rcases Int.lt_or_le (l.getD (j - 1) 0) (l.getD j 0) with h1 | h1
      · exact h1
      · exact absurd (.inr ⟨h0, h1⟩) hc
/-- What a hall takes of the first buses is not more than it takes of all. -/
theorem run_room {t : Town} {P : List Bus} (ht : TownOK t) (h : rightB t P = true) {k : Nat} (hk : k ≤ P.length) {I : List Bool} {R : List Int} (hS : runN t P k = some (I, R)) {i : Nat} (hi : i < t.halls.length) : R.getD i 0 ≤ (t.halls.getD i default).room := by
  obtain ⟨S, hS', h8, hroom, hall⟩ := rightB_some h
  have R1 := (runI ht k _ hS).room i hi
  have R2 := (runI ht _ _ hS')
  have h1 := hroom i hi
  rw [R2.room i hi] at h1
  simp only at R1
  rw [R1]
  refine Int.le_trans ?_ h1
  obtain ⟨d, hd⟩ : ∃ d, P.length = k + d := ⟨P.length - k, by omega⟩
  rw [hd]
  have hb := R2.bus
  rw [hd] at hb
  clear h1 R1 hS h hS' hd R2 hall
  induction d with
  | zero => exact Int.le_refl _
  | succ d ih =>
    refine Int.le_trans (ih (fun j hj => hb j (by omega))) ?_
    rw [← Nat.add_assoc]
    simp only [sumN]
    have := pplL_bd ht (hb (k + d) (by omega)).1.homes _ (Nat.le_refl _)
    have hpp : 0 ≤ ppl t (P.getD (k + d) default).homes := this.1
    split <;> omega
theorem planF_short {t : Town} (ht : TownOK t) : ∀ (f : Nat) (s : Sta), StOK t s → ∀ b ∈ planF t f s, b.homes.length ≤ 8
  | 0, s, _, b, hb => by simp [planF] at hb
  | f + 1, s, hs, b, hb => by
    have hr := hs.lt ht
    simp only [planF] at hb
    by_cases h0 : s.rest = 0
    · rw [if_pos h0] at hb; simp at hb
    · rw [if_neg h0] at hb
      split at hb
      · rename_i p hp
        have hp2 := List.mem_of_find?_eq_some hp
        obtain ⟨x, j, h1, h2, h3, h4⟩ := (nextL_mem hr).1 hp2
        have hps : StOK t p.2 := by rw [h4]; exact toSt_ok ht hs h0 h1 h2 h3
        rcases List.mem_cons.1 hb with rfl | hb
        · rw [h4]; exact lstN_le 8
        · exact planF_short ht f p.2 hps b hb
      · simp at hb
end Go.Am
