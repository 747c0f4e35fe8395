/- Plain words for the alarms: what spells are like, hour by hour. No program is in sight. -/
import Derived.Test.YtnjommobapmgbaaAlT
namespace Go.Am
theorem stretch_on {sp : List Int} {back : Int} : ∀ (f to j : Nat), to ≤ j → j < stretch sp back f to → back ≤ sp.getD j 0
  | 0, to, j, h1, h2 => by simp only [stretch] at h2; omega
  | f + 1, to, j, h1, h2 => by
    simp only [stretch] at h2
    split at h2
    · rename_i h
      rcases Nat.lt_or_eq_of_le h1 with h3 | rfl
      · exact stretch_on f (to + 1) j h3 h2
      · exact h.2
    · omega
theorem stretch_off {sp : List Int} {back : Int} : ∀ (f to : Nat), sp.length - to ≤ f → stretch sp back f to < sp.length → sp.getD (stretch sp back f to) 0 < back
  | 0, to, h1, h2 => by simp only [stretch] at h2; omega
  | f + 1, to, h1, h2 => by
    simp only [stretch] at h2 ⊢
    split at h2
    · rename_i h
      rw [if_pos h]
      exact stretch_off f (to + 1) (by omega) h2
    · rename_i h
      rw [if_neg h]
      omega
/-- What one spell is like. -/
structure SpellOK (sp : List Int) (r : Rule) (x : Nat × Nat) : Prop where
  start : r.start ≤ sp.getD x.1 0
  hold : x.2 < sp.length → r.hold ≤ (x.2 : Int) - x.1 ∧ sp.getD x.2 0 < r.back
  back : ∀ j : Nat, (x.1 : Int) + r.hold ≤ j → j < x.2 → r.back ≤ sp.getD j 0
theorem spell_ok {sp : List Int} {r : Rule} {h : Nat} (hr : 1 ≤ r.hold) (hh : h < sp.length) (hs : ¬ sp.getD h 0 < r.start) : SpellOK sp r (h, endAt sp r h) := by
  refine ⟨by simp only; omega, fun hx => ?_, fun j h1 h2 => ?_⟩
  · simp only at hx ⊢
    have h1 := stretchTo_ge (sp := sp) (back := r.back) (to := (min ((h : Int) + r.hold) sp.length).toNat)
    have h2 : stretchTo sp r.back (min ((h : Int) + r.hold) sp.length).toNat < sp.length := hx
    refine ⟨?_, stretch_off _ _ (by omega) hx⟩
    unfold endAt
    omega
  · simp only at h1 h2
    have hle := endAt_le (sp := sp) (r := r) (h := h)
    exact stretch_on _ _ j (by omega) h2
theorem spL_ok {sp : List Int} {r : Rule} (hr : 1 ≤ r.hold) : ∀ (f h : Nat), ∀ x ∈ spL sp r f h, SpellOK sp r x
  | 0, h, x, hx => by simp [spL] at hx
  | f + 1, h, x, hx => by
    simp only [spL] at hx
    split at hx
    · rename_i hh
      split at hx
      · exact spL_ok hr f _ x hx
      · rename_i hs
        rcases List.mem_cons.1 hx with rfl | hx
        · exact spell_ok hr hh hs
        · exact spL_ok hr f _ x hx
    · simp at hx
theorem spL_cov {sp : List Int} {r : Rule} (hr : 1 ≤ r.hold) : ∀ (f h : Nat), sp.length - h ≤ f → ∀ j, h ≤ j → j < sp.length → r.start ≤ sp.getD j 0 → ∃ x ∈ spL sp r f h, x.1 ≤ j ∧ j < x.2
  | 0, h, hf, j, h1, h2, _ => by omega
  | f + 1, h, hf, j, h1, h2, h3 => by
    simp only [spL]
    rw [if_pos (by omega)]
    split
    · rename_i hs
      rcases Nat.lt_or_eq_of_le h1 with h4 | rfl
      · exact spL_cov hr f (h + 1) (by omega) j h4 h2 h3
      · omega
    · rcases Nat.lt_or_ge j (endAt sp r h) with h4 | h4
      · exact ⟨_, List.mem_cons_self, h1, h4⟩
      · have := endAt_gt (sp := sp) (r := r) (h := h) (by omega) hr
        obtain ⟨x, hx, hy⟩ := spL_cov hr f (endAt sp r h) (by omega) j h4 h2 h3
        exact ⟨x, List.mem_cons_of_mem _ hx, hy⟩
theorem spells_ok {sp : List Int} {r : Rule} (hr : 1 ≤ r.hold) (i : Nat) (hi : i < (spells sp r).length) : SpellOK sp r ((spells sp r).getD i (0, 0)) := by
  have : (spells sp r).getD i (0, 0) ∈ spells sp r := by
    rw [show (spells sp r).getD i (0, 0) = (spells sp r)[i] by simp [List.getD_eq_getElem?_getD, hi]]
    exact List.getElem_mem hi
  rw [spells_eq] at this ⊢
  exact spL_ok hr _ _ _ this
/-- Whether one of the first k spells is on in an hour. -/
def onTo (l : List (Nat × Nat)) (k j : Nat) : Bool := (l.take k).any (fun x => decide (x.1 ≤ j ∧ j < x.2))
theorem onTo_zero {l : List (Nat × Nat)} {j : Nat} : onTo l 0 j = false := by simp [onTo]
theorem onTo_succ {l : List (Nat × Nat)} {k j : Nat} (h : k < l.length) : onTo l (k + 1) j = (onTo l k j || decide ((l.getD k (0, 0)).1 ≤ j ∧ j < (l.getD k (0, 0)).2)) := by
  unfold onTo
  rw [List.take_succ_eq_append_getElem h, List.any_append]
  simp [List.getD_eq_getElem?_getD, h]
theorem onTo_all {sp : List Int} {r : Rule} (hr : 1 ≤ r.hold) {j : Nat} (hj : j < sp.length) (hs : r.start ≤ sp.getD j 0) : onTo (spells sp r) (spells sp r).length j = true := by
  obtain ⟨x, hx, h1, h2⟩ := spL_cov (sp := sp) hr sp.length 0 (by omega) j (Nat.zero_le _) hj hs
  rw [← spells_eq] at hx
  simp only [onTo, List.take_length, List.any_eq_true, decide_eq_true_eq]
  exact ⟨x, hx, h1, h2⟩
/-- No earlier spell is on from the begin of the next one on. -/
theorem onTo_before {n : Nat} {l : List (Nat × Nat)} {lo : Nat} (h : Chain n lo l) {k j : Nat} (hk : k < l.length) (hj : (l.getD k (0, 0)).1 ≤ j) : onTo l k j = false := by
  simp only [onTo, List.any_eq_false, decide_eq_true_eq]
  intro x hx hc
  obtain ⟨i, hi, rfl⟩ := List.mem_iff_getElem.1 hx
  have hi' : i < k := by simp at hi; omega
  have := h.lt i k hi' hk
  rw [show l.getD i (0, 0) = (l.take k)[i] by simp [List.getD_eq_getElem?_getD, show i < l.length by omega]] at this
  omega
/-- A list of ones and zeros. -/
def marks (c : Nat → Bool) (n : Nat) : List Int := (List.range n).map (fun j => if c j = true then 1 else 0)
theorem marks_length {c : Nat → Bool} {n : Nat} : (marks c n).length = n := by simp [marks]
theorem marks_get {c : Nat → Bool} {n j : Nat} (h : j < n) : (marks c n).getD j 0 = if c j = true then 1 else 0 := by
  simp [marks, List.getD_eq_getElem?_getD, h]
theorem marks_set {c d : Nat → Bool} {n h : Nat} (_hh : h < n) (h1 : ∀ j, j ≠ h → d j = c j) (h2 : d h = true) : (marks c n).set h 1 = marks d n := by
  apply List.ext_getElem
  · simp [marks]
  · intro i a b
    simp only [marks, List.getElem_set, List.getElem_map, List.getElem_range]
    split
    · rename_i e; subst e; simp [h2]
    · rename_i e; rw [h1 i (by omega)]
theorem marks_none {c : Nat → Bool} {n : Nat} (h : ∀ j, c j = false) : marks c n = List.replicate n 0 := by
  apply List.ext_getElem
  · simp [marks]
  · intro i a b
    simp [marks, h]
theorem marks_congr {c d : Nat → Bool} {n : Nat} (h : ∀ j, j < n → c j = d j) : marks c n = marks d n := by
  unfold marks
  apply List.map_congr_left
  intro j hj
  rw [h j (by simpa using hj)]
end Go.Am
