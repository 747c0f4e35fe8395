/- Plain words for the alarms: seasons, rules, spells, prices. No program is in sight. -/
namespace Go.Am
structure Rule where
  start : Int
  back : Int
  hold : Int
structure Season where
  speeds : List Int
  fell : Bool
instance : Inhabited Season := ⟨⟨[], false⟩⟩

def speedB (n : Int) : Bool := decide (0 ≤ n ∧ n ≤ 1000)
def ruleB (r : Rule) : Bool := decide ((0 ≤ r.start ∧ r.start ≤ 1000) ∧ (0 ≤ r.back ∧ r.back ≤ r.start) ∧ 1 ≤ r.hold ∧ r.hold ≤ 60)
/-- The error of seasons. -/
def faultS (l : List Season) : Int :=
  if 10 < l.length then 3 else if (l.all fun s => decide (s.speeds.length ≤ 60)) = false then 3 else if (l.all fun s => s.speeds.all speedB) = false then 1 else 0

/-- The alarm goes on as long as the speed is not below back. -/
def stretch (sp : List Int) (back : Int) : Nat → Nat → Nat
  | 0, to => to
  | f + 1, to => if to < sp.length ∧ back ≤ sp.getD to 0 then stretch sp back f (to + 1) else to
def stretchTo (sp : List Int) (back : Int) (to : Nat) : Nat := stretch sp back (sp.length - to) to
theorem stretch_out {sp : List Int} {back : Int} : ∀ (f to : Nat), sp.length ≤ to → stretch sp back f to = to
  | 0, _, _ => rfl
  | f + 1, to, h => by simp only [stretch]; rw [if_neg (by omega)]
theorem stretchTo_step {sp : List Int} {back : Int} {to : Nat} (h1 : to < sp.length) (h2 : back ≤ sp.getD to 0) : stretchTo sp back to = stretchTo sp back (to + 1) := by
  unfold stretchTo
  rw [show sp.length - to = (sp.length - (to + 1)) + 1 by omega]
  simp only [stretch]
  rw [if_pos ⟨h1, h2⟩]
theorem stretchTo_stop {sp : List Int} {back : Int} {to : Nat} (h : sp.length ≤ to ∨ sp.getD to 0 < back) : stretchTo sp back to = to := by
  unfold stretchTo
  cases hf : sp.length - to with
  | zero => rfl
  | succ f => simp only [stretch]; rw [if_neg (by omega)]
theorem stretch_ge {sp : List Int} {back : Int} : ∀ (f to : Nat), to ≤ stretch sp back f to ∧ (to ≤ sp.length → stretch sp back f to ≤ sp.length)
  | 0, to => ⟨Nat.le_refl _, fun h => h⟩
  | f + 1, to => by
    simp only [stretch]
    split
    · have := stretch_ge (sp := sp) (back := back) f (to + 1)
      exact ⟨by omega, fun _ => this.2 (by omega)⟩
    · exact ⟨Nat.le_refl _, fun h => h⟩
theorem stretchTo_ge {sp : List Int} {back : Int} {to : Nat} : to ≤ stretchTo sp back to := (stretch_ge _ _).1
theorem stretchTo_le {sp : List Int} {back : Int} {to : Nat} (h : to ≤ sp.length) : stretchTo sp back to ≤ sp.length := (stretch_ge _ _).2 h
/-- Where an alarm that begins at h ends. -/
def endAt (sp : List Int) (r : Rule) (h : Nat) : Nat := stretchTo sp r.back (min ((h : Int) + r.hold) sp.length).toNat
theorem endAt_gt {sp : List Int} {r : Rule} {h : Nat} (hh : h < sp.length) (hr : 1 ≤ r.hold) : h < endAt sp r h := by
  have := stretchTo_ge (sp := sp) (back := r.back) (to := (min ((h : Int) + r.hold) sp.length).toNat)
  unfold endAt
  omega
theorem endAt_le {sp : List Int} {r : Rule} {h : Nat} : endAt sp r h ≤ sp.length := stretchTo_le (by omega)

/-- The spells from hour h on, behind some others. -/
def spellsFrom (sp : List Int) (r : Rule) : Nat → Nat → List (Nat × Nat) → List (Nat × Nat)
  | 0, _, out => out
  | f + 1, h, out => if h < sp.length then (if sp.getD h 0 < r.start then spellsFrom sp r f (h + 1) out else spellsFrom sp r f (endAt sp r h) (out ++ [(h, endAt sp r h)])) else out
def spells (sp : List Int) (r : Rule) : List (Nat × Nat) := spellsFrom sp r sp.length 0 []
theorem spellsFrom_out {sp : List Int} {r : Rule} : ∀ (f h : Nat) (out : List (Nat × Nat)), sp.length ≤ h → spellsFrom sp r f h out = out
  | 0, _, _, _ => rfl
  | f + 1, h, out, hh => by simp only [spellsFrom]; rw [if_neg (by omega)]
/-- Fuel that is enough. -/
def SpAt (sp : List Int) (r : Rule) (h : Nat) (out : List (Nat × Nat)) : Prop := ∃ f, sp.length - h ≤ f ∧ spellsFrom sp r f h out = spells sp r
theorem spAt_zero {sp : List Int} {r : Rule} : SpAt sp r 0 [] := ⟨sp.length, by omega, rfl⟩
theorem spAt_low {sp : List Int} {r : Rule} {h : Nat} {out : List (Nat × Nat)} (s : SpAt sp r h out) (hh : h < sp.length) (hl : sp.getD h 0 < r.start) : SpAt sp r (h + 1) out := by
  obtain ⟨f, h1, h2⟩ := s
  cases f with
  | zero => omega
  | succ f =>
    simp only [spellsFrom] at h2
    rw [if_pos hh, if_pos hl] at h2
    exact ⟨f, by omega, h2⟩
theorem spAt_on {sp : List Int} {r : Rule} {h : Nat} {out : List (Nat × Nat)} (s : SpAt sp r h out) (hh : h < sp.length) (hl : ¬ sp.getD h 0 < r.start) (hr : 1 ≤ r.hold) : SpAt sp r (endAt sp r h) (out ++ [(h, endAt sp r h)]) := by
  obtain ⟨f, h1, h2⟩ := s
  cases f with
  | zero => omega
  | succ f =>
    simp only [spellsFrom] at h2
    rw [if_pos hh, if_neg hl] at h2
    have := endAt_gt hh hr
    exact ⟨f, by omega, h2⟩
theorem spAt_end {sp : List Int} {r : Rule} {h : Nat} {out : List (Nat × Nat)} (s : SpAt sp r h out) (hh : sp.length ≤ h) : out = spells sp r := by
  obtain ⟨f, _, h2⟩ := s
  rw [spellsFrom_out f h out hh] at h2
  exact h2
/-- How many spells there are behind some. -/
theorem spellsFrom_length {sp : List Int} {r : Rule} : ∀ (f h : Nat) (out : List (Nat × Nat)), out.length ≤ (spellsFrom sp r f h out).length
  | 0, _, _ => Nat.le_refl _
  | f + 1, h, out => by
    simp only [spellsFrom]
    split
    · split
      · exact spellsFrom_length f _ _
      · have := spellsFrom_length (sp := sp) (r := r) f (endAt sp r h) (out ++ [(h, endAt sp r h)])
        simp at this; omega
    · exact Nat.le_refl _

theorem spellsFrom_le {sp : List Int} {r : Rule} : ∀ (f h : Nat) (out : List (Nat × Nat)), (spellsFrom sp r f h out).length ≤ out.length + f
  | 0, _, _ => Nat.le_refl _
  | f + 1, h, out => by
    simp only [spellsFrom]
    split
    · split
      · have := spellsFrom_le (sp := sp) (r := r) f (h + 1) out; omega
      · have := spellsFrom_le (sp := sp) (r := r) f (endAt sp r h) (out ++ [(h, endAt sp r h)])
        simp at this; omega
    · omega
theorem spells_le {sp : List Int} {r : Rule} : (spells sp r).length ≤ sp.length := by
  have := spellsFrom_le (sp := sp) (r := r) sp.length 0 []
  simpa [spells] using this
theorem faultS_zero {l : List Season} (h : faultS l = 0) : l.length ≤ 10 ∧ (∀ s ∈ l, s.speeds.length ≤ 60) ∧ ∀ s ∈ l, ∀ n ∈ s.speeds, 0 ≤ n ∧ n ≤ 1000 := by
  unfold faultS at h
  split at h
  · omega
  · split at h
    · omega
    · split at h
      · omega
      · rename_i h1 h2 h3
        simp only [Bool.not_eq_false, List.all_eq_true, decide_eq_true_eq, speedB] at h2 h3
        exact ⟨by omega, h2, h3⟩
theorem ruleB_true {r : Rule} (h : ruleB r = true) : (0 ≤ r.start ∧ r.start ≤ 1000) ∧ (0 ≤ r.back ∧ r.back ≤ r.start) ∧ 1 ≤ r.hold ∧ r.hold ≤ 60 := of_decide_eq_true h
/-- The error of Spells, and the spells. -/
def errSp (s : Season) (r : Rule) : Int := if faultS [s] = 0 then (if ruleB r = true then 0 else 2) else faultS [s]
def spellsOf (s : Season) (r : Rule) : List (Nat × Nat) := if faultS [s] = 0 ∧ ruleB r = true then spells s.speeds r else []
end Go.Am
