/- Plain words for the alarms: how spells lie, prices, the best rule. No program is in sight. -/
import Derived.Test.YtnjommobapmgbaaAlS
namespace Go.Am

/-! ### How spells lie -/
def spL (sp : List Int) (r : Rule) : Nat → Nat → List (Nat × Nat)
  | 0, _ => []
  | f + 1, h => if h < sp.length then (if sp.getD h 0 < r.start then spL sp r f (h + 1) else (h, endAt sp r h) :: spL sp r f (endAt sp r h)) else []
theorem spellsFrom_eq {sp : List Int} {r : Rule} : ∀ (f h : Nat) (out : List (Nat × Nat)), spellsFrom sp r f h out = out ++ spL sp r f h
  | 0, _, out => by simp [spellsFrom, spL]
  | f + 1, h, out => by
    simp only [spellsFrom, spL]
    split
    · split
      · exact spellsFrom_eq f _ _
      · rw [spellsFrom_eq f]; simp
    · simp
theorem spells_eq {sp : List Int} {r : Rule} : spells sp r = spL sp r sp.length 0 := by simp [spells, spellsFrom_eq]
/-- One behind the other. -/
def Chain (n : Nat) : Nat → List (Nat × Nat) → Prop
  | _, [] => True
  | lo, x :: l => lo ≤ x.1 ∧ x.1 < x.2 ∧ x.2 ≤ n ∧ Chain n x.2 l
theorem Chain.low {n : Nat} : ∀ {l : List (Nat × Nat)} {lo lo' : Nat}, Chain n lo l → lo' ≤ lo → Chain n lo' l
  | [], _, _, _, _ => trivial
  | _ :: _, _, _, h, hl => ⟨Nat.le_trans hl h.1, h.2⟩
theorem spL_chain {sp : List Int} {r : Rule} (hr : 1 ≤ r.hold) : ∀ (f h : Nat), Chain sp.length h (spL sp r f h)
  | 0, _ => trivial
  | f + 1, h => by
    simp only [spL]
    split
    · rename_i hh
      split
      · exact (spL_chain hr f (h + 1)).low (by omega)
      · exact ⟨Nat.le_refl _, endAt_gt hh hr, endAt_le, spL_chain hr f _⟩
    · trivial
theorem spells_chain {sp : List Int} {r : Rule} (hr : 1 ≤ r.hold) : Chain sp.length 0 (spells sp r) := by rw [spells_eq]; exact spL_chain hr _ _
theorem Chain.at {n : Nat} : ∀ {l : List (Nat × Nat)} {lo : Nat}, Chain n lo l → ∀ i, i < l.length → lo ≤ (l.getD i (0, 0)).1 ∧ (l.getD i (0, 0)).1 < (l.getD i (0, 0)).2 ∧ (l.getD i (0, 0)).2 ≤ n
  | [], _, _, i, hi => by simp at hi
  | x :: l, lo, h, 0, _ => ⟨h.1, h.2.1, h.2.2.1⟩
  | x :: l, lo, h, i + 1, hi => by
    have := Chain.at h.2.2.2 i (by simpa using hi)
    simp only [List.getD_cons_succ]
    have h1 := h.1
    have h2 := h.2.1
    exact ⟨by omega, this.2⟩
theorem Chain.lt {n : Nat} : ∀ {l : List (Nat × Nat)} {lo : Nat}, Chain n lo l → ∀ i j, i < j → j < l.length → (l.getD i (0, 0)).2 ≤ (l.getD j (0, 0)).1
  | [], _, _, i, j, _, hj => by simp at hj
  | x :: l, lo, h, 0, j + 1, _, hj => by simpa using (Chain.at h.2.2.2 j (by simpa using hj)).1
  | x :: l, lo, h, i + 1, j + 1, hij, hj => by simpa using Chain.lt h.2.2.2 i j (by omega) (by simpa using hj)
  | x :: l, lo, h, i, 0, hij, _ => by omega

/-! ### Prices -/
structure Terms where
  out : Int
  price : Int
  hour : Int
  less : Int
  hold : Int
def termsB (t : Terms) : Bool := decide ((0 ≤ t.out ∧ t.out ≤ 60) ∧ (0 ≤ t.price ∧ t.price ≤ 1000) ∧ (0 ≤ t.hour ∧ t.hour ≤ 1000) ∧ (0 ≤ t.less ∧ t.less ≤ 1000) ∧ 1 ≤ t.hold ∧ t.hold ≤ 60)
theorem termsB_true {t : Terms} (h : termsB t = true) : (0 ≤ t.out ∧ t.out ≤ 60) ∧ (0 ≤ t.price ∧ t.price ≤ 1000) ∧ (0 ≤ t.hour ∧ t.hour ≤ 1000) ∧ (0 ≤ t.less ∧ t.less ≤ 1000) ∧ 1 ≤ t.hold ∧ t.hold ≤ 60 := of_decide_eq_true h
/-- The error of seasons with terms. -/
def pricedE (l : List Season) (t : Terms) : Int := if faultS l = 0 then (if l.length = 0 then 1 else if termsB t = true then 0 else 2) else faultS l
theorem pricedE_zero {l : List Season} {t : Terms} (h : pricedE l t = 0) : faultS l = 0 ∧ 0 < l.length ∧ termsB t = true := by
  unfold pricedE at h
  split at h
  · split at h
    · omega
    · split at h
      · rename_i h1 h2 h3; exact ⟨h1, by omega, h3⟩
      · omega
  · omega

def sumTo {α : Type} (f : α → Int) (l : List α) (k : Nat) : Int := ((l.take k).map f).sum
theorem sumTo_zero {α : Type} {f : α → Int} {l : List α} : sumTo f l 0 = 0 := by simp [sumTo]
theorem sumTo_succ {α : Type} {f : α → Int} {l : List α} {k : Nat} (d : α) (h : k < l.length) : sumTo f l (k + 1) = sumTo f l k + f (l.getD k d) := by
  unfold sumTo
  rw [List.take_succ_eq_append_getElem h, List.map_append, List.sum_append]
  have : l.getD k d = l[k] := by simp [List.getD_eq_getElem?_getD, h]
  rw [this]
  simp only [List.map_cons, List.map_nil, List.sum_cons, List.sum_nil]
  omega
theorem sumTo_bd {α : Type} {f : α → Int} {l : List α} (B : Int) (d : α) (h : ∀ k, k < l.length → 0 ≤ f (l.getD k d) ∧ f (l.getD k d) ≤ B) : ∀ k, k ≤ l.length → 0 ≤ sumTo f l k ∧ sumTo f l k ≤ k * B := by
  intro k
  induction k with
  | zero => intro _; simp [sumTo]
  | succ k ih =>
    intro hk
    have h1 := ih (by omega)
    have h2 := h k (by omega)
    rw [sumTo_succ d (by omega)]
    have : ((k + 1 : Nat) : Int) * B = k * B + B := by rw [Int.natCast_add, Int.add_mul]; simp
    omega

def spellCost (t : Terms) (s : Season) (x : Nat × Nat) : Int := t.hour * ((x.2 : Int) - x.1) + (if s.fell = true ∧ x.2 = s.speeds.length then 0 else t.price)
theorem spellCost_pos {t : Terms} {s : Season} {x : Nat × Nat} (h : s.fell = true ∧ x.2 = s.speeds.length) : spellCost t s x = t.hour * ((x.2 : Int) - x.1) := by
  unfold spellCost; rw [if_pos h]; omega
theorem spellCost_neg {t : Terms} {s : Season} {x : Nat × Nat} (h : ¬ (s.fell = true ∧ x.2 = s.speeds.length)) : spellCost t s x = t.hour * ((x.2 : Int) - x.1) + t.price := by
  unfold spellCost; rw [if_neg h]
def savedB (t : Terms) (s : Season) (x : Nat × Nat) : Bool := decide (x.2 = s.speeds.length ∧ max 1 t.out ≤ (x.2 : Int) - x.1)
def priceS (t : Terms) (r : Rule) (s : Season) : Int := sumTo (spellCost t s) (spells s.speeds r) (spells s.speeds r).length
def inTimeS (t : Terms) (r : Rule) (s : Season) : Bool := !s.fell || (spells s.speeds r).any (savedB t s)
def totalP (l : List Season) (t : Terms) (r : Rule) : Int := sumTo (priceS t r) l l.length
def totalI (l : List Season) (t : Terms) (r : Rule) : Bool := l.all (inTimeS t r)

theorem cost_bd {t : Terms} {s : Season} {x : Nat × Nat} (ht : termsB t = true) (h1 : x.1 < x.2) (h2 : x.2 ≤ s.speeds.length) (h3 : s.speeds.length ≤ 60) : 0 ≤ t.hour * ((x.2 : Int) - x.1) ∧ t.hour * ((x.2 : Int) - x.1) ≤ 60000 ∧ 0 ≤ spellCost t s x ∧ spellCost t s x ≤ 61000 := by
  obtain ⟨_, hp, hh, _, _⟩ := termsB_true ht
  have hd : 0 ≤ (x.2 : Int) - x.1 ∧ (x.2 : Int) - x.1 ≤ 60 := by omega
  have m1 : 0 ≤ t.hour * ((x.2 : Int) - x.1) := Int.mul_nonneg hh.1 hd.1
  have m2 : t.hour * ((x.2 : Int) - x.1) ≤ 1000 * 60 := Int.mul_le_mul hh.2 hd.2 hd.1 (by omega)
  unfold spellCost
  split <;> omega

/-- Only the last spell can be on at the end. -/
theorem last_only {n : Nat} {l : List (Nat × Nat)} {lo : Nat} (h : Chain n lo l) {i : Nat} (hi : i < l.length) (he : (l.getD i (0, 0)).2 = n) : i = l.length - 1 := by
  rcases Nat.lt_or_ge (i + 1) l.length with h1 | h1
  · have h2 := h.lt i (i + 1) (by omega) h1
    have h3 := h.at (i + 1) h1
    omega
  · omega
theorem any_last {t : Terms} {s : Season} {l : List (Nat × Nat)} {lo : Nat} (h : Chain s.speeds.length lo l) : l.any (savedB t s) = (decide (0 < l.length) && savedB t s (l.getD (l.length - 1) (0, 0))) := by
  rw [Bool.eq_iff_iff]
  simp only [List.any_eq_true, Bool.and_eq_true, decide_eq_true_eq]
  constructor
  · rintro ⟨x, hx, hs⟩
    obtain ⟨i, hi, rfl⟩ := List.mem_iff_getElem.1 hx
    have he : l.getD i (0, 0) = l[i] := by simp [List.getD_eq_getElem?_getD, hi]
    have h2 : (l.getD i (0, 0)).2 = s.speeds.length := by rw [he]; simp [savedB] at hs; exact hs.1
    have := last_only h hi h2
    rw [← this, he]
    exact ⟨by omega, hs⟩
  · rintro ⟨h1, h2⟩
    refine ⟨_, ?_, h2⟩
    have : l.length - 1 < l.length := by omega
    rw [show l.getD (l.length - 1) (0, 0) = l[l.length - 1] by simp [List.getD_eq_getElem?_getD, this]]
    exact List.getElem_mem _

/-! ### The best rule -/
def ruleAt (t : Terms) (start : Nat) : Rule := ⟨start, max 0 ((start : Int) - t.less), t.hold⟩
theorem ruleAt_ok {t : Terms} {k : Nat} (ht : termsB t = true) (hk : k ≤ 1000) : ruleB (ruleAt t k) = true := by
  obtain ⟨_, _, _, hl, hh⟩ := termsB_true ht
  refine decide_eq_true ?_
  simp only [ruleAt]
  exact ⟨by omega, by omega, hh⟩
def tryAt (l : List Season) (t : Terms) (k : Nat) : Option Int := if totalI l t (ruleAt t k) = true then some (totalP l t (ruleAt t k)) else none
def bestUp (f : Nat → Option Int) : Nat → Option (Nat × Int)
  | 0 => none
  | k + 1 => match f k with
    | none => bestUp f k
    | some n => match bestUp f k with
      | none => some (k, n)
      | some p => if n ≤ p.2 then some (k, n) else some p
def bestDn (f : Nat → Option Int) (N : Nat) : Nat → Option (Nat × Int)
  | 0 => none
  | k + 1 => match f (N - 1 - k) with
    | none => bestDn f N k
    | some n => match bestDn f N k with
      | none => some (N - 1 - k, n)
      | some p => if n < p.2 then some (N - 1 - k, n) else some p
/-- What the best one is. -/
def IsBest (f : Nat → Option Int) (lo hi : Nat) : Option (Nat × Int) → Prop
  | none => ∀ k, lo ≤ k → k < hi → f k = none
  | some p => lo ≤ p.1 ∧ p.1 < hi ∧ f p.1 = some p.2 ∧ ∀ k n, lo ≤ k → k < hi → f k = some n → p.2 < n ∨ (p.2 = n ∧ k ≤ p.1)
theorem bestUp_is (f : Nat → Option Int) : ∀ k, IsBest f 0 k (bestUp f k)
  | 0 => fun k _ h => by omega
  | k + 1 => by
    have ih := bestUp_is f k
    simp only [bestUp]
    cases hf : f k with
    | none =>
      simp only
      cases hb : bestUp f k with
      | none =>
        rw [hb] at ih
        intro j h1 h2
        rcases Nat.lt_succ_iff_lt_or_eq.1 h2 with h | rfl
        · exact ih j h1 h
        · exact hf
      | some p =>
        rw [hb] at ih
        obtain ⟨a, b, c, d⟩ := ih
        refine ⟨a, by omega, c, fun j n h1 h2 h3 => ?_⟩
        rcases Nat.lt_succ_iff_lt_or_eq.1 h2 with h | rfl
        · exact d j n h1 h h3
        · rw [hf] at h3; cases h3
    | some n =>
      simp only
      cases hb : bestUp f k with
      | none =>
        rw [hb] at ih
        refine ⟨Nat.zero_le _, by simp, hf, fun j m h1 h2 h3 => ?_⟩
        rcases Nat.lt_succ_iff_lt_or_eq.1 h2 with h | rfl
        · rw [ih j h1 h] at h3; cases h3
        · rw [hf] at h3; cases h3; exact .inr ⟨rfl, Nat.le_refl _⟩
      | some p =>
        rw [hb] at ih
        obtain ⟨a, b, c, d⟩ := ih
        simp only
        split
        · rename_i hle
          refine ⟨Nat.zero_le _, by simp, hf, fun j m h1 h2 h3 => ?_⟩
          rcases Nat.lt_succ_iff_lt_or_eq.1 h2 with h | rfl
          · have := d j m h1 h h3
            simp only
            omega
          · rw [hf] at h3; cases h3; exact .inr ⟨rfl, Nat.le_refl _⟩
        · rename_i hle
          refine ⟨a, by omega, c, fun j m h1 h2 h3 => ?_⟩
          rcases Nat.lt_succ_iff_lt_or_eq.1 h2 with h | rfl
          · exact d j m h1 h h3
          · rw [hf] at h3; cases h3; exact .inl (by omega)
theorem bestDn_is (f : Nat → Option Int) (N : Nat) : ∀ k, k ≤ N → IsBest f (N - k) N (bestDn f N k)
  | 0, _ => fun k h1 h2 => by omega
  | k + 1, hk => by
    have ih := bestDn_is f N k (by omega)
    have e1 : N - (k + 1) = N - 1 - k := by omega
    simp only [bestDn]
    cases hf : f (N - 1 - k) with
    | none =>
      simp only
      cases hb : bestDn f N k with
      | none =>
        rw [hb] at ih
        intro j h1 h2
        by_cases hj : j = N - 1 - k
        · rw [hj]; exact hf
        · exact ih j (by omega) h2
      | some p =>
        rw [hb] at ih
        obtain ⟨a, b, c, d⟩ := ih
        refine ⟨by omega, b, c, fun j n h1 h2 h3 => ?_⟩
        by_cases hj : j = N - 1 - k
        · rw [hj, hf] at h3; cases h3
        · exact d j n (by omega) h2 h3
    | some n =>
      simp only
      cases hb : bestDn f N k with
      | none =>
        rw [hb] at ih
        refine ⟨by simp only; omega, by simp only; omega, hf, fun j m h1 h2 h3 => ?_⟩
        by_cases hj : j = N - 1 - k
        · rw [hj, hf] at h3; cases h3; exact .inr ⟨rfl, by simp only; omega⟩
        · rw [ih j (by omega) h2] at h3; cases h3
      | some p =>
        rw [hb] at ih
        obtain ⟨a, b, c, d⟩ := ih
        simp only
        split
        · rename_i hlt
          refine ⟨by simp only; omega, by simp only; omega, hf, fun j m h1 h2 h3 => ?_⟩
          by_cases hj : j = N - 1 - k
          · rw [hj, hf] at h3; cases h3; exact .inr ⟨rfl, by simp only; omega⟩
          · have := d j m (by omega) h2 h3
            simp only
            omega
        · rename_i hlt
          refine ⟨by omega, b, c, fun j m h1 h2 h3 => ?_⟩
          by_cases hj : j = N - 1 - k
          · rw [hj, hf] at h3; cases h3
            have : p.2 ≤ n := by omega
            rcases Int.lt_or_eq_of_le this with h | h
            · exact .inl h
            · exact .inr ⟨h, by omega⟩
          · exact d j m (by omega) h2 h3
theorem IsBest.uniq {f : Nat → Option Int} {lo hi : Nat} {a b : Option (Nat × Int)} (ha : IsBest f lo hi a) (hb : IsBest f lo hi b) : a = b := by
  cases a with
  | none =>
    cases b with
    | none => rfl
    | some q => obtain ⟨h1, h2, h3, _⟩ := hb; rw [ha q.1 h1 h2] at h3; cases h3
  | some p =>
    obtain ⟨h1, h2, h3, h4⟩ := ha
    cases b with
    | none => rw [hb p.1 h1 h2] at h3; cases h3
    | some q =>
      obtain ⟨k1, k2, k3, k4⟩ := hb
      have x := h4 q.1 q.2 k1 k2 k3
      have y := k4 p.1 p.2 h1 h2 h3
      have e2 : p.2 = q.2 := by omega
      have e1 : p.1 = q.1 := by omega
      rw [show p = (p.1, p.2) from rfl, e1, e2]
theorem best_same (f : Nat → Option Int) (N : Nat) : bestUp f N = bestDn f N N := by
  have := bestDn_is f N N (Nat.le_refl _)
  rw [Nat.sub_self] at this
  exact (bestUp_is f N).uniq this
end Go.Am
