/- Parts BlP, BlQ, Y8, BlR, BlS of the proof, one behind the other: the machine of abstract values, contracts, plain words. No statement is proved here. -/
import Derived.Test.YtnjommobapmgbaaM6
import Derived.Test.YtnjommobapmgbaaM3
/- Plain words for posts: one gauge that disagrees with two others, and a post that has all others twice. -/
namespace Go.Am
open Go.RowKit Go.Proofs
set_option linter.unusedSimpArgs false
set_option linter.unusedVariables false

theorem agLo_iff {errs row : List Int} {f v : Int} : ∀ n : Nat, agLo errs row f n ≤ v ↔ 0 ≤ v ∧ ∀ i : Nat, i < n → (i : Int) ≠ f → row.getD i 0 - errs.getD i 0 ≤ v
  | 0 => by simp [agLo]
  | n + 1 => by
    have ih := agLo_iff (errs := errs) (row := row) (f := f) (v := v) n
    have key : (∀ i : Nat, i < n + 1 → (i : Int) ≠ f → row.getD i 0 - errs.getD i 0 ≤ v) ↔ (∀ i : Nat, i < n → (i : Int) ≠ f → row.getD i 0 - errs.getD i 0 ≤ v) ∧ ((n : Int) ≠ f → row.getD n 0 - errs.getD n 0 ≤ v) := by
      constructor
      · exact fun h => ⟨fun i hi => h i (by omega), h n (by omega)⟩
      · rintro ⟨h1, h2⟩ i hi hne
        rcases Nat.lt_or_eq_of_le (Nat.le_of_lt_succ hi) with h | h
        · exact h1 i h hne
        · subst h; exact h2 hne
    rw [key]
    simp only [agLo]
    split
    · rename_i e
      rw [ih]
      exact ⟨fun h => ⟨h.1, h.2, fun hne => absurd e hne⟩, fun h => ⟨h.1, h.2.1⟩⟩
    · rename_i e
      constructor
      · intro h
        have := ih.1 (by omega)
        exact ⟨this.1, this.2, fun _ => by omega⟩
      · rintro ⟨h1, h2, h3⟩
        have := ih.2 ⟨h1, h2⟩
        have := h3 e
        omega
theorem agHi_iff {errs row : List Int} {f v : Int} : ∀ n : Nat, v ≤ agHi errs row f n ↔ v ≤ 1000 ∧ ∀ i : Nat, i < n → (i : Int) ≠ f → v ≤ row.getD i 0 + errs.getD i 0
  | 0 => by simp [agHi]
  | n + 1 => by
    have ih := agHi_iff (errs := errs) (row := row) (f := f) (v := v) n
    have key : (∀ i : Nat, i < n + 1 → (i : Int) ≠ f → v ≤ row.getD i 0 + errs.getD i 0) ↔ (∀ i : Nat, i < n → (i : Int) ≠ f → v ≤ row.getD i 0 + errs.getD i 0) ∧ ((n : Int) ≠ f → v ≤ row.getD n 0 + errs.getD n 0) := by
      constructor
      · exact fun h => ⟨fun i hi => h i (by omega), h n (by omega)⟩
      · rintro ⟨h1, h2⟩ i hi hne
        rcases Nat.lt_or_eq_of_le (Nat.le_of_lt_succ hi) with h | h
        · exact h1 i h hne
        · subst h; exact h2 hne
    rw [key]
    simp only [agHi]
    split
    · rename_i e
      rw [ih]
      exact ⟨fun h => ⟨h.1, h.2, fun hne => absurd e hne⟩, fun h => ⟨h.1, h.2.1⟩⟩
    · rename_i e
      constructor
      · intro h
        have := ih.1 (by omega)
        exact ⟨this.1, this.2, fun _ => by omega⟩
      · rintro ⟨h1, h2, h3⟩
        have := ih.2 ⟨h1, h2⟩
        have := h3 e
        omega
/-- The others' numbers, each twice. -/
def skp (k m : Nat) : Nat := if m < k then m else m + 1
def dupL (k : Nat) (l : List Int) (m : Nat) : List Int := tab (2 * m) fun j => l.getD (skp k (j / 2)) 0
theorem dup_length {k m : Nat} {l : List Int} : (dupL k l m).length = 2 * m := tab_length
theorem dup_get {k m j : Nat} {l : List Int} (h : j < 2 * m) : (dupL k l m).getD j 0 = l.getD (skp k (j / 2)) 0 := tab_getD h
theorem dup_lo {k n : Nat} {errs row : List Int} {f : Int} (hk : k < n) : agLo (dupL k errs (n - 1)) (dupL k row (n - 1)) f (2 * (n - 1)) = agLo errs row k n := by
  have h1 : ∀ v : Int, (∀ i : Nat, i < 2 * (n - 1) → (i : Int) ≠ f → (dupL k row (n - 1)).getD i 0 - (dupL k errs (n - 1)).getD i 0 ≤ v) ↔ (∀ i : Nat, i < n → (i : Int) ≠ (k : Int) → row.getD i 0 - errs.getD i 0 ≤ v) := by
    intro v
    constructor
    · intro h i hi hne
      have hik : i ≠ k := by omega
      have hs : ∃ m, m < n - 1 ∧ skp k m = i := by
        rcases Nat.lt_or_ge i k with h2 | h2
        · exact ⟨i, by omega, by unfold skp; rw [if_pos h2]⟩
        · exact ⟨i - 1, by omega, by unfold skp; rw [if_neg (by omega)]; omega⟩
      obtain ⟨m, hm, hs⟩ := hs
      by_cases hf : ((2 * m : Nat) : Int) = f
      · have := h (2 * m + 1) (by omega) (by omega)
        rw [dup_get (by omega), dup_get (by omega), show (2 * m + 1) / 2 = m by omega, hs] at this
        exact this
      · have := h (2 * m) (by omega) hf
        rw [dup_get (by omega), dup_get (by omega), show (2 * m) / 2 = m by omega, hs] at this
        exact this
    · intro h j hj hne
      rw [dup_get hj, dup_get hj]
      refine h _ ?_ ?_ <;> unfold skp <;> split <;> omega
  have h2 : ∀ v, agLo (dupL k errs (n - 1)) (dupL k row (n - 1)) f (2 * (n - 1)) ≤ v ↔ agLo errs row k n ≤ v := fun v => by
    rw [agLo_iff, agLo_iff, h1]
  have a := (h2 _).1 (Int.le_refl _)
  have b := (h2 _).2 (Int.le_refl _)
  omega
theorem dup_hi {k n : Nat} {errs row : List Int} {f : Int} (hk : k < n) : agHi (dupL k errs (n - 1)) (dupL k row (n - 1)) f (2 * (n - 1)) = agHi errs row k n := by
  have h1 : ∀ v : Int, (∀ i : Nat, i < 2 * (n - 1) → (i : Int) ≠ f → v ≤ (dupL k row (n - 1)).getD i 0 + (dupL k errs (n - 1)).getD i 0) ↔ (∀ i : Nat, i < n → (i : Int) ≠ (k : Int) → v ≤ row.getD i 0 + errs.getD i 0) := by
    intro v
    constructor
    · intro h i hi hne
      have hik : i ≠ k := by omega
      have hs : ∃ m, m < n - 1 ∧ skp k m = i := by
        rcases Nat.lt_or_ge i k with h2 | h2
        · exact ⟨i, by omega, by unfold skp; rw [if_pos h2]⟩
        · exact ⟨i - 1, by omega, by unfold skp; rw [if_neg (by omega)]; omega⟩
      obtain ⟨m, hm, hs⟩ := hs
      by_cases hf : ((2 * m : Nat) : Int) = f
      · have := h (2 * m + 1) (by omega) (by omega)
        rw [dup_get (by omega), dup_get (by omega), show (2 * m + 1) / 2 = m by omega, hs] at this
        exact this
      · have := h (2 * m) (by omega) hf
        rw [dup_get (by omega), dup_get (by omega), show (2 * m) / 2 = m by omega, hs] at this
        exact this
    · intro h j hj hne
      rw [dup_get hj, dup_get hj]
      refine h _ ?_ ?_ <;> unfold skp <;> split <;> omega
  have h2 : ∀ v, v ≤ agHi (dupL k errs (n - 1)) (dupL k row (n - 1)) f (2 * (n - 1)) ↔ v ≤ agHi errs row k n := fun v => by
    rw [agHi_iff, agHi_iff, h1]
  have a := (h2 _).1 (Int.le_refl _)
  have b := (h2 _).2 (Int.le_refl _)
  omega
theorem dup_ends {k : Nat} {errs row : List Int} {f : Int} (hk : k < errs.length) (hr : row.length = errs.length) : agreedEnds (dupL k errs (errs.length - 1)) (dupL k row (errs.length - 1)) f = agreedEnds errs row k := by
  unfold agreedEnds
  rw [dup_length, dup_lo hk, dup_hi hk, hr]
/-- The post that has all others twice, and its rows. -/
def twiceP (p : Post) (k : Nat) : Post := ⟨dupL k p.errs (p.errs.length - 1), p.gain, p.drop, p.fall, p.out, p.ahead⟩
def twiceR (p : Post) (reads : List (List Int)) (k : Nat) : List (List Int) := tab reads.length fun h => dupL k (reads.getD h []) (p.errs.length - 1)
theorem twice_gAt {p : Post} {reads : List (List Int)} {k : Nat} {f : Int} (hk : k < p.errs.length) (hr : ReadsOK p reads) : ∀ h, h ≤ reads.length → gAt (twiceP p k) (twiceR p reads k) h f = gAt p reads h k
  | 0, _ => rfl
  | h + 1, hh => by
    have ih := twice_gAt (f := f) hk hr h (by omega)
    show (gAt (twiceP p k) (twiceR p reads k) h f).bind (stepX (twiceP p k) ((twiceR p reads k).getD h []) (decide (h = 0)) f) = (gAt p reads h k).bind (stepX p (reads.getD h []) (decide (h = 0)) k)
    rw [ih]
    have e : ∀ x, stepX (twiceP p k) ((twiceR p reads k).getD h []) (decide (h = 0)) f x = stepX p (reads.getD h []) (decide (h = 0)) k x := fun x => by
      unfold stepX
      rw [show (twiceR p reads k).getD h [] = dupL k (reads.getD h []) (p.errs.length - 1) from tab_getD (by omega)]
      rw [show (twiceP p k).errs = dupL k p.errs (p.errs.length - 1) from rfl, dup_ends hk (hr.rows h (by omega)).len]
      rfl
    cases gAt p reads h k with
    | none => rfl
    | some x => exact e x
theorem hull_const {g : Int → Option (Int × Int)} {c : Option (Int × Int)} : ∀ n : Nat, 0 < n → (∀ i : Nat, i < n → g ((i : Int) - 1) = c) → hull g n = c
  | 0, h, _ => by omega
  | 1, _, h => by
    have := h 0 (by omega)
    simp only [hull, this]
    cases c <;> rfl
  | n + 2, _, h => by
    have ih := hull_const (n + 1) (by omega) (fun i hi => h i (by omega))
    have h2 := h (n + 1) (by omega)
    have e : hull g (n + 2) = match g (((n + 1 : Nat) : Int) - 1) with | none => hull g (n + 1) | some x => some (joinE (hull g (n + 1)) x) := rfl
    rw [e, h2, ih]
    cases c with
    | none => rfl
    | some x => simp only [joinE]; congr 1; ext <;> simp
theorem hull_one {g : Int → Option (Int × Int)} {k : Nat} : ∀ n : Nat, (∀ i : Nat, i < n → i ≠ k + 1 → g ((i : Int) - 1) = none) → hull g n = if k + 1 < n then g (k : Int) else none
  | 0, h => by rw [if_neg (by omega)]; rfl
  | n + 1, h => by
    have ih := hull_one (k := k) n (fun i hi hne => h i (by omega) hne)
    simp only [hull]
    by_cases e : n = k + 1
    · subst e
      rw [ih, if_neg (by omega), if_pos (by omega)]
      rw [show (((k + 1 : Nat) : Int) - 1) = (k : Int) by omega]
      cases g (k : Int) <;> rfl
    · rw [h n (by omega) e]
      simp only
      rw [ih]
      by_cases h1 : k + 1 < n
      · rw [if_pos h1, if_pos (by omega)]
      · rw [if_neg h1, if_neg (by omega)]
theorem flist_one {g : Int → Option (Int × Int)} {k : Nat} : ∀ n : Nat, (∀ i : Nat, i < n → i ≠ k + 1 → g ((i : Int) - 1) = none) → flist g n = if k + 1 < n ∧ (g (k : Int)).isSome = true then [(k : Int)] else []
  | 0, h => by rw [if_neg (by omega)]; rfl
  | n + 1, h => by
    have ih := flist_one (k := k) n (fun i hi hne => h i (by omega) hne)
    simp only [flist]
    by_cases e : n = k + 1
    · subst e
      rw [ih, if_neg (by omega)]
      rw [show (((k + 1 : Nat) : Int) - 1) = (k : Int) by omega]
      cases hg : g (k : Int) with
      | none => simp
      | some x => simp
    · rw [h n (by omega) e]
      simp only
      rw [ih]
      by_cases h1 : k + 1 < n
      · by_cases h2 : (g (k : Int)).isSome = true
        · rw [if_pos ⟨h1, h2⟩, if_pos ⟨by omega, h2⟩]
        · rw [if_neg (fun h => h2 h.2), if_neg (fun h => h2 h.2)]
      · rw [if_neg (by omega), if_neg (by omega)]
/-- Do two gauges agree with no speed together? -/
def apartG (errs row : List Int) (a b : Nat) : Bool := decide (row.getD b 0 + errs.getD b 0 < row.getD a 0 - errs.getD a 0 ∨ row.getD a 0 + errs.getD a 0 < row.getD b 0 - errs.getD b 0)
theorem apart_none {p : Post} {row : List Int} {first : Bool} {f : Int} {a b : Nat} {x : Int × Int} (ha : a < row.length) (hb : b < row.length) (haf : (a : Int) ≠ f) (hbf : (b : Int) ≠ f) (h : apartG p.errs row a b = true) : stepX p row first f x = none := by
  have h := of_decide_eq_true h
  have l1 := ((agLo_iff (errs := p.errs) (row := row) (f := f) row.length).1 (Int.le_refl _)).2
  have l2 := ((agHi_iff (errs := p.errs) (row := row) (f := f) row.length).1 (Int.le_refl _)).2
  have a1 := l1 a ha haf
  have a2 := l1 b hb hbf
  have b1 := l2 a ha haf
  have b2 := l2 b hb hbf
  have e : agreedEnds p.errs row f = (1, 0) := by
    unfold agreedEnds
    rw [if_pos (by omega)]
  unfold stepX
  rw [if_pos (.inl e)]
end Go.Am

/- Plain words for posts: what holds from the hour on in which one gauge disagrees with two others. -/
namespace Go.Am
open Go.RowKit Go.Proofs
set_option linter.unusedSimpArgs false
set_option linter.unusedVariables false

theorem lone_none {p : Post} {reads : List (List Int)} {k i1 i2 fr : Nat} {f : Int} (hr : ReadsOK p reads) (hfr : fr < reads.length) (hk : k < p.errs.length) (h1 : i1 < p.errs.length) (h2 : i2 < p.errs.length) (h12 : i1 ≠ i2)
    (a1 : apartG p.errs (reads.getD fr []) k i1 = true) (a2 : apartG p.errs (reads.getD fr []) k i2 = true) (hf : f ≠ (k : Int)) : ∀ h, fr < h → gAt p reads h f = none := by
  have hl := (hr.rows fr hfr).len
  have base : gAt p reads (fr + 1) f = none := by
    show (gAt p reads fr f).bind (stepX p (reads.getD fr []) (decide (fr = 0)) f) = none
    cases gAt p reads fr f with
    | none => rfl
    | some x =>
      show stepX _ _ _ _ _ = none
      by_cases e : (i1 : Int) = f
      · exact apart_none (a := k) (b := i2) (by omega) (by omega) (by omega) (by omega) a2
      · exact apart_none (a := k) (b := i1) (by omega) (by omega) (by omega) e a1
  intro h hh
  have := gAt_none base (h - (fr + 1))
  rwa [show fr + 1 + (h - (fr + 1)) = h by omega] at this
theorem lone_hull {p : Post} {g : Int → Option (Int × Int)} {k : Nat} (hk : k < p.errs.length) (h : ∀ f : Int, f ≠ (k : Int) → g f = none) : hull g (p.errs.length + 1) = g (k : Int) := by
  rw [hull_one (k := k) _ (fun i _ hne => h _ (by omega)), if_pos (by omega)]
theorem lone_flist {p : Post} {g : Int → Option (Int × Int)} {k : Nat} (hk : k < p.errs.length) (h : ∀ f : Int, f ≠ (k : Int) → g f = none) : flist g (p.errs.length + 1) = if (g (k : Int)).isSome = true then [(k : Int)] else [] := by
  rw [flist_one (k := k) _ (fun i _ hne => h _ (by omega))]
  by_cases h1 : (g (k : Int)).isSome = true
  · rw [if_pos ⟨by omega, h1⟩, if_pos h1]
  · rw [if_neg (fun h => h1 h.2), if_neg h1]
theorem dup_mem {k m : Nat} {l : List Int} {x : Int} (h : x ∈ dupL k l m) : ∃ j, j < 2 * m ∧ l.getD (skp k (j / 2)) 0 = x := by
  simp only [dupL, tab, List.mem_map, List.mem_range] at h
  exact h
theorem skp_lt {k n j : Nat} (hk : k < n) (hj : j < 2 * (n - 1)) : skp k (j / 2) < n := by
  unfold skp; split <;> omega
theorem twice_fault {p : Post} {reads : List (List Int)} {k : Nat} (hf : faultP p reads = 0) (hk : k < p.errs.length) (hn : 2 ≤ p.errs.length ∧ p.errs.length ≤ 6) : faultP (twiceP p k) (twiceR p reads k) = 0 := by
  obtain ⟨hp, hr⟩ := faultP_zero hf
  have hpb : postB (twiceP p k) = true := by
    refine decide_eq_true ⟨?_, ?_, hp.gain, hp.drop, hp.fall, hp.out, hp.ahead⟩
    · rw [show (twiceP p k).errs = dupL k p.errs (p.errs.length - 1) from rfl, dup_length]; omega
    · rw [List.all_eq_true]
      intro x hx
      obtain ⟨j, hj, rfl⟩ := dup_mem hx
      exact decide_eq_true (hp.errs _ (skp_lt hk hj))
  unfold faultP
  rw [if_neg (by simp [hpb]), if_neg (by have := hr.len; rw [show (twiceR p reads k).length = reads.length from tab_length]; omega), if_pos]
  rw [List.all_eq_true]
  intro r hr'
  simp only [twiceR, tab, List.mem_map, List.mem_range] at hr'
  obtain ⟨h, hh, rfl⟩ := hr'
  have hrow := hr.rows h hh
  simp only [rowB, Bool.and_eq_true, decide_eq_true_eq, List.all_eq_true]
  refine ⟨?_, fun x hx => ?_⟩
  · rw [show (twiceP p k).errs = dupL k p.errs (p.errs.length - 1) from rfl, dup_length, dup_length]
  · obtain ⟨j, hj, rfl⟩ := dup_mem hx
    exact decide_eq_true (hrow.reads _ (by rw [hrow.len]; exact skp_lt hk hj))
theorem twice_hull {p : Post} {reads : List (List Int)} {k h : Nat} (hk : k < p.errs.length) (hr : ReadsOK p reads) (hh : h ≤ reads.length) : hull (gAt (twiceP p k) (twiceR p reads k) h) ((twiceP p k).errs.length + 1) = gAt p reads h k :=
  hull_const _ (by omega) (fun i _ => twice_gAt hk hr h hh)
/-- What the law looks at. -/
structure LoneF (reads : List (List Int)) (k fr : Nat) (E : Int) (LA LB : List (Int × Int × Int)) (F : List Int) : Prop where
  res : (E = 0 ∧ LA.length = reads.length ∧ LB.length = reads.length ∧ F = [(k : Int)]) ∨ (E = 9 ∧ LA.length = 0 ∧ LB.length = 0 ∧ F = [])
  eq : ∀ h, fr ≤ h → h < LA.length → LA.getD h default = LB.getD h default
theorem lone_facts {p : Post} {reads : List (List Int)} {k i1 i2 fr : Nat} (hf : faultP p reads = 0) (hn : p.errs.length ≤ 6) (hfr : fr < reads.length) (hk : k < p.errs.length) (h1 : i1 < p.errs.length) (h2 : i2 < p.errs.length) (h12 : i1 ≠ i2) (hk1 : i1 ≠ k)
    (a1 : apartG p.errs (reads.getD fr []) k i1 = true) (a2 : apartG p.errs (reads.getD fr []) k i2 = true) :
    levelsE (twiceP p k) (twiceR p reads k) = levelsE p reads ∧ LoneF reads k fr (levelsE p reads) (levelsL p reads) (levelsL (twiceP p k) (twiceR p reads k)) (failedL p reads) := by
  obtain ⟨hp, hr⟩ := faultP_zero hf
  have hf2 := twice_fault (k := k) hf hk ⟨by omega, hn⟩
  have hno := fun f (hf : f ≠ (k : Int)) => lone_none (f := f) hr hfr hk h1 h2 h12 a1 a2 hf
  have hend := lone_hull hk (fun f hf => hno f hf reads.length hfr)
  have hend2 := twice_hull (h := reads.length) hk hr (Nat.le_refl _)
  have hl2 : (twiceR p reads k).length = reads.length := tab_length
  have e1 := brk_end (p := p) (reads := reads)
  have e2 := brk_end (p := twiceP p k) (reads := twiceR p reads k)
  rw [hend] at e1
  rw [hl2, hend2] at e2
  have efl := lone_flist hk (fun f hf => hno f hf reads.length hfr)
  unfold levelsE levelsL failedL
  rw [if_pos hf, if_pos hf2, if_pos hf, if_pos hf2, if_pos hf, efl]
  cases hg : gAt p reads reads.length (k : Int) with
  | none =>
    rw [hg] at e1 e2
    cases hb1 : brk p reads with
    | none => rw [hb1] at e1; cases e1
    | some x1 =>
      cases hb2 : brk (twiceP p k) (twiceR p reads k) with
      | none => rw [hb2] at e2; cases e2
      | some x2 => exact ⟨rfl, .inr ⟨rfl, rfl, rfl, rfl⟩, fun h _ hh => by simp at hh⟩
  | some z =>
    rw [hg] at e1 e2
    cases hb1 : brk p reads with
    | some x1 => rw [hb1] at e1; cases e1
    | none =>
      cases hb2 : brk (twiceP p k) (twiceR p reads k) with
      | some x2 => rw [hb2] at e2; cases e2
      | none =>
        refine ⟨rfl, .inl ⟨rfl, states_length, by rw [hl2]; exact states_length, rfl⟩, fun h hfh hh => ?_⟩
        simp only [states_length] at hh
        have g1 : (states p reads reads.length).getD h default = stRec p (stAt p reads h) := by simp [states, List.getD_eq_getElem?_getD, hh]
        have g2 : (states (twiceP p k) (twiceR p reads k) (twiceR p reads k).length).getD h default = stRec (twiceP p k) (stAt (twiceP p k) (twiceR p reads k) h) := by
          rw [hl2]; simp [states, List.getD_eq_getElem?_getD, hh]
        rw [g1, g2]
        have s1 : stAt p reads h = gAt p reads (h + 1) k := lone_hull hk (fun f hf => hno f hf (h + 1) (by omega))
        have s2 : stAt (twiceP p k) (twiceR p reads k) h = gAt p reads (h + 1) k := twice_hull hk hr (by omega)
        rw [s1, s2]
        rfl
end Go.Am

/- The abstract machine Am, part Y8: a cut behind a loop that is left by an exit. -/
namespace Go.Am
open Go.RowKit
/-- What is to be shown where a block is left. -/
def exitQ (id : Nat) (K : St → Prop) (Q : Exit → St → Prop) : Exit → St → Prop
  | .exit i, s => if i = id then K s else Q (.exit i) s
  | e, s => Q e s
section
variable [Base] {P : Program} {w0 : World} {r : Option Nat} {X : Ctx} {s s' : St} {Q : Exit → St → Prop} {c : Code}
omit [Base] in
theorem exq_e {id : Nat} {K : St → Prop} : exitQ id K Q (.exit id) s = K s := by simp [exitQ]
omit [Base] in
theorem exq_r {id : Nat} {K : St → Prop} : exitQ id K Q .ret s = Q .ret s := nrfl rfl
omit [Base] in
theorem exq_n {id : Nat} {K : St → Prop} : exitQ id K Q .normal s = Q .normal s := nrfl rfl
/-- A cut: behind the exit all states are told by I. -/
theorem awp_cut {γ : Type} (id : Nat) (J : γ → Prop) (I : γ → St) (h1 : AWP P w0 r X c s (exitQ id (fun s' => ∃ g, J g ∧ Imp w0 X s' (I g)) Q)) (h2 : ∀ g, J g → ∀ s', Imp w0 X s' (I g) → Q (.exit id) s') : AWP P w0 r X c s Q := by
  refine AWP.mono h1 fun e s' hq => ?_
  cases e with
  | exit i =>
    simp only [exitQ] at hq
    split at hq
    · rename_i e; subst e; obtain ⟨g, h3, h4⟩ := hq; exact h2 g h3 s' h4
    · exact hq
  | normal => exact hq
  | goto l => exact hq
  | ret => exact hq
  | panic ch => exact hq
  | outgrown => exact hq
theorem kt_imp (h : Imp w0 X s s') (h' : Kt P w0 r X c Q s') : Kt P w0 r X c Q s := awp_imp h h'
end
attribute [go_sem] exq_e exq_r exq_n
end Go.Am

/- The law AlarmLone, as a contract: it returns true. -/
namespace Go.Am
open Go.RowKit Go.Proofs
attribute [local irreducible] AWP CallS Kt goK CallK stepK evOps SemF SemY Imp tab hasTo dupL
set_option maxRecDepth 4000
set_option linter.unusedSimpArgs false
set_option linter.unusedVariables false
set_option maxHeartbeats 6400000

theorem apart_c (p : Post) (row : List Int) (a b : Nat) (hp : PostOK p) (hr : RowOK p row) (ha : a < row.length) (hb : b < row.length) : CallS Try.prog 28 [.agg (postC p), sl row, .int .i64 a, .int .i64 b] (.bool (apartG p.errs row a b)) := by
  have r1 := hr.reads a ha
  have r2 := hr.reads b hb
  have e1 := hp.errs a (by have := hr.len; omega)
  have e2 := hp.errs b (by have := hr.len; omega)
  have hl := hr.len
  unfold apartG
  (refine callS_of_awp (fun w args => Try.call28 ..) Try.func28 rfl (fun w0 m0 wz => ?_); simp only [Try.ntmps28, Try.results28, initT, junks, postC, watchC, sll, slSt, sl, List.toList_toArray, List.cons_append, List.nil_append, List.length_cons, List.length_nil, Nat.reduceAdd, Nat.reduceSub])
  (repeat' (first
    | (refine awp_seqK ?_)
    | (refine kt ?_)
    | (refine And.intro ?_ ?_)
    | ((first | refine awp_region ?_ | refine awp_draw (by kernel_rfl) (by kernel_rfl) ?_ | refine Imp.le2 ?_ | refine awp_label ?_ | refine awp_skip ?_ | refine awp_exit ?_ | refine awp_cd ?_ | refine awp_ret ?_); simp (maxSteps := 4000000) only [go_sem, List.append_eq, List.cons_append, List.nil_append, Nat.reduceAdd, Nat.reduceMul, Nat.reduceSub, Nat.reduceLeDiff, Nat.reduceLT, Int.reduceAdd, Int.reduceToNat, Int.reduceLE, Int.reduceLT, Int.reduceNeg, reduceIte, postC, watchC, sll, slSt])
    | (intro _h)
    | (refine awp_block ?_)
    | (refine awp_scope ?_)
    | (refine go_split (fun _h => ?_) (fun _h => ?_) <;> simp (maxSteps := 4000000) only [go_sem, List.append_eq, List.cons_append, List.nil_append, Nat.reduceAdd, Nat.reduceMul, Nat.reduceSub, Nat.reduceLeDiff, Nat.reduceLT, Int.reduceAdd, Int.reduceToNat, Int.reduceLE, Int.reduceLT, Int.reduceNeg, reduceIte, postC, watchC, sll, slSt])
    | (show heapOK _ _ = true; kernel_rfl)
    | (omega)))
  all_goals first
    | omega
    | (exact decide_eq_true (by omega))
    | (exact decide_eq_false (by omega))
    | trace_state
def cU (k i : Nat) : Nat := if i ≤ k then i else i - 1
theorem cU_step {k i : Nat} (h : i ≠ k) : cU k (i + 1) = cU k i + 1 ∧ skp k (cU k i) = i := by
  unfold cU skp
  by_cases h1 : i ≤ k
  · rw [if_pos h1, if_pos (by omega), if_pos (by omega)]; exact ⟨rfl, rfl⟩
  · rw [if_neg h1, if_neg (by omega), if_neg (by omega)]; omega
theorem cU_same {k : Nat} : cU k (k + 1) = cU k k := by unfold cU; rw [if_pos (Nat.le_refl _), if_neg (by omega)]; rfl
theorem cU_end {k n : Nat} (h : k < n) : cU k n = n - 1 := by unfold cU; rw [if_neg (by omega)]
theorem cU_le {k n : Nat} : cU k n ≤ n := by unfold cU; split <;> omega
theorem dup_step {k i : Nat} {l : List Int} (h : i ≠ k) : dupL k l (cU k (i + 1)) = dupL k l (cU k i) ++ [l.getD i 0, l.getD i 0] := by
  obtain ⟨h1, h2⟩ := cU_step h
  rw [h1]
  unfold dupL
  rw [show 2 * (cU k i + 1) = 2 * cU k i + 1 + 1 by omega, tab_succ, tab_succ, List.append_assoc]
  rw [show (2 * cU k i) / 2 = cU k i by omega, show (2 * cU k i + 1) / 2 = cU k i by omega, h2]
  rfl
theorem dup_zero {k : Nat} {l : List Int} : dupL k l (cU k 0) = [] := by
  have : cU k 0 = 0 := by unfold cU; rw [if_pos (Nat.zero_le _)]
  rw [this]; unfold dupL; exact tab_zero
def goodG (p : Post) (row : List Int) (k i : Nat) : Prop := i ≠ k ∧ apartG p.errs row k i = true
def cntJ (p : Post) (row : List Int) (k : Nat) (g : Nat × Nat) : Prop := g.1 ≤ p.errs.length ∧ g.2 ≤ g.1 ∧ (1 ≤ g.2 → ∃ i1, i1 < g.1 ∧ goodG p row k i1) ∧ (2 ≤ g.2 → ∃ i1 i2, i1 < g.1 ∧ i2 < g.1 ∧ i1 ≠ i2 ∧ goodG p row k i1 ∧ goodG p row k i2)
theorem cntJ_yes {p : Post} {row : List Int} {k i c : Nat} (h : cntJ p row k (i, c)) (hi : i < p.errs.length) (hg : goodG p row k i) : cntJ p row k (i + 1, c + 1) := by
  obtain ⟨h1, h2, h3, h4⟩ := h
  simp only at h1 h2 h3 h4
  refine ⟨by simp only; omega, by simp only; omega, fun _ => ⟨i, by simp only; omega, hg⟩, fun h5 => ?_⟩
  obtain ⟨i1, h6, h7⟩ := h3 (by simp only at h5; omega)
  exact ⟨i1, i, by simp only; omega, by simp only; omega, by omega, h7, hg⟩
theorem cntJ_no {p : Post} {row : List Int} {k i c : Nat} (h : cntJ p row k (i, c)) (hi : i < p.errs.length) : cntJ p row k (i + 1, c) := by
  obtain ⟨h1, h2, h3, h4⟩ := h
  simp only at h1 h2 h3 h4
  refine ⟨by simp only; omega, by simp only; omega, fun h5 => ?_, fun h5 => ?_⟩
  · obtain ⟨i1, h6, h7⟩ := h3 h5
    exact ⟨i1, by simp only; omega, h7⟩
  · obtain ⟨i1, i2, h6, h7, h8⟩ := h4 h5
    exact ⟨i1, i2, by simp only; omega, by simp only; omega, h8⟩
end Go.Am

/- The law AlarmLone, as a contract: it returns true. -/
namespace Go.Am
open Go.RowKit Go.Proofs
attribute [local irreducible] AWP CallS Kt goK CallK stepK evOps SemF SemY Imp tab hasTo dupL cU goodG
set_option maxRecDepth 4000
set_option linter.unusedSimpArgs false
set_option linter.unusedVariables false
set_option maxHeartbeats 6400000

theorem goodG_iff {p : Post} {row : List Int} {k i : Nat} : goodG p row k i ↔ (i ≠ k ∧ apartG p.errs row k i = true) := by unfold goodG; exact Iff.rfl
theorem alarmLone_c (p : Post) (reads : List (List Int)) (which : Int) (ib : InB p reads) (hw : 0 ≤ which ∧ which ≤ 255) : CallS Try.prog 6 [.agg (postC p), sll reads, .int .u8 which] (.bool true) := by
  have k1 := ready_c p reads ib
  by_cases hok : readyB p reads = true ∧ p.errs.length ≤ 6
  · obtain ⟨o1, o2⟩ := hok
    rw [o1] at k1
    have hth : thinB p reads = true ∧ faultP p reads = 0 := by
      unfold readyB at o1; rw [Bool.and_eq_true] at o1; exact ⟨o1.1, of_decide_eq_true o1.2⟩
    obtain ⟨t1, t2, t3⟩ := thinB_true hth.1
    obtain ⟨hp, hr⟩ := faultP_zero hth.2
    obtain ⟨hl1, hl2⟩ := hp.len
    have hl3 := hr.len
    have k7 := Post_c p (by omega)
    have k8 := rows_c reads (by omega) (fun i hi => by have := t3 i hi; omega)
    have hm := tmod_bd (a := which) (b := (p.errs.length : Int)) hw.1 (by omega)
    obtain ⟨k, hk⟩ : ∃ k : Nat, which.tmod (p.errs.length : Int) = k := ⟨(which.tmod (p.errs.length : Int)).toNat, by omega⟩
    rw [hk] at hm
    have hkn : k < p.errs.length := by omega
    simp only [postC, sl, sll, slSt] at k1 k7 k8
    (refine callS_of_awp (fun w args => Try.call6 ..) Try.func6 rfl (fun w0 m0 wz => ?_); simp only [Try.ntmps6, Try.results6, initT, junks, postC, watchC, sll, slSt, sl, List.toList_toArray, List.cons_append, List.nil_append, List.length_cons, List.length_nil, Nat.reduceAdd, Nat.reduceSub])
    (repeat' (first
    | (refine awp_seqK ?_)
    | (refine kt ?_)
    | (refine And.intro ?_ ?_)
    | ((first | refine awp_region ?_ | refine awp_draw (by kernel_rfl) (by kernel_rfl) ?_ | refine Imp.le2 ?_ | refine awp_label ?_ | refine awp_skip ?_ | refine awp_exit ?_ | refine awp_cd ?_ | refine awp_ret ?_); simp (maxSteps := 4000000) only [go_sem, List.append_eq, List.cons_append, List.nil_append, Nat.reduceAdd, Nat.reduceMul, Nat.reduceSub, Nat.reduceLeDiff, Nat.reduceLT, Int.reduceAdd, Int.reduceToNat, Int.reduceLE, Int.reduceLT, Int.reduceNeg, reduceIte, postC, watchC, sll, slSt, hk])
    | (intro _h)
    | (refine awp_block ?_)
    | (refine awp_scope ?_)
    | ((first | refine callK_of (k1) ?_); try simp (maxSteps := 4000000) only [go_sem, List.append_eq, List.cons_append, List.nil_append, Nat.reduceAdd, Nat.reduceMul, Nat.reduceSub, Nat.reduceLeDiff, Nat.reduceLT, Int.reduceAdd, Int.reduceToNat, Int.reduceLE, Int.reduceLT, Int.reduceNeg, reduceIte, postC, watchC, sll, slSt, hk])
    | (refine go_split (fun _h => ?_) (fun _h => ?_) <;> simp (maxSteps := 4000000) only [go_sem, List.append_eq, List.cons_append, List.nil_append, Nat.reduceAdd, Nat.reduceMul, Nat.reduceSub, Nat.reduceLeDiff, Nat.reduceLT, Int.reduceAdd, Int.reduceToNat, Int.reduceLE, Int.reduceLT, Int.reduceNeg, reduceIte, postC, watchC, sll, slSt, hk])
    | (show heapOK _ _ = true; kernel_rfl)
    | (omega)))
    refine awp_cut 0 (γ := Nat) (fun fr => fr ≤ reads.length ∧ (fr < reads.length → ∃ i1 i2, i1 < p.errs.length ∧ i2 < p.errs.length ∧ i1 ≠ i2 ∧ goodG p (reads.getD fr []) k i1 ∧ goodG p (reads.getD fr []) k i2)) (fun fr => ⟨mkT 231 [(1, sll reads), (3, .ptr 0 0 0), (7, .int .i64 k), (8, .int .i64 fr)], [some (.cells 46 1 0 (postC p))], []⟩) ?_ ?_
    · refine awp_loopN reads.length (fun fr => ⟨mkT 231 [(1, sll reads), (3, .ptr 0 0 0), (7, .int .i64 k), (8, .int .i64 fr)], [some (.cells 46 1 0 (postC p))], []⟩) (.le2 ?_) ?_
      · simp only [postC]; simp (maxSteps := 4000000) only [go_sem, List.append_eq, List.cons_append, List.nil_append, Nat.reduceAdd, Nat.reduceMul, Nat.reduceSub, Nat.reduceLeDiff, Nat.reduceLT, Int.reduceAdd, Int.reduceToNat, Int.reduceLE, Int.reduceLT, Int.reduceNeg, reduceIte, postC, watchC, sll, slSt]
      · intro fr hfr
        rcases Nat.lt_or_eq_of_le hfr with hlt | hlt
        · have hrow := hr.rows fr hlt
          simp only [postC]; simp (maxSteps := 4000000) only [go_sem, List.append_eq, List.cons_append, List.nil_append, Nat.reduceAdd, Nat.reduceMul, Nat.reduceSub, Nat.reduceLeDiff, Nat.reduceLT, Int.reduceAdd, Int.reduceToNat, Int.reduceLE, Int.reduceLT, Int.reduceNeg, reduceIte, postC, watchC, sll, slSt]
          (repeat' (first
    | (refine awp_seqK ?_)
    | (refine kt ?_)
    | (refine And.intro ?_ ?_)
    | ((first | refine awp_region ?_ | refine awp_draw (by kernel_rfl) (by kernel_rfl) ?_ | refine Imp.le2 ?_ | refine awp_label ?_ | refine awp_skip ?_ | refine awp_exit ?_ | refine awp_cd ?_ | refine awp_ret ?_); simp (maxSteps := 4000000) only [go_sem, List.append_eq, List.cons_append, List.nil_append, Nat.reduceAdd, Nat.reduceMul, Nat.reduceSub, Nat.reduceLeDiff, Nat.reduceLT, Int.reduceAdd, Int.reduceToNat, Int.reduceLE, Int.reduceLT, Int.reduceNeg, reduceIte, postC, watchC, sll, slSt])
    | (intro _h)
    | (refine awp_block ?_)
    | (refine awp_scope ?_)
    | (refine go_split (fun _h => ?_) (fun _h => ?_) <;> simp (maxSteps := 4000000) only [go_sem, List.append_eq, List.cons_append, List.nil_append, Nat.reduceAdd, Nat.reduceMul, Nat.reduceSub, Nat.reduceLeDiff, Nat.reduceLT, Int.reduceAdd, Int.reduceToNat, Int.reduceLE, Int.reduceLT, Int.reduceNeg, reduceIte, postC, watchC, sll, slSt])
    | (show heapOK _ _ = true; kernel_rfl)
    | (omega)))
          refine awp_loopJ (γ := Nat × Nat) (cntJ p (reads.getD fr []) k) (fun g => ⟨mkT 231 [(1, sll reads), (3, .ptr 0 0 0), (7, .int .i64 k), (8, .int .i64 fr), (9, .int .i64 g.2), (10, .int .i64 g.1)], [some (.cells 46 1 0 (postC p))], []⟩) (fun g => p.errs.length - g.1) (0, 0) ⟨by simp, by simp, by simp, by simp⟩ (.le2 ?_) ?_
          · simp only [postC]; simp (maxSteps := 4000000) only [go_sem, List.append_eq, List.cons_append, List.nil_append, Nat.reduceAdd, Nat.reduceMul, Nat.reduceSub, Nat.reduceLeDiff, Nat.reduceLT, Int.reduceAdd, Int.reduceToNat, Int.reduceLE, Int.reduceLT, Int.reduceNeg, reduceIte, postC, watchC, sll, slSt]
          · rintro ⟨i, c⟩ hJ
            have hap := fun h : i < p.errs.length => apart_c p (reads.getD fr []) k i hp hrow (by have := hrow.len; omega) (by have := hrow.len; omega)
            have hJ1 := hJ.1
            have hJ2 := hJ.2.1
            have hJ4 := hJ.2.2.2
            simp only at hJ1 hJ2 hJ4
            simp only [postC, sl] at hap
            have hno := fun (h : i < p.errs.length) => cntJ_no hJ h
            have hyes := fun (h : i < p.errs.length) (h1 : i ≠ k) (h2 : apartG p.errs (reads.getD fr []) k i = true) => cntJ_yes hJ h (goodG_iff.2 ⟨h1, h2⟩)
            generalize apartG p.errs (reads.getD fr []) k i = ag at *
            simp only [postC]; simp (maxSteps := 4000000) only [go_sem, List.append_eq, List.cons_append, List.nil_append, Nat.reduceAdd, Nat.reduceMul, Nat.reduceSub, Nat.reduceLeDiff, Nat.reduceLT, Int.reduceAdd, Int.reduceToNat, Int.reduceLE, Int.reduceLT, Int.reduceNeg, reduceIte, postC, watchC, sll, slSt]
            (repeat' (first
    | (refine awp_seqK ?_)
    | (refine kt ?_)
    | (refine And.intro ?_ ?_)
    | ((first | refine awp_region ?_ | refine awp_draw (by kernel_rfl) (by kernel_rfl) ?_ | refine awp_label ?_ | refine awp_skip ?_ | refine awp_exit ?_ | refine awp_cd ?_ | refine awp_ret ?_); simp (maxSteps := 4000000) only [go_sem, List.append_eq, List.cons_append, List.nil_append, Nat.reduceAdd, Nat.reduceMul, Nat.reduceSub, Nat.reduceLeDiff, Nat.reduceLT, Int.reduceAdd, Int.reduceToNat, Int.reduceLE, Int.reduceLT, Int.reduceNeg, reduceIte, postC, watchC, sll, slSt])
    | (intro _h)
    | (refine awp_block ?_)
    | (refine awp_scope ?_)
    | ((first | refine callK_of (hap (by omega)) ?_); try simp (maxSteps := 4000000) only [go_sem, List.append_eq, List.cons_append, List.nil_append, Nat.reduceAdd, Nat.reduceMul, Nat.reduceSub, Nat.reduceLeDiff, Nat.reduceLT, Int.reduceAdd, Int.reduceToNat, Int.reduceLE, Int.reduceLT, Int.reduceNeg, reduceIte, postC, watchC, sll, slSt])
    | (refine go_split (fun _h => ?_) (fun _h => ?_) <;> simp (maxSteps := 4000000) only [go_sem, List.append_eq, List.cons_append, List.nil_append, Nat.reduceAdd, Nat.reduceMul, Nat.reduceSub, Nat.reduceLeDiff, Nat.reduceLT, Int.reduceAdd, Int.reduceToNat, Int.reduceLE, Int.reduceLT, Int.reduceNeg, reduceIte, postC, watchC, sll, slSt])
    | (show heapOK _ _ = true; kernel_rfl)
    | (omega)))
            all_goals first
              | (refine ⟨(i + 1, c), hno (by omega), by simp only; omega, .le2 ?_⟩
                 simp (maxSteps := 4000000) only [go_sem, List.append_eq, List.cons_append, List.nil_append, Nat.reduceAdd, Nat.reduceMul, Nat.reduceSub, Nat.reduceLeDiff, Nat.reduceLT, Int.reduceAdd, Int.reduceToNat, Int.reduceLE, Int.reduceLT, Int.reduceNeg, reduceIte, postC, watchC, sll, slSt] <;> omega)
              | (refine ⟨(i + 1, c + 1), hyes (by omega) (by omega) ‹_›, by simp only; omega, .le2 ?_⟩
                 simp (maxSteps := 4000000) only [go_sem, List.append_eq, List.cons_append, List.nil_append, Nat.reduceAdd, Nat.reduceMul, Nat.reduceSub, Nat.reduceLeDiff, Nat.reduceLT, Int.reduceAdd, Int.reduceToNat, Int.reduceLE, Int.reduceLT, Int.reduceNeg, reduceIte, postC, watchC, sll, slSt] <;> omega)
              | (refine ⟨fr, ⟨by omega, fun _ => ?_⟩, .le2 ?_⟩
                 · obtain ⟨i1, i2, h6, h7, h8⟩ := hJ4 (by omega)
                   exact ⟨i1, i2, by omega, by omega, h8⟩
                 · simp (maxSteps := 4000000) only [go_sem, List.append_eq, List.cons_append, List.nil_append, Nat.reduceAdd, Nat.reduceMul, Nat.reduceSub, Nat.reduceLeDiff, Nat.reduceLT, Int.reduceAdd, Int.reduceToNat, Int.reduceLE, Int.reduceLT, Int.reduceNeg, reduceIte, postC, watchC, sll, slSt] <;> omega)
              | (refine Imp.le2 ?_
                 simp (maxSteps := 4000000) only [go_sem, List.append_eq, List.cons_append, List.nil_append, Nat.reduceAdd, Nat.reduceMul, Nat.reduceSub, Nat.reduceLeDiff, Nat.reduceLT, Int.reduceAdd, Int.reduceToNat, Int.reduceLE, Int.reduceLT, Int.reduceNeg, reduceIte, postC, watchC, sll, slSt] <;> omega)
              | trace_state
        · simp only [postC]; simp (maxSteps := 4000000) only [go_sem, List.append_eq, List.cons_append, List.nil_append, Nat.reduceAdd, Nat.reduceMul, Nat.reduceSub, Nat.reduceLeDiff, Nat.reduceLT, Int.reduceAdd, Int.reduceToNat, Int.reduceLE, Int.reduceLT, Int.reduceNeg, reduceIte, postC, watchC, sll, slSt]
          (repeat' (first
    | ((exfalso; omega))
    | (refine awp_seqK ?_)
    | (refine kt ?_)
    | (refine And.intro ?_ ?_)
    | ((first | refine awp_region ?_ | refine awp_draw (by kernel_rfl) (by kernel_rfl) ?_ | refine awp_label ?_ | refine awp_skip ?_ | refine awp_exit ?_ | refine awp_cd ?_ | refine awp_ret ?_); simp (maxSteps := 4000000) only [go_sem, List.append_eq, List.cons_append, List.nil_append, Nat.reduceAdd, Nat.reduceMul, Nat.reduceSub, Nat.reduceLeDiff, Nat.reduceLT, Int.reduceAdd, Int.reduceToNat, Int.reduceLE, Int.reduceLT, Int.reduceNeg, reduceIte, postC, watchC, sll, slSt])
    | (intro _h)
    | (refine awp_block ?_)
    | (refine awp_scope ?_)
    | (refine go_split (fun _h => ?_) (fun _h => ?_) <;> simp (maxSteps := 4000000) only [go_sem, List.append_eq, List.cons_append, List.nil_append, Nat.reduceAdd, Nat.reduceMul, Nat.reduceSub, Nat.reduceLeDiff, Nat.reduceLT, Int.reduceAdd, Int.reduceToNat, Int.reduceLE, Int.reduceLT, Int.reduceNeg, reduceIte, postC, watchC, sll, slSt])
    | (show heapOK _ _ = true; kernel_rfl)
    | (omega)))
          all_goals first
            | (refine ⟨fr, ⟨hfr, fun h => by omega⟩, .le2 ?_⟩
               simp (maxSteps := 4000000) only [go_sem, List.append_eq, List.cons_append, List.nil_append, Nat.reduceAdd, Nat.reduceMul, Nat.reduceSub, Nat.reduceLeDiff, Nat.reduceLT, Int.reduceAdd, Int.reduceToNat, Int.reduceLE, Int.reduceLT, Int.reduceNeg, reduceIte, postC, watchC, sll, slSt] <;> omega)
            | trace_state
    · rintro fr ⟨hfr, hex⟩ s' hs'
      simp (maxSteps := 4000000) only [go_sem, List.append_eq, List.cons_append, List.nil_append, Nat.reduceAdd, Nat.reduceMul, Nat.reduceSub, Nat.reduceLeDiff, Nat.reduceLT, Int.reduceAdd, Int.reduceToNat, Int.reduceLE, Int.reduceLT, Int.reduceNeg, reduceIte, postC, watchC, sll, slSt]
      refine kt_imp hs' ?_
      refine kt ?_
      rcases Nat.lt_or_eq_of_le hfr with hlt | hlt
      · obtain ⟨i1, i2, h1, h2, h12, g1, g2⟩ := hex hlt
        rw [goodG_iff] at g1 g2
        obtain ⟨le, lf⟩ := lone_facts (i1 := i1) (i2 := i2) hth.2 o2 hlt hkn h1 h2 h12 g1.1 g1.2 g2.2
        have ib2 : InB (twiceP p k) (twiceR p reads k) := by
          have hq := faultP_zero (twice_fault (k := k) hth.2 hkn ⟨by omega, o2⟩)
          have q1 := hq.1.len
          have q2 := hq.2.len
          exact ⟨by omega, by omega, fun i hi => by have := (hq.2.rows i hi).len; omega⟩
        have l1 := levels_c p reads ib
        have l2 := levels_c (twiceP p k) (twiceR p reads k) ib2
        have l3 := failed_c p reads ib
        rw [le] at l2
        have lres := lf.res
        have leq := lf.eq
        have hrl : (twiceR p reads k).length = reads.length := tab_length
        have hel : (twiceP p k).errs.length = 2 * (p.errs.length - 1) := dup_length
        simp only [postC, sl, sll, slSt] at l1 l2 l3
        generalize levelsL p reads = LA at *
        generalize levelsL (twiceP p k) (twiceR p reads k) = LB at *
        generalize failedL p reads = F at *
        generalize levelsE p reads = E at *
        have hcn := cU_end hkn
        have hxl : ∀ (l : List Int) (i : Nat), (dupL k l (cU k i)).length = 2 * cU k i := fun l i => dup_length
        have hcs : ∀ i, i ≠ k → cU k (i + 1) = cU k i + 1 := fun i h => (cU_step h).1
        have hck : cU k (k + 1) = cU k k := cU_same
        have hcl : ∀ i, cU k i ≤ i := fun i => cU_le
        have hc0 : cU k 0 = 0 := by unfold cU; rw [if_pos (Nat.zero_le _)]
        simp only [postC, twiceP, twiceR, sl, sll, slSt, dup_length, tab_length] at l2
        simp only [postC]; simp (maxSteps := 4000000) only [go_sem, List.append_eq, List.cons_append, List.nil_append, Nat.reduceAdd, Nat.reduceMul, Nat.reduceSub, Nat.reduceLeDiff, Nat.reduceLT, Int.reduceAdd, Int.reduceToNat, Int.reduceLE, Int.reduceLT, Int.reduceNeg, reduceIte, postC, watchC, sll, slSt]
        (repeat' (first
    | ((exfalso; omega))
    | (refine awp_seqK ?_)
    | (refine kt ?_)
    | (refine And.intro ?_ ?_)
    | ((first | refine awp_region ?_ | refine awp_draw (by kernel_rfl) (by kernel_rfl) ?_ | refine Imp.le2 ?_ | refine awp_label ?_ | refine awp_skip ?_ | refine awp_exit ?_ | refine awp_cd ?_ | refine awp_ret ?_); simp (maxSteps := 4000000) only [go_sem, List.append_eq, List.cons_append, List.nil_append, Nat.reduceAdd, Nat.reduceMul, Nat.reduceSub, Nat.reduceLeDiff, Nat.reduceLT, Int.reduceAdd, Int.reduceToNat, Int.reduceLE, Int.reduceLT, Int.reduceNeg, reduceIte, postC, watchC, sll, slSt])
    | (intro _h)
    | (refine awp_block ?_)
    | (refine awp_scope ?_)
    | ((first | refine callK_of (k7) ?_); try simp (maxSteps := 4000000) only [go_sem, List.append_eq, List.cons_append, List.nil_append, Nat.reduceAdd, Nat.reduceMul, Nat.reduceSub, Nat.reduceLeDiff, Nat.reduceLT, Int.reduceAdd, Int.reduceToNat, Int.reduceLE, Int.reduceLT, Int.reduceNeg, reduceIte, postC, watchC, sll, slSt])
    | (refine go_split (fun _h => ?_) (fun _h => ?_) <;> simp (maxSteps := 4000000) only [go_sem, List.append_eq, List.cons_append, List.nil_append, Nat.reduceAdd, Nat.reduceMul, Nat.reduceSub, Nat.reduceLeDiff, Nat.reduceLT, Int.reduceAdd, Int.reduceToNat, Int.reduceLE, Int.reduceLT, Int.reduceNeg, reduceIte, postC, watchC, sll, slSt])
    | (show heapOK _ _ = true; kernel_rfl)
    | (omega)))
        (refine awp_adT 12 22 1 rfl ?_; simp only [adT, lset, hset, List.length_cons, List.length_nil, Nat.reduceAdd])
        refine awp_loopN reads.length (fun h => ⟨mkT 231 [(1, sll reads), (3, .ptr 0 0 0), (7, .int .i64 k), (8, .int .i64 fr), (11, .ptr 1 0 0), (12, .osl 2 h 0 h), (13, .int .i64 h)], [some (.cells 46 1 0 (postC p)), some (.cells 51 1 0 [.nils, .int .i64 p.gain, .int .i64 p.drop, .int .i64 p.fall, .int .i64 p.out, .int .i64 p.ahead]), some (.cells 22 1 h (rowsC (tab h fun h => dupL k (reads.getD h []) (p.errs.length - 1))))], []⟩) (.le2 ?_) ?_
        · simp only [postC]; simp (maxSteps := 4000000) only [go_sem, List.append_eq, List.cons_append, List.nil_append, Nat.reduceAdd, Nat.reduceMul, Nat.reduceSub, Nat.reduceLeDiff, Nat.reduceLT, Int.reduceAdd, Int.reduceToNat, Int.reduceLE, Int.reduceLT, Int.reduceNeg, reduceIte, postC, watchC, sll, slSt]
          rw [tab_zero]; rfl
        · intro h hle
          rcases Nat.lt_or_eq_of_le hle with hh | hh
          · have hrow := hr.rows h hh
            have hrl2 := hrow.len
            have hts : tab (h + 1) (fun h => dupL k (reads.getD h []) (p.errs.length - 1)) = tab h (fun h => dupL k (reads.getD h []) (p.errs.length - 1)) ++ [dupL k (reads.getD h []) (p.errs.length - 1)] := tab_succ
            rw [hts]
            have hRl : (tab h (fun h => dupL k (reads.getD h []) (p.errs.length - 1))).length = h := tab_length
            generalize tab h (fun h => dupL k (reads.getD h []) (p.errs.length - 1)) = R at *
            simp only [postC]; simp (maxSteps := 4000000) only [go_sem, List.append_eq, List.cons_append, List.nil_append, Nat.reduceAdd, Nat.reduceMul, Nat.reduceSub, Nat.reduceLeDiff, Nat.reduceLT, Int.reduceAdd, Int.reduceToNat, Int.reduceLE, Int.reduceLT, Int.reduceNeg, reduceIte, postC, watchC, sll, slSt]
            (repeat' (first
    | (refine awp_seqK ?_)
    | (refine kt ?_)
    | (refine And.intro ?_ ?_)
    | ((first | refine awp_region ?_ | refine awp_draw (by kernel_rfl) (by kernel_rfl) ?_ | refine Imp.le2 ?_ | refine awp_label ?_ | refine awp_skip ?_ | refine awp_exit ?_ | refine awp_cd ?_ | refine awp_ret ?_); simp (maxSteps := 4000000) only [go_sem, List.append_eq, List.cons_append, List.nil_append, Nat.reduceAdd, Nat.reduceMul, Nat.reduceSub, Nat.reduceLeDiff, Nat.reduceLT, Int.reduceAdd, Int.reduceToNat, Int.reduceLE, Int.reduceLT, Int.reduceNeg, reduceIte, postC, watchC, sll, slSt])
    | (intro _h)
    | (refine awp_block ?_)
    | (refine awp_scope ?_)
    | (refine go_split (fun _h => ?_) (fun _h => ?_) <;> simp (maxSteps := 4000000) only [go_sem, List.append_eq, List.cons_append, List.nil_append, Nat.reduceAdd, Nat.reduceMul, Nat.reduceSub, Nat.reduceLeDiff, Nat.reduceLT, Int.reduceAdd, Int.reduceToNat, Int.reduceLE, Int.reduceLT, Int.reduceNeg, reduceIte, postC, watchC, sll, slSt])
    | (show heapOK _ _ = true; kernel_rfl)
    | (omega)))
            (refine awp_adT 14 3 1 rfl ?_; simp only [adT, lset, hset, List.length_cons, List.length_nil, Nat.reduceAdd])
            refine awp_loopN p.errs.length (fun i => ⟨mkT 231 [(1, sll reads), (3, .ptr 0 0 0), (7, .int .i64 k), (8, .int .i64 fr), (11, .ptr 1 0 0), (12, .osl 2 h 0 h), (13, .int .i64 h), (14, .osl 3 (cU k i) 0 (2 * cU k i)), (15, .int .i64 i)], [some (.cells 46 1 0 (postC p)), some (.cells 51 1 0 [.nils, .int .i64 p.gain, .int .i64 p.drop, .int .i64 p.fall, .int .i64 p.out, .int .i64 p.ahead]), some (.cells 22 1 h (rowsC R)), some (.cells 3 1 (cU k i) (ints (dupL k (reads.getD h []) (cU k i))))], []⟩) (.le2 ?_) ?_
            · simp only [postC]; simp (maxSteps := 4000000) only [go_sem, List.append_eq, List.cons_append, List.nil_append, Nat.reduceAdd, Nat.reduceMul, Nat.reduceSub, Nat.reduceLeDiff, Nat.reduceLT, Int.reduceAdd, Int.reduceToNat, Int.reduceLE, Int.reduceLT, Int.reduceNeg, reduceIte, postC, watchC, sll, slSt]
              rw [dup_zero, hc0]
              exact ⟨⟨rfl, rfl⟩, rfl, rfl⟩
            · intro i hi
              have hcl := hcl i
              have hxl := hxl (reads.getD h []) i
              rcases Nat.lt_or_eq_of_le hi with hi1 | hi1
              · by_cases hik : i = k
                · have e2 : ((i : Int) = (k : Int)) = True := eq_true (by omega)
                  rw [hik, hck, ← hik]
                  simp only [postC]; simp (maxSteps := 4000000) only [go_sem, List.append_eq, List.cons_append, List.nil_append, Nat.reduceAdd, Nat.reduceMul, Nat.reduceSub, Nat.reduceLeDiff, Nat.reduceLT, Int.reduceAdd, Int.reduceToNat, Int.reduceLE, Int.reduceLT, Int.reduceNeg, reduceIte, postC, watchC, sll, slSt]
                  (repeat' (first
    | (refine awp_seqK ?_)
    | (refine kt ?_)
    | (refine And.intro ?_ ?_)
    | ((first | refine awp_region ?_ | refine awp_draw (by kernel_rfl) (by kernel_rfl) ?_ | refine Imp.le2 ?_ | refine awp_label ?_ | refine awp_skip ?_ | refine awp_exit ?_ | refine awp_cd ?_ | refine awp_ret ?_); simp (maxSteps := 4000000) only [go_sem, List.append_eq, List.cons_append, List.nil_append, Nat.reduceAdd, Nat.reduceMul, Nat.reduceSub, Nat.reduceLeDiff, Nat.reduceLT, Int.reduceAdd, Int.reduceToNat, Int.reduceLE, Int.reduceLT, Int.reduceNeg, reduceIte, postC, watchC, sll, slSt, e2, decide_true])
    | (intro _h)
    | (refine awp_block ?_)
    | (refine awp_scope ?_)
    | (refine go_split (fun _h => ?_) (fun _h => ?_) <;> simp (maxSteps := 4000000) only [go_sem, List.append_eq, List.cons_append, List.nil_append, Nat.reduceAdd, Nat.reduceMul, Nat.reduceSub, Nat.reduceLeDiff, Nat.reduceLT, Int.reduceAdd, Int.reduceToNat, Int.reduceLE, Int.reduceLT, Int.reduceNeg, reduceIte, postC, watchC, sll, slSt, e2, decide_true])
    | (show heapOK _ _ = true; kernel_rfl)
    | (omega)))
                  all_goals first | omega | trace_state
                · have e2 : ((i : Int) = (k : Int)) = False := eq_false (by omega)
                  have hst := dup_step (l := reads.getD h []) hik
                  rw [hst, hcs i hik]
                  simp only [postC]; simp (maxSteps := 4000000) only [go_sem, List.append_eq, List.cons_append, List.nil_append, Nat.reduceAdd, Nat.reduceMul, Nat.reduceSub, Nat.reduceLeDiff, Nat.reduceLT, Int.reduceAdd, Int.reduceToNat, Int.reduceLE, Int.reduceLT, Int.reduceNeg, reduceIte, postC, watchC, sll, slSt]
                  (repeat' (first
    | (refine awp_seqK ?_)
    | (refine kt ?_)
    | (refine And.intro ?_ ?_)
    | ((first | refine awp_region ?_ | refine awp_draw (by kernel_rfl) (by kernel_rfl) ?_ | refine Imp.le2 ?_ | refine awp_label ?_ | refine awp_skip ?_ | refine awp_exit ?_ | refine awp_cd ?_ | refine awp_ret ?_); simp (maxSteps := 4000000) only [go_sem, List.append_eq, List.cons_append, List.nil_append, Nat.reduceAdd, Nat.reduceMul, Nat.reduceSub, Nat.reduceLeDiff, Nat.reduceLT, Int.reduceAdd, Int.reduceToNat, Int.reduceLE, Int.reduceLT, Int.reduceNeg, reduceIte, postC, watchC, sll, slSt, e2, decide_false, hxl])
    | (intro _h)
    | (refine awp_block ?_)
    | (refine awp_scope ?_)
    | (refine go_split (fun _h => ?_) (fun _h => ?_) <;> simp (maxSteps := 4000000) only [go_sem, List.append_eq, List.cons_append, List.nil_append, Nat.reduceAdd, Nat.reduceMul, Nat.reduceSub, Nat.reduceLeDiff, Nat.reduceLT, Int.reduceAdd, Int.reduceToNat, Int.reduceLE, Int.reduceLT, Int.reduceNeg, reduceIte, postC, watchC, sll, slSt, e2, decide_false, hxl])
    | (show heapOK _ _ = true; kernel_rfl)
    | (omega)))
                  all_goals first | omega | (simp [ints_append, ints_cons, ints_nil]; done) | trace_state
              · rw [hi1, hcn] at hxl
                rw [hi1, hcn]
                simp only [postC]; simp (maxSteps := 4000000) only [go_sem, List.append_eq, List.cons_append, List.nil_append, Nat.reduceAdd, Nat.reduceMul, Nat.reduceSub, Nat.reduceLeDiff, Nat.reduceLT, Int.reduceAdd, Int.reduceToNat, Int.reduceLE, Int.reduceLT, Int.reduceNeg, reduceIte, postC, watchC, sll, slSt]
                (refine awp_frz 3 rfl (by simp (maxSteps := 4000000) only [go_sem, List.append_eq, List.cons_append, List.nil_append, Nat.reduceAdd, Nat.reduceMul, Nat.reduceSub, Nat.reduceLeDiff, Nat.reduceLT, Int.reduceAdd, Int.reduceToNat, Int.reduceLE, Int.reduceLT, Int.reduceNeg, reduceIte, postC, watchC, sll, slSt]) (fun _ => rfl) ?_; simp only [frz, fzl, fz2, fz1, fz0, fzH, fzHs, fzO, fzB, List.map_cons, List.map_nil, if_true, if_false, reduceIte, Nat.reduceEqDiff, Nat.reduceAdd, Nat.succ_ne_self, Nat.zero_ne_one, Nat.one_ne_zero, reduceCtorEq, and_self])
                (repeat' (first
    | ((exfalso; omega))
    | (refine awp_seqK ?_)
    | (refine kt ?_)
    | (refine And.intro ?_ ?_)
    | ((first | refine awp_region ?_ | refine awp_draw (by kernel_rfl) (by kernel_rfl) ?_ | refine Imp.le2 ?_ | refine awp_label ?_ | refine awp_skip ?_ | refine awp_exit ?_ | refine awp_cd ?_ | refine awp_ret ?_); simp (maxSteps := 4000000) only [go_sem, List.append_eq, List.cons_append, List.nil_append, Nat.reduceAdd, Nat.reduceMul, Nat.reduceSub, Nat.reduceLeDiff, Nat.reduceLT, Int.reduceAdd, Int.reduceToNat, Int.reduceLE, Int.reduceLT, Int.reduceNeg, reduceIte, postC, watchC, sll, slSt])
    | (intro _h)
    | (refine awp_block ?_)
    | (refine awp_scope ?_)
    | (refine go_split (fun _h => ?_) (fun _h => ?_) <;> simp (maxSteps := 4000000) only [go_sem, List.append_eq, List.cons_append, List.nil_append, Nat.reduceAdd, Nat.reduceMul, Nat.reduceSub, Nat.reduceLeDiff, Nat.reduceLT, Int.reduceAdd, Int.reduceToNat, Int.reduceLE, Int.reduceLT, Int.reduceNeg, reduceIte, postC, watchC, sll, slSt])
    | (show heapOK _ _ = true; kernel_rfl)
    | (omega)))
                all_goals first | omega | (simp [rowsC_snoc, sl, dup_length]; done) | trace_state
          · rw [hh]
            have hrln : (tab reads.length fun h => dupL k (reads.getD h []) (p.errs.length - 1)).length = reads.length := tab_length
            generalize (tab reads.length fun h => dupL k (reads.getD h []) (p.errs.length - 1)) = R at *
            simp only [postC]; simp (maxSteps := 4000000) only [go_sem, List.append_eq, List.cons_append, List.nil_append, Nat.reduceAdd, Nat.reduceMul, Nat.reduceSub, Nat.reduceLeDiff, Nat.reduceLT, Int.reduceAdd, Int.reduceToNat, Int.reduceLE, Int.reduceLT, Int.reduceNeg, reduceIte, postC, watchC, sll, slSt]
            (repeat' (first
    | ((exfalso; omega))
    | (refine awp_seqK ?_)
    | (refine kt ?_)
    | (refine And.intro ?_ ?_)
    | ((first | refine awp_region ?_ | refine awp_draw (by kernel_rfl) (by kernel_rfl) ?_ | refine Imp.le2 ?_ | refine awp_label ?_ | refine awp_skip ?_ | refine awp_exit ?_ | refine awp_cd ?_ | refine awp_ret ?_); simp (maxSteps := 4000000) only [go_sem, List.append_eq, List.cons_append, List.nil_append, Nat.reduceAdd, Nat.reduceMul, Nat.reduceSub, Nat.reduceLeDiff, Nat.reduceLT, Int.reduceAdd, Int.reduceToNat, Int.reduceLE, Int.reduceLT, Int.reduceNeg, reduceIte, postC, watchC, sll, slSt])
    | (intro _h)
    | (refine awp_block ?_)
    | (refine awp_scope ?_)
    | (refine go_split (fun _h => ?_) (fun _h => ?_) <;> simp (maxSteps := 4000000) only [go_sem, List.append_eq, List.cons_append, List.nil_append, Nat.reduceAdd, Nat.reduceMul, Nat.reduceSub, Nat.reduceLeDiff, Nat.reduceLT, Int.reduceAdd, Int.reduceToNat, Int.reduceLE, Int.reduceLT, Int.reduceNeg, reduceIte, postC, watchC, sll, slSt])
    | (show heapOK _ _ = true; kernel_rfl)
    | (omega)))
            refine awp_adH 1 0 3 1 rfl rfl ?_
            refine awp_loopN p.errs.length (fun i => ⟨mkT 231 [(1, sll reads), (3, .ptr 0 0 0), (7, .int .i64 k), (8, .int .i64 fr), (11, .ptr 1 0 0), (12, .osl 2 reads.length 0 reads.length), (16, .int .i64 i)], [some (.cells 46 1 0 (postC p)), some (.cells 51 1 0 [.osl 3 (cU k i) 0 (2 * cU k i), .int .i64 p.gain, .int .i64 p.drop, .int .i64 p.fall, .int .i64 p.out, .int .i64 p.ahead]), some (.cells 22 1 reads.length (rowsC R)), some (.cells 3 1 (cU k i) (ints (dupL k p.errs (cU k i))))], []⟩) (.le2 ?_) ?_
            · simp only [postC]; simp (maxSteps := 4000000) only [go_sem, List.append_eq, List.cons_append, List.nil_append, Nat.reduceAdd, Nat.reduceMul, Nat.reduceSub, Nat.reduceLeDiff, Nat.reduceLT, Int.reduceAdd, Int.reduceToNat, Int.reduceLE, Int.reduceLT, Int.reduceNeg, reduceIte, postC, watchC, sll, slSt, adH]
              rw [dup_zero, hc0]
              exact ⟨rfl, rfl, rfl⟩
            · intro i hi
              have hcl := hcl i
              have hxl := hxl p.errs i
              rcases Nat.lt_or_eq_of_le hi with hi1 | hi1
              · by_cases hik : i = k
                · have e2 : ((i : Int) = (k : Int)) = True := eq_true (by omega)
                  rw [hik, hck, ← hik]
                  simp only [postC]; simp (maxSteps := 4000000) only [go_sem, List.append_eq, List.cons_append, List.nil_append, Nat.reduceAdd, Nat.reduceMul, Nat.reduceSub, Nat.reduceLeDiff, Nat.reduceLT, Int.reduceAdd, Int.reduceToNat, Int.reduceLE, Int.reduceLT, Int.reduceNeg, reduceIte, postC, watchC, sll, slSt]
                  (repeat' (first
    | (refine awp_seqK ?_)
    | (refine kt ?_)
    | (refine And.intro ?_ ?_)
    | ((first | refine awp_region ?_ | refine awp_draw (by kernel_rfl) (by kernel_rfl) ?_ | refine Imp.le2 ?_ | refine awp_label ?_ | refine awp_skip ?_ | refine awp_exit ?_ | refine awp_cd ?_ | refine awp_ret ?_); simp (maxSteps := 4000000) only [go_sem, List.append_eq, List.cons_append, List.nil_append, Nat.reduceAdd, Nat.reduceMul, Nat.reduceSub, Nat.reduceLeDiff, Nat.reduceLT, Int.reduceAdd, Int.reduceToNat, Int.reduceLE, Int.reduceLT, Int.reduceNeg, reduceIte, postC, watchC, sll, slSt, e2, decide_true])
    | (intro _h)
    | (refine awp_block ?_)
    | (refine awp_scope ?_)
    | (refine go_split (fun _h => ?_) (fun _h => ?_) <;> simp (maxSteps := 4000000) only [go_sem, List.append_eq, List.cons_append, List.nil_append, Nat.reduceAdd, Nat.reduceMul, Nat.reduceSub, Nat.reduceLeDiff, Nat.reduceLT, Int.reduceAdd, Int.reduceToNat, Int.reduceLE, Int.reduceLT, Int.reduceNeg, reduceIte, postC, watchC, sll, slSt, e2, decide_true])
    | (show heapOK _ _ = true; kernel_rfl)
    | (omega)))
                  all_goals first | omega | trace_state
                · have e2 : ((i : Int) = (k : Int)) = False := eq_false (by omega)
                  have hst := dup_step (l := p.errs) hik
                  rw [hst, hcs i hik]
                  simp only [postC]; simp (maxSteps := 4000000) only [go_sem, List.append_eq, List.cons_append, List.nil_append, Nat.reduceAdd, Nat.reduceMul, Nat.reduceSub, Nat.reduceLeDiff, Nat.reduceLT, Int.reduceAdd, Int.reduceToNat, Int.reduceLE, Int.reduceLT, Int.reduceNeg, reduceIte, postC, watchC, sll, slSt]
                  (repeat' (first
    | (refine awp_seqK ?_)
    | (refine kt ?_)
    | (refine And.intro ?_ ?_)
    | ((first | refine awp_region ?_ | refine awp_draw (by kernel_rfl) (by kernel_rfl) ?_ | refine Imp.le2 ?_ | refine awp_label ?_ | refine awp_skip ?_ | refine awp_exit ?_ | refine awp_cd ?_ | refine awp_ret ?_); simp (maxSteps := 4000000) only [go_sem, List.append_eq, List.cons_append, List.nil_append, Nat.reduceAdd, Nat.reduceMul, Nat.reduceSub, Nat.reduceLeDiff, Nat.reduceLT, Int.reduceAdd, Int.reduceToNat, Int.reduceLE, Int.reduceLT, Int.reduceNeg, reduceIte, postC, watchC, sll, slSt, e2, decide_false, hxl])
    | (intro _h)
    | (refine awp_block ?_)
    | (refine awp_scope ?_)
    | (refine go_split (fun _h => ?_) (fun _h => ?_) <;> simp (maxSteps := 4000000) only [go_sem, List.append_eq, List.cons_append, List.nil_append, Nat.reduceAdd, Nat.reduceMul, Nat.reduceSub, Nat.reduceLeDiff, Nat.reduceLT, Int.reduceAdd, Int.reduceToNat, Int.reduceLE, Int.reduceLT, Int.reduceNeg, reduceIte, postC, watchC, sll, slSt, e2, decide_false, hxl])
    | (show heapOK _ _ = true; kernel_rfl)
    | (omega)))
                  all_goals first | omega | (simp [ints_append, ints_cons, ints_nil]; done) | (rw [Nat.mul_add]; done) | trace_state
              · rw [hi1, hcn] at hxl
                rw [hi1, hcn]
                simp only [postC]; simp (maxSteps := 4000000) only [go_sem, List.append_eq, List.cons_append, List.nil_append, Nat.reduceAdd, Nat.reduceMul, Nat.reduceSub, Nat.reduceLeDiff, Nat.reduceLT, Int.reduceAdd, Int.reduceToNat, Int.reduceLE, Int.reduceLT, Int.reduceNeg, reduceIte, postC, watchC, sll, slSt]
                (refine awp_frz 3 rfl (by simp (maxSteps := 4000000) only [go_sem, List.append_eq, List.cons_append, List.nil_append, Nat.reduceAdd, Nat.reduceMul, Nat.reduceSub, Nat.reduceLeDiff, Nat.reduceLT, Int.reduceAdd, Int.reduceToNat, Int.reduceLE, Int.reduceLT, Int.reduceNeg, reduceIte, postC, watchC, sll, slSt]) (fun _ => rfl) ?_; simp only [frz, fzl, fz2, fz1, fz0, fzH, fzHs, fzO, fzB, List.map_cons, List.map_nil, if_true, if_false, reduceIte, Nat.reduceEqDiff, Nat.reduceAdd, Nat.succ_ne_self, Nat.zero_ne_one, Nat.one_ne_zero, reduceCtorEq, and_self])
                (refine awp_frz 2 rfl (by simp (maxSteps := 4000000) only [go_sem, List.append_eq, List.cons_append, List.nil_append, Nat.reduceAdd, Nat.reduceMul, Nat.reduceSub, Nat.reduceLeDiff, Nat.reduceLT, Int.reduceAdd, Int.reduceToNat, Int.reduceLE, Int.reduceLT, Int.reduceNeg, reduceIte, postC, watchC, sll, slSt]) (fun _ => rfl) ?_; simp only [frz, fzl, fz2, fz1, fz0, fzH, fzHs, fzO, fzB, List.map_cons, List.map_nil, if_true, if_false, reduceIte, Nat.reduceEqDiff, Nat.reduceAdd, Nat.succ_ne_self, Nat.zero_ne_one, Nat.one_ne_zero, reduceCtorEq, and_self])
                rcases lres with ⟨r1, r2, r3, r4⟩ | ⟨r1, r2, r3, r4⟩
                · rw [r1] at l1 l2 l3
                  subst r4
                  have ki := ints_c [(k : Int)] [(k : Int)] (by simp)
                  simp only [sl, ints_cons, ints_nil, List.length_cons, List.length_nil, Nat.zero_add] at ki
                  (repeat' (first
    | ((exfalso; omega))
    | (refine awp_seqK ?_)
    | (refine kt ?_)
    | (refine And.intro ?_ ?_)
    | ((first | refine awp_region ?_ | refine awp_draw (by kernel_rfl) (by kernel_rfl) ?_ | refine Imp.le2 ?_ | refine awp_label ?_ | refine awp_skip ?_ | refine awp_exit ?_ | refine awp_cd ?_ | refine awp_ret ?_); simp (maxSteps := 4000000) only [go_sem, List.append_eq, List.cons_append, List.nil_append, Nat.reduceAdd, Nat.reduceMul, Nat.reduceSub, Nat.reduceLeDiff, Nat.reduceLT, Int.reduceAdd, Int.reduceToNat, Int.reduceLE, Int.reduceLT, Int.reduceNeg, reduceIte, postC, watchC, sll, slSt])
    | (intro _h)
    | (refine awp_block ?_)
    | (refine awp_scope ?_)
    | ((first | refine callK_of (k7) ?_ | refine callK_of (k8) ?_ | refine callK_of (l1) ?_ | refine callK_of (l2) ?_ | refine callK_of (l3) ?_); try simp (maxSteps := 4000000) only [go_sem, List.append_eq, List.cons_append, List.nil_append, Nat.reduceAdd, Nat.reduceMul, Nat.reduceSub, Nat.reduceLeDiff, Nat.reduceLT, Int.reduceAdd, Int.reduceToNat, Int.reduceLE, Int.reduceLT, Int.reduceNeg, reduceIte, postC, watchC, sll, slSt])
    | (refine go_split (fun _h => ?_) (fun _h => ?_) <;> simp (maxSteps := 4000000) only [go_sem, List.append_eq, List.cons_append, List.nil_append, Nat.reduceAdd, Nat.reduceMul, Nat.reduceSub, Nat.reduceLeDiff, Nat.reduceLT, Int.reduceAdd, Int.reduceToNat, Int.reduceLE, Int.reduceLT, Int.reduceNeg, reduceIte, postC, watchC, sll, slSt])
    | (show heapOK _ _ = true; kernel_rfl)
    | (omega)))
                  all_goals (
                    refine awp_loopJ (fun h : Nat => fr ≤ h ∧ h ≤ reads.length) (fun h => ⟨mkT 231 [(1, sll reads), (3, .ptr 0 0 0), (7, .int .i64 k), (17, .psl false LA.length (recs stC LA)), (18, .int .i64 0), (19, .psl false LB.length (recs stC LB)), (20, .int .i64 0), (21, .int .i64 h)], [some (.cells 46 1 0 (postC p))], []⟩) (fun h => reads.length - h) fr ⟨Nat.le_refl _, hfr⟩ (.le2 ?_) ?_
                    · simp only [postC]; simp (maxSteps := 4000000) only [go_sem, List.append_eq, List.cons_append, List.nil_append, Nat.reduceAdd, Nat.reduceMul, Nat.reduceSub, Nat.reduceLeDiff, Nat.reduceLT, Int.reduceAdd, Int.reduceToNat, Int.reduceLE, Int.reduceLT, Int.reduceNeg, reduceIte, postC, watchC, sll, slSt]
                    · rintro h ⟨hf1, hf2⟩
                      rcases Nat.lt_or_eq_of_le hf2 with hf3 | hf3
                      · have hq := leq h hf1 (by omega)
                        simp only [postC]; simp (maxSteps := 4000000) only [go_sem, List.append_eq, List.cons_append, List.nil_append, Nat.reduceAdd, Nat.reduceMul, Nat.reduceSub, Nat.reduceLeDiff, Nat.reduceLT, Int.reduceAdd, Int.reduceToNat, Int.reduceLE, Int.reduceLT, Int.reduceNeg, reduceIte, postC, watchC, sll, slSt]
                        (repeat' (first
    | ((exfalso; omega))
    | (refine awp_seqK ?_)
    | (refine kt ?_)
    | (refine And.intro ?_ ?_)
    | ((first | refine awp_region ?_ | refine awp_draw (by kernel_rfl) (by kernel_rfl) ?_ | refine Imp.le2 ?_ | refine awp_label ?_ | refine awp_skip ?_ | refine awp_exit ?_ | refine awp_cd ?_ | refine awp_ret ?_); simp (maxSteps := 4000000) only [go_sem, List.append_eq, List.cons_append, List.nil_append, Nat.reduceAdd, Nat.reduceMul, Nat.reduceSub, Nat.reduceLeDiff, Nat.reduceLT, Int.reduceAdd, Int.reduceToNat, Int.reduceLE, Int.reduceLT, Int.reduceNeg, reduceIte, postC, watchC, sll, slSt, hq, stC, eq_self, and_self, decide_true])
    | (intro _h)
    | (refine awp_block ?_)
    | (refine awp_scope ?_)
    | (refine go_split (fun _h => ?_) (fun _h => ?_) <;> simp (maxSteps := 4000000) only [go_sem, List.append_eq, List.cons_append, List.nil_append, Nat.reduceAdd, Nat.reduceMul, Nat.reduceSub, Nat.reduceLeDiff, Nat.reduceLT, Int.reduceAdd, Int.reduceToNat, Int.reduceLE, Int.reduceLT, Int.reduceNeg, reduceIte, postC, watchC, sll, slSt, hq, stC, eq_self, and_self, decide_true])
    | (show heapOK _ _ = true; kernel_rfl)
    | (omega)))
                        all_goals first
                          | omega
                          | (refine ⟨h + 1, ⟨by omega, by omega⟩, by omega, .le2 ?_⟩
                             simp (maxSteps := 4000000) only [go_sem, List.append_eq, List.cons_append, List.nil_append, Nat.reduceAdd, Nat.reduceMul, Nat.reduceSub, Nat.reduceLeDiff, Nat.reduceLT, Int.reduceAdd, Int.reduceToNat, Int.reduceLE, Int.reduceLT, Int.reduceNeg, reduceIte, postC, watchC, sll, slSt] <;> omega)
                          | trace_state
                      · simp only [postC]; simp (maxSteps := 4000000) only [go_sem, List.append_eq, List.cons_append, List.nil_append, Nat.reduceAdd, Nat.reduceMul, Nat.reduceSub, Nat.reduceLeDiff, Nat.reduceLT, Int.reduceAdd, Int.reduceToNat, Int.reduceLE, Int.reduceLT, Int.reduceNeg, reduceIte, postC, watchC, sll, slSt]
                        (repeat' (first
    | ((exfalso; omega))
    | (refine awp_seqK ?_)
    | (refine kt ?_)
    | (refine And.intro ?_ ?_)
    | ((first | refine awp_region ?_ | refine awp_draw (by kernel_rfl) (by kernel_rfl) ?_ | refine Imp.le2 ?_ | refine awp_label ?_ | refine awp_skip ?_ | refine awp_exit ?_ | refine awp_cd ?_ | refine awp_ret ?_); simp (maxSteps := 4000000) only [go_sem, List.append_eq, List.cons_append, List.nil_append, Nat.reduceAdd, Nat.reduceMul, Nat.reduceSub, Nat.reduceLeDiff, Nat.reduceLT, Int.reduceAdd, Int.reduceToNat, Int.reduceLE, Int.reduceLT, Int.reduceNeg, reduceIte, postC, watchC, sll, slSt])
    | (intro _h)
    | (refine awp_block ?_)
    | (refine awp_scope ?_)
    | ((first | refine callK_of (k7) ?_ | refine callK_of (k8) ?_ | refine callK_of (l3) ?_ | refine callK_of (CallS.sub (ki) (by simp [subL, avSub])) ?_ | refine callK_of (awake_c) ?_); try simp (maxSteps := 4000000) only [go_sem, List.append_eq, List.cons_append, List.nil_append, Nat.reduceAdd, Nat.reduceMul, Nat.reduceSub, Nat.reduceLeDiff, Nat.reduceLT, Int.reduceAdd, Int.reduceToNat, Int.reduceLE, Int.reduceLT, Int.reduceNeg, reduceIte, postC, watchC, sll, slSt])
    | (refine go_split (fun _h => ?_) (fun _h => ?_) <;> simp (maxSteps := 4000000) only [go_sem, List.append_eq, List.cons_append, List.nil_append, Nat.reduceAdd, Nat.reduceMul, Nat.reduceSub, Nat.reduceLeDiff, Nat.reduceLT, Int.reduceAdd, Int.reduceToNat, Int.reduceLE, Int.reduceLT, Int.reduceNeg, reduceIte, postC, watchC, sll, slSt])
    | (show heapOK _ _ = true; kernel_rfl)
    | (omega)))
                        all_goals first | omega | trace_state)
                · rw [r1] at l1 l2 l3
                  (repeat' (first
    | ((exfalso; omega))
    | (refine awp_seqK ?_)
    | (refine kt ?_)
    | (refine And.intro ?_ ?_)
    | ((first | refine awp_region ?_ | refine awp_draw (by kernel_rfl) (by kernel_rfl) ?_ | refine Imp.le2 ?_ | refine awp_label ?_ | refine awp_skip ?_ | refine awp_exit ?_ | refine awp_cd ?_ | refine awp_ret ?_); simp (maxSteps := 4000000) only [go_sem, List.append_eq, List.cons_append, List.nil_append, Nat.reduceAdd, Nat.reduceMul, Nat.reduceSub, Nat.reduceLeDiff, Nat.reduceLT, Int.reduceAdd, Int.reduceToNat, Int.reduceLE, Int.reduceLT, Int.reduceNeg, reduceIte, postC, watchC, sll, slSt])
    | (intro _h)
    | (refine awp_block ?_)
    | (refine awp_scope ?_)
    | ((first | refine callK_of (k7) ?_ | refine callK_of (k8) ?_ | refine callK_of (l1) ?_ | refine callK_of (l2) ?_ | refine callK_of (l3) ?_); try simp (maxSteps := 4000000) only [go_sem, List.append_eq, List.cons_append, List.nil_append, Nat.reduceAdd, Nat.reduceMul, Nat.reduceSub, Nat.reduceLeDiff, Nat.reduceLT, Int.reduceAdd, Int.reduceToNat, Int.reduceLE, Int.reduceLT, Int.reduceNeg, reduceIte, postC, watchC, sll, slSt])
    | (refine go_split (fun _h => ?_) (fun _h => ?_) <;> simp (maxSteps := 4000000) only [go_sem, List.append_eq, List.cons_append, List.nil_append, Nat.reduceAdd, Nat.reduceMul, Nat.reduceSub, Nat.reduceLeDiff, Nat.reduceLT, Int.reduceAdd, Int.reduceToNat, Int.reduceLE, Int.reduceLT, Int.reduceNeg, reduceIte, postC, watchC, sll, slSt])
    | (show heapOK _ _ = true; kernel_rfl)
    | (omega)))
                  all_goals (
                    refine awp_loopJ (fun h : Nat => h = fr) (fun h => ⟨mkT 231 [(1, sll reads), (3, .ptr 0 0 0), (7, .int .i64 k), (17, .psl false LA.length (recs stC LA)), (18, .int .i64 9), (19, .psl false LB.length (recs stC LB)), (20, .int .i64 9), (21, .int .i64 h)], [some (.cells 46 1 0 (postC p))], []⟩) (fun h => 0) fr rfl (.le2 ?_) ?_
                    · simp only [postC]; simp (maxSteps := 4000000) only [go_sem, List.append_eq, List.cons_append, List.nil_append, Nat.reduceAdd, Nat.reduceMul, Nat.reduceSub, Nat.reduceLeDiff, Nat.reduceLT, Int.reduceAdd, Int.reduceToNat, Int.reduceLE, Int.reduceLT, Int.reduceNeg, reduceIte, postC, watchC, sll, slSt]
                    · rintro h hf1
                      simp only [postC]; simp (maxSteps := 4000000) only [go_sem, List.append_eq, List.cons_append, List.nil_append, Nat.reduceAdd, Nat.reduceMul, Nat.reduceSub, Nat.reduceLeDiff, Nat.reduceLT, Int.reduceAdd, Int.reduceToNat, Int.reduceLE, Int.reduceLT, Int.reduceNeg, reduceIte, postC, watchC, sll, slSt]
                      (repeat' (first
    | ((exfalso; omega))
    | (refine awp_seqK ?_)
    | (refine kt ?_)
    | (refine And.intro ?_ ?_)
    | ((first | refine awp_region ?_ | refine awp_draw (by kernel_rfl) (by kernel_rfl) ?_ | refine Imp.le2 ?_ | refine awp_label ?_ | refine awp_skip ?_ | refine awp_exit ?_ | refine awp_cd ?_ | refine awp_ret ?_); simp (maxSteps := 4000000) only [go_sem, List.append_eq, List.cons_append, List.nil_append, Nat.reduceAdd, Nat.reduceMul, Nat.reduceSub, Nat.reduceLeDiff, Nat.reduceLT, Int.reduceAdd, Int.reduceToNat, Int.reduceLE, Int.reduceLT, Int.reduceNeg, reduceIte, postC, watchC, sll, slSt])
    | (intro _h)
    | (refine awp_block ?_)
    | (refine awp_scope ?_)
    | ((first | refine callK_of (k7) ?_ | refine callK_of (k8) ?_ | refine callK_of (l3) ?_ | refine callK_of (awake_c) ?_); try simp (maxSteps := 4000000) only [go_sem, List.append_eq, List.cons_append, List.nil_append, Nat.reduceAdd, Nat.reduceMul, Nat.reduceSub, Nat.reduceLeDiff, Nat.reduceLT, Int.reduceAdd, Int.reduceToNat, Int.reduceLE, Int.reduceLT, Int.reduceNeg, reduceIte, postC, watchC, sll, slSt])
    | (refine go_split (fun _h => ?_) (fun _h => ?_) <;> simp (maxSteps := 4000000) only [go_sem, List.append_eq, List.cons_append, List.nil_append, Nat.reduceAdd, Nat.reduceMul, Nat.reduceSub, Nat.reduceLeDiff, Nat.reduceLT, Int.reduceAdd, Int.reduceToNat, Int.reduceLE, Int.reduceLT, Int.reduceNeg, reduceIte, postC, watchC, sll, slSt])
    | (show heapOK _ _ = true; kernel_rfl)
    | (omega)))
                      all_goals first | omega | trace_state)
      · simp only [postC]; simp (maxSteps := 4000000) only [go_sem, List.append_eq, List.cons_append, List.nil_append, Nat.reduceAdd, Nat.reduceMul, Nat.reduceSub, Nat.reduceLeDiff, Nat.reduceLT, Int.reduceAdd, Int.reduceToNat, Int.reduceLE, Int.reduceLT, Int.reduceNeg, reduceIte, postC, watchC, sll, slSt]
        (repeat' (first
    | ((exfalso; omega))
    | (refine awp_seqK ?_)
    | (refine kt ?_)
    | (refine And.intro ?_ ?_)
    | ((first | refine awp_region ?_ | refine awp_draw (by kernel_rfl) (by kernel_rfl) ?_ | refine Imp.le2 ?_ | refine awp_label ?_ | refine awp_skip ?_ | refine awp_exit ?_ | refine awp_cd ?_ | refine awp_ret ?_); simp (maxSteps := 4000000) only [go_sem, List.append_eq, List.cons_append, List.nil_append, Nat.reduceAdd, Nat.reduceMul, Nat.reduceSub, Nat.reduceLeDiff, Nat.reduceLT, Int.reduceAdd, Int.reduceToNat, Int.reduceLE, Int.reduceLT, Int.reduceNeg, reduceIte, postC, watchC, sll, slSt])
    | (intro _h)
    | (refine awp_block ?_)
    | (refine awp_scope ?_)
    | ((first | refine callK_of (awake_c) ?_); try simp (maxSteps := 4000000) only [go_sem, List.append_eq, List.cons_append, List.nil_append, Nat.reduceAdd, Nat.reduceMul, Nat.reduceSub, Nat.reduceLeDiff, Nat.reduceLT, Int.reduceAdd, Int.reduceToNat, Int.reduceLE, Int.reduceLT, Int.reduceNeg, reduceIte, postC, watchC, sll, slSt])
    | (refine go_split (fun _h => ?_) (fun _h => ?_) <;> simp (maxSteps := 4000000) only [go_sem, List.append_eq, List.cons_append, List.nil_append, Nat.reduceAdd, Nat.reduceMul, Nat.reduceSub, Nat.reduceLeDiff, Nat.reduceLT, Int.reduceAdd, Int.reduceToNat, Int.reduceLE, Int.reduceLT, Int.reduceNeg, reduceIte, postC, watchC, sll, slSt])
    | (show heapOK _ _ = true; kernel_rfl)
    | (omega)))
        all_goals trace_state
  · have hno : readyB p reads = false ∨ ¬ p.errs.length ≤ 6 := by
      by_cases a : readyB p reads = true
      · exact .inr fun h => hok ⟨a, h⟩
      · exact .inl (by simpa using a)
    have hbe := ib.e
    clear hok
    generalize readyB p reads = c1 at *
    simp only [postC, sl, sll] at k1
    (refine callS_of_awp (fun w args => Try.call6 ..) Try.func6 rfl (fun w0 m0 wz => ?_); simp only [Try.ntmps6, Try.results6, initT, junks, postC, watchC, sll, slSt, sl, List.toList_toArray, List.cons_append, List.nil_append, List.length_cons, List.length_nil, Nat.reduceAdd, Nat.reduceSub])
    (repeat' (first
    | (refine awp_seqK ?_)
    | (refine kt ?_)
    | (refine And.intro ?_ ?_)
    | ((first | refine awp_region ?_ | refine awp_draw (by kernel_rfl) (by kernel_rfl) ?_ | refine Imp.le2 ?_ | refine awp_label ?_ | refine awp_skip ?_ | refine awp_exit ?_ | refine awp_cd ?_ | refine awp_ret ?_); simp (maxSteps := 4000000) only [go_sem, List.append_eq, List.cons_append, List.nil_append, Nat.reduceAdd, Nat.reduceMul, Nat.reduceSub, Nat.reduceLeDiff, Nat.reduceLT, Int.reduceAdd, Int.reduceToNat, Int.reduceLE, Int.reduceLT, Int.reduceNeg, reduceIte, postC, watchC, sll, slSt])
    | (intro _h)
    | (refine awp_block ?_)
    | (refine awp_scope ?_)
    | ((first | refine callK_of (awake_c) ?_ | refine callK_of (k1) ?_); try simp (maxSteps := 4000000) only [go_sem, List.append_eq, List.cons_append, List.nil_append, Nat.reduceAdd, Nat.reduceMul, Nat.reduceSub, Nat.reduceLeDiff, Nat.reduceLT, Int.reduceAdd, Int.reduceToNat, Int.reduceLE, Int.reduceLT, Int.reduceNeg, reduceIte, postC, watchC, sll, slSt])
    | (refine go_split (fun _h => ?_) (fun _h => ?_) <;> simp (maxSteps := 4000000) only [go_sem, List.append_eq, List.cons_append, List.nil_append, Nat.reduceAdd, Nat.reduceMul, Nat.reduceSub, Nat.reduceLeDiff, Nat.reduceLT, Int.reduceAdd, Int.reduceToNat, Int.reduceLE, Int.reduceLT, Int.reduceNeg, reduceIte, postC, watchC, sll, slSt])
    | (show heapOK _ _ = true; kernel_rfl)
    | (omega)))
    all_goals first
      | (simp_all; done)
      | (exfalso; rcases hno with h | h <;> simp_all; omega)
      | trace_state
end Go.Am
