/- Parts UeC, UiD, UjE, UjI, UjJ of the proof, one behind the other. No statement is proved here. -/
import Derived.Test.YtemdkbogfafjgaaZ5
import Derived.Test.YtemdkbogfafjgaaZ8
import Derived.Test.YtemdkbogfafjgaaZ7
set_option linter.unusedVariables false -- all
set_option linter.unusedSimpArgs false
namespace Go.Am
open Go.RowKit Go.Proofs
attribute [local irreducible] AWP zP Kt goK CallK stepK zQ SemF SemY Imp
set_option maxRecDepth 4000
set_option linter.unusedSimpArgs false
set_option linter.unusedVariables false
set_option maxHeartbeats 1600000
structure SuP where
  a : Int
  b : Int
def suIn (t : Ann) (p : SuP) : Prop := (0 ≤ p.a ∧ p.a < t.reports.length) ∧ (0 ≤ p.b ∧ p.b < t.reports.length)
def suS (p : SuP) (v : Bool × Bool) (pl dy : List Int) : (Bool × Bool) × Bool :=
  if pl.getD p.a.toNat 0 = pl.getD p.b.toNat 0 then ((true, v.2), !v.2) else ((v.1, true), !v.1)
end Go.Am
namespace Go.Am
open Go.RowKit Go.Proofs
set_option linter.unusedSimpArgs false
set_option linter.unusedVariables false
def suV (t : Ann) (p : SuP) : Bool × Bool := (allM t (suS p) (false, false)).2.v
def eqQ (p : SuP) (q : List Int × List Int) : Bool := decide (q.1.getD p.a.toNat 0 = q.1.getD p.b.toNat 0)
theorem su_vis {p : SuP} : ∀ {l : List (List Int × List Int)} {v : Bool × Bool}, (visL (gOf (suS p)) l v).1 = (v.1 || l.any (eqQ p), v.2 || l.any fun q => !eqQ p q)
  | [], (a, b) => by simp [visL]
  | q :: l, (a, b) => by
    simp only [visL, List.any_cons]
    have ih := fun v => su_vis (p := p) (l := l) (v := v)
    have hg : gOf (suS p) (a, b) q = if eqQ p q = true then ((true, b), !b) else ((a, true), !a) := by
      unfold gOf suS eqQ
      simp only [decide_eq_true_eq]
    rw [hg]
    cases he : eqQ p q with
    | true =>
      simp only [if_true, ih]
      cases b <;> simp [ih]
    | false =>
      simp only [Bool.false_eq_true, if_false, ih]
      cases a <;> simp [ih]
theorem su_resp {t : Ann} {p : SuP} (hp : suIn t p) : Resp t (suS p) := fun v pl dy pl' dy' h1 _ => by
  obtain ⟨⟨a0, a1⟩, b0, b1⟩ := hp
  unfold suS
  rw [h1 p.a.toNat (by omega), h1 p.b.toNat (by omega)]
structure SureS (t : Ann) (i k : Nat) (v : Bool × Bool) : Prop where
  one : v.1 = true ↔ ∃ C D, Chr t C D ∧ C i = C k
  other : v.2 = true ↔ ∃ C D, Chr t C D ∧ C i ≠ C k
theorem suV_spec {t : Ann} (ht : AnnOK t) {p : SuP} (hp : suIn t p) : SureS t p.a.toNat p.b.toNat (suV t p) := by
  have h := all_spec ht (su_resp hp) (false, false)
  rw [su_vis] at h
  obtain ⟨⟨a0, a1⟩, b0, b1⟩ := hp
  have e : suV t p = (false || ((runsA t).map (canon t)).any (eqQ p), false || ((runsA t).map (canon t)).any fun q => !eqQ p q) := h
  rw [e]
  have hq : ∀ r, eqQ p (canon t r) = decide (placeOf 0 r p.a.toNat = placeOf 0 r p.b.toNat) := fun r => by
    unfold eqQ canon
    simp only
    rw [tabD (by omega), tabD (by omega)]
  simp only [Bool.false_or]
  constructor
  · rw [List.any_eq_true]
    constructor
    · rintro ⟨q, hq1, hq2⟩
      obtain ⟨r, hr, rfl⟩ := List.mem_map.1 hq1
      rw [hq r] at hq2
      exact ⟨_, _, runs_chr ht hr, of_decide_eq_true hq2⟩
    · rintro ⟨C, D, hc, he⟩
      obtain ⟨r, hr, _, h3⟩ := chr_runs ht hc
      exact ⟨_, List.mem_map.2 ⟨r, hr, rfl⟩, by rw [hq r]; exact decide_eq_true ((h3 _ _ (by omega) (by omega)).2 he)⟩
  · rw [List.any_eq_true]
    constructor
    · rintro ⟨q, hq1, hq2⟩
      obtain ⟨r, hr, rfl⟩ := List.mem_map.1 hq1
      rw [hq r] at hq2
      exact ⟨_, _, runs_chr ht hr, by simpa using hq2⟩
    · rintro ⟨C, D, hc, he⟩
      obtain ⟨r, hr, _, h3⟩ := chr_runs ht hc
      refine ⟨_, List.mem_map.2 ⟨r, hr, rfl⟩, ?_⟩
      rw [hq r]
      have : ¬ placeOf 0 r p.a.toNat = placeOf 0 r p.b.toNat := fun h => he ((h3 _ _ (by omega) (by omega)).1 h)
      simp [this]
end Go.Am
namespace Go.Am
open Go.RowKit Go.Proofs
set_option linter.unusedSimpArgs false
set_option linter.unusedVariables false
theorem len_sub {α : Type} [DecidableEq α] : ∀ {l r : List α}, l.Pairwise (· ≠ ·) → (∀ x ∈ l, x ∈ r) → l.length ≤ r.length
  | [], _, _, _ => Nat.zero_le _
  | x :: l, r, hn, hs => by
    have h1 := List.pairwise_cons.1 hn
    have hx : x ∈ r := hs x (by simp)
    have h2 := len_sub (l := l) (r := r.erase x) h1.2 (fun y hy => (List.mem_erase_of_ne (fun e => h1.1 y hy e.symm)).2 (hs y (by simp [hy])))
    rw [List.length_erase_of_mem hx] at h2
    have : 0 < r.length := List.length_pos_of_mem hx
    simp only [List.length_cons]; omega
structure SlI (pl : List Int) (k : Nat) : Prop where
  lt : ∀ x v, gmGet (slK pl k).1 x = some v → 0 ≤ v ∧ v < (slK pl k).1.length
  inj : ∀ x y v, gmGet (slK pl k).1 x = some v → gmGet (slK pl k).1 y = some v → x = y
  val : ∀ i, i < k → gmGet (slK pl k).1 (pl.getD i 0) = some ((slK pl k).2.getD i 0)
theorem slK_inv {pl : List Int} : ∀ k, SlI pl k
  | 0 => ⟨fun x v h => by simp [slK, gmGet] at h, fun x y v h => by simp [slK, gmGet] at h, fun i hi => by omega⟩
  | k + 1 => by
    have ih := slK_inv (pl := pl) k
    have hl := slK_length (pl := pl) (k := k)
    obtain ⟨h1, h2, h3⟩ := ih
    have hap : ∀ (v : Int) i, i < k + 1 → ((slK pl k).2 ++ [v]).getD i 0 = if i = k then v else (slK pl k).2.getD i 0 := fun v i hi => by
      simp only [List.getD_eq_getElem?_getD]
      by_cases e : i = k
      · subst e; rw [if_pos rfl, List.getElem?_append_right (by omega), hl, Nat.sub_self]; rfl
      · rw [if_neg e, List.getElem?_append_left (by omega)]
    constructor
    · intro x v h
      simp only [slK] at h ⊢
      cases hg : gmGet (slK pl k).1 (pl.getD k 0) with
      | some n => rw [hg] at h; exact h1 x v h
      | none =>
        rw [hg] at h
        simp only at h ⊢
        rw [gmPut_len hg]
        rw [gmGet_put] at h
        split at h
        · cases h; omega
        · have := h1 x v h; omega
    · intro x y v hx hy
      simp only [slK] at hx hy
      cases hg : gmGet (slK pl k).1 (pl.getD k 0) with
      | some n => rw [hg] at hx hy; exact h2 x y v hx hy
      | none =>
        rw [hg] at hx hy
        simp only at hx hy
        rw [gmGet_put] at hx hy
        split at hx <;> split at hy
        · rename_i e1 e2; rw [← e1, ← e2]
        · have := h1 y v hy; cases hx; omega
        · have := h1 x v hx; cases hy; omega
        · exact h2 x y v hx hy
    · intro i hi
      simp only [slK]
      cases hg : gmGet (slK pl k).1 (pl.getD k 0) with
      | some n =>
        simp only
        rw [hap n i hi]
        by_cases e : i = k
        · subst e; rw [if_pos rfl, hg]
        · rw [if_neg e]; exact h3 i (by omega)
      | none =>
        simp only
        rw [hap _ i hi, gmGet_put]
        by_cases e : i = k
        · subst e; rw [if_pos rfl, if_pos rfl]
        · rw [if_neg e]
          have h4 := h3 i (by omega)
          by_cases e2 : pl.getD k 0 = pl.getD i 0
          · rw [e2, h4] at hg; cases hg
          · rw [if_neg e2]; exact h4
theorem SL_eq {N : Nat} {C : Nat → Int} {i k : Nat} (hi : i < N) (hk : k < N) : (SL N C).getD i 0 = (SL N C).getD k 0 ↔ C i = C k := by
  obtain ⟨h1, h2, h3⟩ := slK_inv (pl := tab N C) N
  have hi2 := h3 i hi
  have hk2 := h3 k hk
  rw [tabD hi] at hi2
  rw [tabD hk] at hk2
  constructor
  · intro e
    have e : (slK (tab N C) N).2.getD i 0 = (slK (tab N C) N).2.getD k 0 := e
    rw [e] at hi2
    exact h2 _ _ _ hi2 hk2
  · intro e
    rw [e, hk2] at hi2
    exact (Option.some.inj hi2).symm
structure Wid (t u : Ann) (σ : Nat → Nat) : Prop where
  lt : ∀ j, j < t.reports.length → σ j < u.reports.length
  on : ∀ i, i < u.reports.length → ∃ j, j < t.reports.length ∧ σ j = i
  chr : ∀ C D, Chr u C D → Chr t (fun j => C (σ j)) (fun j => D (σ j))
section
variable {t u : Ann} {σ : Nat → Nat} (h : Wid t u σ) (ht : AnnOK t) (hu : AnnOK u)
include h ht hu
theorem Wid.fd (hv : (fiV u).1 = true) : (fiV t).1 = true := by
  obtain ⟨C, D, hc⟩ := (fiV_spec hu).fd.1 hv
  exact (fiV_spec ht).fd.2 ⟨_, _, h.chr _ _ hc⟩
theorem Wid.one {i k : Nat} (hi : i < t.reports.length) (hk : k < t.reports.length) (hv : (suV u ⟨(σ i : Nat), (σ k : Nat)⟩).1 = true) : (suV t ⟨i, k⟩).1 = true := by
  have h1 := suV_spec hu (p := ⟨(σ i : Nat), (σ k : Nat)⟩) ⟨⟨by simp, by simpa using h.lt i hi⟩, by simp, by simpa using h.lt k hk⟩
  have h2 := suV_spec ht (p := ⟨i, k⟩) ⟨⟨by simp, by simpa using hi⟩, by simp, by simpa using hk⟩
  simp only [Int.toNat_natCast] at h1 h2
  obtain ⟨C, D, hc, e⟩ := h1.one.1 hv
  exact h2.one.2 ⟨_, _, h.chr _ _ hc, e⟩
theorem Wid.other {i k : Nat} (hi : i < t.reports.length) (hk : k < t.reports.length) (hv : (suV u ⟨(σ i : Nat), (σ k : Nat)⟩).2 = true) : (suV t ⟨i, k⟩).2 = true := by
  have h1 := suV_spec hu (p := ⟨(σ i : Nat), (σ k : Nat)⟩) ⟨⟨by simp, by simpa using h.lt i hi⟩, by simp, by simpa using h.lt k hk⟩
  have h2 := suV_spec ht (p := ⟨i, k⟩) ⟨⟨by simp, by simpa using hi⟩, by simp, by simpa using hk⟩
  simp only [Int.toNat_natCast] at h1 h2
  obtain ⟨C, D, hc, e⟩ := h1.other.1 hv
  exact h2.other.2 ⟨_, _, h.chr _ _ hc, e⟩
end
end Go.Am
namespace Go.Am
open Go.RowKit Go.Proofs
set_option linter.unusedSimpArgs false
set_option linter.unusedVariables false
def nxK (s : List Int) : Nat → Int
  | 0 => 0
  | k + 1 => if s.getD k 0 = nxK s k then nxK s k + 1 else nxK s k
def NumP (s : List Int) (k : Nat) : Prop := ∀ i, i < k → 0 ≤ s.getD i 0 ∧ s.getD i 0 ≤ nxK s i
instance {s : List Int} {k : Nat} : Decidable (NumP s k) := by unfold NumP; infer_instance
def numB (s : List Int) : Bool := decide (NumP s s.length)
theorem nxK_bd {s : List Int} : ∀ k, 0 ≤ nxK s k ∧ nxK s k ≤ k
  | 0 => by simp [nxK]
  | k + 1 => by
    have := nxK_bd (s := s) k
    simp only [nxK]
    split <;> (push_cast; omega)
theorem slK_get {pl : List Int} : ∀ {k m i : Nat}, i < k → k ≤ m → (slK pl m).2.getD i 0 = (slK pl k).2.getD i 0 := by
  intro k m i hi hm
  induction m with
  | zero => omega
  | succ m ih =>
    by_cases e : k = m + 1
    · subst e; rfl
    · have hl := slK_length (pl := pl) (k := m)
      rw [← ih (by omega)]
      have hap : ∀ v : Int, ((slK pl m).2 ++ [v]).getD i 0 = (slK pl m).2.getD i 0 := fun v => by
        simp only [List.getD_eq_getElem?_getD]; rw [List.getElem?_append_left (by omega)]
      simp only [slK]
      split <;> exact hap _
theorem sl_nx {pl : List Int} {N : Nat} : ∀ k, k ≤ N → nxK (slK pl N).2 k = (slK pl k).1.length ∧ NumP (slK pl N).2 k
  | 0, _ => ⟨rfl, fun i hi => by omega⟩
  | k + 1, hk => by
    obtain ⟨h1, h2⟩ := sl_nx (pl := pl) (N := N) k (by omega)
    obtain ⟨g1, g2, g3⟩ := slK_inv (pl := pl) k
    have hl := slK_length (pl := pl) (k := k)
    have hap : ∀ v : Int, ((slK pl k).2 ++ [v]).getD k 0 = v := fun v => by
      simp only [List.getD_eq_getElem?_getD]; rw [List.getElem?_append_right (by omega), hl, Nat.sub_self]; rfl
    have hv := slK_get (pl := pl) (i := k) (k := k + 1) (m := N) (by omega) hk
    cases hg : gmGet (slK pl k).1 (pl.getD k 0) with
    | some n =>
      have hv2 : (slK pl N).2.getD k 0 = n := by rw [hv]; simp only [slK, hg]; exact hap n
      have hn := g1 _ _ hg
      refine ⟨?_, fun i hi => ?_⟩
      · simp only [nxK]; rw [hv2, h1, if_neg (by omega)]; simp only [slK, hg]
      · by_cases e : i = k
        · subst e; rw [hv2, h1]; omega
        · exact h2 i (by omega)
    | none =>
      have hv2 : (slK pl N).2.getD k 0 = ((slK pl k).1.length : Int) := by rw [hv]; simp only [slK, hg]; exact hap _
      refine ⟨?_, fun i hi => ?_⟩
      · simp only [nxK]; rw [hv2, h1, if_pos rfl]; simp only [slK, hg]; rw [gmPut_len hg]; push_cast; rfl
      · by_cases e : i = k
        · subst e; rw [hv2, h1]; omega
        · exact h2 i (by omega)
theorem SL_num {N : Nat} {C : Nat → Int} : numB (SL N C) = true := by
  refine decide_eq_true ?_
  have h := (sl_nx (pl := tab N C) (N := N) N (Nat.le_refl _)).2
  intro i hi
  rw [SL_len] at hi
  exact h i hi
end Go.Am
namespace Go.Am
open Go.RowKit Go.Proofs
attribute [local irreducible] AWP zP Kt goK CallK stepK zQ SemF SemY Imp
set_option maxRecDepth 4000
set_option linter.unusedSimpArgs false
set_option linter.unusedVariables false
set_option maxHeartbeats 1600000
theorem numR_c (s : List Int) (hl : s.length ≤ 1000000) : zP Try.prog 32 [sl s] (.bool (numB s)) := by
  have hyes : NumP s s.length → true = numB s := fun h => (decide_eq_true h).symm
  have hno : ∀ i, i < s.length → ¬ (0 ≤ s.getD i 0 ∧ s.getD i 0 ≤ nxK s i) → false = numB s := fun i hi h => (decide_eq_false fun h2 => h (h2 i hi)).symm
  generalize numB s = r at *
  simp only [sl]
  (refine zF (fun w args => Try.call32 ..) Try.func32 rfl (fun w0 m0 wz => ?_); simp only [Try.ntmps32, Try.results32, zM, zN, zR, zS, slR, slC, zI, sl, List.toList_toArray, List.cons_append, List.nil_append, List.length_cons, List.length_nil, Nat.reduceAdd, Nat.reduceSub])
  (repeat' (first
 | (refine zC ?_)
 | (refine kt ?_)
 | (refine And.intro ?_ ?_)
 | ((first | refine awp_region ?_ | refine awp_draw (by kernel_rfl) (by kernel_rfl) ?_ | refine Imp.le2 ?_ | refine awp_label ?_ | refine awp_skip ?_ | refine awp_exit ?_ | refine awp_cd ?_ | refine awp_ret ?_ | refine go_split (fun _h => ?_) (fun _h => ?_)) <;> try simp (maxSteps := 4000000) only [go_sem, seval])
 | (intro _h)
 | (refine zA ?_)
 | (refine zB ?_)
 | (refine cond_b (fun _h => ?_) (fun _h => ?_))
 | (show zE _ _ = true; kernel_rfl)
 | (show zD _ _ = true; kernel_rfl)
 | (omega)))
  refine awp_loopJ (fun i : Nat => i ≤ s.length ∧ NumP s i) (fun i => ⟨mkT 26 [(0, .psl false s.length (zO s)), (3, .int .i64 (nxK s i)), (4, .int .i64 i)], [], []⟩) (fun i => s.length - i) 0 ⟨Nat.zero_le _, fun j hj => by omega⟩ (.le2 ?_) ?_
  · simp only [nxK]; simp (maxSteps := 4000000) only [go_sem, seval]
    all_goals first | rfl | trace_state
  · rintro i ⟨h1, h2⟩
    have hb := nxK_bd (s := s) i
    rcases Nat.lt_or_eq_of_le h1 with hi | hi
    · have hn1 := fun K => show optK (nth (zO s) i) K = K (.int .i64 (s.getD i 0)) by rw [ints_nth hi]; rfl
      have hic := in_c (s.getD i 0) 0 (nxK s i)
      by_cases hin : 0 ≤ s.getD i 0 ∧ s.getD i 0 ≤ nxK s i
      · rw [decide_eq_true hin] at hic
        have hst : NumP s (i + 1) := fun j hj => by
          by_cases e : j = i
          · subst e; exact hin
          · exact h2 j (by omega)
        by_cases e : s.getD i 0 = nxK s i
        · have hx : nxK s (i + 1) = nxK s i + 1 := by simp only [nxK]; rw [if_pos e]
          generalize s.getD i 0 = v at *
          simp (maxSteps := 4000000) only [go_sem, seval]
          (repeat' (first
 | ((omega))
 | ((exfalso; omega))
 | (refine zC ?_)
 | (refine kt ?_)
 | (refine And.intro ?_ ?_)
 | ((first | refine awp_region ?_ | refine awp_draw (by kernel_rfl) (by kernel_rfl) ?_ | refine Imp.le2 ?_ | refine awp_label ?_ | refine awp_skip ?_ | refine awp_exit ?_ | refine awp_cd ?_ | refine awp_ret ?_ | refine callK_of (hic) ?_ | refine go_split (fun _h => ?_) (fun _h => ?_)) <;> try simp (maxSteps := 4000000) only [go_sem, seval, hn1])
 | (intro _h)
 | (refine zA ?_)
 | (refine zB ?_)
 | (refine cond_b (fun _h => ?_) (fun _h => ?_))
 | (show zE _ _ = true; kernel_rfl)
 | (show zD _ _ = true; kernel_rfl)
 | (omega)))
          all_goals first | (refine ⟨i + 1, ⟨hi, hst⟩, by omega, .le2 ?_⟩; rw [hx]; simp (maxSteps := 4000000) only [go_sem, seval]; all_goals first | rfl | trace_state) | trace_state
        · have hx : nxK s (i + 1) = nxK s i := by simp only [nxK]; rw [if_neg e]
          generalize s.getD i 0 = v at *
          simp (maxSteps := 4000000) only [go_sem, seval]
          (repeat' (first
 | ((omega))
 | ((exfalso; omega))
 | (refine zC ?_)
 | (refine kt ?_)
 | (refine And.intro ?_ ?_)
 | ((first | refine awp_region ?_ | refine awp_draw (by kernel_rfl) (by kernel_rfl) ?_ | refine Imp.le2 ?_ | refine awp_label ?_ | refine awp_skip ?_ | refine awp_exit ?_ | refine awp_cd ?_ | refine awp_ret ?_ | refine callK_of (hic) ?_ | refine go_split (fun _h => ?_) (fun _h => ?_)) <;> try simp (maxSteps := 4000000) only [go_sem, seval, hn1])
 | (intro _h)
 | (refine zA ?_)
 | (refine zB ?_)
 | (refine cond_b (fun _h => ?_) (fun _h => ?_))
 | (show zE _ _ = true; kernel_rfl)
 | (show zD _ _ = true; kernel_rfl)
 | (omega)))
          all_goals first | (refine ⟨i + 1, ⟨hi, hst⟩, by omega, .le2 ?_⟩; rw [hx]; simp (maxSteps := 4000000) only [go_sem, seval]; all_goals first | rfl | trace_state) | trace_state
      · rw [decide_eq_false hin] at hic
        have hno := hno i hi hin
        generalize s.getD i 0 = v at *
        simp (maxSteps := 4000000) only [go_sem, seval]
        (repeat' (first
 | ((exact hno))
 | ((exact hno.symm))
 | ((omega))
 | ((exfalso; omega))
 | (refine zC ?_)
 | (refine kt ?_)
 | (refine And.intro ?_ ?_)
 | ((first | refine awp_region ?_ | refine awp_draw (by kernel_rfl) (by kernel_rfl) ?_ | refine Imp.le2 ?_ | refine awp_label ?_ | refine awp_skip ?_ | refine awp_exit ?_ | refine awp_cd ?_ | refine awp_ret ?_ | refine callK_of (hic) ?_ | refine go_split (fun _h => ?_) (fun _h => ?_)) <;> try simp (maxSteps := 4000000) only [go_sem, seval, hn1])
 | (intro _h)
 | (refine zA ?_)
 | (refine zB ?_)
 | (refine cond_b (fun _h => ?_) (fun _h => ?_))
 | (show zE _ _ = true; kernel_rfl)
 | (show zD _ _ = true; kernel_rfl)
 | (omega)))
        all_goals trace_state
    · subst hi
      have hyes := hyes h2
      simp (maxSteps := 4000000) only [go_sem, seval]
      (repeat' (first
 | ((exact hyes))
 | ((exact hyes.symm))
 | ((omega))
 | ((exfalso; omega))
 | (refine zC ?_)
 | (refine kt ?_)
 | (refine And.intro ?_ ?_)
 | ((first | refine awp_region ?_ | refine awp_draw (by kernel_rfl) (by kernel_rfl) ?_ | refine Imp.le2 ?_ | refine awp_label ?_ | refine awp_skip ?_ | refine awp_exit ?_ | refine awp_cd ?_ | refine awp_ret ?_ | refine go_split (fun _h => ?_) (fun _h => ?_)) <;> try simp (maxSteps := 4000000) only [go_sem, seval])
 | (intro _h)
 | (refine zA ?_)
 | (refine zB ?_)
 | (refine cond_b (fun _h => ?_) (fun _h => ?_))
 | (show zE _ _ = true; kernel_rfl)
 | (show zD _ _ = true; kernel_rfl)
 | (omega)))
      all_goals trace_state
end Go.Am
