/- Parts UeC, UiD, UjE, UjI, UjJ of the proof, one behind the other. No statement is proved here. -/
import Derived.Test.YtemdkbogfafjgaaK5
import Derived.Test.YtemdkbogfafjgaaK8
import Derived.Test.YtemdkbogfafjgaaK7
set_option linter.unusedVariables false -- all
set_option linter.unusedSimpArgs false
namespace Go.Am
open Go.RowKit Go.Proofs
attribute [local irreducible] AWP zO Kt goK CallK zT zS SemF SemY Imp
set_option maxRecDepth 4000
set_option linter.unusedSimpArgs false
set_option linter.unusedVariables false
set_option maxHeartbeats 1600000
structure SuP where
 a : Int
 b : Int
def suIn (t : Ann) (p : SuP) : Prop := (0 ≤ p.a ∧ p.a < t.reports.length) ∧ (0 ≤ p.b ∧ p.b < t.reports.length)
def suS (p : SuP) (v : Bool × Bool) (pl dy : List Int) : (Bool × Bool) × Bool :=
 if pl.getD p.a.toNat 0 = pl.getD p.b.toNat 0 then ((true, v.2), !v.2) else ((v.1, true), !v.1)
end Go.Am
namespace Go.Am
open Go.RowKit Go.Proofs
set_option linter.unusedSimpArgs false
set_option linter.unusedVariables false
def suV (t : Ann) (p : SuP) : Bool × Bool := (allM t (suS p) (false, false)).2.v
def eqQ (p : SuP) (q : List Int × List Int) : Bool := decide (q.1.getD p.a.toNat 0 = q.1.getD p.b.toNat 0)
theorem su_vis {p : SuP} : ∀ {l : List (List Int × List Int)} {v : Bool × Bool}, (visL (gOf (suS p)) l v).1 = (v.1 || l.any (eqQ p), v.2 || l.any fun q => !eqQ p q)
 | [], (a, b) => by simp [visL]
 | q :: l, (a, b) => by
   simp only [visL, List.any_cons]
   have ih := fun v => su_vis (p := p) (l := l) (v := v)
   have hg : gOf (suS p) (a, b) q = if eqQ p q = true then ((true, b), !b) else ((a, true), !a) := by
    unfold gOf suS eqQ
    simp only [decide_eq_true_eq]
   rw [hg]
   cases he : eqQ p q with
   | true =>
     simp only [if_true, ih]
     cases b <;> simp [ih]
   | false =>
     simp only [Bool.false_eq_true, if_false, ih]
     cases a <;> simp [ih]
theorem su_resp {t : Ann} {p : SuP} (hp : suIn t p) : Resp t (suS p) := fun v pl dy pl' dy' h1 _ => by
 obtain ⟨⟨a0, a1⟩, b0, b1⟩ := hp
 unfold suS
 rw [h1 p.a.toNat (by omega), h1 p.b.toNat (by omega)]
structure SureS (t : Ann) (i k : Nat) (v : Bool × Bool) : Prop where
 one : v.1 = true ↔ ∃ C D, Chr t C D ∧ C i = C k
 other : v.2 = true ↔ ∃ C D, Chr t C D ∧ C i ≠ C k
theorem suV_spec {t : Ann} (ht : AnnOK t) {p : SuP} (hp : suIn t p) : SureS t p.a.toNat p.b.toNat (suV t p) := by
 have h := all_spec ht (su_resp hp) (false, false)
 rw [su_vis] at h
 obtain ⟨⟨a0, a1⟩, b0, b1⟩ := hp
 have e : suV t p = (false || ((runsA t).map (canon t)).any (eqQ p), false || ((runsA t).map (canon t)).any fun q => !eqQ p q) := h
 rw [e]
 have hq : ∀ r, eqQ p (canon t r) = decide (placeOf 0 r p.a.toNat = placeOf 0 r p.b.toNat) := fun r => by
  unfold eqQ canon
  simp only
  rw [tabD (by omega), tabD (by omega)]
 simp only [Bool.false_or]
 constructor
 ·rw [List.any_eq_true]
  constructor
  ·rintro ⟨q, hq1, hq2⟩
   obtain ⟨r, hr, rfl⟩ := List.mem_map.1 hq1
   rw [hq r] at hq2
   exact ⟨_, _, runs_chr ht hr, of_decide_eq_true hq2⟩
  ·rintro ⟨C, D, hc, he⟩
   obtain ⟨r, hr, _, h3⟩ := chr_runs ht hc
   exact ⟨_, List.mem_map.2 ⟨r, hr, rfl⟩, by rw [hq r]; exact decide_eq_true ((h3 _ _ (by omega) (by omega)).2 he)⟩
 ·rw [List.any_eq_true]
  constructor
  ·rintro ⟨q, hq1, hq2⟩
   obtain ⟨r, hr, rfl⟩ := List.mem_map.1 hq1
   rw [hq r] at hq2
   exact ⟨_, _, runs_chr ht hr, by simpa using hq2⟩
  ·rintro ⟨C, D, hc, he⟩
   obtain ⟨r, hr, _, h3⟩ := chr_runs ht hc
   refine ⟨_, List.mem_map.2 ⟨r, hr, rfl⟩, ?_⟩
   rw [hq r]
   have : ¬ placeOf 0 r p.a.toNat = placeOf 0 r p.b.toNat := fun h => he ((h3 _ _ (by omega) (by omega)).1 h)
   simp [this]
end Go.Am
namespace Go.Am
open Go.RowKit Go.Proofs
set_option linter.unusedSimpArgs false
set_option linter.unusedVariables false
theorem len_sub {α : Type} [DecidableEq α] : ∀ {l r : List α}, l.Pairwise (· ≠ ·) → (∀ x ∈ l, x ∈ r) → l.length ≤ r.length
 | [], _, _, _ => Nat.zero_le _
 | x :: l, r, hn, hs => by
   have h1 := List.pairwise_cons.1 hn
   have hx : x ∈ r := hs x (by simp)
   have h2 := len_sub (l := l) (r := r.erase x) h1.2 (fun y hy => (List.mem_erase_of_ne (fun e => h1.1 y hy e.symm)).2 (hs y (by simp [hy])))
   rw [List.length_erase_of_mem hx] at h2
   have : 0 < r.length := List.length_pos_of_mem hx
   simp only [List.length_cons]; omega
structure Wid (t u : Ann) (σ : Nat → Nat) : Prop where
 lt : ∀ j, j < t.reports.length → σ j < u.reports.length
 on : ∀ i, i < u.reports.length → ∃ j, j < t.reports.length ∧ σ j = i
 chr : ∀ C D, Chr u C D → Chr t (fun j => C (σ j)) (fun j => D (σ j))
section
variable {t u : Ann} {σ : Nat → Nat} (h : Wid t u σ) (ht : AnnOK t) (hu : AnnOK u)
include h ht hu
theorem Wid.fd (hv : (fiV u).1 = true) : (fiV t).1 = true := by
 obtain ⟨C, D, hc⟩ := (fiV_spec hu).fd.1 hv
 exact (fiV_spec ht).fd.2 ⟨_, _, h.chr _ _ hc⟩
theorem Wid.one {i k : Nat} (hi : i < t.reports.length) (hk : k < t.reports.length) (hv : (suV u ⟨(σ i : Nat), (σ k : Nat)⟩).1 = true) : (suV t ⟨i, k⟩).1 = true := by
 have h1 := suV_spec hu (p := ⟨(σ i : Nat), (σ k : Nat)⟩) ⟨⟨by simp, by simpa using h.lt i hi⟩, by simp, by simpa using h.lt k hk⟩
 have h2 := suV_spec ht (p := ⟨i, k⟩) ⟨⟨by simp, by simpa using hi⟩, by simp, by simpa using hk⟩
 simp only [Int.toNat_natCast] at h1 h2
 obtain ⟨C, D, hc, e⟩ := h1.one.1 hv
 exact h2.one.2 ⟨_, _, h.chr _ _ hc, e⟩
theorem Wid.other {i k : Nat} (hi : i < t.reports.length) (hk : k < t.reports.length) (hv : (suV u ⟨(σ i : Nat), (σ k : Nat)⟩).2 = true) : (suV t ⟨i, k⟩).2 = true := by
 have h1 := suV_spec hu (p := ⟨(σ i : Nat), (σ k : Nat)⟩) ⟨⟨by simp, by simpa using h.lt i hi⟩, by simp, by simpa using h.lt k hk⟩
 have h2 := suV_spec ht (p := ⟨i, k⟩) ⟨⟨by simp, by simpa using hi⟩, by simp, by simpa using hk⟩
 simp only [Int.toNat_natCast] at h1 h2
 obtain ⟨C, D, hc, e⟩ := h1.other.1 hv
 exact h2.other.2 ⟨_, _, h.chr _ _ hc, e⟩
end
end Go.Am
namespace Go.Am
open Go.RowKit Go.Proofs
set_option linter.unusedSimpArgs false
set_option linter.unusedVariables false
def nxK (s : List Int) : Nat → Int
 | 0 => 0
 | k + 1 => if s.getD k 0 = nxK s k then nxK s k + 1 else nxK s k
def NumP (s : List Int) (k : Nat) : Prop := ∀ i, i < k → 0 ≤ s.getD i 0 ∧ s.getD i 0 ≤ nxK s i
instance {s : List Int} {k : Nat} : Decidable (NumP s k) := by unfold NumP; infer_instance
end Go.Am
namespace Go.Am
open Go.RowKit Go.Proofs
attribute [local irreducible] AWP zO Kt goK CallK zT zS SemF SemY Imp
set_option maxRecDepth 4000
set_option linter.unusedSimpArgs false
set_option linter.unusedVariables false
set_option maxHeartbeats 1600000
def ltL (a b : List Int) : Bool := decide (cmpL a b < 0)
theorem ltL_cons {x y : Int} {a b : List Int} : ltL (x :: a) (y :: b) = if x = y then ltL a b else decide (x < y) := by
 unfold ltL
 simp only [cmpL, cmpI]
 by_cases e : x = y
 ·subst e; simp
 ·rw [if_neg e]
  by_cases e2 : x < y
  ·simp [e2]
  ·simp [e2, show y < x by omega]
theorem lessR_c (a b : List Int) (ha : a.length ≤ 1000000) (hb : b.length ≤ 1000000) : zO Try.prog 33 [sl a, sl b] (.bool (ltL a b)) := by
 obtain ⟨r, hr⟩ : ∃ r, ltL a b = r := ⟨_, rfl⟩
 rw [hr]
 simp only [sl]
 (refine zG (fun w args => Try.call33 ..) Try.func33 rfl (fun w0 m0 wz => ?_); simp only [Try.ntmps33, Try.results33, zP, zR, zV, zW, slR, slC, zJ, sl, List.toList_toArray, List.cons_append, List.nil_append, List.length_cons, List.length_nil, Nat.reduceAdd, Nat.reduceSub])
 (repeat' (first
 | refine zC ?_
 | refine kt ?_
 | refine And.intro ?_ ?_
 | ((first | refine awp_stp rfl ?_ | refine awp_draw (by kernel_rfl) (by kernel_rfl) ?_ | refine Imp.le2 ?_ | refine go_split (fun _h => ?_) (fun _h => ?_)) <;> try simp (maxSteps := 4000000) only [go_sem, seval])
 | intro _h
 | refine zA ?_
 | refine zB ?_
 | refine zF ?_ ?_
 | (show zE _ _ = true; kernel_rfl)
 | (show zD _ _ = true; kernel_rfl)
 | (omega)))
 refine awp_loopJ (fun i : Nat => i ≤ a.length ∧ i ≤ b.length ∧ ltL (a.drop i) (b.drop i) = r) (fun i => ⟨mkT 41 [(0, .psl false a.length (zM a)), (1, .psl false b.length (zM b)), (5, .int .i64 i)], [], []⟩) (fun i => a.length - i) 0 ⟨Nat.zero_le _, Nat.zero_le _, hr⟩ (.le2 ?_) ?_
 ·simp (maxSteps := 4000000) only [go_sem, seval]
  all_goals first | rfl | trace_state
 ·rintro i ⟨h1, h2, h3⟩
  rcases Nat.lt_or_eq_of_le h1 with hi1 | hi1
  ·have hn1 := fun K => show optK (nth (zM a) i) K = K (.int .i64 (a.getD i 0)) by rw [ints_nth hi1]; rfl
   rw [getD_drop0 hi1] at h3
   rcases Nat.lt_or_eq_of_le h2 with hi2 | hi2
   ·have hn2 := fun K => show optK (nth (zM b) i) K = K (.int .i64 (b.getD i 0)) by rw [ints_nth hi2]; rfl
    rw [getD_drop0 hi2] at h3
    rw [ltL_cons] at h3
    by_cases e : a.getD i 0 = b.getD i 0
    ·rw [if_pos e] at h3
     generalize a.getD i 0 = x at *
     generalize b.getD i 0 = y at *
     subst e
     simp (maxSteps := 4000000) only [go_sem, seval]
     (repeat' (first
 | ((omega))
 | ((exfalso; omega))
 | refine zC ?_
 | refine kt ?_
 | refine And.intro ?_ ?_
 | ((first | refine awp_stp rfl ?_ | refine awp_draw (by kernel_rfl) (by kernel_rfl) ?_ | refine Imp.le2 ?_ | refine go_split (fun _h => ?_) (fun _h => ?_)) <;> try simp (maxSteps := 4000000) only [go_sem, seval, hn1, hn2])
 | intro _h
 | refine zA ?_
 | refine zB ?_
 | refine zF ?_ ?_
 | (show zE _ _ = true; kernel_rfl)
 | (show zD _ _ = true; kernel_rfl)
 | (omega)))
     all_goals first | (refine ⟨i + 1, ⟨hi1, hi2, h3⟩, by omega, .le2 ?_⟩; simp (maxSteps := 4000000) only [go_sem, seval]; all_goals first | rfl | trace_state) | trace_state
    ·rw [if_neg e] at h3
     generalize a.getD i 0 = x at *
     generalize b.getD i 0 = y at *
     subst h3
     simp (maxSteps := 4000000) only [go_sem, seval]
     (repeat' (first
 | ((omega))
 | ((exfalso; omega))
 | refine zC ?_
 | refine kt ?_
 | refine And.intro ?_ ?_
 | ((first | refine awp_stp rfl ?_ | refine awp_draw (by kernel_rfl) (by kernel_rfl) ?_ | refine Imp.le2 ?_ | refine go_split (fun _h => ?_) (fun _h => ?_)) <;> try simp (maxSteps := 4000000) only [go_sem, seval, hn1, hn2])
 | intro _h
 | refine zA ?_
 | refine zB ?_
 | refine zF ?_ ?_
 | (show zE _ _ = true; kernel_rfl)
 | (show zD _ _ = true; kernel_rfl)
 | (omega)))
     all_goals first | exact (decide_eq_true ‹_›).symm | exact (decide_eq_false ‹_›).symm | exact decide_eq_true ‹_› | exact decide_eq_false ‹_› | (exfalso; simp at _h; done) | trace_state
   ·have hn3 : b.drop i = [] := List.drop_eq_nil_of_le (by omega)
    rw [hn3] at h3
    have h3 : false = r := h3
    simp (maxSteps := 4000000) only [go_sem, seval]
    (repeat' (first
 | ((exact h3))
 | ((exact h3.symm))
 | ((omega))
 | ((exfalso; omega))
 | refine zC ?_
 | refine kt ?_
 | refine And.intro ?_ ?_
 | ((first | refine awp_stp rfl ?_ | refine awp_draw (by kernel_rfl) (by kernel_rfl) ?_ | refine Imp.le2 ?_ | refine go_split (fun _h => ?_) (fun _h => ?_)) <;> try simp (maxSteps := 4000000) only [go_sem, seval, hn1])
 | intro _h
 | refine zA ?_
 | refine zB ?_
 | refine zF ?_ ?_
 | (show zE _ _ = true; kernel_rfl)
 | (show zD _ _ = true; kernel_rfl)
 | (omega)))
    all_goals first | (exfalso; omega) | trace_state
  ·have hn3 : a.drop i = [] := List.drop_eq_nil_of_le (by omega)
   rw [hn3] at h3
   rcases Nat.lt_or_eq_of_le h2 with hi2 | hi2
   ·rw [getD_drop0 hi2] at h3
    have h3 : true = r := h3
    simp (maxSteps := 4000000) only [go_sem, seval]
    (repeat' (first
 | ((exact h3))
 | ((exact h3.symm))
 | ((omega))
 | ((exfalso; omega))
 | refine zC ?_
 | refine kt ?_
 | refine And.intro ?_ ?_
 | ((first | refine awp_stp rfl ?_ | refine awp_draw (by kernel_rfl) (by kernel_rfl) ?_ | refine Imp.le2 ?_ | refine go_split (fun _h => ?_) (fun _h => ?_)) <;> try simp (maxSteps := 4000000) only [go_sem, seval])
 | intro _h
 | refine zA ?_
 | refine zB ?_
 | refine zF ?_ ?_
 | (show zE _ _ = true; kernel_rfl)
 | (show zD _ _ = true; kernel_rfl)
 | (omega)))
    all_goals trace_state
   ·have hn4 : b.drop i = [] := List.drop_eq_nil_of_le (by omega)
    rw [hn4] at h3
    have h3 : false = r := h3
    simp (maxSteps := 4000000) only [go_sem, seval]
    (repeat' (first
 | ((exact h3))
 | ((exact h3.symm))
 | ((omega))
 | ((exfalso; omega))
 | refine zC ?_
 | refine kt ?_
 | refine And.intro ?_ ?_
 | ((first | refine awp_stp rfl ?_ | refine awp_draw (by kernel_rfl) (by kernel_rfl) ?_ | refine Imp.le2 ?_ | refine go_split (fun _h => ?_) (fun _h => ?_)) <;> try simp (maxSteps := 4000000) only [go_sem, seval])
 | intro _h
 | refine zA ?_
 | refine zB ?_
 | refine zF ?_ ?_
 | (show zE _ _ = true; kernel_rfl)
 | (show zD _ _ = true; kernel_rfl)
 | (omega)))
    all_goals trace_state
end Go.Am
