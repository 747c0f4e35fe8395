/- Parts UlI, UlL of the proof, one behind the other. No statement is proved here. -/
import Derived.Test.YtemdkbogfafjgaaKa
import Derived.Test.YtemdkbogfafjgaaK9
set_option linter.unusedVariables false -- all
set_option linter.unusedSimpArgs false
namespace Go.Am
open Go.RowKit Go.Proofs
set_option linter.unusedSimpArgs false
set_option linter.unusedVariables false
theorem getD_memI {l : List Int} {x : Int} : x ∈ l ↔ ∃ v, v < l.length ∧ l.getD v 0 = x := by
 rw [List.mem_iff_getElem]
 constructor
 ·rintro ⟨i, hi, e⟩; exact ⟨i, hi, by simp [List.getD_eq_getElem?_getD, hi, e]⟩
 ·rintro ⟨i, hi, e⟩; exact ⟨i, hi, by simpa [List.getD_eq_getElem?_getD, hi] using e⟩
noncomputable def mkR (t : Ann) (P : List Int) : RunT := ⟨P, lsL t P (mN t P), grL t P (mN t P)⟩
theorem mem_runR {t : Ann} {P : List Int} {r : RunT} : r ∈ runR t P ↔ RunOK t P ∧ r = mkR t P := by
 unfold runR
 split
 ·rename_i h; simp [h, mkR]
 ·rename_i h; simp [h]
theorem mem_runs {t : Ann} {r : RunT} : ∀ (f : Nat) (P : List Int), r ∈ runsF t f P ↔ ∃ Q : List Int, Q.length = f ∧ (∀ x ∈ Q, 0 ≤ x ∧ x < t.reports.length) ∧ RunOK t (P ++ Q) ∧ r = mkR t (P ++ Q)
 | 0, P => by
   simp only [runsF, mem_runR]
   constructor
   ·rintro ⟨h1, h2⟩; exact ⟨[], rfl, fun x hx => (by cases hx), by simpa using h1, by simpa using h2⟩
   ·rintro ⟨Q, hl, _, h1, h2⟩
    have : Q = [] := List.length_eq_zero_iff.1 hl
    subst this
    simp at h1 h2
    exact ⟨h1, h2⟩
 | f + 1, P => by
   simp only [runsF, List.mem_flatMap, List.mem_range]
   constructor
   ·rintro ⟨p, hp, h⟩
    obtain ⟨Q, hl, hq, h1, h2⟩ := (mem_runs f (P ++ [(p : Int)])).1 h
    rw [List.append_assoc] at h1 h2
    refine ⟨[(p : Int)] ++ Q, by simp [hl], fun x hx => ?_, h1, h2⟩
    rcases List.mem_append.1 hx with hx | hx
    ·have : x = (p : Int) := by simpa using hx
     omega
    ·exact hq x hx
   ·rintro ⟨Q, hl, hq, h1, h2⟩
    cases Q with
    | nil => simp at hl
    | cons x Q =>
      have hx := hq x (by simp)
      obtain ⟨p, rfl⟩ := Int.eq_ofNat_of_zero_le hx.1
      refine ⟨p, by omega, (mem_runs f (P ++ [(p : Int)])).2 ⟨Q, by simpa using hl, fun y hy => hq y (by simp [hy]), ?_, ?_⟩⟩
      ·rw [List.append_assoc]; exact h1
      ·rw [List.append_assoc]; exact h2
theorem mxK_ge {P : List Int} : ∀ {n i : Nat}, i < n → P.getD i 0 + 1 ≤ mxK P n
 | n + 1, i, hi => by
   simp only [mxK]
   by_cases e : i = n
   ·subst e; omega
   ·have := mxK_ge (P := P) (n := n) (i := i) (by omega)
    omega
theorem mxK_le {P : List Int} {B : Int} (hB : 0 ≤ B) : ∀ {n : Nat}, (∀ i, i < n → P.getD i 0 + 1 ≤ B) → mxK P n ≤ B
 | 0, _ => hB
 | n + 1, h => by
   have ih := mxK_le hB (n := n) fun i hi => h i (by omega)
   have := h n (by omega)
   simp only [mxK]; omega
theorem snK_iff {P : List Int} {p : Nat} : ∀ {n : Nat}, snK P p n = true ↔ ∃ i, i < n ∧ P.getD i 0 = (p : Int)
 | 0 => by simp [snK]
 | n + 1 => by
   have ih := snK_iff (P := P) (p := p) (n := n)
   simp only [snK, Bool.or_eq_true, ih, decide_eq_true_eq]
   constructor
   ·rintro (⟨i, hi, e⟩ | e)
    ·exact ⟨i, by omega, e⟩
    ·exact ⟨n, by omega, e⟩
   ·rintro ⟨i, hi, e⟩
    by_cases e2 : i = n
    ·subst e2; exact .inr e
    ·exact .inl ⟨i, by omega, e⟩
theorem fit_iff {t : Ann} {P : List Int} (ht : AnnOK t) {j : Nat} (hj : j < t.claims.length) (h : fitC P (cl t j)) : ((cl t j).kind = 0 → P.getD (cl t j).a.toNat 0 < P.getD (cl t j).b.toNat 0) ∧ ((cl t j).kind = 1 → P.getD (cl t j).a.toNat 0 = P.getD (cl t j).b.toNat 0) ∧ ((cl t j).kind ≠ 0 → (cl t j).kind ≠ 1 → P.getD (cl t j).a.toNat 0 ≠ P.getD (cl t j).b.toNat 0) := by
 have hc := (ht.clm j hj).1
 have hc2 : t.claims.getD j default = cl t j := rfl
 rw [hc2] at hc
 exact ⟨h.1, h.2.1, fun h0 h1 => h.2.2 (by omega)⟩
theorem ord_of {t : Ann} {P : List Int} (ht : AnnOK t) (hl : P.length = t.reports.length) (hP : ∀ x ∈ P, 0 ≤ x ∧ x < t.reports.length) (h : RunOK t P) : OrdP t P (mN t P) := by
 have hr := ht.reports
 have hg : ∀ i, i < t.reports.length → 0 ≤ P.getD i 0 := fun i hi => (hP _ (getD_memI.2 ⟨i, by omega, rfl⟩)).1
 have hm : 0 ≤ mxK P t.reports.length := by
  have := mxK_ge (P := P) (n := t.reports.length) (i := 0) (by omega)
  have := hg 0 (by omega); omega
 refine ⟨fun i hi => ⟨hg i hi, ?_⟩, fun p hp => snK_iff.1 (h.seen p hp), fun i k hi hk he => ?_, fun j hj => (fit_iff ht hj (h.fit.2 j hj)).1, fun j hj => (fit_iff ht hj (h.fit.2 j hj)).2.1, fun j hj => (fit_iff ht hj (h.fit.2 j hj)).2.2⟩
 ·have := mxK_ge (P := P) hi
  unfold mN; omega
 ·rcases Nat.lt_trichotomy i k with h1 | h1 | h1
  ·exact (h.fit.1 k hk i h1 he.symm).symm
  ·rw [h1]
  ·exact h.fit.1 i hi k h1 he
theorem of_ord {t : Ann} {P : List Int} {m : Nat} (ht : AnnOK t) (ho : OrdP t P m) : mN t P = m ∧ (∀ p, p < mN t P → snK P p t.reports.length = true) ∧ FitP t P := by
 have hr := ht.reports
 have h1 : mN t P = m := by
  have hle := mxK_le (P := P) (B := (m : Int)) (by omega) (n := t.reports.length) fun i hi => by have := ho.rng i hi; omega
  have hge : (m : Int) ≤ mxK P t.reports.length := by
   cases m with
   | zero => have := ho.rng 0 (by omega); omega
   | succ m =>
     obtain ⟨i, hi, e⟩ := ho.on m (by omega)
     have := mxK_ge (P := P) hi
     rw [e] at this
     push_cast; omega
  unfold mN; omega
 refine ⟨h1, fun p hp => snK_iff.2 (ho.on p (by omega)), fun i hi k hk he => ho.slope i k hi (by omega) he, fun j hj => ?_⟩
 exact ⟨ho.before j hj, ho.one j hj, fun h2 => ho.other j hj (by omega) (by omega)⟩
noncomputable def rsA (t : Ann) : List RunT := runsF t t.reports.length []
theorem runs_chr2 {t : Ann} (ht : AnnOK t) {r : RunT} (h : r ∈ rsA t) : r.place.length = t.reports.length ∧ r.first.length = t.reports.length ∧ r.last.length = t.reports.length ∧ Chr t (fun i => r.place.getD i 0) (fun i => r.first.getD i 0) ∧ Chr t (fun i => r.place.getD i 0) (fun i => r.last.getD i 0) := by
 obtain ⟨Q, hl, hq, hk, rfl⟩ := (mem_runs _ _).1 h
 rw [List.nil_append] at hk ⊢
 have ho := ord_of ht hl hq hk
 exact ⟨hl, lsK_len _, gsK_len _, lsL_chr ht ho hk.hi, grL_chr ht ho hk.hi⟩
theorem run_of {t : Ann} (ht : AnnOK t) {P : List Int} {m : Nat} (hl : P.length = t.reports.length) (hm : m ≤ t.reports.length) (ho : OrdP t P m) {e : Nat → Int} (hc : Chr t (fun i => P.getD i 0) e) (he : ∀ i k, i < t.reports.length → k < t.reports.length → P.getD i 0 < P.getD k 0 → e i ≤ e k) : ∃ r ∈ rsA t, r.place = P ∧ (∀ i, i < t.reports.length → r.first.getD i 0 ≤ e i ∧ e i ≤ r.last.getD i 0) := by
 obtain ⟨h1, h2, h3⟩ := of_ord ht ho
 have hmin := fun i hi => lsL_min ht ho hc (fun _ _ _ _ => Iff.rfl) he (i := i) hi
 have hmax := fun i hi => grL_max ht ho hc (fun _ _ _ _ => Iff.rfl) he (i := i) hi
 have hk : RunOK t P := ⟨h2, h3, fun i hi => by
  rw [h1]; exact Int.le_trans (hmin i hi) (hc.day i hi).2⟩
 refine ⟨mkR t P, (mem_runs _ _).2 ⟨P, hl, fun x hx => ?_, by simpa using hk, by simp⟩, rfl, fun i hi => ?_⟩
 ·obtain ⟨i, hi, rfl⟩ := getD_memI.1 hx
  have := ho.rng i (by omega)
  omega
 ·simp only [mkR]
  rw [h1]; exact ⟨hmin i hi, hmax i hi⟩
theorem chr_low {t : Ann} (ht : AnnOK t) {C d : Nat → Int} (hc : Chr t C d) : ∃ r ∈ rsA t, (∀ i k, i < t.reports.length → k < t.reports.length → (C i = C k ↔ r.place.getD i 0 = r.place.getD k 0)) ∧ ∀ i, i < t.reports.length → r.first.getD i 0 ≤ d i := by
 obtain ⟨m, P, e, hl, hm, ho, hC, hce, hme, hed⟩ := chr_ord ht hc
 obtain ⟨r, hr, rfl, hb⟩ := run_of ht hl hm ho hce hme
 exact ⟨r, hr, hC, fun i hi => Int.le_trans (hb i hi).1 (hed i hi)⟩
theorem rs_nil {t : Ann} (ht : AnnOK t) : rsA t = [] ↔ (fiV t).1 = false := by
 have h := (fiV_spec ht).fd
 constructor
 ·intro he
  cases hb : (fiV t).1 with
  | false => rfl
  | true =>
    obtain ⟨C, D, hc⟩ := h.1 hb
    obtain ⟨r, hr, _⟩ := chr_low ht hc
    rw [he] at hr; cases hr
 ·intro hb
  cases hl : rsA t with
  | nil => rfl
  | cons r l =>
    have := runs_chr2 ht (r := r) (by rw [hl]; simp)
    have := h.2 ⟨_, _, this.2.2.2.1⟩
    rw [hb] at this; cases this
end Go.Am
namespace Go.Am
open Go.RowKit Go.Proofs
attribute [local irreducible] AWP zO Kt goK CallK zT zS SemF SemY Imp
set_option maxRecDepth 4000
set_option linter.unusedSimpArgs false
set_option linter.unusedVariables false
set_option maxHeartbeats 6400000
theorem few_ok {t : Ann} (h : fewB t = true) : annOK t ∧ (faultA t = 0 → t.reports.length ≤ 4) := by
 unfold fewB at h
 simp only [Bool.and_eq_true, decide_eq_true_eq] at h
 exact ⟨thinB_ok h.1, fun h0 => by rcases h.2 with h2 | h2 <;> omega⟩
theorem runs_p0 {t : Ann} (ht : AnnOK t) : zO Try.prog 22 [.agg (zJ t), .nils] (Go.Am.slU (rsA t)) ∧ (rsA t).length ≤ 1000000 ∧ ((rsA t).length = 0 ↔ (fiV t).1 = false) := by
 have hr := ht.reports
 refine ⟨?_, ?_, ?_⟩
 ·have h := Runs_c t ht t.reports.length [] (by simp) (fun i hi => by simp at hi)
  exact zO.sub h (by simp [subL, avSub, sl, zM])
 ·have h1 := runsF_len (t := t) t.reports.length []
  have h2 := pow_bd (n := t.reports.length) (f := t.reports.length) (by omega) (by omega)
  unfold rsA; omega
 ·rw [List.length_eq_zero_iff]; exact rs_nil ht
end Go.Am
