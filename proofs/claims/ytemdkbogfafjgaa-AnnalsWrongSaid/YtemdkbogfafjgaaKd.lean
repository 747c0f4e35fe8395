/- Parts UmA, UmB, UmC, UmD, UmE, UmF, UmG, UmH, UmI, VwK of the proof, one behind the other. No statement is proved here. -/
import Derived.Test.YtemdkbogfafjgaaK8
import Derived.Test.YtemdkbogfafjgaaKc
import Derived.Test.YtemdkbogfafjgaaKb
import Derived.Test.YtemdkbogfafjgaaK9
import Derived.Test.YtemdkbogfafjgaaK4
set_option linter.unusedVariables false -- all
set_option linter.unusedSimpArgs false
namespace Go.Am
open Go.RowKit Go.Proofs
set_option linter.unusedSimpArgs false
set_option linter.unusedVariables false
theorem cmpL_clt {x y : Int} {a b : List Int} : cmpL (x :: a) (y :: b) < 0 ↔ x < y ∨ x = y ∧ cmpL a b < 0 := by
 simp only [cmpL, cmpI]
 by_cases h1 : x < y
 ·simp [h1]
 ·by_cases h2 : y < x
  ·simp [h1, h2]; omega
  ·have : x = y := by omega
   subst this
   simp
def tryS {σ : Type} (f : Nat → σ → Bool × σ) : List Nat → σ → Bool × σ
 | [], o => (false, o)
 | n :: ns, o => if (f n o).1 = true then f n o else tryS f ns (f n o).2
def chS (p : List Int → Bool) (N : Nat) : Nat → List Int → Nat → Option (List Int) → Bool × Option (List Int)
 | 0, L, _, _ => (p L, some L)
 | m + 1, L, a, o => tryS (fun n o => chS p N m (L ++ [(n : Int)]) (n + 1) o) (List.range' a (N - a)) o
structure Rise (a N : Nat) (c : List Int) : Prop where
 up : c.Pairwise (· < ·)
 rng : ∀ x ∈ c, (a : Int) ≤ x ∧ x < N
theorem Rise.cons {a N : Nat} {x : Int} {c : List Int} : Rise a N (x :: c) ↔ ∃ n : Nat, x = n ∧ a ≤ n ∧ n < N ∧ Rise (n + 1) N c := by
 constructor
 ·intro h
  obtain ⟨h1, h2⟩ := List.pairwise_cons.1 h.up
  have h3 := h.rng x (by simp)
  obtain ⟨n, rfl⟩ := Int.eq_ofNat_of_zero_le (show 0 ≤ x by omega)
  refine ⟨n, rfl, by omega, by omega, h2, fun y hy => ?_⟩
  have := h1 y hy
  have := h.rng y (by simp [hy])
  omega
 ·rintro ⟨n, rfl, h1, h2, h3⟩
  refine ⟨List.pairwise_cons.2 ⟨fun y hy => ?_, h3.up⟩, fun y hy => ?_⟩
  ·have := h3.rng y hy; omega
  ·rcases List.mem_cons.1 hy with rfl | hy
   ·omega
   ·have := h3.rng y hy; omega
theorem tryS_true {σ : Type} {f : Nat → σ → Bool × σ} : ∀ {k a : Nat} {o : σ}, (tryS f (List.range' a k) o).1 = true → ∃ n o', a ≤ n ∧ n < a + k ∧ tryS f (List.range' a k) o = f n o' ∧ (f n o').1 = true ∧ ∀ n', a ≤ n' → n' < n → ∃ o'', (f n' o'').1 = false
 | 0, a, o, h => by simp [tryS] at h
 | k + 1, a, o, h => by
   rw [List.range'_succ] at h ⊢
   simp only [tryS] at h ⊢
   by_cases h1 : (f a o).1 = true
   ·rw [if_pos h1] at h ⊢
    exact ⟨a, o, Nat.le_refl _, by omega, rfl, h1, fun n' h2 h3 => by omega⟩
   ·rw [if_neg h1] at h ⊢
    obtain ⟨n, o', h2, h3, h4, h5, h6⟩ := tryS_true h
    refine ⟨n, o', by omega, by omega, h4, h5, fun n' h7 h8 => ?_⟩
    by_cases e : n' = a
    ·subst e; exact ⟨o, by simpa using h1⟩
    ·exact h6 n' (by omega) h8
theorem tryS_false {σ : Type} {f : Nat → σ → Bool × σ} : ∀ {k a : Nat} {o : σ}, (tryS f (List.range' a k) o).1 = false → ∀ n, a ≤ n → n < a + k → ∃ o', (f n o').1 = false
 | 0, a, o, _ => fun n h1 h2 => by omega
 | k + 1, a, o, h => by
   rw [List.range'_succ] at h
   simp only [tryS] at h
   by_cases h1 : (f a o).1 = true
   ·rw [if_pos h1, h1] at h; cases h
   ·rw [if_neg h1] at h
    intro n h2 h3
    by_cases e : n = a
    ·subst e; exact ⟨o, by simpa using h1⟩
    ·exact tryS_false h n (by omega) (by omega)
theorem chS_spec {p : List Int → Bool} {N : Nat} : ∀ (m : Nat) (L : List Int) (a : Nat) (o : Option (List Int)),
 ((chS p N m L a o).1 = true → ∃ c, (chS p N m L a o).2 = some (L ++ c) ∧ c.length = m ∧ Rise a N c ∧ p (L ++ c) = true ∧ ∀ c', c'.length = m → Rise a N c' → p (L ++ c') = true → ¬ cmpL c' c < 0) ∧
 ((chS p N m L a o).1 = false → ∀ c', c'.length = m → Rise a N c' → p (L ++ c') = false)
 | 0, L, a, o => by
   simp only [chS]
   refine ⟨fun h => ⟨[], by simp, rfl, ⟨List.Pairwise.nil, fun x hx => (by cases hx)⟩, by simpa using h, fun c' h1 _ _ => ?_⟩, fun h c' h1 _ => ?_⟩
   ·have : c' = [] := List.length_eq_zero_iff.1 h1
    subst this; simp [cmpL]
   ·have : c' = [] := List.length_eq_zero_iff.1 h1
    subst this; simpa using h
 | m + 1, L, a, o => by
   simp only [chS]
   have hf : ∀ c', c'.length = m + 1 → Rise a N c' → ∃ (n : Nat) (c1 : List Int), c' = (n : Int) :: c1 ∧ c1.length = m ∧ a ≤ n ∧ n < N ∧ Rise (n + 1) N c1 := fun c' h1 h2 => by
    cases c' with
    | nil => simp at h1
    | cons x c1 =>
      obtain ⟨n, rfl, h3, h4, h5⟩ := Rise.cons.1 h2
      exact ⟨n, c1, rfl, by simpa using h1, h3, h4, h5⟩
   have app : ∀ (n : Nat) (c1 : List Int), L ++ ((n : Int) :: c1) = L ++ [(n : Int)] ++ c1 := fun n c1 => by simp
   constructor
   ·intro h
    obtain ⟨n, o', h1, h2, h3, h4, h5⟩ := tryS_true h
    obtain ⟨c, e1, e2, e3, e4, e5⟩ := (chS_spec m (L ++ [(n : Int)]) (n + 1) o').1 h4
    rw [h3]
    refine ⟨(n : Int) :: c, by rw [app n c]; exact e1, by simp [e2], Rise.cons.2 ⟨n, rfl, h1, by omega, e3⟩, by rw [app n c]; exact e4, fun c' q1 q2 q3 => ?_⟩
    obtain ⟨n', c1, rfl, q4, q5, q6, q7⟩ := hf c' q1 q2
    rw [app n' c1] at q3
    rw [cmpL_clt]
    rcases Nat.lt_trichotomy n' n with hlt | rfl | hgt
    ·obtain ⟨o'', h6⟩ := h5 n' q5 hlt
     have := (chS_spec m (L ++ [(n' : Int)]) (n' + 1) o'').2 h6 c1 q4 q7
     rw [this] at q3; cases q3
    ·have := e5 c1 q4 q7 q3
     rintro (h | ⟨_, h⟩)
     ·omega
     ·exact this h
    ·rintro (h | ⟨h, _⟩) <;> omega
   ·intro h c' q1 q2
    obtain ⟨n', c1, rfl, q4, q5, q6, q7⟩ := hf c' q1 q2
    obtain ⟨o'', h6⟩ := tryS_false h n' q5 (by omega)
    rw [app n' c1]
    exact (chS_spec m (L ++ [(n' : Int)]) (n' + 1) o'').2 h6 c1 q4 q7
def keepS (p : List Int → Bool) (N : Nat) : Nat → Option (List Int)
 | 0 => none
 | k + 1 => (chS p N (k + 1) [] 0 (keepS p N k)).2
def hitS (p : List Int → Bool) (N k : Nat) : Bool := (chS p N k [] 0 (keepS p N (k - 1))).1
theorem hit_ex {p : List Int → Bool} {N : Nat} (hp : p (tab N fun i => (i : Int)) = true) (h0 : p [] = false) : ∃ K, 1 ≤ K ∧ K ≤ N ∧ hitS p N K = true ∧ ∀ k, 1 ≤ k → k < K → hitS p N k = false := by
 have hN : hitS p N N = true := by
  cases h : hitS p N N with
  | true => rfl
  | false =>
    have := (chS_spec (p := p) (N := N) N [] 0 (keepS p N (N - 1))).2 h (tab N fun i => (i : Int)) tab_length ⟨?_, ?_⟩
    ·rw [List.nil_append, hp] at this; cases this
    ·rw [List.pairwise_iff_getElem]
     intro i j hi hj hij
     simp only [tab, List.getElem_map, List.getElem_range]
     omega
    ·intro x hx
     simp only [tab, List.mem_map, List.mem_range] at hx
     obtain ⟨i, hi, rfl⟩ := hx
     omega
 have hN1 : 1 ≤ N := by
  rcases Nat.eq_zero_or_pos N with h | h
  ·subst h
   simp only [tab, List.range_zero, List.map_nil] at hp
   rw [h0] at hp; cases hp
  ·exact h
 obtain ⟨K, h1, h2⟩ : ∃ K, (1 ≤ K ∧ K ≤ N ∧ hitS p N K = true) ∧ ∀ k, k < K → ¬ (1 ≤ k ∧ k ≤ N ∧ hitS p N k = true) := by
  have : ∀ n, (∃ K, K ≤ n ∧ (1 ≤ K ∧ K ≤ N ∧ hitS p N K = true)) → ∃ K, (1 ≤ K ∧ K ≤ N ∧ hitS p N K = true) ∧ ∀ k, k < K → ¬ (1 ≤ k ∧ k ≤ N ∧ hitS p N k = true) := by
   intro n
   induction n with
   | zero => rintro ⟨K, h1, h2, _⟩; omega
   | succ n ih =>
     rintro ⟨K, h1, h2⟩
     by_cases h3 : ∃ K, K ≤ n ∧ (1 ≤ K ∧ K ≤ N ∧ hitS p N K = true)
     ·exact ih h3
     ·refine ⟨K, h2, fun k hk h4 => h3 ⟨k, by omega, h4⟩⟩
  exact this N ⟨N, Nat.le_refl _, hN1, Nat.le_refl _, hN⟩
 refine ⟨K, h1.1, h1.2.1, h1.2.2, fun k q1 q2 => ?_⟩
 cases h : hitS p N k with
 | false => rfl
 | true => exact absurd ⟨q1, by omega, h⟩ (h2 k q2)
structure LeastS (p : List Int → Bool) (N : Nat) (l : List Int) : Prop where
 rise : Rise 0 N l
 yes : p l = true
 fewer : ∀ c, Rise 0 N c → c.length < l.length → p c = false
 less : ∀ c, Rise 0 N c → c.length = l.length → p c = true → ¬ cmpL c l < 0
theorem hit_least {p : List Int → Bool} {N K : Nat} (h0 : p [] = false) (h1 : 1 ≤ K) (hK : hitS p N K = true) (hk : ∀ k, 1 ≤ k → k < K → hitS p N k = false) : ∃ l, keepS p N K = some l ∧ l.length = K ∧ LeastS p N l := by
 obtain ⟨c, e1, e2, e3, e4, e5⟩ := (chS_spec (p := p) (N := N) K [] 0 (keepS p N (K - 1))).1 hK
 rw [List.nil_append] at e1 e4
 refine ⟨c, ?_, e2, e3, e4, fun c' q1 q2 => ?_, fun c' q1 q2 q3 => e5 c' (by omega) q1 (by simpa using q3)⟩
 ·obtain ⟨k, rfl⟩ : ∃ k, K = k + 1 := ⟨K - 1, by omega⟩
  exact e1
 ·rcases Nat.eq_zero_or_pos c'.length with hc | hc
  ·have : c' = [] := List.length_eq_zero_iff.1 hc
   subst this; exact h0
  ·have := (chS_spec (p := p) (N := N) c'.length [] 0 (keepS p N (c'.length - 1))).2 (hk _ hc (by omega)) c' rfl q1
   simpa using this
theorem LeastS.uniq {p : List Int → Bool} {N : Nat} {a b : List Int} (ha : LeastS p N a) (hb : LeastS p N b) : a = b := by
 have hl : a.length = b.length := by
  rcases Nat.lt_trichotomy a.length b.length with h | h | h
  ·have := hb.fewer a ha.rise h; rw [ha.yes] at this; cases this
  ·exact h
  ·have := ha.fewer b hb.rise h; rw [hb.yes] at this; cases this
 have h1 := ha.less b hb.rise hl.symm hb.yes
 have h2 := hb.less a ha.rise hl ha.yes
 apply cmpL_eq.1
 rcases Int.lt_trichotomy (cmpL a b) 0 with h | h | h
 ·exact absurd h h2
 ·exact h
 ·exact absurd (cmpL_anti.2 h) h1
end Go.Am
namespace Go.Am
open Go.RowKit Go.Proofs
set_option linter.unusedSimpArgs false
set_option linter.unusedVariables false
theorem wClm_mem {l : List Int} {t : Ann} {c : Clm} : ∀ {k : Nat}, k ≤ t.claims.length → c ∈ wClm l t k → c ∈ t.claims
 | 0, _, h => by simp [wClm] at h
 | k + 1, hk, h => by
   simp only [wClm] at h
   split at h
   ·exact wClm_mem (by omega) h
   ·rcases List.mem_append.1 h with h | h
    ·exact wClm_mem (by omega) h
    ·have e : c = t.claims.getD k default := by simpa using h
     rw [e, List.getD_eq_getElem?_getD, List.getElem?_eq_getElem (by omega)]
     exact List.getElem_mem _
theorem withA_reports {t : Ann} {l : List Int} : (withA t l).reports.length = t.reports.length := tab_length
theorem withA_rp {t : Ann} {l : List Int} {i : Nat} (hi : i < t.reports.length) : (withA t l).reports.getD i default = wRpt l t i := by
 simp only [withA]; exact tab_getD hi
theorem withA_good {t : Ann} {l : List Int} (ht : AnnOK t) : AnnOK (withA t l) := by
 have hmem : ∀ c ∈ (withA t l).claims, c ∈ t.claims := fun c hc => wClm_mem (Nat.le_refl _) hc
 refine ⟨by rw [withA_reports]; exact ht.reports, ?_, ht.rest, fun i hi => ?_, fun i hi => ?_⟩
 ·have := wClm_le (l := l) (t := t) t.claims.length
  have := ht.claims
  simp only [withA]; omega
 ·rw [withA_reports] at hi
  rw [withA_rp hi]
  have := ht.rpt i hi
  unfold wRpt
  split
  ·refine ⟨this.1, ?_, ?_, ?_⟩ <;> simp
  ·exact this
 ·have h1 : (withA t l).claims.getD i default ∈ (withA t l).claims := by
   rw [List.getD_eq_getElem?_getD, List.getElem?_eq_getElem hi]; exact List.getElem_mem hi
  obtain ⟨j, hj, e⟩ := List.mem_iff_getElem.1 (hmem _ h1)
  have := ht.clm j hj
  rw [List.getD_eq_getElem?_getD, List.getElem?_eq_getElem hj, Option.getD_some, e] at this
  rw [withA_reports]; exact this
theorem withA_nil {t : Ann} : withA t [] = t := by
 obtain ⟨R, C, r⟩ := t
 simp only [withA, Ann.mk.injEq, and_true]
 constructor
 ·apply List.ext_getElem
  ·exact tab_length
  ·intro i a b
   have b : i < R.length := b
   simp [tab, wRpt, List.getD_eq_getElem?_getD, b]
 ·have : ∀ k, k ≤ C.length → wClm [] ⟨R, C, r⟩ k = C.take k := by
   intro k
   induction k with
   | zero => simp [wClm]
   | succ k ih =>
     intro hk
     simp only [wClm, List.not_mem_nil, if_false]
     rw [ih (by omega), List.take_succ_eq_append_getElem (by omega)]
     simp [List.getD_eq_getElem?_getD, show k < C.length by omega]
  rw [this _ (Nat.le_refl _), List.take_length]
def nStN (t : Ann) : Nat := t.reports.length + t.claims.length
def pW (t : Ann) (l : List Int) : Bool := (fnV (withA t l)).1
theorem pW_nil {t : Ann} : pW t [] = (fnV t).1 := by unfold pW; rw [withA_nil]
theorem wClm_all {t : Ann} {l : List Int} : ∀ k : Nat, (∀ j : Nat, j < k → ((t.reports.length : Int) + j) ∈ l) → wClm l t k = []
 | 0, _ => rfl
 | k + 1, h => by
   simp only [wClm]
   rw [if_pos (h k (by omega))]
   exact wClm_all k fun j hj => h j (by omega)
theorem pW_all {t : Ann} (ht : AnnOK t) : pW t (tab (nStN t) fun i => (i : Int)) = true := by
 have hin : ∀ i, i < nStN t → (i : Int) ∈ tab (nStN t) fun i => (i : Int) := fun i hi => by
  simp only [tab, List.mem_map, List.mem_range]
  exact ⟨i, hi, rfl⟩
 generalize tab (nStN t) (fun i => (i : Int)) = l at *
 have hc : (withA t l).claims = [] := wClm_all _ fun j hj => by
  have := hin (t.reports.length + j) (by unfold nStN; omega)
  simpa using this
 unfold pW
 rw [fnV_spec (withA_good ht)]
 refine ⟨fun i => ((withA t l).reports.getD i default).slope, fun _ => 0, ⟨fun i hi => ?_, fun i k hi hk he => ⟨he, rfl⟩, fun i k hi hk hn he => absurd he hn, fun j hj => ?_, fun j hj => ?_, fun j hj => ?_⟩⟩
 ·rw [withA_reports] at hi
  show ((withA t l).reports.getD i default).lo ≤ 0 ∧ 0 ≤ ((withA t l).reports.getD i default).hi
  rw [withA_rp hi]
  unfold wRpt
  rw [if_pos (hin i (by unfold nStN; omega))]
  exact ⟨Int.le_refl _, (by decide : (0 : Int) ≤ 100000)⟩
 ·rw [hc] at hj; simp at hj
 ·rw [hc] at hj; simp at hj
 ·rw [hc] at hj; simp at hj
theorem wrong_ex {t : Ann} (ht : AnnOK t) (h0 : (fnV t).1 = false) : ∃ K l, 1 ≤ K ∧ K ≤ nStN t ∧ hitS (pW t) (nStN t) K = true ∧ (∀ k, 1 ≤ k → k < K → hitS (pW t) (nStN t) k = false) ∧ keepS (pW t) (nStN t) K = some l ∧ l.length = K ∧ LeastS (pW t) (nStN t) l := by
 have h1 : pW t [] = false := by rw [pW_nil]; exact h0
 obtain ⟨K, a1, a2, a3, a4⟩ := hit_ex (pW_all ht) h1
 obtain ⟨l, b1, b2, b3⟩ := hit_least h1 a1 a3 a4
 exact ⟨K, l, a1, a2, a3, a4, b1, b2, b3⟩
end Go.Am
namespace Go.Am
open Go.RowKit Go.Proofs
set_option linter.unusedSimpArgs false
set_option linter.unusedVariables false
def bitK (s : Nat) : Nat → List Int
 | 0 => []
 | k + 1 => if s.testBit k = true then bitK s k ++ [(k : Int)] else bitK s k
theorem bitK_le {s : Nat} : ∀ k, (bitK s k).length ≤ k
 | 0 => by simp [bitK]
 | k + 1 => by
   have := bitK_le (s := s) k
   simp only [bitK]
   split <;> simp <;> omega
theorem bitK_rise {s : Nat} : ∀ k, Rise 0 k (bitK s k)
 | 0 => ⟨List.Pairwise.nil, fun x hx => (by simp [bitK] at hx)⟩
 | k + 1 => by
   have ih := bitK_rise (s := s) k
   simp only [bitK]
   split
   ·refine ⟨List.pairwise_append.2 ⟨ih.up, List.pairwise_singleton _ _, fun x hx y hy => ?_⟩, fun x hx => ?_⟩
    ·have := ih.rng x hx
     have : y = (k : Int) := by simpa using hy
     omega
    ·rcases List.mem_append.1 hx with hx | hx
     ·have := ih.rng x hx; omega
     ·have : x = (k : Int) := by simpa using hx
      omega
   ·exact ⟨ih.up, fun x hx => by have := ih.rng x hx; omega⟩
theorem bitK_cong {s s' : Nat} : ∀ k, (∀ i, i < k → s.testBit i = s'.testBit i) → bitK s k = bitK s' k
 | 0, _ => rfl
 | k + 1, h => by
   simp only [bitK]
   rw [bitK_cong k fun i hi => h i (by omega), h k (by omega)]
theorem Rise.last {n : Nat} {c : List Int} (h : Rise 0 (n + 1) c) : Rise 0 n c ∨ ∃ c', c = c' ++ [(n : Int)] ∧ Rise 0 n c' := by
 by_cases hm : (n : Int) ∈ c
 ·right
  rcases List.eq_nil_or_concat c with rfl | ⟨c', x, rfl⟩
  ·simp at hm
  ·rw [List.concat_eq_append] at *
   obtain ⟨h1, h2, h3⟩ := List.pairwise_append.1 h.up
   have hx : x = (n : Int) := by
    rcases List.mem_append.1 hm with h4 | h4
    ·have := h3 _ h4 x (by simp)
     have := h.rng x (by simp)
     omega
    ·exact (by simpa using h4 : (n : Int) = x).symm
   subst hx
   refine ⟨c', rfl, h1, fun y hy => ?_⟩
   have := h3 y hy (n : Int) (by simp)
   have := h.rng y (by simp [hy])
   omega
 ·left
  refine ⟨h.up, fun x hx => ?_⟩
  have := h.rng x hx
  have : x ≠ (n : Int) := fun e => hm (e ▸ hx)
  omega
theorem bitK_onto : ∀ {n : Nat} {c : List Int}, Rise 0 n c → ∃ s, s < 2 ^ n ∧ bitK s n = c
 | 0, c, h => by
   refine ⟨0, by omega, ?_⟩
   cases c with
   | nil => rfl
   | cons x c => have := h.rng x (by simp); omega
 | n + 1, c, h => by
   rcases h.last with h1 | ⟨c', rfl, h1⟩
   ·obtain ⟨s, hs, rfl⟩ := bitK_onto h1
    refine ⟨s, by rw [Nat.pow_succ]; omega, ?_⟩
    simp only [bitK]
    rw [Nat.testBit_lt_two_pow hs]
    simp
   ·obtain ⟨s, hs, rfl⟩ := bitK_onto h1
    refine ⟨2 ^ n + s, by rw [Nat.pow_succ]; omega, ?_⟩
    simp only [bitK]
    rw [Nat.testBit_two_pow_add_eq, Nat.testBit_lt_two_pow hs]
    simp only [Bool.not_false, if_true]
    rw [bitK_cong n fun i hi => Nat.testBit_two_pow_add_gt hi s]
def worse (l : List Int) : Option (List Int) → Bool
 | none => false
 | some b => decide (b.length < l.length ∨ l.length = b.length ∧ ¬ cmpL l b < 0)
def bestK (p : List Int → Bool) (n : Nat) : Nat → Option (List Int)
 | 0 => none
 | k + 1 => if worse (bitK k n) (bestK p n k) = true then bestK p n k else if p (bitK k n) = true then some (bitK k n) else bestK p n k
theorem bestK_spec {p : List Int → Bool} {n : Nat} : ∀ k, (bestK p n k = none → ∀ s, s < k → p (bitK s n) = false) ∧ ∀ b, bestK p n k = some b → (∃ s, s < k ∧ bitK s n = b) ∧ p b = true ∧ ∀ s, s < k → p (bitK s n) = true → b.length < (bitK s n).length ∨ (bitK s n).length = b.length ∧ ¬ cmpL (bitK s n) b < 0
 | 0 => ⟨fun _ s hs => by omega, fun b h => by simp [bestK] at h⟩
 | k + 1 => by
   obtain ⟨h1, h2⟩ := bestK_spec (p := p) (n := n) k
   simp only [bestK]
   generalize hB : bestK p n k = B at *
   generalize hl : bitK k n = l at *
   have hs1 : ∀ s, s < k + 1 → s < k ∨ s = k := fun s hs => by omega
   cases B with
   | none =>
     simp only [worse, Bool.false_eq_true, if_false]
     have h1 := h1 rfl
     by_cases hp : p l = true
     ·rw [if_pos hp]
      refine ⟨fun h => (by cases h), fun b hb => ?_⟩
      cases hb
      refine ⟨⟨k, by omega, hl⟩, hp, fun s hs hps => ?_⟩
      rcases hs1 s hs with h | rfl
      ·rw [h1 s h] at hps; cases hps
      ·rw [hl]; exact .inr ⟨rfl, by rw [cmpL_eq.2 rfl]; omega⟩
     ·rw [if_neg hp]
      refine ⟨fun _ s hs => ?_, fun b hb => by cases hb⟩
      rcases hs1 s hs with h | rfl
      ·exact h1 s h
      ·rw [hl]; simpa using hp
   | some b0 =>
     obtain ⟨⟨s0, a1, a2⟩, a3, a4⟩ := h2 b0 rfl
     simp only [worse, decide_eq_true_eq]
     by_cases hw : b0.length < l.length ∨ l.length = b0.length ∧ ¬ cmpL l b0 < 0
     ·rw [if_pos hw]
      refine ⟨fun h => (by cases h), fun b hb => ?_⟩
      cases hb
      refine ⟨⟨s0, by omega, a2⟩, a3, fun s hs hps => ?_⟩
      rcases hs1 s hs with h | rfl
      ·exact a4 s h hps
      ·rw [hl]; exact hw
     ·rw [if_neg hw]
      by_cases hp : p l = true
      ·rw [if_pos hp]
       refine ⟨fun h => (by cases h), fun b hb => ?_⟩
       cases hb
       refine ⟨⟨k, by omega, hl⟩, hp, fun s hs hps => ?_⟩
       rcases hs1 s hs with h | rfl
       ·have h3 := a4 s h hps
        have h4 : l.length < b0.length ∨ (l.length = b0.length ∧ cmpL l b0 < 0) := by omega
        rcases h4 with h4 | ⟨h4, h5⟩
        ·left; omega
        ·rcases h3 with h3 | ⟨h3, h6⟩
         ·left; omega
         ·right
          refine ⟨by omega, fun h7 => h6 (cmpL_tr h7 h5)⟩
       ·rw [hl]; exact .inr ⟨rfl, by rw [cmpL_eq.2 rfl]; omega⟩
      ·rw [if_neg hp]
       refine ⟨fun h => (by cases h), fun b hb => ?_⟩
       cases hb
       refine ⟨⟨s0, by omega, a2⟩, a3, fun s hs hps => ?_⟩
       rcases hs1 s hs with h | rfl
       ·exact a4 s h hps
       ·rw [hl] at hps; exact absurd hps hp
theorem best_least {p : List Int → Bool} {n : Nat} {l : List Int} (hl : LeastS p n l) : bestK p n (2 ^ n) = some l := by
 obtain ⟨h1, h2⟩ := bestK_spec (p := p) (n := n) (2 ^ n)
 cases hB : bestK p n (2 ^ n) with
 | none =>
   obtain ⟨s, hs, e⟩ := bitK_onto hl.rise
   have := h1 hB s hs
   rw [e, hl.yes] at this; cases this
 | some b =>
   obtain ⟨⟨s0, a1, a2⟩, a3, a4⟩ := h2 b hB
   congr 1
   have hb : LeastS p n b := by
    refine ⟨a2 ▸ bitK_rise n, a3, fun c hc hlt => ?_, fun c hc he hp => ?_⟩
    ·obtain ⟨s, hs, e⟩ := bitK_onto hc
     cases hpc : p c with
     | false => rfl
     | true =>
       have := a4 s hs (by rw [e]; exact hpc)
       rw [e] at this; omega
    ·obtain ⟨s, hs, e⟩ := bitK_onto hc
     have := a4 s hs (by rw [e]; exact hp)
     rw [e] at this
     rcases this with h | ⟨_, h⟩
     ·omega
     ·exact h
   exact hb.uniq hl
end Go.Am
namespace Go.Am
open Go.RowKit Go.Proofs
attribute [local irreducible] AWP zO Kt goK CallK zT zS SemF SemY Imp
set_option maxRecDepth 4000
set_option linter.unusedSimpArgs false
set_option linter.unusedVariables false
set_option maxHeartbeats 1600000
def outC : Option (List Int) → AV
 | none => .nils
 | some l => .psl false l.length (zM l)
def chB (t : Ann) (o : Option (List Int)) (b : Nat) : List (Option ABlk) :=
 [some (.cells 35 1 0 (zJ t)), some (.cells 59 1 0 [outC o]), some (.cells 126 1 0 [.fn (.func 78) [] [.ptr b 0 0, .ptr (b + 1) 0 0, .ptr (b + 2) 0 0]])]
theorem outC_cases (o : Option (List Int)) : outC o = .nils ∨ ∃ l : List Int, outC o = .psl false l.length (zM l) := by
 cases o with
 | none => exact .inl rfl
 | some l => exact .inr ⟨l, rfl⟩
section
variable {o : Option (List Int)}
theorem oc_live {p : Nat → Bool} : live2 p (outC o) = true := by cases o <;> rfl
theorem oc_ren {σ : Nat → Nat} : ren σ (outC o) = outC o := by cases o <;> simp [outC, ren]
theorem oc_refs {p : Nat → Prop} : refs p (outC o) = True := by cases o <;> simp [outC, refs]
attribute [go_sem] oc_live oc_ren oc_refs
end
theorem choose_leaf (t : Ann) (ht : AnnOK t) (L : List Int) (a : Int) (o : Option (List Int)) (g : Nat) (h0 : 0 < L.length) (hL : L.length ≤ 100) :
 SemF Try.prog 78 [.osl 0 g 0 L.length, .int .i64 a, .int .i64 0, .ptr 1 0 0, .ptr 2 0 0, .ptr 3 0 0] (some (.cells 3 1 g (zM L)) :: chB t o 1) (.bool (pW t L)) (some (.cells 3 1 g (zM L)) :: chB t (some L) 1) := by
 have hk : annOK t := ⟨by have := ht.reports; omega, by have := ht.claims; omega⟩
 have hw := without_o t L g L.length hk rfl (by omega)
 have hf := find_c (withA t L) (withA_good ht)
 have hcl := clone_o L g L.length rfl h0 (by omega)
 unfold pW
 generalize fnV (withA t L) = V at *
 generalize withA t L = W at *
 obtain ⟨b, S, D⟩ := V
 have e3 : chC (true, S, D) = [.psl false S.length (zM S), .psl false D.length (zM D)] := rfl
 have e4 : chC (false, S, D) = [.nils, .nils] := rfl
 generalize hoc : outC o = oc at *
 have hoc2 := outC_cases o
 rw [hoc] at hoc2
 simp only [chB, hoc, outC]
 clear hoc
 rcases hoc2 with rfl | ⟨ol, rfl⟩
 all_goals cases b
 all_goals
  simp only [zJ, slR, slC, e3, e4] at hf hw ⊢
  (refine zK (ys := [.bool _]) (fun w args => Try.call78 ..) Try.func78 rfl (fun w0 m0 wz => ?_); simp only [Try.ntmps78, Try.results78, zP, zR, zV, zW, slR, slC, zJ, sl, List.toList_toArray, List.cons_append, List.nil_append, List.length_cons, List.length_nil, Nat.reduceAdd, Nat.reduceSub])
  (repeat' (first
 | (refine zN 2 rfl ?_; simp (maxSteps := 4000000) only [go_sem, seval, List.take_succ_cons, List.take_zero]; (repeat refine And.intro (by omega) ?_); refine own_go (hw) [0] rfl ?_ ?_ rfl ?_ <;> try simp (maxSteps := 4000000) only [go_sem, seval, Nat.lt_irrefl] <;> try decide)
 | (refine zN 1 rfl ?_; simp (maxSteps := 4000000) only [go_sem, seval, List.take_succ_cons, List.take_zero]; (repeat refine And.intro (by omega) ?_); refine own_go (hcl) [0] rfl ?_ ?_ rfl ?_ <;> try simp (maxSteps := 4000000) only [go_sem, seval, Nat.lt_irrefl] <;> try decide)
 | refine zC ?_
 | refine kt ?_
 | refine And.intro ?_ ?_
 | ((first | refine awp_stp rfl ?_ | refine awp_draw (by kernel_rfl) (by kernel_rfl) ?_ | refine Imp.le2 ?_ | refine callK_of (hf) ?_ | refine go_split (fun _h => ?_) (fun _h => ?_)) <;> try simp (maxSteps := 4000000) only [go_sem, seval])
 | intro _h
 | refine zA ?_
 | refine zB ?_
 | refine zF ?_ ?_
 | (show zE _ _ = true; kernel_rfl)
 | (show zD _ _ = true; kernel_rfl)
 | (omega)))
  all_goals trace_state
end Go.Am
namespace Go.Am
open Go.RowKit Go.Proofs
attribute [local irreducible] AWP zO Kt goK CallK zT zS SemF SemY Imp
set_option maxRecDepth 4000
set_option linter.unusedSimpArgs false
set_option linter.unusedVariables false
set_option maxHeartbeats 3200000
theorem choose_c (t : Ann) (ht : AnnOK t) : ∀ (m : Nat) (L : List Int) (a : Nat) (o : Option (List Int)) (g : Nat), 0 < L.length → L.length + m ≤ 100 → a ≤ nStN t →
 SemF Try.prog 78 [.osl 0 g 0 L.length, .int .i64 a, .int .i64 m, .ptr 1 0 0, .ptr 2 0 0, .ptr 3 0 0] (some (.cells 3 1 g (zM L)) :: chB t o 1) (.bool (chS (pW t) (nStN t) m L a o).1) (some (.cells 3 1 g (zM L)) :: chB t (chS (pW t) (nStN t) m L a o).2 1) := by
 intro m
 induction m with
 | zero => intro L a o g h0 hL ha; exact choose_leaf t ht L a o g h0 (by omega)
 | succ m ih =>
   intro L a o g h0 hL ha
   have hk : annOK t := ⟨by have := ht.reports; omega, by have := ht.claims; omega⟩
   have hst := stats_c t hk
   have hN : nStN t ≤ 100 := by unfold nStN; have := ht.reports; have := ht.claims; omega
   have hNe : (t.reports.length : Int) + t.claims.length = (nStN t : Int) := by unfold nStN; push_cast; rfl
   rw [hNe] at hst
   have hil : (zM L).length = L.length := ints_length
   have ht1 : (zM L).take (L.length * 1) = zM L := by rw [Nat.mul_one, ← hil, List.take_length]
   have hts : ∀ v : Int, (zM L).take (L.length * 1) ++ [AV.int .i64 v] = zM (L ++ [v]) := fun v => by rw [ht1, ints_append]; rfl
   have htk : ∀ v : Int, (zM (L ++ [v])).take L.length = zM L := fun v => by rw [ints_append, ← hil, List.take_left']; rfl
   simp only [chS]
   generalize hf : (fun (n : Nat) (o : Option (List Int)) => chS (pW t) (nStN t) m (L ++ [(n : Int)]) (n + 1) o) = f at *
   have hih : ∀ (n : Nat) (o : Option (List Int)) (g : Nat), n < nStN t → SemF Try.prog 78 [.osl 0 g 0 (L.length + 1), .int .i64 ((n : Int) + 1), .int .i64 m, .ptr 1 0 0, .ptr 2 0 0, .ptr 3 0 0] (some (.cells 3 1 g (zM (L ++ [(n : Int)]))) :: chB t o 1) (.bool (f n o).1) (some (.cells 3 1 g (zM (L ++ [(n : Int)]))) :: chB t (f n o).2 1) := fun n o g hn => by
    have h := ih (L ++ [(n : Int)]) (n + 1) o g (by simp) (by simp; omega) (by omega)
    subst hf
    simpa using h
   clear ih hf
   generalize nStN t = N at *
   obtain ⟨R, hR⟩ : ∃ R, tryS f (List.range' a (N - a)) o = R := ⟨_, rfl⟩
   rw [hR]
   generalize hkl : L.length = k at *
   rw [show ((m + 1 : Nat) : Int) = (m : Int) + 1 from rfl]
   simp only [chB, zJ, slR, slC] at hih hst ⊢
   (refine zK (ys := [.bool R.1]) (fun w args => Try.call78 ..) Try.func78 rfl (fun w0 m0 wz => ?_); simp only [Try.ntmps78, Try.results78, zP, zR, zV, zW, slR, slC, zJ, sl, List.toList_toArray, List.cons_append, List.nil_append, List.length_cons, List.length_nil, Nat.reduceAdd, Nat.reduceSub])
   refine awp_cap 0 (by simp) rfl rfl h0 ?_
   intro cap hc1 hc2
   simp only [lset]
   (repeat' (first
 | refine zC ?_
 | refine kt ?_
 | refine And.intro ?_ ?_
 | ((first | refine awp_stp rfl ?_ | refine awp_draw (by kernel_rfl) (by kernel_rfl) ?_ | refine Imp.le2 ?_ | refine go_split (fun _h => ?_) (fun _h => ?_)) <;> try simp (maxSteps := 4000000) only [go_sem, seval])
 | intro _h
 | refine zA ?_
 | refine zB ?_
 | refine zF ?_ ?_
 | (show zE _ _ = true; kernel_rfl)
 | (show zD _ _ = true; kernel_rfl)
 | (omega)))
   refine awp_loopJ (fun x : Nat × Option (List Int) => x.1 ≤ N ∧ tryS f (List.range' x.1 (N - x.1)) x.2 = R) (fun x => ⟨mkT 42 [(0, .oslc 0 g 0 k cap), (2, .int .i64 ((m : Int) + 1)), (3, .ptr 1 0 0), (4, .ptr 2 0 0), (5, .ptr 3 0 0), (12, .int .i64 x.1)], some (.cells 3 1 g (zM L)) :: chB t x.2 1, []⟩) (fun x => N - x.1) (a, o) ⟨ha, hR⟩ (.le2 ?_) ?_
   ·simp only [chB, zJ, slR, slC]; simp (maxSteps := 4000000) only [go_sem, seval]
    all_goals first | rfl | exact ⟨rfl, rfl⟩ | trace_state
   ·rintro ⟨n, o⟩ ⟨hn, hj⟩
    clear hR
    simp only at hn hj
    rcases Nat.lt_or_eq_of_le hn with hn1 | hn1
    ·have hin := hih n o
     obtain ⟨d, hd⟩ : ∃ d, N - n = d + 1 := ⟨N - n - 1, by omega⟩
     have hd2 : N - (n + 1) = d := by omega
     rw [hd, List.range'_succ, ← hd2] at hj
     simp only [tryS] at hj
     obtain ⟨⟨b, o2⟩, hfo⟩ : ∃ r, f n o = r := ⟨_, rfl⟩
     rw [hfo] at hj hin
     simp only at hj hin
     have hts1 := hts n
     have htk1 := htk n
     simp only [chB, zJ, slR, slC] at hin ⊢
     clear hfo
     have hfin : ∃ R2, R = (R2 : Bool × Option (List Int)) ∧ (b = true → R = (true, o2)) ∧ (b = false → tryS f (List.range' (n + 1) (N - (n + 1))) o2 = R) := by
      refine ⟨R, rfl, fun e => ?_, fun e => ?_⟩
      ·rw [if_pos e, e] at hj; exact hj.symm
      ·rw [if_neg (by rw [e]; simp)] at hj; exact hj
     obtain ⟨_, _, hbt, hbf⟩ := hfin
     clear hj
     by_cases hroom : k + 1 ≤ cap
     ·have hin0 := hin g hn1
      cases b
      all_goals
       try (have hR1 := hbt rfl; subst hR1)
       simp (maxSteps := 4000000) only [go_sem, seval]
       (repeat' (first
 | ((exfalso; omega))
 | refine zC ?_
 | refine kt ?_
 | refine And.intro ?_ ?_
 | ((first | refine awp_stp rfl ?_ | refine Imp.le2 ?_ | refine callK_of (hst) ?_ | refine go_split (fun _h => ?_) (fun _h => ?_)) <;> try simp (maxSteps := 4000000) only [go_sem, seval])
 | intro _h
 | refine zA ?_
 | refine zB ?_
 | refine zF ?_ ?_
 | (show zE _ _ = true; kernel_rfl)
 | (show zD _ _ = true; kernel_rfl)
 | (omega)))
       (repeat refine zC ?_)
       refine awp_drawsE [(4, some ⟨.osl 0 g 0 (k + 1), [0], some (0, .cells 3 1 g (zM (L ++ [(n : Int)])))⟩, []), (4, none, [2])] (by kernel_rfl) (by kernel_rfl) ?_
       simp (maxSteps := 4000000) only [go_sem, seval, se_own, se_op, se_nil, List.take_succ_cons, List.take_zero, List.drop_succ_cons, List.drop_zero]
       refine ⟨rfl, sound_appr (n := 1) (full := true) rfl tslice59 tsz3 (by omega) rfl rfl rfl rfl (by omega) (by omega) hroom hts1, ?_⟩
       simp only [hseto, hset]
       try simp (maxSteps := 4000000) only [go_sem, seval, se_own, se_op, se_nil, List.take_succ_cons, List.take_zero, List.drop_succ_cons, List.drop_zero]
       refine And.intro (by omega) (And.intro (by omega) ?_)
       rw [show (m : Int) + 1 - 1 = m by omega]
       (refine own_go (hin0) [0, 1, 2, 3] rfl (by simp (maxSteps := 4000000) only [go_sem, seval]) (by simp (maxSteps := 4000000) only [go_sem, seval, Nat.lt_irrefl] <;> decide) (by simp (maxSteps := 4000000) only [go_sem, seval]) ?_; simp (maxSteps := 4000000) only [go_sem, seval]; refine And.intro (frm_of (by repeat (first | exact rfl | exact ⟨_, rfl⟩ | refine And.intro ?_ ?_))) ?_; try simp (maxSteps := 4000000) only [go_sem, seval, sg_cons, sg_nil, List.take_succ_cons, List.take_zero, List.drop_succ_cons, List.drop_zero])
       try simp (maxSteps := 4000000) only [go_sem, seval, se_own, se_op, se_nil, List.take_succ_cons, List.take_zero, List.drop_succ_cons, List.drop_zero]
       refine And.intro (by kernel_rfl) ?_
       refine kt ?_
       refine awp_drop 0 k rfl ?_
       simp only [hset, htk1]
       (repeat' (first
 | ((exfalso; omega))
 | ((omega))
 | refine zC ?_
 | refine kt ?_
 | refine And.intro ?_ ?_
 | ((first | refine awp_stp rfl ?_ | refine Imp.le2 ?_ | refine go_split (fun _h => ?_) (fun _h => ?_)) <;> try simp (maxSteps := 4000000) only [go_sem, seval])
 | intro _h
 | refine zA ?_
 | refine zB ?_
 | refine zF ?_ ?_
 | (show zE _ _ = true; kernel_rfl)
 | (show zD _ _ = true; kernel_rfl)
 | (omega)))
       try (refine ⟨(n + 1, o2), ⟨by show n + 1 ≤ N; omega, hbf rfl⟩, by show N - (n + 1) < N - n; omega, .le2 ?_⟩; simp (maxSteps := 4000000) only [go_sem, seval])
       all_goals first | rfl | exact ⟨rfl, rfl⟩ | trace_state
     ·have hin0 := hin 0 hn1
      cases b
      all_goals
       try (have hR1 := hbt rfl; subst hR1)
       simp (maxSteps := 4000000) only [go_sem, seval]
       (repeat' (first
 | ((exfalso; omega))
 | refine zC ?_
 | refine kt ?_
 | refine And.intro ?_ ?_
 | ((first | refine awp_stp rfl ?_ | refine Imp.le2 ?_ | refine callK_of (hst) ?_ | refine go_split (fun _h => ?_) (fun _h => ?_)) <;> try simp (maxSteps := 4000000) only [go_sem, seval])
 | intro _h
 | refine zA ?_
 | refine zB ?_
 | refine zF ?_ ?_
 | (show zE _ _ = true; kernel_rfl)
 | (show zD _ _ = true; kernel_rfl)
 | (omega)))
       (repeat refine zC ?_)
       refine awp_drawsE [(4, some ⟨.osl 4 0 0 (k + 1), [0], some (4, .cells 3 1 0 (zM (L ++ [(n : Int)])))⟩, []), (4, none, [2])] (by kernel_rfl) (by kernel_rfl) ?_
       simp (maxSteps := 4000000) only [go_sem, seval, se_own, se_op, se_nil, List.take_succ_cons, List.take_zero, List.drop_succ_cons, List.drop_zero]
       refine ⟨rfl, sound_appf (n := 1) (full := true) rfl rfl tslice59 tsz3 tbytes3 tzero3 rfl (by omega) rfl rfl rfl rfl (by omega) (by omega) (by omega) (by omega) (by omega) hts1, ?_⟩
       simp only [hseto, hset]
       try simp (maxSteps := 4000000) only [go_sem, seval, se_own, se_op, se_nil, List.take_succ_cons, List.take_zero, List.drop_succ_cons, List.drop_zero]
       refine And.intro (by omega) (And.intro (by omega) ?_)
       rw [show (m : Int) + 1 - 1 = m by omega]
       (refine own_go (hin0) [4, 1, 2, 3] rfl (by simp (maxSteps := 4000000) only [go_sem, seval]) (by simp (maxSteps := 4000000) only [go_sem, seval, Nat.lt_irrefl] <;> decide) (by simp (maxSteps := 4000000) only [go_sem, seval]) ?_; simp (maxSteps := 4000000) only [go_sem, seval]; refine And.intro (frm_of (by repeat (first | exact rfl | exact ⟨_, rfl⟩ | refine And.intro ?_ ?_))) ?_; try simp (maxSteps := 4000000) only [go_sem, seval, sg_cons, sg_nil, List.take_succ_cons, List.take_zero, List.drop_succ_cons, List.drop_zero])
       try simp (maxSteps := 4000000) only [go_sem, seval, se_own, se_op, se_nil, List.take_succ_cons, List.take_zero, List.drop_succ_cons, List.drop_zero]
       refine And.intro (by kernel_rfl) ?_
       refine kt ?_
       (repeat' (first
 | ((exfalso; omega))
 | ((omega))
 | refine zC ?_
 | refine kt ?_
 | refine And.intro ?_ ?_
 | ((first | refine awp_stp rfl ?_ | refine Imp.le2 ?_ | refine go_split (fun _h => ?_) (fun _h => ?_)) <;> try simp (maxSteps := 4000000) only [go_sem, seval])
 | intro _h
 | refine zA ?_
 | refine zB ?_
 | refine zF ?_ ?_
 | (show zE _ _ = true; kernel_rfl)
 | (show zD _ _ = true; kernel_rfl)
 | (omega)))
       try (refine ⟨(n + 1, o2), ⟨by show n + 1 ≤ N; omega, hbf rfl⟩, by show N - (n + 1) < N - n; omega, .le2 ?_⟩; simp (maxSteps := 4000000) only [go_sem, seval])
       all_goals first | rfl | exact ⟨rfl, rfl⟩ | trace_state
    ·subst hn1
     rw [Nat.sub_self] at hj
     simp only [List.range'_zero, tryS] at hj
     subst hj
     simp only [chB, zJ, slR, slC]; simp (maxSteps := 4000000) only [go_sem, seval]
     (repeat' (first
 | ((exfalso; omega))
 | ((omega))
 | refine zC ?_
 | refine kt ?_
 | refine And.intro ?_ ?_
 | ((first | refine awp_stp rfl ?_ | refine awp_draw (by kernel_rfl) (by kernel_rfl) ?_ | refine Imp.le2 ?_ | refine callK_of (hst) ?_ | refine go_split (fun _h => ?_) (fun _h => ?_)) <;> try simp (maxSteps := 4000000) only [go_sem, seval])
 | intro _h
 | refine zA ?_
 | refine zB ?_
 | refine zF ?_ ?_
 | (show zE _ _ = true; kernel_rfl)
 | (show zD _ _ = true; kernel_rfl)
 | (omega)))
     all_goals first | rfl | exact ⟨rfl, rfl⟩ | trace_state
end Go.Am
namespace Go.Am
open Go.RowKit Go.Proofs
attribute [local irreducible] AWP zO Kt goK CallK zT zS SemF SemY Imp
set_option maxRecDepth 4000
set_option linter.unusedSimpArgs false
set_option linter.unusedVariables false
set_option maxHeartbeats 3200000
theorem choose_n (t : Ann) (ht : AnnOK t) (m : Nat) (hm : m ≤ 99) (o : Option (List Int)) :
 SemF Try.prog 78 [.nils, .int .i64 0, .int .i64 ((m : Int) + 1), .ptr 0 0 0, .ptr 1 0 0, .ptr 2 0 0] (chB t o 0) (.bool (chS (pW t) (nStN t) (m + 1) [] 0 o).1) (chB t (chS (pW t) (nStN t) (m + 1) [] 0 o).2 0) := by
 have hk : annOK t := ⟨by have := ht.reports; omega, by have := ht.claims; omega⟩
 have hst := stats_c t hk
 have hN : nStN t ≤ 100 := by unfold nStN; have := ht.reports; have := ht.claims; omega
 have hNe : (t.reports.length : Int) + t.claims.length = (nStN t : Int) := by unfold nStN; push_cast; rfl
 rw [hNe] at hst
 simp only [chS]
 generalize hf : (fun (n : Nat) (o : Option (List Int)) => chS (pW t) (nStN t) m ([] ++ [(n : Int)]) (n + 1) o) = f at *
 have hih : ∀ (n : Nat) (o : Option (List Int)), n < nStN t → SemF Try.prog 78 [.osl 0 0 0 1, .int .i64 ((n : Int) + 1), .int .i64 m, .ptr 1 0 0, .ptr 2 0 0, .ptr 3 0 0] (some (.cells 3 1 0 [.int .i64 n]) :: chB t o 1) (.bool (f n o).1) (some (.cells 3 1 0 [.int .i64 n]) :: chB t (f n o).2 1) := fun n o hn => by
  have h := choose_c t ht m [(n : Int)] (n + 1) o 0 (by simp) (by simp; omega) (by omega)
  subst hf
  have e : zM [(n : Int)] = [.int .i64 n] := rfl
  rw [e] at h
  simpa using h
 clear hf
 generalize nStN t = N at *
 obtain ⟨R, hR⟩ : ∃ R, tryS f (List.range' 0 (N - 0)) o = R := ⟨_, rfl⟩
 rw [hR]
 simp only [chB, zJ, slR, slC] at hih hst ⊢
 (refine zK (ys := [.bool R.1]) (fun w args => Try.call78 ..) Try.func78 rfl (fun w0 m0 wz => ?_); simp only [Try.ntmps78, Try.results78, zP, zR, zV, zW, slR, slC, zJ, sl, List.toList_toArray, List.cons_append, List.nil_append, List.length_cons, List.length_nil, Nat.reduceAdd, Nat.reduceSub])
 (repeat' (first
 | refine zC ?_
 | refine kt ?_
 | refine And.intro ?_ ?_
 | ((first | refine awp_stp rfl ?_ | refine awp_draw (by kernel_rfl) (by kernel_rfl) ?_ | refine Imp.le2 ?_ | refine go_split (fun _h => ?_) (fun _h => ?_)) <;> try simp (maxSteps := 4000000) only [go_sem, seval])
 | intro _h
 | refine zA ?_
 | refine zB ?_
 | refine zF ?_ ?_
 | (show zE _ _ = true; kernel_rfl)
 | (show zD _ _ = true; kernel_rfl)
 | (omega)))
 refine awp_loopJ (fun x : Nat × Option (List Int) => x.1 ≤ N ∧ tryS f (List.range' x.1 (N - x.1)) x.2 = R) (fun x => ⟨mkT 42 [(0, .nils), (2, .int .i64 ((m : Int) + 1)), (3, .ptr 0 0 0), (4, .ptr 1 0 0), (5, .ptr 2 0 0), (12, .int .i64 x.1)], chB t x.2 0, []⟩) (fun x => N - x.1) (0, o) ⟨by omega, hR⟩ (.le2 ?_) ?_
 ·simp only [chB, zJ, slR, slC]; simp (maxSteps := 4000000) only [go_sem, seval]
  all_goals first | rfl | exact ⟨rfl, rfl⟩ | trace_state
 ·rintro ⟨n, o⟩ ⟨hn, hj⟩
  clear hR
  simp only at hn hj
  rcases Nat.lt_or_eq_of_le hn with hn1 | hn1
  ·have hin := hih n o hn1
   obtain ⟨d, hd⟩ : ∃ d, N - n = d + 1 := ⟨N - n - 1, by omega⟩
   have hd2 : N - (n + 1) = d := by omega
   rw [hd, List.range'_succ, ← hd2] at hj
   simp only [tryS] at hj
   obtain ⟨⟨b, o2⟩, hfo⟩ : ∃ r, f n o = r := ⟨_, rfl⟩
   rw [hfo] at hj hin
   simp only at hj hin
   simp only [chB, zJ, slR, slC] at hin ⊢
   clear hfo
   have hfin : (b = true → R = (true, o2)) ∧ (b = false → tryS f (List.range' (n + 1) (N - (n + 1))) o2 = R) := by
    refine ⟨fun e => ?_, fun e => ?_⟩
    ·rw [if_pos e, e] at hj; exact hj.symm
    ·rw [if_neg (by rw [e]; simp)] at hj; exact hj
   obtain ⟨hbt, hbf⟩ := hfin
   clear hj
   cases b
   all_goals
    try (have hR1 := hbt rfl; subst hR1)
    simp (maxSteps := 4000000) only [go_sem, seval]
    (repeat' (first
 | ((exfalso; omega))
 | refine zC ?_
 | refine kt ?_
 | refine And.intro ?_ ?_
 | ((first | refine awp_stp rfl ?_ | refine Imp.le2 ?_ | refine callK_of (hst) ?_ | refine go_split (fun _h => ?_) (fun _h => ?_)) <;> try simp (maxSteps := 4000000) only [go_sem, seval])
 | intro _h
 | refine zA ?_
 | refine zB ?_
 | refine zF ?_ ?_
 | (show zE _ _ = true; kernel_rfl)
 | (show zD _ _ = true; kernel_rfl)
 | (omega)))
    ((repeat refine zC ?_); refine awp_draws [(9, [1])] (by kernel_rfl) (by kernel_rfl) ?_; simp (maxSteps := 4000000) only [go_sem, seval, sg_cons, sg_nil, List.take_succ_cons, List.take_zero, List.drop_succ_cons, List.drop_zero])
    refine And.intro (by omega) (And.intro (by omega) ?_)
    rw [show (m : Int) + 1 - 1 = m by omega]
    (refine own_go (hin) [3, 0, 1, 2] rfl (by simp (maxSteps := 4000000) only [go_sem, seval]) (by simp (maxSteps := 4000000) only [go_sem, seval, Nat.lt_irrefl] <;> decide) (by simp (maxSteps := 4000000) only [go_sem, seval]) ?_; simp (maxSteps := 4000000) only [go_sem, seval]; refine And.intro (frm_of (by repeat (first | exact rfl | exact ⟨_, rfl⟩ | refine And.intro ?_ ?_))) ?_; try simp (maxSteps := 4000000) only [go_sem, seval, sg_cons, sg_nil, List.take_succ_cons, List.take_zero, List.drop_succ_cons, List.drop_zero])
    try simp (maxSteps := 4000000) only [go_sem, seval, se_own, se_op, se_nil, List.take_succ_cons, List.take_zero, List.drop_succ_cons, List.drop_zero]
    refine And.intro (by kernel_rfl) ?_
    refine kt ?_
    (repeat' (first
 | ((exfalso; omega))
 | ((omega))
 | refine zC ?_
 | refine kt ?_
 | refine And.intro ?_ ?_
 | ((first | refine awp_stp rfl ?_ | refine Imp.le2 ?_ | refine go_split (fun _h => ?_) (fun _h => ?_)) <;> try simp (maxSteps := 4000000) only [go_sem, seval])
 | intro _h
 | refine zA ?_
 | refine zB ?_
 | refine zF ?_ ?_
 | (show zE _ _ = true; kernel_rfl)
 | (show zD _ _ = true; kernel_rfl)
 | (omega)))
    try (refine ⟨(n + 1, o2), ⟨by show n + 1 ≤ N; omega, hbf rfl⟩, by show N - (n + 1) < N - n; omega, .le2 ?_⟩; simp (maxSteps := 4000000) only [go_sem, seval])
    all_goals first | rfl | exact ⟨rfl, rfl⟩ | trace_state
  ·subst hn1
   rw [Nat.sub_self] at hj
   simp only [List.range'_zero, tryS] at hj
   subst hj
   simp only [chB, zJ, slR, slC]; simp (maxSteps := 4000000) only [go_sem, seval]
   (repeat' (first
 | ((exfalso; omega))
 | ((omega))
 | refine zC ?_
 | refine kt ?_
 | refine And.intro ?_ ?_
 | ((first | refine awp_stp rfl ?_ | refine awp_draw (by kernel_rfl) (by kernel_rfl) ?_ | refine Imp.le2 ?_ | refine callK_of (hst) ?_ | refine go_split (fun _h => ?_) (fun _h => ?_)) <;> try simp (maxSteps := 4000000) only [go_sem, seval])
 | intro _h
 | refine zA ?_
 | refine zB ?_
 | refine zF ?_ ?_
 | (show zE _ _ = true; kernel_rfl)
 | (show zD _ _ = true; kernel_rfl)
 | (omega)))
   all_goals first | rfl | exact ⟨rfl, rfl⟩ | trace_state
end Go.Am
namespace Go.Am
open Go.RowKit Go.Proofs
attribute [local irreducible] AWP zO Kt goK CallK zT zS SemF SemY Imp
set_option maxRecDepth 4000
set_option linter.unusedSimpArgs false
set_option linter.unusedVariables false
set_option maxHeartbeats 3200000
def wrE (t : Ann) : Int := if faultA t = 0 then (if (fnV t).1 = true then 7 else if 12 < nStN t then 3 else 0) else faultA t
theorem Wrong_err (t : Ann) (hb : annOK t) (ht : faultA t = 0 → AnnOK t) (he : wrE t ≠ 0) : zO Try.prog 47 [.agg (zJ t)] (.tup [.nils, .int .i64 (wrE t)]) := by
 have hch := check_c t hb
 have hst := stats_c t hb
 have hNe : (t.reports.length : Int) + t.claims.length = (nStN t : Int) := by unfold nStN; push_cast; rfl
 rw [hNe] at hst
 unfold wrE at he ⊢
 by_cases h0 : faultA t = 0
 ·have ht := ht h0
  have hf := find_c t ht
  rw [if_pos h0] at he ⊢
  rw [h0] at hch
  generalize nStN t = N at *
  generalize fnV t = V at *
  obtain ⟨b, S, D⟩ := V
  have e3 : chC (true, S, D) = [.psl false S.length (zM S), .psl false D.length (zM D)] := rfl
  have e4 : chC (false, S, D) = [.nils, .nils] := rfl
  cases b with
  | true =>
    simp only [if_true] at he ⊢
    simp only [zJ, slR, slC, e3, e4] at hf hch hst ⊢
    (refine zG (fun w args => Try.call47 ..) Try.func47 rfl (fun w0 m0 wz => ?_); simp only [Try.ntmps47, Try.results47, zP, zR, zV, zW, slR, slC, zJ, sl, List.toList_toArray, List.cons_append, List.nil_append, List.length_cons, List.length_nil, Nat.reduceAdd, Nat.reduceSub])
    (repeat' (first
 | refine zC ?_
 | refine kt ?_
 | refine And.intro ?_ ?_
 | ((first | refine awp_stp rfl ?_ | refine awp_draw (by kernel_rfl) (by kernel_rfl) ?_ | refine Imp.le2 ?_ | refine callK_of (hch) ?_ | refine callK_of (hf) ?_ | refine go_split (fun _h => ?_) (fun _h => ?_)) <;> try simp (maxSteps := 4000000) only [go_sem, seval])
 | intro _h
 | refine zA ?_
 | refine zB ?_
 | refine zF ?_ ?_
 | (show zE _ _ = true; kernel_rfl)
 | (show zD _ _ = true; kernel_rfl)
 | (omega)))
    all_goals first | (exfalso; simp at _h; done) | trace_state
  | false =>
    simp only [Bool.false_eq_true, if_false] at he ⊢
    have hN : 12 < N := by
     apply Classical.byContradiction
     intro h; rw [if_neg h] at he; exact he rfl
    rw [if_pos hN]
    simp only [zJ, slR, slC, e3, e4] at hf hch hst ⊢
    (refine zG (fun w args => Try.call47 ..) Try.func47 rfl (fun w0 m0 wz => ?_); simp only [Try.ntmps47, Try.results47, zP, zR, zV, zW, slR, slC, zJ, sl, List.toList_toArray, List.cons_append, List.nil_append, List.length_cons, List.length_nil, Nat.reduceAdd, Nat.reduceSub])
    (repeat' (first
 | ((exfalso; omega))
 | refine zC ?_
 | refine kt ?_
 | refine And.intro ?_ ?_
 | ((first | refine awp_stp rfl ?_ | refine awp_draw (by kernel_rfl) (by kernel_rfl) ?_ | refine Imp.le2 ?_ | refine callK_of (hch) ?_ | refine callK_of (hf) ?_ | refine callK_of (hst) ?_ | refine go_split (fun _h => ?_) (fun _h => ?_)) <;> try simp (maxSteps := 4000000) only [go_sem, seval])
 | intro _h
 | refine zA ?_
 | refine zB ?_
 | refine zF ?_ ?_
 | (show zE _ _ = true; kernel_rfl)
 | (show zD _ _ = true; kernel_rfl)
 | (omega)))
    all_goals first | (exfalso; simp at _h; done) | trace_state
 ·rw [if_neg h0] at he ⊢
  simp only [zJ, slR, slC] at hch ⊢
  (refine zG (fun w args => Try.call47 ..) Try.func47 rfl (fun w0 m0 wz => ?_); simp only [Try.ntmps47, Try.results47, zP, zR, zV, zW, slR, slC, zJ, sl, List.toList_toArray, List.cons_append, List.nil_append, List.length_cons, List.length_nil, Nat.reduceAdd, Nat.reduceSub])
  (repeat' (first
 | refine zC ?_
 | refine kt ?_
 | refine And.intro ?_ ?_
 | ((first | refine awp_stp rfl ?_ | refine awp_draw (by kernel_rfl) (by kernel_rfl) ?_ | refine Imp.le2 ?_ | refine callK_of (hch) ?_ | refine go_split (fun _h => ?_) (fun _h => ?_)) <;> try simp (maxSteps := 4000000) only [go_sem, seval])
 | intro _h
 | refine zA ?_
 | refine zB ?_
 | refine zF ?_ ?_
 | (show zE _ _ = true; kernel_rfl)
 | (show zD _ _ = true; kernel_rfl)
 | (omega)))
  all_goals first | (exfalso; simp at _h; omega) | (exfalso; simp at _h; done) | trace_state
theorem Wrong_ok (t : Ann) (ht : AnnOK t) (h0 : faultA t = 0) (hv : (fnV t).1 = false) (hn : nStN t ≤ 12) {K : Nat} {l : List Int} (h1 : 1 ≤ K) (h2 : K ≤ nStN t) (hK : hitS (pW t) (nStN t) K = true) (hk : ∀ k, 1 ≤ k → k < K → hitS (pW t) (nStN t) k = false) (hl : keepS (pW t) (nStN t) K = some l) :
 zO Try.prog 47 [.agg (zJ t)] (.tup [.psl false l.length (zM l), .int .i64 0]) := by
 have hb : annOK t := ⟨by have := ht.reports; omega, by have := ht.claims; omega⟩
 have hch := check_c t hb
 have hst := stats_c t hb
 have hf := find_c t ht
 have hNe : (t.reports.length : Int) + t.claims.length = (nStN t : Int) := by unfold nStN; push_cast; rfl
 rw [hNe] at hst
 have hcn := fun k (hk : k ≤ 99) o => choose_n t ht k hk o
 have hit : ∀ k, (chS (pW t) (nStN t) (k + 1) [] 0 (keepS (pW t) (nStN t) k)).1 = hitS (pW t) (nStN t) (k + 1) := fun k => rfl
 have kee : ∀ k, (chS (pW t) (nStN t) (k + 1) [] 0 (keepS (pW t) (nStN t) k)).2 = keepS (pW t) (nStN t) (k + 1) := fun k => rfl
 have k0 : keepS (pW t) (nStN t) 0 = none := rfl
 rw [h0] at hch
 generalize hitS (pW t) (nStN t) = HT at *
 have hcn2 := fun k (hk : k ≤ 99) => hcn k hk (keepS (pW t) (nStN t) k)
 simp only [hit, kee] at hcn2
 clear hcn hit kee
 generalize keepS (pW t) (nStN t) = KP at *
 generalize nStN t = N at *
 generalize fnV t = V at *
 obtain ⟨b, S, D⟩ := V
 simp only at hv
 subst hv
 have e4 : chC (false, S, D) = [.nils, .nils] := rfl
 have hlo : outC (some l) = .psl false l.length (zM l) := rfl
 simp only [zJ, slR, slC, e4, chB] at hf hch hst hcn2 ⊢
 (refine zG (fun w args => Try.call47 ..) Try.func47 rfl (fun w0 m0 wz => ?_); simp only [Try.ntmps47, Try.results47, zP, zR, zV, zW, slR, slC, zJ, sl, List.toList_toArray, List.cons_append, List.nil_append, List.length_cons, List.length_nil, Nat.reduceAdd, Nat.reduceSub])
 (repeat' (first
 | ((exfalso; omega))
 | refine zC ?_
 | refine kt ?_
 | refine And.intro ?_ ?_
 | ((first | refine awp_stp rfl ?_ | refine awp_draw (by kernel_rfl) (by kernel_rfl) ?_ | refine Imp.le2 ?_ | refine callK_of (hch) ?_ | refine callK_of (hf) ?_ | refine callK_of (hst) ?_ | refine go_split (fun _h => ?_) (fun _h => ?_)) <;> try simp (maxSteps := 4000000) only [go_sem, seval])
 | intro _h
 | refine zA ?_
 | refine zB ?_
 | refine zF ?_ ?_
 | (show zE _ _ = true; kernel_rfl)
 | (show zD _ _ = true; kernel_rfl)
 | (omega)))
 all_goals try (exfalso; simp at _h; done)
 refine awp_loopJ (fun x : Nat => x < K) (fun x => ⟨mkT 32 [(1, .ptr 0 0 0), (7, .ptr 2 0 0), (8, .ptr 3 0 0), (9, .int .i64 ((x : Int) + 1))], [some (.cells 35 1 0 (zJ t)), none, some (.cells 59 1 0 [outC (KP x)]), some (.cells 126 1 0 [.fn (.func 78) [] [.ptr 0 0 0, .ptr 2 0 0, .ptr 3 0 0]])], []⟩) (fun x => K - x) 0 (by omega) (.le2 ?_) ?_
 ·simp only [zJ, slR, slC, k0, outC]; simp (maxSteps := 4000000) only [go_sem, seval]
  all_goals first | rfl | exact ⟨rfl, rfl⟩ | trace_state
 ·intro x hx
  have hc := hcn2 x (by omega)
  by_cases hxK : x + 1 = K
  ·subst hxK
   rw [hK, hl, hlo] at hc
   simp only [zJ, slR, slC]; simp (maxSteps := 4000000) only [go_sem, seval]
   (repeat' (first
 | (refine zN 2 rfl ?_; simp (maxSteps := 4000000) only [go_sem, seval, List.take_succ_cons, List.take_zero]; (repeat refine And.intro (by omega) ?_); refine own_go (hc) [0, 2, 3] rfl ?_ ?_ rfl ?_ <;> try simp (maxSteps := 4000000) only [go_sem, seval, Nat.lt_irrefl] <;> try decide)
 | ((exfalso; omega))
 | refine zC ?_
 | refine kt ?_
 | refine And.intro ?_ ?_
 | ((first | refine awp_stp rfl ?_ | refine awp_draw (by kernel_rfl) (by kernel_rfl) ?_ | refine Imp.le2 ?_ | refine go_split (fun _h => ?_) (fun _h => ?_)) <;> try simp (maxSteps := 4000000) only [go_sem, seval])
 | intro _h
 | refine zA ?_
 | refine zB ?_
 | refine zF ?_ ?_
 | (show zE _ _ = true; kernel_rfl)
 | (show zD _ _ = true; kernel_rfl)
 | (omega)))
   all_goals trace_state
  ·have hk1 := hk (x + 1) (by omega) (by omega)
   rw [hk1] at hc
   simp only [zJ, slR, slC]; simp (maxSteps := 4000000) only [go_sem, seval]
   (repeat' (first
 | (refine zN 2 rfl ?_; simp (maxSteps := 4000000) only [go_sem, seval, List.take_succ_cons, List.take_zero]; (repeat refine And.intro (by omega) ?_); refine own_go (hc) [0, 2, 3] rfl ?_ ?_ rfl ?_ <;> try simp (maxSteps := 4000000) only [go_sem, seval, Nat.lt_irrefl] <;> try decide)
 | ((exfalso; omega))
 | ((omega))
 | refine zC ?_
 | refine kt ?_
 | refine And.intro ?_ ?_
 | ((first | refine awp_stp rfl ?_ | refine awp_draw (by kernel_rfl) (by kernel_rfl) ?_ | refine Imp.le2 ?_ | refine go_split (fun _h => ?_) (fun _h => ?_)) <;> try simp (maxSteps := 4000000) only [go_sem, seval])
 | intro _h
 | refine zA ?_
 | refine zB ?_
 | refine zF ?_ ?_
 | (show zE _ _ = true; kernel_rfl)
 | (show zD _ _ = true; kernel_rfl)
 | (omega)))
   refine ⟨x + 1, by omega, by omega, .le2 ?_⟩
   simp (maxSteps := 4000000) only [go_sem, seval]
   all_goals first | rfl | exact ⟨rfl, rfl⟩ | trace_state
end Go.Am
namespace Go.Am
open Go.RowKit Go.Proofs
attribute [local irreducible] AWP zO Kt goK CallK zT zS SemF SemY Imp
set_option maxRecDepth 4000
set_option linter.unusedSimpArgs false
set_option linter.unusedVariables false
set_option maxHeartbeats 3200000
theorem wr_u : ∀ n : Nat, n ≤ 7 → IntKind.u64.wrap (n : Int) = (n : Int) := by decide +kernel
theorem wr_sh : ∀ n : Nat, n ≤ 7 → IntKind.i64.wrap (1 * 2 ^ min n 64) = ((2 ^ n : Nat) : Int) := by decide +kernel
theorem bit_eq {s i : Nat} (h : i ≤ 7) : ((s : Int).fdiv (2 ^ min i 64)).tmod 2 = if s.testBit i = true then 1 else 0 := by
 have h0 : min i 64 = i := by omega
 rw [h0]
 have h1 : ((s : Int).fdiv (2 ^ i)) = ((s / 2 ^ i : Nat) : Int) := by
  rw [Int.fdiv_eq_ediv_of_nonneg _ (Int.le_of_lt (Int.pow_pos (by omega)))]
  push_cast; rfl
 rw [h1, Int.tmod_eq_emod_of_nonneg (Int.natCast_nonneg _)]
 have h2 : s.testBit i = decide (s / 2 ^ i % 2 = 1) := Nat.testBit_eq_decide_div_mod_eq
 rw [h2]
 simp only [decide_eq_true_eq]
 split <;> omega
theorem rwrong_c (t : Ann) (ht : AnnOK t) (hn : nStN t ≤ 7) : zO Try.prog 48 [.agg (zJ t)] (outC (bestK (pW t) (nStN t) (2 ^ nStN t))) := by
 have hk : annOK t := ⟨by have := ht.reports; omega, by have := ht.claims; omega⟩
 have hst := rstats_c t hk
 have hNe : (t.reports.length : Int) + t.claims.length = (nStN t : Int) := by unfold nStN; push_cast; rfl
 rw [hNe] at hst
 have hw := fun l (hl : l.length ≤ 100) => rwithout_c t l hk (by omega)
 have hr : ∀ l, ∃ n : Nat, ∃ xs, zO Try.prog 22 [.agg (zJ (withA t l)), .nils] (.psl false n xs) ∧ n ≤ 1000000 ∧ (0 < n ↔ pW t l = true) := fun l => by
  obtain ⟨r1, r2, r3⟩ := runs_p0 (withA_good (l := l) ht)
  refine ⟨_, _, r1, r2, ?_⟩
  have hg := withA_good (l := l) ht
  have h1 : pW t l = (fiV (withA t l)).1 := by unfold pW; rw [Bool.eq_iff_iff, fnV_spec hg, (fiV_spec hg).fd]
  rw [h1]
  cases hv : (fiV (withA t l)).1 with
  | true => simp only [iff_true]; have : ¬ (rsA (withA t l)).length = 0 := fun h => by rw [r3.1 h] at hv; cases hv
            omega
  | false => have := r3.2 hv; simp [this]
 generalize hN : nStN t = N at *
 generalize hP : pW t = p at *
 obtain ⟨R, hR⟩ : ∃ R, outC (bestK p N (2 ^ N)) = R := ⟨_, rfl⟩
 rw [hR]
 simp only [zJ, slR, slC] at hst ⊢
 (refine zG (fun w args => Try.call48 ..) Try.func48 rfl (fun w0 m0 wz => ?_); simp only [Try.ntmps48, Try.results48, zP, zR, zV, zW, slR, slC, zJ, sl, List.toList_toArray, List.cons_append, List.nil_append, List.length_cons, List.length_nil, Nat.reduceAdd, Nat.reduceSub])
 (repeat' (first
 | refine zC ?_
 | refine kt ?_
 | refine And.intro ?_ ?_
 | ((first | refine awp_stp rfl ?_ | refine awp_draw (by kernel_rfl) (by kernel_rfl) ?_ | refine Imp.le2 ?_ | refine callK_of (hst) ?_ | refine go_split (fun _h => ?_) (fun _h => ?_)) <;> try simp (maxSteps := 4000000) only [go_sem, seval])
 | intro _h
 | refine zA ?_
 | refine zB ?_
 | refine zF ?_ ?_
 | (show zE _ _ = true; kernel_rfl)
 | (show zD _ _ = true; kernel_rfl)
 | (omega)))
 refine zQ (2 ^ N) (fun k => ⟨mkT 62 [(1, .ptr 0 0 0), (3, .int .i64 N), (4, outC (bestK p N k)), (5, .bool (bestK p N k).isSome), (6, .int .i64 k)], [some (.cells 25 1 0 (zJ t))], []⟩) (.le2 ?_) ?_
 ·simp only [outC, bestK, zJ, slR, slC, Option.isSome]; simp (maxSteps := 4000000) only [go_sem, seval]
  all_goals first | rfl | exact ⟨rfl, rfl⟩ | trace_state
 ·intro k hk
  rcases Nat.lt_or_eq_of_le hk with hk1 | hk1
  ·have hku := wr_u N hn
   have hks := wr_sh N hn
   have hbk : bestK p N (k + 1) = if worse (bitK k N) (bestK p N k) = true then bestK p N k else if p (bitK k N) = true then some (bitK k N) else bestK p N k := rfl
   rw [hbk]
   clear hbk
   have hbl : ∀ b, bestK p N k = some b → b.length ≤ 7 := fun b hb => by
    obtain ⟨⟨s0, _, e⟩, _⟩ := (bestK_spec k).2 b hb
    have := bitK_le (s := s0) N
    rw [e] at this; omega
   have hll := bitK_le (s := k) N
   obtain ⟨B2, hB2⟩ : ∃ B2, (if worse (bitK k N) (bestK p N k) = true then bestK p N k else if p (bitK k N) = true then some (bitK k N) else bestK p N k) = B2 := ⟨_, rfl⟩
   rw [hB2]
   generalize bestK p N k = B at *
   have h128 : 2 ^ N ≤ 128 := Nat.le_trans (Nat.pow_le_pow_right (by omega) hn) (by decide)
   have hlt : (k : Int) < ((2 ^ N : Nat) : Int) := by omega
   rcases B with _ | b
   ·simp only [outC, Option.isSome, zJ, slR, slC]; simp (maxSteps := 4000000) only [go_sem, seval]
    (repeat' (first
 | ((exfalso; omega))
 | refine zC ?_
 | refine kt ?_
 | refine And.intro ?_ ?_
 | ((first | refine awp_stp rfl ?_ | refine Imp.le2 ?_ | refine go_split (fun _h => ?_) (fun _h => ?_)) <;> try simp (maxSteps := 4000000) only [go_sem, seval, hku, hks])
 | intro _h
 | refine zA ?_
 | refine zB ?_
 | refine zF ?_ ?_
 | (show zE _ _ = true; kernel_rfl)
 | (show zD _ _ = true; kernel_rfl)
 | (omega)))
    (refine awp_adT 7 3 1 rfl ?_; simp only [adT, lset, hset, List.length_cons, List.length_nil, Nat.reduceAdd])
    refine zQ N (fun i => ⟨mkT 62 [(1, .ptr 0 0 0), (3, .int .i64 N), (4, .nils), (5, .bool false), (6, .int .i64 k), (7, .osl 1 (bitK k i).length 0 (bitK k i).length), (8, .int .i64 i)], [some (.cells 25 1 0 (zJ t)), some (.cells 3 1 (bitK k i).length (zM (bitK k i)))], []⟩) (.le2 ?_) ?_
    ·simp only [zJ, slR, slC, bitK]; simp (maxSteps := 4000000) only [go_sem, seval]
     all_goals first | rfl | exact ⟨rfl, rfl⟩ | trace_state
    ·intro i hi
     rcases Nat.lt_or_eq_of_le hi with hi1 | hi1
     ·have hui := wr_u i (by omega)
      have hbe := bit_eq (s := k) (i := i) (by omega)
      have hle := bitK_le (s := k) i
      have hbs : bitK k (i + 1) = if k.testBit i = true then bitK k i ++ [(i : Int)] else bitK k i := rfl
      rw [hbs]
      clear hbs
      by_cases hbit : k.testBit i = true
      ·rw [if_pos hbit] at hbe ⊢
       have hap : zM (bitK k i) ++ [.int .i64 (i : Int)] = zM (bitK k i ++ [(i : Int)]) := by rw [ints_append]; rfl
       generalize bitK k i = G at *
       simp only [zJ, slR, slC, List.length_append, List.length_singleton]; simp (maxSteps := 4000000) only [go_sem, seval, List.length_append, List.length_singleton]
       (repeat' (first
 | ((exfalso; omega))
 | ((omega))
 | refine zC ?_
 | refine kt ?_
 | refine And.intro ?_ ?_
 | ((first | refine awp_stp rfl ?_ | refine awp_draw (by kernel_rfl) (by kernel_rfl) ?_ | refine Imp.le2 ?_ | refine go_split (fun _h => ?_) (fun _h => ?_)) <;> try simp (maxSteps := 4000000) only [go_sem, seval, hui, hbe, hap, List.length_append, List.length_singleton])
 | intro _h
 | refine zA ?_
 | refine zB ?_
 | refine zF ?_ ?_
 | (show zE _ _ = true; kernel_rfl)
 | (show zD _ _ = true; kernel_rfl)
 | (omega)))
       all_goals first | rfl | exact ⟨rfl, rfl⟩ | trace_state
      ·rw [if_neg hbit] at hbe ⊢
       generalize bitK k i = G at *
       simp only [zJ, slR, slC]; simp (maxSteps := 4000000) only [go_sem, seval]
       (repeat' (first
 | ((exfalso; omega))
 | ((omega))
 | refine zC ?_
 | refine kt ?_
 | refine And.intro ?_ ?_
 | ((first | refine awp_stp rfl ?_ | refine awp_draw (by kernel_rfl) (by kernel_rfl) ?_ | refine Imp.le2 ?_ | refine go_split (fun _h => ?_) (fun _h => ?_)) <;> try simp (maxSteps := 4000000) only [go_sem, seval, hui, hbe])
 | intro _h
 | refine zA ?_
 | refine zB ?_
 | refine zF ?_ ?_
 | (show zE _ _ = true; kernel_rfl)
 | (show zD _ _ = true; kernel_rfl)
 | (omega)))
       all_goals first | rfl | exact ⟨rfl, rfl⟩ | trace_state
     ·subst hi1
      clear hi
      obtain ⟨n, xs, hrl, hn1, hn2⟩ := hr (bitK k i)
      have hwl := hw (bitK k i) (by omega)
      generalize bitK k i = G at *
      simp only [zJ, slR, slC, sl] at hwl hrl ⊢
      generalize withA t G = W at *
      have hB3 : worse G none = false := rfl
      rw [hB3] at hB2
      simp only [Bool.false_eq_true, if_false] at hB2
      by_cases hp : p G = true
      ·rw [if_pos hp] at hB2
       have hn3 := hn2.2 hp
       subst hB2
       simp only [outC, Option.isSome]
       simp (maxSteps := 4000000) only [go_sem, seval]
       (repeat' (first
 | ((exfalso; omega))
 | (refine awp_frz (c := .region 13 _ _) 1 rfl (by simp (maxSteps := 4000000) only [go_sem, seval]) (fun _ => rfl) ?_; simp only [frz, fzl, fz2, fz1, fz0, fzH, fzHs, fzO, fzB, List.map_cons, List.map_nil, if_true, if_false, reduceIte, Nat.reduceEqDiff, Nat.reduceAdd, Nat.succ_ne_self, Nat.zero_ne_one, Nat.one_ne_zero, reduceCtorEq, and_self])
 | ((omega))
 | refine zC ?_
 | refine kt ?_
 | refine And.intro ?_ ?_
 | ((first | refine awp_stp rfl ?_ | refine Imp.le2 ?_ | refine callK_of (hwl) ?_ | refine callK_of (hrl) ?_ | refine go_split (fun _h => ?_) (fun _h => ?_)) <;> try simp (maxSteps := 4000000) only [go_sem, seval])
 | intro _h
 | refine zA ?_
 | refine zB ?_
 | refine zF ?_ ?_
 | (show zE _ _ = true; kernel_rfl)
 | (show zD _ _ = true; kernel_rfl)
 | (omega)))
       all_goals first | rfl | exact ⟨rfl, rfl⟩ | trace_state
      ·rw [if_neg hp] at hB2
       have hn3 : ¬ 0 < n := fun h => hp (hn2.1 h)
       subst hB2
       simp only [outC, Option.isSome]
       simp (maxSteps := 4000000) only [go_sem, seval]
       (repeat' (first
 | ((exfalso; omega))
 | (refine awp_frz (c := .region 13 _ _) 1 rfl (by simp (maxSteps := 4000000) only [go_sem, seval]) (fun _ => rfl) ?_; simp only [frz, fzl, fz2, fz1, fz0, fzH, fzHs, fzO, fzB, List.map_cons, List.map_nil, if_true, if_false, reduceIte, Nat.reduceEqDiff, Nat.reduceAdd, Nat.succ_ne_self, Nat.zero_ne_one, Nat.one_ne_zero, reduceCtorEq, and_self])
 | ((omega))
 | refine zC ?_
 | refine kt ?_
 | refine And.intro ?_ ?_
 | ((first | refine awp_stp rfl ?_ | refine Imp.le2 ?_ | refine callK_of (hwl) ?_ | refine callK_of (hrl) ?_ | refine go_split (fun _h => ?_) (fun _h => ?_)) <;> try simp (maxSteps := 4000000) only [go_sem, seval])
 | intro _h
 | refine zA ?_
 | refine zB ?_
 | refine zF ?_ ?_
 | (show zE _ _ = true; kernel_rfl)
 | (show zD _ _ = true; kernel_rfl)
 | (omega)))
       all_goals first | rfl | exact ⟨rfl, rfl⟩ | trace_state
   ·simp only [outC, Option.isSome, zJ, slR, slC]; simp (maxSteps := 4000000) only [go_sem, seval]
    (repeat' (first
 | ((exfalso; omega))
 | refine zC ?_
 | refine kt ?_
 | refine And.intro ?_ ?_
 | ((first | refine awp_stp rfl ?_ | refine Imp.le2 ?_ | refine go_split (fun _h => ?_) (fun _h => ?_)) <;> try simp (maxSteps := 4000000) only [go_sem, seval, hku, hks])
 | intro _h
 | refine zA ?_
 | refine zB ?_
 | refine zF ?_ ?_
 | (show zE _ _ = true; kernel_rfl)
 | (show zD _ _ = true; kernel_rfl)
 | (omega)))
    (refine awp_adT 7 3 1 rfl ?_; simp only [adT, lset, hset, List.length_cons, List.length_nil, Nat.reduceAdd])
    refine zQ N (fun i => ⟨mkT 62 [(1, .ptr 0 0 0), (3, .int .i64 N), (4, .psl false b.length (zM b)), (5, .bool true), (6, .int .i64 k), (7, .osl 1 (bitK k i).length 0 (bitK k i).length), (8, .int .i64 i)], [some (.cells 25 1 0 (zJ t)), some (.cells 3 1 (bitK k i).length (zM (bitK k i)))], []⟩) (.le2 ?_) ?_
    ·simp only [zJ, slR, slC, bitK]; simp (maxSteps := 4000000) only [go_sem, seval]
     all_goals first | rfl | exact ⟨rfl, rfl⟩ | trace_state
    ·intro i hi
     rcases Nat.lt_or_eq_of_le hi with hi1 | hi1
     ·have hui := wr_u i (by omega)
      have hbe := bit_eq (s := k) (i := i) (by omega)
      have hle := bitK_le (s := k) i
      have hbs : bitK k (i + 1) = if k.testBit i = true then bitK k i ++ [(i : Int)] else bitK k i := rfl
      rw [hbs]
      clear hbs
      by_cases hbit : k.testBit i = true
      ·rw [if_pos hbit] at hbe ⊢
       have hap : zM (bitK k i) ++ [.int .i64 (i : Int)] = zM (bitK k i ++ [(i : Int)]) := by rw [ints_append]; rfl
       generalize bitK k i = G at *
       simp only [zJ, slR, slC, List.length_append, List.length_singleton]; simp (maxSteps := 4000000) only [go_sem, seval, List.length_append, List.length_singleton]
       (repeat' (first
 | ((exfalso; omega))
 | ((omega))
 | refine zC ?_
 | refine kt ?_
 | refine And.intro ?_ ?_
 | ((first | refine awp_stp rfl ?_ | refine awp_draw (by kernel_rfl) (by kernel_rfl) ?_ | refine Imp.le2 ?_ | refine go_split (fun _h => ?_) (fun _h => ?_)) <;> try simp (maxSteps := 4000000) only [go_sem, seval, hui, hbe, hap, List.length_append, List.length_singleton])
 | intro _h
 | refine zA ?_
 | refine zB ?_
 | refine zF ?_ ?_
 | (show zE _ _ = true; kernel_rfl)
 | (show zD _ _ = true; kernel_rfl)
 | (omega)))
       all_goals first | rfl | exact ⟨rfl, rfl⟩ | trace_state
      ·rw [if_neg hbit] at hbe ⊢
       generalize bitK k i = G at *
       simp only [zJ, slR, slC]; simp (maxSteps := 4000000) only [go_sem, seval]
       (repeat' (first
 | ((exfalso; omega))
 | ((omega))
 | refine zC ?_
 | refine kt ?_
 | refine And.intro ?_ ?_
 | ((first | refine awp_stp rfl ?_ | refine awp_draw (by kernel_rfl) (by kernel_rfl) ?_ | refine Imp.le2 ?_ | refine go_split (fun _h => ?_) (fun _h => ?_)) <;> try simp (maxSteps := 4000000) only [go_sem, seval, hui, hbe])
 | intro _h
 | refine zA ?_
 | refine zB ?_
 | refine zF ?_ ?_
 | (show zE _ _ = true; kernel_rfl)
 | (show zD _ _ = true; kernel_rfl)
 | (omega)))
       all_goals first | rfl | exact ⟨rfl, rfl⟩ | trace_state
     ·subst hi1
      clear hi
      obtain ⟨n, xs, hrl, hn1, hn2⟩ := hr (bitK k i)
      have hwl := hw (bitK k i) (by omega)
      generalize bitK k i = G at *
      have hle := lessR_c G b (by omega) (by have := hbl b rfl; omega)
      simp only [zJ, slR, slC, sl] at hwl hrl hle ⊢
      generalize withA t G = W at *
      have hB3 : worse G (some b) = decide (b.length < G.length ∨ G.length = b.length ∧ ¬ ltL G b = true) := by
       unfold worse ltL; simp
      rw [hB3] at hB2
      clear hB3
      simp only [decide_eq_true_eq] at hB2
      generalize ltL G b = q at *
      cases q
      all_goals
       simp only [Bool.false_eq_true, not_false_eq_true, not_true_eq_false, and_true, and_false, or_false] at hB2
      ·by_cases hc : b.length < G.length ∨ G.length = b.length
       ·rw [if_pos hc] at hB2
        subst hB2
        simp only [outC, Option.isSome]
        simp (maxSteps := 4000000) only [go_sem, seval]
        (repeat' (first
 | ((exfalso; omega))
 | (refine awp_frz (c := .region 13 _ _) 1 rfl (by simp (maxSteps := 4000000) only [go_sem, seval]) (fun _ => rfl) ?_; simp only [frz, fzl, fz2, fz1, fz0, fzH, fzHs, fzO, fzB, List.map_cons, List.map_nil, if_true, if_false, reduceIte, Nat.reduceEqDiff, Nat.reduceAdd, Nat.succ_ne_self, Nat.zero_ne_one, Nat.one_ne_zero, reduceCtorEq, and_self])
 | ((omega))
 | refine zC ?_
 | refine kt ?_
 | refine And.intro ?_ ?_
 | ((first | refine awp_stp rfl ?_ | refine Imp.le2 ?_ | refine callK_of (hle) ?_ | refine callK_of (hwl) ?_ | refine callK_of (hrl) ?_ | refine go_split (fun _h => ?_) (fun _h => ?_)) <;> try simp (maxSteps := 4000000) only [go_sem, seval])
 | intro _h
 | refine zA ?_
 | refine zB ?_
 | refine zF ?_ ?_
 | (show zE _ _ = true; kernel_rfl)
 | (show zD _ _ = true; kernel_rfl)
 | (omega)))
        all_goals first | rfl | exact ⟨rfl, rfl⟩ | trace_state
       ·rw [if_neg hc] at hB2
        by_cases hp : p G = true
        ·rw [if_pos hp] at hB2
         have hn3 := hn2.2 hp
         subst hB2
         simp only [outC, Option.isSome]
         simp (maxSteps := 4000000) only [go_sem, seval]
         (repeat' (first
 | ((exfalso; omega))
 | (refine awp_frz (c := .region 13 _ _) 1 rfl (by simp (maxSteps := 4000000) only [go_sem, seval]) (fun _ => rfl) ?_; simp only [frz, fzl, fz2, fz1, fz0, fzH, fzHs, fzO, fzB, List.map_cons, List.map_nil, if_true, if_false, reduceIte, Nat.reduceEqDiff, Nat.reduceAdd, Nat.succ_ne_self, Nat.zero_ne_one, Nat.one_ne_zero, reduceCtorEq, and_self])
 | ((omega))
 | refine zC ?_
 | refine kt ?_
 | refine And.intro ?_ ?_
 | ((first | refine awp_stp rfl ?_ | refine Imp.le2 ?_ | refine callK_of (hle) ?_ | refine callK_of (hwl) ?_ | refine callK_of (hrl) ?_ | refine go_split (fun _h => ?_) (fun _h => ?_)) <;> try simp (maxSteps := 4000000) only [go_sem, seval])
 | intro _h
 | refine zA ?_
 | refine zB ?_
 | refine zF ?_ ?_
 | (show zE _ _ = true; kernel_rfl)
 | (show zD _ _ = true; kernel_rfl)
 | (omega)))
         all_goals first | rfl | exact ⟨rfl, rfl⟩ | trace_state
        ·rw [if_neg hp] at hB2
         have hn3 : ¬ 0 < n := fun h => hp (hn2.1 h)
         subst hB2
         simp only [outC, Option.isSome]
         simp (maxSteps := 4000000) only [go_sem, seval]
         (repeat' (first
 | ((exfalso; omega))
 | (refine awp_frz (c := .region 13 _ _) 1 rfl (by simp (maxSteps := 4000000) only [go_sem, seval]) (fun _ => rfl) ?_; simp only [frz, fzl, fz2, fz1, fz0, fzH, fzHs, fzO, fzB, List.map_cons, List.map_nil, if_true, if_false, reduceIte, Nat.reduceEqDiff, Nat.reduceAdd, Nat.succ_ne_self, Nat.zero_ne_one, Nat.one_ne_zero, reduceCtorEq, and_self])
 | ((omega))
 | refine zC ?_
 | refine kt ?_
 | refine And.intro ?_ ?_
 | ((first | refine awp_stp rfl ?_ | refine Imp.le2 ?_ | refine callK_of (hle) ?_ | refine callK_of (hwl) ?_ | refine callK_of (hrl) ?_ | refine go_split (fun _h => ?_) (fun _h => ?_)) <;> try simp (maxSteps := 4000000) only [go_sem, seval])
 | intro _h
 | refine zA ?_
 | refine zB ?_
 | refine zF ?_ ?_
 | (show zE _ _ = true; kernel_rfl)
 | (show zD _ _ = true; kernel_rfl)
 | (omega)))
         all_goals first | rfl | exact ⟨rfl, rfl⟩ | trace_state
      ·by_cases hc : b.length < G.length
       ·rw [if_pos hc] at hB2
        subst hB2
        simp only [outC, Option.isSome]
        simp (maxSteps := 4000000) only [go_sem, seval]
        (repeat' (first
 | ((exfalso; omega))
 | (refine awp_frz (c := .region 13 _ _) 1 rfl (by simp (maxSteps := 4000000) only [go_sem, seval]) (fun _ => rfl) ?_; simp only [frz, fzl, fz2, fz1, fz0, fzH, fzHs, fzO, fzB, List.map_cons, List.map_nil, if_true, if_false, reduceIte, Nat.reduceEqDiff, Nat.reduceAdd, Nat.succ_ne_self, Nat.zero_ne_one, Nat.one_ne_zero, reduceCtorEq, and_self])
 | ((omega))
 | refine zC ?_
 | refine kt ?_
 | refine And.intro ?_ ?_
 | ((first | refine awp_stp rfl ?_ | refine Imp.le2 ?_ | refine callK_of (hle) ?_ | refine callK_of (hwl) ?_ | refine callK_of (hrl) ?_ | refine go_split (fun _h => ?_) (fun _h => ?_)) <;> try simp (maxSteps := 4000000) only [go_sem, seval])
 | intro _h
 | refine zA ?_
 | refine zB ?_
 | refine zF ?_ ?_
 | (show zE _ _ = true; kernel_rfl)
 | (show zD _ _ = true; kernel_rfl)
 | (omega)))
        all_goals first | rfl | exact ⟨rfl, rfl⟩ | trace_state
       ·rw [if_neg hc] at hB2
        by_cases hp : p G = true
        ·rw [if_pos hp] at hB2
         have hn3 := hn2.2 hp
         subst hB2
         simp only [outC, Option.isSome]
         simp (maxSteps := 4000000) only [go_sem, seval]
         (repeat' (first
 | ((exfalso; omega))
 | (refine awp_frz (c := .region 13 _ _) 1 rfl (by simp (maxSteps := 4000000) only [go_sem, seval]) (fun _ => rfl) ?_; simp only [frz, fzl, fz2, fz1, fz0, fzH, fzHs, fzO, fzB, List.map_cons, List.map_nil, if_true, if_false, reduceIte, Nat.reduceEqDiff, Nat.reduceAdd, Nat.succ_ne_self, Nat.zero_ne_one, Nat.one_ne_zero, reduceCtorEq, and_self])
 | ((omega))
 | refine zC ?_
 | refine kt ?_
 | refine And.intro ?_ ?_
 | ((first | refine awp_stp rfl ?_ | refine Imp.le2 ?_ | refine callK_of (hle) ?_ | refine callK_of (hwl) ?_ | refine callK_of (hrl) ?_ | refine go_split (fun _h => ?_) (fun _h => ?_)) <;> try simp (maxSteps := 4000000) only [go_sem, seval])
 | intro _h
 | refine zA ?_
 | refine zB ?_
 | refine zF ?_ ?_
 | (show zE _ _ = true; kernel_rfl)
 | (show zD _ _ = true; kernel_rfl)
 | (omega)))
         all_goals first | rfl | exact ⟨rfl, rfl⟩ | trace_state
        ·rw [if_neg hp] at hB2
         have hn3 : ¬ 0 < n := fun h => hp (hn2.1 h)
         subst hB2
         simp only [outC, Option.isSome]
         simp (maxSteps := 4000000) only [go_sem, seval]
         (repeat' (first
 | ((exfalso; omega))
 | (refine awp_frz (c := .region 13 _ _) 1 rfl (by simp (maxSteps := 4000000) only [go_sem, seval]) (fun _ => rfl) ?_; simp only [frz, fzl, fz2, fz1, fz0, fzH, fzHs, fzO, fzB, List.map_cons, List.map_nil, if_true, if_false, reduceIte, Nat.reduceEqDiff, Nat.reduceAdd, Nat.succ_ne_self, Nat.zero_ne_one, Nat.one_ne_zero, reduceCtorEq, and_self])
 | ((omega))
 | refine zC ?_
 | refine kt ?_
 | refine And.intro ?_ ?_
 | ((first | refine awp_stp rfl ?_ | refine Imp.le2 ?_ | refine callK_of (hle) ?_ | refine callK_of (hwl) ?_ | refine callK_of (hrl) ?_ | refine go_split (fun _h => ?_) (fun _h => ?_)) <;> try simp (maxSteps := 4000000) only [go_sem, seval])
 | intro _h
 | refine zA ?_
 | refine zB ?_
 | refine zF ?_ ?_
 | (show zE _ _ = true; kernel_rfl)
 | (show zD _ _ = true; kernel_rfl)
 | (omega)))
         all_goals first | rfl | exact ⟨rfl, rfl⟩ | trace_state
  ·rw [hk1]
   generalize bestK p N (2 ^ N) = B at *
   have hku := wr_u N hn
   have hks := wr_sh N hn
   rcases B with _ | b
   all_goals
    simp only [outC] at hR
    subst hR
    simp only [outC, Option.isSome, zJ, slR, slC]; simp (maxSteps := 4000000) only [go_sem, seval]
    (repeat' (first
 | ((exfalso; omega))
 | refine zC ?_
 | refine kt ?_
 | refine And.intro ?_ ?_
 | ((first | refine awp_stp rfl ?_ | refine Imp.le2 ?_ | refine go_split (fun _h => ?_) (fun _h => ?_)) <;> try simp (maxSteps := 4000000) only [go_sem, seval, hku, hks])
 | intro _h
 | refine zA ?_
 | refine zB ?_
 | refine zF ?_ ?_
 | (show zE _ _ = true; kernel_rfl)
 | (show zD _ _ = true; kernel_rfl)
 | (omega)))
    all_goals first | rfl | exact ⟨rfl, rfl⟩ | trace_state
end Go.Am
namespace Go.Am
open Go.RowKit Go.Proofs
attribute [local irreducible] AWP zO Kt goK CallK zT zS SemF SemY Imp
set_option maxRecDepth 4000
set_option linter.unusedSimpArgs false
set_option linter.unusedVariables false
set_option maxHeartbeats 6400000
theorem wrongLaw (hA : zO Try.prog 17 [] (.bool true)) (t : Ann) (hkd : ∀ c ∈ t.claims, 0 ≤ c.kind) : zO Try.prog 13 [.agg (zJ t)] (.bool true) := by
 have hfe := few_c t
 cases hF : fewB t with
 | false =>
   rw [hF] at hfe
   simp only [zJ, slR, slC] at hfe ⊢
   (refine zG (fun w args => Try.call13 ..) Try.func13 rfl (fun w0 m0 wz => ?_); simp only [Try.ntmps13, Try.results13, zP, zR, zV, zW, slR, slC, zJ, sl, List.toList_toArray, List.cons_append, List.nil_append, List.length_cons, List.length_nil, Nat.reduceAdd, Nat.reduceSub])
   (repeat' (first
 | refine zC ?_
 | refine kt ?_
 | refine And.intro ?_ ?_
 | ((first | refine awp_stp rfl ?_ | refine awp_draw (by kernel_rfl) (by kernel_rfl) ?_ | refine Imp.le2 ?_ | refine callK_of (hfe) ?_ | refine callK_of (hA) ?_ | refine go_split (fun _h => ?_) (fun _h => ?_)) <;> try simp (maxSteps := 4000000) only [go_sem, seval])
 | intro _h
 | refine zA ?_
 | refine zB ?_
 | refine zF ?_ ?_
 | (show zE _ _ = true; kernel_rfl)
 | (show zD _ _ = true; kernel_rfl)
 | (omega)))
   all_goals trace_state
 | true =>
   rw [hF] at hfe
   obtain ⟨hb, hn4⟩ := few_ok hF
   have han := annals_c t hb
   have hfa := fault_c t hb
   by_cases h0 : faultA t = 0
   ·have ht := faultA_ok hkd h0
    obtain ⟨r1, r2, r3⟩ := runs_p0 ht
    have hfn : (fnV t).1 = (fiV t).1 := by rw [Bool.eq_iff_iff, fnV_spec ht, (fiV_spec ht).fd]
    rw [h0] at hfa
    cases hv : (fnV t).1 with
    | true =>
      have hw := Wrong_err t hb (fun _ => ht) (by unfold wrE; rw [if_pos h0, if_pos hv]; decide)
      have e : wrE t = 7 := by unfold wrE; rw [if_pos h0, if_pos hv]
      rw [e] at hw
      have hl1 : 0 < (rsA t).length := Nat.pos_of_ne_zero fun h => by rw [r3.1 h, hv] at hfn; cases hfn
      clear e r3 hfn
      generalize rsA t = rs at *
      simp only [zJ, slR, slC, Go.Am.slU] at hfe han hfa hw r1 ⊢
      (refine zG (fun w args => Try.call13 ..) Try.func13 rfl (fun w0 m0 wz => ?_); simp only [Try.ntmps13, Try.results13, zP, zR, zV, zW, slR, slC, zJ, sl, List.toList_toArray, List.cons_append, List.nil_append, List.length_cons, List.length_nil, Nat.reduceAdd, Nat.reduceSub])
      (repeat' (first
 | ((exact Try.underlying4))
 | ((omega))
 | ((exfalso; omega))
 | refine zC ?_
 | refine kt ?_
 | refine And.intro ?_ ?_
 | ((first | refine awp_stp rfl ?_ | refine awp_draw (by kernel_rfl) (by kernel_rfl) ?_ | refine Imp.le2 ?_ | refine callK_of (hfe) ?_ | refine callK_of (han) ?_ | refine callK_of (hfa) ?_ | refine callK_of (r1) ?_ | refine callK_of (hw) ?_ | refine callK_of (hA) ?_ | refine go_split (fun _h => ?_) (fun _h => ?_)) <;> try simp (maxSteps := 4000000) only [go_sem, seval])
 | intro _h
 | refine zA ?_
 | refine zB ?_
 | refine zF ?_ ?_
 | (show zE _ _ = true; kernel_rfl)
 | (show zD _ _ = true; kernel_rfl)
 | (omega)))
      all_goals first | (exfalso; simp at _h; done) | (exfalso; revert _h; simp; done) | trace_state
    | false =>
      have hl0 : (rsA t).length = 0 := r3.2 (by rw [← hfn]; exact hv)
      have hst := rstats_c t hb
      have hNe : (t.reports.length : Int) + t.claims.length = (nStN t : Int) := by unfold nStN; push_cast; rfl
      rw [hNe] at hst
      by_cases h12 : 12 < nStN t
      ·have e : wrE t = 3 := by unfold wrE; rw [if_pos h0, if_neg (by rw [hv]; simp), if_pos h12]
       have hw := Wrong_err t hb (fun _ => ht) (by rw [e]; decide)
       rw [e] at hw
       clear e r3 hfn hNe
       generalize nStN t = N at *
       generalize rsA t = rs at *
       simp only [zJ, slR, slC, Go.Am.slU, hl0] at hfe han hfa hw r1 hst ⊢
       (refine zG (fun w args => Try.call13 ..) Try.func13 rfl (fun w0 m0 wz => ?_); simp only [Try.ntmps13, Try.results13, zP, zR, zV, zW, slR, slC, zJ, sl, List.toList_toArray, List.cons_append, List.nil_append, List.length_cons, List.length_nil, Nat.reduceAdd, Nat.reduceSub])
       (repeat' (first
 | ((exact Try.underlying4))
 | ((omega))
 | ((exfalso; omega))
 | refine zC ?_
 | refine kt ?_
 | refine And.intro ?_ ?_
 | ((first | refine awp_stp rfl ?_ | refine awp_draw (by kernel_rfl) (by kernel_rfl) ?_ | refine Imp.le2 ?_ | refine callK_of (hfe) ?_ | refine callK_of (han) ?_ | refine callK_of (hfa) ?_ | refine callK_of (r1) ?_ | refine callK_of (hst) ?_ | refine callK_of (hw) ?_ | refine callK_of (hA) ?_ | refine go_split (fun _h => ?_) (fun _h => ?_)) <;> try simp (maxSteps := 4000000) only [go_sem, seval])
 | intro _h
 | refine zA ?_
 | refine zB ?_
 | refine zF ?_ ?_
 | (show zE _ _ = true; kernel_rfl)
 | (show zD _ _ = true; kernel_rfl)
 | (omega)))
       all_goals first | (exfalso; simp at _h; done) | (exfalso; revert _h; simp; done) | trace_state
      ·by_cases h7 : 3 < t.reports.length ∨ 7 < nStN t
       ·clear r3 hfn
        generalize nStN t = N at *
        generalize rsA t = rs at *
        simp only [zJ, slR, slC, Go.Am.slU, hl0] at hfe han hfa r1 hst ⊢
        (refine zG (fun w args => Try.call13 ..) Try.func13 rfl (fun w0 m0 wz => ?_); simp only [Try.ntmps13, Try.results13, zP, zR, zV, zW, slR, slC, zJ, sl, List.toList_toArray, List.cons_append, List.nil_append, List.length_cons, List.length_nil, Nat.reduceAdd, Nat.reduceSub])
        (repeat' (first
 | ((exact Try.underlying4))
 | ((omega))
 | ((exfalso; omega))
 | refine zC ?_
 | refine kt ?_
 | refine And.intro ?_ ?_
 | ((first | refine awp_stp rfl ?_ | refine awp_draw (by kernel_rfl) (by kernel_rfl) ?_ | refine Imp.le2 ?_ | refine callK_of (hfe) ?_ | refine callK_of (han) ?_ | refine callK_of (hfa) ?_ | refine callK_of (r1) ?_ | refine callK_of (hst) ?_ | refine callK_of (hA) ?_ | refine go_split (fun _h => ?_) (fun _h => ?_)) <;> try simp (maxSteps := 4000000) only [go_sem, seval])
 | intro _h
 | refine zA ?_
 | refine zB ?_
 | refine zF ?_ ?_
 | (show zE _ _ = true; kernel_rfl)
 | (show zD _ _ = true; kernel_rfl)
 | (omega)))
        all_goals first | (exfalso; simp at _h; done) | (exfalso; revert _h; simp; done) | trace_state
       ·obtain ⟨K, l, a1, a2, a3, a4, a5, a6, a7⟩ := wrong_ex ht hv
        have hw := Wrong_ok t ht h0 hv (by omega) a1 a2 a3 a4 a5
        have hrw := rwrong_c t ht (by omega)
        rw [best_least a7] at hrw
        have hi := ints_c l l (by omega)
        rw [decide_eq_true (rfl : l = l)] at hi
        have hlo : outC (some l) = .psl false l.length (zM l) := rfl
        rw [hlo] at hrw
        have hl7 : l.length ≤ 12 := by omega
        clear r3 hfn a3 a4 a5 a7 hlo
        generalize nStN t = N at *
        generalize rsA t = rs at *
        simp only [zJ, slR, slC, sl, Go.Am.slU, hl0] at hfe han hfa r1 hst hw hrw hi ⊢
        (refine zG (fun w args => Try.call13 ..) Try.func13 rfl (fun w0 m0 wz => ?_); simp only [Try.ntmps13, Try.results13, zP, zR, zV, zW, slR, slC, zJ, sl, List.toList_toArray, List.cons_append, List.nil_append, List.length_cons, List.length_nil, Nat.reduceAdd, Nat.reduceSub])
        (repeat' (first
 | ((exact Try.underlying4))
 | ((omega))
 | ((exfalso; omega))
 | refine zC ?_
 | refine kt ?_
 | refine And.intro ?_ ?_
 | ((first | refine awp_stp rfl ?_ | refine awp_draw (by kernel_rfl) (by kernel_rfl) ?_ | refine Imp.le2 ?_ | refine callK_of (hfe) ?_ | refine callK_of (han) ?_ | refine callK_of (hfa) ?_ | refine callK_of (r1) ?_ | refine callK_of (hst) ?_ | refine callK_of (hw) ?_ | refine callK_of (hrw) ?_ | refine callK_of (hi) ?_ | refine callK_of (hA) ?_ | refine go_split (fun _h => ?_) (fun _h => ?_)) <;> try simp (maxSteps := 4000000) only [go_sem, seval])
 | intro _h
 | refine zA ?_
 | refine zB ?_
 | refine zF ?_ ?_
 | (show zE _ _ = true; kernel_rfl)
 | (show zD _ _ = true; kernel_rfl)
 | (omega)))
        all_goals first | (exfalso; simp at _h; done) | (exfalso; revert _h; simp; done) | trace_state
   ·have e : wrE t = faultA t := by unfold wrE; rw [if_neg h0]
    have hw := Wrong_err t hb (fun h => absurd h h0) (by rw [e]; exact h0)
    rw [e] at hw
    clear e
    generalize faultA t = e at *
    simp only [zJ, slR, slC] at hfe han hfa hw ⊢
    (refine zG (fun w args => Try.call13 ..) Try.func13 rfl (fun w0 m0 wz => ?_); simp only [Try.ntmps13, Try.results13, zP, zR, zV, zW, slR, slC, zJ, sl, List.toList_toArray, List.cons_append, List.nil_append, List.length_cons, List.length_nil, Nat.reduceAdd, Nat.reduceSub])
    (repeat' (first
 | ((exact Try.underlying4))
 | ((omega))
 | ((exfalso; omega))
 | refine zC ?_
 | refine kt ?_
 | refine And.intro ?_ ?_
 | ((first | refine awp_stp rfl ?_ | refine awp_draw (by kernel_rfl) (by kernel_rfl) ?_ | refine Imp.le2 ?_ | refine callK_of (hfe) ?_ | refine callK_of (han) ?_ | refine callK_of (hfa) ?_ | refine callK_of (hw) ?_ | refine callK_of (hA) ?_ | refine go_split (fun _h => ?_) (fun _h => ?_)) <;> try simp (maxSteps := 4000000) only [go_sem, seval])
 | intro _h
 | refine zA ?_
 | refine zB ?_
 | refine zF ?_ ?_
 | (show zE _ _ = true; kernel_rfl)
 | (show zD _ _ = true; kernel_rfl)
 | (omega)))
    all_goals first | (exfalso; simp at _h; done) | (exfalso; simp at _h; omega) | (exfalso; revert _h; simp; done) | trace_state
end Go.Am
namespace Go.Am
open Go.RowKit Go.Proofs
theorem annalsWrong_c (t : Ann) (ht : AnnR t) : zO Try.prog 13 [.agg (zJ t)] (.bool true) :=
 wrongLaw awake_c t (fun c hc => (ht.claims c hc).1.1)
end Go.Am
