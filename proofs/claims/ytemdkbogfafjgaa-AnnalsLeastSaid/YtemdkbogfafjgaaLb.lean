/- Parts UmA, UmB, UmD, UmE, UmF, UmG, UmJ, UmK, UmL, VwL of the proof, one behind the other. No statement is proved here. -/
import Derived.Test.YtemdkbogfafjgaaL8
import Derived.Test.YtemdkbogfafjgaaLa
import Derived.Test.YtemdkbogfafjgaaL9
import Derived.Test.YtemdkbogfafjgaaL6
import Derived.Test.YtemdkbogfafjgaaL4
set_option linter.unusedVariables false -- all
set_option linter.unusedSimpArgs false
/- Plain words: the lists that are tried one after another, the least one first. No program is in sight. -/
namespace Go.Am
open Go.RowKit Go.Proofs
set_option linter.unusedSimpArgs false
set_option linter.unusedVariables false
theorem cmpL_clt {x y : Int} {a b : List Int} : cmpL (x :: a) (y :: b) < 0 ↔ x < y ∨ x = y ∧ cmpL a b < 0 := by
  simp only [cmpL, cmpI]
  by_cases h1 : x < y
  · simp [h1]
  · by_cases h2 : y < x
    · simp [h1, h2]; omega
    · have : x = y := by omega
      subst this
      simp
/-- Numbers are tried one by one, with what is kept. -/
def tryS {σ : Type} (f : Nat → σ → Bool × σ) : List Nat → σ → Bool × σ
  | [], o => (false, o)
  | n :: ns, o => if (f n o).1 = true then f n o else tryS f ns (f n o).2
/-- So many more numbers are put behind a list, from one on, below N. -/
def chS (p : List Int → Bool) (N : Nat) : Nat → List Int → Nat → Option (List Int) → Bool × Option (List Int)
  | 0, L, _, _ => (p L, some L)
  | m + 1, L, a, o => tryS (fun n o => chS p N m (L ++ [(n : Int)]) (n + 1) o) (List.range' a (N - a)) o
/-- A rising list of numbers from a on, below N. -/
structure Rise (a N : Nat) (c : List Int) : Prop where
  up : c.Pairwise (· < ·)
  rng : ∀ x ∈ c, (a : Int) ≤ x ∧ x < N
theorem Rise.cons {a N : Nat} {x : Int} {c : List Int} : Rise a N (x :: c) ↔ ∃ n : Nat, x = n ∧ a ≤ n ∧ n < N ∧ Rise (n + 1) N c := by
  constructor
  · intro h
    obtain ⟨h1, h2⟩ := List.pairwise_cons.1 h.up
    have h3 := h.rng x (by simp)
    obtain ⟨n, rfl⟩ := Int.eq_ofNat_of_zero_le (show 0 ≤ x by omega)
    refine ⟨n, rfl, by omega, by omega, h2, fun y hy => ?_⟩
    have := h1 y hy
    have := h.rng y (by simp [hy])
    omega
  · rintro ⟨n, rfl, h1, h2, h3⟩
    refine ⟨List.pairwise_cons.2 ⟨fun y hy => ?_, h3.up⟩, fun y hy => ?_⟩
    · have := h3.rng y hy; omega
    · rcases List.mem_cons.1 hy with rfl | hy
      · omega
      · have := h3.rng y hy; omega
theorem tryS_true {σ : Type} {f : Nat → σ → Bool × σ} : ∀ {k a : Nat} {o : σ}, (tryS f (List.range' a k) o).1 = true → ∃ n o', a ≤ n ∧ n < a + k ∧ tryS f (List.range' a k) o = f n o' ∧ (f n o').1 = true ∧ ∀ n', a ≤ n' → n' < n → ∃ o'', (f n' o'').1 = false
  | 0, a, o, h => by simp [tryS] at h
  | k + 1, a, o, h => by
    rw [List.range'_succ] at h ⊢
    simp only [tryS] at h ⊢
    by_cases h1 : (f a o).1 = true
    · rw [if_pos h1] at h ⊢
      exact ⟨a, o, Nat.le_refl _, by omega, rfl, h1, fun n' h2 h3 => by omega⟩
    · rw [if_neg h1] at h ⊢
      obtain ⟨n, o', h2, h3, h4, h5, h6⟩ := tryS_true h
      refine ⟨n, o', by omega, by omega, h4, h5, fun n' h7 h8 => ?_⟩
      by_cases e : n' = a
      · subst e; exact ⟨o, by simpa using h1⟩
      · exact h6 n' (by omega) h8
theorem tryS_false {σ : Type} {f : Nat → σ → Bool × σ} : ∀ {k a : Nat} {o : σ}, (tryS f (List.range' a k) o).1 = false → ∀ n, a ≤ n → n < a + k → ∃ o', (f n o').1 = false
  | 0, a, o, _ => fun n h1 h2 => by omega
  | k + 1, a, o, h => by
    rw [List.range'_succ] at h
    simp only [tryS] at h
    by_cases h1 : (f a o).1 = true
    · rw [if_pos h1, h1] at h; cases h
    · rw [if_neg h1] at h
      intro n h2 h3
      by_cases e : n = a
      · subst e; exact ⟨o, by simpa using h1⟩
      · exact tryS_false h n (by omega) (by omega)
theorem chS_spec {p : List Int → Bool} {N : Nat} : ∀ (m : Nat) (L : List Int) (a : Nat) (o : Option (List Int)),
    ((chS p N m L a o).1 = true → ∃ c, (chS p N m L a o).2 = some (L ++ c) ∧ c.length = m ∧ Rise a N c ∧ p (L ++ c) = true ∧ ∀ c', c'.length = m → Rise a N c' → p (L ++ c') = true → ¬ cmpL c' c < 0) ∧
    ((chS p N m L a o).1 = false → ∀ c', c'.length = m → Rise a N c' → p (L ++ c') = false)
  | 0, L, a, o => by
    simp only [chS]
    refine ⟨fun h => ⟨[], by simp, rfl, ⟨List.Pairwise.nil, fun x hx => (by cases hx)⟩, by simpa using h, fun c' h1 _ _ => ?_⟩, fun h c' h1 _ => ?_⟩
    · have : c' = [] := List.length_eq_zero_iff.1 h1
      subst this; simp [cmpL]
    · have : c' = [] := List.length_eq_zero_iff.1 h1
      subst this; simpa using h
  | m + 1, L, a, o => by
    simp only [chS]
    have hf : ∀ c', c'.length = m + 1 → Rise a N c' → ∃ (n : Nat) (c1 : List Int), c' = (n : Int) :: c1 ∧ c1.length = m ∧ a ≤ n ∧ n < N ∧ Rise (n + 1) N c1 := fun c' h1 h2 => by
      cases c' with
      | nil => simp at h1
      | cons x c1 =>
        obtain ⟨n, rfl, h3, h4, h5⟩ := Rise.cons.1 h2
        exact ⟨n, c1, rfl, by simpa using h1, h3, h4, h5⟩
    have app : ∀ (n : Nat) (c1 : List Int), L ++ ((n : Int) :: c1) = L ++ [(n : Int)] ++ c1 := fun n c1 => by simp
    constructor
    · intro h
      obtain ⟨n, o', h1, h2, h3, h4, h5⟩ := tryS_true h
      obtain ⟨c, e1, e2, e3, e4, e5⟩ := (chS_spec m (L ++ [(n : Int)]) (n + 1) o').1 h4
      rw [h3]
      refine ⟨(n : Int) :: c, by rw [app n c]; exact e1, by simp [e2], Rise.cons.2 ⟨n, rfl, h1, by omega, e3⟩, by rw [app n c]; exact e4, fun c' q1 q2 q3 => ?_⟩
      obtain ⟨n', c1, rfl, q4, q5, q6, q7⟩ := hf c' q1 q2
      rw [app n' c1] at q3
      rw [cmpL_clt]
      rcases Nat.lt_trichotomy n' n with hlt | rfl | hgt
      · obtain ⟨o'', h6⟩ := h5 n' q5 hlt
        have := (chS_spec m (L ++ [(n' : Int)]) (n' + 1) o'').2 h6 c1 q4 q7
        rw [this] at q3; cases q3
      · have := e5 c1 q4 q7 q3
        rintro (h | ⟨_, h⟩)
        · omega
        · exact this h
      · rintro (h | ⟨h, _⟩) <;> omega
    · intro h c' q1 q2
      obtain ⟨n', c1, rfl, q4, q5, q6, q7⟩ := hf c' q1 q2
      obtain ⟨o'', h6⟩ := tryS_false h n' q5 (by omega)
      rw [app n' c1]
      exact (chS_spec m (L ++ [(n' : Int)]) (n' + 1) o'').2 h6 c1 q4 q7
/-- What is kept behind all lists of fewer numbers. -/
def keepS (p : List Int → Bool) (N : Nat) : Nat → Option (List Int)
  | 0 => none
  | k + 1 => (chS p N (k + 1) [] 0 (keepS p N k)).2
def hitS (p : List Int → Bool) (N k : Nat) : Bool := (chS p N k [] 0 (keepS p N (k - 1))).1
/-- The number of the least list. -/
theorem hit_ex {p : List Int → Bool} {N : Nat} (hp : p (tab N fun i => (i : Int)) = true) (h0 : p [] = false) : ∃ K, 1 ≤ K ∧ K ≤ N ∧ hitS p N K = true ∧ ∀ k, 1 ≤ k → k < K → hitS p N k = false := by
  have hN : hitS p N N = true := by
    cases h : hitS p N N with
    | true => rfl
    | false =>
      have := (chS_spec (p := p) (N := N) N [] 0 (keepS p N (N - 1))).2 h (tab N fun i => (i : Int)) tab_length ⟨?_, ?_⟩
      · rw [List.nil_append, hp] at this; cases this
      · rw [List.pairwise_iff_getElem]
        intro i j hi hj hij
        simp only [tab, List.getElem_map, List.getElem_range]
        omega
      · intro x hx
        simp only [tab, List.mem_map, List.mem_range] at hx
        obtain ⟨i, hi, rfl⟩ := hx
        omega
  have hN1 : 1 ≤ N := by
    rcases Nat.eq_zero_or_pos N with h | h
    · subst h
      simp only [tab, List.range_zero, List.map_nil] at hp
      rw [h0] at hp; cases hp
    · exact h
  obtain ⟨K, h1, h2⟩ : ∃ K, (1 ≤ K ∧ K ≤ N ∧ hitS p N K = true) ∧ ∀ k, k < K → ¬ (1 ≤ k ∧ k ≤ N ∧ hitS p N k = true) := by
    have : ∀ n, (∃ K, K ≤ n ∧ (1 ≤ K ∧ K ≤ N ∧ hitS p N K = true)) → ∃ K, (1 ≤ K ∧ K ≤ N ∧ hitS p N K = true) ∧ ∀ k, k < K → ¬ (1 ≤ k ∧ k ≤ N ∧ hitS p N k = true) := by
      intro n
      induction n with
      | zero => rintro ⟨K, h1, h2, _⟩; omega
      | succ n ih =>
        rintro ⟨K, h1, h2⟩
        by_cases h3 : ∃ K, K ≤ n ∧ (1 ≤ K ∧ K ≤ N ∧ hitS p N K = true)
        · exact ih h3
        · refine ⟨K, h2, fun k hk h4 => h3 ⟨k, by omega, h4⟩⟩
    exact this N ⟨N, Nat.le_refl _, hN1, Nat.le_refl _, hN⟩
  refine ⟨K, h1.1, h1.2.1, h1.2.2, fun k q1 q2 => ?_⟩
  cases h : hitS p N k with
  | false => rfl
  | true => exact absurd ⟨q1, by omega, h⟩ (h2 k q2)
/-- The least list of rising numbers below N of which p says yes. -/
structure LeastS (p : List Int → Bool) (N : Nat) (l : List Int) : Prop where
  rise : Rise 0 N l
  yes : p l = true
  fewer : ∀ c, Rise 0 N c → c.length < l.length → p c = false
  less : ∀ c, Rise 0 N c → c.length = l.length → p c = true → ¬ cmpL c l < 0
theorem hit_least {p : List Int → Bool} {N K : Nat} (h0 : p [] = false) (h1 : 1 ≤ K) (hK : hitS p N K = true) (hk : ∀ k, 1 ≤ k → k < K → hitS p N k = false) : ∃ l, keepS p N K = some l ∧ l.length = K ∧ LeastS p N l := by
  obtain ⟨c, e1, e2, e3, e4, e5⟩ := (chS_spec (p := p) (N := N) K [] 0 (keepS p N (K - 1))).1 hK
  rw [List.nil_append] at e1 e4
  refine ⟨c, ?_, e2, e3, e4, fun c' q1 q2 => ?_, fun c' q1 q2 q3 => e5 c' (by omega) q1 (by simpa using q3)⟩
  · obtain ⟨k, rfl⟩ : ∃ k, K = k + 1 := ⟨K - 1, by omega⟩
    exact e1
  · rcases Nat.eq_zero_or_pos c'.length with hc | hc
    · have : c' = [] := List.length_eq_zero_iff.1 hc
      subst this; exact h0
    · have := (chS_spec (p := p) (N := N) c'.length [] 0 (keepS p N (c'.length - 1))).2 (hk _ hc (by omega)) c' rfl q1
      simpa using this
end Go.Am

/- Plain words: annals without some statements: they are right where the annals are; without all statements they can be. No program is in sight. -/
namespace Go.Am
open Go.RowKit Go.Proofs
set_option linter.unusedSimpArgs false
set_option linter.unusedVariables false
theorem wClm_mem {l : List Int} {t : Ann} {c : Clm} : ∀ {k : Nat}, k ≤ t.claims.length → c ∈ wClm l t k → c ∈ t.claims
  | 0, _, h => by simp [wClm] at h
  | k + 1, hk, h => by
    simp only [wClm] at h
    split at h
    · exact wClm_mem (by omega) h
    · rcases List.mem_append.1 h with h | h
      · exact wClm_mem (by omega) h
      · have e : c = t.claims.getD k default := by simpa using h
        rw [e, List.getD_eq_getElem?_getD, List.getElem?_eq_getElem (by omega)]
        exact List.getElem_mem _
theorem withA_reports {t : Ann} {l : List Int} : (withA t l).reports.length = t.reports.length := tab_length
theorem withA_rp {t : Ann} {l : List Int} {i : Nat} (hi : i < t.reports.length) : (withA t l).reports.getD i default = wRpt l t i := by
  simp only [withA]; exact tab_getD hi
theorem withA_good {t : Ann} {l : List Int} (ht : AnnOK t) : AnnOK (withA t l) := by
  have hmem : ∀ c ∈ (withA t l).claims, c ∈ t.claims := fun c hc => wClm_mem (Nat.le_refl _) hc
  refine ⟨by rw [withA_reports]; exact ht.reports, ?_, ht.rest, fun i hi => ?_, fun i hi => ?_⟩
  · have := wClm_le (l := l) (t := t) t.claims.length
    have := ht.claims
    simp only [withA]; omega
  · rw [withA_reports] at hi
    rw [withA_rp hi]
    have := ht.rpt i hi
    unfold wRpt
    split
    · refine ⟨this.1, ?_, ?_, ?_⟩ <;> simp
    · exact this
  · have h1 : (withA t l).claims.getD i default ∈ (withA t l).claims := by
      rw [List.getD_eq_getElem?_getD, List.getElem?_eq_getElem hi]; exact List.getElem_mem hi
    obtain ⟨j, hj, e⟩ := List.mem_iff_getElem.1 (hmem _ h1)
    have := ht.clm j hj
    rw [List.getD_eq_getElem?_getD, List.getElem?_eq_getElem hj, Option.getD_some, e] at this
    rw [withA_reports]; exact this
theorem withA_nil {t : Ann} : withA t [] = t := by
  obtain ⟨R, C, r⟩ := t
  simp only [withA, Ann.mk.injEq, and_true]
  constructor
  · apply List.ext_getElem
    · exact tab_length
    · intro i a b
      have b : i < R.length := b
      simp [tab, wRpt, List.getD_eq_getElem?_getD, b]
  · have : ∀ k, k ≤ C.length → wClm [] ⟨R, C, r⟩ k = C.take k := by
      intro k
      induction k with
      | zero => simp [wClm]
      | succ k ih =>
        intro hk
        simp only [wClm, List.not_mem_nil, if_false]
        rw [ih (by omega), List.take_succ_eq_append_getElem (by omega)]
        simp [List.getD_eq_getElem?_getD, show k < C.length by omega]
    rw [this _ (Nat.le_refl _), List.take_length]
/-- How many statements there are. -/
def nStN (t : Ann) : Nat := t.reports.length + t.claims.length
/-- May annals be without some statements? -/
def pW (t : Ann) (l : List Int) : Bool := (fnV (withA t l)).1
theorem pW_nil {t : Ann} : pW t [] = (fnV t).1 := by unfold pW; rw [withA_nil]
theorem wClm_all {t : Ann} {l : List Int} : ∀ k : Nat, (∀ j : Nat, j < k → ((t.reports.length : Int) + j) ∈ l) → wClm l t k = []
  | 0, _ => rfl
  | k + 1, h => by
    simp only [wClm]
    rw [if_pos (h k (by omega))]
    exact wClm_all k fun j hj => h j (by omega)
theorem pW_all {t : Ann} (ht : AnnOK t) : pW t (tab (nStN t) fun i => (i : Int)) = true := by
  have hin : ∀ i, i < nStN t → (i : Int) ∈ tab (nStN t) fun i => (i : Int) := fun i hi => by
    simp only [tab, List.mem_map, List.mem_range]
    exact ⟨i, hi, rfl⟩
  generalize tab (nStN t) (fun i => (i : Int)) = l at *
  have hc : (withA t l).claims = [] := wClm_all _ fun j hj => by
    have := hin (t.reports.length + j) (by unfold nStN; omega)
    simpa using this
  unfold pW
  rw [fnV_spec (withA_good ht)]
  refine ⟨fun i => ((withA t l).reports.getD i default).slope, fun _ => 0, ⟨fun i hi => ?_, fun i k hi hk he => ⟨he, rfl⟩, fun i k hi hk hn he => absurd he hn, fun j hj => ?_, fun j hj => ?_, fun j hj => ?_⟩⟩
  · rw [withA_reports] at hi
    show ((withA t l).reports.getD i default).lo ≤ 0 ∧ 0 ≤ ((withA t l).reports.getD i default).hi
    rw [withA_rp hi]
    unfold wRpt
    rw [if_pos (hin i (by unfold nStN; omega))]
    exact ⟨Int.le_refl _, (by decide : (0 : Int) ≤ 100000)⟩
  · rw [hc] at hj; simp at hj
  · rw [hc] at hj; simp at hj
  · rw [hc] at hj; simp at hj
/-- What must be wrong. -/
theorem wrong_ex {t : Ann} (ht : AnnOK t) (h0 : (fnV t).1 = false) : ∃ K l, 1 ≤ K ∧ K ≤ nStN t ∧ hitS (pW t) (nStN t) K = true ∧ (∀ k, 1 ≤ k → k < K → hitS (pW t) (nStN t) k = false) ∧ keepS (pW t) (nStN t) K = some l ∧ l.length = K ∧ LeastS (pW t) (nStN t) l := by
  have h1 : pW t [] = false := by rw [pW_nil]; exact h0
  obtain ⟨K, a1, a2, a3, a4⟩ := hit_ex (pW_all ht) h1
  obtain ⟨l, b1, b2, b3⟩ := hit_least h1 a1 a3 a4
  exact ⟨K, l, a1, a2, a3, a4, b1, b2, b3⟩
end Go.Am

/- Contracts of the annals functions: choose, with a list that is not nil. -/
namespace Go.Am
open Go.RowKit Go.Proofs
attribute [local irreducible] AWP CallS Kt goK CallK stepK evOps SemF SemY Imp
set_option maxRecDepth 4000
set_option linter.unusedSimpArgs false
set_option linter.unusedVariables false
set_option maxHeartbeats 1600000
/-- The list that is kept. -/
def outC : Option (List Int) → AV
  | none => .nils
  | some l => .psl false l.length (ints l)
def chB (t : Ann) (o : Option (List Int)) (b : Nat) : List (Option ABlk) :=
  [some (.cells 35 1 0 (annC t)), some (.cells 59 1 0 [outC o]), some (.cells 126 1 0 [.fn (.func 78) [] [.ptr b 0 0, .ptr (b + 1) 0 0, .ptr (b + 2) 0 0]])]
theorem outC_cases (o : Option (List Int)) : outC o = .nils ∨ ∃ l : List Int, outC o = .psl false l.length (ints l) := by
  cases o with
  | none => exact .inl rfl
  | some l => exact .inr ⟨l, rfl⟩
section
variable {o : Option (List Int)}
theorem oc_live {p : Nat → Bool} : live2 p (outC o) = true := by cases o <;> rfl
theorem oc_ren {σ : Nat → Nat} : ren σ (outC o) = outC o := by cases o <;> simp [outC, ren]
theorem oc_refs {p : Nat → Prop} : refs p (outC o) = True := by cases o <;> simp [outC, refs]
attribute [go_sem] oc_live oc_ren oc_refs
end
theorem choose_leaf (t : Ann) (ht : AnnOK t) (L : List Int) (a : Int) (o : Option (List Int)) (g : Nat) (h0 : 0 < L.length) (hL : L.length ≤ 100) :
    SemF Try.prog 78 [.osl 0 g 0 L.length, .int .i64 a, .int .i64 0, .ptr 1 0 0, .ptr 2 0 0, .ptr 3 0 0] (some (.cells 3 1 g (ints L)) :: chB t o 1) (.bool (pW t L)) (some (.cells 3 1 g (ints L)) :: chB t (some L) 1) := by
  have hk : annOK t := ⟨by have := ht.reports; omega, by have := ht.claims; omega⟩
  have hw := without_o t L g L.length hk rfl (by omega)
  have hf := find_c (withA t L) (withA_good ht)
  have hcl := clone_o L g L.length rfl h0 (by omega)
  unfold pW
  generalize fnV (withA t L) = V at *
  generalize withA t L = W at *
  obtain ⟨b, S, D⟩ := V
  have e3 : chC (true, S, D) = [.psl false S.length (ints S), .psl false D.length (ints D)] := rfl
  have e4 : chC (false, S, D) = [.nils, .nils] := rfl
  generalize hoc : outC o = oc at *
  have hoc2 := outC_cases o
  rw [hoc] at hoc2
  simp only [chB, hoc, outC]
  clear hoc
  rcases hoc2 with rfl | ⟨ol, rfl⟩
  all_goals cases b
  all_goals
    simp only [annC, slR, slC, e3, e4] at hf hw ⊢
    (refine semF_of_awp (ys := [.bool _]) (fun w args => Try.call78 ..) Try.func78 rfl (fun w0 m0 wz => ?_); simp only [Try.ntmps78, Try.results78, initT, junks, rptC, clmC, slR, slC, annC, sl, List.toList_toArray, List.cons_append, List.nil_append, List.length_cons, List.length_nil, Nat.reduceAdd, Nat.reduceSub])
    (repeat' (first
    | (refine awp_ownN 2 rfl ?_; simp (maxSteps := 4000000) only [go_sem, seval, List.take_succ_cons, List.take_zero]; (repeat refine And.intro (by omega) ?_); refine own_go (hw) [0] rfl ?_ ?_ rfl ?_ <;> try simp (maxSteps := 4000000) only [go_sem, seval, Nat.lt_irrefl] <;> try decide)
    | (refine awp_ownN 1 rfl ?_; simp (maxSteps := 4000000) only [go_sem, seval, List.take_succ_cons, List.take_zero]; (repeat refine And.intro (by omega) ?_); refine own_go (hcl) [0] rfl ?_ ?_ rfl ?_ <;> try simp (maxSteps := 4000000) only [go_sem, seval, Nat.lt_irrefl] <;> try decide)
    | (refine awp_seqK ?_)
    | (refine kt ?_)
    | (refine And.intro ?_ ?_)
    | ((first | refine awp_region ?_ | refine awp_draw (by kernel_rfl) (by kernel_rfl) ?_ | refine Imp.le2 ?_ | refine awp_label ?_ | refine awp_skip ?_ | refine awp_exit ?_ | refine awp_cd ?_ | refine awp_ret ?_ | refine callK_of (hf) ?_ | refine go_split (fun _h => ?_) (fun _h => ?_)) <;> try simp (maxSteps := 4000000) only [go_sem, seval])
    | (intro _h)
    | (refine awp_block ?_)
    | (refine awp_scope ?_)
    | (refine cond_b (fun _h => ?_) (fun _h => ?_))
    | (show heapOK _ _ = true; kernel_rfl)
    | (show heapOK2 _ _ = true; kernel_rfl)
    | (omega)))
    all_goals trace_state
end Go.Am

/- Contracts of the annals functions: choose, with a list that is not nil, and more numbers. -/
namespace Go.Am
open Go.RowKit Go.Proofs
attribute [local irreducible] AWP CallS Kt goK CallK stepK evOps SemF SemY Imp
set_option maxRecDepth 4000
set_option linter.unusedSimpArgs false
set_option linter.unusedVariables false
set_option maxHeartbeats 3200000
theorem choose_c (t : Ann) (ht : AnnOK t) : ∀ (m : Nat) (L : List Int) (a : Nat) (o : Option (List Int)) (g : Nat), 0 < L.length → L.length + m ≤ 100 → a ≤ nStN t →
    SemF Try.prog 78 [.osl 0 g 0 L.length, .int .i64 a, .int .i64 m, .ptr 1 0 0, .ptr 2 0 0, .ptr 3 0 0] (some (.cells 3 1 g (ints L)) :: chB t o 1) (.bool (chS (pW t) (nStN t) m L a o).1) (some (.cells 3 1 g (ints L)) :: chB t (chS (pW t) (nStN t) m L a o).2 1) := by
  intro m
  induction m with
  | zero => intro L a o g h0 hL ha; exact choose_leaf t ht L a o g h0 (by omega)
  | succ m ih =>
    intro L a o g h0 hL ha
    have hk : annOK t := ⟨by have := ht.reports; omega, by have := ht.claims; omega⟩
    have hst := stats_c t hk
    have hN : nStN t ≤ 100 := by unfold nStN; have := ht.reports; have := ht.claims; omega
    have hNe : (t.reports.length : Int) + t.claims.length = (nStN t : Int) := by unfold nStN; push_cast; rfl
    rw [hNe] at hst
    have hil : (ints L).length = L.length := ints_length
    have ht1 : (ints L).take (L.length * 1) = ints L := by rw [Nat.mul_one, ← hil, List.take_length]
    have hts : ∀ v : Int, (ints L).take (L.length * 1) ++ [AV.int .i64 v] = ints (L ++ [v]) := fun v => by rw [ht1, ints_append]; rfl
    have htk : ∀ v : Int, (ints (L ++ [v])).take L.length = ints L := fun v => by rw [ints_append, ← hil, List.take_left']; rfl
    simp only [chS]
    generalize hf : (fun (n : Nat) (o : Option (List Int)) => chS (pW t) (nStN t) m (L ++ [(n : Int)]) (n + 1) o) = f at *
    have hih : ∀ (n : Nat) (o : Option (List Int)) (g : Nat), n < nStN t → SemF Try.prog 78 [.osl 0 g 0 (L.length + 1), .int .i64 ((n : Int) + 1), .int .i64 m, .ptr 1 0 0, .ptr 2 0 0, .ptr 3 0 0] (some (.cells 3 1 g (ints (L ++ [(n : Int)]))) :: chB t o 1) (.bool (f n o).1) (some (.cells 3 1 g (ints (L ++ [(n : Int)]))) :: chB t (f n o).2 1) := fun n o g hn => by
      have h := ih (L ++ [(n : Int)]) (n + 1) o g (by simp) (by simp; omega) (by omega)
      subst hf
      simpa using h
    clear ih hf
    generalize nStN t = N at *
    obtain ⟨R, hR⟩ : ∃ R, tryS f (List.range' a (N - a)) o = R := ⟨_, rfl⟩
    rw [hR]
    generalize hkl : L.length = k at *
    rw [show ((m + 1 : Nat) : Int) = (m : Int) + 1 from rfl]
    simp only [chB, annC, slR, slC] at hih hst ⊢
    (refine semF_of_awp (ys := [.bool R.1]) (fun w args => Try.call78 ..) Try.func78 rfl (fun w0 m0 wz => ?_); simp only [Try.ntmps78, Try.results78, initT, junks, rptC, clmC, slR, slC, annC, sl, List.toList_toArray, List.cons_append, List.nil_append, List.length_cons, List.length_nil, Nat.reduceAdd, Nat.reduceSub])
    refine awp_cap 0 (by simp) rfl rfl h0 ?_
    intro cap hc1 hc2
    simp only [lset]
    (repeat' (first
    | (refine awp_seqK ?_)
    | (refine kt ?_)
    | (refine And.intro ?_ ?_)
    | ((first | refine awp_region ?_ | refine awp_draw (by kernel_rfl) (by kernel_rfl) ?_ | refine Imp.le2 ?_ | refine awp_label ?_ | refine awp_skip ?_ | refine awp_exit ?_ | refine awp_cd ?_ | refine awp_ret ?_ | refine go_split (fun _h => ?_) (fun _h => ?_)) <;> try simp (maxSteps := 4000000) only [go_sem, seval])
    | (intro _h)
    | (refine awp_block ?_)
    | (refine awp_scope ?_)
    | (refine cond_b (fun _h => ?_) (fun _h => ?_))
    | (show heapOK _ _ = true; kernel_rfl)
    | (show heapOK2 _ _ = true; kernel_rfl)
    | (omega)))
    refine awp_loopJ (fun x : Nat × Option (List Int) => x.1 ≤ N ∧ tryS f (List.range' x.1 (N - x.1)) x.2 = R) (fun x => ⟨mkT 42 [(0, .oslc 0 g 0 k cap), (2, .int .i64 ((m : Int) + 1)), (3, .ptr 1 0 0), (4, .ptr 2 0 0), (5, .ptr 3 0 0), (12, .int .i64 x.1)], some (.cells 3 1 g (ints L)) :: chB t x.2 1, []⟩) (fun x => N - x.1) (a, o) ⟨ha, hR⟩ (.le2 ?_) ?_
    · simp only [chB, annC, slR, slC]; simp (maxSteps := 4000000) only [go_sem, seval]
      all_goals first | rfl | exact ⟨rfl, rfl⟩ | trace_state
    · rintro ⟨n, o⟩ ⟨hn, hj⟩
      clear hR
      simp only at hn hj
      rcases Nat.lt_or_eq_of_le hn with hn1 | hn1
      · have hin := hih n o
        obtain ⟨d, hd⟩ : ∃ d, N - n = d + 1 := ⟨N - n - 1, by omega⟩
        have hd2 : N - (n + 1) = d := by omega
        rw [hd, List.range'_succ, ← hd2] at hj
        simp only [tryS] at hj
        obtain ⟨⟨b, o2⟩, hfo⟩ : ∃ r, f n o = r := ⟨_, rfl⟩
        rw [hfo] at hj hin
        simp only at hj hin
        have hts1 := hts n
        have htk1 := htk n
        simp only [chB, annC, slR, slC] at hin ⊢
        clear hfo
        have hfin : ∃ R2, R = (R2 : Bool × Option (List Int)) ∧ (b = true → R = (true, o2)) ∧ (b = false → tryS f (List.range' (n + 1) (N - (n + 1))) o2 = R) := by
          refine ⟨R, rfl, fun e => ?_, fun e => ?_⟩
          · rw [if_pos e, e] at hj; exact hj.symm
          · rw [if_neg (by rw [e]; simp)] at hj; exact hj
        obtain ⟨_, _, hbt, hbf⟩ := hfin
        clear hj
        by_cases hroom : k + 1 ≤ cap
        · have hin0 := hin g hn1
          cases b
          all_goals
            try (have hR1 := hbt rfl; subst hR1)
            simp (maxSteps := 4000000) only [go_sem, seval]
            (repeat' (first
    | ((exfalso; omega))
    | (refine awp_seqK ?_)
    | (refine kt ?_)
    | (refine And.intro ?_ ?_)
    | ((first | refine awp_region ?_ | refine Imp.le2 ?_ | refine awp_label ?_ | refine awp_skip ?_ | refine awp_exit ?_ | refine awp_cd ?_ | refine awp_ret ?_ | refine callK_of (hst) ?_ | refine go_split (fun _h => ?_) (fun _h => ?_)) <;> try simp (maxSteps := 4000000) only [go_sem, seval])
    | (intro _h)
    | (refine awp_block ?_)
    | (refine awp_scope ?_)
    | (refine cond_b (fun _h => ?_) (fun _h => ?_))
    | (show heapOK _ _ = true; kernel_rfl)
    | (show heapOK2 _ _ = true; kernel_rfl)
    | (omega)))
            (repeat refine awp_seqK ?_)
            refine awp_drawsE [(4, some ⟨.osl 0 g 0 (k + 1), [0], some (0, .cells 3 1 g (ints (L ++ [(n : Int)])))⟩, []), (4, none, [2])] (by kernel_rfl) (by kernel_rfl) ?_
            simp (maxSteps := 4000000) only [go_sem, seval, se_own, se_op, se_nil, List.take_succ_cons, List.take_zero, List.drop_succ_cons, List.drop_zero]
            refine ⟨rfl, sound_appr (n := 1) (full := true) rfl tslice59 tsz3 (by omega) rfl rfl rfl rfl (by omega) (by omega) hroom hts1, ?_⟩
            simp only [hseto, hset]
            try simp (maxSteps := 4000000) only [go_sem, seval, se_own, se_op, se_nil, List.take_succ_cons, List.take_zero, List.drop_succ_cons, List.drop_zero]
            refine And.intro (by omega) (And.intro (by omega) ?_)
            rw [show (m : Int) + 1 - 1 = m by omega]
            (refine own_go (hin0) [0, 1, 2, 3] rfl (by simp (maxSteps := 4000000) only [go_sem, seval]) (by simp (maxSteps := 4000000) only [go_sem, seval, Nat.lt_irrefl] <;> decide) (by simp (maxSteps := 4000000) only [go_sem, seval]) ?_; simp (maxSteps := 4000000) only [go_sem, seval]; refine And.intro (frm_of (by repeat (first | exact rfl | exact ⟨_, rfl⟩ | refine And.intro ?_ ?_))) ?_; try simp (maxSteps := 4000000) only [go_sem, seval, sg_cons, sg_nil, List.take_succ_cons, List.take_zero, List.drop_succ_cons, List.drop_zero])
            try simp (maxSteps := 4000000) only [go_sem, seval, se_own, se_op, se_nil, List.take_succ_cons, List.take_zero, List.drop_succ_cons, List.drop_zero]
            refine And.intro (by kernel_rfl) ?_
            refine kt ?_
            refine awp_drop 0 k rfl ?_
            simp only [hset, htk1]
            (repeat' (first
    | ((exfalso; omega))
    | ((omega))
    | (refine awp_seqK ?_)
    | (refine kt ?_)
    | (refine And.intro ?_ ?_)
    | ((first | refine awp_region ?_ | refine Imp.le2 ?_ | refine awp_label ?_ | refine awp_skip ?_ | refine awp_exit ?_ | refine awp_cd ?_ | refine awp_ret ?_ | refine go_split (fun _h => ?_) (fun _h => ?_)) <;> try simp (maxSteps := 4000000) only [go_sem, seval])
    | (intro _h)
    | (refine awp_block ?_)
    | (refine awp_scope ?_)
    | (refine cond_b (fun _h => ?_) (fun _h => ?_))
    | (show heapOK _ _ = true; kernel_rfl)
    | (show heapOK2 _ _ = true; kernel_rfl)
    | (omega)))
            try (refine ⟨(n + 1, o2), ⟨by show n + 1 ≤ N; omega, hbf rfl⟩, by show N - (n + 1) < N - n; omega, .le2 ?_⟩; simp (maxSteps := 4000000) only [go_sem, seval])
            all_goals first | rfl | exact ⟨rfl, rfl⟩ | trace_state
        · have hin0 := hin 0 hn1
          cases b
          all_goals
            try (have hR1 := hbt rfl; subst hR1)
            simp (maxSteps := 4000000) only [go_sem, seval]
            (repeat' (first
    | ((exfalso; omega))
    | (refine awp_seqK ?_)
    | (refine kt ?_)
    | (refine And.intro ?_ ?_)
    | ((first | refine awp_region ?_ | refine Imp.le2 ?_ | refine awp_label ?_ | refine awp_skip ?_ | refine awp_exit ?_ | refine awp_cd ?_ | refine awp_ret ?_ | refine callK_of (hst) ?_ | refine go_split (fun _h => ?_) (fun _h => ?_)) <;> try simp (maxSteps := 4000000) only [go_sem, seval])
    | (intro _h)
    | (refine awp_block ?_)
    | (refine awp_scope ?_)
    | (refine cond_b (fun _h => ?_) (fun _h => ?_))
    | (show heapOK _ _ = true; kernel_rfl)
    | (show heapOK2 _ _ = true; kernel_rfl)
    | (omega)))
            (repeat refine awp_seqK ?_)
            refine awp_drawsE [(4, some ⟨.osl 4 0 0 (k + 1), [0], some (4, .cells 3 1 0 (ints (L ++ [(n : Int)])))⟩, []), (4, none, [2])] (by kernel_rfl) (by kernel_rfl) ?_
            simp (maxSteps := 4000000) only [go_sem, seval, se_own, se_op, se_nil, List.take_succ_cons, List.take_zero, List.drop_succ_cons, List.drop_zero]
            refine ⟨rfl, sound_appf (n := 1) (full := true) rfl rfl tslice59 tsz3 tbytes3 tzero3 rfl (by omega) rfl rfl rfl rfl (by omega) (by omega) (by omega) (by omega) (by omega) hts1, ?_⟩
            simp only [hseto, hset]
            try simp (maxSteps := 4000000) only [go_sem, seval, se_own, se_op, se_nil, List.take_succ_cons, List.take_zero, List.drop_succ_cons, List.drop_zero]
            refine And.intro (by omega) (And.intro (by omega) ?_)
            rw [show (m : Int) + 1 - 1 = m by omega]
            (refine own_go (hin0) [4, 1, 2, 3] rfl (by simp (maxSteps := 4000000) only [go_sem, seval]) (by simp (maxSteps := 4000000) only [go_sem, seval, Nat.lt_irrefl] <;> decide) (by simp (maxSteps := 4000000) only [go_sem, seval]) ?_; simp (maxSteps := 4000000) only [go_sem, seval]; refine And.intro (frm_of (by repeat (first | exact rfl | exact ⟨_, rfl⟩ | refine And.intro ?_ ?_))) ?_; try simp (maxSteps := 4000000) only [go_sem, seval, sg_cons, sg_nil, List.take_succ_cons, List.take_zero, List.drop_succ_cons, List.drop_zero])
            try simp (maxSteps := 4000000) only [go_sem, seval, se_own, se_op, se_nil, List.take_succ_cons, List.take_zero, List.drop_succ_cons, List.drop_zero]
            refine And.intro (by kernel_rfl) ?_
            refine kt ?_
            (repeat' (first
    | ((exfalso; omega))
    | ((omega))
    | (refine awp_seqK ?_)
    | (refine kt ?_)
    | (refine And.intro ?_ ?_)
    | ((first | refine awp_region ?_ | refine Imp.le2 ?_ | refine awp_label ?_ | refine awp_skip ?_ | refine awp_exit ?_ | refine awp_cd ?_ | refine awp_ret ?_ | refine go_split (fun _h => ?_) (fun _h => ?_)) <;> try simp (maxSteps := 4000000) only [go_sem, seval])
    | (intro _h)
    | (refine awp_block ?_)
    | (refine awp_scope ?_)
    | (refine cond_b (fun _h => ?_) (fun _h => ?_))
    | (show heapOK _ _ = true; kernel_rfl)
    | (show heapOK2 _ _ = true; kernel_rfl)
    | (omega)))
            try (refine ⟨(n + 1, o2), ⟨by show n + 1 ≤ N; omega, hbf rfl⟩, by show N - (n + 1) < N - n; omega, .le2 ?_⟩; simp (maxSteps := 4000000) only [go_sem, seval])
            all_goals first | rfl | exact ⟨rfl, rfl⟩ | trace_state
      · subst hn1
        rw [Nat.sub_self] at hj
        simp only [List.range'_zero, tryS] at hj
        subst hj
        simp only [chB, annC, slR, slC]; simp (maxSteps := 4000000) only [go_sem, seval]
        (repeat' (first
    | ((exfalso; omega))
    | ((omega))
    | (refine awp_seqK ?_)
    | (refine kt ?_)
    | (refine And.intro ?_ ?_)
    | ((first | refine awp_region ?_ | refine awp_draw (by kernel_rfl) (by kernel_rfl) ?_ | refine Imp.le2 ?_ | refine awp_label ?_ | refine awp_skip ?_ | refine awp_exit ?_ | refine awp_cd ?_ | refine awp_ret ?_ | refine callK_of (hst) ?_ | refine go_split (fun _h => ?_) (fun _h => ?_)) <;> try simp (maxSteps := 4000000) only [go_sem, seval])
    | (intro _h)
    | (refine awp_block ?_)
    | (refine awp_scope ?_)
    | (refine cond_b (fun _h => ?_) (fun _h => ?_))
    | (show heapOK _ _ = true; kernel_rfl)
    | (show heapOK2 _ _ = true; kernel_rfl)
    | (omega)))
        all_goals first | rfl | exact ⟨rfl, rfl⟩ | trace_state
end Go.Am

/- Contracts of the annals functions: choose, with no list; Wrong. -/
namespace Go.Am
open Go.RowKit Go.Proofs
attribute [local irreducible] AWP CallS Kt goK CallK stepK evOps SemF SemY Imp
set_option maxRecDepth 4000
set_option linter.unusedSimpArgs false
set_option linter.unusedVariables false
set_option maxHeartbeats 3200000
theorem choose_n (t : Ann) (ht : AnnOK t) (m : Nat) (hm : m ≤ 99) (o : Option (List Int)) :
    SemF Try.prog 78 [.nils, .int .i64 0, .int .i64 ((m : Int) + 1), .ptr 0 0 0, .ptr 1 0 0, .ptr 2 0 0] (chB t o 0) (.bool (chS (pW t) (nStN t) (m + 1) [] 0 o).1) (chB t (chS (pW t) (nStN t) (m + 1) [] 0 o).2 0) := by
  have hk : annOK t := ⟨by have := ht.reports; omega, by have := ht.claims; omega⟩
  have hst := stats_c t hk
  have hN : nStN t ≤ 100 := by unfold nStN; have := ht.reports; have := ht.claims; omega
  have hNe : (t.reports.length : Int) + t.claims.length = (nStN t : Int) := by unfold nStN; push_cast; rfl
  rw [hNe] at hst
  simp only [chS]
  generalize hf : (fun (n : Nat) (o : Option (List Int)) => chS (pW t) (nStN t) m ([] ++ [(n : Int)]) (n + 1) o) = f at *
  have hih : ∀ (n : Nat) (o : Option (List Int)), n < nStN t → SemF Try.prog 78 [.osl 0 0 0 1, .int .i64 ((n : Int) + 1), .int .i64 m, .ptr 1 0 0, .ptr 2 0 0, .ptr 3 0 0] (some (.cells 3 1 0 [.int .i64 n]) :: chB t o 1) (.bool (f n o).1) (some (.cells 3 1 0 [.int .i64 n]) :: chB t (f n o).2 1) := fun n o hn => by
    have h := choose_c t ht m [(n : Int)] (n + 1) o 0 (by simp) (by simp; omega) (by omega)
    subst hf
    have e : ints [(n : Int)] = [.int .i64 n] := rfl
    rw [e] at h
    simpa using h
  clear hf
  generalize nStN t = N at *
  obtain ⟨R, hR⟩ : ∃ R, tryS f (List.range' 0 (N - 0)) o = R := ⟨_, rfl⟩
  rw [hR]
  simp only [chB, annC, slR, slC] at hih hst ⊢
  (refine semF_of_awp (ys := [.bool R.1]) (fun w args => Try.call78 ..) Try.func78 rfl (fun w0 m0 wz => ?_); simp only [Try.ntmps78, Try.results78, initT, junks, rptC, clmC, slR, slC, annC, sl, List.toList_toArray, List.cons_append, List.nil_append, List.length_cons, List.length_nil, Nat.reduceAdd, Nat.reduceSub])
  (repeat' (first
    | (refine awp_seqK ?_)
    | (refine kt ?_)
    | (refine And.intro ?_ ?_)
    | ((first | refine awp_region ?_ | refine awp_draw (by kernel_rfl) (by kernel_rfl) ?_ | refine Imp.le2 ?_ | refine awp_label ?_ | refine awp_skip ?_ | refine awp_exit ?_ | refine awp_cd ?_ | refine awp_ret ?_ | refine go_split (fun _h => ?_) (fun _h => ?_)) <;> try simp (maxSteps := 4000000) only [go_sem, seval])
    | (intro _h)
    | (refine awp_block ?_)
    | (refine awp_scope ?_)
    | (refine cond_b (fun _h => ?_) (fun _h => ?_))
    | (show heapOK _ _ = true; kernel_rfl)
    | (show heapOK2 _ _ = true; kernel_rfl)
    | (omega)))
  refine awp_loopJ (fun x : Nat × Option (List Int) => x.1 ≤ N ∧ tryS f (List.range' x.1 (N - x.1)) x.2 = R) (fun x => ⟨mkT 42 [(0, .nils), (2, .int .i64 ((m : Int) + 1)), (3, .ptr 0 0 0), (4, .ptr 1 0 0), (5, .ptr 2 0 0), (12, .int .i64 x.1)], chB t x.2 0, []⟩) (fun x => N - x.1) (0, o) ⟨by omega, hR⟩ (.le2 ?_) ?_
  · simp only [chB, annC, slR, slC]; simp (maxSteps := 4000000) only [go_sem, seval]
    all_goals first | rfl | exact ⟨rfl, rfl⟩ | trace_state
  · rintro ⟨n, o⟩ ⟨hn, hj⟩
    clear hR
    simp only at hn hj
    rcases Nat.lt_or_eq_of_le hn with hn1 | hn1
    · have hin := hih n o hn1
      obtain ⟨d, hd⟩ : ∃ d, N - n = d + 1 := ⟨N - n - 1, by omega⟩
      have hd2 : N - (n + 1) = d := by omega
      rw [hd, List.range'_succ, ← hd2] at hj
      simp only [tryS] at hj
      obtain ⟨⟨b, o2⟩, hfo⟩ : ∃ r, f n o = r := ⟨_, rfl⟩
      rw [hfo] at hj hin
      simp only at hj hin
      simp only [chB, annC, slR, slC] at hin ⊢
      clear hfo
      have hfin : (b = true → R = (true, o2)) ∧ (b = false → tryS f (List.range' (n + 1) (N - (n + 1))) o2 = R) := by
        refine ⟨fun e => ?_, fun e => ?_⟩
        · rw [if_pos e, e] at hj; exact hj.symm
        · rw [if_neg (by rw [e]; simp)] at hj; exact hj
      obtain ⟨hbt, hbf⟩ := hfin
      clear hj
      cases b
      all_goals
        try (have hR1 := hbt rfl; subst hR1)
        simp (maxSteps := 4000000) only [go_sem, seval]
        (repeat' (first
    | ((exfalso; omega))
    | (refine awp_seqK ?_)
    | (refine kt ?_)
    | (refine And.intro ?_ ?_)
    | ((first | refine awp_region ?_ | refine Imp.le2 ?_ | refine awp_label ?_ | refine awp_skip ?_ | refine awp_exit ?_ | refine awp_cd ?_ | refine awp_ret ?_ | refine callK_of (hst) ?_ | refine go_split (fun _h => ?_) (fun _h => ?_)) <;> try simp (maxSteps := 4000000) only [go_sem, seval])
    | (intro _h)
    | (refine awp_block ?_)
    | (refine awp_scope ?_)
    | (refine cond_b (fun _h => ?_) (fun _h => ?_))
    | (show heapOK _ _ = true; kernel_rfl)
    | (show heapOK2 _ _ = true; kernel_rfl)
    | (omega)))
        ((repeat refine awp_seqK ?_); refine awp_draws [(9, [1])] (by kernel_rfl) (by kernel_rfl) ?_; simp (maxSteps := 4000000) only [go_sem, seval, sg_cons, sg_nil, List.take_succ_cons, List.take_zero, List.drop_succ_cons, List.drop_zero])
        refine And.intro (by omega) (And.intro (by omega) ?_)
        rw [show (m : Int) + 1 - 1 = m by omega]
        (refine own_go (hin) [3, 0, 1, 2] rfl (by simp (maxSteps := 4000000) only [go_sem, seval]) (by simp (maxSteps := 4000000) only [go_sem, seval, Nat.lt_irrefl] <;> decide) (by simp (maxSteps := 4000000) only [go_sem, seval]) ?_; simp (maxSteps := 4000000) only [go_sem, seval]; refine And.intro (frm_of (by repeat (first | exact rfl | exact ⟨_, rfl⟩ | refine And.intro ?_ ?_))) ?_; try simp (maxSteps := 4000000) only [go_sem, seval, sg_cons, sg_nil, List.take_succ_cons, List.take_zero, List.drop_succ_cons, List.drop_zero])
        try simp (maxSteps := 4000000) only [go_sem, seval, se_own, se_op, se_nil, List.take_succ_cons, List.take_zero, List.drop_succ_cons, List.drop_zero]
        refine And.intro (by kernel_rfl) ?_
        refine kt ?_
        (repeat' (first
    | ((exfalso; omega))
    | ((omega))
    | (refine awp_seqK ?_)
    | (refine kt ?_)
    | (refine And.intro ?_ ?_)
    | ((first | refine awp_region ?_ | refine Imp.le2 ?_ | refine awp_label ?_ | refine awp_skip ?_ | refine awp_exit ?_ | refine awp_cd ?_ | refine awp_ret ?_ | refine go_split (fun _h => ?_) (fun _h => ?_)) <;> try simp (maxSteps := 4000000) only [go_sem, seval])
    | (intro _h)
    | (refine awp_block ?_)
    | (refine awp_scope ?_)
    | (refine cond_b (fun _h => ?_) (fun _h => ?_))
    | (show heapOK _ _ = true; kernel_rfl)
    | (show heapOK2 _ _ = true; kernel_rfl)
    | (omega)))
        try (refine ⟨(n + 1, o2), ⟨by show n + 1 ≤ N; omega, hbf rfl⟩, by show N - (n + 1) < N - n; omega, .le2 ?_⟩; simp (maxSteps := 4000000) only [go_sem, seval])
        all_goals first | rfl | exact ⟨rfl, rfl⟩ | trace_state
    · subst hn1
      rw [Nat.sub_self] at hj
      simp only [List.range'_zero, tryS] at hj
      subst hj
      simp only [chB, annC, slR, slC]; simp (maxSteps := 4000000) only [go_sem, seval]
      (repeat' (first
    | ((exfalso; omega))
    | ((omega))
    | (refine awp_seqK ?_)
    | (refine kt ?_)
    | (refine And.intro ?_ ?_)
    | ((first | refine awp_region ?_ | refine awp_draw (by kernel_rfl) (by kernel_rfl) ?_ | refine Imp.le2 ?_ | refine awp_label ?_ | refine awp_skip ?_ | refine awp_exit ?_ | refine awp_cd ?_ | refine awp_ret ?_ | refine callK_of (hst) ?_ | refine go_split (fun _h => ?_) (fun _h => ?_)) <;> try simp (maxSteps := 4000000) only [go_sem, seval])
    | (intro _h)
    | (refine awp_block ?_)
    | (refine awp_scope ?_)
    | (refine cond_b (fun _h => ?_) (fun _h => ?_))
    | (show heapOK _ _ = true; kernel_rfl)
    | (show heapOK2 _ _ = true; kernel_rfl)
    | (omega)))
      all_goals first | rfl | exact ⟨rfl, rfl⟩ | trace_state
end Go.Am

/- Contracts of the annals functions: Wrong. -/
namespace Go.Am
open Go.RowKit Go.Proofs
attribute [local irreducible] AWP CallS Kt goK CallK stepK evOps SemF SemY Imp
set_option maxRecDepth 4000
set_option linter.unusedSimpArgs false
set_option linter.unusedVariables false
set_option maxHeartbeats 3200000
def wrE (t : Ann) : Int := if faultA t = 0 then (if (fnV t).1 = true then 7 else if 12 < nStN t then 3 else 0) else faultA t
theorem Wrong_err (t : Ann) (hb : annOK t) (ht : faultA t = 0 → AnnOK t) (he : wrE t ≠ 0) : CallS Try.prog 47 [.agg (annC t)] (.tup [.nils, .int .i64 (wrE t)]) := by
  have hch := check_c t hb
  have hst := stats_c t hb
  have hNe : (t.reports.length : Int) + t.claims.length = (nStN t : Int) := by unfold nStN; push_cast; rfl
  rw [hNe] at hst
  unfold wrE at he ⊢
  by_cases h0 : faultA t = 0
  · have ht := ht h0
    have hf := find_c t ht
    rw [if_pos h0] at he ⊢
    rw [h0] at hch
    generalize nStN t = N at *
    generalize fnV t = V at *
    obtain ⟨b, S, D⟩ := V
    have e3 : chC (true, S, D) = [.psl false S.length (ints S), .psl false D.length (ints D)] := rfl
    have e4 : chC (false, S, D) = [.nils, .nils] := rfl
    cases b with
    | true =>
      simp only [if_true] at he ⊢
      simp only [annC, slR, slC, e3, e4] at hf hch hst ⊢
      (refine callS_of_awp (fun w args => Try.call47 ..) Try.func47 rfl (fun w0 m0 wz => ?_); simp only [Try.ntmps47, Try.results47, initT, junks, rptC, clmC, slR, slC, annC, sl, List.toList_toArray, List.cons_append, List.nil_append, List.length_cons, List.length_nil, Nat.reduceAdd, Nat.reduceSub])
      (repeat' (first
    | (refine awp_seqK ?_)
    | (refine kt ?_)
    | (refine And.intro ?_ ?_)
    | ((first | refine awp_region ?_ | refine awp_draw (by kernel_rfl) (by kernel_rfl) ?_ | refine Imp.le2 ?_ | refine awp_label ?_ | refine awp_skip ?_ | refine awp_exit ?_ | refine awp_cd ?_ | refine awp_ret ?_ | refine callK_of (hch) ?_ | refine callK_of (hf) ?_ | refine go_split (fun _h => ?_) (fun _h => ?_)) <;> try simp (maxSteps := 4000000) only [go_sem, seval])
    | (intro _h)
    | (refine awp_block ?_)
    | (refine awp_scope ?_)
    | (refine cond_b (fun _h => ?_) (fun _h => ?_))
    | (show heapOK _ _ = true; kernel_rfl)
    | (show heapOK2 _ _ = true; kernel_rfl)
    | (omega)))
      all_goals first | (exfalso; simp at _h; done) | trace_state
    | false =>
      simp only [Bool.false_eq_true, if_false] at he ⊢
      have hN : 12 < N := by
        apply Classical.byContradiction
        intro h; rw [if_neg h] at he; exact he rfl
      rw [if_pos hN]
      simp only [annC, slR, slC, e3, e4] at hf hch hst ⊢
      (refine callS_of_awp (fun w args => Try.call47 ..) Try.func47 rfl (fun w0 m0 wz => ?_); simp only [Try.ntmps47, Try.results47, initT, junks, rptC, clmC, slR, slC, annC, sl, List.toList_toArray, List.cons_append, List.nil_append, List.length_cons, List.length_nil, Nat.reduceAdd, Nat.reduceSub])
      (repeat' (first
    | ((exfalso; omega))
    | (refine awp_seqK ?_)
    | (refine kt ?_)
    | (refine And.intro ?_ ?_)
    | ((first | refine awp_region ?_ | refine awp_draw (by kernel_rfl) (by kernel_rfl) ?_ | refine Imp.le2 ?_ | refine awp_label ?_ | refine awp_skip ?_ | refine awp_exit ?_ | refine awp_cd ?_ | refine awp_ret ?_ | refine callK_of (hch) ?_ | refine callK_of (hf) ?_ | refine callK_of (hst) ?_ | refine go_split (fun _h => ?_) (fun _h => ?_)) <;> try simp (maxSteps := 4000000) only [go_sem, seval])
    | (intro _h)
    | (refine awp_block ?_)
    | (refine awp_scope ?_)
    | (refine cond_b (fun _h => ?_) (fun _h => ?_))
    | (show heapOK _ _ = true; kernel_rfl)
    | (show heapOK2 _ _ = true; kernel_rfl)
    | (omega)))
      all_goals first | (exfalso; simp at _h; done) | trace_state
  · rw [if_neg h0] at he ⊢
    simp only [annC, slR, slC] at hch ⊢
    (refine callS_of_awp (fun w args => Try.call47 ..) Try.func47 rfl (fun w0 m0 wz => ?_); simp only [Try.ntmps47, Try.results47, initT, junks, rptC, clmC, slR, slC, annC, sl, List.toList_toArray, List.cons_append, List.nil_append, List.length_cons, List.length_nil, Nat.reduceAdd, Nat.reduceSub])
    (repeat' (first
    | (refine awp_seqK ?_)
    | (refine kt ?_)
    | (refine And.intro ?_ ?_)
    | ((first | refine awp_region ?_ | refine awp_draw (by kernel_rfl) (by kernel_rfl) ?_ | refine Imp.le2 ?_ | refine awp_label ?_ | refine awp_skip ?_ | refine awp_exit ?_ | refine awp_cd ?_ | refine awp_ret ?_ | refine callK_of (hch) ?_ | refine go_split (fun _h => ?_) (fun _h => ?_)) <;> try simp (maxSteps := 4000000) only [go_sem, seval])
    | (intro _h)
    | (refine awp_block ?_)
    | (refine awp_scope ?_)
    | (refine cond_b (fun _h => ?_) (fun _h => ?_))
    | (show heapOK _ _ = true; kernel_rfl)
    | (show heapOK2 _ _ = true; kernel_rfl)
    | (omega)))
    all_goals first | (exfalso; simp at _h; omega) | (exfalso; simp at _h; done) | trace_state
theorem Wrong_ok (t : Ann) (ht : AnnOK t) (h0 : faultA t = 0) (hv : (fnV t).1 = false) (hn : nStN t ≤ 12) {K : Nat} {l : List Int} (h1 : 1 ≤ K) (h2 : K ≤ nStN t) (hK : hitS (pW t) (nStN t) K = true) (hk : ∀ k, 1 ≤ k → k < K → hitS (pW t) (nStN t) k = false) (hl : keepS (pW t) (nStN t) K = some l) :
    CallS Try.prog 47 [.agg (annC t)] (.tup [.psl false l.length (ints l), .int .i64 0]) := by
  have hb : annOK t := ⟨by have := ht.reports; omega, by have := ht.claims; omega⟩
  have hch := check_c t hb
  have hst := stats_c t hb
  have hf := find_c t ht
  have hNe : (t.reports.length : Int) + t.claims.length = (nStN t : Int) := by unfold nStN; push_cast; rfl
  rw [hNe] at hst
  have hcn := fun k (hk : k ≤ 99) o => choose_n t ht k hk o
  have hit : ∀ k, (chS (pW t) (nStN t) (k + 1) [] 0 (keepS (pW t) (nStN t) k)).1 = hitS (pW t) (nStN t) (k + 1) := fun k => rfl
  have kee : ∀ k, (chS (pW t) (nStN t) (k + 1) [] 0 (keepS (pW t) (nStN t) k)).2 = keepS (pW t) (nStN t) (k + 1) := fun k => rfl
  have k0 : keepS (pW t) (nStN t) 0 = none := rfl
  rw [h0] at hch
  generalize hitS (pW t) (nStN t) = HT at *
  have hcn2 := fun k (hk : k ≤ 99) => hcn k hk (keepS (pW t) (nStN t) k)
  simp only [hit, kee] at hcn2
  clear hcn hit kee
  generalize keepS (pW t) (nStN t) = KP at *
  generalize nStN t = N at *
  generalize fnV t = V at *
  obtain ⟨b, S, D⟩ := V
  simp only at hv
  subst hv
  have e4 : chC (false, S, D) = [.nils, .nils] := rfl
  have hlo : outC (some l) = .psl false l.length (ints l) := rfl
  simp only [annC, slR, slC, e4, chB] at hf hch hst hcn2 ⊢
  (refine callS_of_awp (fun w args => Try.call47 ..) Try.func47 rfl (fun w0 m0 wz => ?_); simp only [Try.ntmps47, Try.results47, initT, junks, rptC, clmC, slR, slC, annC, sl, List.toList_toArray, List.cons_append, List.nil_append, List.length_cons, List.length_nil, Nat.reduceAdd, Nat.reduceSub])
  (repeat' (first
    | ((exfalso; omega))
    | (refine awp_seqK ?_)
    | (refine kt ?_)
    | (refine And.intro ?_ ?_)
    | ((first | refine awp_region ?_ | refine awp_draw (by kernel_rfl) (by kernel_rfl) ?_ | refine Imp.le2 ?_ | refine awp_label ?_ | refine awp_skip ?_ | refine awp_exit ?_ | refine awp_cd ?_ | refine awp_ret ?_ | refine callK_of (hch) ?_ | refine callK_of (hf) ?_ | refine callK_of (hst) ?_ | refine go_split (fun _h => ?_) (fun _h => ?_)) <;> try simp (maxSteps := 4000000) only [go_sem, seval])
    | (intro _h)
    | (refine awp_block ?_)
    | (refine awp_scope ?_)
    | (refine cond_b (fun _h => ?_) (fun _h => ?_))
    | (show heapOK _ _ = true; kernel_rfl)
    | (show heapOK2 _ _ = true; kernel_rfl)
    | (omega)))
  all_goals try (exfalso; simp at _h; done)
  refine awp_loopJ (fun x : Nat => x < K) (fun x => ⟨mkT 32 [(1, .ptr 0 0 0), (7, .ptr 2 0 0), (8, .ptr 3 0 0), (9, .int .i64 ((x : Int) + 1))], [some (.cells 35 1 0 (annC t)), none, some (.cells 59 1 0 [outC (KP x)]), some (.cells 126 1 0 [.fn (.func 78) [] [.ptr 0 0 0, .ptr 2 0 0, .ptr 3 0 0]])], []⟩) (fun x => K - x) 0 (by omega) (.le2 ?_) ?_
  · simp only [annC, slR, slC, k0, outC]; simp (maxSteps := 4000000) only [go_sem, seval]
    all_goals first | rfl | exact ⟨rfl, rfl⟩ | trace_state
  · intro x hx
    have hc := hcn2 x (by omega)
    by_cases hxK : x + 1 = K
    · subst hxK
      rw [hK, hl, hlo] at hc
      simp only [annC, slR, slC]; simp (maxSteps := 4000000) only [go_sem, seval]
      (repeat' (first
    | (refine awp_ownN 2 rfl ?_; simp (maxSteps := 4000000) only [go_sem, seval, List.take_succ_cons, List.take_zero]; (repeat refine And.intro (by omega) ?_); refine own_go (hc) [0, 2, 3] rfl ?_ ?_ rfl ?_ <;> try simp (maxSteps := 4000000) only [go_sem, seval, Nat.lt_irrefl] <;> try decide)
    | ((exfalso; omega))
    | (refine awp_seqK ?_)
    | (refine kt ?_)
    | (refine And.intro ?_ ?_)
    | ((first | refine awp_region ?_ | refine awp_draw (by kernel_rfl) (by kernel_rfl) ?_ | refine Imp.le2 ?_ | refine awp_label ?_ | refine awp_skip ?_ | refine awp_exit ?_ | refine awp_cd ?_ | refine awp_ret ?_ | refine go_split (fun _h => ?_) (fun _h => ?_)) <;> try simp (maxSteps := 4000000) only [go_sem, seval])
    | (intro _h)
    | (refine awp_block ?_)
    | (refine awp_scope ?_)
    | (refine cond_b (fun _h => ?_) (fun _h => ?_))
    | (show heapOK _ _ = true; kernel_rfl)
    | (show heapOK2 _ _ = true; kernel_rfl)
    | (omega)))
      all_goals trace_state
    · have hk1 := hk (x + 1) (by omega) (by omega)
      rw [hk1] at hc
      simp only [annC, slR, slC]; simp (maxSteps := 4000000) only [go_sem, seval]
      (repeat' (first
    | (refine awp_ownN 2 rfl ?_; simp (maxSteps := 4000000) only [go_sem, seval, List.take_succ_cons, List.take_zero]; (repeat refine And.intro (by omega) ?_); refine own_go (hc) [0, 2, 3] rfl ?_ ?_ rfl ?_ <;> try simp (maxSteps := 4000000) only [go_sem, seval, Nat.lt_irrefl] <;> try decide)
    | ((exfalso; omega))
    | ((omega))
    | (refine awp_seqK ?_)
    | (refine kt ?_)
    | (refine And.intro ?_ ?_)
    | ((first | refine awp_region ?_ | refine awp_draw (by kernel_rfl) (by kernel_rfl) ?_ | refine Imp.le2 ?_ | refine awp_label ?_ | refine awp_skip ?_ | refine awp_exit ?_ | refine awp_cd ?_ | refine awp_ret ?_ | refine go_split (fun _h => ?_) (fun _h => ?_)) <;> try simp (maxSteps := 4000000) only [go_sem, seval])
    | (intro _h)
    | (refine awp_block ?_)
    | (refine awp_scope ?_)
    | (refine cond_b (fun _h => ?_) (fun _h => ?_))
    | (show heapOK _ _ = true; kernel_rfl)
    | (show heapOK2 _ _ = true; kernel_rfl)
    | (omega)))
      refine ⟨x + 1, by omega, by omega, .le2 ?_⟩
      simp (maxSteps := 4000000) only [go_sem, seval]
      all_goals first | rfl | exact ⟨rfl, rfl⟩ | trace_state
end Go.Am

/- Plain words: lists of statements, annals without them are valid; what the law Least asks. No program is in sight. -/
namespace Go.Am
open Go.RowKit Go.Proofs
set_option linter.unusedSimpArgs false
set_option linter.unusedVariables false
theorem lis_rise {N : Nat} {l : List Int} : Lis (N : Int) l ↔ Rise 0 N l := by
  constructor
  · intro h
    have hg : ∀ i (hi : i < l.length), l.getD i 0 = l[i] := fun i hi => by simp [List.getD_eq_getElem?_getD, hi]
    have hstep : ∀ i j, i < j → j < l.length → l.getD i 0 < l.getD j 0 := by
      intro i j
      induction j with
      | zero => intro h1; omega
      | succ j ih =>
        intro h1 h2
        have h3 := (h (j + 1) h2).2 (by omega)
        rw [Nat.add_sub_cancel] at h3
        by_cases e : i = j
        · subst e; exact h3
        · have := ih (by omega) (by omega); omega
    refine ⟨?_, fun x hx => ?_⟩
    · rw [List.pairwise_iff_getElem]
      intro i j hi hj hij
      have := hstep i j hij hj
      rw [hg i hi, hg j hj] at this; exact this
    · obtain ⟨i, hi, rfl⟩ := List.mem_iff_getElem.1 hx
      have := (h i hi).1
      rw [hg i hi] at this
      omega
  · intro h i hi
    have hg : ∀ i (hi : i < l.length), l.getD i 0 = l[i] := fun i hi => by simp [List.getD_eq_getElem?_getD, hi]
    refine ⟨?_, fun h0 => ?_⟩
    · rw [hg i hi]
      have := h.rng _ (List.getElem_mem hi)
      omega
    · rw [hg i hi, hg (i - 1) (by omega)]
      exact (List.pairwise_iff_getElem.1 h.up) (i - 1) i (by omega) hi (by omega)
theorem withA_fault {t : Ann} {l : List Int} (h : faultA t = 0) (ht : AnnOK t) : faultA (withA t l) = 0 := by
  have hl := withA_reports (t := t) (l := l)
  have hg := withA_good (l := l) ht
  have hcl := hg.claims
  have hre : (withA t l).rest = t.rest := rfl
  unfold faultA at h ⊢
  rw [hl, hre]
  split at h
  · omega
  · rename_i h1
    rw [if_neg (by omega)]
    split at h
    · omega
    · rename_i h2
      have hR : t.reports.all rptB = true := by
        cases hr : t.reports.all rptB with
        | true => rfl
        | false => exact absurd (.inr (.inl hr)) h2
      have hC : t.claims.all (clmB t) = true := by
        cases hr : t.claims.all (clmB t) with
        | true => rfl
        | false => exact absurd (.inr (.inr hr)) h2
      have h3 : ¬ (t.reports.length = 0 ∨ ¬ (0 ≤ t.rest ∧ t.rest ≤ 100000)) := fun h => h2 (.inl h)
      have hR2 : (withA t l).reports.all rptB = true := by
        rw [List.all_eq_true]
        intro r hr
        obtain ⟨i, hi, rfl⟩ := List.mem_iff_getElem.1 hr
        have hi2 : i < t.reports.length := by rw [hl] at hi; exact hi
        have e : (withA t l).reports[i] = wRpt l t i := by
          rw [← withA_rp hi2, List.getD_eq_getElem?_getD, List.getElem?_eq_getElem hi]; rfl
        rw [e]
        have hs : rptB (t.reports.getD i default) = true := List.all_eq_true.1 hR _ (by rw [List.getD_eq_getElem?_getD, List.getElem?_eq_getElem hi2]; exact List.getElem_mem hi2)
        unfold wRpt
        split
        · unfold rptB at hs ⊢
          simp only [decide_eq_true_eq] at hs ⊢
          refine ⟨hs.1, ?_, ?_, ?_⟩ <;> simp
        · exact hs
      have hC2 : (withA t l).claims.all (clmB (withA t l)) = true := by
        rw [List.all_eq_true]
        intro c hc
        have := List.all_eq_true.1 hC c (wClm_mem (Nat.le_refl _) hc)
        unfold clmB inxB at this ⊢
        rw [hl]; exact this
      rw [if_neg (by
        rintro (h | h | h)
        · exact h3 h
        · rw [hR2] at h; cases h
        · rw [hC2] at h; cases h)]
theorem findE_with {t : Ann} {l : List Int} (h : faultA t = 0) (ht : AnnOK t) : findE (withA t l) = if pW t l = true then 0 else 9 := by
  unfold findE
  rw [if_pos (withA_fault h ht)]
  rfl
/-- All but one of a list. -/
def butK (l : List Int) (k : Nat) : List Int := l.take k ++ l.drop (k + 1)
theorem butK_len {l : List Int} {k : Nat} (h : k < l.length) : (butK l k).length = l.length - 1 := by
  unfold butK; rw [List.length_append, List.length_take, List.length_drop]; omega
theorem butK_rise {a N : Nat} {l : List Int} {k : Nat} (h : Rise a N l) : Rise a N (butK l k) := by
  have hs : (butK l k).Sublist l := by
    have h1 : l.take k ++ l.drop k = l := List.take_append_drop k l
    have h2 : (l.drop (k + 1)).Sublist (l.drop k) := List.drop_sublist_drop_left l (by omega)
    have h3 := List.Sublist.append (List.Sublist.refl (l.take k)) h2
    rw [h1] at h3
    exact h3
  exact ⟨h.up.sublist hs, fun x hx => h.rng x (hs.subset hx)⟩
/-- What the law Least asks of the least list. -/
structure LeastP (t : Ann) (l : List Int) : Prop where
  pos : 0 < l.length
  lis : Lis (nStN t) l
  yes : findE (withA t l) = 0
  one : ∀ k, k < l.length → findE (withA t (butK l k)) = 9
  other : ∀ c, Lis (nStN t) c → findE (withA t c) = 9 ∨ findE (withA t c) = 0 ∧ (l.length < c.length ∨ c.length = l.length ∧ ltL c l = false)
theorem least_p {t : Ann} {l : List Int} (h : faultA t = 0) (ht : AnnOK t) (hv : (fnV t).1 = false) (hl : LeastS (pW t) (nStN t) l) : LeastP t l := by
  have hpos : 0 < l.length := by
    rcases Nat.eq_zero_or_pos l.length with h0 | h0
    · have : l = [] := List.length_eq_zero_iff.1 h0
      have h1 := hl.yes
      rw [this, pW_nil, hv] at h1; cases h1
    · exact h0
  refine ⟨hpos, lis_rise.2 hl.rise, by rw [findE_with h ht, if_pos hl.yes], fun k hk => ?_, fun c hc => ?_⟩
  · rw [findE_with h ht, hl.fewer _ (butK_rise hl.rise) (by rw [butK_len hk]; omega)]; rfl
  · rw [findE_with h ht]
    have hr := lis_rise.1 hc
    cases hp : pW t c with
    | false => left; rfl
    | true =>
      right
      refine ⟨rfl, ?_⟩
      rcases Nat.lt_trichotomy c.length l.length with h1 | h1 | h1
      · have := hl.fewer c hr h1; rw [hp] at this; cases this
      · exact .inr ⟨h1, decide_eq_false (hl.less c hr h1 hp)⟩
      · exact .inl h1
end Go.Am

/- The law AnnalsLeast, as a contract: it returns true, if awake does. -/
namespace Go.Am
open Go.RowKit Go.Proofs
attribute [local irreducible] AWP CallS Kt goK CallK stepK evOps SemF SemY Imp
set_option maxRecDepth 4000
set_option linter.unusedSimpArgs false
set_option linter.unusedVariables false
set_option maxHeartbeats 6400000
theorem list_o (l : List Int) (hl : l.length ≤ 1000000) : SemF Try.prog 38 [sl l] [] (.osl 0 0 0 l.length) [some (.cells 3 1 0 (ints l))] := by
  simp only [sl]
  (refine semF_of_awp (ys := [.osl 0 0 0 l.length]) (fun w args => Try.call38 ..) Try.func38 rfl (fun w0 m0 wz => ?_); simp only [Try.ntmps38, Try.results38, initT, junks, rptC, clmC, slR, slC, annC, sl, List.toList_toArray, List.cons_append, List.nil_append, List.length_cons, List.length_nil, Nat.reduceAdd, Nat.reduceSub])
  (repeat' (first
    | (refine awp_seqK ?_)
    | (refine kt ?_)
    | (refine And.intro ?_ ?_)
    | ((first | refine awp_region ?_ | refine awp_draw (by kernel_rfl) (by kernel_rfl) ?_ | refine Imp.le2 ?_ | refine awp_label ?_ | refine awp_skip ?_ | refine awp_exit ?_ | refine awp_cd ?_ | refine awp_ret ?_ | refine go_split (fun _h => ?_) (fun _h => ?_)) <;> try simp (maxSteps := 4000000) only [go_sem, seval])
    | (intro _h)
    | (refine awp_block ?_)
    | (refine awp_scope ?_)
    | (refine cond_b (fun _h => ?_) (fun _h => ?_))
    | (show heapOK _ _ = true; kernel_rfl)
    | (show heapOK2 _ _ = true; kernel_rfl)
    | (omega)))
  all_goals trace_state
theorem rtake_arg (t : Ann) (g : Nat) (l : List Int) (n : Nat) (hn : n = l.length) (h : annOK t) (hl : l.length ≤ 1000000) : SemF Try.prog 41 [.agg (annC t), .osl 0 g 0 n] [some (.cells 3 1 g (ints l))] (.agg (annC (withA t l))) [some (.cells 3 1 (g + 1) [])] := by
  subst hn
  have e : fzl (fz2 0 g (ints l)) [.agg (annC t), .osl 0 g 0 l.length] = [.agg (annC t), sl l] := by
    simp [fzl, fz2, fz1, fz0, annC, slR, slC, sl]
  refine semF_take ?_ ?_ ?_
  · rw [e]; exact rwithout_c t l h hl
  · intro y hy
    simp only [ints, List.mem_map] at hy
    obtain ⟨n, _, rfl⟩ := hy
    rfl
  · rw [e]
    intro x hx
    simp only [List.mem_cons, List.not_mem_nil, or_false] at hx
    rcases hx with rfl | rfl <;> rfl
end Go.Am

/- The law AnnalsLeast, as a contract: it returns true, if awake does. -/
namespace Go.Am
open Go.RowKit Go.Proofs
attribute [local irreducible] AWP CallS Kt goK CallK stepK evOps SemF SemY Imp
set_option maxRecDepth 4000
set_option linter.unusedSimpArgs false
set_option linter.unusedVariables false
set_option maxHeartbeats 6400000
theorem leastLaw (hA : CallS Try.prog 17 [] (.bool true)) (t : Ann) (hkd : ∀ c ∈ t.claims, 0 ≤ c.kind) (O : List Int) (x : Int) (hx : 0 ≤ x ∧ x ≤ 255) : CallS Try.prog 14 [.agg (annC t), sl O, .int .u8 x] (.bool true) := by
  have hre := ready_c t
  by_cases hR : readyB t = true ∧ O.length ≤ 20
  · obtain ⟨hR, hO⟩ := hR
    have hR2 := hR
    unfold readyB at hR2
    simp only [Bool.and_eq_true, decide_eq_true_eq] at hR2
    obtain ⟨hT, h0⟩ := hR2
    have hb := thinB_ok hT
    have ht := faultA_ok hkd h0
    have han := annals_c t hb
    rw [hR] at hre
    have hst := rstats_c t hb
    have hNe : (t.reports.length : Int) + t.claims.length = (nStN t : Int) := by unfold nStN; push_cast; rfl
    rw [hNe] at hst
    by_cases hw0 : wrE t = 0
    · have hv : (fnV t).1 = false := by
        cases hv : (fnV t).1 with
        | false => rfl
        | true => unfold wrE at hw0; rw [if_pos h0, if_pos hv] at hw0; cases hw0
      have h12 : nStN t ≤ 12 := by
        apply Classical.byContradiction
        intro h
        unfold wrE at hw0; rw [if_pos h0, if_neg (by rw [hv]; simp), if_pos (by omega)] at hw0; cases hw0
      obtain ⟨K, l, a1, a2, a3, a4, a5, a6, a7⟩ := wrong_ex ht hv
      have hw := Wrong_ok t ht h0 hv h12 a1 a2 a3 a4 a5
      obtain ⟨p1, p2, p3, p4, p5⟩ := least_p h0 ht hv a7
      have hl12 : l.length ≤ 12 := by omega
      clear a3 a4 a5 a6 a7
      obtain ⟨k, hk⟩ := Int.eq_ofNat_of_zero_le (a := x.tmod (l.length : Int)) (by rw [Int.tmod_eq_emod_of_nonneg hx.1]; exact Int.emod_nonneg _ (by omega))
      have hkl : k < l.length := by
        have h1 : x.tmod (l.length : Int) < l.length := by rw [Int.tmod_eq_emod_of_nonneg hx.1]; exact Int.emod_lt_of_pos _ (by omega)
        rw [hk] at h1
        have h1 : (k : Int) < l.length := h1
        omega
      have hli := listed_c t l hb (by omega)
      have hlo := listed_c t O hb (by omega)
      rw [hNe] at hli hlo
      rw [decide_eq_true p2] at hli
      have hW := fun c : List Int => Find_c (withA t c) (withA_ok hb) (fun _ => withA_good ht)
      have hWA := fun c : List Int => annals_c (withA t c) (withA_ok hb)
      have hwl := rwithout_c t l hb (by omega)
      have hwO := rwithout_c t O hb (by omega)
      have hlk := list_o (l.take k) (by rw [List.length_take]; omega)
      have hbl := butK_len hkl
      have hwk := rtake_arg t 1 (butK l k) (l.length - 1) hbl.symm hb (by omega)
      have hF1 := hW l
      have hF2 := hW (butK l k)
      have hF3 := hW O
      have hA1 := hWA l
      have hA2 := hWA (butK l k)
      have hA3 := hWA O
      rw [p3] at hF1
      rw [p4 k hkl] at hF2
      have f3 : ∀ u, ∃ v, findV u = chC v := fun u => by
        unfold findV
        split
        · exact ⟨_, rfl⟩
        · exact ⟨(false, [], []), rfl⟩
      obtain ⟨v1, e1⟩ := f3 (withA t l)
      obtain ⟨v2, e2⟩ := f3 (withA t (butK l k))
      obtain ⟨v3, e3⟩ := f3 (withA t O)
      rw [e1] at hF1
      rw [e2] at hF2
      rw [e3] at hF3
      clear f3 e1 e2 e3 hW hWA hR hT
      have hLt : (l.take k).length = k := by rw [List.length_take]; omega
      have hLd : (l.drop (k + 1)).length = l.length - (k + 1) := List.length_drop
      have hbk : ints (l.take k) ++ ints (l.drop (k + 1)) = ints (butK l k) := by unfold butK; rw [ints_append]
      have hw1 : window (ints l) 0 k = ints (l.take k) := by simp [window, ints]
      have hn2 : ((l.length : Int) - ((k : Int) + 1)).toNat = l.length - (k + 1) := by omega
      have hsum : k + (l.length - (k + 1)) = l.length - 1 := by omega
      have hw2 : window (ints l) ((k : Int) + 1).toNat ((l.length : Int) - ((k : Int) + 1)).toNat = ints (l.drop (k + 1)) := by
        rw [hn2, show ((k : Int) + 1).toNat = k + 1 by omega]
        unfold window ints
        rw [← List.map_drop, ← List.map_take]
        congr 1
        exact List.take_of_length_le (by rw [hLd]; omega)
      by_cases hLO : Lis (nStN t) O
      · rw [decide_eq_true hLO] at hlo
        have hle := lessR_c O l (by omega) (by omega)
        obtain ⟨q, hq⟩ : ∃ q, ltL O l = q := ⟨_, rfl⟩
        obtain ⟨e3, he3⟩ : ∃ e, findE (withA t O) = e := ⟨_, rfl⟩
        have hcase : e3 = 9 ∨ e3 = 0 ∧ (l.length < O.length ∨ O.length = l.length ∧ q = false) := by
          rw [← hq, ← he3]; exact p5 O hLO
        rw [hq] at hle
        rw [he3] at hF3
        clear hq he3
        generalize nStN t = N at *
        generalize faultA t = ft at *
        generalize withA t l = W1 at *
        generalize withA t (butK l k) = W2 at *
        generalize withA t O = W3 at *
        generalize butK l k = B at *
        simp only [annC, slR, slC, sl, hLt] at hre han hst hw hli hlo hwl hwO hlk hwk hle hF1 hF2 hF3 hA1 hA2 hA3 ⊢
        (refine callS_of_awp (fun w args => Try.call14 ..) Try.func14 rfl (fun w0 m0 wz => ?_); simp only [Try.ntmps14, Try.results14, initT, junks, rptC, clmC, slR, slC, annC, sl, List.toList_toArray, List.cons_append, List.nil_append, List.length_cons, List.length_nil, Nat.reduceAdd, Nat.reduceSub])
        (repeat' (first
    | ((exact Try.underlying4))
    | ((omega))
    | ((exfalso; omega))
    | (refine awp_seqK ?_)
    | (refine kt ?_)
    | (refine And.intro ?_ ?_)
    | ((first | refine awp_region ?_ | refine Imp.le2 ?_ | refine awp_label ?_ | refine awp_skip ?_ | refine awp_exit ?_ | refine awp_cd ?_ | refine awp_ret ?_ | refine callK_of (hre) ?_ | refine callK_of (han) ?_ | refine callK_of (hw) ?_ | refine callK_of (hli) ?_ | refine callK_of (hwl) ?_ | refine callK_of (hA1) ?_ | refine callK_of (hF1) ?_ | refine go_split (fun _h => ?_) (fun _h => ?_)) <;> try simp (maxSteps := 4000000) only [go_sem, seval, hk])
    | (intro _h)
    | (refine awp_block ?_)
    | (refine awp_scope ?_)
    | (refine cond_b (fun _h => ?_) (fun _h => ?_))
    | (show heapOK _ _ = true; kernel_rfl)
    | (show heapOK2 _ _ = true; kernel_rfl)
    | (omega)))
        (repeat refine awp_seqK ?_)
        refine awp_drawsE [(4, some ⟨.osl 2 0 0 k, [], some (2, .cells 3 1 0 (ints (l.take k)))⟩, []), (5, some ⟨.agg (annC W2), [], some (2, .cells 3 1 2 [])⟩, [])] (by kernel_rfl) (by kernel_rfl) ?_
        simp (maxSteps := 4000000) only [go_sem, seval, se_own, se_op, se_nil, List.take_succ_cons, List.take_zero, List.drop_succ_cons, List.drop_zero]
        refine And.intro (by omega) (And.intro (by omega) ?_)
        rw [hw1]
        refine ⟨rfl, sound_call1 rfl rfl 2 (ars := [.psl false k (ints (l.take k))]) rfl hlk (c0 := none) (fun i => by cases i <;> rfl) (fun i => by cases i <;> rfl) (fun _ h => by cases h) (by simp [refs]) rfl (by simp [ren]) (by simp [renL_ints]), ?_⟩
        try simp only [hseto, hset]
        try simp (maxSteps := 4000000) only [go_sem, seval, se_own, se_op, se_nil, List.take_succ_cons, List.take_zero, List.drop_succ_cons, List.drop_zero]
        rw [hw2, hn2]
        refine And.intro (by omega) (And.intro (by omega) (And.intro (by omega) (And.intro (by rw [ints_length]; exact hLd) (And.intro hLt (And.intro (by omega) (And.intro (by omega) ?_))))))
        rw [hbk, hsum]
        refine ⟨rfl, sound_call1 rfl rfl 2 (ars := [.agg (annC t), .osl 0 1 0 (l.length - 1)]) rfl hwk (c0 := some (.cells 3 1 1 (ints B))) (fun i => by cases i <;> rfl) (fun i => by cases i <;> rfl) (fun _ h => by cases h; exact ⟨⟨_, _, _, _, rfl⟩, by simp [refsB, refsL_ints]⟩) (fun j h => by rcases j with _ | _ | j <;> first | (exfalso; revert h; simp; done) | simp [annC, slR, slC, refs, refsL]) (by simp [renB, renL_ints, hget]) (by simp [ren, renL, annC, slR, slC]) rfl, ?_⟩
        try simp only [hseto, hset]
        try simp (maxSteps := 4000000) only [go_sem, seval, se_own, se_op, se_nil, List.take_succ_cons, List.take_zero, List.drop_succ_cons, List.drop_zero]
        (repeat' (first
    | ((exact Try.underlying4))
    | ((omega))
    | ((exfalso; omega))
    | (refine awp_seqK ?_)
    | (refine kt ?_)
    | (refine And.intro ?_ ?_)
    | ((first | refine awp_region ?_ | refine Imp.le2 ?_ | refine awp_label ?_ | refine awp_skip ?_ | refine awp_exit ?_ | refine awp_cd ?_ | refine awp_ret ?_ | refine callK_of (hre) ?_ | refine callK_of (hlo) ?_ | refine callK_of (hwO) ?_ | refine callK_of (hA2) ?_ | refine callK_of (hF2) ?_ | refine callK_of (hA3) ?_ | refine callK_of (hF3) ?_ | refine callK_of (hle) ?_ | refine callK_of (hA) ?_ | refine go_split (fun _h => ?_) (fun _h => ?_)) <;> try simp (maxSteps := 4000000) only [go_sem, seval, hk])
    | (intro _h)
    | (refine awp_block ?_)
    | (refine awp_scope ?_)
    | (refine cond_b (fun _h => ?_) (fun _h => ?_))
    | (show heapOK _ _ = true; kernel_rfl)
    | (show heapOK2 _ _ = true; kernel_rfl)
    | (omega)))
        all_goals first | (exfalso; rcases hcase with h | ⟨_, h | ⟨_, h⟩⟩ <;> first | omega | (rw [h] at _h; cases _h)) | trace_state
      · rw [decide_eq_false hLO] at hlo
        generalize nStN t = N at *
        generalize faultA t = ft at *
        generalize withA t l = W1 at *
        generalize withA t (butK l k) = W2 at *
        generalize withA t O = W3 at *
        generalize butK l k = B at *
        simp only [annC, slR, slC, sl, hLt] at hre han hst hw hli hlo hwl hwO hlk hwk hF1 hF2 hF3 hA1 hA2 hA3 ⊢
        (refine callS_of_awp (fun w args => Try.call14 ..) Try.func14 rfl (fun w0 m0 wz => ?_); simp only [Try.ntmps14, Try.results14, initT, junks, rptC, clmC, slR, slC, annC, sl, List.toList_toArray, List.cons_append, List.nil_append, List.length_cons, List.length_nil, Nat.reduceAdd, Nat.reduceSub])
        (repeat' (first
    | ((exact Try.underlying4))
    | ((omega))
    | ((exfalso; omega))
    | (refine awp_seqK ?_)
    | (refine kt ?_)
    | (refine And.intro ?_ ?_)
    | ((first | refine awp_region ?_ | refine Imp.le2 ?_ | refine awp_label ?_ | refine awp_skip ?_ | refine awp_exit ?_ | refine awp_cd ?_ | refine awp_ret ?_ | refine callK_of (hre) ?_ | refine callK_of (han) ?_ | refine callK_of (hw) ?_ | refine callK_of (hli) ?_ | refine callK_of (hwl) ?_ | refine callK_of (hA1) ?_ | refine callK_of (hF1) ?_ | refine go_split (fun _h => ?_) (fun _h => ?_)) <;> try simp (maxSteps := 4000000) only [go_sem, seval, hk])
    | (intro _h)
    | (refine awp_block ?_)
    | (refine awp_scope ?_)
    | (refine cond_b (fun _h => ?_) (fun _h => ?_))
    | (show heapOK _ _ = true; kernel_rfl)
    | (show heapOK2 _ _ = true; kernel_rfl)
    | (omega)))
        (repeat refine awp_seqK ?_)
        refine awp_drawsE [(4, some ⟨.osl 2 0 0 k, [], some (2, .cells 3 1 0 (ints (l.take k)))⟩, []), (5, some ⟨.agg (annC W2), [], some (2, .cells 3 1 2 [])⟩, [])] (by kernel_rfl) (by kernel_rfl) ?_
        simp (maxSteps := 4000000) only [go_sem, seval, se_own, se_op, se_nil, List.take_succ_cons, List.take_zero, List.drop_succ_cons, List.drop_zero]
        refine And.intro (by omega) (And.intro (by omega) ?_)
        rw [hw1]
        refine ⟨rfl, sound_call1 rfl rfl 2 (ars := [.psl false k (ints (l.take k))]) rfl hlk (c0 := none) (fun i => by cases i <;> rfl) (fun i => by cases i <;> rfl) (fun _ h => by cases h) (by simp [refs]) rfl (by simp [ren]) (by simp [renL_ints]), ?_⟩
        try simp only [hseto, hset]
        try simp (maxSteps := 4000000) only [go_sem, seval, se_own, se_op, se_nil, List.take_succ_cons, List.take_zero, List.drop_succ_cons, List.drop_zero]
        rw [hw2, hn2]
        refine And.intro (by omega) (And.intro (by omega) (And.intro (by omega) (And.intro (by rw [ints_length]; exact hLd) (And.intro hLt (And.intro (by omega) (And.intro (by omega) ?_))))))
        rw [hbk, hsum]
        refine ⟨rfl, sound_call1 rfl rfl 2 (ars := [.agg (annC t), .osl 0 1 0 (l.length - 1)]) rfl hwk (c0 := some (.cells 3 1 1 (ints B))) (fun i => by cases i <;> rfl) (fun i => by cases i <;> rfl) (fun _ h => by cases h; exact ⟨⟨_, _, _, _, rfl⟩, by simp [refsB, refsL_ints]⟩) (fun j h => by rcases j with _ | _ | j <;> first | (exfalso; revert h; simp; done) | simp [annC, slR, slC, refs, refsL]) (by simp [renB, renL_ints, hget]) (by simp [ren, renL, annC, slR, slC]) rfl, ?_⟩
        try simp only [hseto, hset]
        try simp (maxSteps := 4000000) only [go_sem, seval, se_own, se_op, se_nil, List.take_succ_cons, List.take_zero, List.drop_succ_cons, List.drop_zero]
        (repeat' (first
    | ((exact Try.underlying4))
    | ((omega))
    | ((exfalso; omega))
    | (refine awp_seqK ?_)
    | (refine kt ?_)
    | (refine And.intro ?_ ?_)
    | ((first | refine awp_region ?_ | refine Imp.le2 ?_ | refine awp_label ?_ | refine awp_skip ?_ | refine awp_exit ?_ | refine awp_cd ?_ | refine awp_ret ?_ | refine callK_of (hre) ?_ | refine callK_of (hlo) ?_ | refine callK_of (hwO) ?_ | refine callK_of (hA2) ?_ | refine callK_of (hF2) ?_ | refine callK_of (hA3) ?_ | refine callK_of (hF3) ?_ | refine callK_of (hA) ?_ | refine go_split (fun _h => ?_) (fun _h => ?_)) <;> try simp (maxSteps := 4000000) only [go_sem, seval, hk])
    | (intro _h)
    | (refine awp_block ?_)
    | (refine awp_scope ?_)
    | (refine cond_b (fun _h => ?_) (fun _h => ?_))
    | (show heapOK _ _ = true; kernel_rfl)
    | (show heapOK2 _ _ = true; kernel_rfl)
    | (omega)))
        all_goals trace_state
    · have hw := Wrong_err t hb (fun _ => ht) hw0
      have hF := Find_c t hb (fun _ => ht)
      have hcase : wrE t = 7 ∧ findE t = 0 ∨ wrE t = 3 ∧ findE t = 9 ∧ 12 < nStN t := by
        unfold wrE findE at *
        rw [if_pos h0] at hw0 ⊢
        rw [if_pos h0]
        cases hv : (fnV t).1 with
        | true => left; simp
        | false =>
          right
          rw [hv] at hw0
          simp only [Bool.false_eq_true, if_false] at hw0 ⊢
          by_cases h : 12 < nStN t
          · rw [if_pos h]; simp [h]
          · rw [if_neg h] at hw0; exact absurd rfl hw0
      obtain ⟨v, hv⟩ : ∃ v, findV t = chC v := by
        unfold findV
        split
        · exact ⟨_, rfl⟩
        · exact ⟨(false, [], []), rfl⟩
      rw [hv] at hF
      clear hv hw0 hR hT hNe
      generalize wrE t = we at *
      generalize findE t = fe at *
      generalize nStN t = N at *
      rcases hcase with ⟨rfl, rfl⟩ | ⟨rfl, rfl, hN⟩
      all_goals
        simp only [annC, slR, slC, sl] at hre han hst hw hF ⊢
        (refine callS_of_awp (fun w args => Try.call14 ..) Try.func14 rfl (fun w0 m0 wz => ?_); simp only [Try.ntmps14, Try.results14, initT, junks, rptC, clmC, slR, slC, annC, sl, List.toList_toArray, List.cons_append, List.nil_append, List.length_cons, List.length_nil, Nat.reduceAdd, Nat.reduceSub])
        (repeat' (first
    | ((exact Try.underlying4))
    | ((omega))
    | ((exfalso; omega))
    | (refine awp_seqK ?_)
    | (refine kt ?_)
    | (refine And.intro ?_ ?_)
    | ((first | refine awp_region ?_ | refine awp_draw (by kernel_rfl) (by kernel_rfl) ?_ | refine Imp.le2 ?_ | refine awp_label ?_ | refine awp_skip ?_ | refine awp_exit ?_ | refine awp_cd ?_ | refine awp_ret ?_ | refine callK_of (hre) ?_ | refine callK_of (han) ?_ | refine callK_of (hw) ?_ | refine callK_of (hF) ?_ | refine callK_of (hst) ?_ | refine callK_of (hA) ?_ | refine go_split (fun _h => ?_) (fun _h => ?_)) <;> try simp (maxSteps := 4000000) only [go_sem, seval])
    | (intro _h)
    | (refine awp_block ?_)
    | (refine awp_scope ?_)
    | (refine cond_b (fun _h => ?_) (fun _h => ?_))
    | (show heapOK _ _ = true; kernel_rfl)
    | (show heapOK2 _ _ = true; kernel_rfl)
    | (omega)))
        all_goals first | (exfalso; simp at _h; done) | trace_state
  · have hcase : readyB t = false ∨ readyB t = true ∧ 20 < O.length := by
      cases h : readyB t with
      | false => exact .inl rfl
      | true => exact .inr ⟨rfl, by
          apply Classical.byContradiction
          intro h2; exact hR ⟨h, by omega⟩⟩
    rcases hcase with h | ⟨h, h2⟩
    all_goals
      rw [h] at hre
      simp only [annC, slR, slC, sl] at hre ⊢
      (refine callS_of_awp (fun w args => Try.call14 ..) Try.func14 rfl (fun w0 m0 wz => ?_); simp only [Try.ntmps14, Try.results14, initT, junks, rptC, clmC, slR, slC, annC, sl, List.toList_toArray, List.cons_append, List.nil_append, List.length_cons, List.length_nil, Nat.reduceAdd, Nat.reduceSub])
      (repeat' (first
    | ((omega))
    | ((exfalso; omega))
    | (refine awp_seqK ?_)
    | (refine kt ?_)
    | (refine And.intro ?_ ?_)
    | ((first | refine awp_region ?_ | refine awp_draw (by kernel_rfl) (by kernel_rfl) ?_ | refine Imp.le2 ?_ | refine awp_label ?_ | refine awp_skip ?_ | refine awp_exit ?_ | refine awp_cd ?_ | refine awp_ret ?_ | refine callK_of (hre) ?_ | refine callK_of (hA) ?_ | refine go_split (fun _h => ?_) (fun _h => ?_)) <;> try simp (maxSteps := 4000000) only [go_sem, seval])
    | (intro _h)
    | (refine awp_block ?_)
    | (refine awp_scope ?_)
    | (refine cond_b (fun _h => ?_) (fun _h => ?_))
    | (show heapOK _ _ = true; kernel_rfl)
    | (show heapOK2 _ _ = true; kernel_rfl)
    | (omega)))
      all_goals first | (exfalso; simp at _h; done) | trace_state
end Go.Am

/- The law AnnalsLeast, as a contract: it returns true. -/
namespace Go.Am
open Go.RowKit Go.Proofs
theorem annalsLeast_c (t : Ann) (O : List Int) (x : Int) (ht : AnnR t) (hx : okI .u8 x) : CallS Try.prog 14 [.agg (annC t), sl O, .int .u8 x] (.bool true) :=
  leastLaw awake_c t (fun c hc => (ht.claims c hc).1.1) O x (okI_u8 hx)
end Go.Am
