/- Parts TwA, TmA, TmC, TwB of the proof, one behind the other. No statement is proved here. -/
import Derived.Test.YtghlpjfpfjpddaaK6
set_option linter.unusedVariables false -- all
set_option linter.unusedSimpArgs false
/- Plain words: the fewest buses, sought by putting home after home into a bus that there is or into a new one. -/
namespace Go.Am
open Go.RowKit Go.Proofs
set_option linter.unusedSimpArgs false
set_option linter.unusedVariables false
/-- A plan that is right for the first so many homes. -/
structure RefM (t : Town) (P : List Bus) (m : Nat) : Prop where
  len : P.length ≤ 8
  one : ∀ j, j < P.length → OneP t (P.getD j default)
  cnt : ∀ h, h < t.homes.length → cntN P P.length h = if h < m then 1 else 0
  roo : ∀ i, i < t.halls.length → roomN t P P.length i ≤ (t.halls.getD i default).room
open Classical in
noncomputable def refM (t : Town) (P : List Bus) (m : Nat) : Bool := decide (RefM t P m)
def putB (t : Town) (P : List Bus) (n i k : Nat) : List Bus :=
  if i < P.length then P.set i ⟨max (P.getD i default).leave (worstN t (t.homes.getD n default)), (P.getD i default).hall, (P.getD i default).homes ++ [(n : Int)]⟩
  else P ++ [⟨worstN t (t.homes.getD n default), k, [(n : Int)]⟩]
open Classical in
noncomputable def tryR (t : Town) (f : List Bus → Int) (Q : List Bus) (i : Nat) (best : Int) : Int :=
  if OneP t (Q.getD i default) then (if 0 ≤ f Q ∧ (best < 0 ∨ f Q < best) then f Q else best) else best
noncomputable def rowR (t : Town) (f : List Bus → Int) (P : List Bus) (n i : Nat) : Nat → Int → Int
  | 0, best => best
  | k + 1, best => if i < P.length ∧ (k : Int) ≠ (P.getD i default).hall then rowR t f P n i k best else tryR t f (putB t P n i k) i (rowR t f P n i k best)
noncomputable def outR (t : Town) (f : List Bus → Int) (P : List Bus) (n : Nat) : Nat → Int
  | 0 => -1
  | i + 1 => rowR t f P n i t.halls.length (outR t f P n i)
noncomputable def fewR (t : Town) (m : Nat) : Nat → Nat → List Bus → Int
  | 0, _, P => if refM t P m = true then P.length else -1
  | k + 1, n, P => outR t (fewR t m k (n + 1)) P n (P.length + 1)
def SayR (t : Town) (m : Nat) (b : Int) : Prop := b = -1 ∨ ∃ Q, RefM t Q m ∧ (Q.length : Int) = b
theorem tryR_say {t : Town} {m : Nat} {f : List Bus → Int} (hf : ∀ Q, SayR t m (f Q)) {Q : List Bus} {i : Nat} {best : Int} (h : SayR t m best) : SayR t m (tryR t f Q i best) := by
  unfold tryR
  split
  · split
    · exact hf Q
    · exact h
  · exact h
theorem rowR_say {t : Town} {m : Nat} {f : List Bus → Int} (hf : ∀ Q, SayR t m (f Q)) {P : List Bus} {n i : Nat} : ∀ {k : Nat} {best : Int}, SayR t m best → SayR t m (rowR t f P n i k best)
  | 0, _, h => h
  | k + 1, best, h => by
    unfold rowR
    split
    · exact rowR_say hf h
    · exact tryR_say hf (rowR_say hf h)
theorem outR_say {t : Town} {m : Nat} {f : List Bus → Int} (hf : ∀ Q, SayR t m (f Q)) {P : List Bus} {n : Nat} : ∀ {i : Nat}, SayR t m (outR t f P n i)
  | 0 => .inl rfl
  | i + 1 => rowR_say hf (outR_say hf)
theorem fewR_say {t : Town} {m : Nat} : ∀ {k n : Nat} {P : List Bus}, SayR t m (fewR t m k n P)
  | 0, n, P => by
    unfold fewR
    split
    · rename_i h
      exact .inr ⟨P, @of_decide_eq_true _ (Classical.propDecidable _) h, rfl⟩
    · exact .inl rfl
  | k + 1, n, P => outR_say fun Q => fewR_say
def AtR (b v : Int) : Prop := 0 ≤ b ∧ b ≤ v
theorem tryR_keep {t : Town} {f : List Bus → Int} {Q : List Bus} {i : Nat} {best v : Int} (h : AtR best v) : AtR (tryR t f Q i best) v := by
  unfold tryR
  obtain ⟨h1, h2⟩ := h
  split
  · split
    · exact ⟨by omega, by omega⟩
    · exact ⟨h1, h2⟩
  · exact ⟨h1, h2⟩
theorem tryR_at {t : Town} {f : List Bus → Int} {Q : List Bus} {i : Nat} {best v : Int} (h1 : OneP t (Q.getD i default)) (h : AtR (f Q) v) : AtR (tryR t f Q i best) v := by
  unfold tryR
  obtain ⟨h2, h3⟩ := h
  rw [if_pos h1]
  split
  · exact ⟨h2, h3⟩
  · exact ⟨by omega, by omega⟩
theorem rowR_keep {t : Town} {f : List Bus → Int} {P : List Bus} {n i : Nat} {v : Int} : ∀ {k : Nat} {best : Int}, AtR best v → AtR (rowR t f P n i k best) v
  | 0, _, h => h
  | k + 1, best, h => by
    unfold rowR
    split
    · exact rowR_keep h
    · exact tryR_keep (rowR_keep h)
theorem rowR_at {t : Town} {f : List Bus → Int} {P : List Bus} {n i g : Nat} {v : Int} (h0 : i < P.length → (g : Int) = (P.getD i default).hall) (h1 : OneP t ((putB t P n i g).getD i default)) (h : AtR (f (putB t P n i g)) v) : ∀ {k : Nat} {best : Int}, g < k → AtR (rowR t f P n i k best) v
  | 0, _, hg => by omega
  | k + 1, best, hg => by
    unfold rowR
    by_cases e : g = k
    · subst e
      rw [if_neg (fun h9 => h9.2 (h0 h9.1))]
      exact tryR_at h1 h
    · split
      · exact rowR_at h0 h1 h (by omega)
      · exact tryR_keep (rowR_at h0 h1 h (by omega))
theorem outR_at {t : Town} {f : List Bus → Int} {P : List Bus} {n j g : Nat} {v : Int} (hg : g < t.halls.length) (h0 : j < P.length → (g : Int) = (P.getD j default).hall) (h1 : OneP t ((putB t P n j g).getD j default)) (h : AtR (f (putB t P n j g)) v) : ∀ {i : Nat}, j < i → AtR (outR t f P n i) v
  | 0, hi => by omega
  | i + 1, hi => by
    unfold outR
    by_cases e : j = i
    · subst e
      exact rowR_at h0 h1 h hg
    · exact rowR_keep (outR_at hg h0 h1 h (by omega))
def fltA (a : Nat → Nat) (x : Nat) : Nat → List Int
  | 0 => []
  | n + 1 => if a n = x then fltA a x n ++ [(n : Int)] else fltA a x n
def leaA (t : Town) (a : Nat → Nat) (x : Nat) : Nat → Int
  | 0 => 0
  | n + 1 => if a n = x then max (leaA t a x n) (worstN t (t.homes.getD n default)) else leaA t a x n
def busA (t : Town) (a g : Nat → Nat) (n x : Nat) : Bus := ⟨leaA t a x n, g x, fltA a x n⟩
def labA (a : Nat → Nat) : Nat → List Nat
  | 0 => []
  | n + 1 => if a n ∈ labA a n then labA a n else labA a n ++ [a n]
theorem mem_flt {a : Nat → Nat} {x : Nat} {y : Int} : ∀ {n : Nat}, y ∈ fltA a x n ↔ 0 ≤ y ∧ y < n ∧ a y.toNat = x
  | 0 => by
    simp [fltA]
    intro h1 h2; omega
  | n + 1 => by
    unfold fltA
    split
    · rename_i e
      rw [List.mem_append, mem_flt, List.mem_singleton]
      constructor
      · rintro (⟨h1, h2, h3⟩ | rfl)
        · exact ⟨h1, by omega, h3⟩
        · exact ⟨by omega, by omega, by simpa using e⟩
      · rintro ⟨h1, h2, h3⟩
        by_cases e2 : y = n
        · exact .inr e2
        · exact .inl ⟨h1, by omega, h3⟩
    · rename_i e
      rw [mem_flt]
      constructor
      · rintro ⟨h1, h2, h3⟩; exact ⟨h1, by omega, h3⟩
      · rintro ⟨h1, h2, h3⟩
        refine ⟨h1, ?_, h3⟩
        by_cases e2 : y = n
        · subst e2; exact absurd (by simpa using h3) e
        · omega
theorem flt_rise {a : Nat → Nat} {x : Nat} : ∀ {n : Nat}, (fltA a x n).Pairwise (· < ·)
  | 0 => by simp [fltA]
  | n + 1 => by
    unfold fltA
    split
    · rw [List.pairwise_append]
      refine ⟨flt_rise, by simp, fun y hy z hz => ?_⟩
      have := mem_flt.1 hy
      rw [List.mem_singleton] at hz
      omega
    · exact flt_rise
theorem mem_lab {a : Nat → Nat} {x : Nat} : ∀ {n : Nat}, x ∈ labA a n ↔ ∃ h, h < n ∧ a h = x
  | 0 => by simp [labA]
  | n + 1 => by
    unfold labA
    have key : (∃ h, h < n + 1 ∧ a h = x) ↔ (∃ h, h < n ∧ a h = x) ∨ a n = x := by
      constructor
      · rintro ⟨h, h1, h2⟩
        by_cases e : h = n
        · subst e; exact .inr h2
        · exact .inl ⟨h, by omega, h2⟩
      · rintro (⟨h, h1, h2⟩ | h2)
        · exact ⟨h, by omega, h2⟩
        · exact ⟨n, by omega, h2⟩
    split
    · rename_i e
      rw [mem_lab, key]
      constructor
      · exact .inl
      · rintro (h | rfl)
        · exact h
        · exact mem_lab.1 e
    · rw [List.mem_append, mem_lab, key, List.mem_singleton]
      constructor
      · rintro (h | h)
        · exact .inl h
        · exact .inr h.symm
      · rintro (h | h)
        · exact .inl h
        · exact .inr h.symm
theorem lab_nodup {a : Nat → Nat} : ∀ {n : Nat}, (labA a n).Nodup
  | 0 => by simp [labA]
  | n + 1 => by
    unfold labA
    split
    · exact lab_nodup
    · rename_i e
      rw [List.nodup_append]
      refine ⟨lab_nodup, by simp, fun x hx y hy h => ?_⟩
      rw [List.mem_singleton] at hy
      subst hy; subst h
      exact e hx
theorem lab_len {a : Nat → Nat} : ∀ {n : Nat}, (labA a n).length ≤ n
  | 0 => by simp [labA]
  | n + 1 => by
    have := lab_len (a := a) (n := n)
    unfold labA
    split
    · omega
    · simp; omega
theorem lab_few {a : Nat → Nat} {n k : Nat} (h : ∀ i, i < n → a i < k) : (labA a n).length ≤ k := by
  have h1 : ((labA a n).map (fun x : Nat => (x : Int))).Nodup := by
    refine List.pairwise_map.2 ((lab_nodup (a := a) (n := n)).imp fun {x y} hxy h => hxy ?_)
    omega
  have := nodup_le k _ h1 (fun x hx => by
    obtain ⟨y, hy, rfl⟩ := List.mem_map.1 hx
    obtain ⟨i, hi, rfl⟩ := mem_lab.1 hy
    have := h i hi
    omega)
  simpa using this
theorem leaA_ge {t : Town} {a : Nat → Nat} {x : Nat} : ∀ {n h : Nat}, h < n → a h = x → worstN t (t.homes.getD h default) ≤ leaA t a x n
  | 0, h, hh, _ => by omega
  | n + 1, h, hh, e => by
    unfold leaA
    by_cases e2 : h = n
    · subst e2; rw [if_pos e]; omega
    · have := leaA_ge (t := t) (n := n) (h := h) (by omega) e
      split <;> omega
theorem leaA_le {t : Town} {a : Nat → Nat} {x : Nat} {B : Int} (h0 : 0 ≤ B) : ∀ {n : Nat}, (∀ h, h < n → a h = x → worstN t (t.homes.getD h default) ≤ B) → leaA t a x n ≤ B
  | 0, _ => h0
  | n + 1, h => by
    unfold leaA
    have h1 := leaA_le h0 (fun i hi => h i (Nat.lt_succ_of_lt hi))
    split
    · rename_i e
      have := h n (by omega) e
      omega
    · exact h1
theorem leaA_nonneg {t : Town} {a : Nat → Nat} {x : Nat} : ∀ {n : Nat}, 0 ≤ leaA t a x n
  | 0 => Int.le_refl _
  | n + 1 => by
    unfold leaA
    have := leaA_nonneg (t := t) (a := a) (x := x) (n := n)
    split <;> omega
/-- One bus of the way. -/
theorem busA_one {t : Town} {a g : Nat → Nat} {m n x k : Nat} (ht : TownOK t) (hF : FeasA t (fun h => decide (h < m)) (fun i => (t.halls.getD i default).room) (List.range k) a g) (hm : m ≤ t.homes.length) (hn : n ≤ m) (hx : x ∈ labA a n) : OneP t (busA t a g n x) := by
  obtain ⟨h0, hh0, e0⟩ := mem_lab.1 hx
  have hln := ht.homes
  have l0 := hF.lab h0 (by omega) (decide_eq_true (by omega))
  rw [e0] at l0
  have hdr := (ht.hall (g x) l0.2.2).drive
  have hP : ∀ h, h < n → a h = x → leaA t a x n + (t.halls.getD (g x) default).drive ≤ (t.homes.getD h default).gone := fun h hh e => by
    have key : leaA t a x n ≤ (t.homes.getD h default).gone - (t.halls.getD (g x) default).drive := by
      refine leaA_le ?_ (fun h' hh' e' => ?_)
      · have h1 := hF.tim h h (by omega) (by omega) (decide_eq_true (by omega)) (decide_eq_true (by omega)) rfl
        have h2 := (worstN_bd ht (i := h) (by omega)).1
        rw [e] at h1
        omega
      · have h1 := hF.tim h h' (by omega) (by omega) (decide_eq_true (by omega)) (decide_eq_true (by omega)) (e.trans e'.symm)
        rw [e] at h1
        omega
    omega
  have hmem : ∀ y ∈ fltA a x n, 0 ≤ y ∧ y < t.homes.length := fun y hy => by
    have := mem_flt.1 hy
    omega
  refine ⟨⟨⟨leaA_nonneg, ?_⟩, ?_, ?_, hmem, ?_⟩, ?_⟩
  · have h1 := hP h0 hh0 e0
    have h2 := (ht.home h0 (by omega)).gone
    show leaA t a x n ≤ 10000
    omega
  · show 0 ≤ ((g x : Nat) : Int) ∧ ((g x : Nat) : Int) ≤ _
    omega
  · show fltA a x n ≠ []
    intro e
    have : ((h0 : Nat) : Int) ∈ fltA a x n := mem_flt.2 ⟨by omega, by omega, by simpa using e0⟩
    rw [e] at this
    cases this
  · simp only [mayB, Bool.and_eq_true, decide_eq_true_eq, List.all_eq_true]
    refine ⟨⟨?_, fun y hy => ?_⟩, fun y hy => ?_⟩
    · show ppl t (fltA a x n) ≤ _
      rw [ppl_sum (flt_rise.imp (fun h => by omega)) (fun y hy => by have := hmem y hy; omega)]
      refine Int.le_trans (sumN_le fun h hh => ?_) (hF.sea x l0.2.1)
      by_cases e : (h : Int) ∈ fltA a x n
      · have h1 := mem_flt.1 e
        have h2 : a h = x := by simpa using h1.2.2
        rw [if_pos e, if_pos ⟨decide_eq_true (by omega), h2⟩]
        exact Int.le_refl _
      · rw [if_neg e]
        split
        · rename_i h9
          have := of_decide_eq_true h9.1
          have := (ht.home h (by omega)).people
          unfold peo
          omega
        · exact Int.le_refl _
    · have h1 := mem_flt.1 hy
      have := hF.pet y.toNat (by omega) (decide_eq_true (by omega))
      rw [h1.2.2] at this
      simp only [sheB, decide_eq_true_eq]
      show andn _ (t.halls.getD ((g x : Nat) : Int).toNat default).pets = 0
      rw [Int.toNat_natCast]
      exact this
    · have h1 := mem_flt.1 hy
      have h2 := hP y.toNat (by omega) h1.2.2
      have h3 := leaA_ge (t := t) (n := n) (h := y.toNat) (by omega) h1.2.2
      simp only [timB, decide_eq_true_eq]
      rw [worst_at (hmem y hy)]
      show _ ≤ leaA t a x n ∧ leaA t a x n + (t.halls.getD ((g x : Nat) : Int).toNat default).drive ≤ _
      rw [Int.toNat_natCast]
      exact ⟨h3, h2⟩
  · intro i h1 h2
    have h2' : i < (fltA a x n).length := h2
    have := List.pairwise_iff_getElem.1 (flt_rise (a := a) (x := x) (n := n)) (i - 1) i (by omega) h2' (by omega)
    show (fltA a x n).getD (i - 1) 0 < (fltA a x n).getD i 0
    simpa [List.getD_eq_getElem?_getD, h2', show i - 1 < (fltA a x n).length by omega] using this
theorem busA_same {t : Town} {a g : Nat → Nat} {n x : Nat} (h : a n ≠ x) : busA t a g (n + 1) x = busA t a g n x := by
  simp only [busA, fltA, leaA, if_neg h]
theorem getD_map {α β : Type} {f : α → β} {l : List α} {i : Nat} {d : α} {e : β} (h : i < l.length) : (l.map f).getD i e = f (l.getD i d) := by
  simp [List.getD_eq_getElem?_getD, h]
theorem nodup_inj {l : List Nat} (h : l.Nodup) {i j : Nat} (hi : i < l.length) (hj : j < l.length) (e : l[i] = l[j]) : i = j := by
  rcases Nat.lt_trichotomy i j with h1 | h1 | h1
  · exact absurd e (List.pairwise_iff_getElem.1 h i j hi hj h1)
  · exact h1
  · exact absurd e.symm (List.pairwise_iff_getElem.1 h j i hj hi h1)
/-- A step of the way. -/
theorem busA_step {t : Town} {a g : Nat → Nat} {n : Nat} (hw : 0 ≤ worstN t (t.homes.getD n default)) : ∃ i, i ≤ (labA a n).length ∧ (i < (labA a n).length → (labA a n).getD i 0 = a n) ∧ (labA a (n + 1)).getD i 0 = a n ∧ i < (labA a (n + 1)).length ∧ putB t ((labA a n).map (busA t a g n)) n i (g (a n)) = (labA a (n + 1)).map (busA t a g (n + 1)) := by
  by_cases e : a n ∈ labA a n
  · obtain ⟨i, hi, e1⟩ := mem_getD (d := 0) e
    have eL : labA a (n + 1) = labA a n := by rw [labA, if_pos e]
    refine ⟨i, by omega, fun _ => e1, by rw [eL]; exact e1, by rw [eL]; exact hi, ?_⟩
    rw [eL]
    unfold putB
    rw [if_pos (by simpa using hi), getD_map (d := 0) hi, e1]
    refine List.ext_getElem (by simp) fun j h1 h2 => ?_
    have hj : j < (labA a n).length := by simpa using h2
    rw [List.getElem_set]
    by_cases e2 : i = j
    · subst e2
      have e3 : (labA a n)[i] = a n := by simpa [List.getD_eq_getElem?_getD, hi] using e1
      simp only [if_true, List.getElem_map, e3]
      simp only [busA, fltA, leaA, if_true]
    · rw [if_neg e2]
      simp only [List.getElem_map]
      rw [busA_same]
      intro e3
      have e4 : (labA a n)[i] = a n := by simpa [List.getD_eq_getElem?_getD, hi] using e1
      have hnd := lab_nodup (a := a) (n := n)
      exact e2 (nodup_inj hnd hi hj (e4.trans e3))
  · have eL : labA a (n + 1) = labA a n ++ [a n] := by rw [labA, if_neg e]
    refine ⟨(labA a n).length, Nat.le_refl _, fun h => by omega, by rw [eL]; simp [List.getD_eq_getElem?_getD], by rw [eL]; simp, ?_⟩
    unfold putB
    rw [if_neg (by simp), eL, List.map_append]
    congr 1
    · refine List.map_congr_left fun x hx => ?_
      rw [busA_same]
      intro h; subst h; exact e hx
    · have e5 : fltA a (a n) n = [] := by
        cases h : fltA a (a n) n with
        | nil => rfl
        | cons y l =>
          exfalso
          have hy : y ∈ fltA a (a n) n := by rw [h]; simp
          have := mem_flt.1 hy
          exact e (mem_lab.2 ⟨y.toNat, by omega, this.2.2⟩)
      have e6 : leaA t a (a n) n = 0 := by
        have h1 := leaA_nonneg (t := t) (a := a) (x := a n) (n := n)
        have h2 : leaA t a (a n) n ≤ 0 := leaA_le (Int.le_refl _) fun h hh e9 => absurd (mem_lab.2 ⟨h, hh, e9⟩) e
        omega
      simp only [List.map_cons, List.map_nil, busA, fltA, leaA, if_true, e5, e6, List.nil_append]
      rw [show max 0 (worstN t (t.homes.getD n default)) = worstN t (t.homes.getD n default) by omega]
/-- The end of the way is right. -/
theorem busA_ref {t : Town} {a g : Nat → Nat} {m k : Nat} (ht : TownOK t) (hF : FeasA t (fun h => decide (h < m)) (fun i => (t.halls.getD i default).room) (List.range k) a g) (hm : m ≤ t.homes.length) : RefM t ((labA a m).map (busA t a g m)) m := by
  have hln := ht.homes
  have hll := lab_len (a := a) (n := m)
  have hg : ∀ j, j < (labA a m).length → ((labA a m).map (busA t a g m)).getD j default = busA t a g m ((labA a m).getD j 0) := fun j hj => getD_map hj
  have hmm : ∀ j, j < (labA a m).length → ∀ h : Nat, ((h : Int) ∈ fltA a ((labA a m).getD j 0) m ↔ h < m ∧ a h = (labA a m).getD j 0) := fun j hj h => by
    rw [mem_flt]
    simp only [Int.toNat_natCast]
    constructor
    · rintro ⟨_, h1, h2⟩; exact ⟨by omega, h2⟩
    · rintro ⟨h1, h2⟩; exact ⟨by omega, by omega, h2⟩
  have hidx : ∀ h, h < m → ∃ j0, j0 < (labA a m).length ∧ ∀ j, j < (labA a m).length → ((h : Int) ∈ fltA a ((labA a m).getD j 0) m ↔ j = j0) := fun h hh => by
    obtain ⟨j0, hj0, e⟩ := mem_getD (d := 0) (mem_lab.2 ⟨h, hh, rfl⟩ : a h ∈ labA a m)
    refine ⟨j0, hj0, fun j hj => ?_⟩
    rw [hmm j hj]
    constructor
    · rintro ⟨_, h2⟩
      have e2 : (labA a m)[j] = (labA a m)[j0] := by
        have := h2.symm.trans e.symm
        simpa [List.getD_eq_getElem?_getD, hj, hj0] using this
      exact nodup_inj (lab_nodup (a := a) (n := m)) hj hj0 e2
    · rintro rfl; exact ⟨hh, e.symm⟩
  refine ⟨by simp; omega, fun j hj => ?_, fun h hh => ?_, fun i hi => ?_⟩
  · have hj1 : j < (labA a m).length := by simpa using hj
    rw [hg j hj1]
    exact busA_one ht hF hm (Nat.le_refl _) (getD_mem hj1)
  · unfold cntN
    rw [List.length_map]
    by_cases hm1 : h < m
    · obtain ⟨j0, hj0, e⟩ := hidx h hm1
      rw [if_pos hm1, sumN_congr (g := fun j => if j = j0 then 1 else 0), sumN_pick, if_pos hj0]
      intro j hj
      rw [hg j hj]
      show (if (h : Int) ∈ fltA a ((labA a m).getD j 0) m then (1 : Int) else 0) = _
      by_cases e2 : j = j0
      · rw [if_pos e2, if_pos ((e j hj).2 e2)]
      · rw [if_neg e2, if_neg (fun h9 => e2 ((e j hj).1 h9))]
    · rw [if_neg hm1, sumN_congr (g := fun _ => 0), sumN_zero]
      intro j hj
      rw [hg j hj]
      show (if (h : Int) ∈ fltA a ((labA a m).getD j 0) m then (1 : Int) else 0) = _
      rw [if_neg]
      intro h9
      exact hm1 ((hmm j hj h).1 h9).1
  · unfold roomN
    rw [List.length_map]
    refine Int.le_trans ?_ (hF.roo i hi)
    have e1 : sumN (fun j => if (((labA a m).map (busA t a g m)).getD j default).hall.toNat = i then ppl t (((labA a m).map (busA t a g m)).getD j default).homes else 0) (labA a m).length = sumN (fun j => sumN (fun h => if g ((labA a m).getD j 0) = i ∧ (h : Int) ∈ fltA a ((labA a m).getD j 0) m then peo t h else 0) 8) (labA a m).length := by
      refine sumN_congr fun j hj => ?_
      rw [hg j hj]
      show (if ((g ((labA a m).getD j 0) : Nat) : Int).toNat = i then ppl t (fltA a ((labA a m).getD j 0) m) else 0) = _
      rw [Int.toNat_natCast]
      by_cases e : g ((labA a m).getD j 0) = i
      · rw [if_pos e, ppl_sum (flt_rise.imp (fun h => by omega)) (fun y hy => by have := mem_flt.1 hy; omega)]
        refine sumN_congr fun h _ => ?_
        by_cases e2 : (h : Int) ∈ fltA a ((labA a m).getD j 0) m
        · rw [if_pos e2, if_pos ⟨e, e2⟩]
        · rw [if_neg e2, if_neg (fun h9 => e2 h9.2)]
      · rw [if_neg e, sumN_congr (g := fun _ => 0), sumN_zero]
        intro h _
        rw [if_neg (fun h9 => e h9.1)]
    rw [e1, ← sumN_swap]
    refine sumN_le fun h hh => ?_
    by_cases hm1 : h < m
    · obtain ⟨j0, hj0, e⟩ := hidx h hm1
      have e3 : a h = (labA a m).getD j0 0 := ((hmm j0 hj0 h).1 ((e j0 hj0).2 rfl)).2
      rw [sumN_congr (g := fun j => if j = j0 then (if g (a h) = i then peo t h else 0) else 0), sumN_pick, if_pos hj0]
      · by_cases e4 : g (a h) = i
        · rw [if_pos e4, if_pos ⟨decide_eq_true hm1, e4⟩]; exact Int.le_refl _
        · rw [if_neg e4, if_neg (fun h9 => e4 h9.2)]; exact Int.le_refl _
      · intro j hj
        by_cases e2 : j = j0
        · subst e2
          have := (e j hj).2 rfl
          rw [if_pos rfl, ← e3]
          rw [← e3] at this
          by_cases e4 : g (a h) = i
          · rw [if_pos e4, if_pos ⟨e4, this⟩]
          · rw [if_neg e4, if_neg (fun h9 => e4 h9.1)]
        · rw [if_neg e2, if_neg (fun h9 => e2 ((e j hj).1 h9.2))]
    · rw [sumN_congr (g := fun _ => 0), sumN_zero, if_neg (fun h9 => hm1 (of_decide_eq_true h9.1))]
      · exact Int.le_refl _
      · intro j hj
        rw [if_neg (fun h9 => hm1 ((hmm j hj h).1 h9.2).1)]
theorem fewR_way {t : Town} {a g : Nat → Nat} {m k : Nat} (ht : TownOK t) (hF : FeasA t (fun h => decide (h < m)) (fun i => (t.halls.getD i default).room) (List.range k) a g) (hm : m ≤ t.homes.length) : ∀ d n, n + d = m → AtR (fewR t m d n ((labA a n).map (busA t a g n))) ((labA a m).length)
  | 0, n, e => by
    have e1 : n = m := by omega
    subst e1
    unfold fewR
    rw [if_pos (show refM t ((labA a n).map (busA t a g n)) n = true by unfold refM; exact @decide_eq_true _ (Classical.propDecidable _) (busA_ref ht hF hm)), List.length_map]
    exact ⟨by omega, by omega⟩
  | d + 1, n, e => by
    unfold fewR
    have hw := (worstN_bd ht (i := n) (by omega)).1
    obtain ⟨i, h1, h2, h3, h4, h5⟩ := busA_step (t := t) (a := a) (g := g) (n := n) hw
    have hl := hF.lab n (by have := ht.homes; omega) (decide_eq_true (by omega))
    have hi := fewR_way ht hF hm d (n + 1) (by omega)
    refine outR_at (j := i) (g := g (a n)) hl.2.2 (fun h9 => ?_) ?_ (by rw [h5]; exact hi) (by rw [List.length_map]; omega)
    · rw [List.length_map] at h9
      rw [getD_map (d := 0) h9, h2 h9]
      rfl
    · rw [h5, getD_map (d := 0) h4]
      exact busA_one ht hF hm (by omega) (getD_mem h4)
/-- A plan that is right for the first homes is a share of them. -/
theorem refM_feas {t : Town} {P : List Bus} {m : Nat} (ht : TownOK t) (R : RefM t P m) (hm : m ≤ t.homes.length) : Feas t (fun h => decide (h < m)) (fun i => (t.halls.getD i default).room) (List.range P.length) := by
  have hln := ht.homes
  have hmk : ∀ h, h < m → ∃ j, j < P.length ∧ (h : Int) ∈ (P.getD j default).homes := fun h hh => by
    refine Classical.byContradiction fun hn => ?_
    have hc := R.cnt h (by omega)
    unfold cntN at hc
    rw [if_pos hh, sumN_congr (g := fun _ => 0), sumN_zero] at hc
    · omega
    · intro j hj
      rw [if_neg]
      exact fun h9 => hn ⟨j, hj, h9⟩
  have hch : ∃ a : Nat → Nat, ∀ h, h < m → a h < P.length ∧ (h : Int) ∈ (P.getD (a h) default).homes := by
    refine ⟨fun h => if hh : h < m then (hmk h hh).choose else 0, fun h hh => ?_⟩
    simp only [hh, dif_pos]
    exact (hmk h hh).choose_spec
  obtain ⟨a, ha⟩ := hch
  have hmay : ∀ j, j < P.length → ppl t (P.getD j default).homes ≤ t.seats ∧ (∀ x ∈ (P.getD j default).homes, sheB t (P.getD j default) x = true) ∧ (∀ x ∈ (P.getD j default).homes, timB t (P.getD j default) x = true) := fun j hj => by
    have := (R.one j hj).1.may
    simp only [mayB, Bool.and_eq_true, decide_eq_true_eq, List.all_eq_true] at this
    exact ⟨this.1.1, this.1.2, this.2⟩
  have hpp : ∀ j, j < P.length → ppl t (P.getD j default).homes = sumN (fun h => if (h : Int) ∈ (P.getD j default).homes then peo t h else 0) 8 := fun j hj => by
    obtain ⟨b1, b2⟩ := R.one j hj
    exact ppl_sum ((rise_pw b2).imp (fun h => by omega)) (fun x hx => by have := b1.homes x hx; omega)
  have hpo : ∀ h, h < t.homes.length → 0 ≤ peo t h := fun h hh => peo_nonneg ht hh
  refine ⟨a, fun j => (P.getD j default).hall.toNat, ⟨fun h hh hb => ?_, fun h hh hb => ?_, fun h h' hh hh' hb hb' e => ?_, fun j hj => ?_, fun i hi => ?_⟩⟩
  · have h1 := of_decide_eq_true hb
    have h2 := ha h h1
    have h3 := (R.one _ h2.1).1.hall
    exact ⟨by omega, List.mem_range.2 h2.1, by omega⟩
  · have h2 := ha h (of_decide_eq_true hb)
    have := (hmay _ h2.1).2.1 _ h2.2
    simp only [sheB, decide_eq_true_eq, Int.toNat_natCast] at this
    exact this
  · have h1 := of_decide_eq_true hb
    have h1' := of_decide_eq_true hb'
    have h2 := ha h h1
    have h2' := ha h' h1'
    rw [← e] at h2'
    have h3 := (hmay _ h2.1).2.2 _ h2.2
    have h4 := (hmay _ h2.1).2.2 _ h2'.2
    simp only [timB, decide_eq_true_eq, Int.toNat_natCast] at h3 h4
    have h5 := worst_at (t := t) (x := (h' : Int)) (by omega)
    rw [Int.toNat_natCast] at h5
    omega
  · have hj1 := List.mem_range.1 hj
    refine Int.le_trans ?_ (hmay j hj1).1
    rw [hpp j hj1]
    refine sumN_le fun h hh => ?_
    by_cases e : decide (h < m) = true ∧ a h = j
    · have := (ha h (of_decide_eq_true e.1)).2
      rw [e.2] at this
      rw [if_pos e, if_pos this]; exact Int.le_refl _
    · rw [if_neg e]
      split
      · rename_i h9
        have := (R.one j hj1).1.homes _ h9
        exact hpo h (by omega)
      · exact Int.le_refl _
  · refine Int.le_trans ?_ (R.roo i hi)
    unfold roomN
    have e1 : sumN (fun j => if (P.getD j default).hall.toNat = i then ppl t (P.getD j default).homes else 0) P.length = sumN (fun j => sumN (fun h => if (P.getD j default).hall.toNat = i ∧ (h : Int) ∈ (P.getD j default).homes then peo t h else 0) 8) P.length := by
      refine sumN_congr fun j hj => ?_
      by_cases e : (P.getD j default).hall.toNat = i
      · rw [if_pos e, hpp j hj]
        refine sumN_congr fun h _ => ?_
        by_cases e2 : (h : Int) ∈ (P.getD j default).homes
        · rw [if_pos e2, if_pos ⟨e, e2⟩]
        · rw [if_neg e2, if_neg (fun h9 => e2 h9.2)]
      · rw [if_neg e, sumN_congr (g := fun _ => 0), sumN_zero]
        intro h _
        rw [if_neg (fun h9 => e h9.1)]
    rw [e1, ← sumN_swap]
    refine sumN_le fun h hh => ?_
    have hnn : ∀ j, j < P.length → 0 ≤ (if (P.getD j default).hall.toNat = i ∧ (h : Int) ∈ (P.getD j default).homes then peo t h else 0) := fun j hj => by
      split
      · rename_i h9
        have := (R.one j hj).1.homes _ h9.2
        exact hpo h (by omega)
      · exact Int.le_refl _
    by_cases e : decide (h < m) = true ∧ (P.getD (a h) default).hall.toNat = i
    · have h1 := ha h (of_decide_eq_true e.1)
      have h2 := sumN_one (f := fun j => if (P.getD j default).hall.toNat = i ∧ (h : Int) ∈ (P.getD j default).homes then peo t h else 0) (n := P.length) (a := a h) hnn h1.1
      simp only [e.2, h1.2, and_self, if_true] at h2
      rw [if_pos e]
      exact h2
    · rw [if_neg e]
      have h2 := sumN_le (f := fun _ => 0) (g := fun j => if (P.getD j default).hall.toNat = i ∧ (h : Int) ∈ (P.getD j default).homes then peo t h else 0) (k := P.length) hnn
      rwa [sumN_zero] at h2
/-- The fewest buses of the reference are those of the program. -/
theorem fewR_eq {t : Town} {m : Nat} (ht : TownOK t) (hm : m ≤ t.homes.length) : fewR t m m 0 [] = if fewN t m < 1000 then fewN t m else -1 := by
  have hnn : 0 ≤ fewN t m := needV_bd.1
  have hup : ∀ Q, RefM t Q m → fewN t m ≤ Q.length := fun Q hQ => by
    have := feas_few ht hm (refM_feas ht hQ hm)
    rwa [List.length_range] at this
  split
  · rename_i h
    obtain ⟨a, g, hF⟩ := few_feas ht hm h
    have h1 := fewR_way ht hF hm m 0 (by omega)
    have h2 : (labA a m).length ≤ (fewN t m).toNat := lab_few fun i hi => by
      have := hF.lab i (by have := ht.homes; omega) (decide_eq_true (by omega))
      exact List.mem_range.1 this.2.1
    obtain ⟨h3, h4⟩ := h1
    have h3' : 0 ≤ fewR t m m 0 [] := h3
    have h4' : fewR t m m 0 [] ≤ (labA a m).length := h4
    rcases fewR_say (t := t) (m := m) (k := m) (n := 0) (P := []) with h5 | ⟨Q, h5, h6⟩
    · omega
    · have := hup Q h5
      omega
  · rename_i h
    rcases fewR_say (t := t) (m := m) (k := m) (n := 0) (P := []) with h5 | ⟨Q, h5, h6⟩
    · exact h5
    · exfalso
      have h7 := hup Q h5
      have h8 := h5.len
      omega
end Go.Am

/- Contracts of the away functions: what the reference says of a plan. -/
namespace Go.Am
open Go.RowKit Go.Proofs
attribute [local irreducible] AWP CallS Kt goK CallK stepK evOps SemF SemY Imp
set_option maxRecDepth 4000
set_option linter.unusedSimpArgs false
set_option linter.unusedVariables false
set_option maxHeartbeats 3200000
theorem takesI_c (t : Town) (k i : Int) (hk : 0 ≤ k ∧ k < t.halls.length) (hi : 0 ≤ i ∧ i < t.homes.length) : CallS Try.prog 84 [.agg (townC t), .int .i64 k, .int .i64 i] (.bool (decide (andn (t.homes.getD i.toNat default).pets (t.halls.getD k.toNat default).pets = 0))) := by
  have := takes_c t k.toNat i.toNat (by omega) (by omega)
  rwa [show ((k.toNat : Nat) : Int) = k by omega, show ((i.toNat : Nat) : Int) = i by omega] at this
theorem rWorstI_c (t : Town) (i : Int) (ht : TownOK t) (hi : 0 ≤ i ∧ i < t.homes.length) : CallS Try.prog 40 [.agg (townC t), .int .i64 i] (.int .i64 (worstN t (t.homes.getD i.toNat default))) := by
  have := rWorst_c t i.toNat ht (by omega)
  rwa [show ((i.toNat : Nat) : Int) = i by omega] at this
/-- What is looked at of the first homes of a bus. -/
def preOne (t : Town) (b : Bus) (i : Nat) : Prop := ∀ j, j < i → (0 ≤ b.homes.getD j 0 ∧ b.homes.getD j 0 < t.homes.length) ∧ (0 < j → b.homes.getD (j - 1) 0 < b.homes.getD j 0) ∧ sheB t b (b.homes.getD j 0) = true ∧ timB t b (b.homes.getD j 0) = true
theorem one_c (t : Town) (b : Bus) (ht : TownOK t) (hbl : b.homes.length ≤ 1000000) : CallS Try.prog 59 [.agg (townC t), .agg (busC b)] (.bool (oneB t b)) := by
  have hln := ht.homes
  have hhl := ht.halls
  have hsea := ht.seats
  have hno : ¬ OneP t b → false = oneB t b := one_no
  have hyes : OneP t b → true = oneB t b := one_yes
  generalize oneB t b = r at *
  by_cases c1 : 0 ≤ b.leave ∧ b.leave ≤ 10000
  · have e1 : (0 ≤ b.leave ∧ b.leave ≤ 10000) = True := eq_true c1
    by_cases c2 : 0 ≤ b.hall ∧ b.hall ≤ t.halls.length - 1
    · have e2 : (0 ≤ b.hall ∧ b.hall ≤ (t.halls.length : Int) - 1) = True := eq_true c2
      by_cases c3 : b.homes = []
      · have e3 : ((b.homes.length : Int) = 0) = True := eq_true (by rw [c3]; rfl)
        rw [← hno (fun h => h.1.some c3)]
        simp only [townC, slH, slL, sl, busC]
        (refine callS_of_awp (fun w args => Try.call59 ..) Try.func59 rfl (fun w0 m0 wz => ?_); simp only [Try.ntmps59, Try.results59, initT, junks, homeC, hallC, slH, slL, townC, sl, List.toList_toArray, List.cons_append, List.nil_append, List.length_cons, List.length_nil, Nat.reduceAdd, Nat.reduceSub])
        (repeat' (first
 | ((exfalso; omega))
 | refine awp_seqK ?_
 | refine kt ?_
 | refine And.intro ?_ ?_
 | ((first | refine awp_stp rfl ?_ | refine awp_draw (by kernel_rfl) (by kernel_rfl) ?_ | refine Imp.le2 ?_ | refine callK_of (in_c _ _ _) ?_ | refine go_split (fun _h => ?_) (fun _h => ?_)) <;> try simp (maxSteps := 4000000) only [go_sem, seval, e1, e2, e3, decide_true, Bool.not_true])
 | intro _h
 | refine awp_block ?_
 | refine awp_scope ?_
 | refine cond_b ?_ ?_
 | (show heapOK _ _ = true; kernel_rfl)
 | (show heapOK2 _ _ = true; kernel_rfl)
 | (omega)))
      · have e3 : ((b.homes.length : Int) = 0) = False := eq_false (fun h => c3 (List.eq_nil_of_length_eq_zero (by omega)))
        have hdr := (ht.hall b.hall.toNat (by omega)).drive
        simp only [townC, slH, slL, sl, busC]
        (refine callS_of_awp (fun w args => Try.call59 ..) Try.func59 rfl (fun w0 m0 wz => ?_); simp only [Try.ntmps59, Try.results59, initT, junks, homeC, hallC, slH, slL, townC, sl, List.toList_toArray, List.cons_append, List.nil_append, List.length_cons, List.length_nil, Nat.reduceAdd, Nat.reduceSub])
        (repeat' (first
 | ((exfalso; omega))
 | refine awp_seqK ?_
 | refine kt ?_
 | refine And.intro ?_ ?_
 | ((first | refine awp_stp rfl ?_ | refine awp_draw (by kernel_rfl) (by kernel_rfl) ?_ | refine Imp.le2 ?_ | refine callK_of (in_c _ _ _) ?_ | refine go_split (fun _h => ?_) (fun _h => ?_)) <;> try simp (maxSteps := 4000000) only [go_sem, seval, e1, e2, e3, decide_true, decide_false, Bool.not_true])
 | intro _h
 | refine awp_block ?_
 | refine awp_scope ?_
 | refine cond_b ?_ ?_
 | (show heapOK _ _ = true; kernel_rfl)
 | (show heapOK2 _ _ = true; kernel_rfl)
 | (omega)))
        refine awp_loopJ (fun i : Nat => i ≤ b.homes.length ∧ preOne t b i) (fun i => ⟨mkT 108 [(2, .ptr 0 0 0), (3, .ptr 1 0 0), (5, .int .i64 (pplL t b.homes i)), (6, .int .i64 i)], [some (.cells 27 1 0 (townC t)), some (.cells 49 1 0 (busC b))], []⟩) (fun i => b.homes.length - i) 0 ⟨Nat.zero_le _, fun j hj => by omega⟩ (.le2 ?_) ?_
        · simp only [townC, slH, slL, sl, busC, pplL]; simp (maxSteps := 4000000) only [go_sem, seval]
          try (first | rfl | exact ⟨rfl, rfl⟩)
        · rintro i ⟨hi, hj⟩
          rcases Nat.lt_or_eq_of_le hi with hi1 | hi1
          · have hpb : 0 ≤ pplL t b.homes i ∧ pplL t b.homes i ≤ 200 * i := by
              have : ∀ k, k ≤ i → 0 ≤ pplL t b.homes k ∧ pplL t b.homes k ≤ 200 * k := by
                intro k
                induction k with
                | zero => intro _; simp [pplL]
                | succ k ih =>
                  intro hk
                  have h1 := ih (by omega)
                  have h2 := (hj k (by omega)).1
                  have h3 := (ht.home (b.homes.getD k 0).toNat (by omega)).people
                  simp only [pplL]; omega
              exact this i (Nat.le_refl _)
            have hG : OneP t b → (0 ≤ b.homes.getD i 0 ∧ b.homes.getD i 0 < t.homes.length) ∧ (0 < i → b.homes.getD (i - 1) 0 < b.homes.getD i 0) ∧ sheB t b (b.homes.getD i 0) = true ∧ timB t b (b.homes.getD i 0) = true := fun h => by
              have hm := getD_mem (d := 0) hi1
              have hy := h.1.may
              simp only [mayB, Bool.and_eq_true, decide_eq_true_eq, List.all_eq_true] at hy
              exact ⟨h.1.homes _ hm, fun h0 => h.2 i h0 hi1, hy.1.2 _ hm, hy.2 _ hm⟩
            by_cases d1 : 0 ≤ b.homes.getD i 0 ∧ b.homes.getD i 0 ≤ t.homes.length - 1
            · have f1 : (0 ≤ b.homes.getD i 0 ∧ b.homes.getD i 0 ≤ (t.homes.length : Int) - 1) = True := eq_true d1
              have hx : 0 ≤ b.homes.getD i 0 ∧ b.homes.getD i 0 < t.homes.length := by omega
              have htk := takesI_c t b.hall (b.homes.getD i 0) (by omega) hx
              have hwo := rWorstI_c t (b.homes.getD i 0) ht hx
              have hwb := worstN_bd ht (i := (b.homes.getD i 0).toNat) (by omega)
              have hpo := (ht.home (b.homes.getD i 0).toNat (by omega)).people
              have sh : sheB t b (b.homes.getD i 0) = decide (andn (t.homes.getD (b.homes.getD i 0).toNat default).pets (t.halls.getD b.hall.toNat default).pets = 0) := rfl
              have ti : timB t b (b.homes.getD i 0) = decide (worstN t (t.homes.getD (b.homes.getD i 0).toNat default) ≤ b.leave ∧ b.leave + (t.halls.getD b.hall.toNat default).drive ≤ (t.homes.getD (b.homes.getD i 0).toNat default).gone) := by
                unfold timB; rw [worst_at hx]
              by_cases d2 : 0 < i ∧ b.homes.getD i 0 ≤ b.homes.getD (i - 1) 0
              · have f2 : (0 < (i : Int)) = True := eq_true (by omega)
                have f3 : (b.homes.getD i 0 ≤ b.homes.getD (i - 1) 0) = True := eq_true d2.2
                have ei : ((i : Int) - 1).toNat = i - 1 := by omega
                rw [← hno (fun h => by have := (hG h).2.1 d2.1; omega)]
                simp only [townC, slH, slL, sl, busC] at htk hwo ⊢; simp (maxSteps := 4000000) only [go_sem, seval]
                (repeat' (first
 | ((exfalso; omega))
 | ((omega))
 | refine awp_seqK ?_
 | refine kt ?_
 | refine And.intro ?_ ?_
 | ((first | refine awp_stp rfl ?_ | refine awp_draw (by kernel_rfl) (by kernel_rfl) ?_ | refine Imp.le2 ?_ | refine callK_of (in_c _ _ _) ?_ | refine callK_of (htk) ?_ | refine callK_of (hwo) ?_ | refine go_split (fun _h => ?_) (fun _h => ?_)) <;> try simp (maxSteps := 4000000) only [go_sem, seval, f1, f2, f3, ei, decide_true, Bool.not_true])
 | intro _h
 | refine awp_block ?_
 | refine awp_scope ?_
 | refine cond_b ?_ ?_
 | (show heapOK _ _ = true; kernel_rfl)
 | (show heapOK2 _ _ = true; kernel_rfl)
 | (omega)))
              · have f2 : (i = 0 ∧ (0 < (i : Int)) = False) ∨ (0 < i ∧ (0 < (i : Int)) = True ∧ (b.homes.getD i 0 ≤ b.homes.getD (i - 1) 0) = False) := by
                  by_cases h0 : i = 0
                  · exact .inl ⟨h0, eq_false (by omega)⟩
                  · exact .inr ⟨by omega, eq_true (by omega), eq_false (fun h => d2 ⟨by omega, h⟩)⟩
                have ei : ((i : Int) - 1).toNat = i - 1 := by omega
                have hstep : sheB t b (b.homes.getD i 0) = true → timB t b (b.homes.getD i 0) = true → preOne t b (i + 1) := fun h1 h2 j hji => by
                  rcases Nat.lt_succ_iff_lt_or_eq.1 hji with h | rfl
                  · exact hj j h
                  · exact ⟨hx, fun h0 => by have : ¬ (b.homes.getD j 0 ≤ b.homes.getD (j - 1) 0) := fun h => d2 ⟨h0, h⟩
                                            omega, h1, h2⟩
                have hps : pplL t b.homes i + (t.homes.getD (b.homes.getD i 0).toNat default).people = pplL t b.homes (i + 1) := rfl
                have hG3 := fun h => (hG h).2.2.1
                have hG4 := fun h => (hG h).2.2.2
                rw [sh] at hG3 hstep
                rw [ti] at hG4 hstep
                simp only [decide_eq_true_eq] at hG3 hG4 hstep
                simp only [townC, slH, slL, sl, busC] at htk hwo
                rcases f2 with ⟨f0, f2⟩ | ⟨f0, f2, f3⟩
                · subst f0
                  simp only [townC, slH, slL, sl, busC]; simp (maxSteps := 4000000) only [go_sem, seval]
                  have f2' : ((0 : Int) < 0) = False := eq_false (by omega)
                  (repeat' (first
 | ((exfalso; omega))
 | ((omega))
 | refine awp_seqK ?_
 | refine kt ?_
 | refine And.intro ?_ ?_
 | ((first | refine awp_stp rfl ?_ | refine awp_draw (by kernel_rfl) (by kernel_rfl) ?_ | refine Imp.le2 ?_ | refine callK_of (in_c _ _ _) ?_ | refine callK_of (htk) ?_ | refine callK_of (hwo) ?_ | refine go_split (fun _h => ?_) (fun _h => ?_)) <;> try simp (maxSteps := 4000000) only [go_sem, seval, f1, f2', decide_true, decide_false, Bool.not_true])
 | intro _h
 | refine awp_block ?_
 | refine awp_scope ?_
 | refine cond_b ?_ ?_
 | (show heapOK _ _ = true; kernel_rfl)
 | (show heapOK2 _ _ = true; kernel_rfl)
 | (omega)))
                  all_goals first
                    | exact hno (fun h => absurd (hG3 h) (by assumption))
                    | exact (hno (fun h => absurd (hG3 h) (by assumption))).symm
                    | exact hno (fun h => by have := hG4 h; omega)
                    | exact (hno (fun h => by have := hG4 h; omega)).symm
                    | (refine ⟨1, ⟨by omega, hstep (by assumption) (by omega)⟩, by omega, .le2 ?_⟩
                       (try simp only [townC, slH, slL, sl, busC]); simp (maxSteps := 4000000) only [go_sem, seval, hps]
                       try (first | rfl | exact ⟨rfl, rfl⟩))
                    | trace_state
                · simp only [townC, slH, slL, sl, busC]; simp (maxSteps := 4000000) only [go_sem, seval]
                  (repeat' (first
 | ((exfalso; omega))
 | ((omega))
 | refine awp_seqK ?_
 | refine kt ?_
 | refine And.intro ?_ ?_
 | ((first | refine awp_stp rfl ?_ | refine awp_draw (by kernel_rfl) (by kernel_rfl) ?_ | refine Imp.le2 ?_ | refine callK_of (in_c _ _ _) ?_ | refine callK_of (htk) ?_ | refine callK_of (hwo) ?_ | refine go_split (fun _h => ?_) (fun _h => ?_)) <;> try simp (maxSteps := 4000000) only [go_sem, seval, f1, f2, f3, ei, decide_true, decide_false, Bool.not_true])
 | intro _h
 | refine awp_block ?_
 | refine awp_scope ?_
 | refine cond_b ?_ ?_
 | (show heapOK _ _ = true; kernel_rfl)
 | (show heapOK2 _ _ = true; kernel_rfl)
 | (omega)))
                  all_goals first
                    | exact hno (fun h => absurd (hG3 h) (by assumption))
                    | exact (hno (fun h => absurd (hG3 h) (by assumption))).symm
                    | exact hno (fun h => by have := hG4 h; omega)
                    | exact (hno (fun h => by have := hG4 h; omega)).symm
                    | (refine ⟨i + 1, ⟨by omega, hstep (by assumption) (by omega)⟩, by omega, .le2 ?_⟩
                       (try simp only [townC, slH, slL, sl, busC]); simp (maxSteps := 4000000) only [go_sem, seval, hps]
                       try (first | rfl | exact ⟨rfl, rfl⟩))
                    | trace_state
            · have f1 : (0 ≤ b.homes.getD i 0 ∧ b.homes.getD i 0 ≤ (t.homes.length : Int) - 1) = False := eq_false d1
              rw [← hno (fun h => d1 (by have := (hG h).1; omega))]
              simp only [townC, slH, slL, sl, busC]; simp (maxSteps := 4000000) only [go_sem, seval]
              (repeat' (first
 | ((exfalso; omega))
 | ((omega))
 | refine awp_seqK ?_
 | refine kt ?_
 | refine And.intro ?_ ?_
 | ((first | refine awp_stp rfl ?_ | refine awp_draw (by kernel_rfl) (by kernel_rfl) ?_ | refine Imp.le2 ?_ | refine callK_of (in_c _ _ _) ?_ | refine go_split (fun _h => ?_) (fun _h => ?_)) <;> try simp (maxSteps := 4000000) only [go_sem, seval, f1, decide_false, Bool.not_false])
 | intro _h
 | refine awp_block ?_
 | refine awp_scope ?_
 | refine cond_b ?_ ?_
 | (show heapOK _ _ = true; kernel_rfl)
 | (show heapOK2 _ _ = true; kernel_rfl)
 | (omega)))
          · subst hi1
            have hmem : ∀ x ∈ b.homes, (0 ≤ x ∧ x < t.homes.length) ∧ sheB t b x = true ∧ timB t b x = true := fun x hx => by
              obtain ⟨j, hjl, rfl⟩ := mem_getD (d := 0) hx
              have := hj j hjl
              exact ⟨this.1, this.2.2⟩
            have hfin : ppl t b.homes ≤ t.seats → OneP t b := fun h => ⟨⟨c1, c2, c3, fun x hx => (hmem x hx).1, by
              simp only [mayB, Bool.and_eq_true, decide_eq_true_eq, List.all_eq_true]
              exact ⟨⟨h, fun x hx => (hmem x hx).2.1⟩, fun x hx => (hmem x hx).2.2⟩⟩, fun i h0 hi => (hj i hi).2.1 h0⟩
            have hfin2 : OneP t b → ppl t b.homes ≤ t.seats := fun h => by
              have hy := h.1.may
              simp only [mayB, Bool.and_eq_true, decide_eq_true_eq, List.all_eq_true] at hy
              exact hy.1.1
            have hpp : pplL t b.homes b.homes.length = ppl t b.homes := rfl
            rw [hpp]
            simp only [townC, slH, slL, sl, busC]; simp (maxSteps := 4000000) only [go_sem, seval]
            (repeat' (first
 | ((exfalso; omega))
 | refine awp_seqK ?_
 | refine kt ?_
 | refine And.intro ?_ ?_
 | ((first | refine awp_stp rfl ?_ | refine awp_draw (by kernel_rfl) (by kernel_rfl) ?_ | refine Imp.le2 ?_ | refine go_split (fun _h => ?_) (fun _h => ?_)) <;> try simp (maxSteps := 4000000) only [go_sem, seval])
 | intro _h
 | refine awp_block ?_
 | refine awp_scope ?_
 | refine cond_b ?_ ?_
 | (show heapOK _ _ = true; kernel_rfl)
 | (show heapOK2 _ _ = true; kernel_rfl)
 | (omega)))
            all_goals first
              | exact hyes (hfin (by assumption))
              | exact (hyes (hfin (by assumption))).symm
              | exact hno (fun h => absurd (hfin2 h) (by assumption))
              | exact (hno (fun h => absurd (hfin2 h) (by assumption))).symm
              | trace_state
    · have e2 : (0 ≤ b.hall ∧ b.hall ≤ (t.halls.length : Int) - 1) = False := eq_false c2
      rw [← hno (fun h => c2 h.1.hall)]
      simp only [townC, slH, slL, sl, busC]
      (refine callS_of_awp (fun w args => Try.call59 ..) Try.func59 rfl (fun w0 m0 wz => ?_); simp only [Try.ntmps59, Try.results59, initT, junks, homeC, hallC, slH, slL, townC, sl, List.toList_toArray, List.cons_append, List.nil_append, List.length_cons, List.length_nil, Nat.reduceAdd, Nat.reduceSub])
      (repeat' (first
 | ((exfalso; omega))
 | refine awp_seqK ?_
 | refine kt ?_
 | refine And.intro ?_ ?_
 | ((first | refine awp_stp rfl ?_ | refine awp_draw (by kernel_rfl) (by kernel_rfl) ?_ | refine Imp.le2 ?_ | refine callK_of (in_c _ _ _) ?_ | refine go_split (fun _h => ?_) (fun _h => ?_)) <;> try simp (maxSteps := 4000000) only [go_sem, seval, e1, e2, decide_true, decide_false, Bool.not_true])
 | intro _h
 | refine awp_block ?_
 | refine awp_scope ?_
 | refine cond_b ?_ ?_
 | (show heapOK _ _ = true; kernel_rfl)
 | (show heapOK2 _ _ = true; kernel_rfl)
 | (omega)))
  · have e1 : (0 ≤ b.leave ∧ b.leave ≤ 10000) = False := eq_false c1
    rw [← hno (fun h => c1 h.1.leave)]
    simp only [townC, slH, slL, sl, busC]
    (refine callS_of_awp (fun w args => Try.call59 ..) Try.func59 rfl (fun w0 m0 wz => ?_); simp only [Try.ntmps59, Try.results59, initT, junks, homeC, hallC, slH, slL, townC, sl, List.toList_toArray, List.cons_append, List.nil_append, List.length_cons, List.length_nil, Nat.reduceAdd, Nat.reduceSub])
    (repeat' (first
 | ((exfalso; omega))
 | refine awp_seqK ?_
 | refine kt ?_
 | refine And.intro ?_ ?_
 | ((first | refine awp_stp rfl ?_ | refine awp_draw (by kernel_rfl) (by kernel_rfl) ?_ | refine Imp.le2 ?_ | refine callK_of (in_c _ _ _) ?_ | refine go_split (fun _h => ?_) (fun _h => ?_)) <;> try simp (maxSteps := 4000000) only [go_sem, seval, e1, decide_false])
 | intro _h
 | refine awp_block ?_
 | refine awp_scope ?_
 | refine cond_b ?_ ?_
 | (show heapOK _ _ = true; kernel_rfl)
 | (show heapOK2 _ _ = true; kernel_rfl)
 | (omega)))
end Go.Am

/- Contracts of the away functions: the reference's Right, walked. -/
namespace Go.Am
open Go.RowKit Go.Proofs
attribute [local irreducible] AWP CallS Kt goK CallK stepK evOps SemF SemY Imp
set_option maxRecDepth 4000
set_option linter.unusedSimpArgs false
set_option linter.unusedVariables false
set_option maxHeartbeats 3200000
def inJ (c : Nat → Int) (l : List Int) (n j : Nat) : List Int := tab n fun h => c h + (if (h : Int) ∈ l.take j then 1 else 0)
def roJ (t : Town) (c : Nat → Int) (b : Bus) (n j : Nat) : List Int := tab n fun i => c i + (if b.hall.toNat = i then pplL t b.homes j else 0)
theorem inJ_zero {c : Nat → Int} {l : List Int} {n : Nat} : inJ c l n 0 = tab n c := tab_congr fun h _ => by simp
theorem inJ_all {P : List Bus} {n k : Nat} : inJ (cntN P k) (P.getD k default).homes n (P.getD k default).homes.length = tab n (cntN P (k + 1)) := tab_congr fun h _ => by rw [List.take_length]; rfl
theorem roJ_zero {t : Town} {c : Nat → Int} {b : Bus} {n : Nat} : roJ t c b n 0 = tab n c := tab_congr fun h _ => by simp [pplL]
theorem roJ_all {t : Town} {P : List Bus} {n k : Nat} : roJ t (roomN t P k) (P.getD k default) n (P.getD k default).homes.length = tab n (roomN t P (k + 1)) := tab_congr fun h _ => rfl
theorem inJ_step {c : Nat → Int} {l : List Int} {n j : Nat} (hj : j < l.length) (hnd : l.Nodup) (hx : 0 ≤ l.getD j 0 ∧ l.getD j 0 < n) :
    (inJ c l n j).getD (l.getD j 0).toNat 0 = c (l.getD j 0).toNat ∧ isp (inJ c l n j) (l.getD j 0).toNat (c (l.getD j 0).toNat + 1) = inJ c l n (j + 1) := by
  have e0 : ((l.getD j 0).toNat : Int) = l.getD j 0 := by omega
  have hni : l.getD j 0 ∉ l.take j := fun hm => by
    obtain ⟨i, hi, e⟩ := mem_getD (d := 0) hm
    have hi2 : i < j := by simp at hi; omega
    rw [getD_take hi2] at e
    have h1 := List.pairwise_iff_getElem.1 hnd i j (by omega) hj hi2
    have e1 : l[i]'(by omega) = l[j] := by
      simpa [List.getD_eq_getElem?_getD, hj, show i < l.length by omega] using e
    exact h1 e1
  constructor
  · unfold inJ
    rw [tab_getD (by omega), e0, if_neg hni]; omega
  · unfold inJ
    rw [isp_tab (by omega)]
    refine tab_congr fun h hh => ?_
    rw [take_snoc (d := 0) hj]
    by_cases e : h = (l.getD j 0).toNat
    · rw [if_pos e, if_pos (List.mem_append.2 (.inr (by rw [List.mem_singleton, e]; exact e0))), e]
    · rw [if_neg e]
      have : ((h : Int) ∈ l.take j ++ [l.getD j 0]) ↔ (h : Int) ∈ l.take j := by
        rw [List.mem_append, List.mem_singleton]
        constructor
        · rintro (h6 | h6)
          · exact h6
          · exact absurd (show h = (l.getD j 0).toNat by omega) e
        · exact .inl
      by_cases e2 : (h : Int) ∈ l.take j
      · rw [if_pos e2, if_pos (this.2 e2)]
      · rw [if_neg e2, if_neg (fun h9 => e2 (this.1 h9))]
theorem roJ_step {t : Town} {c : Nat → Int} {b : Bus} {n j : Nat} (hh : 0 ≤ b.hall ∧ b.hall < n) : (roJ t c b n j).getD b.hall.toNat 0 = c b.hall.toNat + pplL t b.homes j ∧ isp (roJ t c b n j) b.hall.toNat (c b.hall.toNat + pplL t b.homes j + (t.homes.getD (b.homes.getD j 0).toNat default).people) = roJ t c b n (j + 1) := by
  constructor
  · unfold roJ; rw [tab_getD (by omega), if_pos rfl]
  · unfold roJ
    rw [isp_tab (by omega)]
    refine tab_congr fun h hh => ?_
    by_cases e : h = b.hall.toNat
    · subst e; rw [if_pos rfl, if_pos rfl]; simp only [pplL]; omega
    · rw [if_neg e, if_neg (Ne.symm e), if_neg (Ne.symm e)]
theorem cntN_bd {P : List Bus} {h : Nat} : ∀ k, 0 ≤ cntN P k h ∧ cntN P k h ≤ k
  | 0 => by simp [cntN, sumN]
  | k + 1 => by
    have := cntN_bd (P := P) (h := h) k
    simp only [cntN, sumN] at this ⊢
    split <;> omega
theorem roomN_bd {t : Town} {P : List Bus} (ht : TownOK t) {i : Nat} : ∀ k, (∀ j, j < k → OneP t (P.getD j default)) → 0 ≤ roomN t P k i ∧ roomN t P k i ≤ 200 * k
  | 0, _ => by simp [roomN, sumN]
  | k + 1, h => by
    have h1 := roomN_bd (t := t) (P := P) ht (i := i) k (fun j hj => h j (by omega))
    have h2 := (h k (by omega)).1
    have h3 := pplL_bd ht h2.homes _ (Nat.le_refl _)
    have h4 : 0 ≤ ppl t (P.getD k default).homes := h3.1
    have h5 := h2.may
    simp only [mayB, Bool.and_eq_true, decide_eq_true_eq] at h5
    have h6 := ht.seats
    simp only [roomN, sumN] at h1 ⊢
    split <;> omega
theorem rRight_c (t : Town) (P : List Bus) (ht : TownOK t) (hp : PlanS P) : CallS Try.prog 28 [.agg (townC t), slB P, .int .i64 t.homes.length] (.bool (rightB t P)) := by
  have hln := ht.homes
  have hhl := ht.halls
  have hyes : RefR t P → true = rightB t P := fun h => ((refR_iff ht).2 h).symm
  have hno : ¬ RefR t P → false = rightB t P := fun h => by
    cases e : rightB t P
    · rfl
    · exact absurd ((refR_iff ht).1 e) h
  generalize rightB t P = r at *
  by_cases h8 : P.length ≤ 8
  · have e8 : (8 < (P.length : Int)) = False := eq_false (by omega)
    simp only [townC, slH, slL, sl, slB]
    (refine callS_of_awp (fun w args => Try.call28 ..) Try.func28 rfl (fun w0 m0 wz => ?_); simp only [Try.ntmps28, Try.results28, initT, junks, homeC, hallC, slH, slL, townC, sl, List.toList_toArray, List.cons_append, List.nil_append, List.length_cons, List.length_nil, Nat.reduceAdd, Nat.reduceSub])
    (repeat' (first
 | refine awp_seqK ?_
 | refine kt ?_
 | refine And.intro ?_ ?_
 | ((first | refine awp_stp rfl ?_ | refine awp_draw (by kernel_rfl) (by kernel_rfl) ?_ | refine Imp.le2 ?_ | refine go_split (fun _h => ?_) (fun _h => ?_)) <;> try simp (maxSteps := 4000000) only [go_sem, seval, e8, decide_false, ↓rep_ints])
 | intro _h
 | refine awp_block ?_
 | refine awp_scope ?_
 | refine cond_b ?_ ?_
 | (show heapOK _ _ = true; kernel_rfl)
 | (show heapOK2 _ _ = true; kernel_rfl)
 | (omega)))
    refine awp_loopJ (fun k : Nat => k ≤ P.length ∧ ∀ j, j < k → OneP t (P.getD j default)) (fun k => ⟨mkT 128 [(1, slB P), (2, .int .i64 t.homes.length), (3, .ptr 0 0 0), (7, .osl 1 0 0 t.homes.length), (8, .osl 2 0 0 t.halls.length), (9, .int .i64 k)], [some (.cells 27 1 0 (townC t)), some (.cells 3 1 0 (ints (tab t.homes.length (cntN P k)))), some (.cells 3 1 0 (ints (tab t.halls.length (roomN t P k))))], []⟩) (fun k => P.length - k) 0 ⟨Nat.zero_le _, fun j hj => by omega⟩ (.le2 ?_) ?_
    · have z1 : tab t.homes.length (cntN P 0) = tab t.homes.length fun _ => 0 := tab_congr fun _ _ => rfl
      have z2 : tab t.halls.length (roomN t P 0) = tab t.halls.length fun _ => 0 := tab_congr fun _ _ => rfl
      rw [z1, z2]
      simp only [townC, slH, slL, sl, slB]; simp (maxSteps := 4000000) only [go_sem, seval]
      try (first | rfl | exact ⟨rfl, rfl⟩)
    · rintro k ⟨hk, hj⟩
      rcases Nat.lt_or_eq_of_le hk with hk1 | hk1
      · have hbl := hp.2 _ (getD_mem (d := default) hk1)
        have hon := one_c t (P.getD k default) ht hbl
        have a1 := inJ_all (P := P) (n := t.homes.length) (k := k)
        have a2 := roJ_all (t := t) (P := P) (n := t.halls.length) (k := k)
        have hrb := fun i => roomN_bd (t := t) (P := P) ht (i := i) k hj
        have hcb := fun h => cntN_bd (P := P) (h := h) k
        have hstep : OneP t (P.getD k default) → ∀ j, j < k + 1 → OneP t (P.getD j default) := fun h j hji => by
          rcases Nat.lt_succ_iff_lt_or_eq.1 hji with h1 | rfl
          · exact hj j h1
          · exact h
        have hR1 : RefR t P → OneP t (P.getD k default) := fun h => h.one k hk1
        obtain ⟨b, hb2⟩ : ∃ b, P.getD k default = b := ⟨_, rfl⟩
        rw [hb2] at hbl hon a1 a2 hstep hR1
        simp only [townC, slH, slL, sl, busC] at hon
        by_cases hO : OneP t b
        · rw [← one_yes hO] at hon
          have hbh := hO.1.homes
          have hhall := hO.1.hall
          have hnd := (rise_pw hO.2).imp (R := (· < ·)) (S := (· ≠ ·)) (fun h => by omega)
          have hle := rise_le hO
          simp only [townC, slH, slL, sl, slB]; simp (maxSteps := 4000000) only [go_sem, seval]
          (repeat' (first
 | ((exfalso; omega))
 | refine awp_seqK ?_
 | refine kt ?_
 | refine And.intro ?_ ?_
 | ((first | refine awp_stp rfl ?_ | refine awp_draw (by kernel_rfl) (by kernel_rfl) ?_ | refine Imp.le2 ?_ | refine callK_of (hon) ?_ | refine go_split (fun _h => ?_) (fun _h => ?_)) <;> try simp (maxSteps := 4000000) only [go_sem, seval, hb2, busC, sl])
 | intro _h
 | refine awp_block ?_
 | refine awp_scope ?_
 | refine cond_b ?_ ?_
 | (show heapOK _ _ = true; kernel_rfl)
 | (show heapOK2 _ _ = true; kernel_rfl)
 | (omega)))
          refine awp_loopN b.homes.length (fun j => ⟨mkT 128 [(1, slB P), (2, .int .i64 t.homes.length), (3, .ptr 0 0 0), (7, .osl 1 0 0 t.homes.length), (8, .osl 2 0 0 t.halls.length), (9, .int .i64 k), (10, .int .i64 j)], [some (.cells 27 1 0 (townC t)), some (.cells 3 1 0 (ints (inJ (cntN P k) b.homes t.homes.length j))), some (.cells 3 1 0 (ints (roJ t (roomN t P k) b t.halls.length j)))], []⟩) (.le2 ?_) ?_
          · rw [inJ_zero, roJ_zero]
            simp only [townC, slH, slL, sl, slB]; simp (maxSteps := 4000000) only [go_sem, seval]
            try (first | rfl | exact ⟨rfl, rfl⟩)
          · intro j hj2
            have il : (inJ (cntN P k) b.homes t.homes.length j).length = t.homes.length := tab_length
            have rl : (roJ t (roomN t P k) b t.halls.length j).length = t.halls.length := tab_length
            rcases Nat.lt_or_eq_of_le hj2 with hj3 | hj3
            · have hx := hbh _ (getD_mem (d := 0) hj3)
              have hpo := (ht.home (b.homes.getD j 0).toNat (by omega)).people
              obtain ⟨s1, s2⟩ := inJ_step (c := cntN P k) (n := t.homes.length) hj3 hnd hx
              obtain ⟨s3, s4⟩ := roJ_step (t := t) (c := roomN t P k) (b := b) (n := t.halls.length) (j := j) (by omega)
              have hpb := pplL_bd ht hbh j hj2
              have hrk := hrb b.hall.toNat
              have hck := hcb (b.homes.getD j 0).toNat
              simp only [townC, slH, slL, sl, slB]; simp (maxSteps := 4000000) only [go_sem, seval]
              (repeat' (first
 | ((exfalso; omega))
 | ((omega))
 | refine awp_seqK ?_
 | refine kt ?_
 | refine And.intro ?_ ?_
 | ((first | refine awp_stp rfl ?_ | refine awp_draw (by kernel_rfl) (by kernel_rfl) ?_ | refine Imp.le2 ?_ | refine go_split (fun _h => ?_) (fun _h => ?_)) <;> try simp (maxSteps := 4000000) only [go_sem, seval, hb2, sl, s1, s2, s3, s4, il, rl])
 | intro _h
 | refine awp_block ?_
 | refine awp_scope ?_
 | refine cond_b ?_ ?_
 | (show heapOK _ _ = true; kernel_rfl)
 | (show heapOK2 _ _ = true; kernel_rfl)
 | (omega)))
              all_goals trace_state
            · subst hj3
              rw [a1, a2]
              simp only [townC, slH, slL, sl, slB]; simp (maxSteps := 4000000) only [go_sem, seval]
              (repeat' (first
 | ((exfalso; omega))
 | refine awp_seqK ?_
 | refine kt ?_
 | refine And.intro ?_ ?_
 | ((first | refine awp_stp rfl ?_ | refine awp_draw (by kernel_rfl) (by kernel_rfl) ?_ | refine Imp.le2 ?_ | refine go_split (fun _h => ?_) (fun _h => ?_)) <;> try simp (maxSteps := 4000000) only [go_sem, seval, hb2, sl])
 | intro _h
 | refine awp_block ?_
 | refine awp_scope ?_
 | refine cond_b ?_ ?_
 | (show heapOK _ _ = true; kernel_rfl)
 | (show heapOK2 _ _ = true; kernel_rfl)
 | (omega)))
              refine ⟨k + 1, ⟨by omega, hstep hO⟩, by omega, .le2 ?_⟩
              (try simp only [townC, slH, slL, sl, slB]); simp (maxSteps := 4000000) only [go_sem, seval]
              try (first | rfl | exact ⟨rfl, rfl⟩)
        · rw [← one_no hO] at hon
          rw [← hno (fun h => hO (hR1 h))]
          simp only [townC, slH, slL, sl, slB]; simp (maxSteps := 4000000) only [go_sem, seval]
          (repeat' (first
 | ((exfalso; omega))
 | refine awp_seqK ?_
 | refine kt ?_
 | refine And.intro ?_ ?_
 | ((first | refine awp_stp rfl ?_ | refine awp_draw (by kernel_rfl) (by kernel_rfl) ?_ | refine Imp.le2 ?_ | refine callK_of (hon) ?_ | refine go_split (fun _h => ?_) (fun _h => ?_)) <;> try simp (maxSteps := 4000000) only [go_sem, seval, hb2, busC, sl])
 | intro _h
 | refine awp_block ?_
 | refine awp_scope ?_
 | refine cond_b ?_ ?_
 | (show heapOK _ _ = true; kernel_rfl)
 | (show heapOK2 _ _ = true; kernel_rfl)
 | (omega)))
      · subst hk1
        have hcl : (tab t.homes.length (cntN P P.length)).length = t.homes.length := tab_length
        have hrl : (tab t.halls.length (roomN t P P.length)).length = t.halls.length := tab_length
        simp only [townC, slH, slL, sl, slB]; simp (maxSteps := 4000000) only [go_sem, seval]
        (repeat' (first
 | ((exfalso; omega))
 | refine awp_seqK ?_
 | refine kt ?_
 | refine And.intro ?_ ?_
 | ((first | refine awp_stp rfl ?_ | refine awp_draw (by kernel_rfl) (by kernel_rfl) ?_ | refine Imp.le2 ?_ | refine go_split (fun _h => ?_) (fun _h => ?_)) <;> try simp (maxSteps := 4000000) only [go_sem, seval])
 | intro _h
 | refine awp_block ?_
 | refine awp_scope ?_
 | refine cond_b ?_ ?_
 | (show heapOK _ _ = true; kernel_rfl)
 | (show heapOK2 _ _ = true; kernel_rfl)
 | (omega)))
        refine awp_loopJ (fun h : Nat => h ≤ t.homes.length ∧ ∀ j, j < h → cntN P P.length j = 1) (fun h => ⟨mkT 128 [(2, .int .i64 t.homes.length), (3, .ptr 0 0 0), (7, .osl 1 0 0 t.homes.length), (8, .osl 2 0 0 t.halls.length), (11, .int .i64 h)], [some (.cells 27 1 0 (townC t)), some (.cells 3 1 0 (ints (tab t.homes.length (cntN P P.length)))), some (.cells 3 1 0 (ints (tab t.halls.length (roomN t P P.length))))], []⟩) (fun h => t.homes.length - h) 0 ⟨Nat.zero_le _, fun j hj => by omega⟩ (.le2 ?_) ?_
        · simp only [townC, slH, slL, sl, slB]; simp (maxSteps := 4000000) only [go_sem, seval]
          try (first | rfl | exact ⟨rfl, rfl⟩)
        · rintro h ⟨hh, hc⟩
          rcases Nat.lt_or_eq_of_le hh with hh1 | hh1
          · have hv : (tab t.homes.length (cntN P P.length)).getD h 0 = cntN P P.length h := tab_getD hh1
            have f1 : ((h : Int) < t.homes.length) = True := eq_true (by omega)
            have f2 : ((t.homes.length : Int) ≤ h) = False := eq_false (by omega)
            by_cases hc1 : cntN P P.length h = 1
            · have f3 : (cntN P P.length h = 1) = True := eq_true hc1
              simp only [townC, slH, slL, sl, slB]; simp (maxSteps := 4000000) only [go_sem, seval]
              (repeat' (first
 | ((exfalso; omega))
 | ((omega))
 | refine awp_seqK ?_
 | refine kt ?_
 | refine And.intro ?_ ?_
 | ((first | refine awp_stp rfl ?_ | refine awp_draw (by kernel_rfl) (by kernel_rfl) ?_ | refine Imp.le2 ?_ | refine go_split (fun _h => ?_) (fun _h => ?_)) <;> try simp (maxSteps := 4000000) only [go_sem, seval, hcl, hv, f1, f2, f3, decide_true, decide_false, Bool.not_true])
 | intro _h
 | refine awp_block ?_
 | refine awp_scope ?_
 | refine cond_b ?_ ?_
 | (show heapOK _ _ = true; kernel_rfl)
 | (show heapOK2 _ _ = true; kernel_rfl)
 | (omega)))
              refine ⟨h + 1, ⟨by omega, fun j hji => ?_⟩, by omega, .le2 ?_⟩
              · rcases Nat.lt_succ_iff_lt_or_eq.1 hji with h1 | rfl
                · exact hc j h1
                · exact hc1
              · (try simp only [townC, slH, slL, sl, slB]); simp (maxSteps := 4000000) only [go_sem, seval]
                try (first | rfl | exact ⟨rfl, rfl⟩)
            · have f3 : (cntN P P.length h = 1) = False := eq_false hc1
              rw [← hno (fun hr => hc1 (hr.cnt h hh1))]
              simp only [townC, slH, slL, sl, slB]; simp (maxSteps := 4000000) only [go_sem, seval]
              (repeat' (first
 | ((exfalso; omega))
 | ((omega))
 | refine awp_seqK ?_
 | refine kt ?_
 | refine And.intro ?_ ?_
 | ((first | refine awp_stp rfl ?_ | refine awp_draw (by kernel_rfl) (by kernel_rfl) ?_ | refine Imp.le2 ?_ | refine go_split (fun _h => ?_) (fun _h => ?_)) <;> try simp (maxSteps := 4000000) only [go_sem, seval, hcl, hv, f1, f2, f3, decide_true, decide_false, Bool.not_false])
 | intro _h
 | refine awp_block ?_
 | refine awp_scope ?_
 | refine cond_b ?_ ?_
 | (show heapOK _ _ = true; kernel_rfl)
 | (show heapOK2 _ _ = true; kernel_rfl)
 | (omega)))
          · subst hh1
            simp only [townC, slH, slL, sl, slB]; simp (maxSteps := 4000000) only [go_sem, seval]
            (repeat' (first
 | ((exfalso; omega))
 | ((omega))
 | refine awp_seqK ?_
 | refine kt ?_
 | refine And.intro ?_ ?_
 | ((first | refine awp_stp rfl ?_ | refine awp_draw (by kernel_rfl) (by kernel_rfl) ?_ | refine Imp.le2 ?_ | refine go_split (fun _h => ?_) (fun _h => ?_)) <;> try simp (maxSteps := 4000000) only [go_sem, seval, hcl])
 | intro _h
 | refine awp_block ?_
 | refine awp_scope ?_
 | refine cond_b ?_ ?_
 | (show heapOK _ _ = true; kernel_rfl)
 | (show heapOK2 _ _ = true; kernel_rfl)
 | (omega)))
            refine awp_loopJ (fun i : Nat => i ≤ t.halls.length ∧ ∀ j, j < i → roomN t P P.length j ≤ (t.halls.getD j default).room) (fun i => ⟨mkT 128 [(2, .int .i64 t.homes.length), (3, .ptr 0 0 0), (8, .osl 2 0 0 t.halls.length), (12, .int .i64 i)], [some (.cells 27 1 0 (townC t)), none, some (.cells 3 1 0 (ints (tab t.halls.length (roomN t P P.length))))], []⟩) (fun i => t.halls.length - i) 0 ⟨Nat.zero_le _, fun j hj => by omega⟩ (.le2 ?_) ?_
            · simp only [townC, slH, slL, sl, slB]; simp (maxSteps := 4000000) only [go_sem, seval]
              try (first | rfl | exact ⟨rfl, rfl⟩)
            · rintro i ⟨hi, hr⟩
              rcases Nat.lt_or_eq_of_le hi with hi1 | hi1
              · have hv : (tab t.halls.length (roomN t P P.length)).getD i 0 = roomN t P P.length i := tab_getD hi1
                simp only [townC, slH, slL, sl, slB]; simp (maxSteps := 4000000) only [go_sem, seval]
                (repeat' (first
 | ((exfalso; omega))
 | ((omega))
 | refine awp_seqK ?_
 | refine kt ?_
 | refine And.intro ?_ ?_
 | ((first | refine awp_stp rfl ?_ | refine awp_draw (by kernel_rfl) (by kernel_rfl) ?_ | refine Imp.le2 ?_ | refine go_split (fun _h => ?_) (fun _h => ?_)) <;> try simp (maxSteps := 4000000) only [go_sem, seval, hrl, hv])
 | intro _h
 | refine awp_block ?_
 | refine awp_scope ?_
 | refine cond_b ?_ ?_
 | (show heapOK _ _ = true; kernel_rfl)
 | (show heapOK2 _ _ = true; kernel_rfl)
 | (omega)))
                all_goals first
                  | exact hno (fun h => by have := h.roo i hi1; omega)
                  | exact (hno (fun h => by have := h.roo i hi1; omega)).symm
                  | (refine ⟨i + 1, ⟨by omega, fun j hji => ?_⟩, by omega, .le2 ?_⟩
                     · rcases Nat.lt_succ_iff_lt_or_eq.1 hji with h1 | rfl
                       · exact hr j h1
                       · omega
                     · (try simp only [townC, slH, slL, sl, slB]); simp (maxSteps := 4000000) only [go_sem, seval]
                       try (first | rfl | exact ⟨rfl, rfl⟩))
                  | trace_state
              · subst hi1
                rw [← hyes ⟨h8, hj, hc, hr⟩]
                simp only [townC, slH, slL, sl, slB]; simp (maxSteps := 4000000) only [go_sem, seval]
                (repeat' (first
 | ((exfalso; omega))
 | ((omega))
 | refine awp_seqK ?_
 | refine kt ?_
 | refine And.intro ?_ ?_
 | ((first | refine awp_stp rfl ?_ | refine awp_draw (by kernel_rfl) (by kernel_rfl) ?_ | refine Imp.le2 ?_ | refine go_split (fun _h => ?_) (fun _h => ?_)) <;> try simp (maxSteps := 4000000) only [go_sem, seval, hrl])
 | intro _h
 | refine awp_block ?_
 | refine awp_scope ?_
 | refine cond_b ?_ ?_
 | (show heapOK _ _ = true; kernel_rfl)
 | (show heapOK2 _ _ = true; kernel_rfl)
 | (omega)))
                all_goals trace_state
  · rw [← hno (fun h => h8 h.len)]
    have e8 : (8 < (P.length : Int)) = True := eq_true (by omega)
    simp only [townC, slH, slL, sl, slB]
    (refine callS_of_awp (fun w args => Try.call28 ..) Try.func28 rfl (fun w0 m0 wz => ?_); simp only [Try.ntmps28, Try.results28, initT, junks, homeC, hallC, slH, slL, townC, sl, List.toList_toArray, List.cons_append, List.nil_append, List.length_cons, List.length_nil, Nat.reduceAdd, Nat.reduceSub])
    (repeat' (first
 | refine awp_seqK ?_
 | refine kt ?_
 | refine And.intro ?_ ?_
 | ((first | refine awp_stp rfl ?_ | refine awp_draw (by kernel_rfl) (by kernel_rfl) ?_ | refine Imp.le2 ?_ | refine go_split (fun _h => ?_) (fun _h => ?_)) <;> try simp (maxSteps := 4000000) only [go_sem, seval, e8, decide_true])
 | intro _h
 | refine awp_block ?_
 | refine awp_scope ?_
 | refine cond_b ?_ ?_
 | (show heapOK _ _ = true; kernel_rfl)
 | (show heapOK2 _ _ = true; kernel_rfl)
 | (omega)))
end Go.Am

/- Contracts of the away functions: the reference's Right, for the first so many homes. -/
namespace Go.Am
open Go.RowKit Go.Proofs
attribute [local irreducible] AWP CallS Kt goK CallK stepK evOps SemF SemY Imp
set_option maxRecDepth 4000
set_option linter.unusedSimpArgs false
set_option linter.unusedVariables false
set_option maxHeartbeats 3200000
theorem rRightM_c (t : Town) (P : List Bus) (m : Nat) (ht : TownOK t) (hp : PlanS P) (hm : m ≤ t.homes.length) : CallS Try.prog 28 [.agg (townC t), slB P, .int .i64 m] (.bool (refM t P m)) := by
  have hln := ht.homes
  have hhl := ht.halls
  have hyes : RefM t P m → true = refM t P m := fun h => by unfold refM; exact (@decide_eq_true _ (Classical.propDecidable _) h).symm
  have hno : ¬ RefM t P m → false = refM t P m := fun h => by unfold refM; exact (@decide_eq_false _ (Classical.propDecidable _) h).symm
  generalize refM t P m = r at *
  by_cases h8 : P.length ≤ 8
  · have e8 : (8 < (P.length : Int)) = False := eq_false (by omega)
    simp only [townC, slH, slL, sl, slB]
    (refine callS_of_awp (fun w args => Try.call28 ..) Try.func28 rfl (fun w0 m0 wz => ?_); simp only [Try.ntmps28, Try.results28, initT, junks, homeC, hallC, slH, slL, townC, sl, List.toList_toArray, List.cons_append, List.nil_append, List.length_cons, List.length_nil, Nat.reduceAdd, Nat.reduceSub])
    (repeat' (first
 | refine awp_seqK ?_
 | refine kt ?_
 | refine And.intro ?_ ?_
 | ((first | refine awp_stp rfl ?_ | refine awp_draw (by kernel_rfl) (by kernel_rfl) ?_ | refine Imp.le2 ?_ | refine go_split (fun _h => ?_) (fun _h => ?_)) <;> try simp (maxSteps := 4000000) only [go_sem, seval, e8, decide_false, ↓rep_ints])
 | intro _h
 | refine awp_block ?_
 | refine awp_scope ?_
 | refine cond_b ?_ ?_
 | (show heapOK _ _ = true; kernel_rfl)
 | (show heapOK2 _ _ = true; kernel_rfl)
 | (omega)))
    refine awp_loopJ (fun k : Nat => k ≤ P.length ∧ ∀ j, j < k → OneP t (P.getD j default)) (fun k => ⟨mkT 128 [(1, slB P), (2, .int .i64 m), (3, .ptr 0 0 0), (7, .osl 1 0 0 t.homes.length), (8, .osl 2 0 0 t.halls.length), (9, .int .i64 k)], [some (.cells 27 1 0 (townC t)), some (.cells 3 1 0 (ints (tab t.homes.length (cntN P k)))), some (.cells 3 1 0 (ints (tab t.halls.length (roomN t P k))))], []⟩) (fun k => P.length - k) 0 ⟨Nat.zero_le _, fun j hj => by omega⟩ (.le2 ?_) ?_
    · have z1 : tab t.homes.length (cntN P 0) = tab t.homes.length fun _ => 0 := tab_congr fun _ _ => rfl
      have z2 : tab t.halls.length (roomN t P 0) = tab t.halls.length fun _ => 0 := tab_congr fun _ _ => rfl
      rw [z1, z2]
      simp only [townC, slH, slL, sl, slB]; simp (maxSteps := 4000000) only [go_sem, seval]
      try (first | rfl | exact ⟨rfl, rfl⟩)
    · rintro k ⟨hk, hj⟩
      rcases Nat.lt_or_eq_of_le hk with hk1 | hk1
      · have hbl := hp.2 _ (getD_mem (d := default) hk1)
        have hon := one_c t (P.getD k default) ht hbl
        have a1 := inJ_all (P := P) (n := t.homes.length) (k := k)
        have a2 := roJ_all (t := t) (P := P) (n := t.halls.length) (k := k)
        have hrb := fun i => roomN_bd (t := t) (P := P) ht (i := i) k hj
        have hcb := fun h => cntN_bd (P := P) (h := h) k
        have hstep : OneP t (P.getD k default) → ∀ j, j < k + 1 → OneP t (P.getD j default) := fun h j hji => by
          rcases Nat.lt_succ_iff_lt_or_eq.1 hji with h1 | rfl
          · exact hj j h1
          · exact h
        have hR1 : RefM t P m → OneP t (P.getD k default) := fun h => h.one k hk1
        obtain ⟨b, hb2⟩ : ∃ b, P.getD k default = b := ⟨_, rfl⟩
        rw [hb2] at hbl hon a1 a2 hstep hR1
        simp only [townC, slH, slL, sl, busC] at hon
        by_cases hO : OneP t b
        · rw [← one_yes hO] at hon
          have hbh := hO.1.homes
          have hhall := hO.1.hall
          have hnd := (rise_pw hO.2).imp (R := (· < ·)) (S := (· ≠ ·)) (fun h => by omega)
          have hle := rise_le hO
          simp only [townC, slH, slL, sl, slB]; simp (maxSteps := 4000000) only [go_sem, seval]
          (repeat' (first
 | ((exfalso; omega))
 | refine awp_seqK ?_
 | refine kt ?_
 | refine And.intro ?_ ?_
 | ((first | refine awp_stp rfl ?_ | refine awp_draw (by kernel_rfl) (by kernel_rfl) ?_ | refine Imp.le2 ?_ | refine callK_of (hon) ?_ | refine go_split (fun _h => ?_) (fun _h => ?_)) <;> try simp (maxSteps := 4000000) only [go_sem, seval, hb2, busC, sl])
 | intro _h
 | refine awp_block ?_
 | refine awp_scope ?_
 | refine cond_b ?_ ?_
 | (show heapOK _ _ = true; kernel_rfl)
 | (show heapOK2 _ _ = true; kernel_rfl)
 | (omega)))
          refine awp_loopN b.homes.length (fun j => ⟨mkT 128 [(1, slB P), (2, .int .i64 m), (3, .ptr 0 0 0), (7, .osl 1 0 0 t.homes.length), (8, .osl 2 0 0 t.halls.length), (9, .int .i64 k), (10, .int .i64 j)], [some (.cells 27 1 0 (townC t)), some (.cells 3 1 0 (ints (inJ (cntN P k) b.homes t.homes.length j))), some (.cells 3 1 0 (ints (roJ t (roomN t P k) b t.halls.length j)))], []⟩) (.le2 ?_) ?_
          · rw [inJ_zero, roJ_zero]
            simp only [townC, slH, slL, sl, slB]; simp (maxSteps := 4000000) only [go_sem, seval]
            try (first | rfl | exact ⟨rfl, rfl⟩)
          · intro j hj2
            have il : (inJ (cntN P k) b.homes t.homes.length j).length = t.homes.length := tab_length
            have rl : (roJ t (roomN t P k) b t.halls.length j).length = t.halls.length := tab_length
            rcases Nat.lt_or_eq_of_le hj2 with hj3 | hj3
            · have hx := hbh _ (getD_mem (d := 0) hj3)
              have hpo := (ht.home (b.homes.getD j 0).toNat (by omega)).people
              obtain ⟨s1, s2⟩ := inJ_step (c := cntN P k) (n := t.homes.length) hj3 hnd hx
              obtain ⟨s3, s4⟩ := roJ_step (t := t) (c := roomN t P k) (b := b) (n := t.halls.length) (j := j) (by omega)
              have hpb := pplL_bd ht hbh j hj2
              have hrk := hrb b.hall.toNat
              have hck := hcb (b.homes.getD j 0).toNat
              simp only [townC, slH, slL, sl, slB]; simp (maxSteps := 4000000) only [go_sem, seval]
              (repeat' (first
 | ((exfalso; omega))
 | ((omega))
 | refine awp_seqK ?_
 | refine kt ?_
 | refine And.intro ?_ ?_
 | ((first | refine awp_stp rfl ?_ | refine awp_draw (by kernel_rfl) (by kernel_rfl) ?_ | refine Imp.le2 ?_ | refine go_split (fun _h => ?_) (fun _h => ?_)) <;> try simp (maxSteps := 4000000) only [go_sem, seval, hb2, sl, s1, s2, s3, s4, il, rl])
 | intro _h
 | refine awp_block ?_
 | refine awp_scope ?_
 | refine cond_b ?_ ?_
 | (show heapOK _ _ = true; kernel_rfl)
 | (show heapOK2 _ _ = true; kernel_rfl)
 | (omega)))
              all_goals trace_state
            · subst hj3
              rw [a1, a2]
              simp only [townC, slH, slL, sl, slB]; simp (maxSteps := 4000000) only [go_sem, seval]
              (repeat' (first
 | ((exfalso; omega))
 | refine awp_seqK ?_
 | refine kt ?_
 | refine And.intro ?_ ?_
 | ((first | refine awp_stp rfl ?_ | refine awp_draw (by kernel_rfl) (by kernel_rfl) ?_ | refine Imp.le2 ?_ | refine go_split (fun _h => ?_) (fun _h => ?_)) <;> try simp (maxSteps := 4000000) only [go_sem, seval, hb2, sl])
 | intro _h
 | refine awp_block ?_
 | refine awp_scope ?_
 | refine cond_b ?_ ?_
 | (show heapOK _ _ = true; kernel_rfl)
 | (show heapOK2 _ _ = true; kernel_rfl)
 | (omega)))
              refine ⟨k + 1, ⟨by omega, hstep hO⟩, by omega, .le2 ?_⟩
              (try simp only [townC, slH, slL, sl, slB]); simp (maxSteps := 4000000) only [go_sem, seval]
              try (first | rfl | exact ⟨rfl, rfl⟩)
        · rw [← one_no hO] at hon
          rw [← hno (fun h => hO (hR1 h))]
          simp only [townC, slH, slL, sl, slB]; simp (maxSteps := 4000000) only [go_sem, seval]
          (repeat' (first
 | ((exfalso; omega))
 | refine awp_seqK ?_
 | refine kt ?_
 | refine And.intro ?_ ?_
 | ((first | refine awp_stp rfl ?_ | refine awp_draw (by kernel_rfl) (by kernel_rfl) ?_ | refine Imp.le2 ?_ | refine callK_of (hon) ?_ | refine go_split (fun _h => ?_) (fun _h => ?_)) <;> try simp (maxSteps := 4000000) only [go_sem, seval, hb2, busC, sl])
 | intro _h
 | refine awp_block ?_
 | refine awp_scope ?_
 | refine cond_b ?_ ?_
 | (show heapOK _ _ = true; kernel_rfl)
 | (show heapOK2 _ _ = true; kernel_rfl)
 | (omega)))
      · subst hk1
        have hcl : (tab t.homes.length (cntN P P.length)).length = t.homes.length := tab_length
        have hrl : (tab t.halls.length (roomN t P P.length)).length = t.halls.length := tab_length
        simp only [townC, slH, slL, sl, slB]; simp (maxSteps := 4000000) only [go_sem, seval]
        (repeat' (first
 | ((exfalso; omega))
 | refine awp_seqK ?_
 | refine kt ?_
 | refine And.intro ?_ ?_
 | ((first | refine awp_stp rfl ?_ | refine awp_draw (by kernel_rfl) (by kernel_rfl) ?_ | refine Imp.le2 ?_ | refine go_split (fun _h => ?_) (fun _h => ?_)) <;> try simp (maxSteps := 4000000) only [go_sem, seval])
 | intro _h
 | refine awp_block ?_
 | refine awp_scope ?_
 | refine cond_b ?_ ?_
 | (show heapOK _ _ = true; kernel_rfl)
 | (show heapOK2 _ _ = true; kernel_rfl)
 | (omega)))
        refine awp_loopJ (fun h : Nat => h ≤ t.homes.length ∧ ∀ j, j < h → cntN P P.length j = if j < m then 1 else 0) (fun h => ⟨mkT 128 [(2, .int .i64 m), (3, .ptr 0 0 0), (7, .osl 1 0 0 t.homes.length), (8, .osl 2 0 0 t.halls.length), (11, .int .i64 h)], [some (.cells 27 1 0 (townC t)), some (.cells 3 1 0 (ints (tab t.homes.length (cntN P P.length)))), some (.cells 3 1 0 (ints (tab t.halls.length (roomN t P P.length))))], []⟩) (fun h => t.homes.length - h) 0 ⟨Nat.zero_le _, fun j hj => by omega⟩ (.le2 ?_) ?_
        · simp only [townC, slH, slL, sl, slB]; simp (maxSteps := 4000000) only [go_sem, seval]
          try (first | rfl | exact ⟨rfl, rfl⟩)
        · rintro h ⟨hh, hc⟩
          rcases Nat.lt_or_eq_of_le hh with hh1 | hh1
          · have hv : (tab t.homes.length (cntN P P.length)).getD h 0 = cntN P P.length h := tab_getD hh1
            have hnx : cntN P P.length h = (if h < m then 1 else 0) → ∀ j, j < h + 1 → cntN P P.length j = if j < m then 1 else 0 := fun h9 j hji => by
              rcases Nat.lt_succ_iff_lt_or_eq.1 hji with h1 | rfl
              · exact hc j h1
              · exact h9
            by_cases hlt : h < m
            · have f1 : ((h : Int) < m) = True := eq_true (by omega)
              have f2 : ((m : Int) ≤ h) = False := eq_false (by omega)
              rw [if_pos hlt] at hnx
              by_cases hc1 : cntN P P.length h = 1
              · have f3 : (cntN P P.length h = 1) = True := eq_true hc1
                simp only [townC, slH, slL, sl, slB]; simp (maxSteps := 4000000) only [go_sem, seval]
                (repeat' (first
 | ((exfalso; omega))
 | ((omega))
 | refine awp_seqK ?_
 | refine kt ?_
 | refine And.intro ?_ ?_
 | ((first | refine awp_stp rfl ?_ | refine awp_draw (by kernel_rfl) (by kernel_rfl) ?_ | refine Imp.le2 ?_ | refine go_split (fun _h => ?_) (fun _h => ?_)) <;> try simp (maxSteps := 4000000) only [go_sem, seval, hcl, hv, f1, f2, f3, decide_true, decide_false, Bool.not_true])
 | intro _h
 | refine awp_block ?_
 | refine awp_scope ?_
 | refine cond_b ?_ ?_
 | (show heapOK _ _ = true; kernel_rfl)
 | (show heapOK2 _ _ = true; kernel_rfl)
 | (omega)))
                refine ⟨h + 1, ⟨by omega, hnx hc1⟩, by omega, .le2 ?_⟩
                (try simp only [townC, slH, slL, sl, slB]); simp (maxSteps := 4000000) only [go_sem, seval]
                try (first | rfl | exact ⟨rfl, rfl⟩)
              · have f3 : (cntN P P.length h = 1) = False := eq_false hc1
                rw [← hno (fun hr => hc1 (by have := hr.cnt h hh1; rwa [if_pos hlt] at this))]
                simp only [townC, slH, slL, sl, slB]; simp (maxSteps := 4000000) only [go_sem, seval]
                (repeat' (first
 | ((exfalso; omega))
 | ((omega))
 | refine awp_seqK ?_
 | refine kt ?_
 | refine And.intro ?_ ?_
 | ((first | refine awp_stp rfl ?_ | refine awp_draw (by kernel_rfl) (by kernel_rfl) ?_ | refine Imp.le2 ?_ | refine go_split (fun _h => ?_) (fun _h => ?_)) <;> try simp (maxSteps := 4000000) only [go_sem, seval, hcl, hv, f1, f2, f3, decide_true, decide_false, Bool.not_false])
 | intro _h
 | refine awp_block ?_
 | refine awp_scope ?_
 | refine cond_b ?_ ?_
 | (show heapOK _ _ = true; kernel_rfl)
 | (show heapOK2 _ _ = true; kernel_rfl)
 | (omega)))
            · have f1 : ((h : Int) < m) = False := eq_false (by omega)
              have f2 : ((m : Int) ≤ h) = True := eq_true (by omega)
              rw [if_neg hlt] at hnx
              by_cases hc1 : cntN P P.length h = 0
              · have f3 : (cntN P P.length h = 0) = True := eq_true hc1
                simp only [townC, slH, slL, sl, slB]; simp (maxSteps := 4000000) only [go_sem, seval]
                (repeat' (first
 | ((exfalso; omega))
 | ((omega))
 | refine awp_seqK ?_
 | refine kt ?_
 | refine And.intro ?_ ?_
 | ((first | refine awp_stp rfl ?_ | refine awp_draw (by kernel_rfl) (by kernel_rfl) ?_ | refine Imp.le2 ?_ | refine go_split (fun _h => ?_) (fun _h => ?_)) <;> try simp (maxSteps := 4000000) only [go_sem, seval, hcl, hv, f1, f2, f3, decide_true, decide_false, Bool.not_true])
 | intro _h
 | refine awp_block ?_
 | refine awp_scope ?_
 | refine cond_b ?_ ?_
 | (show heapOK _ _ = true; kernel_rfl)
 | (show heapOK2 _ _ = true; kernel_rfl)
 | (omega)))
                refine ⟨h + 1, ⟨by omega, hnx hc1⟩, by omega, .le2 ?_⟩
                (try simp only [townC, slH, slL, sl, slB]); simp (maxSteps := 4000000) only [go_sem, seval]
                try (first | rfl | exact ⟨rfl, rfl⟩)
              · have f3 : (cntN P P.length h = 0) = False := eq_false hc1
                rw [← hno (fun hr => hc1 (by have := hr.cnt h hh1; rwa [if_neg hlt] at this))]
                simp only [townC, slH, slL, sl, slB]; simp (maxSteps := 4000000) only [go_sem, seval]
                (repeat' (first
 | ((exfalso; omega))
 | ((omega))
 | refine awp_seqK ?_
 | refine kt ?_
 | refine And.intro ?_ ?_
 | ((first | refine awp_stp rfl ?_ | refine awp_draw (by kernel_rfl) (by kernel_rfl) ?_ | refine Imp.le2 ?_ | refine go_split (fun _h => ?_) (fun _h => ?_)) <;> try simp (maxSteps := 4000000) only [go_sem, seval, hcl, hv, f1, f2, f3, decide_true, decide_false, Bool.not_false])
 | intro _h
 | refine awp_block ?_
 | refine awp_scope ?_
 | refine cond_b ?_ ?_
 | (show heapOK _ _ = true; kernel_rfl)
 | (show heapOK2 _ _ = true; kernel_rfl)
 | (omega)))
          · subst hh1
            simp only [townC, slH, slL, sl, slB]; simp (maxSteps := 4000000) only [go_sem, seval]
            (repeat' (first
 | ((exfalso; omega))
 | ((omega))
 | refine awp_seqK ?_
 | refine kt ?_
 | refine And.intro ?_ ?_
 | ((first | refine awp_stp rfl ?_ | refine awp_draw (by kernel_rfl) (by kernel_rfl) ?_ | refine Imp.le2 ?_ | refine go_split (fun _h => ?_) (fun _h => ?_)) <;> try simp (maxSteps := 4000000) only [go_sem, seval, hcl])
 | intro _h
 | refine awp_block ?_
 | refine awp_scope ?_
 | refine cond_b ?_ ?_
 | (show heapOK _ _ = true; kernel_rfl)
 | (show heapOK2 _ _ = true; kernel_rfl)
 | (omega)))
            refine awp_loopJ (fun i : Nat => i ≤ t.halls.length ∧ ∀ j, j < i → roomN t P P.length j ≤ (t.halls.getD j default).room) (fun i => ⟨mkT 128 [(2, .int .i64 m), (3, .ptr 0 0 0), (8, .osl 2 0 0 t.halls.length), (12, .int .i64 i)], [some (.cells 27 1 0 (townC t)), none, some (.cells 3 1 0 (ints (tab t.halls.length (roomN t P P.length))))], []⟩) (fun i => t.halls.length - i) 0 ⟨Nat.zero_le _, fun j hj => by omega⟩ (.le2 ?_) ?_
            · simp only [townC, slH, slL, sl, slB]; simp (maxSteps := 4000000) only [go_sem, seval]
              try (first | rfl | exact ⟨rfl, rfl⟩)
            · rintro i ⟨hi, hr⟩
              rcases Nat.lt_or_eq_of_le hi with hi1 | hi1
              · have hv : (tab t.halls.length (roomN t P P.length)).getD i 0 = roomN t P P.length i := tab_getD hi1
                simp only [townC, slH, slL, sl, slB]; simp (maxSteps := 4000000) only [go_sem, seval]
                (repeat' (first
 | ((exfalso; omega))
 | ((omega))
 | refine awp_seqK ?_
 | refine kt ?_
 | refine And.intro ?_ ?_
 | ((first | refine awp_stp rfl ?_ | refine awp_draw (by kernel_rfl) (by kernel_rfl) ?_ | refine Imp.le2 ?_ | refine go_split (fun _h => ?_) (fun _h => ?_)) <;> try simp (maxSteps := 4000000) only [go_sem, seval, hrl, hv])
 | intro _h
 | refine awp_block ?_
 | refine awp_scope ?_
 | refine cond_b ?_ ?_
 | (show heapOK _ _ = true; kernel_rfl)
 | (show heapOK2 _ _ = true; kernel_rfl)
 | (omega)))
                all_goals first
                  | exact hno (fun h => by have := h.roo i hi1; omega)
                  | exact (hno (fun h => by have := h.roo i hi1; omega)).symm
                  | (refine ⟨i + 1, ⟨by omega, fun j hji => ?_⟩, by omega, .le2 ?_⟩
                     · rcases Nat.lt_succ_iff_lt_or_eq.1 hji with h1 | rfl
                       · exact hr j h1
                       · omega
                     · (try simp only [townC, slH, slL, sl, slB]); simp (maxSteps := 4000000) only [go_sem, seval]
                       try (first | rfl | exact ⟨rfl, rfl⟩))
                  | trace_state
              · subst hi1
                rw [← hyes ⟨h8, hj, hc, hr⟩]
                simp only [townC, slH, slL, sl, slB]; simp (maxSteps := 4000000) only [go_sem, seval]
                (repeat' (first
 | ((exfalso; omega))
 | ((omega))
 | refine awp_seqK ?_
 | refine kt ?_
 | refine And.intro ?_ ?_
 | ((first | refine awp_stp rfl ?_ | refine awp_draw (by kernel_rfl) (by kernel_rfl) ?_ | refine Imp.le2 ?_ | refine go_split (fun _h => ?_) (fun _h => ?_)) <;> try simp (maxSteps := 4000000) only [go_sem, seval, hrl])
 | intro _h
 | refine awp_block ?_
 | refine awp_scope ?_
 | refine cond_b ?_ ?_
 | (show heapOK _ _ = true; kernel_rfl)
 | (show heapOK2 _ _ = true; kernel_rfl)
 | (omega)))
                all_goals trace_state
  · rw [← hno (fun h => h8 h.len)]
    have e8 : (8 < (P.length : Int)) = True := eq_true (by omega)
    simp only [townC, slH, slL, sl, slB]
    (refine callS_of_awp (fun w args => Try.call28 ..) Try.func28 rfl (fun w0 m0 wz => ?_); simp only [Try.ntmps28, Try.results28, initT, junks, homeC, hallC, slH, slL, townC, sl, List.toList_toArray, List.cons_append, List.nil_append, List.length_cons, List.length_nil, Nat.reduceAdd, Nat.reduceSub])
    (repeat' (first
 | refine awp_seqK ?_
 | refine kt ?_
 | refine And.intro ?_ ?_
 | ((first | refine awp_stp rfl ?_ | refine awp_draw (by kernel_rfl) (by kernel_rfl) ?_ | refine Imp.le2 ?_ | refine go_split (fun _h => ?_) (fun _h => ?_)) <;> try simp (maxSteps := 4000000) only [go_sem, seval, e8, decide_true])
 | intro _h
 | refine awp_block ?_
 | refine awp_scope ?_
 | refine cond_b ?_ ?_
 | (show heapOK _ _ = true; kernel_rfl)
 | (show heapOK2 _ _ = true; kernel_rfl)
 | (omega)))
end Go.Am
