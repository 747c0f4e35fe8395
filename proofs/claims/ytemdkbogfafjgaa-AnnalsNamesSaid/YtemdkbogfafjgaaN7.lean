/- Parts UiA, UiB, UiC, UiF, UiG, UhW, UhX, UmA of the proof, one behind the other. No statement is proved here. -/
import Derived.Test.YtemdkbogfafjgaaN5
import Derived.Test.YtemdkbogfafjgaaN6
set_option linter.unusedVariables false -- all
set_option linter.unusedSimpArgs false
namespace Go.Am
open Go.RowKit Go.Proofs
set_option linter.unusedSimpArgs false
set_option linter.unusedVariables false
def runsL (t : Ann) : Nat → Ste → List (List (Nat × Int))
 | 0, _ => []
 | f + 1, s => if s.rest = 0 then [[]] else (candN t s.rest s.rest).flatMap fun n => if (mayS t s n).2 = true then (runsL t f (mayS t s n).1).map (fun p => (n, (mayS t s n).1.day) :: p) else []
def placeOf : Int → List (Nat × Int) → Nat → Int
 | _, [], _ => 0
 | k, (n, _) :: p, i => if n.testBit i = true then k else placeOf (k + 1) p i
def dayOf : List (Nat × Int) → Nat → Int
 | [], _ => 0
 | (n, d) :: p, i => if n.testBit i = true then d else dayOf p i
def leafs (t : Ann) (m : Nat) (place : Int) (Q : List Int × List Int) (p : List (Nat × Int)) : List Int × List Int :=
 (tab t.reports.length fun i => if m.testBit i = true then placeOf place p i else Q.1.getD i 0, tab t.reports.length fun i => if m.testBit i = true then dayOf p i else Q.2.getD i 0)
section
variable {V : Type}
def visL (g : V → List Int × List Int → V × Bool) : List (List Int × List Int) → V → V × Bool
 | [], v => (v, true)
 | q :: l, v => if (g v q).2 = true then visL g l (g v q).1 else g v q
theorem visL_app {g : V → List Int × List Int → V × Bool} : ∀ {l r : List (List Int × List Int)} {v : V}, visL g (l ++ r) v = if (visL g l v).2 = true then visL g r (visL g l v).1 else visL g l v
 | [], r, v => by simp [visL]
 | q :: l, r, v => by
   simp only [List.cons_append, visL]
   by_cases h : (g v q).2 = true
   ·simp only [h, if_true]; exact visL_app
   ·simp only [h, if_false, Bool.false_eq_true]
end
theorem fm_congr {α β : Type} {f g : α → List β} : ∀ {l : List α}, (∀ x ∈ l, f x = g x) → l.flatMap f = l.flatMap g
 | [], _ => rfl
 | x :: l, h => by
   rw [List.flatMap_cons, List.flatMap_cons, h x (by simp), fm_congr (l := l) fun y hy => h y (by simp [hy])]
theorem tab_cg {n : Nat} {f g : Nat → Int} (h : ∀ i, i < n → f i = g i) : tab n f = tab n g := by
 unfold tab
 apply List.map_congr_left
 intro i hi
 exact h i (by simpa using hi)
theorem tabD {n : Nat} {f : Nat → Int} {i : Nat} (h : i < n) : (tab n f).getD i 0 = f i := by
 simp [tab, List.getD_eq_getElem?_getD, h]
theorem ste_256 {t : Ann} {s : Ste} (ht : AnnOK t) (hs : SteOK t s) : s.rest < 256 := Nat.lt_of_lt_of_le hs.rest (show 2 ^ t.reports.length ≤ 2 ^ 8 from Nat.pow_le_pow_right (by omega) (by have := ht.reports; omega))
theorem runsL_fuel {t : Ann} (ht : AnnOK t) : ∀ (f f' : Nat) (s : Ste), SteOK t s → s.rest < f → s.rest < f' → runsL t f s = runsL t f' s
 | 0, _, _, _, h, _ => by omega
 | _ + 1, 0, _, _, _, h => by omega
 | f + 1, f' + 1, s, hs, h, h' => by
   simp only [runsL]
   split
   ·rfl
   ·apply fm_congr
    intro n hn
    obtain ⟨n0, n1, n2⟩ := mem_candN (ste_256 ht hs) (Nat.and_self _) hn
    split
    ·rename_i hm
     obtain ⟨m1, m2, m3⟩ := mayS_ok ht hs n0 n1 hm
     rw [runsL_fuel ht f f' _ m1 (by omega) (by omega)]
    ·rfl
theorem gmGet_put {κ ν : Type} [DecidableEq κ] {k k' : κ} {v : ν} : ∀ {m : List (κ × ν)}, gmGet (gmPut m k v) k' = if k = k' then some v else gmGet m k'
 | [] => by simp [gmPut, gmGet]
 | e :: m => by
   have ih := gmGet_put (k := k) (k' := k') (v := v) (m := m)
   simp only [gmPut]
   by_cases h : e.1 = k
   ·rw [if_pos h]
    simp only [gmGet]
    by_cases h2 : k = k'
    ·simp [h2]
    ·have h3 : ¬ e.1 = k' := fun h4 => h2 (h.symm.trans h4)
     simp [h2, h3]
   ·rw [if_neg h]
    simp only [gmGet]
    rw [ih]
    by_cases h2 : k = k'
    ·subst h2; simp [h]
    ·simp [h2]
section
variable {V : Type} {t : Ann} {step : V → List Int → List Int → V × Bool}
def KOK (t : Ann) (K : List (Key × Bool)) : Prop := ∀ s, SteOK t s → getS K s = some true → ∀ f, s.rest < f → runsL t f s = []
theorem KOK.put {K : List (Key × Bool)} {s : Ste} {b : Bool} (h : KOK t K) (hs : SteOK t s) (hb : b = true → ∀ f, s.rest < f → runsL t f s = []) : KOK t (putS K s b) := by
 intro s' hs' hg f hf
 unfold putS at hg
 rw [dif_pos ⟨hs.sl, hs.fl⟩] at hg
 unfold getS at hg
 rw [dif_pos ⟨hs'.sl, hs'.fl⟩, gmGet_put] at hg
 split at hg
 ·rename_i e
  have e2 : s = s' := congrArg Subtype.val e
  subst e2
  exact hb (by simpa using hg) f hf
 ·refine h s' hs' ?_ f hf
  unfold getS
  rw [dif_pos ⟨hs'.sl, hs'.fl⟩]; exact hg
structure Agr (t : Ann) (m : Nat) (Q : List Int × List Int) (a : EA V) : Prop where
 l1 : a.pl.length = 7
 l2 : a.dy.length = 7
 q1 : Q.1.length = 7
 q2 : Q.2.length = 7
 e1 : ∀ i, i < t.reports.length → m.testBit i = false → a.pl.getD i 0 = Q.1.getD i 0
 e2 : ∀ i, i < t.reports.length → m.testBit i = false → a.dy.getD i 0 = Q.2.getD i 0
def Resp (t : Ann) (step : V → List Int → List Int → V × Bool) : Prop :=
 ∀ v pl dy pl' dy', (∀ i, i < t.reports.length → pl.getD i 0 = pl'.getD i 0) → (∀ i, i < t.reports.length → dy.getD i 0 = dy'.getD i 0) → step v pl dy = step v pl' dy'
def gOf (step : V → List Int → List Int → V × Bool) (v : V) (q : List Int × List Int) : V × Bool := step v q.1 q.2
structure Spec (t : Ann) (step : V → List Int → List Int → V × Bool) (m : Nat) (Q : List Int × List Int) (L : List (List Int × List Int)) (v : V) (fd : Bool) (r : (Bool × Bool) × EA V) : Prop where
 val : r.2.v = (visL (gOf step) L v).1
 more : r.1.2 = (visL (gOf step) L v).2
 found : r.1.1 = (fd || !L.isEmpty)
 lost : KOK t r.2.K
 agr : Agr t m Q r.2
theorem each_spec (ht : AnnOK t) (hst : Resp t step) : ∀ (f : Nat) (s : Ste) (place : Int) (a : EA V) (Q : List Int × List Int), SteOK t s → s.rest < f → KOK t a.K → Agr t s.rest Q a →
 Spec t step s.rest Q ((runsL t f s).map (leafs t s.rest place Q)) a.v false (eachM t step f s place a)
 | 0, _, _, _, _, _, h, _, _ => by omega
 | f + 1, s, place, a, Q, hs, hf, hK, hA => by
   have hr := ht.reports
   simp only [eachM]
   by_cases h0 : s.rest = 0
   ·rw [if_pos h0]
    have e : step a.v a.pl a.dy = gOf step a.v (leafs t s.rest place Q []) := by
     unfold gOf leafs
     refine hst _ _ _ _ _ (fun i hi => ?_) (fun i hi => ?_)
     ·rw [tabD hi, h0, Nat.zero_testBit, if_neg (by simp)]
      exact hA.e1 i hi (by rw [h0]; exact Nat.zero_testBit i)
     ·rw [tabD hi, h0, Nat.zero_testBit, if_neg (by simp)]
      exact hA.e2 i hi (by rw [h0]; exact Nat.zero_testBit i)
    have e2 : runsL t (f + 1) s = [[]] := by simp only [runsL]; rw [if_pos h0]
    rw [e2]
    refine ⟨?_, ?_, rfl, hK, ⟨hA.l1, hA.l2, hA.q1, hA.q2, hA.e1, hA.e2⟩⟩
    ·simp only [List.map_cons, List.map_nil, visL, e]
     split <;> rfl
    ·simp only [List.map_cons, List.map_nil, visL, e]
     split
     ·rename_i h; exact h
     ·rfl
   ·rw [if_neg h0]
    by_cases hl : getS a.K s = some true
    ·rw [if_pos hl, hK s hs hl (f + 1) hf]
     exact ⟨rfl, rfl, rfl, hK, hA⟩
    ·rw [if_neg hl]
     have e2 : runsL t (f + 1) s = (candN t s.rest s.rest).flatMap fun n => if (mayS t s n).2 = true then (runsL t f (mayS t s n).1).map (fun p => (n, (mayS t s n).1.day) :: p) else [] := by simp only [runsL]; rw [if_neg h0]
     have go : ∀ (l : List Nat) (fd : Bool) (a : EA V), (∀ n ∈ l, n ≠ 0 ∧ n &&& s.rest = n) → KOK t a.K → Agr t s.rest Q a →
      Spec t step s.rest Q ((l.flatMap fun n => if (mayS t s n).2 = true then (runsL t f (mayS t s n).1).map (fun p => (n, (mayS t s n).1.day) :: p) else []).map (leafs t s.rest place Q)) a.v fd (goE (oneM t (eachM t step f) s place) l fd a) := by
      intro l
      induction l with
      | nil => intro fd a _ hK hA; exact ⟨rfl, rfl, by simp [goE], hK, hA⟩
      | cons n l ihl =>
        intro fd a hn hK hA
        obtain ⟨n0, n1⟩ := hn n (by simp)
        have hone : Spec t step s.rest Q ((if (mayS t s n).2 = true then (runsL t f (mayS t s n).1).map (fun p => (n, (mayS t s n).1.day) :: p) else []).map (leafs t s.rest place Q)) a.v false (oneM t (eachM t step f) s place n a) := by
         unfold oneM
         by_cases hm : (mayS t s n).2 = true
         ·rw [if_pos hm, if_pos hm]
          obtain ⟨m1, m2, m3⟩ := mayS_ok ht hs n0 n1 hm
          have hrest : (mayS t s n).1.rest = ndiff s.rest n := rfl
          have hbit : ∀ i, i < t.reports.length → (mayS t s n).1.rest.testBit i = (s.rest.testBit i && !n.testBit i) := fun i hi => by rw [hrest]; exact ndiff_bit (by omega)
          have hsub : ∀ i, n.testBit i = true → s.rest.testBit i = true := fun i hi => by
           have h9 : (n &&& s.rest).testBit i = n.testBit i := by rw [n1]
           rw [Nat.testBit_and, hi, Bool.true_and] at h9; exact h9
          generalize (mayS t s n).1 = to at *
          have hw1 := fun i => wrM_get (now := n) (x := place) (l := Q.1) (i := i) (k := t.reports.length) (by rw [hA.q1]; omega)
          have hw2 := fun i => wrM_get (now := n) (x := to.day) (l := Q.2) (i := i) (k := t.reports.length) (by rw [hA.q2]; omega)
          have hw3 := fun i => wrM_get (now := n) (x := place) (l := a.pl) (i := i) (k := t.reports.length) (by rw [hA.l1]; omega)
          have hw4 := fun i => wrM_get (now := n) (x := to.day) (l := a.dy) (i := i) (k := t.reports.length) (by rw [hA.l2]; omega)
          have hout : ∀ i, i < t.reports.length → to.rest.testBit i = false → n.testBit i = false → s.rest.testBit i = false := fun i hi h1 h2 => by
           have := hbit i hi
           rw [h1, h2] at this
           simpa using this.symm
          have ih := each_spec ht hst f to (place + 1) (putE t n place to.day a) (wrM n place t.reports.length Q.1, wrM n to.day t.reports.length Q.2) m1 (by omega) hK
           ⟨by show (wrM n place t.reports.length a.pl).length = 7; rw [wrM_length (by rw [hA.l1]; omega)]; exact hA.l1, by show (wrM n to.day t.reports.length a.dy).length = 7; rw [wrM_length (by rw [hA.l2]; omega)]; exact hA.l2,
            by show (wrM n place t.reports.length Q.1).length = 7; rw [wrM_length (by rw [hA.q1]; omega)]; exact hA.q1, by show (wrM n to.day t.reports.length Q.2).length = 7; rw [wrM_length (by rw [hA.q2]; omega)]; exact hA.q2,
            fun i hi hb => by
             show (wrM n place t.reports.length a.pl).getD i 0 = (wrM n place t.reports.length Q.1).getD i 0
             rw [hw1, hw3]
             by_cases hni : n.testBit i = true
             ·rw [if_pos ⟨hi, hni⟩, if_pos ⟨hi, hni⟩]
             ·rw [if_neg (fun h => hni h.2), if_neg (fun h => hni h.2)]
              exact hA.e1 i hi (hout i hi hb (by simpa using hni)),
            fun i hi hb => by
             show (wrM n to.day t.reports.length a.dy).getD i 0 = (wrM n to.day t.reports.length Q.2).getD i 0
             rw [hw2, hw4]
             by_cases hni : n.testBit i = true
             ·rw [if_pos ⟨hi, hni⟩, if_pos ⟨hi, hni⟩]
             ·rw [if_neg (fun h => hni h.2), if_neg (fun h => hni h.2)]
              exact hA.e2 i hi (hout i hi hb (by simpa using hni))⟩
          have el : (runsL t f to).map (leafs t to.rest (place + 1) (wrM n place t.reports.length Q.1, wrM n to.day t.reports.length Q.2)) = ((runsL t f to).map (fun p => (n, to.day) :: p)).map (leafs t s.rest place Q) := by
           rw [List.map_map]
           apply List.map_congr_left
           intro p _
           simp only [Function.comp, leafs, Prod.mk.injEq]
           refine ⟨tab_cg fun i hi => ?_, tab_cg fun i hi => ?_⟩
           ·rw [hw1, hbit i hi]
            simp only [placeOf]
            by_cases hni : n.testBit i = true
            ·rw [if_pos (hsub i hni)]; simp [hni, hi]
            ·have hni : n.testBit i = false := by simpa using hni
             simp [hni]
           ·rw [hw2, hbit i hi]
            simp only [dayOf]
            by_cases hni : n.testBit i = true
            ·rw [if_pos (hsub i hni)]; simp [hni, hi]
            ·have hni : n.testBit i = false := by simpa using hni
             simp [hni]
          rw [el] at ih
          refine ⟨ih.val, ih.more, ih.found, ih.lost, ⟨ih.agr.l1, ih.agr.l2, hA.q1, hA.q2, fun i hi hb => ?_, fun i hi hb => ?_⟩⟩
          ·have hni : n.testBit i = false := by
            cases h9 : n.testBit i with
            | false => rfl
            | true => rw [hsub i h9] at hb; cases hb
           rw [ih.agr.e1 i hi (by rw [hbit i hi, hb]; rfl), hw1, if_neg (fun h => by rw [hni] at h; cases h.2)]
          ·have hni : n.testBit i = false := by
            cases h9 : n.testBit i with
            | false => rfl
            | true => rw [hsub i h9] at hb; cases hb
           rw [ih.agr.e2 i hi (by rw [hbit i hi, hb]; rfl), hw2, if_neg (fun h => by rw [hni] at h; cases h.2)]
         ·rw [if_neg hm, if_neg hm]
          exact ⟨rfl, rfl, rfl, hK, hA⟩
        rw [List.flatMap_cons, List.map_append]
        simp only [goE]
        generalize ((if (mayS t s n).2 = true then (runsL t f (mayS t s n).1).map (fun p => (n, (mayS t s n).1.day) :: p) else []).map (leafs t s.rest place Q)) = L1 at *
        generalize oneM t (eachM t step f) s place n a = o at *
        have hm := hone.more
        have hv := hone.val
        have hfo := hone.found
        by_cases hmo : o.1.2 = true
        ·rw [if_pos hmo]
         have ih := ihl (fd || o.1.1) o.2 (fun m hm => hn m (by simp [hm])) hone.lost hone.agr
         rw [hmo] at hm
         refine ⟨?_, ?_, ?_, ih.lost, ih.agr⟩
         ·rw [ih.val, visL_app, if_pos hm.symm, hv]
         ·rw [ih.more, visL_app, if_pos hm.symm, hv]
         ·rw [ih.found, hfo]; cases L1 <;> simp [Bool.or_assoc]
        ·rw [if_neg hmo]
         have hm' : ¬ (visL (gOf step) L1 a.v).2 = true := by rw [← hm]; exact hmo
         refine ⟨?_, ?_, ?_, hone.lost, hone.agr⟩
         ·rw [visL_app, if_neg hm']; exact hv
         ·rw [visL_app, if_neg hm']; simpa using hm'
         ·have hne : L1.isEmpty = false := by
           cases L1 with
           | nil => exact absurd rfl hm'
           | cons => rfl
          rw [hfo]
          cases L1 with
          | nil => exact absurd rfl hm'
          | cons => simp
     have hg := go (candN t s.rest s.rest) false a (fun n hn => by
      obtain ⟨n0, n1, n2⟩ := mem_candN (ste_256 ht hs) (Nat.and_self _) hn
      exact ⟨n0, n1⟩) hK hA
     rw [← e2] at hg
     generalize goE (oneM t (eachM t step f) s place) (candN t s.rest s.rest) false a = r at *
     unfold endM
     by_cases hmo : r.1.2 = true
     ·rw [if_pos hmo]
      refine ⟨hg.val, hg.more, hg.found, ?_, ⟨hg.agr.l1, hg.agr.l2, hg.agr.q1, hg.agr.q2, hg.agr.e1, hg.agr.e2⟩⟩
      refine hg.lost.put hs (fun hb f' hf' => ?_)
      have hfo := hg.found
      have hfd : r.1.1 = false := by simpa using hb
      rw [hfd] at hfo
      have : runsL t (f + 1) s = [] := by
       have h9 : ((runsL t (f + 1) s).map (leafs t s.rest place Q)).isEmpty = true := by simpa using hfo.symm
       simpa using h9
      rw [← runsL_fuel ht (f + 1) f' s hs hf hf']; exact this
     ·rw [if_neg hmo]; exact hg
def canon (t : Ann) (p : List (Nat × Int)) : List Int × List Int := (tab t.reports.length fun i => placeOf 0 p i, tab t.reports.length fun i => dayOf p i)
def runsA (t : Ann) : List (List (Nat × Int)) := runsL t 128 (begS t)
theorem all_spec (ht : AnnOK t) (hst : Resp t step) (v : V) : (allM t step v).2.v = (visL (gOf step) ((runsA t).map (canon t)) v).1 := by
 have h128 : (begS t).rest < 128 := by
  show 2 ^ t.reports.length - 1 < 128
  have : 2 ^ t.reports.length ≤ 2 ^ 7 := Nat.pow_le_pow_right (by omega) ht.reports.2
  omega
 have h := each_spec ht hst 128 (begS t) 0 ⟨v, zer7, zer7, []⟩ (zer7, zer7) (begS_ok ht) h128 (fun s _ hg => by unfold getS at hg; split at hg <;> cases hg) ⟨rfl, rfl, rfl, rfl, fun _ _ _ => rfl, fun _ _ _ => rfl⟩
 have e : (runsL t 128 (begS t)).map (leafs t (begS t).rest 0 (zer7, zer7)) = (runsA t).map (canon t) := by
  unfold runsA
  apply List.map_congr_left
  intro p _
  have hb : ∀ i, i < t.reports.length → (begS t).rest.testBit i = true := fun i hi => by
   show (2 ^ t.reports.length - 1).testBit i = true
   rw [Nat.testBit_two_pow_sub_one]; simpa using hi
  simp only [leafs, canon, Prod.mk.injEq]
  exact ⟨tab_cg fun i hi => by rw [if_pos (hb i hi)], tab_cg fun i hi => by rw [if_pos (hb i hi)]⟩
 rw [← e]
 exact h.val
end
end Go.Am
namespace Go.Am
open Go.RowKit Go.Proofs
set_option linter.unusedSimpArgs false
set_option linter.unusedVariables false
def rp (t : Ann) (i : Nat) : Rpt := t.reports.getD i default
def cl (t : Ann) (j : Nat) : Clm := t.claims.getD j default
structure Chr (t : Ann) (C D : Nat → Int) : Prop where
 day : ∀ i, i < t.reports.length → (rp t i).lo ≤ D i ∧ D i ≤ (rp t i).hi
 same : ∀ i k, i < t.reports.length → k < t.reports.length → C i = C k → (rp t i).slope = (rp t k).slope ∧ D i = D k
 gap : ∀ i k, i < t.reports.length → k < t.reports.length → C i ≠ C k → (rp t i).slope = (rp t k).slope → D i + max t.rest 1 ≤ D k ∨ D k + max t.rest 1 ≤ D i
 before : ∀ j, j < t.claims.length → (cl t j).kind = 0 → D (cl t j).a.toNat < D (cl t j).b.toNat
 one : ∀ j, j < t.claims.length → (cl t j).kind = 1 → C (cl t j).a.toNat = C (cl t j).b.toNat
 other : ∀ j, j < t.claims.length → (cl t j).kind ≠ 0 → (cl t j).kind ≠ 1 → C (cl t j).a.toNat ≠ C (cl t j).b.toNat
theorem dayK_ge {t : Ann} {s : Ste} {n : Nat} : ∀ k, s.day ≤ dayK t s n k ∧ s.slopes.getD (slopeO t n).toNat 0 ≤ dayK t s n k ∧ ∀ i, i < k → n.testBit i = true → (rp t i).lo ≤ dayK t s n k ∧ s.frm.getD i 0 ≤ dayK t s n k
 | 0 => by
   simp only [dayK]
   exact ⟨by omega, by omega, fun i hi => by omega⟩
 | k + 1 => by
   obtain ⟨h1, h2, h3⟩ := dayK_ge (t := t) (s := s) (n := n) k
   simp only [dayK]
   split
   ·rename_i hb
    refine ⟨by omega, by omega, fun i hi hbi => ?_⟩
    by_cases e : i = k
    ·subst e
     show (t.reports.getD i default).lo ≤ _ ∧ _
     omega
    ·have := h3 i (by omega) hbi; omega
   ·rename_i hb
    refine ⟨h1, h2, fun i hi hbi => ?_⟩
    have e : i ≠ k := fun e => hb (e ▸ hbi)
    exact h3 i (by omega) hbi
theorem dayK_le {t : Ann} {s : Ste} {n : Nat} {B : Int} (h1 : s.day ≤ B) (h2 : s.slopes.getD (slopeO t n).toNat 0 ≤ B) : ∀ k, (∀ i, i < k → n.testBit i = true → (rp t i).lo ≤ B ∧ s.frm.getD i 0 ≤ B) → dayK t s n k ≤ B
 | 0, _ => by simp only [dayK]; omega
 | k + 1, h => by
   have ih := dayK_le h1 h2 k (fun i hi => h i (by omega))
   simp only [dayK]
   split
   ·rename_i hb
    have : (t.reports.getD k default).lo ≤ B ∧ s.frm.getD k 0 ≤ B := h k (by omega) hb
    omega
   ·exact ih
theorem fitK_q {t : Ann} {n : Nat} {day : Int} {q : Bool} : ∀ {k : Nat}, fitK t n day q k = true → q = true
 | 0, h => h
 | k + 1, h => by
   simp only [fitK, Bool.and_eq_true] at h
   exact fitK_q h.1
theorem fitK_of {t : Ann} {n : Nat} {day : Int} : ∀ {k : Nat}, (∀ i, i < k → n.testBit i = true → day ≤ (rp t i).hi) → fitK t n day true k = true
 | 0, _ => rfl
 | k + 1, h => by
   simp only [fitK, Bool.and_eq_true, Bool.or_eq_true, Bool.not_eq_true', decide_eq_true_eq]
   refine ⟨fitK_of fun i hi => h i (by omega), ?_⟩
   cases hb : n.testBit k with
   | false => exact .inl rfl
   | true => exact .inr (h k (by omega) hb)
theorem fromK_get {t : Ann} (ht : AnnOK t) {n : Nat} {day : Int} {F : List Int} (hF : F.length = 7) : ∀ k, k ≤ t.claims.length → ∀ i, i < 7 →
 F.getD i 0 ≤ (fromK t n day F k).getD i 0 ∧ (∀ j, j < k → (cl t j).kind = 0 → n.testBit (cl t j).a.toNat = true → (cl t j).b.toNat = i → day + 1 ≤ (fromK t n day F k).getD i 0) ∧
 (∀ B, F.getD i 0 ≤ B → (∀ j, j < k → (cl t j).kind = 0 → n.testBit (cl t j).a.toNat = true → (cl t j).b.toNat = i → day + 1 ≤ B) → (fromK t n day F k).getD i 0 ≤ B)
 | 0, _, i, hi => ⟨Int.le_refl _, fun j hj => by omega, fun B h _ => h⟩
 | k + 1, hk, i, hi => by
   have ih := fun i hi => fromK_get ht (n := n) (day := day) hF k (by omega) i hi
   have hl := fromK_length (now := n) (day := day) ht hF k (by omega)
   have hb := (ht.clm k (by omega)).2.2
   have hr := ht.reports
   obtain ⟨h1, h2, h3⟩ := ih i hi
   have hcl : t.claims.getD k default = cl t k := rfl
   rw [hcl] at hb
   simp only [fromK, hcl]
   split
   ·rename_i hc
    rw [isp_getD (by omega)]
    by_cases e : i = (cl t k).b.toNat
    ·rw [if_pos e]
     obtain ⟨g1, g2, g3⟩ := ih (cl t k).b.toNat (by omega)
     rw [← e] at g1 g2 g3 ⊢
     refine ⟨by omega, fun j hj hk0 hn hbi => ?_, fun B hB hall => ?_⟩
     ·by_cases ej : j = k
      ·omega
      ·have := g2 j (by omega) hk0 hn hbi; omega
     ·have a1 := g3 B hB (fun j hj => hall j (by omega))
      have a2 := hall k (by omega) hc.1 hc.2 e.symm
      omega
    ·rw [if_neg e]
     refine ⟨h1, fun j hj hk0 hn hbi => ?_, fun B hB hall => h3 B hB (fun j hj => hall j (by omega))⟩
     by_cases ej : j = k
     ·subst ej; exact absurd hbi.symm e
     ·exact h2 j (by omega) hk0 hn hbi
   ·rename_i hc
    refine ⟨h1, fun j hj hk0 hn hbi => ?_, fun B hB hall => h3 B hB (fun j hj => hall j (by omega))⟩
    by_cases ej : j = k
    ·subst ej; exact absurd ⟨hk0, hn⟩ hc
    ·exact h2 j (by omega) hk0 hn hbi
theorem sameK_at {t : Ann} {n : Nat} : ∀ {k : Nat}, sameK t n k = true ↔ ∀ i, i < k → n.testBit i = true → (rp t i).slope = slopeO t n
 | 0 => by simp [sameK]
 | k + 1 => by
   have ih := sameK_at (t := t) (n := n) (k := k)
   simp only [sameK, Bool.and_eq_true, Bool.or_eq_true, Bool.not_eq_true', decide_eq_true_eq]
   rw [ih]
   constructor
   ·rintro ⟨h1, h2⟩ i hi hb
    by_cases e : i = k
    ·subst e
     rcases h2 with h2 | h2
     ·rw [h2] at hb; cases hb
     ·exact h2
    ·exact h1 i (by omega) hb
   ·intro h
    refine ⟨fun i hi hb => h i (by omega) hb, ?_⟩
    cases hb : n.testBit k with
    | false => exact .inl rfl
    | true => exact .inr (h k (by omega) hb)
theorem cl_mem {t : Ann} {j : Nat} (h : j < t.claims.length) : cl t j ∈ t.claims := by
 unfold cl
 rw [List.getD_eq_getElem?_getD, List.getElem?_eq_getElem h]
 exact List.getElem_mem h
structure Post (t : Ann) (s : Ste) (place : Int) (p : List (Nat × Int)) : Prop where
 pl : ∀ i, i < t.reports.length → s.rest.testBit i = true → place ≤ placeOf place p i
 dy : ∀ i, i < t.reports.length → s.rest.testBit i = true → s.day ≤ dayOf p i ∧ s.slopes.getD (rp t i).slope.toNat 0 ≤ dayOf p i ∧ s.frm.getD i 0 ≤ dayOf p i ∧ (rp t i).lo ≤ dayOf p i ∧ dayOf p i ≤ (rp t i).hi
 same : ∀ i k, i < t.reports.length → k < t.reports.length → s.rest.testBit i = true → s.rest.testBit k = true → placeOf place p i = placeOf place p k → (rp t i).slope = (rp t k).slope ∧ dayOf p i = dayOf p k
 gap : ∀ i k, i < t.reports.length → k < t.reports.length → s.rest.testBit i = true → s.rest.testBit k = true → placeOf place p i ≠ placeOf place p k → (rp t i).slope = (rp t k).slope → dayOf p i + max t.rest 1 ≤ dayOf p k ∨ dayOf p k + max t.rest 1 ≤ dayOf p i
 before : ∀ j, j < t.claims.length → (cl t j).kind = 0 → s.rest.testBit (cl t j).a.toNat = true → s.rest.testBit (cl t j).b.toNat = true → dayOf p (cl t j).a.toNat < dayOf p (cl t j).b.toNat
 one : ∀ j, j < t.claims.length → (cl t j).kind = 1 → s.rest.testBit (cl t j).a.toNat = true → s.rest.testBit (cl t j).b.toNat = true → placeOf place p (cl t j).a.toNat = placeOf place p (cl t j).b.toNat
 other : ∀ j, j < t.claims.length → (cl t j).kind ≠ 0 → (cl t j).kind ≠ 1 → s.rest.testBit (cl t j).a.toNat = true → s.rest.testBit (cl t j).b.toNat = true → placeOf place p (cl t j).a.toNat ≠ placeOf place p (cl t j).b.toNat
structure Pre (t : Ann) (m : Nat) : Prop where
 before : ∀ j, j < t.claims.length → (cl t j).kind = 0 → m.testBit (cl t j).a.toNat = true → m.testBit (cl t j).b.toNat = true
 one : ∀ j, j < t.claims.length → (cl t j).kind = 1 → m.testBit (cl t j).a.toNat = m.testBit (cl t j).b.toNat
theorem run_post {t : Ann} (ht : AnnOK t) : ∀ (f : Nat) (s : Ste) (place : Int) (p : List (Nat × Int)), SteOK t s → Pre t s.rest → p ∈ runsL t f s → Post t s place p
 | 0, _, _, _, _, _, h => by simp [runsL] at h
 | f + 1, s, place, p, hs, hpre, hp => by
   have hr := ht.reports
   have hap : 1 ≤ max t.rest 1 := by omega
   simp only [runsL] at hp
   by_cases h0 : s.rest = 0
   ·have hz : ∀ i, s.rest.testBit i = true → False := fun i h => by rw [h0, Nat.zero_testBit] at h; cases h
    exact ⟨fun i _ h => (hz i h).elim, fun i _ h => (hz i h).elim, fun i k _ _ h => (hz i h).elim, fun i k _ _ h => (hz i h).elim, fun j _ _ h => (hz _ h).elim, fun j _ _ h => (hz _ h).elim, fun j _ _ _ h => (hz _ h).elim⟩
   ·rw [if_neg h0] at hp
    obtain ⟨n, hn, hp2⟩ := List.mem_flatMap.1 hp
    clear hp
    have hp := hp2
    clear hp2
    obtain ⟨n0, n1, n2⟩ := mem_candN (ste_256 ht hs) (Nat.and_self _) hn
    by_cases hm : (mayS t s n).2 = true
    ·rw [if_pos hm] at hp
     obtain ⟨q, hq, e⟩ := List.mem_map.1 hp
     subst e
     clear hp
     revert q
     intro p hp
     obtain ⟨m1, m2, m3⟩ := mayS_ok ht hs n0 n1 hm
     have hsub : ∀ i, n.testBit i = true → s.rest.testBit i = true := fun i hi => by
      have h9 : (n &&& s.rest).testBit i = n.testBit i := by rw [n1]
      rw [Nat.testBit_and, hi, Bool.true_and] at h9; exact h9
     have hbit : ∀ i, i < t.reports.length → (mayS t s n).1.rest.testBit i = (s.rest.testBit i && !n.testBit i) := fun i hi => ndiff_bit (by omega)
     have hsl := sameK_at.1 n2
     have hfit : fitK t n (dayN t s n) (allH t n (ndiff s.rest n)) t.reports.length = true := hm
     have hhold : ∀ j, j < t.claims.length → holdB (cl t j) n (ndiff s.rest n) = true := fun j hj => List.all_eq_true.1 (fitK_q hfit) _ (cl_mem hj)
     have hday := dayK_ge (t := t) (s := s) (n := n) t.reports.length
     have hhi := fun i hi hb => fitK_bd hfit (i := i) hi hb
     have htz := tz_in n0 (by have : n ≤ s.rest := by { have h9 : n &&& s.rest ≤ s.rest := Nat.and_le_right; rw [n1] at h9; exact h9 }
                              have := hs.rest; omega) hr.2
     have hso := (ht.rpt (tz n) htz).1
     have hslo : ∀ i, i < t.reports.length → (mayS t s n).1.slopes.getD (rp t i).slope.toNat 0 = if (rp t i).slope = slopeO t n then dayN t s n + max t.rest 1 else s.slopes.getD (rp t i).slope.toNat 0 := fun i hi => by
      show (isp s.slopes (slopeO t n).toNat (dayN t s n + max t.rest 1)).getD _ 0 = _
      have h9 : 0 ≤ (rp t i).slope ∧ (rp t i).slope ≤ 9 := (ht.rpt i hi).1
      have h8 : 0 ≤ slopeO t n ∧ slopeO t n ≤ 9 := hso
      rw [isp_getD (by rw [hs.sl]; omega)]
      by_cases e : (rp t i).slope = slopeO t n
      ·rw [if_pos e, if_pos (by rw [e])]
      ·rw [if_neg e, if_neg (by omega)]
     have hfrm := fun i (hi : i < t.reports.length) => fromK_get ht (n := n) (day := dayN t s n) hs.fl t.claims.length (Nat.le_refl _) i (by omega)
     have hpre' : Pre t (mayS t s n).1.rest := by
      refine ⟨fun j hj hk ha => ?_, fun j hj hk => ?_⟩
      ·have hc := ht.clm j hj
       have h9 : holdB (cl t j) n (ndiff s.rest n) = true := hhold j hj
       have hc2 : t.claims.getD j default = cl t j := rfl
       rw [hc2] at hc
       rw [hbit _ (by omega)] at ha ⊢
       simp only [Bool.and_eq_true, Bool.not_eq_true'] at ha ⊢
       refine ⟨hpre.before j hj hk ha.1, ?_⟩
       unfold holdB hold1 at h9
       rw [if_pos hk, ndiff_bit (by omega), ha.1, ha.2] at h9
       simpa using h9
      ·have hc := ht.clm j hj
       have h9 : holdB (cl t j) n (ndiff s.rest n) = true := hhold j hj
       have hc2 : t.claims.getD j default = cl t j := rfl
       rw [hc2] at hc
       rw [hbit _ (by omega), hbit _ (by omega), hpre.one j hj hk]
       unfold holdB hold2 at h9
       rw [if_neg (by omega), if_pos hk] at h9
       rw [eq_of_beq h9]
     have ih := run_post ht f (mayS t s n).1 (place + 1) p m1 hpre' hp
     have hdd : (mayS t s n).1.day = dayN t s n := rfl
     have hfr : ∀ i, (mayS t s n).1.frm.getD i 0 = (fromK t n (dayN t s n) s.frm t.claims.length).getD i 0 := fun i => rfl
     have hdk : dayN t s n = dayK t s n t.reports.length := rfl
     have hnr : ∀ j, j < t.claims.length → holdB (cl t j) n (ndiff s.rest n) = true ∧ (∀ i, i < t.reports.length → (ndiff s.rest n).testBit i = (s.rest.testBit i && !n.testBit i)) := fun j hj => ⟨hhold j hj, hbit⟩
     generalize (mayS t s n).1 = to at *
     have cases2 : ∀ i, i < t.reports.length → s.rest.testBit i = true → (n.testBit i = true ∧ placeOf place ((n, to.day) :: p) i = place ∧ dayOf ((n, to.day) :: p) i = to.day) ∨ (n.testBit i = false ∧ to.rest.testBit i = true ∧ placeOf place ((n, to.day) :: p) i = placeOf (place + 1) p i ∧ dayOf ((n, to.day) :: p) i = dayOf p i) := by
      intro i hi hb
      cases hni : n.testBit i with
      | true => exact .inl ⟨rfl, by simp [placeOf, hni], by simp [dayOf, hni]⟩
      | false => exact .inr ⟨rfl, by rw [hbit i hi, hb, hni]; rfl, by simp [placeOf, hni], by simp [dayOf, hni]⟩
     have gap1 : ∀ i k, i < t.reports.length → k < t.reports.length → n.testBit i = true → to.rest.testBit k = true → (rp t i).slope = (rp t k).slope → to.day + max t.rest 1 ≤ dayOf p k := by
      intro i k hi hk h1 h2 h3
      have h4 := (ih.dy k hk h2).2.1
      rw [hslo k hk, if_pos (h3.symm.trans (hsl i hi h1)), ← hdd] at h4
      exact h4
     refine ⟨fun i hi hb => ?_, fun i hi hb => ?_, fun i k hi hk hb1 hb2 he => ?_, fun i k hi hk hb1 hb2 hne he => ?_, fun j hj hk hb1 hb2 => ?_, fun j hj hk hb1 hb2 => ?_, fun j hj hk hk2 hb1 hb2 => ?_⟩
     ·rcases cases2 i hi hb with ⟨h1, h2, h3⟩ | ⟨h1, h2, h3, h4⟩
      ·rw [h2]; exact Int.le_refl _
      ·rw [h3]; have := ih.pl i hi h2; omega
     ·rcases cases2 i hi hb with ⟨h1, h2, h3⟩ | ⟨h1, h2, h3, h4⟩
      ·rw [h3, hdd, hdk]
       have g1 := hday.2.2 i hi h1
       have g2 := hhi i hi h1
       have g3 := hsl i hi h1
       rw [g3]
       exact ⟨hday.1, hday.2.1, g1.2, g1.1, g2⟩
      ·rw [h4]
       have g := ih.dy i hi h2
       have g1 := hslo i hi
       have g2 := (hfrm i hi).1
       rw [← hfr] at g2
       refine ⟨by have := hday.1; omega, ?_, by omega, g.2.2.2.1, g.2.2.2.2⟩
       have g3 := g.2.1
       rw [g1] at g3
       by_cases e : (rp t i).slope = slopeO t n
       ·rw [if_pos e] at g3
        have g4 := hday.2.1
        rw [← e] at g4
        omega
       ·rw [if_neg e] at g3; exact g3
     ·rcases cases2 i hi hb1 with ⟨h1, h2, h3⟩ | ⟨h1, h2, h3, h4⟩ <;> rcases cases2 k hk hb2 with ⟨g1, g2, g3⟩ | ⟨g1, g2, g3, g4⟩
      ·exact ⟨(hsl i hi h1).trans (hsl k hk g1).symm, h3.trans g3.symm⟩
      ·rw [h2, g3] at he
       have := ih.pl k hk g2; omega
      ·rw [h3, g2] at he
       have := ih.pl i hi h2; omega
      ·rw [h3, g3] at he
       rw [h4, g4]
       exact ih.same i k hi hk h2 g2 he
     ·rcases cases2 i hi hb1 with ⟨h1, h2, h3⟩ | ⟨h1, h2, h3, h4⟩ <;> rcases cases2 k hk hb2 with ⟨g1, g2, g3⟩ | ⟨g1, g2, g3, g4⟩
      ·exact absurd (h2.trans g2.symm) hne
      ·rw [h3, g4]; exact .inl (gap1 i k hi hk h1 g2 he)
      ·rw [h4, g3]; exact .inr (gap1 k i hk hi g1 h2 he.symm)
      ·rw [h3, g3] at hne
       rw [h4, g4]
       exact ih.gap i k hi hk h2 g2 hne he
     ·have hc := ht.clm j hj
      have hc2 : t.claims.getD j default = cl t j := rfl
      rw [hc2] at hc
      have hho := hhold j hj
      unfold holdB hold1 at hho
      rw [if_pos hk] at hho
      rcases cases2 _ (by omega) hb1 with ⟨h1, h2, h3⟩ | ⟨h1, h2, h3, h4⟩ <;> rcases cases2 _ (by omega) hb2 with ⟨g1, g2, g3⟩ | ⟨g1, g2, g3, g4⟩
      ·rw [h1, g1] at hho; simp at hho
      ·rw [h3, g4]
       have g5 := (ih.dy _ (by omega) g2).2.2.1
       rw [hfr] at g5
       have g6 := (hfrm _ (show (cl t j).b.toNat < t.reports.length by omega)).2.1 j hj hk h1 rfl
       omega
      ·have g5 := (hnr j hj).2 _ (show (cl t j).a.toNat < t.reports.length by omega)
       rw [g1, g5, hb1, h1] at hho
       simp at hho
      ·rw [h4, g4]; exact ih.before j hj hk h2 g2
     ·have hc := ht.clm j hj
      have hc2 : t.claims.getD j default = cl t j := rfl
      rw [hc2] at hc
      have hho := hhold j hj
      unfold holdB hold2 at hho
      rw [if_neg (by omega), if_pos hk] at hho
      have hho := eq_of_beq hho
      rcases cases2 _ (by omega) hb1 with ⟨h1, h2, h3⟩ | ⟨h1, h2, h3, h4⟩ <;> rcases cases2 _ (by omega) hb2 with ⟨g1, g2, g3⟩ | ⟨g1, g2, g3, g4⟩
      ·rw [h2, g2]
      ·rw [h1, g1] at hho; cases hho
      ·rw [h1, g1] at hho; cases hho
      ·rw [h3, g3]; exact ih.one j hj hk h2 g2
     ·have hc := ht.clm j hj
      have hc2 : t.claims.getD j default = cl t j := rfl
      rw [hc2] at hc
      have hho := hhold j hj
      unfold holdB hold3 at hho
      rw [if_neg hk, if_neg hk2] at hho
      rcases cases2 _ (by omega) hb1 with ⟨h1, h2, h3⟩ | ⟨h1, h2, h3, h4⟩ <;> rcases cases2 _ (by omega) hb2 with ⟨g1, g2, g3⟩ | ⟨g1, g2, g3, g4⟩
      ·rw [h1, g1] at hho; simp at hho
      ·rw [h2, g3]; have := ih.pl _ (by omega) g2; omega
      ·rw [h3, g2]; have := ih.pl _ (by omega) h2; omega
      ·rw [h3, g3]; exact ih.other j hj hk hk2 h2 g2
    ·rw [if_neg hm] at hp; cases hp
theorem begS_bit {t : Ann} {i : Nat} (h : i < t.reports.length) : (begS t).rest.testBit i = true := by
 show (2 ^ t.reports.length - 1).testBit i = true
 rw [Nat.testBit_two_pow_sub_one]; simpa using h
theorem runs_chr {t : Ann} (ht : AnnOK t) {p : List (Nat × Int)} (hp : p ∈ runsA t) : Chr t (placeOf 0 p) (dayOf p) := by
 have hcl : ∀ j, j < t.claims.length → (cl t j).a.toNat < t.reports.length ∧ (cl t j).b.toNat < t.reports.length := fun j hj => by
  have hc := ht.clm j hj
  have hc2 : t.claims.getD j default = cl t j := rfl
  rw [hc2] at hc; omega
 have h := run_post ht 128 (begS t) 0 p (begS_ok ht) ⟨fun j hj _ _ => begS_bit (hcl j hj).2, fun j hj _ => by rw [begS_bit (hcl j hj).1, begS_bit (hcl j hj).2]⟩ hp
 exact ⟨fun i hi => (h.dy i hi (begS_bit hi)).2.2.2, fun i k hi hk => h.same i k hi hk (begS_bit hi) (begS_bit hk), fun i k hi hk => h.gap i k hi hk (begS_bit hi) (begS_bit hk),
  fun j hj hk => h.before j hj hk (begS_bit (hcl j hj).1) (begS_bit (hcl j hj).2), fun j hj hk => h.one j hj hk (begS_bit (hcl j hj).1) (begS_bit (hcl j hj).2), fun j hj hk hk2 => h.other j hj hk hk2 (begS_bit (hcl j hj).1) (begS_bit (hcl j hj).2)⟩
end Go.Am
namespace Go.Am
open Go.RowKit Go.Proofs
set_option linter.unusedSimpArgs false
set_option linter.unusedVariables false
theorem subs_alR : (List.range 128).all (fun o => decide (subsR o o = (List.range (o + 1)).reverse.filter fun x => Nat.beq (x &&& o) x)) = true := by kernel_rfl
theorem mem_subs {o x : Nat} (ho : o < 128) (h : x &&& o = x) : x ∈ subsR o o := by
 have h1 := List.all_eq_true.1 subs_alR o (by simpa using ho)
 rw [of_decide_eq_true h1, List.mem_filter]
 have hle : x ≤ o := by
  have h9 : x &&& o ≤ o := Nat.and_le_right
  rw [h] at h9; exact h9
 refine ⟨?_, by rw [h]; exact Nat.beq_refl x⟩
 rw [List.mem_reverse, List.mem_range]; omega
def maskN (P : Nat → Bool) : Nat → Nat
 | 0 => 0
 | k + 1 => maskN P k ||| (if P k = true then 2 ^ k else 0)
theorem mask_bit {P : Nat → Bool} {i : Nat} : ∀ {k : Nat}, (maskN P k).testBit i = (decide (i < k) && P i)
 | 0 => by simp [maskN]
 | k + 1 => by
   have ih := mask_bit (P := P) (i := i) (k := k)
   simp only [maskN, Nat.testBit_or, ih]
   by_cases e : i = k
   ·subst e
    cases hp : P i <;> simp [Nat.testBit_two_pow]
   ·have h1 : (if P k = true then 2 ^ k else 0).testBit i = false := by
     split
     ·rw [Nat.testBit_two_pow]; simp; omega
     ·simp
    rw [h1, Bool.or_false]
    by_cases h2 : i < k
    ·simp [h2, show i < k + 1 by omega]
    ·simp [h2, show ¬ i < k + 1 by omega]
theorem exists_min (d : Nat → Int) : ∀ (l : List Nat), l ≠ [] → ∃ i ∈ l, ∀ k ∈ l, d i ≤ d k
 | [], h => absurd rfl h
 | [i], _ => ⟨i, by simp, by simp⟩
 | i :: j :: l, _ => by
   obtain ⟨m, hm, hl⟩ := exists_min d (j :: l) (by simp)
   by_cases h : d i ≤ d m
   ·refine ⟨i, by simp, fun k hk => ?_⟩
    rcases List.mem_cons.1 hk with e | e
    ·rw [e]; exact Int.le_refl _
    ·exact Int.le_trans h (hl k e)
   ·refine ⟨m, by simp [hm], fun k hk => ?_⟩
    rcases List.mem_cons.1 hk with e | e
    ·rw [e]; omega
    ·exact hl k e
theorem chr_run {t : Ann} (ht : AnnOK t) {C d : Nat → Int} (hc : Chr t C d) : ∀ (f : Nat) (s : Ste) (place : Int), SteOK t s → s.rest < f →
 (∀ i, i < t.reports.length → s.rest.testBit i = true → s.day ≤ d i ∧ s.slopes.getD (rp t i).slope.toNat 0 ≤ d i ∧ s.frm.getD i 0 ≤ d i) →
 (∀ i k, i < t.reports.length → k < t.reports.length → C i = C k → s.rest.testBit i = s.rest.testBit k) →
 ∃ p ∈ runsL t f s, (∀ i, i < t.reports.length → s.rest.testBit i = true → dayOf p i ≤ d i) ∧ (∀ i, i < t.reports.length → s.rest.testBit i = true → place ≤ placeOf place p i) ∧
   ∀ i k, i < t.reports.length → k < t.reports.length → s.rest.testBit i = true → s.rest.testBit k = true → (placeOf place p i = placeOf place p k ↔ C i = C k)
 | 0, _, _, _, h, _, _ => by omega
 | f + 1, s, place, hs, hf, hJ, hC => by
   have hr := ht.reports
   have hap : 1 ≤ max t.rest 1 := by omega
   simp only [runsL]
   by_cases h0 : s.rest = 0
   ·rw [if_pos h0]
    have hz : ∀ i, s.rest.testBit i = true → False := fun i h => by rw [h0, Nat.zero_testBit] at h; cases h
    exact ⟨[], by simp, fun i _ h => (hz i h).elim, fun i _ h => (hz i h).elim, fun i k _ _ h => (hz i h).elim⟩
   ·rw [if_neg h0]
    have hne : (List.range t.reports.length).filter (fun i => s.rest.testBit i) ≠ [] := by
     intro he
     apply h0
     apply Nat.eq_of_testBit_eq
     intro i
     rw [Nat.zero_testBit]
     rcases Nat.lt_or_ge i t.reports.length with hi | hi
     ·cases hb : s.rest.testBit i with
      | false => rfl
      | true =>
        have : i ∈ (List.range t.reports.length).filter (fun i => s.rest.testBit i) := by rw [List.mem_filter]; exact ⟨by simpa using hi, hb⟩
        rw [he] at this; cases this
     ·exact Nat.testBit_lt_two_pow (Nat.lt_of_lt_of_le hs.rest (Nat.pow_le_pow_right (by omega) hi))
    obtain ⟨i0, hi0, hmin⟩ := exists_min d _ hne
    rw [List.mem_filter] at hi0
    obtain ⟨hi0, hb0⟩ := hi0
    have hi0 : i0 < t.reports.length := by simpa using hi0
    have hmin : ∀ k, k < t.reports.length → s.rest.testBit k = true → d i0 ≤ d k := fun k hk hb => hmin k (by rw [List.mem_filter]; exact ⟨by simpa using hk, hb⟩)
    obtain ⟨n, hn⟩ : ∃ n, maskN (fun i => s.rest.testBit i && decide (C i = C i0)) t.reports.length = n := ⟨_, rfl⟩
    have hnb : ∀ i, n.testBit i = true ↔ i < t.reports.length ∧ s.rest.testBit i = true ∧ C i = C i0 := fun i => by
     rw [← hn, mask_bit]
     simp only [Bool.and_eq_true, decide_eq_true_eq]
    have hn0 : n.testBit i0 = true := (hnb i0).2 ⟨hi0, hb0, rfl⟩
    have n0 : n ≠ 0 := fun e => by rw [e, Nat.zero_testBit] at hn0; cases hn0
    have n1 : n &&& s.rest = n := by
     apply Nat.eq_of_testBit_eq
     intro i
     rw [Nat.testBit_and]
     cases hb : n.testBit i with
     | false => rfl
     | true => rw [((hnb i).1 hb).2.1]; rfl
    have hnr : n < 2 ^ t.reports.length := by
     have h9 : n &&& s.rest ≤ s.rest := Nat.and_le_right
     rw [n1] at h9
     have := hs.rest; omega
    have htzb := tz_bit n0 hnr hr.2
    have htzi := tz_in n0 hnr hr.2
    have hslope : ∀ i, n.testBit i = true → (rp t i).slope = slopeO t n := fun i hi => by
     have h1 := (hnb i).1 hi
     have h2 := (hnb _).1 htzb
     exact (hc.same i (tz n) h1.1 htzi (h1.2.2.trans h2.2.2.symm)).1
    have hdm : ∀ i, n.testBit i = true → d i = d i0 := fun i hi => by
     have h1 := (hnb i).1 hi
     exact (hc.same i i0 h1.1 hi0 h1.2.2).2
    have n2 : sameK t n t.reports.length = true := sameK_at.2 fun i hi hb => hslope i hb
    have hday : dayN t s n ≤ d i0 := by
     refine dayK_le (hJ i0 hi0 hb0).1 ?_ _ (fun i hi hb => ?_)
     ·rw [← hslope i0 hn0]; exact (hJ i0 hi0 hb0).2.1
     ·rw [← hdm i hb]
      exact ⟨(hc.day i hi).1, (hJ i hi ((hnb i).1 hb).2.1).2.2⟩
    have hbit : ∀ i, i < t.reports.length → (ndiff s.rest n).testBit i = (s.rest.testBit i && !n.testBit i) := fun i hi => ndiff_bit (by omega)
    have hall : allH t n (ndiff s.rest n) = true := by
     unfold allH
     rw [List.all_eq_true]
     intro c hcm
     obtain ⟨j, hj, rfl⟩ := List.mem_iff_getElem.1 hcm
     have ec : t.claims[j] = cl t j := by simp [cl, List.getD_eq_getElem?_getD, hj]
     have hcl := ht.clm j hj
     have hc2 : t.claims.getD j default = cl t j := rfl
     rw [hc2] at hcl
     rw [ec]
     unfold holdB
     by_cases k0 : (cl t j).kind = 0
     ·rw [if_pos k0]
      unfold hold1
      have hlt := hc.before j hj k0
      cases hb : n.testBit (cl t j).b.toNat with
      | false => rfl
      | true =>
        have h1 := hdm _ hb
        have ha : n.testBit (cl t j).a.toNat = false := by
         cases ha : n.testBit (cl t j).a.toNat with
         | false => rfl
         | true => have := hdm _ ha; omega
        have hl : (ndiff s.rest n).testBit (cl t j).a.toNat = false := by
         rw [hbit _ (by omega), ha]
         cases hs9 : s.rest.testBit (cl t j).a.toNat with
         | false => rfl
         | true => have := hmin _ (by omega) hs9; omega
        rw [ha, hl]; rfl
     ·rw [if_neg k0]
      by_cases k1 : (cl t j).kind = 1
      ·rw [if_pos k1]
       unfold hold2
       have he := hc.one j hj k1
       have hre := hC _ _ (show (cl t j).a.toNat < t.reports.length by omega) (show (cl t j).b.toNat < t.reports.length by omega) he
       have : n.testBit (cl t j).a.toNat = n.testBit (cl t j).b.toNat := by
        rw [Bool.eq_iff_iff, hnb, hnb, he, hre]
        constructor
        ·rintro ⟨_, h⟩; exact ⟨by omega, h⟩
        ·rintro ⟨_, h⟩; exact ⟨by omega, h⟩
       rw [this]; exact beq_self_eq_true _
      ·rw [if_neg k1]
       unfold hold3
       have hne := hc.other j hj k0 k1
       cases ha : n.testBit (cl t j).a.toNat with
       | false => rfl
       | true =>
         cases hb : n.testBit (cl t j).b.toNat with
         | false => rfl
         | true => exact absurd (((hnb _).1 ha).2.2.trans ((hnb _).1 hb).2.2.symm) hne
    have hm : (mayS t s n).2 = true := by
     show fitK t n (dayN t s n) (allH t n (ndiff s.rest n)) t.reports.length = true
     rw [hall]
     refine fitK_of fun i hi hb => ?_
     have h1 := (hc.day i hi).2
     have h2 := hdm i hb
     omega
    obtain ⟨m1, m2, m3⟩ := mayS_ok ht hs n0 n1 hm
    have hso := (ht.rpt (tz n) htzi).1
    have hslo : ∀ i, i < t.reports.length → (mayS t s n).1.slopes.getD (rp t i).slope.toNat 0 = if (rp t i).slope = slopeO t n then dayN t s n + max t.rest 1 else s.slopes.getD (rp t i).slope.toNat 0 := fun i hi => by
     show (isp s.slopes (slopeO t n).toNat (dayN t s n + max t.rest 1)).getD _ 0 = _
     have h9 : 0 ≤ (rp t i).slope ∧ (rp t i).slope ≤ 9 := (ht.rpt i hi).1
     have h8 : 0 ≤ slopeO t n ∧ slopeO t n ≤ 9 := hso
     rw [isp_getD (by rw [hs.sl]; omega)]
     by_cases e : (rp t i).slope = slopeO t n
     ·rw [if_pos e, if_pos (by rw [e])]
     ·rw [if_neg e, if_neg (by omega)]
    have hrest : ∀ i, i < t.reports.length → (mayS t s n).1.rest.testBit i = (s.rest.testBit i && !n.testBit i) := hbit
    obtain ⟨p, hp, q1, q2, q3⟩ := chr_run ht hc f (mayS t s n).1 (place + 1) m1 (by omega) (fun i hi hb => by
     rw [hrest i hi] at hb
     simp only [Bool.and_eq_true, Bool.not_eq_true'] at hb
     have h1 := hmin i hi hb.1
     have hCi : C i ≠ C i0 := fun e => by rw [(hnb i).2 ⟨hi, hb.1, e⟩] at hb; cases hb.2
     refine ⟨by show dayN t s n ≤ _; omega, ?_, ?_⟩
     ·rw [hslo i hi]
      split
      ·rename_i e
       rcases hc.gap i i0 hi hi0 hCi (e.trans (hslope i0 hn0).symm) with h | h <;> omega
      ·exact (hJ i hi hb.1).2.1
     ·show (fromK t n (dayN t s n) s.frm t.claims.length).getD i 0 ≤ _
      refine (fromK_get ht hs.fl t.claims.length (Nat.le_refl _) i (by omega)).2.2 _ (hJ i hi hb.1).2.2 (fun j hj hk ha hbi => ?_)
      have h2 := hc.before j hj hk
      have h3 := hdm _ ha
      rw [hbi] at h2
      omega) (fun i k hi hk he => by
     rw [hrest i hi, hrest k hk, hC i k hi hk he]
     have : n.testBit i = n.testBit k := by
      rw [Bool.eq_iff_iff, hnb, hnb, he, hC i k hi hk he]
      exact ⟨fun h => ⟨hk, h.2⟩, fun h => ⟨hi, h.2⟩⟩
     rw [this])
    have hdd : (mayS t s n).1.day = dayN t s n := rfl
    refine ⟨(n, (mayS t s n).1.day) :: p, ?_, ?_, ?_, ?_⟩
    ·rw [List.mem_flatMap]
     refine ⟨n, ?_, ?_⟩
     ·unfold candN
      rw [List.mem_filter]
      refine ⟨mem_subs (Nat.lt_of_lt_of_le hs.rest (show 2 ^ t.reports.length ≤ 2 ^ 7 from Nat.pow_le_pow_right (by omega) hr.2)) n1, ?_⟩
      simp [goodN, n0, n2]
     ·rw [if_pos hm, List.mem_map]
      exact ⟨p, hp, rfl⟩
    ·intro i hi hb
     simp only [dayOf]
     split
     ·rename_i h; rw [hdd, hdm i h]; exact hday
     ·rename_i h; exact q1 i hi (by rw [hrest i hi, hb]; simpa using h)
    ·intro i hi hb
     simp only [placeOf]
     split
     ·exact Int.le_refl _
     ·rename_i h
      have := q2 i hi (by rw [hrest i hi, hb]; simpa using h)
      omega
    ·intro i k hi hk hbi hbk
     simp only [placeOf]
     by_cases h1 : n.testBit i = true
     ·rw [if_pos h1]
      by_cases h2 : n.testBit k = true
      ·rw [if_pos h2]
       exact ⟨fun _ => ((hnb i).1 h1).2.2.trans ((hnb k).1 h2).2.2.symm, fun _ => rfl⟩
      ·rw [if_neg h2]
       have h3 := q2 k hk (by rw [hrest k hk, hbk]; simpa using h2)
       refine ⟨fun h => by omega, fun h => absurd ((hnb k).2 ⟨hk, hbk, h.symm.trans ((hnb i).1 h1).2.2⟩) h2⟩
     ·rw [if_neg h1]
      by_cases h2 : n.testBit k = true
      ·rw [if_pos h2]
       have h3 := q2 i hi (by rw [hrest i hi, hbi]; simpa using h1)
       refine ⟨fun h => by omega, fun h => absurd ((hnb i).2 ⟨hi, hbi, h.trans ((hnb k).1 h2).2.2⟩) h1⟩
      ·rw [if_neg h2]
       exact q3 i k hi hk (by rw [hrest i hi, hbi]; simpa using h1) (by rw [hrest k hk, hbk]; simpa using h2)
theorem chr_runs {t : Ann} (ht : AnnOK t) {C d : Nat → Int} (hc : Chr t C d) : ∃ p ∈ runsA t, (∀ i, i < t.reports.length → dayOf p i ≤ d i) ∧ ∀ i k, i < t.reports.length → k < t.reports.length → (placeOf 0 p i = placeOf 0 p k ↔ C i = C k) := by
 have h128 : (begS t).rest < 128 := by
  show 2 ^ t.reports.length - 1 < 128
  have : 2 ^ t.reports.length ≤ 2 ^ 7 := Nat.pow_le_pow_right (by omega) ht.reports.2
  omega
 have h10 : ∀ i, i < 10 → (begS t).slopes.getD i 0 = 0 := show ∀ i, i < 10 → ([0, 0, 0, 0, 0, 0, 0, 0, 0, 0] : List Int).getD i 0 = 0 by decide
 have h7 : ∀ i, i < 7 → (begS t).frm.getD i 0 = 0 := show ∀ i, i < 7 → ([0, 0, 0, 0, 0, 0, 0] : List Int).getD i 0 = 0 by decide
 have hr := ht.reports
 obtain ⟨p, hp, h1, h2, h3⟩ := chr_run ht hc 128 (begS t) 0 (begS_ok ht) h128 (fun i hi _ => by
  have h9 : (0 ≤ (rp t i).slope ∧ (rp t i).slope ≤ 9) ∧ 0 ≤ (rp t i).lo ∧ _ := ht.rpt i hi
  have h8 := (hc.day i hi).1
  rw [h10 _ (by omega), h7 _ (by omega)]
  refine ⟨by show (0 : Int) ≤ _; omega, by omega, by omega⟩) (fun i k hi hk _ => by rw [begS_bit hi, begS_bit hk])
 exact ⟨p, hp, fun i hi => h1 i hi (begS_bit hi), fun i k hi hk => h3 i k hi hk (begS_bit hi) (begS_bit hk)⟩
end Go.Am
namespace Go.Am
open Go.RowKit Go.Proofs
set_option linter.unusedSimpArgs false
set_option linter.unusedVariables false
end Go.Am
namespace Go.Am
open Go.RowKit Go.Proofs
set_option linter.unusedSimpArgs false
set_option linter.unusedVariables false
theorem cmpI_eq {a b : Int} : cmpI a b = 0 ↔ a = b := by unfold cmpI; split <;> (try split) <;> omega
theorem cmpL_eq : ∀ {a b : List Int}, cmpL a b = 0 ↔ a = b
 | [], [] => by simp [cmpL]
 | [], _ :: _ => by simp [cmpL]
 | _ :: _, [] => by simp [cmpL]
 | x :: a, y :: b => by
   simp only [cmpL, List.cons.injEq]
   by_cases h : cmpI x y = 0
   ·rw [if_pos h, cmpL_eq (a := a) (b := b)]
    have := cmpI_eq.1 h
    simp [this]
   ·rw [if_neg h]
    have : ¬ x = y := fun e => h (cmpI_eq.2 e)
    simp [this, h]
theorem cmpL_tr : ∀ {a b c : List Int}, cmpL a b < 0 → cmpL b c < 0 → cmpL a c < 0
 | [], [], _, h, _ => by simp [cmpL] at h
 | [], _ :: _, [], _, h => by simp [cmpL] at h
 | [], _ :: _, _ :: _, _, _ => by simp [cmpL]
 | _ :: _, [], _, h, _ => by simp [cmpL] at h
 | _ :: _, _ :: _, [], _, h => by simp [cmpL] at h
 | x :: a, y :: b, z :: c, h1, h2 => by
   have ih := fun h1 h2 => cmpL_tr (a := a) (b := b) (c := c) h1 h2
   simp only [cmpL, cmpI] at h1 h2 ⊢
   by_cases e1 : x < y
   ·by_cases e2 : y < z
    ·simp [show x < z by omega]
    ·by_cases e3 : z < y
     ·simp [e2, e3] at h2
     ·have : y = z := by omega
      subst this
      simp [e1]
   ·by_cases e1' : y < x
    ·simp [e1, e1'] at h1
    ·have : x = y := by omega
     subst this
     by_cases e2 : x < z
     ·simp [e2]
     ·by_cases e3 : z < x
      ·simp [e2, e3] at h2
      ·have : x = z := by omega
       subst this
       simp at h1 h2 ⊢
       exact ih h1 h2
theorem cmpL_anti : ∀ {a b : List Int}, cmpL a b < 0 ↔ 0 < cmpL b a
 | [], [] => by simp [cmpL]
 | [], _ :: _ => by simp [cmpL]
 | _ :: _, [] => by simp [cmpL]
 | x :: a, y :: b => by
   have ih := cmpL_anti (a := a) (b := b)
   simp only [cmpL, cmpI]
   by_cases e1 : x < y
   ·simp [e1, show ¬ y < x by omega]
   ·by_cases e2 : y < x
    ·simp [e1, e2]
    ·have : x = y := by omega
     subst this
     simp [ih]
theorem bsI_spec {c : Nat → Int} {n : Nat} (hp : ∀ x y, x < y → y < n → c y < 0 → c x < 0) : ∀ {f i j : Nat}, j - i < f → i ≤ j → j ≤ n → (∀ x, x < i → c x < 0) → (∀ x, j ≤ x → x < n → ¬ c x < 0) →
 (∀ x, x < bsI c f i j → c x < 0) ∧ (∀ x, bsI c f i j ≤ x → x < n → ¬ c x < 0) ∧ bsI c f i j ≤ n
 | 0, i, j, h, _, _, _, _ => by omega
 | f + 1, i, j, hf, hij, hjn, h1, h2 => by
   simp only [bsI]
   by_cases e : i < j
   ·rw [if_pos e]
    by_cases hc : c ((i + j) / 2) < 0
    ·rw [if_pos hc]
     refine bsI_spec hp (by omega) (by omega) hjn (fun x hx => ?_) h2
     by_cases e2 : x = (i + j) / 2
     ·rw [e2]; exact hc
     ·exact hp x _ (by omega) (by omega) hc
    ·rw [if_neg hc]
     refine bsI_spec hp (by omega) (by omega) (by omega) h1 (fun x hx hxn hcx => ?_)
     by_cases e2 : x = (i + j) / 2
     ·rw [e2] at hcx; exact hc hcx
     ·exact hc (hp _ x (by omega) hxn hcx)
   ·rw [if_neg e]
    have : i = j := by omega
    subst this
    exact ⟨h1, h2, hjn⟩
def Srt (l : List (List Int)) : Prop := ∀ i j, i < j → j < l.length → cmpL (l.getD i []) (l.getD j []) < 0
theorem bs_spec {l : List (List Int)} {s : List Int} (h : Srt l) : (∀ x, x < bsN l s → cmpL (l.getD x []) s < 0) ∧ (∀ x, bsN l s ≤ x → x < l.length → ¬ cmpL (l.getD x []) s < 0) ∧ bsN l s ≤ l.length :=
 bsI_spec (c := cmpA l s) (n := l.length) (fun x y hxy hy hc => cmpL_tr (h x y hxy hy) hc) (by omega) (Nat.zero_le _) (Nat.le_refl _) (fun x hx => by omega) (fun x hx hxn => by omega)
theorem mem_row {l : List (List Int)} {s : List Int} : s ∈ l ↔ ∃ i, i < l.length ∧ l.getD i [] = s := by
 rw [List.mem_iff_getElem]
 constructor
 ·rintro ⟨i, hi, e⟩; exact ⟨i, hi, by simp [List.getD_eq_getElem?_getD, hi, e]⟩
 ·rintro ⟨i, hi, e⟩; exact ⟨i, hi, by simpa [List.getD_eq_getElem?_getD, hi] using e⟩
theorem bsF_mem {l : List (List Int)} {s : List Int} (h : Srt l) : bsF l s = true ↔ s ∈ l := by
 obtain ⟨h1, h2, h3⟩ := bs_spec (s := s) h
 unfold bsF
 rw [decide_eq_true_eq, mem_row]
 constructor
 ·rintro ⟨hr, hc⟩; exact ⟨_, hr, cmpL_eq.1 hc⟩
 ·rintro ⟨q, hq, e⟩
  have hrq : bsN l s ≤ q := by
   rcases Nat.lt_or_ge q (bsN l s) with hlt | hge
   ·have := h1 q hlt
    rw [e, cmpL_eq.2 rfl] at this; omega
   ·exact hge
  rcases Nat.lt_or_eq_of_le hrq with hlt | heq
  ·have h5 := h _ _ hlt hq
   rw [e] at h5
   exact absurd h5 (h2 _ (Nat.le_refl _) (by omega))
  ·refine ⟨by omega, ?_⟩
   unfold cmpA
   rw [heq, e]; exact cmpL_eq.2 rfl
theorem insL_get {l : List (List Int)} {i : Nat} {s : List Int} (hi : i ≤ l.length) (x : Nat) : (insL l i s).getD x [] = if x < i then l.getD x [] else if x = i then s else l.getD (x - 1) [] := by
 have ht : (l.take i).length = i := by rw [List.length_take]; omega
 simp only [insL, List.getD_eq_getElem?_getD]
 rcases Nat.lt_trichotomy x i with h | h | h
 ·rw [if_pos h, List.getElem?_append_left (by omega), List.getElem?_take, if_pos h]
 ·subst h
  rw [if_neg (by omega), if_pos rfl, List.getElem?_append_right (by omega), ht, Nat.sub_self]; rfl
 ·rw [if_neg (by omega), if_neg (by omega), List.getElem?_append_right (by omega), ht, show x - i = (x - 1 - i) + 1 by omega, List.getElem?_cons_succ, List.getElem?_drop, show i + (x - 1 - i) = x - 1 by omega]
theorem waI_srt {l : List (List Int)} {s : List Int} (h : Srt l) : Srt (waI l s) := by
 unfold waI
 split
 ·exact h
 ·rename_i hf
  have hnm : s ∉ l := fun hm => hf ((bsF_mem h).2 hm)
  obtain ⟨h1, h2, h3⟩ := bs_spec (s := s) h
  have h4 : ∀ x, bsN l s ≤ x → x < l.length → cmpL s (l.getD x []) < 0 := fun x hx hxn => by
   rw [cmpL_anti]
   have h5 := h2 x hx hxn
   have h6 : cmpL (l.getD x []) s ≠ 0 := fun e => hnm (mem_row.2 ⟨x, hxn, cmpL_eq.1 e⟩)
   omega
  intro i j hij hj
  rw [insL_len] at hj
  rw [insL_get h3, insL_get h3]
  by_cases hi1 : i < bsN l s
  ·rw [if_pos hi1]
   by_cases hj1 : j < bsN l s
   ·rw [if_pos hj1]; exact h i j hij (by omega)
   ·rw [if_neg hj1]
    by_cases hj2 : j = bsN l s
    ·rw [if_pos hj2]; exact h1 i hi1
    ·rw [if_neg hj2]; exact h i (j - 1) (by omega) (by omega)
  ·rw [if_neg hi1]
   by_cases hi2 : i = bsN l s
   ·rw [if_pos hi2, if_neg (show ¬ j < bsN l s by omega), if_neg (show ¬ j = bsN l s by omega)]; exact h4 (j - 1) (by omega) (by omega)
   ·rw [if_neg hi2, if_neg (show ¬ j < bsN l s by omega), if_neg (show ¬ j = bsN l s by omega)]; exact h (i - 1) (j - 1) (by omega) (by omega)
theorem waI_mem {l : List (List Int)} {s u : List Int} (h : Srt l) : u ∈ waI l s ↔ u = s ∨ u ∈ l := by
 unfold waI
 split
 ·rename_i hf
  have hm := (bsF_mem h).1 hf
  exact ⟨fun h => .inr h, fun h => by rcases h with rfl | h; exact hm; exact h⟩
 ·have e : ∀ i, u ∈ insL l i s ↔ u = s ∨ u ∈ l := fun i => by
   have h2 : u ∈ l ↔ u ∈ l.take i ∨ u ∈ l.drop i := by rw [← List.mem_append, List.take_append_drop]
   rw [h2]
   simp only [insL, List.mem_append, List.mem_cons]
   constructor
   ·rintro (h | h | h)
    ·exact .inr (.inl h)
    ·exact .inl h
    ·exact .inr (.inr h)
   ·rintro (h | h | h)
    ·exact .inr (.inl h)
    ·exact .inl h
    ·exact .inr (.inr h)
  exact e _
structure WM (S : List (List Int)) (l : List (List Int)) (r : (List (List Int) × Bool) × Bool) : Prop where
 flag : r.1.2 = true
 srt : Srt r.1.1
 sub : ∀ s ∈ r.1.1, s ∈ S ∨ s ∈ l
 all : r.2 = true → ∀ s, s ∈ S ∨ s ∈ l → s ∈ r.1.1
 le : r.2 = true → r.1.1.length ≤ 100
 gt : r.2 = false → 100 < r.1.1.length
theorem wa_vis {t : Ann} : ∀ {l : List (List Int × List Int)} {v : List (List Int)}, Srt v → v.length ≤ 100 → WM v (l.map fun q => slN t q.1) (visL (gOf (waS t)) l (v, true))
 | [], v, hs, hl => ⟨rfl, hs, fun s h => .inl h, fun _ s h => by rcases h with h | h; exact h; simp at h, fun _ => hl, fun h => by cases h⟩
 | q :: l, v, hs, hl => by
   have hg : gOf (waS t) (v, true) q = ((waI v (slN t q.1), true), decide ((waI v (slN t q.1)).length ≤ 100)) := by
    unfold gOf waS waB
    simp [hl]
   simp only [visL, hg, List.map_cons]
   have hs2 := waI_srt (s := slN t q.1) hs
   by_cases hc : (waI v (slN t q.1)).length ≤ 100
   ·rw [if_pos (decide_eq_true hc)]
    have ih := wa_vis (t := t) (l := l) hs2 hc
    refine ⟨ih.flag, ih.srt, fun s h => ?_, fun h s hm => ?_, ih.le, ih.gt⟩
    ·rcases ih.sub s h with h1 | h1
     ·rcases (waI_mem hs).1 h1 with h2 | h2
      ·exact .inr (by rw [h2]; simp)
      ·exact .inl h2
     ·exact .inr (List.mem_cons_of_mem _ h1)
    ·apply ih.all h s
     rcases hm with h1 | h1
     ·exact .inl ((waI_mem hs).2 (.inr h1))
     ·rcases List.mem_cons.1 h1 with h2 | h2
      ·exact .inl ((waI_mem hs).2 (.inl h2))
      ·exact .inr h2
   ·rw [if_neg (by simp [hc])]
    refine ⟨rfl, hs2, fun s h => ?_, fun h => ?_, fun h => ?_, fun _ => by simp only; omega⟩
    ·rcases (waI_mem hs).1 h with h2 | h2
     ·exact .inr (by rw [h2]; simp)
     ·exact .inl h2
    ·simp [hc] at h
    ·simp [hc] at h
theorem gmPut_len {κ ν : Type} [DecidableEq κ] {k : κ} {v : ν} : ∀ {m : List (κ × ν)}, gmGet m k = none → (gmPut m k v).length = m.length + 1
 | [], _ => rfl
 | e :: m, h => by
   simp only [gmGet] at h
   split at h
   ·cases h
   ·rename_i he
    simp only [gmPut]
    rw [if_neg he, List.length_cons, gmPut_len h, List.length_cons]
theorem slK_class {pl pl' : List Int} {N : Nat} (h : ∀ i k, i < N → k < N → (pl.getD i 0 = pl.getD k 0 ↔ pl'.getD i 0 = pl'.getD k 0)) : ∀ k, k ≤ N →
 (slK pl k).2 = (slK pl' k).2 ∧ (slK pl k).1.length = (slK pl' k).1.length ∧ ∀ i, i < N → gmGet (slK pl k).1 (pl.getD i 0) = gmGet (slK pl' k).1 (pl'.getD i 0)
 | 0, _ => ⟨rfl, rfl, fun i _ => rfl⟩
 | k + 1, hk => by
   obtain ⟨h1, h2, h3⟩ := slK_class h k (by omega)
   have h4 := h3 k (by omega)
   simp only [slK]
   rw [← h4]
   cases hg : gmGet (slK pl k).1 (pl.getD k 0) with
   | some n => exact ⟨by simp only; rw [h1], h2, h3⟩
   | none =>
     have hg' : gmGet (slK pl' k).1 (pl'.getD k 0) = none := by rw [← h4]; exact hg
     refine ⟨by simp only; rw [h1, h2], ?_, fun i hi => ?_⟩
     ·simp only; rw [gmPut_len hg, gmPut_len hg', h2]
     ·simp only
      rw [gmGet_put, gmGet_put, h3 i hi, h2]
      have := h k i (by omega) hi
      by_cases e : pl.getD k 0 = pl.getD i 0
      ·rw [if_pos e, if_pos (this.1 e)]
      ·rw [if_neg e, if_neg (fun e2 => e (this.2 e2))]
def SL (N : Nat) (C : Nat → Int) : List Int := (slK (tab N C) N).2
theorem SL_class {N : Nat} {C C' : Nat → Int} (h : ∀ i k, i < N → k < N → (C i = C k ↔ C' i = C' k)) : SL N C = SL N C' :=
 (slK_class (pl := tab N C) (pl' := tab N C') (N := N) (fun i k hi hk => by rw [tabD hi, tabD hk, tabD hi, tabD hk]; exact h i k hi hk) N (Nat.le_refl _)).1
def waV (t : Ann) : List (List Int) × Bool := (allM t (waS t) ([], true)).2.v
structure WayS (t : Ann) (L : List (List Int)) : Prop where
 srt : Srt L
 mem : ∀ s ∈ L, ∃ C D, Chr t C D ∧ s = SL t.reports.length C
 all : L.length ≤ 100 → ∀ C D, Chr t C D → SL t.reports.length C ∈ L
theorem wa_resp (t : Ann) : Resp t (waS t) := fun v pl dy pl' dy' h1 _ => by
 unfold waS slN
 rw [slK_cong h1]
theorem waV_spec {t : Ann} (ht : AnnOK t) : (waV t).2 = true ∧ WayS t (waV t).1 := by
 have h := all_spec ht (wa_resp t) ([], true)
 have h2 := wa_vis (t := t) (l := (runsA t).map (canon t)) (v := []) (fun i j _ hj => by simp at hj) (by simp)
 have e : waV t = (visL (gOf (waS t)) ((runsA t).map (canon t)) ([], true)).1 := h
 have hL : ∀ s, s ∈ (((runsA t).map (canon t)).map fun q => slN t q.1) ↔ ∃ p ∈ runsA t, s = SL t.reports.length (placeOf 0 p) := fun s => by
  rw [List.map_map, List.mem_map]
  constructor
  ·rintro ⟨p, hp, rfl⟩; exact ⟨p, hp, rfl⟩
  ·rintro ⟨p, hp, rfl⟩; exact ⟨p, hp, rfl⟩
 rw [e]
 refine ⟨h2.flag, h2.srt, fun s hs => ?_, fun hl C D hc => ?_⟩
 ·rcases h2.sub s hs with h3 | h3
  ·cases h3
  ·obtain ⟨p, hp, rfl⟩ := (hL s).1 h3
   exact ⟨_, _, runs_chr ht hp, rfl⟩
 ·obtain ⟨p, hp, _, h4⟩ := chr_runs ht hc
  have hm : (visL (gOf (waS t)) ((runsA t).map (canon t)) ([], true)).2 = true := by
   cases hb : (visL (gOf (waS t)) ((runsA t).map (canon t)) ([], true)).2 with
   | true => rfl
   | false => have := h2.gt hb; omega
  exact h2.all hm _ (.inr ((hL _).2 ⟨p, hp, (SL_class fun i k hi hk => h4 i k hi hk).symm⟩))
end Go.Am
namespace Go.Am
open Go.RowKit Go.Proofs
attribute [local irreducible] AWP zO Kt goK CallK zT zR SemF SemY Imp
set_option maxRecDepth 4000
set_option linter.unusedSimpArgs false
set_option linter.unusedVariables false
set_option maxHeartbeats 1600000
def slW (l : List (List Int)) : AV := .psl false l.length (rowsC l)
def wayE (t : Ann) : Int := if faultA t = 0 then (if (waV t).1.length = 0 then 9 else if 100 < (waV t).1.length then 3 else 0) else faultA t
def wayV (t : Ann) : AV := if wayE t = 0 then slW (waV t).1 else .nils
theorem wa0_ok : WaOK ([], true) := fun s hs => by cases hs
theorem Ways_c (t : Ann) (hb : annOK t) (ht : faultA t = 0 → AnnOK t) : zO Try.prog 18 [.agg (zL t)] (.tup [wayV t, .int .i64 (wayE t)]) := by
 have hch := check_c t hb
 unfold wayV wayE
 by_cases h0 : faultA t = 0
 ·have ht := ht h0
  have hfin := (waV_spec ht).1
  have h := allW_c t ht ([], true) wa0_ok hfin
  have e : (allM t (waS t) ([], true)).2.v = waV t := rfl
  rw [e] at h
  rw [if_pos h0]
  rw [h0] at hch
  generalize waV t = V at *
  obtain ⟨l, f⟩ := V
  have hrc : rowsC [] = [] := rfl
  simp only [hrc, List.length_nil] at h
  by_cases hl0 : l.length = 0
  ·simp only [hl0, if_true] at h ⊢
   rw [if_neg (by omega)]
   simp only [zL, slR, slC] at h hch ⊢
   (refine zG (fun w args => Try.call18 ..) Try.func18 rfl (fun w0 m0 wz => ?_); simp only [Try.ntmps18, Try.results18, zN, zP, zU, zV, slR, slC, zL, sl, List.toList_toArray, List.cons_append, List.nil_append, List.length_cons, List.length_nil, Nat.reduceAdd, Nat.reduceSub])
   (repeat' (first
 | ((refine awp_adH (c := .region 5 _ _) 1 0 59 1 rfl rfl ?_; simp only [adH, hget, hset, lset, List.length_cons, List.length_nil, Nat.reduceAdd]))
 | (refine zJ 2 rfl ?_; simp (maxSteps := 4000000) only [go_sem, seval, List.take_succ_cons, List.take_zero]; (repeat refine And.intro (by omega) ?_); refine zQ (h) [1, 2] rfl ?_ ?_ rfl ?_ <;> try simp (maxSteps := 4000000) only [go_sem, seval, Nat.lt_irrefl] <;> try decide)
 | ((omega))
 | ((exfalso; omega))
 | refine zC ?_
 | refine kt ?_
 | refine And.intro ?_ ?_
 | ((first | refine awp_stp rfl ?_ | refine awp_draw (by kernel_rfl) (by kernel_rfl) ?_ | refine Imp.le2 ?_ | refine callK_of (hch) ?_ | refine go_split (fun _h => ?_) (fun _h => ?_)) <;> try simp (maxSteps := 4000000) only [go_sem, seval])
 | intro _h
 | refine zA ?_
 | refine zB ?_
 | refine zF ?_ ?_
 | (show zE _ _ = true; kernel_rfl)
 | (show zD _ _ = true; kernel_rfl)
 | (omega)))
   all_goals trace_state
  ·rw [if_neg hl0]
   by_cases hl1 : 100 < l.length
   ·rw [if_pos hl1, if_neg (by omega)]
    simp only [zL, slR, slC] at h hch ⊢
    (refine zG (fun w args => Try.call18 ..) Try.func18 rfl (fun w0 m0 wz => ?_); simp only [Try.ntmps18, Try.results18, zN, zP, zU, zV, slR, slC, zL, sl, List.toList_toArray, List.cons_append, List.nil_append, List.length_cons, List.length_nil, Nat.reduceAdd, Nat.reduceSub])
    (repeat' (first
 | ((refine awp_adH (c := .region 5 _ _) 1 0 59 1 rfl rfl ?_; simp only [adH, hget, hset, lset, List.length_cons, List.length_nil, Nat.reduceAdd]))
 | (refine zJ 2 rfl ?_; simp (maxSteps := 4000000) only [go_sem, seval, List.take_succ_cons, List.take_zero]; (repeat refine And.intro (by omega) ?_); refine zQ (h) [1, 2] rfl ?_ ?_ rfl ?_ <;> try simp (maxSteps := 4000000) only [go_sem, seval, Nat.lt_irrefl] <;> try decide)
 | ((omega))
 | ((exfalso; omega))
 | refine zC ?_
 | refine kt ?_
 | refine And.intro ?_ ?_
 | ((first | refine awp_stp rfl ?_ | refine awp_draw (by kernel_rfl) (by kernel_rfl) ?_ | refine Imp.le2 ?_ | refine callK_of (hch) ?_ | refine go_split (fun _h => ?_) (fun _h => ?_)) <;> try simp (maxSteps := 4000000) only [go_sem, seval])
 | intro _h
 | refine zA ?_
 | refine zB ?_
 | refine zF ?_ ?_
 | (show zE _ _ = true; kernel_rfl)
 | (show zD _ _ = true; kernel_rfl)
 | (omega)))
    all_goals trace_state
   ·rw [if_neg hl1, if_pos rfl]
    simp only [zL, slR, slC, slW] at h hch ⊢
    (refine zG (fun w args => Try.call18 ..) Try.func18 rfl (fun w0 m0 wz => ?_); simp only [Try.ntmps18, Try.results18, zN, zP, zU, zV, slR, slC, zL, sl, List.toList_toArray, List.cons_append, List.nil_append, List.length_cons, List.length_nil, Nat.reduceAdd, Nat.reduceSub])
    (repeat' (first
 | ((refine awp_adH (c := .region 5 _ _) 1 0 59 1 rfl rfl ?_; simp only [adH, hget, hset, lset, List.length_cons, List.length_nil, Nat.reduceAdd]))
 | (refine zJ 2 rfl ?_; simp (maxSteps := 4000000) only [go_sem, seval, List.take_succ_cons, List.take_zero]; (repeat refine And.intro (by omega) ?_); refine zQ (h) [1, 2] rfl ?_ ?_ rfl ?_ <;> try simp (maxSteps := 4000000) only [go_sem, seval, Nat.lt_irrefl] <;> try decide)
 | (refine awp_frz (c := .region 10 _ _) 2 rfl (by simp (maxSteps := 4000000) only [go_sem, seval]) (fun _ => rfl) ?_; simp only [frz, fzl, fz2, fz1, fz0, fzH, fzHs, fzO, fzB, List.map_cons, List.map_nil, if_true, if_false, reduceIte, Nat.reduceEqDiff, Nat.reduceAdd, Nat.succ_ne_self, Nat.zero_ne_one, Nat.one_ne_zero, reduceCtorEq, and_self])
 | ((omega))
 | ((exfalso; omega))
 | refine zC ?_
 | refine kt ?_
 | refine And.intro ?_ ?_
 | ((first | refine awp_stp rfl ?_ | refine awp_draw (by kernel_rfl) (by kernel_rfl) ?_ | refine Imp.le2 ?_ | refine callK_of (hch) ?_ | refine go_split (fun _h => ?_) (fun _h => ?_)) <;> try simp (maxSteps := 4000000) only [go_sem, seval])
 | intro _h
 | refine zA ?_
 | refine zB ?_
 | refine zF ?_ ?_
 | (show zE _ _ = true; kernel_rfl)
 | (show zD _ _ = true; kernel_rfl)
 | (omega)))
    all_goals trace_state
 ·rw [if_neg h0, if_neg h0]
  simp only [zL, slR, slC] at hch ⊢
  (refine zG (fun w args => Try.call18 ..) Try.func18 rfl (fun w0 m0 wz => ?_); simp only [Try.ntmps18, Try.results18, zN, zP, zU, zV, slR, slC, zL, sl, List.toList_toArray, List.cons_append, List.nil_append, List.length_cons, List.length_nil, Nat.reduceAdd, Nat.reduceSub])
  (repeat' (first
 | refine zC ?_
 | refine kt ?_
 | refine And.intro ?_ ?_
 | ((first | refine awp_stp rfl ?_ | refine awp_draw (by kernel_rfl) (by kernel_rfl) ?_ | refine Imp.le2 ?_ | refine callK_of (hch) ?_ | refine go_split (fun _h => ?_) (fun _h => ?_)) <;> try simp (maxSteps := 4000000) only [go_sem, seval])
 | intro _h
 | refine zA ?_
 | refine zB ?_
 | refine zF ?_ ?_
 | (show zE _ _ = true; kernel_rfl)
 | (show zD _ _ = true; kernel_rfl)
 | (omega)))
  all_goals first | (exfalso; simp at _h; omega) | trace_state
end Go.Am
namespace Go.Am
open Go.RowKit Go.Proofs
attribute [local irreducible] AWP zO Kt goK CallK zT zR SemF SemY Imp
set_option maxRecDepth 4000
set_option linter.unusedSimpArgs false
set_option linter.unusedVariables false
set_option maxHeartbeats 1600000
theorem wa_val : waV valA = ([[0, 1, 2, 1], [0, 1, 2, 3]], true) := by kernel_rfl
theorem valA_f : faultA valA = 0 := by decide
theorem valA_ok : AnnOK valA := by
 refine ⟨by decide, by decide, by decide, ?_, ?_⟩
 ·show ∀ i, i < 4 → _
  decide
 ·show ∀ i, i < 2 → _
  decide
theorem valA_b : annOK valA := by unfold annOK; decide
theorem i1_c : zO Try.prog 35 [.psl false 4 [.int .i64 0, .int .i64 1, .int .i64 2, .int .i64 1], .psl true 4 [.int .i64 0, .int .i64 1, .int .i64 2, .int .i64 1]] (.bool true) := by
 (refine zG (fun w args => Try.call35 ..) Try.func35 rfl (fun w0 m0 wz => ?_); simp only [Try.ntmps35, Try.results35, zN, zP, zU, zV, slR, slC, zL, sl, List.toList_toArray, List.cons_append, List.nil_append, List.length_cons, List.length_nil, Nat.reduceAdd, Nat.reduceSub])
 (repeat' (first
 | refine zC ?_
 | refine kt ?_
 | refine And.intro ?_ ?_
 | ((first | refine awp_stp rfl ?_ | refine awp_draw (by kernel_rfl) (by kernel_rfl) ?_ | refine Imp.le2 ?_ | refine go_split (fun _h => ?_) (fun _h => ?_)) <;> try simp (maxSteps := 4000000) only [go_sem, seval])
 | intro _h
 | refine zA ?_
 | refine zB ?_
 | refine zF ?_ ?_
 | (show zE _ _ = true; kernel_rfl)
 | (show zD _ _ = true; kernel_rfl)
 | (omega)))
 (refine awp_rounds 5 ?_; rw [ar_s])
 (repeat' (first
 | refine zC ?_
 | refine kt ?_
 | refine And.intro ?_ ?_
 | ((first | refine awp_stp rfl ?_ | refine awp_draw (by kernel_rfl) (by kernel_rfl) ?_ | refine Imp.le2 ?_ | refine go_split (fun _h => ?_) (fun _h => ?_)) <;> try simp (maxSteps := 4000000) only [go_sem, seval])
 | intro _h
 | refine zA ?_
 | refine zB ?_
 | refine zF ?_ ?_
 | (show zE _ _ = true; kernel_rfl)
 | (show zD _ _ = true; kernel_rfl)
 | (omega)))
theorem i2_c : zO Try.prog 35 [.psl false 4 [.int .i64 0, .int .i64 1, .int .i64 2, .int .i64 3], .psl true 4 [.int .i64 0, .int .i64 1, .int .i64 2, .int .i64 3]] (.bool true) := by
 (refine zG (fun w args => Try.call35 ..) Try.func35 rfl (fun w0 m0 wz => ?_); simp only [Try.ntmps35, Try.results35, zN, zP, zU, zV, slR, slC, zL, sl, List.toList_toArray, List.cons_append, List.nil_append, List.length_cons, List.length_nil, Nat.reduceAdd, Nat.reduceSub])
 (repeat' (first
 | refine zC ?_
 | refine kt ?_
 | refine And.intro ?_ ?_
 | ((first | refine awp_stp rfl ?_ | refine awp_draw (by kernel_rfl) (by kernel_rfl) ?_ | refine Imp.le2 ?_ | refine go_split (fun _h => ?_) (fun _h => ?_)) <;> try simp (maxSteps := 4000000) only [go_sem, seval])
 | intro _h
 | refine zA ?_
 | refine zB ?_
 | refine zF ?_ ?_
 | (show zE _ _ = true; kernel_rfl)
 | (show zD _ _ = true; kernel_rfl)
 | (omega)))
 (refine awp_rounds 5 ?_; rw [ar_s])
 (repeat' (first
 | refine zC ?_
 | refine kt ?_
 | refine And.intro ?_ ?_
 | ((first | refine awp_stp rfl ?_ | refine awp_draw (by kernel_rfl) (by kernel_rfl) ?_ | refine Imp.le2 ?_ | refine go_split (fun _h => ?_) (fun _h => ?_)) <;> try simp (maxSteps := 4000000) only [go_sem, seval])
 | intro _h
 | refine zA ?_
 | refine zB ?_
 | refine zF ?_ ?_
 | (show zE _ _ = true; kernel_rfl)
 | (show zD _ _ = true; kernel_rfl)
 | (omega)))
theorem ways1_c : zO Try.prog 24 [.psl false 2 [.psl false 4 [.int .i64 0, .int .i64 1, .int .i64 2, .int .i64 1], .psl false 4 [.int .i64 0, .int .i64 1, .int .i64 2, .int .i64 3]], .psl true 2 [.psl true 4 [.int .i64 0, .int .i64 1, .int .i64 2, .int .i64 1], .psl true 4 [.int .i64 0, .int .i64 1, .int .i64 2, .int .i64 3]]] (.bool true) := by
 (refine zG (fun w args => Try.call24 ..) Try.func24 rfl (fun w0 m0 wz => ?_); simp only [Try.ntmps24, Try.results24, zN, zP, zU, zV, slR, slC, zL, sl, List.toList_toArray, List.cons_append, List.nil_append, List.length_cons, List.length_nil, Nat.reduceAdd, Nat.reduceSub])
 (repeat' (first
 | refine zC ?_
 | refine kt ?_
 | refine And.intro ?_ ?_
 | ((first | refine awp_stp rfl ?_ | refine awp_draw (by kernel_rfl) (by kernel_rfl) ?_ | refine Imp.le2 ?_ | refine go_split (fun _h => ?_) (fun _h => ?_)) <;> try simp (maxSteps := 4000000) only [go_sem, seval])
 | intro _h
 | refine zA ?_
 | refine zB ?_
 | refine zF ?_ ?_
 | (show zE _ _ = true; kernel_rfl)
 | (show zD _ _ = true; kernel_rfl)
 | (omega)))
 (refine awp_rounds 3 ?_; rw [ar_s])
 (repeat' (first
 | refine zC ?_
 | refine kt ?_
 | refine And.intro ?_ ?_
 | ((first | refine awp_stp rfl ?_ | refine awp_draw (by kernel_rfl) (by kernel_rfl) ?_ | refine Imp.le2 ?_ | refine callK_of (i1_c) ?_ | refine callK_of (i2_c) ?_ | refine go_split (fun _h => ?_) (fun _h => ?_)) <;> try simp (maxSteps := 4000000) only [go_sem, seval])
 | intro _h
 | refine zA ?_
 | refine zB ?_
 | refine zF ?_ ?_
 | (show zE _ _ = true; kernel_rfl)
 | (show zD _ _ = true; kernel_rfl)
 | (omega)))
theorem awake_c : zO Try.prog 17 [] (.bool true) := by
 have hv := valley_c
 have hw := Ways_c valA valA_b (fun _ => valA_ok)
 have hd := Days_c valA valA_b (fun _ => valA_ok) (fun _ _ => by rw [fi_mir])
 have e1 : wayE valA = 0 := by unfold wayE; rw [valA_f, wa_val]; rfl
 have e2 : dayE valA = 0 := by unfold dayE; rw [valA_f, fi_val]; rfl
 have e3 : wayV valA = .psl false 2 [.psl false 4 [.int .i64 0, .int .i64 1, .int .i64 2, .int .i64 1], .psl false 4 [.int .i64 0, .int .i64 1, .int .i64 2, .int .i64 3]] := by
  unfold wayV; rw [e1, wa_val]; rfl
 have e4 : dayV valA = .psl false 4 [.int .i64 100, .int .i64 120, .int .i64 130, .int .i64 200, .int .i64 90, .int .i64 119, .int .i64 150, .int .i64 160] := by
  unfold dayV; rw [e2, fi_val, fi_mir]; rfl
 rw [e1, e3] at hw
 rw [e2, e4] at hd
 generalize valA = t at *
 simp only [zL, slR, slC] at hv hw hd
 (refine zG (fun w args => Try.call17 ..) Try.func17 rfl (fun w0 m0 wz => ?_); simp only [Try.ntmps17, Try.results17, zN, zP, zU, zV, slR, slC, zL, sl, List.toList_toArray, List.cons_append, List.nil_append, List.length_cons, List.length_nil, Nat.reduceAdd, Nat.reduceSub])
 (repeat' (first
 | ((exact eqOK 48))
 | ((exact tkb48))
 | ((show _ = _; exact tkb48))
 | refine zC ?_
 | refine kt ?_
 | refine And.intro ?_ ?_
 | ((first | refine awp_stp rfl ?_ | refine awp_draw (by kernel_rfl) (by kernel_rfl) ?_ | refine Imp.le2 ?_ | refine callK_of (hv) ?_ | refine callK_of (hw) ?_ | refine callK_of (hd) ?_ | refine callK_of (ways1_c) ?_ | refine callK_of (span_c _ _) ?_ | refine go_split (fun _h => ?_) (fun _h => ?_)) <;> try simp (maxSteps := 4000000) only [go_sem, seval])
 | intro _h
 | refine zA ?_
 | refine zB ?_
 | refine zF ?_ ?_
 | (show zE _ _ = true; kernel_rfl)
 | (show zD _ _ = true; kernel_rfl)
 | (omega)))
 all_goals (exfalso; revert _h; decide)
end Go.Am
namespace Go.Am
open Go.RowKit Go.Proofs
set_option linter.unusedSimpArgs false
set_option linter.unusedVariables false
def tryS {σ : Type} (f : Nat → σ → Bool × σ) : List Nat → σ → Bool × σ
 | [], o => (false, o)
 | n :: ns, o => if (f n o).1 = true then f n o else tryS f ns (f n o).2
def chS (p : List Int → Bool) (N : Nat) : Nat → List Int → Nat → Option (List Int) → Bool × Option (List Int)
 | 0, L, _, _ => (p L, some L)
 | m + 1, L, a, o => tryS (fun n o => chS p N m (L ++ [(n : Int)]) (n + 1) o) (List.range' a (N - a)) o
structure Rise (a N : Nat) (c : List Int) : Prop where
 up : c.Pairwise (· < ·)
 rng : ∀ x ∈ c, (a : Int) ≤ x ∧ x < N
theorem Rise.cons {a N : Nat} {x : Int} {c : List Int} : Rise a N (x :: c) ↔ ∃ n : Nat, x = n ∧ a ≤ n ∧ n < N ∧ Rise (n + 1) N c := by
 constructor
 ·intro h
  obtain ⟨h1, h2⟩ := List.pairwise_cons.1 h.up
  have h3 := h.rng x (by simp)
  obtain ⟨n, rfl⟩ := Int.eq_ofNat_of_zero_le (show 0 ≤ x by omega)
  refine ⟨n, rfl, by omega, by omega, h2, fun y hy => ?_⟩
  have := h1 y hy
  have := h.rng y (by simp [hy])
  omega
 ·rintro ⟨n, rfl, h1, h2, h3⟩
  refine ⟨List.pairwise_cons.2 ⟨fun y hy => ?_, h3.up⟩, fun y hy => ?_⟩
  ·have := h3.rng y hy; omega
  ·rcases List.mem_cons.1 hy with rfl | hy
   ·omega
   ·have := h3.rng y hy; omega
def keepS (p : List Int → Bool) (N : Nat) : Nat → Option (List Int)
 | 0 => none
 | k + 1 => (chS p N (k + 1) [] 0 (keepS p N k)).2
def hitS (p : List Int → Bool) (N k : Nat) : Bool := (chS p N k [] 0 (keepS p N (k - 1))).1
end Go.Am
