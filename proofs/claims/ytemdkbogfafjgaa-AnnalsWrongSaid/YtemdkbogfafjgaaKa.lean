/- Parts UkA, UkB, UkC, UkD, UkE, UkG, UkF, UkH of the proof, one behind the other. No statement is proved here. -/
import Derived.Test.YtemdkbogfafjgaaK9
import Derived.Test.YtemdkbogfafjgaaK4
import Derived.Test.YtemdkbogfafjgaaK5
import Derived.Test.YtemdkbogfafjgaaK6
set_option linter.unusedVariables false -- all
set_option linter.unusedSimpArgs false
namespace Go.Am
open Go.RowKit Go.Proofs
set_option linter.unusedSimpArgs false
set_option linter.unusedVariables false
section
variable (t : Ann) (P : List Int)
def gpA : Int := max 1 t.rest
def in1 (D : List Int) (p : Int) (i : Nat) (d : Int) : Nat → Int
 | 0 => d
 | k + 1 => if P.getD k 0 < p ∧ (rp t k).slope = (rp t i).slope then max (in1 D p i d k) (D.getD k 0 + gpA t) else in1 D p i d k
def in2 (D : List Int) (i : Nat) (d : Int) : Nat → Int
 | 0 => d
 | j + 1 => if (cl t j).kind = 0 ∧ (cl t j).b = (i : Int) then max (in2 D i d j) (D.getD (cl t j).a.toNat 0 + 1) else in2 D i d j
def dyL (D : List Int) (p b : Int) : Nat → Int
 | 0 => b
 | i + 1 => if P.getD i 0 = p then in2 t D i (in1 t P D p i (max (dyL D p b i) (rp t i).lo) t.reports.length) t.claims.length else dyL D p b i
def stL (D : List Int) (p d : Int) : Nat → List Int
 | 0 => D
 | i + 1 => if P.getD i 0 = p then isp (stL D p d i) i d else stL D p d i
def lsK : Nat → List Int × Int
 | 0 => (List.replicate t.reports.length 0, 0)
 | p + 1 => (stL P (lsK p).1 (p : Int) (dyL t P (lsK p).1 (p : Int) (lsK p).2 t.reports.length) t.reports.length, dyL t P (lsK p).1 (p : Int) (lsK p).2 t.reports.length)
end
section
variable {t : Ann} {P : List Int}
theorem stL_len {D : List Int} {p d : Int} : ∀ k, k ≤ D.length → (stL P D p d k).length = D.length
 | 0, _ => rfl
 | k + 1, hk => by
   have ih := stL_len (D := D) (p := p) (d := d) k (by omega)
   simp only [stL]
   split
   ·rw [isp_length (by omega)]; exact ih
   ·exact ih
theorem stL_get {D : List Int} {p d : Int} : ∀ k, k ≤ D.length → ∀ i, (stL P D p d k).getD i 0 = if i < k ∧ P.getD i 0 = p then d else D.getD i 0
 | 0, _, i => by simp [stL]
 | k + 1, hk, i => by
   have ih := stL_get (D := D) (p := p) (d := d) k (by omega)
   have hl := stL_len (P := P) (D := D) (p := p) (d := d) k (by omega)
   simp only [stL]
   split
   ·rename_i hp
    rw [isp_getD (by omega), ih i]
    by_cases e : i = k
    ·subst e; rw [if_pos rfl, if_pos ⟨by omega, hp⟩]
    ·rw [if_neg e]
     by_cases h : i < k ∧ P.getD i 0 = p
     ·rw [if_pos h, if_pos ⟨by omega, h.2⟩]
     ·rw [if_neg h, if_neg (fun h2 => h ⟨by omega, h2.2⟩)]
   ·rename_i hp
    rw [ih i]
    by_cases h : i < k ∧ P.getD i 0 = p
    ·rw [if_pos h, if_pos ⟨by omega, h.2⟩]
    ·rw [if_neg h, if_neg (fun h2 => h ⟨by
      have : i ≠ k := by rintro rfl; exact hp h2.2
      omega, h2.2⟩)]
theorem in1_ge {D : List Int} {p d : Int} {i : Nat} : ∀ n, d ≤ in1 t P D p i d n ∧ ∀ k, k < n → P.getD k 0 < p → (rp t k).slope = (rp t i).slope → D.getD k 0 + gpA t ≤ in1 t P D p i d n
 | 0 => ⟨Int.le_refl _, fun k hk => by omega⟩
 | n + 1 => by
   obtain ⟨h1, h2⟩ := in1_ge (D := D) (p := p) (d := d) (i := i) n
   simp only [in1]
   split
   ·refine ⟨by omega, fun k hk hp hs => ?_⟩
    by_cases e : k = n
    ·subst e; omega
    ·have := h2 k (by omega) hp hs; omega
   ·rename_i hc
    refine ⟨h1, fun k hk hp hs => ?_⟩
    by_cases e : k = n
    ·subst e; exact absurd ⟨hp, hs⟩ hc
    ·exact h2 k (by omega) hp hs
theorem in1_le {D : List Int} {p d B : Int} {i : Nat} (hd : d ≤ B) : ∀ n, (∀ k, k < n → P.getD k 0 < p → (rp t k).slope = (rp t i).slope → D.getD k 0 + gpA t ≤ B) → in1 t P D p i d n ≤ B
 | 0, _ => hd
 | n + 1, h => by
   have ih := in1_le (i := i) hd n fun k hk => h k (by omega)
   simp only [in1]
   split
   ·rename_i hc
    have := h n (by omega) hc.1 hc.2
    omega
   ·exact ih
theorem in2_ge {D : List Int} {d : Int} {i : Nat} : ∀ n, d ≤ in2 t D i d n ∧ ∀ j, j < n → (cl t j).kind = 0 → (cl t j).b = (i : Int) → D.getD (cl t j).a.toNat 0 + 1 ≤ in2 t D i d n
 | 0 => ⟨Int.le_refl _, fun k hk => by omega⟩
 | n + 1 => by
   obtain ⟨h1, h2⟩ := in2_ge (D := D) (d := d) (i := i) n
   simp only [in2]
   split
   ·refine ⟨by omega, fun k hk hp hs => ?_⟩
    by_cases e : k = n
    ·subst e; omega
    ·have := h2 k (by omega) hp hs; omega
   ·rename_i hc
    refine ⟨h1, fun k hk hp hs => ?_⟩
    by_cases e : k = n
    ·subst e; exact absurd ⟨hp, hs⟩ hc
    ·exact h2 k (by omega) hp hs
theorem in2_le {D : List Int} {d B : Int} {i : Nat} (hd : d ≤ B) : ∀ n, (∀ j, j < n → (cl t j).kind = 0 → (cl t j).b = (i : Int) → D.getD (cl t j).a.toNat 0 + 1 ≤ B) → in2 t D i d n ≤ B
 | 0, _ => hd
 | n + 1, h => by
   have ih := in2_le (i := i) hd n fun k hk => h k (by omega)
   simp only [in2]
   split
   ·rename_i hc
    have := h n (by omega) hc.1 hc.2
    omega
   ·exact ih
theorem dyL_ge {D : List Int} {p b : Int} : ∀ n, b ≤ dyL t P D p b n ∧ ∀ i, i < n → P.getD i 0 = p → (rp t i).lo ≤ dyL t P D p b n ∧ (∀ k, k < t.reports.length → P.getD k 0 < p → (rp t k).slope = (rp t i).slope → D.getD k 0 + gpA t ≤ dyL t P D p b n) ∧ ∀ j, j < t.claims.length → (cl t j).kind = 0 → (cl t j).b = (i : Int) → D.getD (cl t j).a.toNat 0 + 1 ≤ dyL t P D p b n
 | 0 => ⟨Int.le_refl _, fun i hi => by omega⟩
 | n + 1 => by
   obtain ⟨h1, h2⟩ := dyL_ge (D := D) (p := p) (b := b) n
   simp only [dyL]
   split
   ·rename_i hp
    have g2 := in2_ge (t := t) (D := D) (i := n) (d := in1 t P D p n (max (dyL t P D p b n) (rp t n).lo) t.reports.length) t.claims.length
    have g1 := in1_ge (t := t) (P := P) (D := D) (p := p) (i := n) (d := max (dyL t P D p b n) (rp t n).lo) t.reports.length
    generalize in2 t D n (in1 t P D p n (max (dyL t P D p b n) (rp t n).lo) t.reports.length) t.claims.length = r at *
    generalize in1 t P D p n (max (dyL t P D p b n) (rp t n).lo) t.reports.length = q at *
    have a1 := g1.1
    have a2 := g2.1
    refine ⟨by omega, fun i hi hpi => ?_⟩
    by_cases e : i = n
    ·subst e
     refine ⟨by omega, fun k hk hkp hs => ?_, g2.2⟩
     have := g1.2 k hk hkp hs; omega
    ·obtain ⟨b1, b2, b3⟩ := h2 i (by omega) hpi
     refine ⟨by omega, fun k hk hkp hs => ?_, fun j hj hk hb => ?_⟩
     ·have := b2 k hk hkp hs; omega
     ·have := b3 j hj hk hb; omega
   ·rename_i hp
    refine ⟨h1, fun i hi hpi => ?_⟩
    by_cases e : i = n
    ·subst e; exact absurd hpi hp
    ·exact h2 i (by omega) hpi
theorem dyL_le {D : List Int} {p b B : Int} (hb : b ≤ B) : ∀ n, (∀ i, i < n → P.getD i 0 = p → (rp t i).lo ≤ B ∧ (∀ k, k < t.reports.length → P.getD k 0 < p → (rp t k).slope = (rp t i).slope → D.getD k 0 + gpA t ≤ B) ∧ ∀ j, j < t.claims.length → (cl t j).kind = 0 → (cl t j).b = (i : Int) → D.getD (cl t j).a.toNat 0 + 1 ≤ B) → dyL t P D p b n ≤ B
 | 0, _ => hb
 | n + 1, h => by
   have ih := dyL_le hb n fun i hi => h i (by omega)
   simp only [dyL]
   split
   ·rename_i hp
    obtain ⟨h1, h2, h3⟩ := h n (by omega) hp
    exact in2_le (in1_le (by omega) _ h2) _ h3
   ·exact ih
def pdL (t : Ann) (P : List Int) (p : Nat) : Int := (lsK t P (p + 1)).2
theorem lsK_len : ∀ p, (lsK t P p).1.length = t.reports.length
 | 0 => by simp [lsK]
 | p + 1 => by
   have ih := lsK_len p
   simp only [lsK]
   rw [stL_len _ (by omega)]; exact ih
theorem lsK_get : ∀ (p : Nat) (i : Nat), i < t.reports.length → 0 ≤ P.getD i 0 → (P.getD i 0 < p → (lsK t P p).1.getD i 0 = pdL t P (P.getD i 0).toNat) ∧ ((p : Int) ≤ P.getD i 0 → (lsK t P p).1.getD i 0 = 0)
 | 0, i, hi, h0 => ⟨fun h => by omega, fun _ => by simp only [lsK]; rw [List.getD_eq_getElem?_getD, List.getElem?_replicate, if_pos hi]; rfl⟩
 | p + 1, i, hi, h0 => by
   obtain ⟨h1, h2⟩ := lsK_get p i hi h0
   have hl := lsK_len (t := t) (P := P) p
   have hg := fun d => stL_get (P := P) (D := (lsK t P p).1) (p := (p : Int)) (d := d) t.reports.length (by omega) i
   simp only [lsK]
   rw [hg]
   by_cases e : P.getD i 0 = (p : Int)
   ·rw [if_pos ⟨hi, e⟩]
    refine ⟨fun _ => ?_, fun h => by omega⟩
    have : (P.getD i 0).toNat = p := by omega
    rw [this]; rfl
   ·rw [if_neg (fun h => e h.2)]
    exact ⟨fun h => h1 (by omega), fun h => h2 (by omega)⟩
theorem pdL_mono {p : Nat} : (lsK t P p).2 ≤ pdL t P p := (dyL_ge (t := t) (P := P) (D := (lsK t P p).1) (p := (p : Int)) (b := (lsK t P p).2) t.reports.length).1
theorem pdL_le {p q : Nat} (h : p ≤ q) : pdL t P p ≤ pdL t P q := by
 induction q with
 | zero =>
   have : p = 0 := by omega
   subst this; exact Int.le_refl _
 | succ q ih =>
   by_cases e : p = q + 1
   ·subst e; exact Int.le_refl _
   ·exact Int.le_trans (ih (by omega)) (pdL_mono (p := q + 1))
end
structure OrdP (t : Ann) (P : List Int) (m : Nat) : Prop where
 rng : ∀ i, i < t.reports.length → 0 ≤ P.getD i 0 ∧ P.getD i 0 < m
 on : ∀ p, p < m → ∃ i, i < t.reports.length ∧ P.getD i 0 = (p : Int)
 slope : ∀ i k, i < t.reports.length → k < t.reports.length → P.getD i 0 = P.getD k 0 → (rp t i).slope = (rp t k).slope
 before : ∀ j, j < t.claims.length → (cl t j).kind = 0 → P.getD (cl t j).a.toNat 0 < P.getD (cl t j).b.toNat 0
 one : ∀ j, j < t.claims.length → (cl t j).kind = 1 → P.getD (cl t j).a.toNat 0 = P.getD (cl t j).b.toNat 0
 other : ∀ j, j < t.claims.length → (cl t j).kind ≠ 0 → (cl t j).kind ≠ 1 → P.getD (cl t j).a.toNat 0 ≠ P.getD (cl t j).b.toNat 0
def lsL (t : Ann) (P : List Int) (m : Nat) : List Int := (lsK t P m).1
section
variable {t : Ann} {P : List Int} {m : Nat}
theorem lsL_get (ho : OrdP t P m) {i : Nat} (hi : i < t.reports.length) : (lsL t P m).getD i 0 = pdL t P (P.getD i 0).toNat := by
 have h := ho.rng i hi
 exact (lsK_get m i hi h.1).1 h.2
theorem cl_in (ht : AnnOK t) {j : Nat} (hj : j < t.claims.length) : (cl t j).a.toNat < t.reports.length ∧ (cl t j).b.toNat < t.reports.length ∧ 0 ≤ (cl t j).a ∧ 0 ≤ (cl t j).b := by
 have hc := ht.clm j hj
 have hc2 : t.claims.getD j default = cl t j := rfl
 rw [hc2] at hc; omega
theorem lsL_chr (ht : AnnOK t) (ho : OrdP t P m) (hhi : ∀ i, i < t.reports.length → (lsL t P m).getD i 0 ≤ (rp t i).hi) : Chr t (fun i => P.getD i 0) (fun i => (lsL t P m).getD i 0) := by
 have hg : gpA t = max t.rest 1 := by unfold gpA; omega
 have key : ∀ i, i < t.reports.length → (rp t i).lo ≤ pdL t P (P.getD i 0).toNat ∧ (∀ k, k < t.reports.length → P.getD k 0 < P.getD i 0 → (rp t k).slope = (rp t i).slope → pdL t P (P.getD k 0).toNat + gpA t ≤ pdL t P (P.getD i 0).toNat) ∧ ∀ j, j < t.claims.length → (cl t j).kind = 0 → (cl t j).b = (i : Int) → pdL t P (P.getD (cl t j).a.toNat 0).toNat + 1 ≤ pdL t P (P.getD i 0).toNat := fun i hi => by
  have hr := ho.rng i hi
  obtain ⟨p, hp⟩ := Int.eq_ofNat_of_zero_le hr.1
  have hp2 : P.getD i 0 = (p : Int) := hp
  have h := (dyL_ge (t := t) (P := P) (D := (lsK t P p).1) (p := (p : Int)) (b := (lsK t P p).2) t.reports.length).2 i hi hp2
  have e : (P.getD i 0).toNat = p := by omega
  rw [e]
  refine ⟨h.1, fun k hk hlt hs => ?_, fun j hj hk hb => ?_⟩
  ·rw [hp2] at hlt
   have := h.2.1 k hk hlt hs
   rw [(lsK_get p k hk (ho.rng k hk).1).1 hlt] at this
   exact this
  ·have hci := cl_in ht hj
   have hbf := ho.before j hj hk
   have e2 : (cl t j).b.toNat = i := by omega
   rw [e2, hp2] at hbf
   have := h.2.2 j hj hk hb
   rw [(lsK_get p _ hci.1 (ho.rng _ hci.1).1).1 hbf] at this
   exact this
 refine ⟨fun i hi => ⟨?_, hhi i hi⟩, fun i k hi hk he => ⟨ho.slope i k hi hk he, ?_⟩, fun i k hi hk hne he => ?_, fun j hj hk => ?_, fun j hj hk => ho.one j hj hk, fun j hj hk hk2 => ho.other j hj hk hk2⟩
 ·rw [lsL_get ho hi]; exact (key i hi).1
 ·rw [lsL_get ho hi, lsL_get ho hk, he]
 ·rw [lsL_get ho hi, lsL_get ho hk, ← hg]
  by_cases h : P.getD i 0 < P.getD k 0
  ·exact .inl ((key k hk).2.1 i hi h he)
  ·exact .inr ((key i hi).2.1 k hk (by omega) he.symm)
 ·have hci := cl_in ht hj
  rw [lsL_get ho hci.1, lsL_get ho hci.2.1]
  have := (key _ hci.2.1).2.2 j hj hk (by omega)
  omega
theorem lsL_min (ht : AnnOK t) (ho : OrdP t P m) {C d : Nat → Int} (hc : Chr t C d) (hC : ∀ i k, i < t.reports.length → k < t.reports.length → (C i = C k ↔ P.getD i 0 = P.getD k 0)) (hd : ∀ i k, i < t.reports.length → k < t.reports.length → P.getD i 0 < P.getD k 0 → d i ≤ d k) {i : Nat} (hi : i < t.reports.length) : (lsL t P m).getD i 0 ≤ d i := by
 have hg : gpA t = max t.rest 1 := by unfold gpA; omega
 rw [lsL_get ho hi]
 have key : ∀ p : Nat, ∀ i, i < t.reports.length → P.getD i 0 = (p : Int) → pdL t P p ≤ d i := by
  intro p
  induction p using Nat.strongRecOn with
  | ind p ih =>
    intro i hi hp
    have hr : 0 ≤ (rp t i).lo := (ht.rpt i hi).2.1
    have hday := hc.day i hi
    have hsame : ∀ k, k < t.reports.length → P.getD k 0 = (p : Int) → d k = d i := fun k hk hkp => (hc.same k i hk hi ((hC k i hk hi).2 (hkp.trans hp.symm))).2
    refine dyL_le ?_ _ (fun q hq hqp => ⟨?_, fun k hk hlt hs => ?_, fun j hj hk hb => ?_⟩)
    ·cases p with
     | zero => show (0 : Int) ≤ _; omega
     | succ p =>
       obtain ⟨k, hk, hkp⟩ := ho.on p (by have := (ho.rng i hi).2; omega)
       have := ih p (by omega) k hk hkp
       have h2 := hd k i hk hi (by omega)
       exact Int.le_trans this h2
    ·rw [← hsame q hq hqp]; exact (hc.day q hq).1
    ·have hk0 := (ho.rng k hk).1
     rw [(lsK_get p k hk hk0).1 hlt]
     have h1 := ih (P.getD k 0).toNat (by omega) k hk (by omega)
     have h2 := hd k q hk hq (by omega)
     have h3 := hc.gap k q hk hq (fun e => by have := (hC k q hk hq).1 e; omega) hs
     rw [hsame q hq hqp] at h2 h3
     omega
    ·have hci := cl_in ht hj
     have hbf := ho.before j hj hk
     have e2 : (cl t j).b.toNat = q := by omega
     rw [e2, hqp] at hbf
     have ha0 := (ho.rng _ hci.1).1
     rw [(lsK_get p _ hci.1 ha0).1 hbf]
     have h1 := ih (P.getD (cl t j).a.toNat 0).toNat (by omega) _ hci.1 (by omega)
     have h2 := hc.before j hj hk
     rw [e2, hsame q hq hqp] at h2
     omega
 exact key _ i hi (by have := (ho.rng i hi).1; omega)
end
end Go.Am
namespace Go.Am
open Go.RowKit Go.Proofs
set_option linter.unusedSimpArgs false
set_option linter.unusedVariables false
section
variable (t : Ann) (P : List Int)
def gn1 (D : List Int) (p : Int) (i : Nat) (d : Int) : Nat → Int
 | 0 => d
 | k + 1 => if p < P.getD k 0 ∧ (rp t k).slope = (rp t i).slope then min (gn1 D p i d k) (D.getD k 0 - gpA t) else gn1 D p i d k
def gn2 (D : List Int) (i : Nat) (d : Int) : Nat → Int
 | 0 => d
 | j + 1 => if (cl t j).kind = 0 ∧ (cl t j).a = (i : Int) then min (gn2 D i d j) (D.getD (cl t j).b.toNat 0 - 1) else gn2 D i d j
def dyG (D : List Int) (p b : Int) : Nat → Int
 | 0 => b
 | i + 1 => if P.getD i 0 = p then gn2 t D i (gn1 t P D p i (min (dyG D p b i) (rp t i).hi) t.reports.length) t.claims.length else dyG D p b i
def gsK (m : Nat) : Nat → List Int × Int
 | 0 => (List.replicate t.reports.length 0, 100000)
 | q + 1 => (stL P (gsK m q).1 ((m : Int) - 1 - q) (dyG t P (gsK m q).1 ((m : Int) - 1 - q) (gsK m q).2 t.reports.length) t.reports.length, dyG t P (gsK m q).1 ((m : Int) - 1 - q) (gsK m q).2 t.reports.length)
def grL (m : Nat) : List Int := (gsK t P m m).1
def rvP (m : Nat) : List Int := tab t.reports.length fun i => (m : Int) - 1 - P.getD i 0
end
section
variable {t : Ann} {P : List Int} {m : Nat}
theorem rv_get {i : Nat} (hi : i < t.reports.length) : (rvP t P m).getD i 0 = (m : Int) - 1 - P.getD i 0 := tabD hi
theorem gp_mir : gpA (mirA t) = gpA t := rfl
theorem mir_rp {i : Nat} (hi : i < t.reports.length) : (rp (mirA t) i).slope = (rp t i).slope ∧ (rp (mirA t) i).lo = 100000 - (rp t i).hi ∧ (rp (mirA t) i).hi = 100000 - (rp t i).lo := by
 rw [mirA_rp hi]; exact ⟨rfl, rfl, rfl⟩
theorem mir_cl {j : Nat} (hj : j < t.claims.length) : (cl (mirA t) j).kind = (cl t j).kind ∧ (cl (mirA t) j).a = (cl t j).b ∧ (cl (mirA t) j).b = (cl t j).a := by
 have e : cl (mirA t) j = mirC (cl t j) := by
  show (t.claims.map mirC).getD j default = _
  simp only [List.getD_eq_getElem?_getD, List.getElem?_map, List.getElem?_eq_getElem hj, Option.map_some, Option.getD_some, cl]
 rw [e]; exact ⟨rfl, rfl, rfl⟩
theorem gn1_mir {D E : List Int} {p d : Int} {i : Nat} (hi : i < t.reports.length) : ∀ n, n ≤ t.reports.length → (∀ k, k < n → p < P.getD k 0 → D.getD k 0 = 100000 - E.getD k 0) → gn1 t P D p i d n = 100000 - in1 (mirA t) (rvP t P m) E ((m : Int) - 1 - p) i (100000 - d) n
 | 0, _, _ => by simp only [gn1, in1]; omega
 | n + 1, hn, h => by
   have ih := gn1_mir (D := D) (E := E) (p := p) (d := d) hi n (by omega) fun k hk => h k (by omega)
   have hk := rv_get (t := t) (P := P) (m := m) (show n < t.reports.length by omega)
   have h1 := (mir_rp (t := t) (show n < t.reports.length by omega)).1
   have h2 := (mir_rp (t := t) hi).1
   simp only [gn1, in1]
   rw [hk, h1, h2, gp_mir, ih]
   by_cases hc : p < P.getD n 0 ∧ (rp t n).slope = (rp t i).slope
   ·rw [if_pos hc, if_pos ⟨by omega, hc.2⟩]
    have := h n (by omega) hc.1
    omega
   ·rw [if_neg hc, if_neg (fun h => hc ⟨by omega, h.2⟩)]
theorem gn2_mir {D E : List Int} {d : Int} {i : Nat} : ∀ n, n ≤ t.claims.length → (∀ j, j < n → (cl t j).kind = 0 → (cl t j).a = (i : Int) → D.getD (cl t j).b.toNat 0 = 100000 - E.getD (cl t j).b.toNat 0) → gn2 t D i d n = 100000 - in2 (mirA t) E i (100000 - d) n
 | 0, _, _ => by simp only [gn2, in2]; omega
 | n + 1, hn, h => by
   have ih := gn2_mir (D := D) (E := E) (d := d) (i := i) n (by omega) fun k hk => h k (by omega)
   obtain ⟨h1, h2, h3⟩ := mir_cl (t := t) (show n < t.claims.length by omega)
   simp only [gn2, in2]
   rw [h1, h2, h3, ih]
   by_cases hc : (cl t n).kind = 0 ∧ (cl t n).a = (i : Int)
   ·rw [if_pos hc, if_pos hc]
    have := h n (by omega) hc.1 hc.2
    omega
   ·rw [if_neg hc, if_neg hc]
theorem dyG_mir {D E : List Int} {p b : Int} (h1 : ∀ k, k < t.reports.length → p < P.getD k 0 → D.getD k 0 = 100000 - E.getD k 0) (h2 : ∀ i, i < t.reports.length → P.getD i 0 = p → ∀ j, j < t.claims.length → (cl t j).kind = 0 → (cl t j).a = (i : Int) → D.getD (cl t j).b.toNat 0 = 100000 - E.getD (cl t j).b.toNat 0) : ∀ n, n ≤ t.reports.length → dyG t P D p b n = 100000 - dyL (mirA t) (rvP t P m) E ((m : Int) - 1 - p) (100000 - b) n
 | 0, _ => by simp only [dyG, dyL]; omega
 | n + 1, hn => by
   have ih := dyG_mir (b := b) h1 h2 n (by omega)
   have hn1 : n < t.reports.length := by omega
   have hk := rv_get (t := t) (P := P) (m := m) hn1
   have hcl : (mirA t).claims.length = t.claims.length := by simp [mirA]
   have hre : (mirA t).reports.length = t.reports.length := mirA_len
   simp only [dyG, dyL]
   rw [hk, hcl, hre]
   by_cases hc : P.getD n 0 = p
   ·rw [if_pos hc, if_pos (by omega), gn2_mir t.claims.length (Nat.le_refl _) (h2 n hn1 hc), gn1_mir (m := m) hn1 t.reports.length (Nat.le_refl _) h1, ih, (mir_rp hn1).2.1]
    congr 2
    rw [show (100000 : Int) - (100000 - in1 (mirA t) (rvP t P m) E ((m : Int) - 1 - p) n (100000 - min (100000 - dyL (mirA t) (rvP t P m) E ((m : Int) - 1 - p) (100000 - b) n) (rp t n).hi) t.reports.length) = in1 (mirA t) (rvP t P m) E ((m : Int) - 1 - p) n (100000 - min (100000 - dyL (mirA t) (rvP t P m) E ((m : Int) - 1 - p) (100000 - b) n) (rp t n).hi) t.reports.length by omega]
    congr 1
    omega
   ·rw [if_neg hc, if_neg (by omega)]; exact ih
theorem ord_mir (ht : AnnOK t) (ho : OrdP t P m) : OrdP (mirA t) (rvP t P m) m := by
 have hcl : (mirA t).claims.length = t.claims.length := by simp [mirA]
 refine ⟨fun i hi => ?_, fun p hp => ?_, fun i k hi hk he => ?_, fun j hj hk => ?_, fun j hj hk => ?_, fun j hj hk hk2 => ?_⟩
 ·rw [mirA_len] at hi
  rw [rv_get hi]
  have := ho.rng i hi; omega
 ·obtain ⟨i, hi, e⟩ := ho.on (m - 1 - p) (by omega)
  exact ⟨i, by rw [mirA_len]; exact hi, by rw [rv_get hi]; omega⟩
 ·rw [mirA_len] at hi hk
  rw [rv_get hi, rv_get hk] at he
  rw [(mir_rp hi).1, (mir_rp hk).1]
  exact ho.slope i k hi hk (by omega)
 ·rw [hcl] at hj
  obtain ⟨h1, h2, h3⟩ := mir_cl (t := t) hj
  have hci := cl_in ht hj
  rw [h2, h3, rv_get hci.2.1, rv_get hci.1]
  rw [h1] at hk
  have := ho.before j hj hk; omega
 ·rw [hcl] at hj
  obtain ⟨h1, h2, h3⟩ := mir_cl (t := t) hj
  have hci := cl_in ht hj
  rw [h2, h3, rv_get hci.2.1, rv_get hci.1]
  rw [h1] at hk
  have := ho.one j hj hk; omega
 ·rw [hcl] at hj
  obtain ⟨h1, h2, h3⟩ := mir_cl (t := t) hj
  have hci := cl_in ht hj
  rw [h2, h3, rv_get hci.2.1, rv_get hci.1]
  rw [h1] at hk hk2
  have := ho.other j hj hk hk2; omega
theorem gsK_len : ∀ q, (gsK t P m q).1.length = t.reports.length
 | 0 => by simp [gsK]
 | q + 1 => by
   have ih := gsK_len q
   simp only [gsK]
   rw [stL_len _ (by omega)]; exact ih
theorem gsK_mir (ht : AnnOK t) (ho : OrdP t P m) : ∀ q, q ≤ m → (gsK t P m q).2 = 100000 - (lsK (mirA t) (rvP t P m) q).2 ∧ ∀ i, i < t.reports.length → (m : Int) - q ≤ P.getD i 0 → (gsK t P m q).1.getD i 0 = 100000 - (lsK (mirA t) (rvP t P m) q).1.getD i 0
 | 0, _ => ⟨by simp [gsK, lsK], fun i hi h => by have := (ho.rng i hi).2; omega⟩
 | q + 1, hq => by
   obtain ⟨h1, h2⟩ := gsK_mir ht ho q (by omega)
   have hl1 := gsK_len (t := t) (P := P) (m := m) q
   have hl2 := lsK_len (t := mirA t) (P := rvP t P m) q
   rw [mirA_len] at hl2
   have hd := dyG_mir (t := t) (P := P) (m := m) (D := (gsK t P m q).1) (E := (lsK (mirA t) (rvP t P m) q).1) (p := (m : Int) - 1 - q) (b := (gsK t P m q).2) (fun k hk hlt => h2 k hk (by omega)) (fun i hi hp j hj hk ha => by
    have hci := cl_in ht hj
    have hbf := ho.before j hj hk
    have e : (cl t j).a.toNat = i := by omega
    rw [e, hp] at hbf
    exact h2 _ hci.2.1 (by omega)) t.reports.length (Nat.le_refl _)
   rw [h1, show (m : Int) - 1 - ((m : Int) - 1 - q) = q by omega, show (100000 : Int) - (100000 - (lsK (mirA t) (rvP t P m) q).2) = (lsK (mirA t) (rvP t P m) q).2 by omega] at hd
   refine ⟨?_, fun i hi hle => ?_⟩
   ·simp only [gsK, lsK]
    rw [h1, hd, mirA_len]
   ·simp only [gsK, lsK]
    rw [stL_get _ (by omega) i, stL_get _ (by rw [mirA_len]; omega) i, rv_get hi, mirA_len]
    by_cases e : P.getD i 0 = (m : Int) - 1 - q
    ·rw [if_pos ⟨hi, e⟩, if_pos ⟨hi, by omega⟩, h1, hd]
    ·rw [if_neg (fun h => e h.2), if_neg (fun h => e (by omega))]
     exact h2 i hi (by omega)
theorem grL_get (ht : AnnOK t) (ho : OrdP t P m) {i : Nat} (hi : i < t.reports.length) : (grL t P m).getD i 0 = 100000 - (lsL (mirA t) (rvP t P m) m).getD i 0 :=
 (gsK_mir ht ho m (Nat.le_refl _)).2 i hi (by have := (ho.rng i hi).1; omega)
theorem grL_max (ht : AnnOK t) (ho : OrdP t P m) {C d : Nat → Int} (hc : Chr t C d) (hC : ∀ i k, i < t.reports.length → k < t.reports.length → (C i = C k ↔ P.getD i 0 = P.getD k 0)) (hd : ∀ i k, i < t.reports.length → k < t.reports.length → P.getD i 0 < P.getD k 0 → d i ≤ d k) {i : Nat} (hi : i < t.reports.length) : d i ≤ (grL t P m).getD i 0 := by
 rw [grL_get ht ho hi]
 have h := lsL_min (mirA_ok ht) (ord_mir ht ho) (chr_mir hc) (fun i k hi hk => by
  rw [mirA_len] at hi hk
  rw [hC i k hi hk, rv_get hi, rv_get hk]; omega) (fun i k hi hk hlt => by
  rw [mirA_len] at hi hk
  rw [rv_get hi, rv_get hk] at hlt
  have := hd k i hk hi (by omega)
  show 100000 - d i ≤ 100000 - d k
  omega) (i := i) (by rw [mirA_len]; exact hi)
 have h : (lsL (mirA t) (rvP t P m) m).getD i 0 ≤ 100000 - d i := h
 omega
theorem grL_chr (ht : AnnOK t) (ho : OrdP t P m) (hhi : ∀ i, i < t.reports.length → (lsL t P m).getD i 0 ≤ (rp t i).hi) : Chr t (fun i => P.getD i 0) (fun i => (grL t P m).getD i 0) := by
 have hc := lsL_chr ht ho hhi
 have hm := lsL_chr (mirA_ok ht) (ord_mir ht ho) (fun i hi => by
  rw [mirA_len] at hi
  rw [(mir_rp hi).2.2]
  have h1 := grL_max ht ho hc (fun i k _ _ => Iff.rfl) (fun i k hi hk hlt => ?_) hi
  ·rw [grL_get ht ho hi] at h1
   have h1 : (lsL t P m).getD i 0 ≤ 100000 - (lsL (mirA t) (rvP t P m) m).getD i 0 := h1
   have h2 : (rp t i).lo ≤ (lsL t P m).getD i 0 := (hc.day i hi).1
   omega
  ·show (lsL t P m).getD i 0 ≤ (lsL t P m).getD k 0
   rw [lsL_get ho hi, lsL_get ho hk]
   exact pdL_le (by have := (ho.rng i hi).1; omega))
 have h := chr_mir2 hm
 have h2 := h
 refine ⟨fun i hi => ?_, fun i k hi hk he => ?_, fun i k hi hk hne he => ?_, fun j hj hk => ?_, fun j hj hk => ho.one j hj hk, fun j hj hk hk2 => ho.other j hj hk hk2⟩
 ·rw [grL_get ht ho hi]; exact h.day i hi
 ·rw [grL_get ht ho hi, grL_get ht ho hk]
  exact h.same i k hi hk (by show (rvP t P m).getD i 0 = (rvP t P m).getD k 0; rw [rv_get hi, rv_get hk]; omega)
 ·rw [grL_get ht ho hi, grL_get ht ho hk]
  exact h.gap i k hi hk (by show (rvP t P m).getD i 0 ≠ (rvP t P m).getD k 0; rw [rv_get hi, rv_get hk]; omega) he
 ·have hci := cl_in ht hj
  rw [grL_get ht ho hci.1, grL_get ht ho hci.2.1]
  exact h.before j hj hk
end
theorem run_shape {t : Ann} (ht : AnnOK t) : ∀ (f : Nat) (s : Ste) (place : Int) (p : List (Nat × Int)), SteOK t s → p ∈ runsL t f s →
 (∀ i k, i < t.reports.length → k < t.reports.length → s.rest.testBit i = true → s.rest.testBit k = true → placeOf place p i < placeOf place p k → dayOf p i ≤ dayOf p k) ∧
 (∀ q : Nat, q < p.length → ∃ i, i < t.reports.length ∧ s.rest.testBit i = true ∧ placeOf place p i = place + q) ∧
 (∀ i, i < t.reports.length → s.rest.testBit i = true → place ≤ placeOf place p i ∧ placeOf place p i < place + p.length ∧ s.day ≤ dayOf p i)
 | 0, _, _, _, _, h => by simp [runsL] at h
 | f + 1, s, place, p, hs, hp => by
   have hr := ht.reports
   simp only [runsL] at hp
   by_cases h0 : s.rest = 0
   ·rw [if_pos h0] at hp
    have : p = [] := by simpa using hp
    subst this
    have hz : ∀ i, s.rest.testBit i = true → False := fun i h => by rw [h0, Nat.zero_testBit] at h; cases h
    exact ⟨fun i k _ _ h => (hz i h).elim, fun q hq => by simp at hq, fun i _ h => (hz i h).elim⟩
   ·rw [if_neg h0] at hp
    obtain ⟨n, hn, hp2⟩ := List.mem_flatMap.1 hp
    obtain ⟨n0, n1, n2⟩ := mem_candN (ste_256 ht hs) (Nat.and_self _) hn
    by_cases hm : (mayS t s n).2 = true
    ·rw [if_pos hm] at hp2
     obtain ⟨q, hq, e⟩ := List.mem_map.1 hp2
     subst e
     clear hp hp2
     obtain ⟨m1, m2, m3⟩ := mayS_ok ht hs n0 n1 hm
     obtain ⟨i1, i2, i3⟩ := run_shape ht f (mayS t s n).1 (place + 1) q m1 hq
     have hbit : ∀ i, i < t.reports.length → (mayS t s n).1.rest.testBit i = (s.rest.testBit i && !n.testBit i) := fun i hi => ndiff_bit (by omega)
     have hsub : ∀ i, n.testBit i = true → s.rest.testBit i = true := fun i hi => by
      have h9 : (n &&& s.rest).testBit i = n.testBit i := by rw [n1]
      rw [Nat.testBit_and, hi, Bool.true_and] at h9; exact h9
     have hnr : n < 2 ^ t.reports.length := by
      have h9 : n &&& s.rest ≤ s.rest := Nat.and_le_right
      rw [n1] at h9
      have := hs.rest; omega
     have htzb := tz_bit n0 hnr hr.2
     have htzi := tz_in n0 hnr hr.2
     have hday : s.day ≤ (mayS t s n).1.day := (dayK_ge (t := t) (s := s) (n := n) t.reports.length).1
     generalize (mayS t s n).1 = to at *
     have cases2 : ∀ i, i < t.reports.length → s.rest.testBit i = true → (n.testBit i = true ∧ placeOf place ((n, to.day) :: q) i = place ∧ dayOf ((n, to.day) :: q) i = to.day) ∨ (n.testBit i = false ∧ to.rest.testBit i = true ∧ placeOf place ((n, to.day) :: q) i = placeOf (place + 1) q i ∧ dayOf ((n, to.day) :: q) i = dayOf q i) := by
      intro i hi hb
      cases hni : n.testBit i with
      | true => exact .inl ⟨rfl, by simp [placeOf, hni], by simp [dayOf, hni]⟩
      | false => exact .inr ⟨rfl, by rw [hbit i hi, hb, hni]; rfl, by simp [placeOf, hni], by simp [dayOf, hni]⟩
     refine ⟨fun i k hi hk hb1 hb2 hlt => ?_, fun x hx => ?_, fun i hi hb => ?_⟩
     ·rcases cases2 i hi hb1 with ⟨h1, h2, h3⟩ | ⟨h1, h2, h3, h4⟩ <;> rcases cases2 k hk hb2 with ⟨g1, g2, g3⟩ | ⟨g1, g2, g3, g4⟩
      ·omega
      ·rw [h3, g4]; exact (i3 k hk g2).2.2
      ·have := (i3 i hi h2).1; omega
      ·rw [h3, g3] at hlt; rw [h4, g4]; exact i1 i k hi hk h2 g2 hlt
     ·cases x with
      | zero => exact ⟨tz n, htzi, hsub _ htzb, by simp [placeOf, htzb]⟩
      | succ x =>
        obtain ⟨i, hi, hb, e⟩ := i2 x (by simpa using hx)
        have hb2 := hbit i hi
        rw [hb] at hb2
        have hb3 := hb2.symm
        rw [Bool.and_eq_true, Bool.not_eq_true'] at hb3
        have hs2 : s.rest.testBit i = true := hb3.1
        have hn2 : n.testBit i = false := hb3.2
        refine ⟨i, hi, hs2, ?_⟩
        simp only [placeOf, hn2, Bool.false_eq_true, if_false]
        rw [e]; push_cast; omega
     ·simp only [List.length_cons]
      rcases cases2 i hi hb with ⟨h1, h2, h3⟩ | ⟨h1, h2, h3, h4⟩
      ·rw [h2, h3]; push_cast; exact ⟨Int.le_refl _, by omega, hday⟩
      ·rw [h3, h4]
       have := i3 i hi h2
       push_cast
       omega
    ·rw [if_neg hm] at hp2; cases hp2
theorem chr_ord {t : Ann} (ht : AnnOK t) {C d : Nat → Int} (hc : Chr t C d) : ∃ (m : Nat) (P : List Int) (e : Nat → Int), P.length = t.reports.length ∧ m ≤ t.reports.length ∧ OrdP t P m ∧ (∀ i k, i < t.reports.length → k < t.reports.length → (C i = C k ↔ P.getD i 0 = P.getD k 0)) ∧ Chr t (fun i => P.getD i 0) e ∧ (∀ i k, i < t.reports.length → k < t.reports.length → P.getD i 0 < P.getD k 0 → e i ≤ e k) ∧ ∀ i, i < t.reports.length → e i ≤ d i := by
 obtain ⟨p, hp, h1, h2⟩ := chr_runs ht hc
 obtain ⟨s1, s2, s3⟩ := run_shape ht 128 (begS t) 0 p (begS_ok ht) hp
 have hch := runs_chr ht hp
 have hg : ∀ i, i < t.reports.length → (tab t.reports.length (placeOf 0 p)).getD i 0 = placeOf 0 p i := fun i hi => tabD hi
 have hcli := fun j (hj : j < t.claims.length) => cl_in ht hj
 refine ⟨p.length, tab t.reports.length (placeOf 0 p), dayOf p, tab_length, ?_, ⟨fun i hi => ?_, fun q hq => ?_, fun i k hi hk he => ?_, fun j hj hk => ?_, fun j hj hk => ?_, fun j hj hk hk2 => ?_⟩, fun i k hi hk => ?_, ⟨fun i hi => hch.day i hi, fun i k hi hk he => ?_, fun i k hi hk hne he => ?_, hch.before, fun j hj hk => ?_, fun j hj hk hk2 => ?_⟩, fun i k hi hk hlt => ?_, h1⟩
 ·have hl := len_sub (l := List.range p.length) (r := (List.range t.reports.length).map fun i => (placeOf 0 p i).toNat) (by
   rw [List.pairwise_iff_getElem]
   intro i j hi hj hij e
   simp at e; omega) (fun q hq => by
   obtain ⟨i, hi, _, e⟩ := s2 q (by simpa using hq)
   exact List.mem_map.2 ⟨i, by simpa using hi, by omega⟩)
  simpa using hl
 ·rw [hg i hi]
  have := s3 i hi (begS_bit hi)
  omega
 ·obtain ⟨i, hi, _, e⟩ := s2 q hq
  exact ⟨i, hi, by rw [hg i hi]; omega⟩
 ·rw [hg i hi, hg k hk] at he; exact (hch.same i k hi hk he).1
 ·rw [hg _ (hcli j hj).1, hg _ (hcli j hj).2.1]
  have hb := hch.before j hj hk
  apply Classical.byContradiction
  intro hn
  by_cases e : placeOf 0 p (cl t j).b.toNat = placeOf 0 p (cl t j).a.toNat
  ·have := (hch.same _ _ (hcli j hj).2.1 (hcli j hj).1 e).2
   omega
  ·have := s1 _ _ (hcli j hj).2.1 (hcli j hj).1 (begS_bit (hcli j hj).2.1) (begS_bit (hcli j hj).1) (by omega)
   omega
 ·rw [hg _ (hcli j hj).1, hg _ (hcli j hj).2.1]; exact hch.one j hj hk
 ·rw [hg _ (hcli j hj).1, hg _ (hcli j hj).2.1]; exact hch.other j hj hk hk2
 ·rw [hg i hi, hg k hk]; exact (h2 i k hi hk).symm
 ·simp only [hg i hi, hg k hk] at he; exact hch.same i k hi hk he
 ·simp only [ne_eq, hg i hi, hg k hk] at hne; exact hch.gap i k hi hk hne he
 ·simp only [hg _ (hcli j hj).1, hg _ (hcli j hj).2.1]; exact hch.one j hj hk
 ·simp only [ne_eq, hg _ (hcli j hj).1, hg _ (hcli j hj).2.1]; exact hch.other j hj hk hk2
 ·rw [hg i hi, hg k hk] at hlt; exact s1 i k hi hk (begS_bit hi) (begS_bit hk) hlt
end Go.Am
namespace Go.Am
open Go.RowKit Go.Proofs
attribute [local irreducible] AWP zO Kt goK CallK zT zS SemF SemY Imp
set_option maxRecDepth 4000
set_option linter.unusedSimpArgs false
set_option linter.unusedVariables false
set_option maxHeartbeats 1600000
def fitC (P : List Int) (c : Clm) : Prop := (c.kind = 0 → P.getD c.a.toNat 0 < P.getD c.b.toNat 0) ∧ (c.kind = 1 → P.getD c.a.toNat 0 = P.getD c.b.toNat 0) ∧ (c.kind = 2 → P.getD c.a.toNat 0 ≠ P.getD c.b.toNat 0)
def FitP (t : Ann) (P : List Int) : Prop := (∀ i, i < t.reports.length → ∀ k, k < i → P.getD i 0 = P.getD k 0 → (rp t i).slope = (rp t k).slope) ∧ ∀ j, j < t.claims.length → fitC P (cl t j)
open Classical in
noncomputable def fitB (t : Ann) (P : List Int) : Bool := decide (FitP t P)
open Classical in
theorem fitB_iff {t : Ann} {P : List Int} : fitB t P = true ↔ FitP t P := by unfold fitB; exact decide_eq_true_iff
theorem fits_c (t : Ann) (P : List Int) (ht : AnnOK t) (hP : P.length = t.reports.length) : zO Try.prog 59 [.agg (zJ t), sl P] (.bool (fitB t P)) := by
 have hno : ¬ FitP t P → false = fitB t P := fun h => by
  have h1 : ¬ fitB t P = true := fun h2 => h (fitB_iff.1 h2)
  simpa using h1
 have hyes : FitP t P → true = fitB t P := fun h => (fitB_iff.2 h).symm
 generalize fitB t P = r at *
 have hr := ht.reports
 have hcl := ht.claims
 have hno1 : ∀ i k, i < t.reports.length → k < i → P.getD i 0 = P.getD k 0 → ¬ (rp t i).slope = (rp t k).slope → false = r := fun i k hi hk he hs => hno fun hp => hs (hp.1 i hi k hk he)
 have hno2 : ∀ j, j < t.claims.length → ¬ fitC P (cl t j) → false = r := fun j hj h => hno fun hp => h (hp.2 j hj)
 have n1 := fun (k : Nat) (hk : k < t.reports.length) K => show optK (nth (zM P) k) K = K (.int .i64 (P.getD k 0)) by rw [ints_nth (by omega)]; rfl
 clear hno
 simp only [zJ, slR, slC, sl, hP]
 (refine zG (fun w args => Try.call59 ..) Try.func59 rfl (fun w0 m0 wz => ?_); simp only [Try.ntmps59, Try.results59, zP, zR, zV, zW, slR, slC, zJ, sl, List.toList_toArray, List.cons_append, List.nil_append, List.length_cons, List.length_nil, Nat.reduceAdd, Nat.reduceSub])
 (repeat' (first
 | ((omega))
 | ((exfalso; omega))
 | refine zC ?_
 | refine kt ?_
 | refine And.intro ?_ ?_
 | ((first | refine awp_stp rfl ?_ | refine awp_draw (by kernel_rfl) (by kernel_rfl) ?_ | refine Imp.le2 ?_ | refine go_split (fun _h => ?_) (fun _h => ?_)) <;> try simp (maxSteps := 4000000) only [go_sem, seval])
 | intro _h
 | refine zA ?_
 | refine zB ?_
 | refine zF ?_ ?_
 | (show zE _ _ = true; kernel_rfl)
 | (show zD _ _ = true; kernel_rfl)
 | (omega)))
 refine awp_loopJ (fun i : Nat => i ≤ t.reports.length ∧ ∀ j, j < i → ∀ k, k < j → P.getD j 0 = P.getD k 0 → (rp t j).slope = (rp t k).slope) (fun i => ⟨mkT 96 [(1, .psl false t.reports.length (zM P)), (2, .ptr 0 0 0), (5, .int .i64 i)], [some (.cells 25 1 0 [.psl false t.reports.length (recs zV t.reports), .psl false t.claims.length (recs zW t.claims), .int .i64 t.rest])], []⟩) (fun i => t.reports.length - i) 0 ⟨Nat.zero_le _, fun j hj => by omega⟩ (.le2 ?_) ?_
 ·simp (maxSteps := 4000000) only [go_sem, seval]
  all_goals first | rfl | trace_state
 ·rintro i ⟨hi, hI⟩
  rcases Nat.lt_or_eq_of_le hi with hi1 | hi1
  ·simp (maxSteps := 4000000) only [go_sem, seval]
   (repeat' (first
 | ((omega))
 | ((exfalso; omega))
 | refine zC ?_
 | refine kt ?_
 | refine And.intro ?_ ?_
 | ((first | refine awp_stp rfl ?_ | refine awp_draw (by kernel_rfl) (by kernel_rfl) ?_ | refine Imp.le2 ?_ | refine go_split (fun _h => ?_) (fun _h => ?_)) <;> try simp (maxSteps := 4000000) only [go_sem, seval])
 | intro _h
 | refine zA ?_
 | refine zB ?_
 | refine zF ?_ ?_
 | (show zE _ _ = true; kernel_rfl)
 | (show zD _ _ = true; kernel_rfl)
 | (omega)))
   refine awp_loopJ (fun k : Nat => k ≤ i ∧ ∀ m, m < k → P.getD i 0 = P.getD m 0 → (rp t i).slope = (rp t m).slope) (fun k => ⟨mkT 96 [(1, .psl false t.reports.length (zM P)), (2, .ptr 0 0 0), (5, .int .i64 i), (6, .int .i64 k)], [some (.cells 25 1 0 [.psl false t.reports.length (recs zV t.reports), .psl false t.claims.length (recs zW t.claims), .int .i64 t.rest])], []⟩) (fun k => i - k) 0 ⟨Nat.zero_le _, fun j hj => by omega⟩ (.le2 ?_) ?_
   ·simp (maxSteps := 4000000) only [go_sem, seval]
    all_goals first | rfl | trace_state
   ·rintro k ⟨hk, hK⟩
    rcases Nat.lt_or_eq_of_le hk with hk1 | hk1
    ·have nI := n1 i hi1
     have nK := n1 k (by omega)
     have hno := hno1 i k hi1 hk1
     have e1 : (rp t i).slope = (t.reports.getD i default).slope := rfl
     have e2 : (rp t k).slope = (t.reports.getD k default).slope := rfl
     have hstep : (P.getD i 0 = P.getD k 0 → (t.reports.getD i default).slope = (t.reports.getD k default).slope) → ∀ m, m < k + 1 → P.getD i 0 = P.getD m 0 → (rp t i).slope = (rp t m).slope := fun h m hm he => by
      by_cases e : m = k
      ·subst e; exact h he
      ·exact hK m (by omega) he
     rw [e1, e2] at hno
     clear hK hI hyes hno1 hno2
     simp (maxSteps := 4000000) only [go_sem, seval]
     (repeat' (first
 | ((omega))
 | ((exfalso; omega))
 | refine zC ?_
 | refine kt ?_
 | refine And.intro ?_ ?_
 | ((first | refine awp_stp rfl ?_ | refine awp_draw (by kernel_rfl) (by kernel_rfl) ?_ | refine Imp.le2 ?_ | refine go_split (fun _h => ?_) (fun _h => ?_)) <;> try simp (maxSteps := 4000000) only [go_sem, seval, nI, nK])
 | intro _h
 | refine zA ?_
 | refine zB ?_
 | refine zF ?_ ?_
 | (show zE _ _ = true; kernel_rfl)
 | (show zD _ _ = true; kernel_rfl)
 | (omega)))
     all_goals first
      | exact hno (by omega) (by omega)
      | exact (hno (by omega) (by omega)).symm
      | (refine ⟨k + 1, ⟨by omega, hstep (by omega)⟩, by omega, .le2 ?_⟩
         simp (maxSteps := 4000000) only [go_sem, seval]
         all_goals first | rfl | trace_state)
      | trace_state
    ·subst hk1
     simp (maxSteps := 4000000) only [go_sem, seval]
     (repeat' (first
 | ((omega))
 | ((exfalso; omega))
 | refine zC ?_
 | refine kt ?_
 | refine And.intro ?_ ?_
 | ((first | refine awp_stp rfl ?_ | refine awp_draw (by kernel_rfl) (by kernel_rfl) ?_ | refine Imp.le2 ?_ | refine go_split (fun _h => ?_) (fun _h => ?_)) <;> try simp (maxSteps := 4000000) only [go_sem, seval])
 | intro _h
 | refine zA ?_
 | refine zB ?_
 | refine zF ?_ ?_
 | (show zE _ _ = true; kernel_rfl)
 | (show zD _ _ = true; kernel_rfl)
 | (omega)))
     all_goals first
      | (refine ⟨k + 1, ⟨by omega, fun j hj => ?_⟩, by omega, .le2 ?_⟩
         ·by_cases e : j = k
          ·subst e; exact hK
          ·exact hI j (by omega)
         ·simp (maxSteps := 4000000) only [go_sem, seval]
          all_goals first | rfl | trace_state)
      | trace_state
  ·subst hi1
   simp (maxSteps := 4000000) only [go_sem, seval]
   (repeat' (first
 | ((omega))
 | ((exfalso; omega))
 | refine zC ?_
 | refine kt ?_
 | refine And.intro ?_ ?_
 | ((first | refine awp_stp rfl ?_ | refine awp_draw (by kernel_rfl) (by kernel_rfl) ?_ | refine Imp.le2 ?_ | refine go_split (fun _h => ?_) (fun _h => ?_)) <;> try simp (maxSteps := 4000000) only [go_sem, seval])
 | intro _h
 | refine zA ?_
 | refine zB ?_
 | refine zF ?_ ?_
 | (show zE _ _ = true; kernel_rfl)
 | (show zD _ _ = true; kernel_rfl)
 | (omega)))
   refine awp_loopJ (fun j : Nat => j ≤ t.claims.length ∧ ∀ q, q < j → fitC P (cl t q)) (fun j => ⟨mkT 96 [(1, .psl false t.reports.length (zM P)), (2, .ptr 0 0 0), (7, .int .i64 j)], [some (.cells 25 1 0 [.psl false t.reports.length (recs zV t.reports), .psl false t.claims.length (recs zW t.claims), .int .i64 t.rest])], []⟩) (fun j => t.claims.length - j) 0 ⟨Nat.zero_le _, fun j hj => by omega⟩ (.le2 ?_) ?_
   ·simp (maxSteps := 4000000) only [go_sem, seval]
    all_goals first | rfl | trace_state
   ·rintro j ⟨hj, hJ⟩
    rcases Nat.lt_or_eq_of_le hj with hj1 | hj1
    ·have hno := hno2 j hj1
     have hc := ht.clm j hj1
     have hstep : fitC P (cl t j) → ∀ q, q < j + 1 → fitC P (cl t q) := fun h q hq => by
      by_cases e : q = j
      ·subst e; exact h
      ·exact hJ q (by omega)
     have ec : cl t j = t.claims.getD j default := rfl
     rw [ec] at hno hstep
     obtain ⟨kd, a, b, hcd⟩ : ∃ kd a b, t.claims.getD j default = ⟨kd, a, b⟩ := ⟨_, _, _, rfl⟩
     rw [hcd] at hc hno hstep
     simp only at hc
     obtain ⟨a, rfl⟩ := Int.eq_ofNat_of_zero_le hc.2.1.1
     obtain ⟨b, rfl⟩ := Int.eq_ofNat_of_zero_le hc.2.2.1
     have nA := n1 a (by omega)
     have nB := n1 b (by omega)
     simp only [fitC, Int.toNat_natCast] at hno hstep
     generalize P.getD a 0 = x at *
     generalize P.getD b 0 = y at *
     clear hJ hyes hno1 hno2 hI n1
     simp (maxSteps := 4000000) only [go_sem, seval]
     (repeat' (first
 | ((omega))
 | ((exfalso; omega))
 | refine zC ?_
 | refine kt ?_
 | refine And.intro ?_ ?_
 | ((first | refine awp_stp rfl ?_ | refine awp_draw (by kernel_rfl) (by kernel_rfl) ?_ | refine Imp.le2 ?_ | refine go_split (fun _h => ?_) (fun _h => ?_)) <;> try simp (maxSteps := 4000000) only [go_sem, seval, hcd, nA, nB])
 | intro _h
 | refine zA ?_
 | refine zB ?_
 | refine zF ?_ ?_
 | (show zE _ _ = true; kernel_rfl)
 | (show zD _ _ = true; kernel_rfl)
 | (omega)))
     all_goals first
      | exact hno (by omega)
      | exact (hno (by omega)).symm
      | (refine ⟨j + 1, ⟨by omega, hstep (by omega)⟩, by omega, .le2 ?_⟩
         simp (maxSteps := 4000000) only [go_sem, seval]
         all_goals first | rfl | trace_state)
      | trace_state
    ·subst hj1
     have hyes := hyes ⟨hI, hJ⟩
     simp (maxSteps := 4000000) only [go_sem, seval]
     (repeat' (first
 | ((exact hyes))
 | ((exact hyes.symm))
 | ((omega))
 | ((exfalso; omega))
 | refine zC ?_
 | refine kt ?_
 | refine And.intro ?_ ?_
 | ((first | refine awp_stp rfl ?_ | refine awp_draw (by kernel_rfl) (by kernel_rfl) ?_ | refine Imp.le2 ?_ | refine go_split (fun _h => ?_) (fun _h => ?_)) <;> try simp (maxSteps := 4000000) only [go_sem, seval])
 | intro _h
 | refine zA ?_
 | refine zB ?_
 | refine zF ?_ ?_
 | (show zE _ _ = true; kernel_rfl)
 | (show zD _ _ = true; kernel_rfl)
 | (omega)))
     all_goals trace_state
theorem lsK_bd {t : Ann} {P : List Int} (ht : AnnOK t) (hP : ∀ i, i < t.reports.length → 0 ≤ P.getD i 0) : ∀ p, (0 ≤ (lsK t P p).2 ∧ (lsK t P p).2 ≤ 300000 * (p : Int)) ∧ ∀ i, 0 ≤ (lsK t P p).1.getD i 0 ∧ (lsK t P p).1.getD i 0 ≤ 300000 * (p : Int)
 | 0 => ⟨by simp [lsK], fun i => by
     have : (lsK t P 0).1.getD i 0 = 0 := by
      simp only [lsK]; rw [List.getD_eq_getElem?_getD, List.getElem?_replicate]; split <;> rfl
     rw [this]; omega⟩
 | p + 1 => by
   obtain ⟨h1, h2⟩ := lsK_bd ht hP p
   have hg : 1 ≤ gpA t ∧ gpA t ≤ 100000 := by unfold gpA; have := ht.rest; omega
   have hge := (dyL_ge (t := t) (P := P) (D := (lsK t P p).1) (p := (p : Int)) (b := (lsK t P p).2) t.reports.length).1
   have hle := dyL_le (t := t) (P := P) (D := (lsK t P p).1) (p := (p : Int)) (b := (lsK t P p).2) (B := 300000 * ((p + 1 : Nat) : Int)) (by push_cast; omega) t.reports.length (fun i hi _ => by
    have hl : _ ∧ 0 ≤ (rp t i).lo ∧ (rp t i).lo ≤ (rp t i).hi ∧ (rp t i).hi ≤ 100000 := ht.rpt i hi
    refine ⟨by push_cast; omega, fun k _ _ _ => ?_, fun j _ _ _ => ?_⟩
    ·have := h2 k; push_cast; omega
    ·have := h2 (cl t j).a.toNat; push_cast; omega)
   have hl := lsK_len (t := t) (P := P) p
   simp only [lsK]
   refine ⟨⟨by omega, hle⟩, fun i => ?_⟩
   rw [stL_get _ (by omega)]
   have := h2 i
   split
   ·exact ⟨by omega, hle⟩
   ·refine ⟨this.1, ?_⟩
    push_cast; omega
end Go.Am
namespace Go.Am
open Go.RowKit Go.Proofs
attribute [local irreducible] AWP zO Kt goK CallK zT zS SemF SemY Imp
set_option maxRecDepth 4000
set_option linter.unusedSimpArgs false
set_option linter.unusedVariables false
set_option maxHeartbeats 3200000
theorem least_c (t : Ann) (P : List Int) (m : Nat) (ht : AnnOK t) (hP : P.length = t.reports.length) (hP0 : ∀ i, i < t.reports.length → 0 ≤ P.getD i 0) (hm : m ≤ 10) : zO Try.prog 60 [.agg (zJ t), sl P, .int .i64 m] (sl (lsL t P m)) := by
 have hr := ht.reports
 have hcl := ht.claims
 have hra := rapart_c t
 have hgp : max 1 t.rest = gpA t := rfl
 rw [hgp] at hra
 have hg : 1 ≤ gpA t ∧ gpA t ≤ 100000 := by unfold gpA; have := ht.rest; omega
 have hbd := lsK_bd ht hP0
 have n1 := fun (k : Nat) (hk : k < t.reports.length) K => show optK (nth (zM P) k) K = K (.int .i64 (P.getD k 0)) by rw [ints_nth (by omega)]; rfl
 have hf : lsL t P m = (lsK t P m).1 := rfl
 have hfl := lsK_len (t := t) (P := P) m
 rw [hf]
 simp only [zJ, slR, slC, sl, hP, hfl] at hra ⊢
 (refine zG (fun w args => Try.call60 ..) Try.func60 rfl (fun w0 m0 wz => ?_); simp only [Try.ntmps60, Try.results60, zP, zR, zV, zW, slR, slC, zJ, sl, List.toList_toArray, List.cons_append, List.nil_append, List.length_cons, List.length_nil, Nat.reduceAdd, Nat.reduceSub])
 (repeat' (first
 | ((omega))
 | ((exfalso; omega))
 | refine zC ?_
 | refine kt ?_
 | refine And.intro ?_ ?_
 | ((first | refine awp_stp rfl ?_ | refine awp_draw (by kernel_rfl) (by kernel_rfl) ?_ | refine Imp.le2 ?_ | refine go_split (fun _h => ?_) (fun _h => ?_)) <;> try simp (maxSteps := 4000000) only [go_sem, seval, ↓rep_ints])
 | intro _h
 | refine zA ?_
 | refine zB ?_
 | refine zF ?_ ?_
 | (show zE _ _ = true; kernel_rfl)
 | (show zD _ _ = true; kernel_rfl)
 | (omega)))
 refine zQ m (fun p => ⟨mkT 129 [(1, .psl false t.reports.length (zM P)), (2, .int .i64 m), (3, .ptr 0 0 0), (7, .int .i64 t.reports.length), (8, .osl 1 0 0 t.reports.length), (9, .int .i64 (lsK t P p).2), (10, .int .i64 p)], [some (.cells 25 1 0 [.psl false t.reports.length (recs zV t.reports), .psl false t.claims.length (recs zW t.claims), .int .i64 t.rest]), some (.cells 3 1 0 (zM (lsK t P p).1))], []⟩) (.le2 ?_) ?_
 ·simp only [lsK]
  rw [replicate_tab]
  simp (maxSteps := 4000000) only [go_sem, seval]
  all_goals first | rfl | trace_state
 ·intro p hp
  obtain ⟨hb1, hb2⟩ := hbd p
  have hl := lsK_len (t := t) (P := P) p
  rcases Nat.lt_or_eq_of_le hp with hp1 | hp1
  ·have hst : lsK t P (p + 1) = (stL P (lsK t P p).1 (p : Int) (dyL t P (lsK t P p).1 (p : Int) (lsK t P p).2 t.reports.length) t.reports.length, dyL t P (lsK t P p).1 (p : Int) (lsK t P p).2 t.reports.length) := rfl
   rw [hst]
   clear hst
   generalize lsK t P p = F at *
   obtain ⟨D, b⟩ := F
   simp only at hb1 hb2 hl ⊢
   have n2 := fun (k : Nat) (hk : k < t.reports.length) K => show optK (nth (zM D) k) K = K (.int .i64 (D.getD k 0)) by rw [ints_nth (by omega)]; rfl
   have hlo : ∀ i, i < t.reports.length → 0 ≤ (t.reports.getD i default).lo ∧ (t.reports.getD i default).lo ≤ 100000 := fun i hi => by
    have hq : _ ∧ 0 ≤ (rp t i).lo ∧ (rp t i).lo ≤ (rp t i).hi ∧ (rp t i).hi ≤ 100000 := ht.rpt i hi
    have e : (rp t i).lo = (t.reports.getD i default).lo := rfl
    omega
   have hdyB : ∀ i, b ≤ dyL t P D (p : Int) b i ∧ (i ≤ t.reports.length → dyL t P D (p : Int) b i ≤ 300000 * (p : Int) + 300000) := fun i => ⟨(dyL_ge (t := t) (P := P) (D := D) (p := (p : Int)) (b := b) i).1, fun hi => dyL_le (by omega) i fun k hk _ => by
    have h1 := hlo k (by omega)
    have e : (rp t k).lo = (t.reports.getD k default).lo := rfl
    refine ⟨by omega, fun q _ _ _ => ?_, fun j _ _ _ => ?_⟩
    ·have := hb2 q; omega
    ·have := hb2 (cl t j).a.toNat; omega⟩
   simp (maxSteps := 4000000) only [go_sem, seval]
   (repeat' (first
 | ((omega))
 | ((exfalso; omega))
 | refine zC ?_
 | refine kt ?_
 | refine And.intro ?_ ?_
 | ((first | refine awp_stp rfl ?_ | refine awp_draw (by kernel_rfl) (by kernel_rfl) ?_ | refine Imp.le2 ?_ | refine go_split (fun _h => ?_) (fun _h => ?_)) <;> try simp (maxSteps := 4000000) only [go_sem, seval])
 | intro _h
 | refine zA ?_
 | refine zB ?_
 | refine zF ?_ ?_
 | (show zE _ _ = true; kernel_rfl)
 | (show zD _ _ = true; kernel_rfl)
 | (omega)))
   refine zQ t.reports.length (fun i => ⟨mkT 129 [(1, .psl false t.reports.length (zM P)), (2, .int .i64 m), (3, .ptr 0 0 0), (7, .int .i64 t.reports.length), (8, .osl 1 0 0 t.reports.length), (9, .int .i64 b), (10, .int .i64 p), (11, .int .i64 (dyL t P D (p : Int) b i)), (12, .int .i64 i)], [some (.cells 25 1 0 [.psl false t.reports.length (recs zV t.reports), .psl false t.claims.length (recs zW t.claims), .int .i64 t.rest]), some (.cells 3 1 0 (zM D))], []⟩) (.le2 ?_) ?_
   ·simp only [dyL]
    simp (maxSteps := 4000000) only [go_sem, seval]
    all_goals first | rfl | trace_state
   ·intro i hi
    rcases Nat.lt_or_eq_of_le hi with hi1 | hi1
    ·have hst : dyL t P D (p : Int) b (i + 1) = if P.getD i 0 = (p : Int) then in2 t D i (in1 t P D (p : Int) i (max (dyL t P D (p : Int) b i) (t.reports.getD i default).lo) t.reports.length) t.claims.length else dyL t P D (p : Int) b i := rfl
     rw [hst]
     clear hst
     have hdb := hdyB i
     have nI := n1 i hi1
     have hli := hlo i hi1
     generalize dyL t P D (p : Int) b i = d at *
     by_cases hpi : P.getD i 0 = (p : Int)
     ·rw [if_pos hpi]
      rw [hpi] at nI
      simp (maxSteps := 4000000) only [go_sem, seval]
      (repeat' (first
 | ((omega))
 | ((exfalso; omega))
 | refine zC ?_
 | refine kt ?_
 | refine And.intro ?_ ?_
 | ((first | refine awp_stp rfl ?_ | refine awp_draw (by kernel_rfl) (by kernel_rfl) ?_ | refine Imp.le2 ?_ | refine go_split (fun _h => ?_) (fun _h => ?_)) <;> try simp (maxSteps := 4000000) only [go_sem, seval, nI])
 | intro _h
 | refine zA ?_
 | refine zB ?_
 | refine zF ?_ ?_
 | (show zE _ _ = true; kernel_rfl)
 | (show zD _ _ = true; kernel_rfl)
 | (omega)))
      obtain ⟨d1, hd1⟩ : ∃ d1, max d (t.reports.getD i default).lo = d1 := ⟨_, rfl⟩
      rw [hd1]
      have hd1b : 0 ≤ d1 ∧ d1 ≤ 300000 * (p : Int) + 300000 := by omega
      clear hd1 hdb
      have h1b := fun q => in1_ge (t := t) (P := P) (D := D) (p := (p : Int)) (d := d1) (i := i) q
      have h1c := fun q => in1_le (t := t) (P := P) (D := D) (p := (p : Int)) (d := d1) (i := i) (B := 300000 * (p : Int) + 300000) hd1b.2 q (fun k _ _ _ => by have := hb2 k; omega)
      refine zQ t.reports.length (fun k => ⟨mkT 129 [(1, .psl false t.reports.length (zM P)), (2, .int .i64 m), (3, .ptr 0 0 0), (7, .int .i64 t.reports.length), (8, .osl 1 0 0 t.reports.length), (9, .int .i64 b), (10, .int .i64 p), (11, .int .i64 (in1 t P D (p : Int) i d1 k)), (12, .int .i64 i), (13, .int .i64 k)], [some (.cells 25 1 0 [.psl false t.reports.length (recs zV t.reports), .psl false t.claims.length (recs zW t.claims), .int .i64 t.rest]), some (.cells 3 1 0 (zM D))], []⟩) (.le2 ?_) ?_
      ·simp only [in1]
       simp (maxSteps := 4000000) only [go_sem, seval]
       all_goals first | rfl | trace_state
      ·intro k hk
       have hq1 := (h1b k).1
       have hq2 := h1c k
       rcases Nat.lt_or_eq_of_le hk with hk1 | hk1
       ·have hst : in1 t P D (p : Int) i d1 (k + 1) = if P.getD k 0 < (p : Int) ∧ (t.reports.getD k default).slope = (t.reports.getD i default).slope then max (in1 t P D (p : Int) i d1 k) (D.getD k 0 + gpA t) else in1 t P D (p : Int) i d1 k := rfl
        rw [hst]
        clear hst
        have nK := n1 k hk1
        have nD := n2 k hk1
        have hDk := hb2 k
        generalize in1 t P D (p : Int) i d1 k = d2 at *
        generalize gpA t = G at *
        generalize P.getD k 0 = pk at *
        generalize D.getD k 0 = dk at *
        by_cases hc : pk < (p : Int) ∧ (t.reports.getD k default).slope = (t.reports.getD i default).slope
        ·rw [if_pos hc]
         simp (maxSteps := 4000000) only [go_sem, seval]
         (repeat' (first
 | ((omega))
 | ((exfalso; omega))
 | refine zC ?_
 | refine kt ?_
 | refine And.intro ?_ ?_
 | ((first | refine awp_stp rfl ?_ | refine awp_draw (by kernel_rfl) (by kernel_rfl) ?_ | refine Imp.le2 ?_ | refine callK_of (hra) ?_ | refine go_split (fun _h => ?_) (fun _h => ?_)) <;> try simp (maxSteps := 4000000) only [go_sem, seval, nK, nD])
 | intro _h
 | refine zA ?_
 | refine zB ?_
 | refine zF ?_ ?_
 | (show zE _ _ = true; kernel_rfl)
 | (show zD _ _ = true; kernel_rfl)
 | (omega)))
         all_goals trace_state
        ·rw [if_neg hc]
         simp (maxSteps := 4000000) only [go_sem, seval]
         (repeat' (first
 | ((omega))
 | ((exfalso; omega))
 | refine zC ?_
 | refine kt ?_
 | refine And.intro ?_ ?_
 | ((first | refine awp_stp rfl ?_ | refine awp_draw (by kernel_rfl) (by kernel_rfl) ?_ | refine Imp.le2 ?_ | refine callK_of (hra) ?_ | refine go_split (fun _h => ?_) (fun _h => ?_)) <;> try simp (maxSteps := 4000000) only [go_sem, seval, nK, nD])
 | intro _h
 | refine zA ?_
 | refine zB ?_
 | refine zF ?_ ?_
 | (show zE _ _ = true; kernel_rfl)
 | (show zD _ _ = true; kernel_rfl)
 | (omega)))
         all_goals trace_state
       ·subst hk1
        simp (maxSteps := 4000000) only [go_sem, seval]
        (repeat' (first
 | ((omega))
 | ((exfalso; omega))
 | refine zC ?_
 | refine kt ?_
 | refine And.intro ?_ ?_
 | ((first | refine awp_stp rfl ?_ | refine awp_draw (by kernel_rfl) (by kernel_rfl) ?_ | refine Imp.le2 ?_ | refine go_split (fun _h => ?_) (fun _h => ?_)) <;> try simp (maxSteps := 4000000) only [go_sem, seval])
 | intro _h
 | refine zA ?_
 | refine zB ?_
 | refine zF ?_ ?_
 | (show zE _ _ = true; kernel_rfl)
 | (show zD _ _ = true; kernel_rfl)
 | (omega)))
        generalize in1 t P D (p : Int) i d1 t.reports.length = d2 at *
        have h2b := fun q => in2_ge (t := t) (D := D) (d := d2) (i := i) q
        have h2c := fun q => in2_le (t := t) (D := D) (d := d2) (i := i) (B := 300000 * (p : Int) + 300000) hq2 q (fun j _ _ _ => by have := hb2 (cl t j).a.toNat; omega)
        refine zQ t.claims.length (fun j => ⟨mkT 129 [(1, .psl false t.reports.length (zM P)), (2, .int .i64 m), (3, .ptr 0 0 0), (7, .int .i64 t.reports.length), (8, .osl 1 0 0 t.reports.length), (9, .int .i64 b), (10, .int .i64 p), (11, .int .i64 (in2 t D i d2 j)), (12, .int .i64 i), (14, .int .i64 j)], [some (.cells 25 1 0 [.psl false t.reports.length (recs zV t.reports), .psl false t.claims.length (recs zW t.claims), .int .i64 t.rest]), some (.cells 3 1 0 (zM D))], []⟩) (.le2 ?_) ?_
        ·simp only [in2]
         simp (maxSteps := 4000000) only [go_sem, seval]
         all_goals first | rfl | trace_state
        ·intro j hj
         have hr1 := (h2b j).1
         have hr2 := h2c j
         rcases Nat.lt_or_eq_of_le hj with hj1 | hj1
         ·have hst : in2 t D i d2 (j + 1) = if (t.claims.getD j default).kind = 0 ∧ (t.claims.getD j default).b = (i : Int) then max (in2 t D i d2 j) (D.getD (t.claims.getD j default).a.toNat 0 + 1) else in2 t D i d2 j := rfl
          rw [hst]
          clear hst
          have hc := ht.clm j hj1
          obtain ⟨kd, a, b', hcd⟩ : ∃ kd a b, t.claims.getD j default = ⟨kd, a, b⟩ := ⟨_, _, _, rfl⟩
          rw [hcd] at hc ⊢
          simp only at hc ⊢
          obtain ⟨a, rfl⟩ := Int.eq_ofNat_of_zero_le hc.2.1.1
          simp only [Int.toNat_natCast]
          have nA := n2 a (by omega)
          have hDa := hb2 a
          generalize in2 t D i d2 j = d3 at *
          generalize D.getD a 0 = da at *
          by_cases hc2 : kd = 0 ∧ b' = (i : Int)
          ·rw [if_pos hc2]
           simp (maxSteps := 4000000) only [go_sem, seval]
           (repeat' (first
 | ((omega))
 | ((exfalso; omega))
 | refine zC ?_
 | refine kt ?_
 | refine And.intro ?_ ?_
 | ((first | refine awp_stp rfl ?_ | refine awp_draw (by kernel_rfl) (by kernel_rfl) ?_ | refine Imp.le2 ?_ | refine go_split (fun _h => ?_) (fun _h => ?_)) <;> try simp (maxSteps := 4000000) only [go_sem, seval, hcd, nA])
 | intro _h
 | refine zA ?_
 | refine zB ?_
 | refine zF ?_ ?_
 | (show zE _ _ = true; kernel_rfl)
 | (show zD _ _ = true; kernel_rfl)
 | (omega)))
           all_goals trace_state
          ·rw [if_neg hc2]
           simp (maxSteps := 4000000) only [go_sem, seval]
           (repeat' (first
 | ((omega))
 | ((exfalso; omega))
 | refine zC ?_
 | refine kt ?_
 | refine And.intro ?_ ?_
 | ((first | refine awp_stp rfl ?_ | refine awp_draw (by kernel_rfl) (by kernel_rfl) ?_ | refine Imp.le2 ?_ | refine go_split (fun _h => ?_) (fun _h => ?_)) <;> try simp (maxSteps := 4000000) only [go_sem, seval, hcd, nA])
 | intro _h
 | refine zA ?_
 | refine zB ?_
 | refine zF ?_ ?_
 | (show zE _ _ = true; kernel_rfl)
 | (show zD _ _ = true; kernel_rfl)
 | (omega)))
           all_goals trace_state
         ·subst hj1
          simp (maxSteps := 4000000) only [go_sem, seval]
          (repeat' (first
 | ((omega))
 | ((exfalso; omega))
 | refine zC ?_
 | refine kt ?_
 | refine And.intro ?_ ?_
 | ((first | refine awp_stp rfl ?_ | refine awp_draw (by kernel_rfl) (by kernel_rfl) ?_ | refine Imp.le2 ?_ | refine go_split (fun _h => ?_) (fun _h => ?_)) <;> try simp (maxSteps := 4000000) only [go_sem, seval])
 | intro _h
 | refine zA ?_
 | refine zB ?_
 | refine zF ?_ ?_
 | (show zE _ _ = true; kernel_rfl)
 | (show zD _ _ = true; kernel_rfl)
 | (omega)))
          all_goals trace_state
     ·rw [if_neg hpi]
      generalize P.getD i 0 = pi at *
      simp (maxSteps := 4000000) only [go_sem, seval]
      (repeat' (first
 | ((omega))
 | ((exfalso; omega))
 | refine zC ?_
 | refine kt ?_
 | refine And.intro ?_ ?_
 | ((first | refine awp_stp rfl ?_ | refine awp_draw (by kernel_rfl) (by kernel_rfl) ?_ | refine Imp.le2 ?_ | refine go_split (fun _h => ?_) (fun _h => ?_)) <;> try simp (maxSteps := 4000000) only [go_sem, seval, nI])
 | intro _h
 | refine zA ?_
 | refine zB ?_
 | refine zF ?_ ?_
 | (show zE _ _ = true; kernel_rfl)
 | (show zD _ _ = true; kernel_rfl)
 | (omega)))
      all_goals trace_state
    ·subst hi1
     have hdb := hdyB t.reports.length
     generalize dyL t P D (p : Int) b t.reports.length = d at *
     simp (maxSteps := 4000000) only [go_sem, seval]
     (repeat' (first
 | ((omega))
 | ((exfalso; omega))
 | refine zC ?_
 | refine kt ?_
 | refine And.intro ?_ ?_
 | ((first | refine awp_stp rfl ?_ | refine awp_draw (by kernel_rfl) (by kernel_rfl) ?_ | refine Imp.le2 ?_ | refine go_split (fun _h => ?_) (fun _h => ?_)) <;> try simp (maxSteps := 4000000) only [go_sem, seval])
 | intro _h
 | refine zA ?_
 | refine zB ?_
 | refine zF ?_ ?_
 | (show zE _ _ = true; kernel_rfl)
 | (show zD _ _ = true; kernel_rfl)
 | (omega)))
     refine zQ t.reports.length (fun i => ⟨mkT 129 [(1, .psl false t.reports.length (zM P)), (2, .int .i64 m), (3, .ptr 0 0 0), (7, .int .i64 t.reports.length), (8, .osl 1 0 0 t.reports.length), (9, .int .i64 b), (10, .int .i64 p), (11, .int .i64 d), (16, .int .i64 i)], [some (.cells 25 1 0 [.psl false t.reports.length (recs zV t.reports), .psl false t.claims.length (recs zW t.claims), .int .i64 t.rest]), some (.cells 3 1 0 (zM (stL P D (p : Int) d i)))], []⟩) (.le2 ?_) ?_
     ·simp only [stL]
      simp (maxSteps := 4000000) only [go_sem, seval]
      all_goals first | rfl | trace_state
     ·intro i hi
      rcases Nat.lt_or_eq_of_le hi with hi1 | hi1
      ·have hst : stL P D (p : Int) d (i + 1) = if P.getD i 0 = (p : Int) then isp (stL P D (p : Int) d i) i d else stL P D (p : Int) d i := rfl
       rw [hst]
       clear hst
       have nI := n1 i hi1
       have hsl := stL_len (P := P) (D := D) (p := (p : Int)) (d := d) i (by omega)
       have hsi : (zM (stL P D (p : Int) d i)).length = t.reports.length := by rw [ints_length, hsl, hl]
       generalize stL P D (p : Int) d i = S at *
       generalize P.getD i 0 = pi at *
       by_cases hpi : pi = (p : Int)
       ·rw [if_pos hpi]
        simp (maxSteps := 4000000) only [go_sem, seval]
        (repeat' (first
 | ((omega))
 | ((exfalso; omega))
 | refine zC ?_
 | refine kt ?_
 | refine And.intro ?_ ?_
 | ((first | refine awp_stp rfl ?_ | refine awp_draw (by kernel_rfl) (by kernel_rfl) ?_ | refine Imp.le2 ?_ | refine go_split (fun _h => ?_) (fun _h => ?_)) <;> try simp (maxSteps := 4000000) only [go_sem, seval, nI, hsi])
 | intro _h
 | refine zA ?_
 | refine zB ?_
 | refine zF ?_ ?_
 | (show zE _ _ = true; kernel_rfl)
 | (show zD _ _ = true; kernel_rfl)
 | (omega)))
        all_goals trace_state
       ·rw [if_neg hpi]
        simp (maxSteps := 4000000) only [go_sem, seval]
        (repeat' (first
 | ((omega))
 | ((exfalso; omega))
 | refine zC ?_
 | refine kt ?_
 | refine And.intro ?_ ?_
 | ((first | refine awp_stp rfl ?_ | refine awp_draw (by kernel_rfl) (by kernel_rfl) ?_ | refine Imp.le2 ?_ | refine go_split (fun _h => ?_) (fun _h => ?_)) <;> try simp (maxSteps := 4000000) only [go_sem, seval, nI, hsi])
 | intro _h
 | refine zA ?_
 | refine zB ?_
 | refine zF ?_ ?_
 | (show zE _ _ = true; kernel_rfl)
 | (show zD _ _ = true; kernel_rfl)
 | (omega)))
        all_goals trace_state
      ·subst hi1
       simp (maxSteps := 4000000) only [go_sem, seval]
       (repeat' (first
 | ((omega))
 | ((exfalso; omega))
 | refine zC ?_
 | refine kt ?_
 | refine And.intro ?_ ?_
 | ((first | refine awp_stp rfl ?_ | refine awp_draw (by kernel_rfl) (by kernel_rfl) ?_ | refine Imp.le2 ?_ | refine go_split (fun _h => ?_) (fun _h => ?_)) <;> try simp (maxSteps := 4000000) only [go_sem, seval])
 | intro _h
 | refine zA ?_
 | refine zB ?_
 | refine zF ?_ ?_
 | (show zE _ _ = true; kernel_rfl)
 | (show zD _ _ = true; kernel_rfl)
 | (omega)))
       all_goals trace_state
  ·subst hp1
   generalize lsK t P p = F at *
   obtain ⟨D, b⟩ := F
   simp (maxSteps := 4000000) only [go_sem, seval]
   (repeat' (first
 | (refine awp_frz (c := .region 30 _ _) 1 rfl (by simp (maxSteps := 4000000) only [go_sem, seval]) (fun _ => rfl) ?_; simp only [frz, fzl, fz2, fz1, fz0, fzH, fzHs, fzO, fzB, List.map_cons, List.map_nil, if_true, if_false, reduceIte, Nat.reduceEqDiff, Nat.reduceAdd, Nat.succ_ne_self, Nat.zero_ne_one, Nat.one_ne_zero, reduceCtorEq, and_self])
 | ((omega))
 | ((exfalso; omega))
 | refine zC ?_
 | refine kt ?_
 | refine And.intro ?_ ?_
 | ((first | refine awp_stp rfl ?_ | refine awp_draw (by kernel_rfl) (by kernel_rfl) ?_ | refine Imp.le2 ?_ | refine go_split (fun _h => ?_) (fun _h => ?_)) <;> try simp (maxSteps := 4000000) only [go_sem, seval])
 | intro _h
 | refine zA ?_
 | refine zB ?_
 | refine zF ?_ ?_
 | (show zE _ _ = true; kernel_rfl)
 | (show zD _ _ = true; kernel_rfl)
 | (omega)))
   all_goals trace_state
end Go.Am
namespace Go.Am
open Go.RowKit Go.Proofs
attribute [local irreducible] AWP zO Kt goK CallK zT zS SemF SemY Imp
set_option maxRecDepth 4000
set_option linter.unusedSimpArgs false
set_option linter.unusedVariables false
set_option maxHeartbeats 3200000
section
variable {t : Ann} {P : List Int}
theorem gn1_le {D : List Int} {p d : Int} {i : Nat} : ∀ n, gn1 t P D p i d n ≤ d
 | 0 => Int.le_refl _
 | n + 1 => by
   have ih := gn1_le (D := D) (p := p) (d := d) (i := i) n
   simp only [gn1]; split <;> omega
theorem gn1_lo {D : List Int} {p d L : Int} {i : Nat} (hd : L ≤ d) (h : ∀ k, L ≤ D.getD k 0 - gpA t) : ∀ n, L ≤ gn1 t P D p i d n
 | 0 => hd
 | n + 1 => by
   have ih := gn1_lo (p := p) (i := i) hd h n
   have := h n
   simp only [gn1]; split <;> omega
theorem gn2_le {D : List Int} {d : Int} {i : Nat} : ∀ n, gn2 t D i d n ≤ d
 | 0 => Int.le_refl _
 | n + 1 => by
   have ih := gn2_le (D := D) (d := d) (i := i) n
   simp only [gn2]; split <;> omega
theorem gn2_lo {D : List Int} {d L : Int} {i : Nat} (hd : L ≤ d) (h : ∀ k, L ≤ D.getD k 0 - 1) : ∀ n, L ≤ gn2 t D i d n
 | 0 => hd
 | n + 1 => by
   have ih := gn2_lo (i := i) hd h n
   have := h (cl t n).b.toNat
   simp only [gn2]; split <;> omega
theorem dyG_le {D : List Int} {p b : Int} : ∀ n, dyG t P D p b n ≤ b
 | 0 => Int.le_refl _
 | n + 1 => by
   have ih := dyG_le (D := D) (p := p) (b := b) n
   have h1 := gn1_le (t := t) (P := P) (D := D) (p := p) (i := n) (d := min (dyG t P D p b n) (rp t n).hi) t.reports.length
   have h2 := gn2_le (t := t) (D := D) (i := n) (d := gn1 t P D p n (min (dyG t P D p b n) (rp t n).hi) t.reports.length) t.claims.length
   simp only [dyG]; split <;> omega
theorem dyG_lo {D : List Int} {p b L : Int} (hb : L ≤ b) (h1 : ∀ k, L ≤ D.getD k 0 - gpA t) (h2 : ∀ k, L ≤ D.getD k 0 - 1) : ∀ n, (∀ i, i < n → L ≤ (rp t i).hi) → L ≤ dyG t P D p b n
 | 0, _ => hb
 | n + 1, h3 => by
   have ih := dyG_lo (p := p) hb h1 h2 n fun i hi => h3 i (by omega)
   have := h3 n (by omega)
   simp only [dyG]
   split
   ·exact gn2_lo (gn1_lo (by omega) h1 _) h2 _
   ·exact ih
theorem gsK_bd {m : Nat} (ht : AnnOK t) : ∀ (p : Nat), (-300000 * (p : Int) ≤ (gsK t P m p).2 ∧ (gsK t P m p).2 ≤ 100000) ∧ ∀ i, -300000 * (p : Int) ≤ (gsK t P m p).1.getD i 0 ∧ (gsK t P m p).1.getD i 0 ≤ 100000
 | 0 => ⟨by simp [gsK], fun i => by
     have : (gsK t P m 0).1.getD i 0 = 0 := by
      simp only [gsK]; rw [List.getD_eq_getElem?_getD, List.getElem?_replicate]; split <;> rfl
     rw [this]; omega⟩
 | p + 1 => by
   obtain ⟨h1, h2⟩ := gsK_bd (m := m) ht p
   have hg : 1 ≤ gpA t ∧ gpA t ≤ 100000 := by unfold gpA; have := ht.rest; omega
   have hle := dyG_le (t := t) (P := P) (D := (gsK t P m p).1) (p := (m : Int) - 1 - p) (b := (gsK t P m p).2) t.reports.length
   have hlo := dyG_lo (t := t) (P := P) (D := (gsK t P m p).1) (p := (m : Int) - 1 - p) (b := (gsK t P m p).2) (L := -300000 * ((p + 1 : Nat) : Int)) (by push_cast; omega) (fun k => by have := h2 k; push_cast; omega) (fun k => by have := h2 k; push_cast; omega) t.reports.length (fun i hi => by
    have hl : _ ∧ 0 ≤ (rp t i).lo ∧ (rp t i).lo ≤ (rp t i).hi ∧ (rp t i).hi ≤ 100000 := ht.rpt i hi
    push_cast; omega)
   have hl := gsK_len (t := t) (P := P) (m := m) p
   simp only [gsK]
   refine ⟨⟨hlo, by omega⟩, fun i => ?_⟩
   rw [stL_get _ (by omega)]
   have := h2 i
   split
   ·exact ⟨hlo, by omega⟩
   ·refine ⟨?_, this.2⟩
    push_cast; omega
end
theorem greatest_c (t : Ann) (P : List Int) (m : Nat) (ht : AnnOK t) (hP : P.length = t.reports.length) (hm : m ≤ 10) : zO Try.prog 61 [.agg (zJ t), sl P, .int .i64 m] (sl (grL t P m)) := by
 have hr := ht.reports
 have hcl := ht.claims
 have hra := rapart_c t
 have hgp : max 1 t.rest = gpA t := rfl
 rw [hgp] at hra
 have hg : 1 ≤ gpA t ∧ gpA t ≤ 100000 := by unfold gpA; have := ht.rest; omega
 have hbd := gsK_bd (P := P) (m := m) ht
 have n1 := fun (k : Nat) (hk : k < t.reports.length) K => show optK (nth (zM P) k) K = K (.int .i64 (P.getD k 0)) by rw [ints_nth (by omega)]; rfl
 have hf : grL t P m = (gsK t P m m).1 := rfl
 have hfl := gsK_len (t := t) (P := P) (m := m) m
 rw [hf]
 simp only [zJ, slR, slC, sl, hP, hfl] at hra ⊢
 (refine zG (fun w args => Try.call61 ..) Try.func61 rfl (fun w0 m0 wz => ?_); simp only [Try.ntmps61, Try.results61, zP, zR, zV, zW, slR, slC, zJ, sl, List.toList_toArray, List.cons_append, List.nil_append, List.length_cons, List.length_nil, Nat.reduceAdd, Nat.reduceSub])
 (repeat' (first
 | ((omega))
 | ((exfalso; omega))
 | refine zC ?_
 | refine kt ?_
 | refine And.intro ?_ ?_
 | ((first | refine awp_stp rfl ?_ | refine awp_draw (by kernel_rfl) (by kernel_rfl) ?_ | refine Imp.le2 ?_ | refine go_split (fun _h => ?_) (fun _h => ?_)) <;> try simp (maxSteps := 4000000) only [go_sem, seval, ↓rep_ints])
 | intro _h
 | refine zA ?_
 | refine zB ?_
 | refine zF ?_ ?_
 | (show zE _ _ = true; kernel_rfl)
 | (show zD _ _ = true; kernel_rfl)
 | (omega)))
 refine zQ m (fun p => ⟨mkT 130 [(1, .psl false t.reports.length (zM P)), (2, .int .i64 m), (3, .ptr 0 0 0), (7, .int .i64 t.reports.length), (8, .osl 1 0 0 t.reports.length), (9, .int .i64 (gsK t P m p).2), (10, .int .i64 ((m : Int) - 1 - p))], [some (.cells 25 1 0 [.psl false t.reports.length (recs zV t.reports), .psl false t.claims.length (recs zW t.claims), .int .i64 t.rest]), some (.cells 3 1 0 (zM (gsK t P m p).1))], []⟩) (.le2 ?_) ?_
 ·simp only [gsK]
  rw [replicate_tab]
  simp (maxSteps := 4000000) only [go_sem, seval]
  all_goals first | rfl | omega | (refine ⟨?_, ?_⟩ <;> first | rfl | omega) | trace_state
 ·intro p hp
  obtain ⟨hb1, hb2⟩ := hbd p
  have hl := gsK_len (t := t) (P := P) (m := m) p
  rcases Nat.lt_or_eq_of_le hp with hp1 | hp1
  ·have hst : gsK t P m (p + 1) = (stL P (gsK t P m p).1 ((m : Int) - 1 - p) (dyG t P (gsK t P m p).1 ((m : Int) - 1 - p) (gsK t P m p).2 t.reports.length) t.reports.length, dyG t P (gsK t P m p).1 ((m : Int) - 1 - p) (gsK t P m p).2 t.reports.length) := rfl
   rw [hst]
   clear hst
   generalize gsK t P m p = F at *
   obtain ⟨D, b⟩ := F
   simp only at hb1 hb2 hl ⊢
   have n2 := fun (k : Nat) (hk : k < t.reports.length) K => show optK (nth (zM D) k) K = K (.int .i64 (D.getD k 0)) by rw [ints_nth (by omega)]; rfl
   have hlo : ∀ i, i < t.reports.length → 0 ≤ (t.reports.getD i default).hi ∧ (t.reports.getD i default).hi ≤ 100000 := fun i hi => by
    have hq : _ ∧ 0 ≤ (rp t i).lo ∧ (rp t i).lo ≤ (rp t i).hi ∧ (rp t i).hi ≤ 100000 := ht.rpt i hi
    have e : (rp t i).hi = (t.reports.getD i default).hi := rfl
    omega
   have hdyB : ∀ i, dyG t P D ((m : Int) - 1 - p) b i ≤ b ∧ (i ≤ t.reports.length → -300000 * (p : Int) - 300000 ≤ dyG t P D ((m : Int) - 1 - p) b i) := fun i => ⟨dyG_le i, fun hi => dyG_lo (by omega) (fun k => by have := hb2 k; omega) (fun k => by have := hb2 k; omega) i (fun k hk => by
    have h1 := hlo k (by omega)
    have e : (rp t k).hi = (t.reports.getD k default).hi := rfl
    omega)⟩
   simp (maxSteps := 4000000) only [go_sem, seval]
   (repeat' (first
 | ((omega))
 | ((exfalso; omega))
 | refine zC ?_
 | refine kt ?_
 | refine And.intro ?_ ?_
 | ((first | refine awp_stp rfl ?_ | refine awp_draw (by kernel_rfl) (by kernel_rfl) ?_ | refine Imp.le2 ?_ | refine go_split (fun _h => ?_) (fun _h => ?_)) <;> try simp (maxSteps := 4000000) only [go_sem, seval])
 | intro _h
 | refine zA ?_
 | refine zB ?_
 | refine zF ?_ ?_
 | (show zE _ _ = true; kernel_rfl)
 | (show zD _ _ = true; kernel_rfl)
 | (omega)))
   refine zQ t.reports.length (fun i => ⟨mkT 130 [(1, .psl false t.reports.length (zM P)), (2, .int .i64 m), (3, .ptr 0 0 0), (7, .int .i64 t.reports.length), (8, .osl 1 0 0 t.reports.length), (9, .int .i64 b), (10, .int .i64 ((m : Int) - 1 - p)), (11, .int .i64 (dyG t P D ((m : Int) - 1 - p) b i)), (12, .int .i64 i)], [some (.cells 25 1 0 [.psl false t.reports.length (recs zV t.reports), .psl false t.claims.length (recs zW t.claims), .int .i64 t.rest]), some (.cells 3 1 0 (zM D))], []⟩) (.le2 ?_) ?_
   ·simp only [dyG]
    simp (maxSteps := 4000000) only [go_sem, seval]
    all_goals first | rfl | trace_state
   ·intro i hi
    rcases Nat.lt_or_eq_of_le hi with hi1 | hi1
    ·have hst : dyG t P D ((m : Int) - 1 - p) b (i + 1) = if P.getD i 0 = ((m : Int) - 1 - p) then gn2 t D i (gn1 t P D ((m : Int) - 1 - p) i (min (dyG t P D ((m : Int) - 1 - p) b i) (t.reports.getD i default).hi) t.reports.length) t.claims.length else dyG t P D ((m : Int) - 1 - p) b i := rfl
     rw [hst]
     clear hst
     have hdb := hdyB i
     have nI := n1 i hi1
     have hli := hlo i hi1
     generalize dyG t P D ((m : Int) - 1 - p) b i = d at *
     by_cases hpi : P.getD i 0 = ((m : Int) - 1 - p)
     ·rw [if_pos hpi]
      rw [hpi] at nI
      simp (maxSteps := 4000000) only [go_sem, seval]
      (repeat' (first
 | ((omega))
 | ((exfalso; omega))
 | refine zC ?_
 | refine kt ?_
 | refine And.intro ?_ ?_
 | ((first | refine awp_stp rfl ?_ | refine awp_draw (by kernel_rfl) (by kernel_rfl) ?_ | refine Imp.le2 ?_ | refine go_split (fun _h => ?_) (fun _h => ?_)) <;> try simp (maxSteps := 4000000) only [go_sem, seval, nI])
 | intro _h
 | refine zA ?_
 | refine zB ?_
 | refine zF ?_ ?_
 | (show zE _ _ = true; kernel_rfl)
 | (show zD _ _ = true; kernel_rfl)
 | (omega)))
      obtain ⟨d1, hd1⟩ : ∃ d1, min d (t.reports.getD i default).hi = d1 := ⟨_, rfl⟩
      rw [hd1]
      have hd1b : -300000 * (p : Int) - 300000 ≤ d1 ∧ d1 ≤ 100000 := by omega
      clear hd1 hdb
      have h1b := fun q => gn1_le (t := t) (P := P) (D := D) (p := ((m : Int) - 1 - p)) (d := d1) (i := i) q
      have h1c := fun q => gn1_lo (t := t) (P := P) (D := D) (p := ((m : Int) - 1 - p)) (d := d1) (i := i) (L := -300000 * (p : Int) - 300000) hd1b.1 (fun k => by have := hb2 k; omega) q
      refine zQ t.reports.length (fun k => ⟨mkT 130 [(1, .psl false t.reports.length (zM P)), (2, .int .i64 m), (3, .ptr 0 0 0), (7, .int .i64 t.reports.length), (8, .osl 1 0 0 t.reports.length), (9, .int .i64 b), (10, .int .i64 ((m : Int) - 1 - p)), (11, .int .i64 (gn1 t P D ((m : Int) - 1 - p) i d1 k)), (12, .int .i64 i), (13, .int .i64 k)], [some (.cells 25 1 0 [.psl false t.reports.length (recs zV t.reports), .psl false t.claims.length (recs zW t.claims), .int .i64 t.rest]), some (.cells 3 1 0 (zM D))], []⟩) (.le2 ?_) ?_
      ·simp only [gn1]
       simp (maxSteps := 4000000) only [go_sem, seval]
       all_goals first | rfl | trace_state
      ·intro k hk
       have hq1 := h1b k
       have hq2 := h1c k
       rcases Nat.lt_or_eq_of_le hk with hk1 | hk1
       ·have hst : gn1 t P D ((m : Int) - 1 - p) i d1 (k + 1) = if ((m : Int) - 1 - p) < P.getD k 0 ∧ (t.reports.getD k default).slope = (t.reports.getD i default).slope then min (gn1 t P D ((m : Int) - 1 - p) i d1 k) (D.getD k 0 - gpA t) else gn1 t P D ((m : Int) - 1 - p) i d1 k := rfl
        rw [hst]
        clear hst
        have nK := n1 k hk1
        have nD := n2 k hk1
        have hDk := hb2 k
        generalize gn1 t P D ((m : Int) - 1 - p) i d1 k = d2 at *
        generalize gpA t = G at *
        generalize P.getD k 0 = pk at *
        generalize D.getD k 0 = dk at *
        by_cases hc : ((m : Int) - 1 - p) < pk ∧ (t.reports.getD k default).slope = (t.reports.getD i default).slope
        ·rw [if_pos hc]
         simp (maxSteps := 4000000) only [go_sem, seval]
         (repeat' (first
 | ((omega))
 | ((exfalso; omega))
 | refine zC ?_
 | refine kt ?_
 | refine And.intro ?_ ?_
 | ((first | refine awp_stp rfl ?_ | refine awp_draw (by kernel_rfl) (by kernel_rfl) ?_ | refine Imp.le2 ?_ | refine callK_of (hra) ?_ | refine go_split (fun _h => ?_) (fun _h => ?_)) <;> try simp (maxSteps := 4000000) only [go_sem, seval, nK, nD])
 | intro _h
 | refine zA ?_
 | refine zB ?_
 | refine zF ?_ ?_
 | (show zE _ _ = true; kernel_rfl)
 | (show zD _ _ = true; kernel_rfl)
 | (omega)))
         all_goals trace_state
        ·rw [if_neg hc]
         simp (maxSteps := 4000000) only [go_sem, seval]
         (repeat' (first
 | ((omega))
 | ((exfalso; omega))
 | refine zC ?_
 | refine kt ?_
 | refine And.intro ?_ ?_
 | ((first | refine awp_stp rfl ?_ | refine awp_draw (by kernel_rfl) (by kernel_rfl) ?_ | refine Imp.le2 ?_ | refine callK_of (hra) ?_ | refine go_split (fun _h => ?_) (fun _h => ?_)) <;> try simp (maxSteps := 4000000) only [go_sem, seval, nK, nD])
 | intro _h
 | refine zA ?_
 | refine zB ?_
 | refine zF ?_ ?_
 | (show zE _ _ = true; kernel_rfl)
 | (show zD _ _ = true; kernel_rfl)
 | (omega)))
         all_goals trace_state
       ·subst hk1
        simp (maxSteps := 4000000) only [go_sem, seval]
        (repeat' (first
 | ((omega))
 | ((exfalso; omega))
 | refine zC ?_
 | refine kt ?_
 | refine And.intro ?_ ?_
 | ((first | refine awp_stp rfl ?_ | refine awp_draw (by kernel_rfl) (by kernel_rfl) ?_ | refine Imp.le2 ?_ | refine go_split (fun _h => ?_) (fun _h => ?_)) <;> try simp (maxSteps := 4000000) only [go_sem, seval])
 | intro _h
 | refine zA ?_
 | refine zB ?_
 | refine zF ?_ ?_
 | (show zE _ _ = true; kernel_rfl)
 | (show zD _ _ = true; kernel_rfl)
 | (omega)))
        generalize gn1 t P D ((m : Int) - 1 - p) i d1 t.reports.length = d2 at *
        have h2b := fun q => gn2_le (t := t) (D := D) (d := d2) (i := i) q
        have h2c := fun q => gn2_lo (t := t) (D := D) (d := d2) (i := i) (L := -300000 * (p : Int) - 300000) hq2 (fun k => by have := hb2 k; omega) q
        refine zQ t.claims.length (fun j => ⟨mkT 130 [(1, .psl false t.reports.length (zM P)), (2, .int .i64 m), (3, .ptr 0 0 0), (7, .int .i64 t.reports.length), (8, .osl 1 0 0 t.reports.length), (9, .int .i64 b), (10, .int .i64 ((m : Int) - 1 - p)), (11, .int .i64 (gn2 t D i d2 j)), (12, .int .i64 i), (14, .int .i64 j)], [some (.cells 25 1 0 [.psl false t.reports.length (recs zV t.reports), .psl false t.claims.length (recs zW t.claims), .int .i64 t.rest]), some (.cells 3 1 0 (zM D))], []⟩) (.le2 ?_) ?_
        ·simp only [gn2]
         simp (maxSteps := 4000000) only [go_sem, seval]
         all_goals first | rfl | trace_state
        ·intro j hj
         have hr1 := h2b j
         have hr2 := h2c j
         rcases Nat.lt_or_eq_of_le hj with hj1 | hj1
         ·have hst : gn2 t D i d2 (j + 1) = if (t.claims.getD j default).kind = 0 ∧ (t.claims.getD j default).a = (i : Int) then min (gn2 t D i d2 j) (D.getD (t.claims.getD j default).b.toNat 0 - 1) else gn2 t D i d2 j := rfl
          rw [hst]
          clear hst
          have hc := ht.clm j hj1
          obtain ⟨kd, a, b', hcd⟩ : ∃ kd a b, t.claims.getD j default = ⟨kd, a, b⟩ := ⟨_, _, _, rfl⟩
          rw [hcd] at hc ⊢
          simp only at hc ⊢
          obtain ⟨b', rfl⟩ := Int.eq_ofNat_of_zero_le hc.2.2.1
          simp only [Int.toNat_natCast]
          have nA := n2 b' (by omega)
          have hDa := hb2 b'
          generalize gn2 t D i d2 j = d3 at *
          generalize D.getD b' 0 = da at *
          by_cases hc2 : kd = 0 ∧ a = (i : Int)
          ·rw [if_pos hc2]
           simp (maxSteps := 4000000) only [go_sem, seval]
           (repeat' (first
 | ((omega))
 | ((exfalso; omega))
 | refine zC ?_
 | refine kt ?_
 | refine And.intro ?_ ?_
 | ((first | refine awp_stp rfl ?_ | refine awp_draw (by kernel_rfl) (by kernel_rfl) ?_ | refine Imp.le2 ?_ | refine go_split (fun _h => ?_) (fun _h => ?_)) <;> try simp (maxSteps := 4000000) only [go_sem, seval, hcd, nA])
 | intro _h
 | refine zA ?_
 | refine zB ?_
 | refine zF ?_ ?_
 | (show zE _ _ = true; kernel_rfl)
 | (show zD _ _ = true; kernel_rfl)
 | (omega)))
           all_goals trace_state
          ·rw [if_neg hc2]
           simp (maxSteps := 4000000) only [go_sem, seval]
           (repeat' (first
 | ((omega))
 | ((exfalso; omega))
 | refine zC ?_
 | refine kt ?_
 | refine And.intro ?_ ?_
 | ((first | refine awp_stp rfl ?_ | refine awp_draw (by kernel_rfl) (by kernel_rfl) ?_ | refine Imp.le2 ?_ | refine go_split (fun _h => ?_) (fun _h => ?_)) <;> try simp (maxSteps := 4000000) only [go_sem, seval, hcd, nA])
 | intro _h
 | refine zA ?_
 | refine zB ?_
 | refine zF ?_ ?_
 | (show zE _ _ = true; kernel_rfl)
 | (show zD _ _ = true; kernel_rfl)
 | (omega)))
           all_goals trace_state
         ·subst hj1
          simp (maxSteps := 4000000) only [go_sem, seval]
          (repeat' (first
 | ((omega))
 | ((exfalso; omega))
 | refine zC ?_
 | refine kt ?_
 | refine And.intro ?_ ?_
 | ((first | refine awp_stp rfl ?_ | refine awp_draw (by kernel_rfl) (by kernel_rfl) ?_ | refine Imp.le2 ?_ | refine go_split (fun _h => ?_) (fun _h => ?_)) <;> try simp (maxSteps := 4000000) only [go_sem, seval])
 | intro _h
 | refine zA ?_
 | refine zB ?_
 | refine zF ?_ ?_
 | (show zE _ _ = true; kernel_rfl)
 | (show zD _ _ = true; kernel_rfl)
 | (omega)))
          all_goals trace_state
     ·rw [if_neg hpi]
      generalize P.getD i 0 = pi at *
      simp (maxSteps := 4000000) only [go_sem, seval]
      (repeat' (first
 | ((omega))
 | ((exfalso; omega))
 | refine zC ?_
 | refine kt ?_
 | refine And.intro ?_ ?_
 | ((first | refine awp_stp rfl ?_ | refine awp_draw (by kernel_rfl) (by kernel_rfl) ?_ | refine Imp.le2 ?_ | refine go_split (fun _h => ?_) (fun _h => ?_)) <;> try simp (maxSteps := 4000000) only [go_sem, seval, nI])
 | intro _h
 | refine zA ?_
 | refine zB ?_
 | refine zF ?_ ?_
 | (show zE _ _ = true; kernel_rfl)
 | (show zD _ _ = true; kernel_rfl)
 | (omega)))
      all_goals trace_state
    ·subst hi1
     have hdb := hdyB t.reports.length
     generalize dyG t P D ((m : Int) - 1 - p) b t.reports.length = d at *
     simp (maxSteps := 4000000) only [go_sem, seval]
     (repeat' (first
 | ((omega))
 | ((exfalso; omega))
 | refine zC ?_
 | refine kt ?_
 | refine And.intro ?_ ?_
 | ((first | refine awp_stp rfl ?_ | refine awp_draw (by kernel_rfl) (by kernel_rfl) ?_ | refine Imp.le2 ?_ | refine go_split (fun _h => ?_) (fun _h => ?_)) <;> try simp (maxSteps := 4000000) only [go_sem, seval])
 | intro _h
 | refine zA ?_
 | refine zB ?_
 | refine zF ?_ ?_
 | (show zE _ _ = true; kernel_rfl)
 | (show zD _ _ = true; kernel_rfl)
 | (omega)))
     refine zQ t.reports.length (fun i => ⟨mkT 130 [(1, .psl false t.reports.length (zM P)), (2, .int .i64 m), (3, .ptr 0 0 0), (7, .int .i64 t.reports.length), (8, .osl 1 0 0 t.reports.length), (9, .int .i64 b), (10, .int .i64 ((m : Int) - 1 - p)), (11, .int .i64 d), (16, .int .i64 i)], [some (.cells 25 1 0 [.psl false t.reports.length (recs zV t.reports), .psl false t.claims.length (recs zW t.claims), .int .i64 t.rest]), some (.cells 3 1 0 (zM (stL P D ((m : Int) - 1 - p) d i)))], []⟩) (.le2 ?_) ?_
     ·simp only [stL]
      simp (maxSteps := 4000000) only [go_sem, seval]
      all_goals first | rfl | trace_state
     ·intro i hi
      rcases Nat.lt_or_eq_of_le hi with hi1 | hi1
      ·have hst : stL P D ((m : Int) - 1 - p) d (i + 1) = if P.getD i 0 = ((m : Int) - 1 - p) then isp (stL P D ((m : Int) - 1 - p) d i) i d else stL P D ((m : Int) - 1 - p) d i := rfl
       rw [hst]
       clear hst
       have nI := n1 i hi1
       have hsl := stL_len (P := P) (D := D) (p := ((m : Int) - 1 - p)) (d := d) i (by omega)
       have hsi : (zM (stL P D ((m : Int) - 1 - p) d i)).length = t.reports.length := by rw [ints_length, hsl, hl]
       generalize stL P D ((m : Int) - 1 - p) d i = S at *
       generalize P.getD i 0 = pi at *
       by_cases hpi : pi = ((m : Int) - 1 - p)
       ·rw [if_pos hpi]
        simp (maxSteps := 4000000) only [go_sem, seval]
        (repeat' (first
 | ((omega))
 | ((exfalso; omega))
 | refine zC ?_
 | refine kt ?_
 | refine And.intro ?_ ?_
 | ((first | refine awp_stp rfl ?_ | refine awp_draw (by kernel_rfl) (by kernel_rfl) ?_ | refine Imp.le2 ?_ | refine go_split (fun _h => ?_) (fun _h => ?_)) <;> try simp (maxSteps := 4000000) only [go_sem, seval, nI, hsi])
 | intro _h
 | refine zA ?_
 | refine zB ?_
 | refine zF ?_ ?_
 | (show zE _ _ = true; kernel_rfl)
 | (show zD _ _ = true; kernel_rfl)
 | (omega)))
        all_goals trace_state
       ·rw [if_neg hpi]
        simp (maxSteps := 4000000) only [go_sem, seval]
        (repeat' (first
 | ((omega))
 | ((exfalso; omega))
 | refine zC ?_
 | refine kt ?_
 | refine And.intro ?_ ?_
 | ((first | refine awp_stp rfl ?_ | refine awp_draw (by kernel_rfl) (by kernel_rfl) ?_ | refine Imp.le2 ?_ | refine go_split (fun _h => ?_) (fun _h => ?_)) <;> try simp (maxSteps := 4000000) only [go_sem, seval, nI, hsi])
 | intro _h
 | refine zA ?_
 | refine zB ?_
 | refine zF ?_ ?_
 | (show zE _ _ = true; kernel_rfl)
 | (show zD _ _ = true; kernel_rfl)
 | (omega)))
        all_goals trace_state
      ·subst hi1
       simp (maxSteps := 4000000) only [go_sem, seval]
       (repeat' (first
 | ((omega))
 | ((exfalso; omega))
 | refine zC ?_
 | refine kt ?_
 | refine And.intro ?_ ?_
 | ((first | refine awp_stp rfl ?_ | refine awp_draw (by kernel_rfl) (by kernel_rfl) ?_ | refine Imp.le2 ?_ | refine go_split (fun _h => ?_) (fun _h => ?_)) <;> try simp (maxSteps := 4000000) only [go_sem, seval])
 | intro _h
 | refine zA ?_
 | refine zB ?_
 | refine zF ?_ ?_
 | (show zE _ _ = true; kernel_rfl)
 | (show zD _ _ = true; kernel_rfl)
 | (omega)))
       all_goals trace_state
  ·subst hp1
   generalize gsK t P p p = F at *
   obtain ⟨D, b⟩ := F
   simp (maxSteps := 4000000) only [go_sem, seval]
   (repeat' (first
 | (refine awp_frz (c := .region 30 _ _) 1 rfl (by simp (maxSteps := 4000000) only [go_sem, seval]) (fun _ => rfl) ?_; simp only [frz, fzl, fz2, fz1, fz0, fzH, fzHs, fzO, fzB, List.map_cons, List.map_nil, if_true, if_false, reduceIte, Nat.reduceEqDiff, Nat.reduceAdd, Nat.succ_ne_self, Nat.zero_ne_one, Nat.one_ne_zero, reduceCtorEq, and_self])
 | ((omega))
 | ((exfalso; omega))
 | refine zC ?_
 | refine kt ?_
 | refine And.intro ?_ ?_
 | ((first | refine awp_stp rfl ?_ | refine awp_draw (by kernel_rfl) (by kernel_rfl) ?_ | refine Imp.le2 ?_ | refine go_split (fun _h => ?_) (fun _h => ?_)) <;> try simp (maxSteps := 4000000) only [go_sem, seval])
 | intro _h
 | refine zA ?_
 | refine zB ?_
 | refine zF ?_ ?_
 | (show zE _ _ = true; kernel_rfl)
 | (show zD _ _ = true; kernel_rfl)
 | (omega)))
   all_goals trace_state
end Go.Am
namespace Go.Am
open Go.RowKit
set_option linter.unusedSimpArgs false
set_option linter.unusedVariables false
theorem semF_take {P : Program} {f : FuncId} {ars : List AV} {t : TypeId} {sz g : Nat} {xs : List AV} {r : AV} (h : zO P f (fzl (fz2 0 g xs) ars) r) (hp : ∀ y ∈ xs, zI y = true) (hpu : ∀ x ∈ fzl (fz2 0 g xs) ars, pureA x = true) :
 SemF P f ars [some (.cells t sz g xs)] r [some (.cells t sz (g + 1) [])] := by
 refine ⟨h.1, fun {B} w0 m w vs hg hlen hrep => ?_⟩
 have hz : ∀ c, hget [none] c = none := fun c => by cases c <;> rfl
 have z : FzH (hget [some (.cells t sz g xs)]) (hget [none]) 0 g xs := ⟨rfl, fun c hc => by
  cases c with
  | zero => exact absurd rfl hc
  | succ c => rfl⟩
 have hg1 := good_frz hg z rfl hp
 have hm1 : ∀ b, killM m (notb 0) b = none := fun b => by
  cases hb : killM m (notb 0) b with
  | none => rfl
  | some l =>
    obtain ⟨k, hk⟩ := hg1.supp b l hb
    rw [hz] at hk; cases hk
 have har : ∀ j (a : j < (fzl (fz2 0 g xs) ars).length) (b : j < vs.length), PRep (Ok (killM m (notb 0)) w) w (fzl (fz2 0 g xs) ars)[j] vs[j] := fun j a b => by
  have a' : j < ars.length := by rw [fzl_len] at a; exact a
  have h1 := rep_fz2 hg z rfl hp (hrep j a' b)
  rw [← fzl_get (fz2 0 g xs) ars j a] at h1
  exact pure_prep h1 (hpu _ (List.getElem_mem _))
 refine (h.2 w vs (Ok (killM m (notb 0)) w) (fun c hc => hc.1) (by rw [fzl_len]; exact hlen) har).mono ?_
 rintro e w' ⟨v, rfl, hv, hb⟩
 obtain ⟨g1, e1⟩ := hg1.garbage hb
 refine ⟨v, killM m (notb 0), rfl, ⟨g1.below, g1.base, g1.inj, (fun b l hl => by rw [hm1] at hl; cases hl), fun b k hk => ?_, fun b st pend fn T ps asg body d hk => ?_, g1.fresh⟩, ⟨fun c hc => ?_, fun b t' sz' g' ys hk => ?_, fun b es hk => ?_, fun b o hk => ?_, fun b st pend fn T ps asg body d hk => ?_⟩, .pure (hv.mono (fun _ _ => rfl) (fun c hc => ?_))⟩
 ·cases b with
  | zero =>
    have : k = .cells t sz (g + 1) [] := (Option.some.inj hk).symm
    subst this
    exact .inl ⟨hm1 0, rfl⟩
  | succ b => cases hk
 ·cases b with
  | zero => cases hk
  | succ b => cases hk
 ·exact e1.ok c (un_kill hc)
 ·cases b with
  | zero =>
    cases hk
    exact ⟨g + 1, [], rfl, by omega, fun e => absurd e (by omega)⟩
  | succ b => cases hk
 ·cases b with
  | zero => cases hk
  | succ b => cases hk
 ·cases b with
  | zero => cases hk
  | succ b => cases hk
 ·cases b with
  | zero => cases hk
  | succ b => cases hk
 ·rcases hc with hc | hc
  ·exact ⟨Nat.lt_of_lt_of_le hc.1 hb.size, hc.2⟩
  ·refine ⟨hc.2, fun b l hl he => ?_, hg1.fresh _ (.inr hc.1)⟩
   rw [hm1] at hl; cases hl
end Go.Am
namespace Go.Am
open Go.RowKit Go.Proofs
attribute [local irreducible] AWP zO Kt goK CallK zT zS SemF SemY Imp
set_option maxRecDepth 4000
set_option linter.unusedSimpArgs false
set_option linter.unusedVariables false
set_option maxHeartbeats 6400000
structure RunT where
 place : List Int
 first : List Int
 last : List Int
instance : Inhabited RunT := ⟨⟨[], [], []⟩⟩
def runC (r : RunT) : List AV := [.psl false r.place.length (zM r.place), .psl false r.first.length (zM r.first), .psl false r.last.length (zM r.last)]
def slU (l : List RunT) : AV := .psl false l.length (recs runC l)
theorem run_3 : ∀ a : RunT, (runC a).length = 3 := fun _ => rfl
theorem pl_U {l : List RunT} : pureL (recs runC l) = True := eq_true (recs_pure fun s => by simp [pureL, runC, zI])
theorem lv_U {l : List RunT} {p : Nat → Bool} : (recs runC l).all (live2 p) = true := recs_live fun s => by simp [pureL, runC, zI]
theorem len_U {l : List RunT} : (recs runC l).length = l.length * 3 := recs_length run_3
theorem ren_U {σ : Nat → Nat} : ∀ {l : List RunT}, renL σ (recs runC l) = recs runC l
 | [] => rfl
 | x :: l => by
   have ih := ren_U (σ := σ) (l := l)
   have hc : recs runC (x :: l) = runC x ++ recs runC l := by simp [recs]
   rw [hc]
   simp only [runC, List.cons_append, List.nil_append, renL, ih, ren]
theorem refs_U {p : Nat → Prop} : ∀ {l : List RunT}, refsL p (recs runC l) = True
 | [] => rfl
 | x :: l => by
   have ih := refs_U (p := p) (l := l)
   have hc : recs runC (x :: l) = runC x ++ recs runC l := by simp [recs]
   rw [hc]
   simp only [runC, List.cons_append, List.nil_append, refsL, ih, refs, and_true]
theorem recs_U2 {a b : List RunT} : recs runC a ++ recs runC b = recs runC (a ++ b) := by simp [recs]
attribute [go_sem] pl_U lv_U len_U ren_U refs_U recs_U2
instance {l : List RunT} : Still (recs runC l) := ⟨fun y hy => by
 simp only [recs, List.mem_flatMap] at hy
 obtain ⟨h, _, hy⟩ := hy
 simp only [runC, List.mem_cons, List.not_mem_nil, or_false] at hy
 rcases hy with rfl | rfl | rfl <;> rfl⟩
def mxK (P : List Int) : Nat → Int
 | 0 => 0
 | k + 1 => max (mxK P k) (P.getD k 0 + 1)
def snK (P : List Int) (p : Nat) : Nat → Bool
 | 0 => false
 | k + 1 => snK P p k || decide (P.getD k 0 = (p : Int))
def mN (t : Ann) (P : List Int) : Nat := (mxK P t.reports.length).toNat
structure RunOK (t : Ann) (P : List Int) : Prop where
 seen : ∀ p, p < mN t P → snK P p t.reports.length = true
 fit : FitP t P
 hi : ∀ i, i < t.reports.length → (lsL t P (mN t P)).getD i 0 ≤ (rp t i).hi
open Classical in
noncomputable def runR (t : Ann) (P : List Int) : List RunT := if RunOK t P then [⟨P, lsL t P (mN t P), grL t P (mN t P)⟩] else []
noncomputable def runsF (t : Ann) : Nat → List Int → List RunT
 | 0, P => runR t P
 | f + 1, P => (List.range t.reports.length).flatMap fun (p : Nat) => runsF t f (P ++ [(p : Int)])
theorem mxK_bd {P : List Int} {n : Nat} (h : ∀ i, i < P.length → 0 ≤ P.getD i 0 ∧ P.getD i 0 < n) : ∀ k, k ≤ P.length → 0 ≤ mxK P k ∧ mxK P k ≤ n
 | 0, _ => by simp [mxK]
 | k + 1, hk => by
   have ih := mxK_bd h k (by omega)
   have := h k (by omega)
   simp only [mxK]; omega
theorem Run_leaf (t : Ann) (P : List Int) (ht : AnnOK t) (hP : P.length = t.reports.length) (hPr : ∀ i, i < P.length → 0 ≤ P.getD i 0 ∧ P.getD i 0 < t.reports.length) : zO Try.prog 22 [.agg (zJ t), sl P] (slU (runR t P)) := by
 have hr := ht.reports
 have hcl := ht.claims
 have hmb := mxK_bd hPr
 have hmn : mxK P t.reports.length = ((mN t P : Nat) : Int) := by
  have := (hmb t.reports.length (by omega)).1
  unfold mN; omega
 have hm10 : mN t P ≤ t.reports.length := by
  have := (hmb t.reports.length (by omega)).2
  omega
 have hfit := fits_c t P ht hP
 have hls := least_c t P (mN t P) ht hP (fun i hi => (hPr i (by omega)).1) (by omega)
 have hgr := greatest_c t P (mN t P) ht hP (by omega)
 have hll : (lsL t P (mN t P)).length = t.reports.length := lsK_len _
 have hgl : (grL t P (mN t P)).length = t.reports.length := gsK_len _
 have n1 := fun (k : Nat) (hk : k < t.reports.length) K => show optK (nth (zM P) k) K = K (.int .i64 (P.getD k 0)) by rw [ints_nth (by omega)]; rfl
 by_cases hk : RunOK t P
 ·have hR : runR t P = [⟨P, lsL t P (mN t P), grL t P (mN t P)⟩] := by unfold runR; rw [if_pos hk]
  obtain ⟨hseen, hf, hhi⟩ := hk
  rw [fitB_iff.2 hf] at hfit
  have hhi : ∀ i, i < t.reports.length → (lsL t P (mN t P)).getD i 0 ≤ (t.reports.getD i default).hi := hhi
  rw [hR]
  clear hR hf
  generalize lsL t P (mN t P) = F at *
  generalize grL t P (mN t P) = G at *
  generalize mN t P = m at *
  have e1 : slU [⟨P, F, G⟩] = .psl false 1 [.psl false t.reports.length (zM P), .psl false t.reports.length (zM F), .psl false t.reports.length (zM G)] := by simp [slU, recs, runC, hP, hll, hgl]
  rw [e1]
  clear e1
  simp only [zJ, slR, slC, sl, hP, hll, hgl] at hfit hls hgr ⊢
  (refine zG (fun w args => Try.call22 ..) Try.func22 rfl (fun w0 m0 wz => ?_); simp only [Try.ntmps22, Try.results22, zP, zR, zV, zW, slR, slC, zJ, sl, List.toList_toArray, List.cons_append, List.nil_append, List.length_cons, List.length_nil, Nat.reduceAdd, Nat.reduceSub])
  (repeat' (first
 | ((omega))
 | ((exfalso; omega))
 | refine zC ?_
 | refine kt ?_
 | refine And.intro ?_ ?_
 | ((first | refine awp_stp rfl ?_ | refine awp_draw (by kernel_rfl) (by kernel_rfl) ?_ | refine Imp.le2 ?_ | refine go_split (fun _h => ?_) (fun _h => ?_)) <;> try simp (maxSteps := 4000000) only [go_sem, seval, ↓rep_bools])
 | intro _h
 | refine zA ?_
 | refine zB ?_
 | refine zF ?_ ?_
 | (show zE _ _ = true; kernel_rfl)
 | (show zD _ _ = true; kernel_rfl)
 | (omega)))
  refine zQ t.reports.length (fun i => ⟨mkT 100 [(1, .psl false t.reports.length (zM P)), (2, .ptr 0 0 0), (5, .int .i64 t.reports.length), (8, .osl 1 0 0 t.reports.length), (9, .int .i64 (mxK P i)), (10, .int .i64 i)], [some (.cells 25 1 0 [.psl false t.reports.length (recs zV t.reports), .psl false t.claims.length (recs zW t.claims), .int .i64 t.rest]), some (.cells 4 1 0 (bools (tab t.reports.length fun p => snK P p i)))], []⟩) (.le2 ?_) ?_
  ·simp only [mxK, snK]
   simp (maxSteps := 4000000) only [go_sem, seval]
   all_goals first | rfl | trace_state
  ·intro i hi
   rcases Nat.lt_or_eq_of_le hi with hi1 | hi1
   ·have nI := n1 i hi1
    have hb := hmb i (by omega)
    have hpi := hPr i (by omega)
    have hst : mxK P (i + 1) = max (mxK P i) (P.getD i 0 + 1) := rfl
    have hsn : ∀ q, snK P q (i + 1) = (snK P q i || decide (P.getD i 0 = (q : Int))) := fun q => rfl
    obtain ⟨v, hv⟩ := Int.eq_ofNat_of_zero_le hpi.1
    have hv : P.getD i 0 = (v : Int) := hv
    rw [hv] at nI hpi hst hsn
    have hsp : isp (tab t.reports.length fun q => snK P q i) v true = tab t.reports.length fun q => snK P q (i + 1) := by
     rw [isp_tab (by omega)]
     refine tab_congr fun q _ => ?_
     rw [hsn]
     by_cases e : q = v
     ·subst e; simp
     ·rw [if_neg e]; simp [show ¬ (v : Int) = (q : Int) by omega]
    rw [hst]
    clear hsn hst hv
    generalize mxK P i = mx at *
    simp (maxSteps := 4000000) only [go_sem, seval]
    (repeat' (first
 | ((omega))
 | ((exfalso; omega))
 | refine zC ?_
 | refine kt ?_
 | refine And.intro ?_ ?_
 | ((first | refine awp_stp rfl ?_ | refine awp_draw (by kernel_rfl) (by kernel_rfl) ?_ | refine Imp.le2 ?_ | refine go_split (fun _h => ?_) (fun _h => ?_)) <;> try simp (maxSteps := 4000000) only [go_sem, seval, nI, hsp, tab_length])
 | intro _h
 | refine zA ?_
 | refine zB ?_
 | refine zF ?_ ?_
 | (show zE _ _ = true; kernel_rfl)
 | (show zD _ _ = true; kernel_rfl)
 | (omega)))
    all_goals trace_state
   ·subst hi1
    rw [hmn]
    have htb : ∀ q, q < t.reports.length → (tab t.reports.length fun p => snK P p t.reports.length).getD q false = snK P q t.reports.length := fun q hq => by
     simp [tab, List.getD_eq_getElem?_getD, hq]
    clear hmn hmb
    simp (maxSteps := 4000000) only [go_sem, seval]
    (repeat' (first
 | ((omega))
 | ((exfalso; omega))
 | refine zC ?_
 | refine kt ?_
 | refine And.intro ?_ ?_
 | ((first | refine awp_stp rfl ?_ | refine awp_draw (by kernel_rfl) (by kernel_rfl) ?_ | refine Imp.le2 ?_ | refine go_split (fun _h => ?_) (fun _h => ?_)) <;> try simp (maxSteps := 4000000) only [go_sem, seval])
 | intro _h
 | refine zA ?_
 | refine zB ?_
 | refine zF ?_ ?_
 | (show zE _ _ = true; kernel_rfl)
 | (show zD _ _ = true; kernel_rfl)
 | (omega)))
    refine zQ m (fun q => ⟨mkT 100 [(1, .psl false t.reports.length (zM P)), (2, .ptr 0 0 0), (5, .int .i64 t.reports.length), (8, .osl 1 0 0 t.reports.length), (9, .int .i64 m), (11, .int .i64 q)], [some (.cells 25 1 0 [.psl false t.reports.length (recs zV t.reports), .psl false t.claims.length (recs zW t.claims), .int .i64 t.rest]), some (.cells 4 1 0 (bools (tab t.reports.length fun p => snK P p t.reports.length)))], []⟩) (.le2 ?_) ?_
    ·simp (maxSteps := 4000000) only [go_sem, seval]
     all_goals first | rfl | trace_state
    ·intro q hq
     rcases Nat.lt_or_eq_of_le hq with hq1 | hq1
     ·have hs := hseen q hq1
      have ht2 := htb q (by omega)
      rw [hs] at ht2
      simp (maxSteps := 4000000) only [go_sem, seval]
      (repeat' (first
 | ((omega))
 | ((exfalso; omega))
 | refine zC ?_
 | refine kt ?_
 | refine And.intro ?_ ?_
 | ((first | refine awp_stp rfl ?_ | refine awp_draw (by kernel_rfl) (by kernel_rfl) ?_ | refine Imp.le2 ?_ | refine go_split (fun _h => ?_) (fun _h => ?_)) <;> try simp (maxSteps := 4000000) only [go_sem, seval, ht2, tab_length])
 | intro _h
 | refine zA ?_
 | refine zB ?_
 | refine zF ?_ ?_
 | (show zE _ _ = true; kernel_rfl)
 | (show zD _ _ = true; kernel_rfl)
 | (omega)))
      all_goals trace_state
     ·subst hq1
      clear htb
      simp (maxSteps := 4000000) only [go_sem, seval]
      (repeat' (first
 | ((omega))
 | ((exfalso; omega))
 | refine zC ?_
 | refine kt ?_
 | refine And.intro ?_ ?_
 | ((first | refine awp_stp rfl ?_ | refine awp_draw (by kernel_rfl) (by kernel_rfl) ?_ | refine Imp.le2 ?_ | refine callK_of (hfit) ?_ | refine callK_of (hls) ?_ | refine go_split (fun _h => ?_) (fun _h => ?_)) <;> try simp (maxSteps := 4000000) only [go_sem, seval])
 | intro _h
 | refine zA ?_
 | refine zB ?_
 | refine zF ?_ ?_
 | (show zE _ _ = true; kernel_rfl)
 | (show zD _ _ = true; kernel_rfl)
 | (omega)))
      refine zQ t.reports.length (fun z => ⟨mkT 100 [(1, .psl false t.reports.length (zM P)), (2, .ptr 0 0 0), (5, .int .i64 t.reports.length), (9, .int .i64 q), (12, .psl false t.reports.length (zM F)), (13, .int .i64 z)], [some (.cells 25 1 0 [.psl false t.reports.length (recs zV t.reports), .psl false t.claims.length (recs zW t.claims), .int .i64 t.rest])], []⟩) (.le2 ?_) ?_
      ·simp (maxSteps := 4000000) only [go_sem, seval]
       all_goals first | rfl | trace_state
      ·intro i hi
       rcases Nat.lt_or_eq_of_le hi with hi1 | hi1
       ·have nF := fun K => show optK (nth (zM F) i) K = K (.int .i64 (F.getD i 0)) by rw [ints_nth (by omega)]; rfl
        have hh := hhi i hi1
        generalize F.getD i 0 = v at *
        simp (maxSteps := 4000000) only [go_sem, seval]
        (repeat' (first
 | ((omega))
 | ((exfalso; omega))
 | refine zC ?_
 | refine kt ?_
 | refine And.intro ?_ ?_
 | ((first | refine awp_stp rfl ?_ | refine awp_draw (by kernel_rfl) (by kernel_rfl) ?_ | refine Imp.le2 ?_ | refine go_split (fun _h => ?_) (fun _h => ?_)) <;> try simp (maxSteps := 4000000) only [go_sem, seval, nF])
 | intro _h
 | refine zA ?_
 | refine zB ?_
 | refine zF ?_ ?_
 | (show zE _ _ = true; kernel_rfl)
 | (show zD _ _ = true; kernel_rfl)
 | (omega)))
        all_goals trace_state
       ·subst hi1
        simp (maxSteps := 4000000) only [go_sem, seval]
        (repeat' (first
 | ((omega))
 | ((exfalso; omega))
 | refine zC ?_
 | refine kt ?_
 | refine And.intro ?_ ?_
 | ((first | refine awp_stp rfl ?_ | refine awp_draw (by kernel_rfl) (by kernel_rfl) ?_ | refine Imp.le2 ?_ | refine callK_of (hgr) ?_ | refine go_split (fun _h => ?_) (fun _h => ?_)) <;> try simp (maxSteps := 4000000) only [go_sem, seval])
 | intro _h
 | refine zA ?_
 | refine zB ?_
 | refine zF ?_ ?_
 | (show zE _ _ = true; kernel_rfl)
 | (show zD _ _ = true; kernel_rfl)
 | (omega)))
        all_goals trace_state
 ·have hR : runR t P = [] := by unfold runR; rw [if_neg hk]
  have hnot : (∀ p, p < mN t P → snK P p t.reports.length = true) → fitB t P = true → (∀ i, i < t.reports.length → (lsL t P (mN t P)).getD i 0 ≤ (t.reports.getD i default).hi) → False := fun h1 h2 h3 => hk ⟨h1, fitB_iff.1 h2, h3⟩
  rw [hR]
  clear hR hk
  generalize lsL t P (mN t P) = F at *
  generalize grL t P (mN t P) = G at *
  generalize fitB t P = fb at *
  generalize mN t P = m at *
  have e1 : slU [] = .psl false 0 [] := rfl
  rw [e1]
  clear e1
  simp only [zJ, slR, slC, sl, hP, hll, hgl] at hfit hls hgr ⊢
  (refine zG (fun w args => Try.call22 ..) Try.func22 rfl (fun w0 m0 wz => ?_); simp only [Try.ntmps22, Try.results22, zP, zR, zV, zW, slR, slC, zJ, sl, List.toList_toArray, List.cons_append, List.nil_append, List.length_cons, List.length_nil, Nat.reduceAdd, Nat.reduceSub])
  (repeat' (first
 | ((omega))
 | ((exfalso; omega))
 | refine zC ?_
 | refine kt ?_
 | refine And.intro ?_ ?_
 | ((first | refine awp_stp rfl ?_ | refine awp_draw (by kernel_rfl) (by kernel_rfl) ?_ | refine Imp.le2 ?_ | refine go_split (fun _h => ?_) (fun _h => ?_)) <;> try simp (maxSteps := 4000000) only [go_sem, seval, ↓rep_bools])
 | intro _h
 | refine zA ?_
 | refine zB ?_
 | refine zF ?_ ?_
 | (show zE _ _ = true; kernel_rfl)
 | (show zD _ _ = true; kernel_rfl)
 | (omega)))
  refine zQ t.reports.length (fun i => ⟨mkT 100 [(1, .psl false t.reports.length (zM P)), (2, .ptr 0 0 0), (5, .int .i64 t.reports.length), (8, .osl 1 0 0 t.reports.length), (9, .int .i64 (mxK P i)), (10, .int .i64 i)], [some (.cells 25 1 0 [.psl false t.reports.length (recs zV t.reports), .psl false t.claims.length (recs zW t.claims), .int .i64 t.rest]), some (.cells 4 1 0 (bools (tab t.reports.length fun p => snK P p i)))], []⟩) (.le2 ?_) ?_
  ·simp only [mxK, snK]
   simp (maxSteps := 4000000) only [go_sem, seval]
   all_goals first | rfl | trace_state
  ·intro i hi
   rcases Nat.lt_or_eq_of_le hi with hi1 | hi1
   ·have nI := n1 i hi1
    have hb := hmb i (by omega)
    have hpi := hPr i (by omega)
    have hst : mxK P (i + 1) = max (mxK P i) (P.getD i 0 + 1) := rfl
    have hsn : ∀ q, snK P q (i + 1) = (snK P q i || decide (P.getD i 0 = (q : Int))) := fun q => rfl
    obtain ⟨v, hv⟩ := Int.eq_ofNat_of_zero_le hpi.1
    have hv : P.getD i 0 = (v : Int) := hv
    rw [hv] at nI hpi hst hsn
    have hsp : isp (tab t.reports.length fun q => snK P q i) v true = tab t.reports.length fun q => snK P q (i + 1) := by
     rw [isp_tab (by omega)]
     refine tab_congr fun q _ => ?_
     rw [hsn]
     by_cases e : q = v
     ·subst e; simp
     ·rw [if_neg e]; simp [show ¬ (v : Int) = (q : Int) by omega]
    rw [hst]
    clear hsn hst hv
    generalize mxK P i = mx at *
    simp (maxSteps := 4000000) only [go_sem, seval]
    (repeat' (first
 | ((omega))
 | ((exfalso; omega))
 | refine zC ?_
 | refine kt ?_
 | refine And.intro ?_ ?_
 | ((first | refine awp_stp rfl ?_ | refine awp_draw (by kernel_rfl) (by kernel_rfl) ?_ | refine Imp.le2 ?_ | refine go_split (fun _h => ?_) (fun _h => ?_)) <;> try simp (maxSteps := 4000000) only [go_sem, seval, nI, hsp, tab_length])
 | intro _h
 | refine zA ?_
 | refine zB ?_
 | refine zF ?_ ?_
 | (show zE _ _ = true; kernel_rfl)
 | (show zD _ _ = true; kernel_rfl)
 | (omega)))
    all_goals trace_state
   ·subst hi1
    rw [hmn]
    have htb : ∀ q, q < t.reports.length → (tab t.reports.length fun p => snK P p t.reports.length).getD q false = snK P q t.reports.length := fun q hq => by
     simp [tab, List.getD_eq_getElem?_getD, hq]
    clear hmn hmb
    simp (maxSteps := 4000000) only [go_sem, seval]
    (repeat' (first
 | ((omega))
 | ((exfalso; omega))
 | refine zC ?_
 | refine kt ?_
 | refine And.intro ?_ ?_
 | ((first | refine awp_stp rfl ?_ | refine awp_draw (by kernel_rfl) (by kernel_rfl) ?_ | refine Imp.le2 ?_ | refine go_split (fun _h => ?_) (fun _h => ?_)) <;> try simp (maxSteps := 4000000) only [go_sem, seval])
 | intro _h
 | refine zA ?_
 | refine zB ?_
 | refine zF ?_ ?_
 | (show zE _ _ = true; kernel_rfl)
 | (show zD _ _ = true; kernel_rfl)
 | (omega)))
    refine awp_loopJ (fun q : Nat => q ≤ m ∧ ∀ z, z < q → snK P z t.reports.length = true) (fun q => ⟨mkT 100 [(1, .psl false t.reports.length (zM P)), (2, .ptr 0 0 0), (5, .int .i64 t.reports.length), (8, .osl 1 0 0 t.reports.length), (9, .int .i64 m), (11, .int .i64 q)], [some (.cells 25 1 0 [.psl false t.reports.length (recs zV t.reports), .psl false t.claims.length (recs zW t.claims), .int .i64 t.rest]), some (.cells 4 1 0 (bools (tab t.reports.length fun p => snK P p t.reports.length)))], []⟩) (fun q => m - q) 0 ⟨Nat.zero_le _, fun z hz => by omega⟩ (.le2 ?_) ?_
    ·simp (maxSteps := 4000000) only [go_sem, seval]
     all_goals first | rfl | trace_state
    ·rintro q ⟨hq, hQ⟩
     rcases Nat.lt_or_eq_of_le hq with hq1 | hq1
     ·have ht2 := htb q (by omega)
      cases hs : snK P q t.reports.length with
      | true =>
        rw [hs] at ht2
        simp (maxSteps := 4000000) only [go_sem, seval]
        (repeat' (first
 | ((omega))
 | ((exfalso; omega))
 | refine zC ?_
 | refine kt ?_
 | refine And.intro ?_ ?_
 | ((first | refine awp_stp rfl ?_ | refine awp_draw (by kernel_rfl) (by kernel_rfl) ?_ | refine Imp.le2 ?_ | refine go_split (fun _h => ?_) (fun _h => ?_)) <;> try simp (maxSteps := 4000000) only [go_sem, seval, ht2, tab_length])
 | intro _h
 | refine zA ?_
 | refine zB ?_
 | refine zF ?_ ?_
 | (show zE _ _ = true; kernel_rfl)
 | (show zD _ _ = true; kernel_rfl)
 | (omega)))
        all_goals first
         | (refine ⟨q + 1, ⟨hq1, fun z hz => ?_⟩, by omega, .le2 ?_⟩
            ·by_cases e : z = q
             ·subst e; exact hs
             ·exact hQ z (by omega)
            ·simp (maxSteps := 4000000) only [go_sem, seval]
             all_goals first | rfl | trace_state)
         | trace_state
      | false =>
        rw [hs] at ht2
        simp (maxSteps := 4000000) only [go_sem, seval]
        (repeat' (first
 | ((omega))
 | ((exfalso; omega))
 | refine zC ?_
 | refine kt ?_
 | refine And.intro ?_ ?_
 | ((first | refine awp_stp rfl ?_ | refine awp_draw (by kernel_rfl) (by kernel_rfl) ?_ | refine Imp.le2 ?_ | refine go_split (fun _h => ?_) (fun _h => ?_)) <;> try simp (maxSteps := 4000000) only [go_sem, seval, ht2, tab_length])
 | intro _h
 | refine zA ?_
 | refine zB ?_
 | refine zF ?_ ?_
 | (show zE _ _ = true; kernel_rfl)
 | (show zD _ _ = true; kernel_rfl)
 | (omega)))
        all_goals trace_state
     ·subst hq1
      clear htb
      cases fb with
      | false =>
        simp (maxSteps := 4000000) only [go_sem, seval]
        (repeat' (first
 | ((omega))
 | ((exfalso; omega))
 | refine zC ?_
 | refine kt ?_
 | refine And.intro ?_ ?_
 | ((first | refine awp_stp rfl ?_ | refine awp_draw (by kernel_rfl) (by kernel_rfl) ?_ | refine Imp.le2 ?_ | refine callK_of (hfit) ?_ | refine go_split (fun _h => ?_) (fun _h => ?_)) <;> try simp (maxSteps := 4000000) only [go_sem, seval])
 | intro _h
 | refine zA ?_
 | refine zB ?_
 | refine zF ?_ ?_
 | (show zE _ _ = true; kernel_rfl)
 | (show zD _ _ = true; kernel_rfl)
 | (omega)))
        all_goals trace_state
      | true =>
        simp (maxSteps := 4000000) only [go_sem, seval]
        (repeat' (first
 | ((omega))
 | ((exfalso; omega))
 | refine zC ?_
 | refine kt ?_
 | refine And.intro ?_ ?_
 | ((first | refine awp_stp rfl ?_ | refine awp_draw (by kernel_rfl) (by kernel_rfl) ?_ | refine Imp.le2 ?_ | refine callK_of (hfit) ?_ | refine callK_of (hls) ?_ | refine go_split (fun _h => ?_) (fun _h => ?_)) <;> try simp (maxSteps := 4000000) only [go_sem, seval])
 | intro _h
 | refine zA ?_
 | refine zB ?_
 | refine zF ?_ ?_
 | (show zE _ _ = true; kernel_rfl)
 | (show zD _ _ = true; kernel_rfl)
 | (omega)))
        refine awp_loopJ (fun i : Nat => i ≤ t.reports.length ∧ ∀ z, z < i → F.getD z 0 ≤ (t.reports.getD z default).hi) (fun z => ⟨mkT 100 [(1, .psl false t.reports.length (zM P)), (2, .ptr 0 0 0), (5, .int .i64 t.reports.length), (9, .int .i64 q), (12, .psl false t.reports.length (zM F)), (13, .int .i64 z)], [some (.cells 25 1 0 [.psl false t.reports.length (recs zV t.reports), .psl false t.claims.length (recs zW t.claims), .int .i64 t.rest])], []⟩) (fun i => t.reports.length - i) 0 ⟨Nat.zero_le _, fun z hz => by omega⟩ (.le2 ?_) ?_
        ·simp (maxSteps := 4000000) only [go_sem, seval]
         all_goals first | rfl | trace_state
        ·rintro i ⟨hi, hI⟩
         rcases Nat.lt_or_eq_of_le hi with hi1 | hi1
         ·have nF := fun K => show optK (nth (zM F) i) K = K (.int .i64 (F.getD i 0)) by rw [ints_nth (by omega)]; rfl
          have hstep : F.getD i 0 ≤ (t.reports.getD i default).hi → ∀ z, z < i + 1 → F.getD z 0 ≤ (t.reports.getD z default).hi := fun h z hz => by
           by_cases e : z = i
           ·subst e; exact h
           ·exact hI z (by omega)
          generalize F.getD i 0 = v at *
          simp (maxSteps := 4000000) only [go_sem, seval]
          (repeat' (first
 | ((omega))
 | ((exfalso; omega))
 | refine zC ?_
 | refine kt ?_
 | refine And.intro ?_ ?_
 | ((first | refine awp_stp rfl ?_ | refine awp_draw (by kernel_rfl) (by kernel_rfl) ?_ | refine Imp.le2 ?_ | refine go_split (fun _h => ?_) (fun _h => ?_)) <;> try simp (maxSteps := 4000000) only [go_sem, seval, nF])
 | intro _h
 | refine zA ?_
 | refine zB ?_
 | refine zF ?_ ?_
 | (show zE _ _ = true; kernel_rfl)
 | (show zD _ _ = true; kernel_rfl)
 | (omega)))
          all_goals first
           | (refine ⟨i + 1, ⟨hi1, hstep (by omega)⟩, by omega, .le2 ?_⟩
              simp (maxSteps := 4000000) only [go_sem, seval]
              all_goals first | rfl | trace_state)
           | trace_state
         ·exact (hnot hQ rfl (fun z hz => hI z (by omega))).elim
end Go.Am
namespace Go.Am
open Go.RowKit Go.Proofs
attribute [local irreducible] AWP zO Kt goK CallK zT zS SemF SemY Imp
set_option maxRecDepth 4000
set_option linter.unusedSimpArgs false
set_option linter.unusedVariables false
set_option maxHeartbeats 6400000
theorem ren_IP {σ : Nat → Nat} {P : List Int} {k : Int} : renL σ (zM P ++ [.int .i64 k]) = zM P ++ [.int .i64 k] := by rw [renL_app, renL_ints]; rfl
theorem refs_IP {p : Nat → Prop} {P : List Int} {k : Int} : refsL p (zM P ++ [.int .i64 k]) = True := by rw [refsL_app, refsL_ints]; simp [refsL, refs]
attribute [go_sem] ren_IP refs_IP
theorem flat_snoc {n : Nat} {f : Nat → List RunT} : (List.range (n + 1)).flatMap f = (List.range n).flatMap f ++ f n := by
 rw [List.range_succ, List.flatMap_append]; simp
theorem sn_getK {l : List Int} {v : Int} {j : Nat} : (l ++ [v]).getD j 0 = if j < l.length then l.getD j 0 else if j = l.length then v else 0 := by
 simp only [List.getD_eq_getElem?_getD]
 by_cases h : j < l.length
 ·rw [if_pos h, List.getElem?_append_left h]
 ·rw [if_neg h, List.getElem?_append_right (by omega)]
  by_cases e : j = l.length
  ·rw [if_pos e, e, Nat.sub_self]; rfl
  ·rw [if_neg e]
   obtain ⟨d, hd⟩ : ∃ d, j - l.length = d + 1 := ⟨j - l.length - 1, by omega⟩
   rw [hd]; rfl
theorem take_arg {r : AV} (t : Ann) (g : Nat) (l : List Int) (n : Nat) (hn : n = l.length) (h : zO Try.prog 22 [.agg (zJ t), sl l] r) : SemF Try.prog 22 [.agg (zJ t), .osl 0 g 0 n] [some (.cells 3 1 g (zM l))] r [some (.cells 3 1 (g + 1) [])] := by
 subst hn
 have e : fzl (fz2 0 g (zM l)) [.agg (zJ t), .osl 0 g 0 l.length] = [.agg (zJ t), sl l] := by
  simp [fzl, fz2, fz1, fz0, zJ, slR, slC, sl]
 refine semF_take ?_ ?_ ?_
 ·rw [e]; exact h
 ·intro y hy
  obtain ⟨n, rfl⟩ := mem_ints hy
  rfl
 ·rw [e]
  intro x hx
  simp only [List.mem_cons, List.not_mem_nil, or_false] at hx
  rcases hx with rfl | rfl <;> rfl
theorem runsF_len {t : Ann} : ∀ (f : Nat) (P : List Int), (runsF t f P).length ≤ t.reports.length ^ f
 | 0, P => by
   simp only [runsF, runR]
   split <;> simp
 | f + 1, P => by
   have key : ∀ n, ((List.range n).flatMap fun (p : Nat) => runsF t f (P ++ [(p : Int)])).length ≤ n * t.reports.length ^ f := fun n => by
    induction n with
    | zero => simp
    | succ n ih =>
      rw [flat_snoc, List.length_append, Nat.succ_mul]
      have := runsF_len (t := t) f (P ++ [(n : Int)])
      omega
   have := key t.reports.length
   rw [Nat.pow_succ, Nat.mul_comm]; exact this
theorem pow_bd {n f : Nat} (hn : n ≤ 7) (hf : f ≤ 7) : n ^ f ≤ 823543 := by
 have h1 : n ^ f ≤ 7 ^ f := Nat.pow_le_pow_left hn f
 have h2 : 7 ^ f ≤ 7 ^ 7 := Nat.pow_le_pow_right (by omega) hf
 have h3 : 7 ^ 7 = 823543 := by decide
 omega
theorem Runs_c (t : Ann) (ht : AnnOK t) : ∀ (f : Nat) (P : List Int), P.length + f = t.reports.length → (∀ i, i < P.length → 0 ≤ P.getD i 0 ∧ P.getD i 0 < t.reports.length) → zO Try.prog 22 [.agg (zJ t), sl P] (slU (runsF t f P))
 | 0, P, hl, hP => Run_leaf t P ht (by omega) hP
 | f + 1, P, hl, hP => by
   have hr := ht.reports
   have hcl := ht.claims
   have ih := fun (p : Nat) (hp : p < t.reports.length) => Runs_c t ht f (P ++ [(p : Int)]) (by simp; omega) (fun i hi => by
    rw [sn_getK]
    split
    ·exact hP i (by assumption)
    ·rw [if_pos (by simp at hi; omega)]; omega)
   obtain ⟨out, hout⟩ : ∃ out : Nat → List RunT, (fun k => (List.range k).flatMap fun (p : Nat) => runsF t f (P ++ [(p : Int)])) = out := ⟨_, rfl⟩
   have h0 : out 0 = [] := by rw [← hout]; rfl
   have hs : ∀ k, out (k + 1) = out k ++ runsF t f (P ++ [(k : Int)]) := fun k => by rw [← hout]; exact flat_snoc
   have hbig : ∀ k, k ≤ t.reports.length → (out k).length ≤ k * 823543 := fun k => by
    induction k with
    | zero => intro _; rw [h0]; simp
    | succ k ih2 =>
      intro hk
      have h1 := ih2 (by omega)
      have h2 := runsF_len (t := t) f (P ++ [(k : Int)])
      have h3 := pow_bd (n := t.reports.length) (f := f) (by omega) (by omega)
      rw [hs, List.length_append]; omega
   have hfin : runsF t (f + 1) P = out t.reports.length := by rw [← hout]; rfl
   rw [hfin]
   clear hout hfin
   have hsub : ∀ k, k < t.reports.length → (runsF t f (P ++ [(k : Int)])).length ≤ 823543 := fun k hk => by
    have h2 := runsF_len (t := t) f (P ++ [(k : Int)])
    have h3 := pow_bd (n := t.reports.length) (f := f) (by omega) (by omega)
    omega
   have hPl : P.length < t.reports.length := by omega
   simp only [slU]
   simp only [zJ, slR, slC, sl]
   (refine zG (fun w args => Try.call22 ..) Try.func22 rfl (fun w0 m0 wz => ?_); simp only [Try.ntmps22, Try.results22, zP, zR, zV, zW, slR, slC, zJ, sl, List.toList_toArray, List.cons_append, List.nil_append, List.length_cons, List.length_nil, Nat.reduceAdd, Nat.reduceSub])
   (repeat' (first
 | ((omega))
 | ((exfalso; omega))
 | refine zC ?_
 | refine kt ?_
 | refine And.intro ?_ ?_
 | ((first | refine awp_stp rfl ?_ | refine awp_draw (by kernel_rfl) (by kernel_rfl) ?_ | refine Imp.le2 ?_ | refine go_split (fun _h => ?_) (fun _h => ?_)) <;> try simp (maxSteps := 4000000) only [go_sem, seval])
 | intro _h
 | refine zA ?_
 | refine zB ?_
 | refine zF ?_ ?_
 | (show zE _ _ = true; kernel_rfl)
 | (show zD _ _ = true; kernel_rfl)
 | (omega)))
   (refine awp_adT 6 111 3 rfl ?_; simp only [adT, lset, hset, List.length_cons, List.length_nil, Nat.reduceAdd])
   refine zQ t.reports.length (fun k => ⟨mkT 100 [(1, .psl false P.length (zM P)), (2, .ptr 0 0 0), (5, .int .i64 t.reports.length), (6, .osl 1 k 0 (out k).length), (7, .int .i64 k)], [some (.cells 25 1 0 [.psl false t.reports.length (recs zV t.reports), .psl false t.claims.length (recs zW t.claims), .int .i64 t.rest]), some (.cells 111 3 k (recs runC (out k)))], []⟩) (.le2 ?_) ?_
   ·rw [h0]
    simp (maxSteps := 4000000) only [go_sem, seval]
    all_goals first | rfl | trace_state
   ·intro k hk
    rcases Nat.lt_or_eq_of_le hk with hk1 | hk1
    ·have hb := hbig k hk
     have hsb := hsub k hk1
     have hih := ih k hk1
     rw [hs k]
     have snP : zM P ++ [.int .i64 (k : Int)] = zM (P ++ [(k : Int)]) := by simp [zM]
     have lnP : (P ++ [(k : Int)]).length = P.length + 1 := by simp
     generalize runsF t f (P ++ [(k : Int)]) = R at *
     generalize out k = O at *
     have lnO : (O ++ R).length = O.length + R.length := List.length_append
     by_cases hP0 : P.length = 0
     ·have hPn : P = [] := List.length_eq_zero_iff.1 hP0
      subst hPn
      have hi0 : zM ([] : List Int) = [] := rfl
      have hc := take_arg t 0 [(k : Int)] 1 rfl hih
      simp only [zJ, slR, slC, slU] at hc
      simp only [hi0, List.nil_append, List.length_nil] at snP lnP ⊢
      simp (maxSteps := 4000000) only [go_sem, seval]
      (repeat' (first
 | ((omega))
 | ((exfalso; omega))
 | refine zC ?_
 | refine kt ?_
 | refine And.intro ?_ ?_
 | ((first | refine awp_stp rfl ?_ | refine Imp.le2 ?_ | refine go_split (fun _h => ?_) (fun _h => ?_)) <;> try simp (maxSteps := 4000000) only [go_sem, seval])
 | intro _h
 | refine zA ?_
 | refine zB ?_
 | refine zF ?_ ?_
 | (show zE _ _ = true; kernel_rfl)
 | (show zD _ _ = true; kernel_rfl)
 | (omega)))
      ((repeat refine zC ?_); refine awp_draws [(8, [3])] (by kernel_rfl) (by kernel_rfl) ?_; simp (maxSteps := 4000000) only [go_sem, seval, sg_cons, sg_nil, List.take_succ_cons, List.take_zero, List.drop_succ_cons, List.drop_zero])
      (repeat' (first | (exfalso; omega) | omega | (refine And.intro ?_ ?_) | (intro _h)))
      (refine own_go (hc) [3] rfl (by simp (maxSteps := 4000000) only [go_sem, seval]) (by simp (maxSteps := 4000000) only [go_sem, seval, Nat.lt_irrefl] <;> decide) rfl ?_; simp (maxSteps := 4000000) only [go_sem, seval]; refine And.intro (frm_of (by repeat (first | exact rfl | exact ⟨_, rfl⟩ | refine And.intro ?_ ?_))) ?_; try simp (maxSteps := 4000000) only [go_sem, seval, sg_cons, sg_nil, List.take_succ_cons, List.take_zero, List.drop_succ_cons, List.drop_zero])
      refine And.intro (by omega) (And.intro (by omega) ?_)
      (refine And.intro (by kernel_rfl) ?_; refine kt ?_)
      (repeat' (first
 | ((omega))
 | ((exfalso; omega))
 | refine zC ?_
 | refine kt ?_
 | refine And.intro ?_ ?_
 | ((first | refine awp_stp rfl ?_ | refine awp_draw (by kernel_rfl) (by kernel_rfl) ?_ | refine Imp.le2 ?_ | refine go_split (fun _h => ?_) (fun _h => ?_)) <;> try simp (maxSteps := 4000000) only [go_sem, seval, lnO])
 | intro _h
 | refine zA ?_
 | refine zB ?_
 | refine zF ?_ ?_
 | (show zE _ _ = true; kernel_rfl)
 | (show zD _ _ = true; kernel_rfl)
 | (omega)))
      all_goals trace_state
     ·have hc := take_arg t 1 (P ++ [(k : Int)]) (P.length + 1) (by simp) hih
      rw [← snP] at hc
      simp only [zJ, slR, slC, slU] at hc
      simp (maxSteps := 4000000) only [go_sem, seval]
      (repeat' (first
 | ((omega))
 | ((exfalso; omega))
 | refine zC ?_
 | refine kt ?_
 | refine And.intro ?_ ?_
 | ((first | refine awp_stp rfl ?_ | refine Imp.le2 ?_ | refine go_split (fun _h => ?_) (fun _h => ?_)) <;> try simp (maxSteps := 4000000) only [go_sem, seval])
 | intro _h
 | refine zA ?_
 | refine zB ?_
 | refine zF ?_ ?_
 | (show zE _ _ = true; kernel_rfl)
 | (show zD _ _ = true; kernel_rfl)
 | (omega)))
      ((repeat refine zC ?_); refine awp_draws [(8, [2])] (by kernel_rfl) (by kernel_rfl) ?_; simp (maxSteps := 4000000) only [go_sem, seval, sg_cons, sg_nil, List.take_succ_cons, List.take_zero, List.drop_succ_cons, List.drop_zero])
      (repeat' (first | (exfalso; omega) | omega | (refine And.intro ?_ ?_) | (intro _h)))
      (refine own_go (hc) [2] rfl (by simp (maxSteps := 4000000) only [go_sem, seval]) (by simp (maxSteps := 4000000) only [go_sem, seval, Nat.lt_irrefl] <;> decide) rfl ?_; simp (maxSteps := 4000000) only [go_sem, seval]; refine And.intro (frm_of (by repeat (first | exact rfl | exact ⟨_, rfl⟩ | refine And.intro ?_ ?_))) ?_; try simp (maxSteps := 4000000) only [go_sem, seval, sg_cons, sg_nil, List.take_succ_cons, List.take_zero, List.drop_succ_cons, List.drop_zero])
      refine And.intro (by omega) (And.intro (by omega) ?_)
      (refine And.intro (by kernel_rfl) ?_; refine kt ?_)
      (repeat' (first
 | ((omega))
 | ((exfalso; omega))
 | refine zC ?_
 | refine kt ?_
 | refine And.intro ?_ ?_
 | ((first | refine awp_stp rfl ?_ | refine awp_draw (by kernel_rfl) (by kernel_rfl) ?_ | refine Imp.le2 ?_ | refine go_split (fun _h => ?_) (fun _h => ?_)) <;> try simp (maxSteps := 4000000) only [go_sem, seval, lnO])
 | intro _h
 | refine zA ?_
 | refine zB ?_
 | refine zF ?_ ?_
 | (show zE _ _ = true; kernel_rfl)
 | (show zD _ _ = true; kernel_rfl)
 | (omega)))
      all_goals trace_state
    ·subst hk1
     generalize out t.reports.length = O at *
     simp (maxSteps := 4000000) only [go_sem, seval]
     (repeat' (first
 | (refine awp_frz (c := .region 8 _ _) 1 rfl (by simp (maxSteps := 4000000) only [go_sem, seval]) (fun _ => rfl) ?_; simp only [frz, fq_pure, fzB_c, fzB_m, fzB_d, fzB_l, fzO, fzH, fzHs, fzl, fz2, fz1, fz0, List.map_cons, List.map_nil, if_true, if_false, reduceIte, Nat.reduceEqDiff, Nat.reduceAdd, Nat.succ_ne_self, Nat.zero_ne_one, Nat.one_ne_zero, reduceCtorEq, and_self])
 | ((omega))
 | ((exfalso; omega))
 | refine zC ?_
 | refine kt ?_
 | refine And.intro ?_ ?_
 | ((first | refine awp_stp rfl ?_ | refine awp_draw (by kernel_rfl) (by kernel_rfl) ?_ | refine Imp.le2 ?_ | refine go_split (fun _h => ?_) (fun _h => ?_)) <;> try simp (maxSteps := 4000000) only [go_sem, seval])
 | intro _h
 | refine zA ?_
 | refine zB ?_
 | refine zF ?_ ?_
 | (show zE _ _ = true; kernel_rfl)
 | (show zD _ _ = true; kernel_rfl)
 | (omega)))
     all_goals trace_state
end Go.Am
