/- Parts UjE, UjI, UjN of the proof, one behind the other. No statement is proved here. -/
import Derived.Test.YtemdkbogfafjgaaN7
import Derived.Test.YtemdkbogfafjgaaN8
import Derived.Test.YtemdkbogfafjgaaN5
import Derived.Test.YtemdkbogfafjgaaN6
import Derived.Test.YtemdkbogfafjgaaN9
import Derived.Test.YtemdkbogfafjgaaN4
import Derived.Test.YtemdkbogfafjgaaN3
set_option linter.unusedVariables false -- all
set_option linter.unusedSimpArgs false
namespace Go.Am
open Go.RowKit Go.Proofs
set_option linter.unusedSimpArgs false
set_option linter.unusedVariables false
structure Wid (t u : Ann) (σ : Nat → Nat) : Prop where
 lt : ∀ j, j < t.reports.length → σ j < u.reports.length
 on : ∀ i, i < u.reports.length → ∃ j, j < t.reports.length ∧ σ j = i
 chr : ∀ C D, Chr u C D → Chr t (fun j => C (σ j)) (fun j => D (σ j))
section
variable {t u : Ann} {σ : Nat → Nat} (h : Wid t u σ) (ht : AnnOK t) (hu : AnnOK u)
include h ht hu
theorem Wid.one {i k : Nat} (hi : i < t.reports.length) (hk : k < t.reports.length) (hv : (suV u ⟨(σ i : Nat), (σ k : Nat)⟩).1 = true) : (suV t ⟨i, k⟩).1 = true := by
 have h1 := suV_spec hu (p := ⟨(σ i : Nat), (σ k : Nat)⟩) ⟨⟨by simp, by simpa using h.lt i hi⟩, by simp, by simpa using h.lt k hk⟩
 have h2 := suV_spec ht (p := ⟨i, k⟩) ⟨⟨by simp, by simpa using hi⟩, by simp, by simpa using hk⟩
 simp only [Int.toNat_natCast] at h1 h2
 obtain ⟨C, D, hc, e⟩ := h1.one.1 hv
 exact h2.one.2 ⟨_, _, h.chr _ _ hc, e⟩
theorem Wid.other {i k : Nat} (hi : i < t.reports.length) (hk : k < t.reports.length) (hv : (suV u ⟨(σ i : Nat), (σ k : Nat)⟩).2 = true) : (suV t ⟨i, k⟩).2 = true := by
 have h1 := suV_spec hu (p := ⟨(σ i : Nat), (σ k : Nat)⟩) ⟨⟨by simp, by simpa using h.lt i hi⟩, by simp, by simpa using h.lt k hk⟩
 have h2 := suV_spec ht (p := ⟨i, k⟩) ⟨⟨by simp, by simpa using hi⟩, by simp, by simpa using hk⟩
 simp only [Int.toNat_natCast] at h1 h2
 obtain ⟨C, D, hc, e⟩ := h1.other.1 hv
 exact h2.other.2 ⟨_, _, h.chr _ _ hc, e⟩
end
end Go.Am
namespace Go.Am
open Go.RowKit Go.Proofs
set_option linter.unusedSimpArgs false
set_option linter.unusedVariables false
def nxK (s : List Int) : Nat → Int
 | 0 => 0
 | k + 1 => if s.getD k 0 = nxK s k then nxK s k + 1 else nxK s k
def NumP (s : List Int) (k : Nat) : Prop := ∀ i, i < k → 0 ≤ s.getD i 0 ∧ s.getD i 0 ≤ nxK s i
instance {s : List Int} {k : Nat} : Decidable (NumP s k) := by unfold NumP; infer_instance
def numB (s : List Int) : Bool := decide (NumP s s.length)
theorem nxK_bd {s : List Int} : ∀ k, 0 ≤ nxK s k ∧ nxK s k ≤ k
 | 0 => by simp [nxK]
 | k + 1 => by
   have := nxK_bd (s := s) k
   simp only [nxK]
   split <;> (push_cast; omega)
end Go.Am
namespace Go.Am
open Go.RowKit Go.Proofs
attribute [local irreducible] AWP zO Kt goK CallK zT zR SemF SemY Imp
set_option maxRecDepth 4000
set_option linter.unusedSimpArgs false
set_option linter.unusedVariables false
set_option maxHeartbeats 1600000
section
variable [Base] {P : Program} {w0 : World} {r : Option Nat} {o : Oper} {ρ : Operand → AV} {h : Nat → Option ABlk}
theorem sound_addw {t t' : TypeId} {x y : Operand} (ho : o.op = .binOp .add t x y t') {a b c : Int} (hx : ρ x = .int .i64 a) (hy : ρ y = .int .i64 b) (hc : IntKind.i64.wrap (a + b) = c) : OpOK P w0 r o ρ h ⟨.int .i64 c, [], none⟩ := by
 refine ok_pure (by simp [ho]) fun h' m w ac _ _ hop => ⟨.int .i64 c, ?_, .pure (.int _ _)⟩
 have h1 := hop x (by simp [ho, Op.operands]); rw [hx] at h1
 have h2 := hop y (by simp [ho, Op.operands]); rw [hy] at h2
 have hrun : ∀ w : World, (binOp BinOp.add t (.int .i64 a) (.int .i64 b)).run P w = .ok (.int .i64 c) w := fun w => by
  rw [← hc]
  first | (simp [binOp, Op.intArith]; done) | (simp [binOp, Op.intArith]; rfl)
 simp [execOp, ho, rep_int h1, rep_int h2, run_eqGuard_ints, hrun]
end
def nxW (v x : Int) : Int := if x = 9223372036854775807 then v else max v (x + 1)
def numU : Int → List Int → Nat × Int
 | v, [] => (0, v)
 | v, x :: xs => if 0 ≤ x ∧ x ≤ v then ((numU (nxW v x) xs).1 + 1, (numU (nxW v x) xs).2) else (0, nxW v x)
def N0 (v : Int) : Option ABlk := some (.cells 3 1 0 [.int .i64 v])
def N1 : Option ABlk := some (.cells 119 1 0 [.fn (.func 99) [] [.ptr 0 0 0]])
theorem numU_le : ∀ {l : List Int} {v : Int}, (numU v l).1 ≤ l.length
 | [], _ => Nat.le_refl _
 | x :: xs, v => by
   simp only [numU]
   split
   ·have := numU_le (l := xs) (v := nxW v x); simp; omega
   ·simp
theorem num1_c (v x : Int) (hv : 0 ≤ v ∧ v ≤ 2000000) (hx : x ≤ 9223372036854775807) (hx2 : -9223372036854775808 ≤ x) : SemF Try.prog 99 [.int .i64 x, .ptr 0 0 0] [N0 v] (.bool (decide (0 ≤ x ∧ x ≤ v))) [N0 (nxW v x)] := by
 unfold nxW
 by_cases hm : x = 9223372036854775807
 ·rw [if_pos hm, decide_eq_false (by omega)]
  have hwc := within_c x 0 v
  rw [decide_eq_false (by omega)] at hwc
  have hmx : max v (-9223372036854775808) = v := by omega
  subst hm
  simp only [N0]
  (refine zH (ys := [.bool false]) (fun w args => Try.call99 ..) Try.func99 rfl (fun w0 m0 wz => ?_); simp only [Try.ntmps99, Try.results99, zN, zP, zU, zV, slR, slC, zL, sl, List.toList_toArray, List.cons_append, List.nil_append, List.length_cons, List.length_nil, Nat.reduceAdd, Nat.reduceSub])
  (repeat' (first
 | ((refine awp_opN (id := 2) 2 rfl ⟨.int .i64 (-9223372036854775808), [], none⟩ ?_; simp (maxSteps := 4000000) only [go_sem, seval, List.take_succ_cons, List.take_zero]; refine ⟨rfl, sound_addw rfl rfl rfl (by rw [IntKind.wrap_i64]; decide), ?_⟩))
 | ((omega))
 | ((exfalso; omega))
 | refine zC ?_
 | refine kt ?_
 | refine And.intro ?_ ?_
 | ((first | refine awp_stp rfl ?_ | refine awp_draw (by kernel_rfl) (by kernel_rfl) ?_ | refine Imp.le2 ?_ | refine callK_of (hwc) ?_ | refine callK_of (latest_c _ _ _) ?_ | refine go_split (fun _h => ?_) (fun _h => ?_)) <;> try simp (maxSteps := 4000000) only [go_sem, seval, hmx])
 | intro _h
 | refine zA ?_
 | refine zB ?_
 | refine zF ?_ ?_
 | (show zE _ _ = true; kernel_rfl)
 | (show zD _ _ = true; kernel_rfl)
 | (omega)))
  all_goals trace_state
 ·rw [if_neg hm]
  simp only [N0]
  (refine zH (ys := [.bool (decide (0 ≤ x ∧ x ≤ v))]) (fun w args => Try.call99 ..) Try.func99 rfl (fun w0 m0 wz => ?_); simp only [Try.ntmps99, Try.results99, zN, zP, zU, zV, slR, slC, zL, sl, List.toList_toArray, List.cons_append, List.nil_append, List.length_cons, List.length_nil, Nat.reduceAdd, Nat.reduceSub])
  (repeat' (first
 | ((omega))
 | ((exfalso; omega))
 | refine zC ?_
 | refine kt ?_
 | refine And.intro ?_ ?_
 | ((first | refine awp_stp rfl ?_ | refine awp_draw (by kernel_rfl) (by kernel_rfl) ?_ | refine Imp.le2 ?_ | refine callK_of (within_c _ _ _) ?_ | refine callK_of (latest_c _ _ _) ?_ | refine go_split (fun _h => ?_) (fun _h => ?_)) <;> try simp (maxSteps := 4000000) only [go_sem, seval])
 | intro _h
 | refine zA ?_
 | refine zB ?_
 | refine zF ?_ ?_
 | (show zE _ _ = true; kernel_rfl)
 | (show zD _ _ = true; kernel_rfl)
 | (omega)))
  all_goals first | exact (decide_eq_true ‹_›).symm | exact (decide_eq_false ‹_›).symm | trace_state
theorem num2_c (v x : Int) (hv : 0 ≤ v ∧ v ≤ 2000000) (hx : x ≤ 9223372036854775807) (hx2 : -9223372036854775808 ≤ x) : SemF Try.prog 97 [.int .i64 x, .ptr 1 0 0] [N0 v, N1] (.bool (!decide (0 ≤ x ∧ x ≤ v))) [N0 (nxW v x), N1] := by
 have h1 := num1_c v x hv hx hx2
 simp only [N0, N1] at h1 ⊢
 generalize decide (0 ≤ x ∧ x ≤ v) = q at *
 (refine zH (ys := [.bool (!q)]) (fun w args => Try.call97 ..) Try.func97 rfl (fun w0 m0 wz => ?_); simp only [Try.ntmps97, Try.results97, zN, zP, zU, zV, slR, slC, zL, sl, List.toList_toArray, List.cons_append, List.nil_append, List.length_cons, List.length_nil, Nat.reduceAdd, Nat.reduceSub])
 (repeat' (first
 | (refine zJ 2 rfl ?_; simp (maxSteps := 4000000) only [go_sem, seval, List.take_succ_cons, List.take_zero]; (repeat refine And.intro (by omega) ?_); refine zQ (h1) [0] rfl ?_ ?_ rfl ?_ <;> try simp (maxSteps := 4000000) only [go_sem, seval, Nat.lt_irrefl] <;> try decide)
 | refine zC ?_
 | refine kt ?_
 | refine And.intro ?_ ?_
 | ((first | refine awp_stp rfl ?_ | refine awp_draw (by kernel_rfl) (by kernel_rfl) ?_ | refine Imp.le2 ?_ | refine go_split (fun _h => ?_) (fun _h => ?_)) <;> try simp (maxSteps := 4000000) only [go_sem, seval])
 | intro _h
 | refine zA ?_
 | refine zB ?_
 | refine zF ?_ ?_
 | (show zE _ _ = true; kernel_rfl)
 | (show zD _ _ = true; kernel_rfl)
 | (omega))) <;> simp [*]
theorem numI_c (l : List Int) (hl : l.length ≤ 1000000) (hx : ∀ x ∈ l, -9223372036854775808 ≤ x ∧ x ≤ 9223372036854775807) : SemF Try.prog 111 [sl l, .fn (.func 97) [] [.ptr 1 0 0]] [N0 0, N1] (.int .i64 (if (numU 0 l).1 = l.length then -1 else (numU 0 l).1)) [N0 (numU 0 l).2, N1] := by
 have hq := fun v i hv (hi : i < l.length) => num2_c v (l.getD i 0) hv (hx _ (by rw [List.getD_eq_getElem?_getD, List.getElem?_eq_getElem hi]; exact List.getElem_mem hi)).2 (hx _ (by rw [List.getD_eq_getElem?_getD, List.getElem?_eq_getElem hi]; exact List.getElem_mem hi)).1
 have hd : ∀ i, i < l.length → l.drop i = l.getD i 0 :: l.drop (i + 1) := fun i hi => by
  rw [List.drop_eq_getElem_cons hi]; simp [List.getD_eq_getElem?_getD, hi]
 obtain ⟨R, hR⟩ : ∃ R, numU 0 l = R := ⟨_, rfl⟩
 rw [hR]
 simp only [N0, N1] at hq ⊢
 (refine zH (ys := [.int .i64 (if R.1 = l.length then -1 else R.1)]) (fun w args => Try.call111 ..) Try.func111 rfl (fun w0 m0 wz => ?_); simp only [Try.ntmps111, Try.results111, zN, zP, zU, zV, slR, slC, zL, sl, List.toList_toArray, List.cons_append, List.nil_append, List.length_cons, List.length_nil, Nat.reduceAdd, Nat.reduceSub])
 (repeat' (first
 | refine zC ?_
 | refine kt ?_
 | refine And.intro ?_ ?_
 | ((first | refine awp_stp rfl ?_ | refine awp_draw (by kernel_rfl) (by kernel_rfl) ?_ | refine Imp.le2 ?_ | refine go_split (fun _h => ?_) (fun _h => ?_)) <;> try simp (maxSteps := 4000000) only [go_sem, seval])
 | intro _h
 | refine zA ?_
 | refine zB ?_
 | refine zF ?_ ?_
 | (show zE _ _ = true; kernel_rfl)
 | (show zD _ _ = true; kernel_rfl)
 | (omega)))
 refine awp_loopJ (fun y : Nat × Int => y.1 ≤ l.length ∧ (0 ≤ y.2 ∧ y.2 ≤ y.1) ∧ R = (y.1 + (numU y.2 (l.drop y.1)).1, (numU y.2 (l.drop y.1)).2)) (fun y => ⟨mkT 19 [(0, sl l), (1, .fn (.func 97) [] [.ptr 1 0 0]), (6, sl l), (7, .int .i64 l.length), (8, .int .i64 y.1)], [N0 y.2, N1], []⟩) (fun y => l.length - y.1) (0, 0) ⟨Nat.zero_le _, by simp, by simp [hR]⟩ (.le2 ?_) ?_
 ·simp only [N0, N1]; simp (maxSteps := 4000000) only [go_sem, seval]
  all_goals first | rfl | exact ⟨rfl, rfl⟩ | exact ⟨rfl, rfl, rfl⟩
 ·rintro ⟨i, v⟩ ⟨hi, hv, hj⟩
  clear hR
  simp only at hi hv hj
  rcases Nat.lt_or_eq_of_le hi with hi1 | hi1
  ·have hqi := hq v i (by omega) hi1
   rw [hd i hi1] at hj
   simp only [numU] at hj
   obtain ⟨q, hqe⟩ : ∃ q, decide (0 ≤ l.getD i 0 ∧ l.getD i 0 ≤ v) = q := ⟨_, rfl⟩
   rw [hqe] at hqi
   cases q with
   | true =>
     have hqt := of_decide_eq_true hqe
     rw [if_pos hqt] at hj
     simp only [N0, N1]; simp (maxSteps := 4000000) only [go_sem, seval]
     (repeat' (first
 | (refine zJ 5 rfl ?_; simp (maxSteps := 4000000) only [go_sem, seval, List.take_succ_cons, List.take_zero]; (repeat refine And.intro (by omega) ?_); refine zQ (hqi) [0, 1] rfl ?_ ?_ rfl ?_ <;> try simp (maxSteps := 4000000) only [go_sem, seval, Nat.lt_irrefl] <;> try decide)
 | ((omega))
 | ((exfalso; omega))
 | refine zC ?_
 | refine kt ?_
 | refine And.intro ?_ ?_
 | ((first | refine awp_stp rfl ?_ | refine awp_draw (by kernel_rfl) (by kernel_rfl) ?_ | refine Imp.le2 ?_ | refine go_split (fun _h => ?_) (fun _h => ?_)) <;> try simp (maxSteps := 4000000) only [go_sem, seval])
 | intro _h
 | refine zA ?_
 | refine zB ?_
 | refine zF ?_ ?_
 | (show zE _ _ = true; kernel_rfl)
 | (show zD _ _ = true; kernel_rfl)
 | (omega)))
     refine ⟨(i + 1, nxW v (l.getD i 0)), ⟨by show i + 1 ≤ l.length; omega, ?_, ?_⟩, by show l.length - (i + 1) < l.length - i; omega, .le2 ?_⟩
     ·have hw : nxW v (l.getD i 0) = max v (l.getD i 0 + 1) := by unfold nxW; rw [if_neg (by omega)]
      show 0 ≤ nxW v (l.getD i 0) ∧ nxW v (l.getD i 0) ≤ ((i + 1 : Nat) : Int)
      rw [hw]; omega
     ·rw [hj]
      simp only [Prod.mk.injEq, and_true]
      omega
     ·simp (maxSteps := 4000000) only [go_sem, seval]
      all_goals first | rfl | exact ⟨rfl, rfl⟩ | trace_state
   | false =>
     rw [if_neg (of_decide_eq_false hqe)] at hj
     subst hj
     simp only [N0, N1]; simp (maxSteps := 4000000) only [go_sem, seval]
     (repeat' (first
 | (refine zJ 5 rfl ?_; simp (maxSteps := 4000000) only [go_sem, seval, List.take_succ_cons, List.take_zero]; (repeat refine And.intro (by omega) ?_); refine zQ (hqi) [0, 1] rfl ?_ ?_ rfl ?_ <;> try simp (maxSteps := 4000000) only [go_sem, seval, Nat.lt_irrefl] <;> try decide)
 | ((omega))
 | ((exfalso; omega))
 | refine zC ?_
 | refine kt ?_
 | refine And.intro ?_ ?_
 | ((first | refine awp_stp rfl ?_ | refine awp_draw (by kernel_rfl) (by kernel_rfl) ?_ | refine Imp.le2 ?_ | refine go_split (fun _h => ?_) (fun _h => ?_)) <;> try simp (maxSteps := 4000000) only [go_sem, seval])
 | intro _h
 | refine zA ?_
 | refine zB ?_
 | refine zF ?_ ?_
 | (show zE _ _ = true; kernel_rfl)
 | (show zD _ _ = true; kernel_rfl)
 | (omega)))
     all_goals first | (rw [if_neg (by omega)]; rfl) | trace_state
  ·subst hi1
   simp only [List.drop_length, numU] at hj
   subst hj
   simp only [N0, N1]; simp (maxSteps := 4000000) only [go_sem, seval]
   (repeat' (first
 | ((exfalso; omega))
 | refine zC ?_
 | refine kt ?_
 | refine And.intro ?_ ?_
 | ((first | refine awp_stp rfl ?_ | refine awp_draw (by kernel_rfl) (by kernel_rfl) ?_ | refine Imp.le2 ?_ | refine go_split (fun _h => ?_) (fun _h => ?_)) <;> try simp (maxSteps := 4000000) only [go_sem, seval])
 | intro _h
 | refine zA ?_
 | refine zB ?_
 | refine zF ?_ ?_
 | (show zE _ _ = true; kernel_rfl)
 | (show zD _ _ = true; kernel_rfl)
 | (omega)))
theorem numU_num {s : List Int} (hl : s.length ≤ 1000000) : ∀ (f i : Nat), s.length - i = f → i ≤ s.length → NumP s i → ((numU (nxK s i) (s.drop i)).1 = s.length - i ↔ NumP s s.length)
 | 0, i, hf, hi, hn => by
   have : i = s.length := by omega
   subst this
   simp [numU, hn]
 | f + 1, i, hf, hi, hn => by
   have hi1 : i < s.length := by omega
   have hd : s.drop i = s.getD i 0 :: s.drop (i + 1) := by
    rw [List.drop_eq_getElem_cons hi1]; simp [List.getD_eq_getElem?_getD, hi1]
   rw [hd]
   simp only [numU]
   by_cases hc : 0 ≤ s.getD i 0 ∧ s.getD i 0 ≤ nxK s i
   ·rw [if_pos hc]
    have hn2 : NumP s (i + 1) := fun j hj => by
     by_cases e : j = i
     ·subst e; exact hc
     ·exact hn j (by omega)
    have hx : nxW (nxK s i) (s.getD i 0) = nxK s (i + 1) := by
     have hb := nxK_bd (s := s) i
     unfold nxW
     rw [if_neg (by omega)]
     simp only [nxK]; split <;> omega
    rw [hx, ← numU_num hl f (i + 1) (by omega) (by omega) hn2]
    simp only
    omega
   ·rw [if_neg hc]
    simp only
    constructor
    ·intro h; omega
    ·intro h; exact absurd (h i hi1) hc
theorem numbered_c (l : List Int) (hl : l.length ≤ 1000000) (hx : ∀ x ∈ l, -9223372036854775808 ≤ x ∧ x ≤ 9223372036854775807) : zO Try.prog 71 [sl l] (.bool (numB l)) := by
 have h := numI_c l hl hx
 have hb : numB l = decide ((numU 0 l).1 = l.length) := by
  have := numU_num (s := l) hl l.length 0 rfl (Nat.zero_le _) (fun j hj => by omega)
  unfold numB
  simp only [nxK, List.drop_zero, Nat.sub_zero] at this
  by_cases hc : (numU 0 l).1 = l.length
  ·rw [decide_eq_true hc, decide_eq_true (this.1 hc)]
  ·rw [decide_eq_false hc, decide_eq_false (fun h => hc (this.2 h))]
 have hle := numU_le (l := l) (v := 0)
 have he : decide (0 ≤ (if (numU 0 l).1 = l.length then (-1 : Int) else (numU 0 l).1)) = !numB l := by
  rw [hb]
  by_cases hc : (numU 0 l).1 = l.length
  ·rw [if_pos hc, decide_eq_true hc]; rfl
  ·rw [if_neg hc, decide_eq_false hc]; simp
 generalize (if (numU 0 l).1 = l.length then (-1 : Int) else (numU 0 l).1) = r at *
 generalize (numU 0 l).2 = v2 at *
 generalize numB l = q at *
 clear hb hle
 have h2 : SemF Try.prog 96 [sl l, .fn (.func 97) [] [.ptr 1 0 0]] [N0 0, N1] (.bool (!q)) [N0 v2, N1] := by
  rw [← he]
  clear he
  simp only [N0, N1, sl] at h ⊢
  (refine zH (ys := [.bool (decide (0 ≤ r))]) (fun w args => Try.call96 ..) Try.func96 rfl (fun w0 m0 wz => ?_); simp only [Try.ntmps96, Try.results96, zN, zP, zU, zV, slR, slC, zL, sl, List.toList_toArray, List.cons_append, List.nil_append, List.length_cons, List.length_nil, Nat.reduceAdd, Nat.reduceSub])
  (repeat' (first
 | (refine zJ 2 rfl ?_; simp (maxSteps := 4000000) only [go_sem, seval, List.take_succ_cons, List.take_zero]; (repeat refine And.intro (by omega) ?_); refine zQ (h) [0, 1] rfl ?_ ?_ rfl ?_ <;> try simp (maxSteps := 4000000) only [go_sem, seval, Nat.lt_irrefl] <;> try decide)
 | refine zC ?_
 | refine kt ?_
 | refine And.intro ?_ ?_
 | ((first | refine awp_stp rfl ?_ | refine awp_draw (by kernel_rfl) (by kernel_rfl) ?_ | refine Imp.le2 ?_ | refine go_split (fun _h => ?_) (fun _h => ?_)) <;> try simp (maxSteps := 4000000) only [go_sem, seval])
 | intro _h
 | refine zA ?_
 | refine zB ?_
 | refine zF ?_ ?_
 | (show zE _ _ = true; kernel_rfl)
 | (show zD _ _ = true; kernel_rfl)
 | (omega))) <;> simp [*]
 have h3 : SemF Try.prog 68 [sl l, .fn (.func 99) [] [.ptr 0 0 0]] [N0 0] (.bool q) [N0 v2] := by
  simp only [N0, N1, sl] at h2 ⊢
  (refine zH (ys := [.bool q]) (fun w args => Try.call68 ..) Try.func68 rfl (fun w0 m0 wz => ?_); simp only [Try.ntmps68, Try.results68, zN, zP, zU, zV, slR, slC, zL, sl, List.toList_toArray, List.cons_append, List.nil_append, List.length_cons, List.length_nil, Nat.reduceAdd, Nat.reduceSub])
  (repeat' (first
 | (refine zJ 2 rfl ?_; simp (maxSteps := 4000000) only [go_sem, seval, List.take_succ_cons, List.take_zero]; (repeat refine And.intro (by omega) ?_); refine zQ (h2) [0, 1] rfl ?_ ?_ rfl ?_ <;> try simp (maxSteps := 4000000) only [go_sem, seval, Nat.lt_irrefl] <;> try decide)
 | refine zC ?_
 | refine kt ?_
 | refine And.intro ?_ ?_
 | ((first | refine awp_stp rfl ?_ | refine awp_draw (by kernel_rfl) (by kernel_rfl) ?_ | refine Imp.le2 ?_ | refine go_split (fun _h => ?_) (fun _h => ?_)) <;> try simp (maxSteps := 4000000) only [go_sem, seval])
 | intro _h
 | refine zA ?_
 | refine zB ?_
 | refine zF ?_ ?_
 | (show zE _ _ = true; kernel_rfl)
 | (show zD _ _ = true; kernel_rfl)
 | (omega)))
  all_goals first | (rw [Bool.not_not] at _h; exact _h.symm) | trace_state
 simp only [N0, sl] at h3 ⊢
 (refine zG (fun w args => Try.call71 ..) Try.func71 rfl (fun w0 m0 wz => ?_); simp only [Try.ntmps71, Try.results71, zN, zP, zU, zV, slR, slC, zL, sl, List.toList_toArray, List.cons_append, List.nil_append, List.length_cons, List.length_nil, Nat.reduceAdd, Nat.reduceSub])
 (repeat' (first
 | (refine zJ 2 rfl ?_; simp (maxSteps := 4000000) only [go_sem, seval, List.take_succ_cons, List.take_zero]; (repeat refine And.intro (by omega) ?_); refine zQ (h3) [0] rfl ?_ ?_ rfl ?_ <;> try simp (maxSteps := 4000000) only [go_sem, seval, Nat.lt_irrefl] <;> try decide)
 | refine zC ?_
 | refine kt ?_
 | refine And.intro ?_ ?_
 | ((first | refine awp_stp rfl ?_ | refine awp_draw (by kernel_rfl) (by kernel_rfl) ?_ | refine Imp.le2 ?_ | refine go_split (fun _h => ?_) (fun _h => ?_)) <;> try simp (maxSteps := 4000000) only [go_sem, seval])
 | intro _h
 | refine zA ?_
 | refine zB ?_
 | refine zF ?_ ?_
 | (show zE _ _ = true; kernel_rfl)
 | (show zD _ _ = true; kernel_rfl)
 | (omega)))
 all_goals first | (exact _h.symm) | trace_state
def hldB (C D : List Int) (c : Clm) : Bool := if c.kind = 0 then decide (D.getD c.a.toNat 0 < D.getD c.b.toNat 0) else if c.kind = 1 then decide (C.getD c.a.toNat 0 = C.getD c.b.toNat 0) else !decide (C.getD c.a.toNat 0 = C.getD c.b.toNat 0)
theorem hold_c (C D : List Int) (c : Clm) (hk : 0 ≤ c.kind ∧ c.kind ≤ 2) (ha : 0 ≤ c.a ∧ c.a < C.length) (hb : 0 ≤ c.b ∧ c.b < C.length) (hl : C.length = D.length) (hn : C.length ≤ 1000000) : zO Try.prog 76 [.agg [sl C, sl D], .agg (zV c)] (.bool (hldB C D c)) := by
 obtain ⟨k, a, b⟩ := c
 simp only at hk ha hb ⊢
 unfold hldB
 simp only
 obtain ⟨x, rfl⟩ := Int.eq_ofNat_of_zero_le ha.1
 obtain ⟨y, rfl⟩ := Int.eq_ofNat_of_zero_le hb.1
 simp only [Int.toNat_natCast]
 have n1 := fun K => show optK (nth (zS C) x) K = K (.int .i64 (C.getD x 0)) by rw [ints_nth (by omega)]; rfl
 have n2 := fun K => show optK (nth (zS C) y) K = K (.int .i64 (C.getD y 0)) by rw [ints_nth (by omega)]; rfl
 have n3 := fun K => show optK (nth (zS D) x) K = K (.int .i64 (D.getD x 0)) by rw [ints_nth (by omega)]; rfl
 have n4 := fun K => show optK (nth (zS D) y) K = K (.int .i64 (D.getD y 0)) by rw [ints_nth (by omega)]; rfl
 simp only [sl, zV]
 by_cases h0 : k = 0
 ·rw [if_pos h0]
  subst h0
  (refine zG (fun w args => Try.call76 ..) Try.func76 rfl (fun w0 m0 wz => ?_); simp only [Try.ntmps76, Try.results76, zN, zP, zU, zV, slR, slC, zL, sl, List.toList_toArray, List.cons_append, List.nil_append, List.length_cons, List.length_nil, Nat.reduceAdd, Nat.reduceSub])
  (repeat' (first
 | ((omega))
 | ((exfalso; omega))
 | refine zC ?_
 | refine kt ?_
 | refine And.intro ?_ ?_
 | ((first | refine awp_stp rfl ?_ | refine awp_draw (by kernel_rfl) (by kernel_rfl) ?_ | refine Imp.le2 ?_ | refine go_split (fun _h => ?_) (fun _h => ?_)) <;> try simp (maxSteps := 4000000) only [go_sem, seval, n1, n2, n3, n4])
 | intro _h
 | refine zA ?_
 | refine zB ?_
 | refine zF ?_ ?_
 | (show zE _ _ = true; kernel_rfl)
 | (show zD _ _ = true; kernel_rfl)
 | (omega)))
  all_goals first | exact (decide_eq_true ‹_›).symm | exact (decide_eq_false ‹_›).symm | trace_state
 ·rw [if_neg h0]
  by_cases h1 : k = 1
  ·rw [if_pos h1]
   subst h1
   (refine zG (fun w args => Try.call76 ..) Try.func76 rfl (fun w0 m0 wz => ?_); simp only [Try.ntmps76, Try.results76, zN, zP, zU, zV, slR, slC, zL, sl, List.toList_toArray, List.cons_append, List.nil_append, List.length_cons, List.length_nil, Nat.reduceAdd, Nat.reduceSub])
   (repeat' (first
 | ((omega))
 | ((exfalso; omega))
 | refine zC ?_
 | refine kt ?_
 | refine And.intro ?_ ?_
 | ((first | refine awp_stp rfl ?_ | refine awp_draw (by kernel_rfl) (by kernel_rfl) ?_ | refine Imp.le2 ?_ | refine go_split (fun _h => ?_) (fun _h => ?_)) <;> try simp (maxSteps := 4000000) only [go_sem, seval, n1, n2, n3, n4])
 | intro _h
 | refine zA ?_
 | refine zB ?_
 | refine zF ?_ ?_
 | (show zE _ _ = true; kernel_rfl)
 | (show zD _ _ = true; kernel_rfl)
 | (omega)))
   all_goals first | exact (decide_eq_true ‹_›).symm | exact (decide_eq_false ‹_›).symm | trace_state
  ·rw [if_neg h1]
   (refine zG (fun w args => Try.call76 ..) Try.func76 rfl (fun w0 m0 wz => ?_); simp only [Try.ntmps76, Try.results76, zN, zP, zU, zV, slR, slC, zL, sl, List.toList_toArray, List.cons_append, List.nil_append, List.length_cons, List.length_nil, Nat.reduceAdd, Nat.reduceSub])
   (repeat' (first
 | ((omega))
 | ((exfalso; omega))
 | refine zC ?_
 | refine kt ?_
 | refine And.intro ?_ ?_
 | ((first | refine awp_stp rfl ?_ | refine awp_draw (by kernel_rfl) (by kernel_rfl) ?_ | refine Imp.le2 ?_ | refine go_split (fun _h => ?_) (fun _h => ?_)) <;> try simp (maxSteps := 4000000) only [go_sem, seval, n1, n2, n3, n4])
 | intro _h
 | refine zA ?_
 | refine zB ?_
 | refine zF ?_ ?_
 | (show zE _ _ = true; kernel_rfl)
 | (show zD _ _ = true; kernel_rfl)
 | (omega)))
   all_goals first | (rw [decide_eq_true (p := C.getD x 0 = C.getD y 0) ‹_›]; rfl) | (rw [decide_eq_false (p := C.getD x 0 = C.getD y 0) ‹_›]; rfl) | trace_state
def fnH (C D : List Int) : AV := .fn (.func 76) [.agg [sl C, sl D]] []
theorem holds_c (C D : List Int) (l : List Clm) (q : Clm → Bool) (hl : l.length ≤ 1000000) (hq : ∀ i, i < l.length → zO Try.prog 76 [.agg [sl C, sl D], .agg (zV (l.getD i default))] (.bool (q (l.getD i default)))) :
 SemF Try.prog 75 [slC l, fnH C D] [] (.bool (l.all q)) [] := by
 have hany : l.all q = !l.any (fun x => !q x) := by simp [List.all_eq_not_any_not]
 have h1 : ∀ i, i < l.length → SemF Try.prog 102 [.agg (zV (l.getD i default)), .ptr 0 0 0] [some (.cells 125 1 0 [fnH C D])] (.bool (!q (l.getD i default))) [some (.cells 125 1 0 [fnH C D])] := fun i hi => by
  have h := hq i hi
  simp only [fnH, sl, zV] at h ⊢
  generalize q (l.getD i default) = b at *
  (refine zH (ys := [.bool (!b)]) (fun w args => Try.call102 ..) Try.func102 rfl (fun w0 m0 wz => ?_); simp only [Try.ntmps102, Try.results102, zN, zP, zU, zV, slR, slC, zL, sl, List.toList_toArray, List.cons_append, List.nil_append, List.length_cons, List.length_nil, Nat.reduceAdd, Nat.reduceSub])
  (repeat' (first
 | refine zC ?_
 | refine kt ?_
 | refine And.intro ?_ ?_
 | ((first | refine awp_stp rfl ?_ | refine awp_draw (by kernel_rfl) (by kernel_rfl) ?_ | refine Imp.le2 ?_ | refine callK_of (h) ?_ | refine go_split (fun _h => ?_) (fun _h => ?_)) <;> try simp (maxSteps := 4000000) only [go_sem, seval])
 | intro _h
 | refine zA ?_
 | refine zB ?_
 | refine zF ?_ ?_
 | (show zE _ _ = true; kernel_rfl)
 | (show zD _ _ = true; kernel_rfl)
 | (omega))) <;> simp [*]
 have h2 : SemF Try.prog 113 [slC l, .fn (.func 102) [] [.ptr 0 0 0]] [some (.cells 125 1 0 [fnH C D])] (.int .i64 (idxOf (fun c => !q c) l)) [some (.cells 125 1 0 [fnH C D])] := by
  simp only [fnH, sl, slC, zV] at h1 ⊢
  (refine zH (ys := [.int .i64 (idxOf (fun c => !q c) l)]) (fun w args => Try.call113 ..) Try.func113 rfl (fun w0 m0 wz => ?_); simp only [Try.ntmps113, Try.results113, zN, zP, zU, zV, slR, slC, zL, sl, List.toList_toArray, List.cons_append, List.nil_append, List.length_cons, List.length_nil, Nat.reduceAdd, Nat.reduceSub])
  (repeat' (first
 | refine zC ?_
 | refine kt ?_
 | refine And.intro ?_ ?_
 | ((first | refine awp_stp rfl ?_ | refine awp_draw (by kernel_rfl) (by kernel_rfl) ?_ | refine Imp.le2 ?_ | refine go_split (fun _h => ?_) (fun _h => ?_)) <;> try simp (maxSteps := 4000000) only [go_sem, seval])
 | intro _h
 | refine zA ?_
 | refine zB ?_
 | refine zF ?_ ?_
 | (show zE _ _ = true; kernel_rfl)
 | (show zD _ _ = true; kernel_rfl)
 | (omega)))
  refine awp_loopJ (fun i : Nat => i ≤ l.length ∧ ∀ j, j < i → (!q (l.getD j default)) = false) (fun i => ⟨mkT 19 [(0, slC l), (1, .fn (.func 102) [] [.ptr 0 0 0]), (6, slC l), (7, .int .i64 l.length), (8, .int .i64 i)], [some (.cells 125 1 0 [.fn (.func 76) [.agg [.psl false C.length (zS C), .psl false D.length (zS D)]] []])], []⟩) (fun i => l.length - i) 0 ⟨Nat.zero_le _, by simp⟩ (.le2 ?_) ?_
  ·simp only [slC]; simp (maxSteps := 4000000) only [go_sem, seval]
   all_goals first | rfl | exact ⟨rfl, rfl⟩ | exact ⟨rfl, rfl, rfl⟩ | trace_state
  ·rintro i ⟨hi, hj⟩
   rcases Nat.lt_or_eq_of_le hi with hi1 | hi1
   ·have hqi := h1 i hi1
    simp only [slC]; simp (maxSteps := 4000000) only [go_sem, seval]
    (repeat' (first
 | (refine zJ 5 rfl ?_; simp (maxSteps := 4000000) only [go_sem, seval, List.take_succ_cons, List.take_zero]; (repeat refine And.intro (by omega) ?_); refine zQ (hqi) [0] rfl ?_ ?_ rfl ?_ <;> try simp (maxSteps := 4000000) only [go_sem, seval, Nat.lt_irrefl] <;> try decide)
 | refine zC ?_
 | refine kt ?_
 | refine And.intro ?_ ?_
 | ((first | refine awp_stp rfl ?_ | refine awp_draw (by kernel_rfl) (by kernel_rfl) ?_ | refine Imp.le2 ?_ | refine go_split (fun _h => ?_) (fun _h => ?_)) <;> try simp (maxSteps := 4000000) only [go_sem, seval])
 | intro _h
 | refine zA ?_
 | refine zB ?_
 | refine zF ?_ ?_
 | (show zE _ _ = true; kernel_rfl)
 | (show zD _ _ = true; kernel_rfl)
 | (omega)))
    ·exact idxOf_some (d := default) (by omega) ‹_› hj
    ·refine ⟨i + 1, ⟨by omega, fun j hji => ?_⟩, by omega, .le2 ?_⟩
     ·rcases Nat.lt_succ_iff_lt_or_eq.1 hji with h | rfl
      ·exact hj j h
      ·assumption
     ·simp (maxSteps := 4000000) only [go_sem, seval]
      omega
   ·subst hi1
    simp only [slC]; simp (maxSteps := 4000000) only [go_sem, seval]
    (repeat' (first
 | ((exfalso; omega))
 | refine zC ?_
 | refine kt ?_
 | refine And.intro ?_ ?_
 | ((first | refine awp_stp rfl ?_ | refine awp_draw (by kernel_rfl) (by kernel_rfl) ?_ | refine Imp.le2 ?_ | refine go_split (fun _h => ?_) (fun _h => ?_)) <;> try simp (maxSteps := 4000000) only [go_sem, seval])
 | intro _h
 | refine zA ?_
 | refine zB ?_
 | refine zF ?_ ?_
 | (show zE _ _ = true; kernel_rfl)
 | (show zD _ _ = true; kernel_rfl)
 | (omega)))
    all_goals first | exact idxOf_none (d := default) (fun j hjl => hj j (by omega)) | trace_state
 have h3 : SemF Try.prog 101 [slC l, .fn (.func 102) [] [.ptr 0 0 0]] [some (.cells 125 1 0 [fnH C D])] (.bool (l.any fun c => !q c)) [some (.cells 125 1 0 [fnH C D])] := by
  rw [← idxOf_ge]
  simp only [fnH, sl, slC] at h2 ⊢
  (refine zH (ys := [.bool (decide (0 ≤ idxOf (fun c => !q c) l))]) (fun w args => Try.call101 ..) Try.func101 rfl (fun w0 m0 wz => ?_); simp only [Try.ntmps101, Try.results101, zN, zP, zU, zV, slR, slC, zL, sl, List.toList_toArray, List.cons_append, List.nil_append, List.length_cons, List.length_nil, Nat.reduceAdd, Nat.reduceSub])
  (repeat' (first
 | (refine zJ 2 rfl ?_; simp (maxSteps := 4000000) only [go_sem, seval, List.take_succ_cons, List.take_zero]; (repeat refine And.intro (by omega) ?_); refine zQ (h2) [0] rfl ?_ ?_ rfl ?_ <;> try simp (maxSteps := 4000000) only [go_sem, seval, Nat.lt_irrefl] <;> try decide)
 | refine zC ?_
 | refine kt ?_
 | refine And.intro ?_ ?_
 | ((first | refine awp_stp rfl ?_ | refine awp_draw (by kernel_rfl) (by kernel_rfl) ?_ | refine Imp.le2 ?_ | refine go_split (fun _h => ?_) (fun _h => ?_)) <;> try simp (maxSteps := 4000000) only [go_sem, seval])
 | intro _h
 | refine zA ?_
 | refine zB ?_
 | refine zF ?_ ?_
 | (show zE _ _ = true; kernel_rfl)
 | (show zD _ _ = true; kernel_rfl)
 | (omega))) <;> simp [*]
 rw [hany]
 generalize (l.any fun c => !q c) = b at *
 simp only [fnH, sl, slC] at h3 ⊢
 (refine zH (ys := [.bool (!b)]) (fun w args => Try.call75 ..) Try.func75 rfl (fun w0 m0 wz => ?_); simp only [Try.ntmps75, Try.results75, zN, zP, zU, zV, slR, slC, zL, sl, List.toList_toArray, List.cons_append, List.nil_append, List.length_cons, List.length_nil, Nat.reduceAdd, Nat.reduceSub])
 (repeat' (first
 | (refine zJ 2 rfl ?_; simp (maxSteps := 4000000) only [go_sem, seval, List.take_succ_cons, List.take_zero]; (repeat refine And.intro (by omega) ?_); refine zQ (h3) [0] rfl ?_ ?_ rfl ?_ <;> try simp (maxSteps := 4000000) only [go_sem, seval, Nat.lt_irrefl] <;> try decide)
 | refine zC ?_
 | refine kt ?_
 | refine And.intro ?_ ?_
 | ((first | refine awp_stp rfl ?_ | refine awp_draw (by kernel_rfl) (by kernel_rfl) ?_ | refine Imp.le2 ?_ | refine go_split (fun _h => ?_) (fun _h => ?_)) <;> try simp (maxSteps := 4000000) only [go_sem, seval])
 | intro _h
 | refine zA ?_
 | refine zB ?_
 | refine zF ?_ ?_
 | (show zE _ _ = true; kernel_rfl)
 | (show zD _ _ = true; kernel_rfl)
 | (omega))) <;> simp [*]
def inR (t : Ann) (D : List Int) (j : Nat) : Prop := (rp t j).lo ≤ D.getD j 0 ∧ D.getD j 0 ≤ (rp t j).hi
def badP (t : Ann) (C D : List Int) (j k : Nat) : Prop := (C.getD j 0 = C.getD k 0 ∧ ((rp t j).slope ≠ (rp t k).slope ∨ 0 < max (D.getD j 0 - D.getD k 0) (D.getD k 0 - D.getD j 0))) ∨ (C.getD j 0 ≠ C.getD k 0 ∧ (rp t j).slope = (rp t k).slope ∧ max (D.getD j 0 - D.getD k 0) (D.getD k 0 - D.getD j 0) < max t.rest 1)
def RgP (t : Ann) (C D : List Int) (i : Nat) : Prop := ∀ j, j < i → inR t D j ∧ ∀ k, k < j → ¬ badP t C D j k
structure RightP (t : Ann) (C D : List Int) : Prop where
 fault : faultA t = 0
 lc : C.length = t.reports.length
 ld : D.length = t.reports.length
 num : numB C = true
 rg : RgP t C D t.reports.length
 hold : t.claims.all (hldB C D) = true
open Classical in
noncomputable def proveB (t : Ann) (C D : List Int) : Bool := decide (RightP t C D)
open Classical in
theorem proveB_iff {t : Ann} {C D : List Int} : proveB t C D = true ↔ RightP t C D := by unfold proveB; exact decide_eq_true_iff
theorem prove_c (t : Ann) (C D : List Int) (hb : annOK t) (ht : faultA t = 0 → AnnOK t) (hC : C.length ≤ 1000000) (hD : D.length ≤ 1000000) (hx : ∀ x ∈ C, -9223372036854775808 ≤ x ∧ x ≤ 9223372036854775807) : zO Try.prog 43 [.agg (zL t), .agg [sl C, sl D]] (.bool (proveB t C D)) := by
 have hno : ¬ RightP t C D → false = proveB t C D := fun h => by
  have h1 : ¬ proveB t C D = true := fun h2 => h (proveB_iff.1 h2)
  simpa using h1
 have hyes : RightP t C D → true = proveB t C D := fun h => (proveB_iff.2 h).symm
 generalize proveB t C D = r at *
 have hch := check_c t hb
 have hnu := numbered_c C hC hx
 by_cases hA : faultA t = 0 ∧ C.length = t.reports.length ∧ D.length = t.reports.length ∧ numB C = true
 ·obtain ⟨h0, h1, h2, h3⟩ := hA
  have hok := ht h0
  have hr := hok.reports
  have hap := apart_c t
  rw [h0] at hch
  rw [h3] at hnu
  have hno1 : ∀ j, j < t.reports.length → ¬ inR t D j → false = r := fun j hj h => hno fun hp => h (hp.rg j hj).1
  have hno2 : ∀ j k, j < t.reports.length → k < j → badP t C D j k → false = r := fun j k hj hk h => hno fun hp => (hp.rg j hj).2 k hk h
  have hall : RgP t C D t.reports.length → t.claims.all (hldB C D) = r := fun h => by
   cases hc : t.claims.all (hldB C D) with
   | true => exact hyes ⟨h0, h1, h2, h3, h, hc⟩
   | false => exact hno fun hp => by rw [hp.hold] at hc; cases hc
  have hho := holds_c C D t.claims (hldB C D) hb.2 (fun i hi => by
   have := hok.clm i hi
   exact hold_c C D _ this.1 (by rw [h1]; exact this.2.1) (by rw [h1]; exact this.2.2) (by omega) hC)
  clear hno hyes
  generalize t.claims.all (hldB C D) = cb at *
  simp only [zL, slR, slC, sl, fnH, h1, h2] at hch hnu hap hho ⊢
  (refine zG (fun w args => Try.call43 ..) Try.func43 rfl (fun w0 m0 wz => ?_); simp only [Try.ntmps43, Try.results43, zN, zP, zU, zV, slR, slC, zL, sl, List.toList_toArray, List.cons_append, List.nil_append, List.length_cons, List.length_nil, Nat.reduceAdd, Nat.reduceSub])
  (repeat' (first
 | ((omega))
 | ((exfalso; omega))
 | refine zC ?_
 | refine kt ?_
 | refine And.intro ?_ ?_
 | ((first | refine awp_stp rfl ?_ | refine awp_draw (by kernel_rfl) (by kernel_rfl) ?_ | refine Imp.le2 ?_ | refine callK_of (hch) ?_ | refine callK_of (hnu) ?_ | refine go_split (fun _h => ?_) (fun _h => ?_)) <;> try simp (maxSteps := 4000000) only [go_sem, seval])
 | intro _h
 | refine zA ?_
 | refine zB ?_
 | refine zF ?_ ?_
 | (show zE _ _ = true; kernel_rfl)
 | (show zD _ _ = true; kernel_rfl)
 | (omega)))
  refine awp_loopJ (fun i : Nat => i ≤ t.reports.length ∧ RgP t C D i) (fun i => ⟨mkT 135 [(2, .ptr 0 0 0), (3, .ptr 1 0 0), (5, .int .i64 t.reports.length), (40, .psl false t.reports.length (recs zU t.reports)), (41, .int .i64 t.reports.length), (42, .int .i64 i)], [some (.cells 35 1 0 [.psl false t.reports.length (recs zU t.reports), .psl false t.claims.length (recs zV t.claims), .int .i64 t.rest]), some (.cells 61 1 0 [.psl false t.reports.length (zS C), .psl false t.reports.length (zS D)])], []⟩) (fun i => t.reports.length - i) 0 ⟨Nat.zero_le _, fun j hj => by omega⟩ (.le2 ?_) ?_
  ·simp (maxSteps := 4000000) only [go_sem, seval]
   all_goals first | rfl | trace_state
  ·rintro i ⟨hi, hI⟩
   rcases Nat.lt_or_eq_of_le hi with hi1 | hi1
   ·have n1 := fun (k : Nat) (hk : k < t.reports.length) K => show optK (nth (zS C) k) K = K (.int .i64 (C.getD k 0)) by rw [ints_nth (by omega)]; rfl
    have n2 := fun (k : Nat) (hk : k < t.reports.length) K => show optK (nth (zS D) k) K = K (.int .i64 (D.getD k 0)) by rw [ints_nth (by omega)]; rfl
    have n2i := n2 i hi1
    have hwin : window (recs zU t.reports) 0 (i * 3) = recs zU (t.reports.take i) := by
     have e : recs zU t.reports = recs zU (t.reports.take i) ++ recs zU (t.reports.drop i) := by
      have : recs zU (t.reports.take i ++ t.reports.drop i) = recs zU (t.reports.take i) ++ recs zU (t.reports.drop i) := by simp only [recs, List.flatMap_append]
      rw [← this, List.take_append_drop]
     simp only [window, List.drop_zero]
     rw [e]
     apply List.take_left'
     rw [len_R, List.length_take, Nat.min_eq_left (Nat.le_of_lt hi1)]
    have hha := has_c (t.reports.getD i default).lo (t.reports.getD i default).hi (D.getD i 0)
    by_cases hin : inR t D i
    ·have hin' : (t.reports.getD i default).lo ≤ D.getD i 0 ∧ D.getD i 0 ≤ (t.reports.getD i default).hi := hin
     rw [decide_eq_true hin'] at hha
     simp (maxSteps := 4000000) only [go_sem, seval]
     (repeat' (first
 | ((omega))
 | ((exfalso; omega))
 | refine zC ?_
 | refine kt ?_
 | refine And.intro ?_ ?_
 | ((first | refine awp_stp rfl ?_ | refine awp_draw (by kernel_rfl) (by kernel_rfl) ?_ | refine Imp.le2 ?_ | refine callK_of (hha) ?_ | refine go_split (fun _h => ?_) (fun _h => ?_)) <;> try simp (maxSteps := 4000000) only [go_sem, seval, n2i, hwin])
 | intro _h
 | refine zA ?_
 | refine zB ?_
 | refine zF ?_ ?_
 | (show zE _ _ = true; kernel_rfl)
 | (show zD _ _ = true; kernel_rfl)
 | (omega)))
     have hbi := hok.rpt i hi1
     refine awp_loopJ (fun k : Nat => k ≤ i ∧ ∀ m, m < k → ¬ badP t C D i m) (fun k => ⟨mkT 135 [(2, .ptr 0 0 0), (3, .ptr 1 0 0), (5, .int .i64 t.reports.length), (6, .int .i64 i), (7, .ptr 2 0 0), (40, .psl false t.reports.length (recs zU t.reports)), (41, .int .i64 t.reports.length), (42, .int .i64 i), (59, .psl false i (recs zU (t.reports.take i))), (60, .int .i64 i), (61, .int .i64 k)], [some (.cells 35 1 0 [.psl false t.reports.length (recs zU t.reports), .psl false t.claims.length (recs zV t.claims), .int .i64 t.rest]), some (.cells 61 1 0 [.psl false t.reports.length (zS C), .psl false t.reports.length (zS D)]), some (.cells 58 1 0 [.int .i64 (t.reports.getD i default).slope, .int .i64 (t.reports.getD i default).lo, .int .i64 (t.reports.getD i default).hi])], []⟩) (fun k => i - k) 0 ⟨Nat.zero_le _, fun m hm => by omega⟩ (.le2 ?_) ?_
     ·simp (maxSteps := 4000000) only [go_sem, seval]
      all_goals first | rfl | trace_state
     ·rintro k ⟨hk, hK⟩
      rcases Nat.lt_or_eq_of_le hk with hk1 | hk1
      ·have n1i := n1 i hi1
       have n1k := n1 k (by omega)
       have n2k := n2 k (by omega)
       have hik : (rp t k).lo ≤ D.getD k 0 ∧ D.getD k 0 ≤ (rp t k).hi := (hI k hk1).1
       have hbk : _ ∧ 0 ≤ (rp t k).lo ∧ _ ≤ _ ∧ (rp t k).hi ≤ 100000 := hok.rpt k (by omega)
       have hdk : 0 ≤ D.getD k 0 ∧ D.getD k 0 ≤ 100000 := by omega
       have hdi : 0 ≤ D.getD i 0 ∧ D.getD i 0 ≤ 100000 := by omega
       have htk : (t.reports.take i).getD k default = t.reports.getD k default := by
        simp only [List.getD_eq_getElem?_getD, List.getElem?_take, if_pos hk1]
       have hlt : (t.reports.take i).length = i := by rw [List.length_take]; omega
       have hbad : badP t C D i k ↔ (C.getD i 0 = C.getD k 0 ∧ ((t.reports.getD i default).slope ≠ (t.reports.getD k default).slope ∨ 0 < max (D.getD i 0 - D.getD k 0) (D.getD k 0 - D.getD i 0))) ∨ (C.getD i 0 ≠ C.getD k 0 ∧ (t.reports.getD i default).slope = (t.reports.getD k default).slope ∧ max (D.getD i 0 - D.getD k 0) (D.getD k 0 - D.getD i 0) < max t.rest 1) := Iff.rfl
       have hno := hno2 i k hi1 hk1
       have hstep : ¬ badP t C D i k → ∀ m, m < k + 1 → ¬ badP t C D i m := fun h m hm => by
        by_cases e : m = k
        ·subst e; exact h
        ·exact hK m (by omega)
       clear hik hbk hha hin hin' hK hall hno1 hno2
       simp (maxSteps := 4000000) only [go_sem, seval]
       (repeat' (first
 | ((omega))
 | ((exfalso; omega))
 | refine zC ?_
 | refine kt ?_
 | refine And.intro ?_ ?_
 | ((first | refine awp_stp rfl ?_ | refine awp_draw (by kernel_rfl) (by kernel_rfl) ?_ | refine Imp.le2 ?_ | refine callK_of (hap) ?_ | refine callK_of (latest_c _ _ _) ?_ | refine go_split (fun _h => ?_) (fun _h => ?_)) <;> try simp (maxSteps := 4000000) only [go_sem, seval, n1i, n1k, n2i, n2k, htk, hlt])
 | intro _h
 | refine zA ?_
 | refine zB ?_
 | refine zF ?_ ?_
 | (show zE _ _ = true; kernel_rfl)
 | (show zD _ _ = true; kernel_rfl)
 | (omega)))
       all_goals first
        | exact hno (hbad.2 (by omega))
        | exact (hno (hbad.2 (by omega))).symm
        | (refine ⟨k + 1, ⟨by omega, hstep (fun h => by have := hbad.1 h; omega)⟩, by omega, .le2 ?_⟩
           simp (maxSteps := 4000000) only [go_sem, seval]
           all_goals first | rfl | trace_state)
        | trace_state
      ·subst hk1
       simp (maxSteps := 4000000) only [go_sem, seval]
       (repeat' (first
 | ((omega))
 | ((exfalso; omega))
 | refine zC ?_
 | refine kt ?_
 | refine And.intro ?_ ?_
 | ((first | refine awp_stp rfl ?_ | refine awp_draw (by kernel_rfl) (by kernel_rfl) ?_ | refine Imp.le2 ?_ | refine go_split (fun _h => ?_) (fun _h => ?_)) <;> try simp (maxSteps := 4000000) only [go_sem, seval])
 | intro _h
 | refine zA ?_
 | refine zB ?_
 | refine zF ?_ ?_
 | (show zE _ _ = true; kernel_rfl)
 | (show zD _ _ = true; kernel_rfl)
 | (omega)))
       all_goals first
        | (refine ⟨k + 1, ⟨by omega, fun j hj => ?_⟩, by omega, .le2 ?_⟩
           ·by_cases e : j = k
            ·subst e; exact ⟨hin, hK⟩
            ·exact hI j (by omega)
           ·simp (maxSteps := 4000000) only [go_sem, seval]
            all_goals first | rfl | trace_state)
        | trace_state
    ·have hno := hno1 i hi1 hin
     have hin' : ¬ ((t.reports.getD i default).lo ≤ D.getD i 0 ∧ D.getD i 0 ≤ (t.reports.getD i default).hi) := hin
     rw [decide_eq_false hin'] at hha
     simp (maxSteps := 4000000) only [go_sem, seval]
     (repeat' (first
 | ((exact hno))
 | ((exact hno.symm))
 | ((omega))
 | ((exfalso; omega))
 | refine zC ?_
 | refine kt ?_
 | refine And.intro ?_ ?_
 | ((first | refine awp_stp rfl ?_ | refine awp_draw (by kernel_rfl) (by kernel_rfl) ?_ | refine Imp.le2 ?_ | refine callK_of (hha) ?_ | refine go_split (fun _h => ?_) (fun _h => ?_)) <;> try simp (maxSteps := 4000000) only [go_sem, seval, n2i, hwin])
 | intro _h
 | refine zA ?_
 | refine zB ?_
 | refine zF ?_ ?_
 | (show zE _ _ = true; kernel_rfl)
 | (show zD _ _ = true; kernel_rfl)
 | (omega)))
     all_goals trace_state
   ·subst hi1
    have hall := hall hI
    subst hall
    simp (maxSteps := 4000000) only [go_sem, seval]
    (repeat' (first
 | (refine zJ 4 rfl ?_; simp (maxSteps := 4000000) only [go_sem, seval, List.take_succ_cons, List.take_zero]; (repeat refine And.intro (by omega) ?_); refine zQ (hho) [] rfl ?_ ?_ rfl ?_ <;> try simp (maxSteps := 4000000) only [go_sem, seval, Nat.lt_irrefl] <;> try decide)
 | ((omega))
 | ((exfalso; omega))
 | refine zC ?_
 | refine kt ?_
 | refine And.intro ?_ ?_
 | ((first | refine awp_stp rfl ?_ | refine awp_draw (by kernel_rfl) (by kernel_rfl) ?_ | refine Imp.le2 ?_ | refine go_split (fun _h => ?_) (fun _h => ?_)) <;> try simp (maxSteps := 4000000) only [go_sem, seval])
 | intro _h
 | refine zA ?_
 | refine zB ?_
 | refine zF ?_ ?_
 | (show zE _ _ = true; kernel_rfl)
 | (show zD _ _ = true; kernel_rfl)
 | (omega)))
    all_goals trace_state
 ·have hno := hno fun hp => hA ⟨hp.fault, hp.lc, hp.ld, hp.num⟩
  clear ht
  generalize numB C = q at *
  generalize faultA t = e at *
  simp only [zL, slR, slC, sl] at hch hnu ⊢
  cases q
  all_goals
   simp only [and_true, Bool.false_eq_true, and_false, not_false_eq_true] at hA
   (refine zG (fun w args => Try.call43 ..) Try.func43 rfl (fun w0 m0 wz => ?_); simp only [Try.ntmps43, Try.results43, zN, zP, zU, zV, slR, slC, zL, sl, List.toList_toArray, List.cons_append, List.nil_append, List.length_cons, List.length_nil, Nat.reduceAdd, Nat.reduceSub])
   (repeat' (first
 | ((exact hno))
 | ((exact hno.symm))
 | ((omega))
 | ((exfalso; omega))
 | refine zC ?_
 | refine kt ?_
 | refine And.intro ?_ ?_
 | ((first | refine awp_stp rfl ?_ | refine awp_draw (by kernel_rfl) (by kernel_rfl) ?_ | refine Imp.le2 ?_ | refine callK_of (hch) ?_ | refine callK_of (hnu) ?_ | refine go_split (fun _h => ?_) (fun _h => ?_)) <;> try simp (maxSteps := 4000000) only [go_sem, seval])
 | intro _h
 | refine zA ?_
 | refine zB ?_
 | refine zF ?_ ?_
 | (show zE _ _ = true; kernel_rfl)
 | (show zD _ _ = true; kernel_rfl)
 | (omega)))
   all_goals trace_state
end Go.Am
