/- Parts TcA, TcB, TcC, TcD, ThB of the proof, one behind the other. No statement is proved here. -/
import Derived.Test.YtghlpjfpfjpddaaC1
import Derived.Test.YtghlpjfpfjpddaaC4
import Derived.Test.YtghlpjfpfjpddaaC3
import Derived.IntWalk
/- Plain words: sorting by sinking, as slices does for short lists. No program is in sight. -/
namespace Go.Am
set_option linter.unusedSimpArgs false
set_option linter.unusedVariables false

/-- Two neighbours change places. -/
def swp2 (l : List Int) (j : Nat) : List Int := isp (isp l (j + 1) (l.getD j 0)) j (l.getD (j + 1) 0)
theorem swp2_length {l : List Int} {j : Nat} (h : j + 1 < l.length) : (swp2 l j).length = l.length := by
  unfold swp2
  rw [isp_length (by rw [isp_length h]; omega), isp_length h]
theorem swp2_eq {l : List Int} {j : Nat} (h : j + 1 < l.length) : swp2 l j = l.take j ++ l.getD (j + 1) 0 :: l.getD j 0 :: l.drop (j + 2) := by
  have h1 : (isp l (j + 1) (l.getD j 0)).take j = l.take j := by
    unfold isp
    rw [List.take_append_of_le_length (by simp; omega), List.take_take, Nat.min_eq_left (by omega)]
  have h2 : (isp l (j + 1) (l.getD j 0)).drop (j + 1) = l.getD j 0 :: l.drop (j + 2) := by
    unfold isp
    have : (l.take (j + 1)).length = j + 1 := by simp; omega
    rw [List.drop_append, this, Nat.sub_self, List.drop_zero, List.drop_eq_nil_of_le (by omega), List.nil_append]
  unfold swp2
  rw [isp, h1, h2]
theorem split2 {l : List Int} {j : Nat} (h : j + 1 < l.length) : l = l.take j ++ l.getD j 0 :: l.getD (j + 1) 0 :: l.drop (j + 2) := by
  have h1 : l.drop j = l.getD j 0 :: l.drop (j + 1) := by
    rw [List.drop_eq_getElem_cons (by omega)]; simp [List.getD_eq_getElem?_getD, show j < l.length by omega]
  have h2 : l.drop (j + 1) = l.getD (j + 1) 0 :: l.drop (j + 2) := by
    rw [List.drop_eq_getElem_cons (by omega)]; simp [List.getD_eq_getElem?_getD, h]
  rw [← h2, ← h1, List.take_append_drop]
theorem swp2_perm {l : List Int} {j : Nat} (h : j + 1 < l.length) : (swp2 l j).Perm l := by
  rw [swp2_eq h]
  conv => rhs; rw [split2 h]
  exact List.Perm.append_left _ (List.Perm.swap _ _ _)

/-- The element at a place sinks as long as it is less than the one before it. -/
def sink (lt : Int → Int → Bool) : Nat → List Int → List Int
  | 0, l => l
  | j + 1, l => if lt (l.getD (j + 1) 0) (l.getD j 0) = true then sink lt j (swp2 l j) else l
def isort (lt : Int → Int → Bool) (l : List Int) : Nat → List Int
  | 0 => l
  | k + 1 => sink lt k (isort lt l k)
theorem sink_perm {lt : Int → Int → Bool} : ∀ (j : Nat) (l : List Int), j < l.length → (sink lt j l).Perm l
  | 0, l, _ => .refl _
  | j + 1, l, h => by
    simp only [sink]
    split
    · exact (sink_perm j _ (by rw [swp2_length h]; omega)).trans (swp2_perm h)
    · exact .refl _
theorem isort_perm {lt : Int → Int → Bool} {l : List Int} : ∀ k, k ≤ l.length → (isort lt l k).Perm l
  | 0, _ => .refl _
  | k + 1, h => by
    have h1 := isort_perm (lt := lt) (l := l) k (by omega)
    simp only [isort]
    exact (sink_perm k _ (by rw [h1.length_eq]; omega)).trans h1
theorem isort_length {lt : Int → Int → Bool} {l : List Int} {k : Nat} (h : k ≤ l.length) : (isort lt l k).length = l.length := (isort_perm k h).length_eq
theorem getD_app {l r : List Int} {j : Nat} (h : j < l.length) : (l ++ r).getD j 0 = l.getD j 0 := by
  simp [List.getD_eq_getElem?_getD, List.getElem?_append_left h]
theorem sink_app {lt : Int → Int → Bool} {r : List Int} : ∀ (j : Nat) (l : List Int), j < l.length → sink lt j (l ++ r) = sink lt j l ++ r
  | 0, l, _ => rfl
  | j + 1, l, h => by
    simp only [sink]
    rw [getD_app h, getD_app (by omega)]
    have : swp2 (l ++ r) j = swp2 l j ++ r := by
      rw [swp2_eq (by simp; omega), swp2_eq h, getD_app h, getD_app (by omega), List.take_append_of_le_length (by omega)]
      rw [List.drop_append_of_le_length (by omega)]
      simp
    rw [this]
    split
    · exact sink_app j _ (by rw [swp2_length h]; omega)
    · rfl
/-- Sorting the first ones leaves the others. -/
theorem isort_app {lt : Int → Int → Bool} {l r : List Int} : ∀ k, k ≤ l.length → isort lt (l ++ r) k = isort lt l k ++ r
  | 0, _ => rfl
  | k + 1, h => by
    simp only [isort]
    rw [isort_app k (by omega), sink_app k _ (by rw [isort_length (by omega)]; omega)]
/-- The numbers from 0 on. -/
def upTo (n : Nat) : List Int := tab n fun i => (i : Int)
theorem upTo_length {n : Nat} : (upTo n).length = n := tab_length
theorem upTo_succ {n : Nat} : upTo (n + 1) = upTo n ++ [(n : Int)] := by simp [upTo, tab, List.range_succ]
theorem upTo_mem {n : Nat} {x : Int} : x ∈ upTo n ↔ 0 ≤ x ∧ x < n := by
  simp only [upTo, tab, List.mem_map, List.mem_range]
  constructor
  · rintro ⟨i, h, rfl⟩; omega
  · rintro ⟨h1, h2⟩; exact ⟨x.toNat, by omega, by omega⟩
theorem upTo_nodup : ∀ {n : Nat}, (upTo n).Nodup
  | 0 => by simp [upTo, tab]
  | n + 1 => by
    rw [upTo_succ, List.nodup_append]
    refine ⟨upTo_nodup, by simp, fun a ha b hb => ?_⟩
    rw [upTo_mem] at ha
    simp only [List.mem_singleton] at hb
    omega
/-- The first ones sorted, one more added and sunk. -/
theorem isort_step {lt : Int → Int → Bool} {n : Nat} : isort lt (upTo (n + 1)) (n + 1) = sink lt n (isort lt (upTo n) n ++ [(n : Int)]) := by
  simp only [isort]
  rw [upTo_succ, isort_app n (by rw [upTo_length]; omega)]

/-- Each element is not less than those before it. -/
def Sorted (key : Int → Int) (l : List Int) : Prop := l.Pairwise fun a b => key a ≤ key b
end Go.Am

/- Contracts: sorting as slices does, with a comparison; the order of calls. -/
namespace Go.Am
open Go.RowKit Go.Proofs
attribute [local irreducible] AWP CallS Kt goK CallK stepK evOps SemF SemY Imp
set_option maxRecDepth 4000
set_option linter.unusedSimpArgs false
set_option linter.unusedVariables false
set_option maxHeartbeats 1600000

def byI (t : Town) (a : Int) : Int := byT t (t.homes.getD a.toNat default)
def ltT (t : Town) (a b : Int) : Bool := decide (byI t a < byI t b)
theorem byI_bd {t : Town} (ht : TownOK t) {a : Int} (h : 0 ≤ a ∧ a < t.homes.length) : -1 ≤ byI t a ∧ byI t a ≤ 10000 :=
  byN_bd (ht.home a.toNat (by omega)) _ (fun i hi => ht.hall i hi)
theorem cmp_c (t : Town) (ht : TownOK t) (a b : Int) (ha : 0 ≤ a ∧ a < t.homes.length) (hb : 0 ≤ b ∧ b < t.homes.length) : CallS Try.prog 82 [.int .i64 a, .int .i64 b, .pptr (townC t) 0] (.int .i64 (byI t a - byI t b)) := by
  have h1 := by_c t (t.homes.getD a.toNat default) ht (ht.home a.toNat (by omega))
  have h2 := by_c t (t.homes.getD b.toNat default) ht (ht.home b.toNat (by omega))
  have h3 := byI_bd ht ha
  have h4 := byI_bd ht hb
  have e1 : byT t (t.homes.getD a.toNat default) = byI t a := rfl
  have e2 : byT t (t.homes.getD b.toNat default) = byI t b := rfl
  rw [e1] at h1
  rw [e2] at h2
  simp only [townC, slH, slL, homeC] at h1 h2
  (refine callS_of_awp (fun w args => Try.call82 ..) Try.func82 rfl (fun w0 m0 wz => ?_); simp only [Try.ntmps82, Try.results82, initT, junks, homeC, hallC, slH, slL, townC, sl, List.toList_toArray, List.cons_append, List.nil_append, List.length_cons, List.length_nil, Nat.reduceAdd, Nat.reduceSub])
  (repeat' (first
    | (refine awp_seqK ?_)
    | (refine kt ?_)
    | (refine And.intro ?_ ?_)
    | ((first | refine awp_region ?_ | refine awp_draw (by kernel_rfl) (by kernel_rfl) ?_ | refine Imp.le2 ?_ | refine awp_label ?_ | refine awp_skip ?_ | refine awp_exit ?_ | refine awp_cd ?_ | refine awp_ret ?_ | refine callK_of (h1) ?_ | refine callK_of (h2) ?_ | refine go_split (fun _h => ?_) (fun _h => ?_)) <;> try simp (maxSteps := 4000000) only [go_sem, Nat.reduceAdd, Nat.reduceMul, Nat.reduceSub, Nat.reduceLeDiff, Nat.reduceLT, Int.reduceAdd, Int.reduceToNat, Int.reduceLE, Int.reduceLT, Int.reduceNeg, reduceIte])
    | (intro _h)
    | (refine awp_block ?_)
    | (refine awp_scope ?_)
    | (refine cond_b (fun _h => ?_) (fun _h => ?_))
    | (show heapOK _ _ = true; kernel_rfl)
    | (show heapOK2 _ _ = true; kernel_rfl)
    | (omega)))
theorem isortC_c (t : Town) (ht : TownOK t) (l : List Int) (g : Nat) (hl : ∀ x ∈ l, 0 ≤ x ∧ x < t.homes.length) (h1 : 1 ≤ l.length ∧ l.length ≤ 12) :
    SemF Try.prog 123 [.osl 0 g 0 l.length, .int .i64 0, .int .i64 l.length, .fn (.func 82) [] [.pptr (townC t) 0]] [some (.cells 3 1 g (ints l))] (.tup []) [some (.cells 3 1 g (ints (isort (ltT t) l l.length)))] := by
  (refine semF_of_awp (ys := []) (fun w args => Try.call123 ..) Try.func123 rfl (fun w0 m0 wz => ?_); simp only [Try.ntmps123, Try.results123, initT, junks, homeC, hallC, slH, slL, townC, sl, List.toList_toArray, List.cons_append, List.nil_append, List.length_cons, List.length_nil, Nat.reduceAdd, Nat.reduceSub])
  (repeat' (first
    | (refine awp_seqK ?_)
    | (refine kt ?_)
    | (refine And.intro ?_ ?_)
    | ((first | refine awp_region ?_ | refine awp_draw (by kernel_rfl) (by kernel_rfl) ?_ | refine Imp.le2 ?_ | refine awp_label ?_ | refine awp_skip ?_ | refine awp_exit ?_ | refine awp_cd ?_ | refine awp_ret ?_ | refine go_split (fun _h => ?_) (fun _h => ?_)) <;> try simp (maxSteps := 4000000) only [go_sem, Nat.reduceAdd, Nat.reduceMul, Nat.reduceSub, Nat.reduceLeDiff, Nat.reduceLT, Int.reduceAdd, Int.reduceToNat, Int.reduceLE, Int.reduceLT, Int.reduceNeg, reduceIte])
    | (intro _h)
    | (refine awp_block ?_)
    | (refine awp_scope ?_)
    | (refine cond_b (fun _h => ?_) (fun _h => ?_))
    | (show heapOK _ _ = true; kernel_rfl)
    | (show heapOK2 _ _ = true; kernel_rfl)
    | (omega)))
  refine awp_loopN (l.length - 1) (fun k => ⟨mkT 53 [(0, .osl 0 g 0 l.length), (1, .int .i64 0), (2, .int .i64 l.length), (3, .fn (.func 82) [] [.pptr (townC t) 0]), (8, .int .i64 ((k : Int) + 1))], [some (.cells 3 1 g (ints (isort (ltT t) l (k + 1))))], []⟩) (.le2 ?_) ?_
  · simp only [townC, slH, slL]; simp (maxSteps := 4000000) only [go_sem, Nat.reduceAdd, Nat.reduceMul, Nat.reduceSub, Nat.reduceLeDiff, Nat.reduceLT, Int.reduceAdd, Int.reduceToNat, Int.reduceLE, Int.reduceLT, Int.reduceNeg, reduceIte]
    rfl
  · intro k hk
    have hpk := isort_perm (lt := ltT t) (l := l) (k + 1) (by omega)
    have hlk := hpk.length_eq
    simp only [townC, slH, slL]; simp (maxSteps := 4000000) only [go_sem, Nat.reduceAdd, Nat.reduceMul, Nat.reduceSub, Nat.reduceLeDiff, Nat.reduceLT, Int.reduceAdd, Int.reduceToNat, Int.reduceLE, Int.reduceLT, Int.reduceNeg, reduceIte]
    by_cases hk1 : k + 1 < l.length
    · (repeat' (first
    | ((exfalso; omega))
    | (refine awp_seqK ?_)
    | (refine kt ?_)
    | (refine And.intro ?_ ?_)
    | ((first | refine awp_region ?_ | refine awp_draw (by kernel_rfl) (by kernel_rfl) ?_ | refine Imp.le2 ?_ | refine awp_label ?_ | refine awp_skip ?_ | refine awp_exit ?_ | refine awp_cd ?_ | refine awp_ret ?_ | refine go_split (fun _h => ?_) (fun _h => ?_)) <;> try simp (maxSteps := 4000000) only [go_sem, Nat.reduceAdd, Nat.reduceMul, Nat.reduceSub, Nat.reduceLeDiff, Nat.reduceLT, Int.reduceAdd, Int.reduceToNat, Int.reduceLE, Int.reduceLT, Int.reduceNeg, reduceIte])
    | (intro _h)
    | (refine awp_block ?_)
    | (refine awp_scope ?_)
    | (refine cond_b (fun _h => ?_) (fun _h => ?_))
    | (show heapOK _ _ = true; kernel_rfl)
    | (show heapOK2 _ _ = true; kernel_rfl)
    | (omega)))
      refine awp_loopJ (fun x : Nat × List Int => sink (ltT t) x.1 x.2 = isort (ltT t) l (k + 1 + 1) ∧ x.2.length = l.length ∧ x.1 ≤ k + 1 ∧ ∀ y ∈ x.2, 0 ≤ y ∧ y < t.homes.length) (fun x => ⟨mkT 53 [(0, .osl 0 g 0 l.length), (1, .int .i64 0), (2, .int .i64 l.length), (3, .fn (.func 82) [] [.pptr (townC t) 0]), (8, .int .i64 ((k : Int) + 1)), (9, .int .i64 (x.1 : Int))], [some (.cells 3 1 g (ints x.2))], []⟩) (fun x => x.1) (k + 1, isort (ltT t) l (k + 1)) ⟨rfl, hlk, by simp, fun y hy => hl y (hpk.mem_iff.1 hy)⟩ (.le2 ?_) ?_
      · simp only [townC, slH, slL]; simp (maxSteps := 4000000) only [go_sem, Nat.reduceAdd, Nat.reduceMul, Nat.reduceSub, Nat.reduceLeDiff, Nat.reduceLT, Int.reduceAdd, Int.reduceToNat, Int.reduceLE, Int.reduceLT, Int.reduceNeg, reduceIte]
        first | rfl | omega | exact ⟨by omega, rfl⟩
      · rintro ⟨j, L⟩ ⟨hs, hL, hj, hin⟩
        simp only at hs hL hj hin
        cases j with
        | zero =>
          simp only [sink] at hs
          simp only [townC, slH, slL]; simp (maxSteps := 4000000) only [go_sem, Nat.reduceAdd, Nat.reduceMul, Nat.reduceSub, Nat.reduceLeDiff, Nat.reduceLT, Int.reduceAdd, Int.reduceToNat, Int.reduceLE, Int.reduceLT, Int.reduceNeg, reduceIte]
          (repeat' (first
    | ((exfalso; omega))
    | (refine awp_seqK ?_)
    | (refine kt ?_)
    | (refine And.intro ?_ ?_)
    | ((first | refine awp_region ?_ | refine awp_draw (by kernel_rfl) (by kernel_rfl) ?_ | refine Imp.le2 ?_ | refine awp_label ?_ | refine awp_skip ?_ | refine awp_exit ?_ | refine awp_cd ?_ | refine awp_ret ?_ | refine go_split (fun _h => ?_) (fun _h => ?_)) <;> try simp (maxSteps := 4000000) only [go_sem, Nat.reduceAdd, Nat.reduceMul, Nat.reduceSub, Nat.reduceLeDiff, Nat.reduceLT, Int.reduceAdd, Int.reduceToNat, Int.reduceLE, Int.reduceLT, Int.reduceNeg, reduceIte])
    | (intro _h)
    | (refine awp_block ?_)
    | (refine awp_scope ?_)
    | (refine cond_b (fun _h => ?_) (fun _h => ?_))
    | (show heapOK _ _ = true; kernel_rfl)
    | (show heapOK2 _ _ = true; kernel_rfl)
    | (omega)))
          all_goals rw [hs]
        | succ q =>
          have e1 : ((q + 1 : Nat) : Int) - 1 = q := by omega
          have hcm := cmp_c t ht (L.getD (q + 1) 0) (L.getD q 0) (hin _ (getD_mem (by omega))) (hin _ (getD_mem (by omega)))
          simp only [townC, slH, slL] at hcm
          simp only [sink, ltT, decide_eq_true_eq] at hs
          simp only [townC, slH, slL]; simp (maxSteps := 4000000) only [go_sem, Nat.reduceAdd, Nat.reduceMul, Nat.reduceSub, Nat.reduceLeDiff, Nat.reduceLT, Int.reduceAdd, Int.reduceToNat, Int.reduceLE, Int.reduceLT, Int.reduceNeg, reduceIte]
          (repeat' (first
    | ((omega))
    | (refine awp_seqK ?_)
    | (refine kt ?_)
    | (refine And.intro ?_ ?_)
    | ((first | refine awp_region ?_ | refine awp_draw (by kernel_rfl) (by kernel_rfl) ?_ | refine Imp.le2 ?_ | refine awp_label ?_ | refine awp_skip ?_ | refine awp_exit ?_ | refine awp_cd ?_ | refine awp_ret ?_ | refine callK_of (hcm) ?_ | refine go_split (fun _h => ?_) (fun _h => ?_)) <;> try simp (maxSteps := 4000000) only [go_sem, Nat.reduceAdd, Nat.reduceMul, Nat.reduceSub, Nat.reduceLeDiff, Nat.reduceLT, Int.reduceAdd, Int.reduceToNat, Int.reduceLE, Int.reduceLT, Int.reduceNeg, reduceIte, e1, hL])
    | (intro _h)
    | (refine awp_block ?_)
    | (refine awp_scope ?_)
    | (refine cond_b (fun _h => ?_) (fun _h => ?_))
    | (show heapOK _ _ = true; kernel_rfl)
    | (show heapOK2 _ _ = true; kernel_rfl)
    | (omega)))
          all_goals first
            | (rw [isp_length (by omega)]; omega)
            | (rw [if_pos (by omega)] at hs
               refine ⟨(q, swp2 L q), ⟨hs, by rw [swp2_length (by omega)]; exact hL, by simp only; omega, fun y hy => hin y ((swp2_perm (by omega)).mem_iff.1 hy)⟩, by simp only; omega, .le2 ?_⟩
               simp only [swp2]; simp (maxSteps := 4000000) only [go_sem, Nat.reduceAdd, Nat.reduceMul, Nat.reduceSub, Nat.reduceLeDiff, Nat.reduceLT, Int.reduceAdd, Int.reduceToNat, Int.reduceLE, Int.reduceLT, Int.reduceNeg, reduceIte])
            | (rw [if_neg (by omega)] at hs; rw [hs])
    · have e : k + 1 = l.length := by omega
      (repeat' (first
    | ((exfalso; omega))
    | (refine awp_seqK ?_)
    | (refine kt ?_)
    | (refine And.intro ?_ ?_)
    | ((first | refine awp_region ?_ | refine awp_draw (by kernel_rfl) (by kernel_rfl) ?_ | refine Imp.le2 ?_ | refine awp_label ?_ | refine awp_skip ?_ | refine awp_exit ?_ | refine awp_cd ?_ | refine awp_ret ?_ | refine go_split (fun _h => ?_) (fun _h => ?_)) <;> try simp (maxSteps := 4000000) only [go_sem, Nat.reduceAdd, Nat.reduceMul, Nat.reduceSub, Nat.reduceLeDiff, Nat.reduceLT, Int.reduceAdd, Int.reduceToNat, Int.reduceLE, Int.reduceLT, Int.reduceNeg, reduceIte])
    | (intro _h)
    | (refine awp_block ?_)
    | (refine awp_scope ?_)
    | (refine cond_b (fun _h => ?_) (fun _h => ?_))
    | (show heapOK _ _ = true; kernel_rfl)
    | (show heapOK2 _ _ = true; kernel_rfl)
    | (omega)))
      all_goals rw [e]
theorem stable_c (t : Town) (ht : TownOK t) (l : List Int) (g : Nat) (hl : ∀ x ∈ l, 0 ≤ x ∧ x < t.homes.length) (h1 : 1 ≤ l.length ∧ l.length ≤ 12) :
    SemF Try.prog 102 [.osl 0 g 0 l.length, .int .i64 l.length, .fn (.func 82) [] [.pptr (townC t) 0]] [some (.cells 3 1 g (ints l))] (.tup []) [some (.cells 3 1 g (ints (isort (ltT t) l l.length)))] := by
  have hs := isortC_c t ht l g hl h1
  have e1 : ((20 : Int) ≤ l.length) = False := eq_false (by omega)
  have e2 : ((20 : Int) < l.length) = False := eq_false (by omega)
  simp only [townC, slH, slL] at hs
  (refine semF_of_awp (ys := []) (fun w args => Try.call102 ..) Try.func102 rfl (fun w0 m0 wz => ?_); simp only [Try.ntmps102, Try.results102, initT, junks, homeC, hallC, slH, slL, townC, sl, List.toList_toArray, List.cons_append, List.nil_append, List.length_cons, List.length_nil, Nat.reduceAdd, Nat.reduceSub])
  (repeat' (first
    | (refine awp_seqK ?_)
    | (refine kt ?_)
    | (refine And.intro ?_ ?_)
    | ((first | refine awp_region ?_ | refine awp_draw (by kernel_rfl) (by kernel_rfl) ?_ | refine Imp.le2 ?_ | refine awp_label ?_ | refine awp_skip ?_ | refine awp_exit ?_ | refine awp_cd ?_ | refine awp_ret ?_ | refine go_split (fun _h => ?_) (fun _h => ?_)) <;> try simp (maxSteps := 4000000) only [go_sem, Nat.reduceAdd, Nat.reduceMul, Nat.reduceSub, Nat.reduceLeDiff, Nat.reduceLT, Int.reduceAdd, Int.reduceToNat, Int.reduceLE, Int.reduceLT, Int.reduceNeg, reduceIte])
    | (intro _h)
    | (refine awp_block ?_)
    | (refine awp_scope ?_)
    | (refine cond_b (fun _h => ?_) (fun _h => ?_))
    | (show heapOK _ _ = true; kernel_rfl)
    | (show heapOK2 _ _ = true; kernel_rfl)
    | (omega)))
  (refine awp_rounds 1 ?_; rw [ar_s])
  (repeat' (first
    | (refine awp_ownN (id := 6) 4 rfl ?_; simp (maxSteps := 4000000) only [go_sem, Nat.reduceAdd, Nat.reduceMul, Nat.reduceSub, Nat.reduceLeDiff, Nat.reduceLT, Int.reduceAdd, Int.reduceToNat, Int.reduceLE, Int.reduceLT, Int.reduceNeg, reduceIte, List.take_succ_cons, List.take_zero, e1, e2, decide_false])
    | (refine own_go (hs) [0] rfl ?_ ?_ rfl ?_ <;> try simp (maxSteps := 4000000) only [go_sem, Nat.reduceAdd, Nat.reduceMul, Nat.reduceSub, Nat.reduceLeDiff, Nat.reduceLT, Int.reduceAdd, Int.reduceToNat, Int.reduceLE, Int.reduceLT, Int.reduceNeg, reduceIte, Nat.lt_irrefl, e1, e2, decide_false] <;> try decide)
    | (refine awp_seqK ?_)
    | (refine kt ?_)
    | (refine And.intro ?_ ?_)
    | ((first | refine awp_region ?_ | refine awp_draw (by kernel_rfl) (by kernel_rfl) ?_ | refine Imp.le2 ?_ | refine awp_label ?_ | refine awp_skip ?_ | refine awp_exit ?_ | refine awp_cd ?_ | refine awp_ret ?_ | refine go_split (fun _h => ?_) (fun _h => ?_)) <;> try simp (maxSteps := 4000000) only [go_sem, Nat.reduceAdd, Nat.reduceMul, Nat.reduceSub, Nat.reduceLeDiff, Nat.reduceLT, Int.reduceAdd, Int.reduceToNat, Int.reduceLE, Int.reduceLT, Int.reduceNeg, reduceIte, e1, e2, decide_false])
    | (intro _h)
    | (refine awp_block ?_)
    | (refine awp_scope ?_)
    | (refine cond_b (fun _h => ?_) (fun _h => ?_))
    | (show heapOK _ _ = true; kernel_rfl)
    | (show heapOK2 _ _ = true; kernel_rfl)
    | (omega)))
  (refine awp_rounds 1 ?_; rw [ar_s])
  (repeat' (first
    | (refine awp_seqK ?_)
    | (refine kt ?_)
    | (refine And.intro ?_ ?_)
    | ((first | refine awp_region ?_ | refine awp_draw (by kernel_rfl) (by kernel_rfl) ?_ | refine Imp.le2 ?_ | refine awp_label ?_ | refine awp_skip ?_ | refine awp_exit ?_ | refine awp_cd ?_ | refine awp_ret ?_ | refine go_split (fun _h => ?_) (fun _h => ?_)) <;> try simp (maxSteps := 4000000) only [go_sem, Nat.reduceAdd, Nat.reduceMul, Nat.reduceSub, Nat.reduceLeDiff, Nat.reduceLT, Int.reduceAdd, Int.reduceToNat, Int.reduceLE, Int.reduceLT, Int.reduceNeg, reduceIte, e1, e2, decide_false])
    | (intro _h)
    | (refine awp_block ?_)
    | (refine awp_scope ?_)
    | (refine cond_b (fun _h => ?_) (fun _h => ?_))
    | (show heapOK _ _ = true; kernel_rfl)
    | (show heapOK2 _ _ = true; kernel_rfl)
    | (omega)))
theorem sortC_c (t : Town) (ht : TownOK t) (l : List Int) (g : Nat) (hl : ∀ x ∈ l, 0 ≤ x ∧ x < t.homes.length) (h1 : 1 ≤ l.length ∧ l.length ≤ 12) :
    SemF Try.prog 81 [.osl 0 g 0 l.length, .fn (.func 82) [] [.pptr (townC t) 0]] [some (.cells 3 1 g (ints l))] (.tup []) [some (.cells 3 1 g (ints (isort (ltT t) l l.length)))] := by
  have hs := stable_c t ht l g hl h1
  simp only [townC, slH, slL] at hs
  (refine semF_of_awp (ys := []) (fun w args => Try.call81 ..) Try.func81 rfl (fun w0 m0 wz => ?_); simp only [Try.ntmps81, Try.results81, initT, junks, homeC, hallC, slH, slL, townC, sl, List.toList_toArray, List.cons_append, List.nil_append, List.length_cons, List.length_nil, Nat.reduceAdd, Nat.reduceSub])
  (repeat' (first
    | (refine awp_ownN 4 rfl ?_; simp (maxSteps := 4000000) only [go_sem, Nat.reduceAdd, Nat.reduceMul, Nat.reduceSub, Nat.reduceLeDiff, Nat.reduceLT, Int.reduceAdd, Int.reduceToNat, Int.reduceLE, Int.reduceLT, Int.reduceNeg, reduceIte, List.take_succ_cons, List.take_zero]; (repeat refine And.intro (by omega) ?_); refine own_go (hs) [0] rfl ?_ ?_ rfl ?_ <;> try simp (maxSteps := 4000000) only [go_sem, Nat.reduceAdd, Nat.reduceMul, Nat.reduceSub, Nat.reduceLeDiff, Nat.reduceLT, Int.reduceAdd, Int.reduceToNat, Int.reduceLE, Int.reduceLT, Int.reduceNeg, reduceIte, Nat.lt_irrefl] <;> try decide)
    | (refine awp_seqK ?_)
    | (refine kt ?_)
    | (refine And.intro ?_ ?_)
    | ((first | refine awp_region ?_ | refine awp_draw (by kernel_rfl) (by kernel_rfl) ?_ | refine Imp.le2 ?_ | refine awp_label ?_ | refine awp_skip ?_ | refine awp_exit ?_ | refine awp_cd ?_ | refine awp_ret ?_ | refine go_split (fun _h => ?_) (fun _h => ?_)) <;> try simp (maxSteps := 4000000) only [go_sem, Nat.reduceAdd, Nat.reduceMul, Nat.reduceSub, Nat.reduceLeDiff, Nat.reduceLT, Int.reduceAdd, Int.reduceToNat, Int.reduceLE, Int.reduceLT, Int.reduceNeg, reduceIte])
    | (intro _h)
    | (refine awp_block ?_)
    | (refine awp_scope ?_)
    | (refine cond_b (fun _h => ?_) (fun _h => ?_))
    | (show heapOK _ _ = true; kernel_rfl)
    | (show heapOK2 _ _ = true; kernel_rfl)
    | (omega)))
end Go.Am

/- Contracts of the away functions: the order of calls; the reference of it. -/
namespace Go.Am
open Go.RowKit Go.Proofs
attribute [local irreducible] AWP CallS Kt goK CallK stepK evOps SemF SemY Imp
set_option maxRecDepth 4000
set_option linter.unusedSimpArgs false
set_option linter.unusedVariables false
set_option maxHeartbeats 1600000

/-- The order of calls. -/
def ordL (t : Town) : List Int := isort (ltT t) (upTo t.homes.length) t.homes.length
theorem ordL_perm {t : Town} : (ordL t).Perm (upTo t.homes.length) := isort_perm _ (by rw [upTo_length]; omega)
theorem ordL_ord {t : Town} : Ord t.homes.length (ordL t) :=
  ⟨by rw [ordL_perm.length_eq, upTo_length], fun x hx => upTo_mem.1 (ordL_perm.mem_iff.1 hx), ordL_perm.nodup_iff.2 upTo_nodup⟩
/-- How many of the first ones cannot all be called, from a place on. -/
def lateF (t : Town) : Nat → Nat → Int
  | 0, _ => 0
  | f + 1, i => if ((i : Int) + 1) * t.chi > byI t ((ordL t).getD i 0) then i + 1 else lateF t f (i + 1)
def lateN (t : Town) : Int := lateF t t.homes.length 0
theorem order_c (t : Town) (ht : TownOK t) : SemF Try.prog 57 [.agg (townC t)] [] (.tup [.osl 1 t.homes.length 0 t.homes.length, .int .i64 (lateN t)]) [none, some (.cells 3 1 t.homes.length (ints (ordL t)))] := by
  obtain ⟨hh1, hh2⟩ := ht.homes
  have hc := ht.call
  have hul := upTo_length (n := t.homes.length)
  have hso := sortC_c t ht (upTo t.homes.length) t.homes.length (fun x hx => upTo_mem.1 hx) (by omega)
  rw [upTo_length] at hso
  have eo : isort (ltT t) (upTo t.homes.length) t.homes.length = ordL t := rfl
  rw [eo] at hso
  simp only [townC, slH, slL] at hso
  (refine semF_of_awp (ys := [.osl 1 t.homes.length 0 t.homes.length, .int .i64 (lateN t)]) (fun w args => Try.call57 ..) Try.func57 rfl (fun w0 m0 wz => ?_); simp only [Try.ntmps57, Try.results57, initT, junks, homeC, hallC, slH, slL, townC, sl, List.toList_toArray, List.cons_append, List.nil_append, List.length_cons, List.length_nil, Nat.reduceAdd, Nat.reduceSub])
  ((repeat refine awp_seqK ?_); refine awp_region ?_; simp (maxSteps := 4000000) only [go_sem, Nat.reduceAdd, Nat.reduceMul, Nat.reduceSub, Nat.reduceLeDiff, Nat.reduceLT, Int.reduceAdd, Int.reduceToNat, Int.reduceLE, Int.reduceLT, Int.reduceNeg, reduceIte]; refine kt ?_)
  (refine awp_frz 0 rfl (by simp (maxSteps := 4000000) only [go_sem, Nat.reduceAdd, Nat.reduceMul, Nat.reduceSub, Nat.reduceLeDiff, Nat.reduceLT, Int.reduceAdd, Int.reduceToNat, Int.reduceLE, Int.reduceLT, Int.reduceNeg, reduceIte]) (fun _ => rfl) ?_; simp only [frz, fzl, fz2, fz1, fz0, fzH, fzHs, fzO, fzB, List.map_cons, List.map_nil, if_true, if_false, reduceIte, Nat.reduceEqDiff, Nat.reduceAdd, Nat.succ_ne_self, Nat.zero_ne_one, Nat.one_ne_zero, reduceCtorEq, and_self])
  (repeat' (first
    | (refine awp_seqK ?_)
    | (refine kt ?_)
    | (refine And.intro ?_ ?_)
    | ((first | refine awp_region ?_ | refine awp_draw (by kernel_rfl) (by kernel_rfl) ?_ | refine Imp.le2 ?_ | refine awp_label ?_ | refine awp_skip ?_ | refine awp_exit ?_ | refine awp_cd ?_ | refine awp_ret ?_ | refine go_split (fun _h => ?_) (fun _h => ?_)) <;> try simp (maxSteps := 4000000) only [go_sem, Nat.reduceAdd, Nat.reduceMul, Nat.reduceSub, Nat.reduceLeDiff, Nat.reduceLT, Int.reduceAdd, Int.reduceToNat, Int.reduceLE, Int.reduceLT, Int.reduceNeg, reduceIte])
    | (intro _h)
    | (refine awp_block ?_)
    | (refine awp_scope ?_)
    | (refine cond_b (fun _h => ?_) (fun _h => ?_))
    | (show heapOK _ _ = true; kernel_rfl)
    | (show heapOK2 _ _ = true; kernel_rfl)
    | (omega)))
  (refine awp_adT 2 3 1 rfl ?_; simp only [adT, lset, hset, List.length_cons, List.length_nil, Nat.reduceAdd])
  refine awp_loopN t.homes.length (fun k => ⟨mkT 47 [(1, .pptr (townC t) 0), (2, .osl 1 k 0 k), (3, .int .i64 0), (8, slH t.homes), (9, .int .i64 t.homes.length), (10, .int .i64 k)], [none, some (.cells 3 1 k (ints (upTo k)))], []⟩) (.le2 ?_) ?_
  · simp only [townC, slH, slL]; simp (maxSteps := 4000000) only [go_sem, Nat.reduceAdd, Nat.reduceMul, Nat.reduceSub, Nat.reduceLeDiff, Nat.reduceLT, Int.reduceAdd, Int.reduceToNat, Int.reduceLE, Int.reduceLT, Int.reduceNeg, reduceIte]
    rfl
  · intro k hk
    rcases Nat.lt_or_eq_of_le hk with hk1 | hk1
    · have hlk : (upTo k).length = k := upTo_length
      have hs : ints (upTo k) ++ [.int .i64 (k : Int)] = ints (upTo (k + 1)) := by rw [upTo_succ]; simp [ints_append, ints_cons, ints_nil]
      simp only [townC, slH, slL]; simp (maxSteps := 4000000) only [go_sem, Nat.reduceAdd, Nat.reduceMul, Nat.reduceSub, Nat.reduceLeDiff, Nat.reduceLT, Int.reduceAdd, Int.reduceToNat, Int.reduceLE, Int.reduceLT, Int.reduceNeg, reduceIte]
      (repeat' (first
    | ((omega))
    | (refine awp_seqK ?_)
    | (refine kt ?_)
    | (refine And.intro ?_ ?_)
    | ((first | refine awp_region ?_ | refine awp_draw (by kernel_rfl) (by kernel_rfl) ?_ | refine Imp.le2 ?_ | refine awp_label ?_ | refine awp_skip ?_ | refine awp_exit ?_ | refine awp_cd ?_ | refine awp_ret ?_ | refine go_split (fun _h => ?_) (fun _h => ?_)) <;> try simp (maxSteps := 4000000) only [go_sem, Nat.reduceAdd, Nat.reduceMul, Nat.reduceSub, Nat.reduceLeDiff, Nat.reduceLT, Int.reduceAdd, Int.reduceToNat, Int.reduceLE, Int.reduceLT, Int.reduceNeg, reduceIte, hlk, hs])
    | (intro _h)
    | (refine awp_block ?_)
    | (refine awp_scope ?_)
    | (refine cond_b (fun _h => ?_) (fun _h => ?_))
    | (show heapOK _ _ = true; kernel_rfl)
    | (show heapOK2 _ _ = true; kernel_rfl)
    | (omega)))
      all_goals trace_state
    · subst hk1
      simp only [townC, slH, slL]; simp (maxSteps := 4000000) only [go_sem, Nat.reduceAdd, Nat.reduceMul, Nat.reduceSub, Nat.reduceLeDiff, Nat.reduceLT, Int.reduceAdd, Int.reduceToNat, Int.reduceLE, Int.reduceLT, Int.reduceNeg, reduceIte]
      (repeat' (first
    | ((exfalso; omega))
    | (refine awp_ownN 2 rfl ?_; simp (maxSteps := 4000000) only [go_sem, Nat.reduceAdd, Nat.reduceMul, Nat.reduceSub, Nat.reduceLeDiff, Nat.reduceLT, Int.reduceAdd, Int.reduceToNat, Int.reduceLE, Int.reduceLT, Int.reduceNeg, reduceIte, List.take_succ_cons, List.take_zero]; (repeat refine And.intro (by omega) ?_); refine own_go (hso) [1] rfl ?_ ?_ rfl ?_ <;> try simp (maxSteps := 4000000) only [go_sem, Nat.reduceAdd, Nat.reduceMul, Nat.reduceSub, Nat.reduceLeDiff, Nat.reduceLT, Int.reduceAdd, Int.reduceToNat, Int.reduceLE, Int.reduceLT, Int.reduceNeg, reduceIte, Nat.lt_irrefl] <;> try decide)
    | (refine awp_seqK ?_)
    | (refine kt ?_)
    | (refine And.intro ?_ ?_)
    | ((first | refine awp_region ?_ | refine awp_draw (by kernel_rfl) (by kernel_rfl) ?_ | refine Imp.le2 ?_ | refine awp_label ?_ | refine awp_skip ?_ | refine awp_exit ?_ | refine awp_cd ?_ | refine awp_ret ?_ | refine go_split (fun _h => ?_) (fun _h => ?_)) <;> try simp (maxSteps := 4000000) only [go_sem, Nat.reduceAdd, Nat.reduceMul, Nat.reduceSub, Nat.reduceLeDiff, Nat.reduceLT, Int.reduceAdd, Int.reduceToNat, Int.reduceLE, Int.reduceLT, Int.reduceNeg, reduceIte])
    | (intro _h)
    | (refine awp_block ?_)
    | (refine awp_scope ?_)
    | (refine cond_b (fun _h => ?_) (fun _h => ?_))
    | (show heapOK _ _ = true; kernel_rfl)
    | (show heapOK2 _ _ = true; kernel_rfl)
    | (omega)))
      have hol : (ordL t).length = t.homes.length := ordL_ord.len
      refine awp_loopJ (fun i : Nat => i ≤ t.homes.length ∧ lateF t (t.homes.length - i) i = lateN t) (fun i => ⟨mkT 47 [(1, .pptr (townC t) 0), (2, .osl 1 t.homes.length 0 t.homes.length), (3, .int .i64 0), (21, .osl 1 t.homes.length 0 t.homes.length), (22, .int .i64 t.homes.length), (23, .int .i64 i)], [none, some (.cells 3 1 t.homes.length (ints (ordL t)))], []⟩) (fun i => t.homes.length - i) 0 ⟨Nat.zero_le _, rfl⟩ (.le2 ?_) ?_
      · simp only [townC, slH, slL]; simp (maxSteps := 4000000) only [go_sem, Nat.reduceAdd, Nat.reduceMul, Nat.reduceSub, Nat.reduceLeDiff, Nat.reduceLT, Int.reduceAdd, Int.reduceToNat, Int.reduceLE, Int.reduceLT, Int.reduceNeg, reduceIte]
        try rfl
      · rintro i ⟨hi, hf⟩
        by_cases hi1 : i < t.homes.length
        · have hor := ordL_ord.at (l := ordL t) (k := i) (by omega)
          have hby := by_c t (t.homes.getD ((ordL t).getD i 0).toNat default) ht (ht.home _ (by omega))
          have e1 : byT t (t.homes.getD ((ordL t).getD i 0).toNat default) = byI t ((ordL t).getD i 0) := rfl
          rw [e1] at hby
          have hm := mul_bd (a := (i : Int) + 1) (A := 8) (b := t.chi) (B := 60) (by omega) (by omega) (by omega) (by omega)
          rw [show t.homes.length - i = (t.homes.length - (i + 1)) + 1 by omega] at hf
          simp only [lateF] at hf
          simp only [townC, slH, slL, homeC] at hby
          simp only [townC, slH, slL]; simp (maxSteps := 4000000) only [go_sem, Nat.reduceAdd, Nat.reduceMul, Nat.reduceSub, Nat.reduceLeDiff, Nat.reduceLT, Int.reduceAdd, Int.reduceToNat, Int.reduceLE, Int.reduceLT, Int.reduceNeg, reduceIte]
          (repeat' (first
    | ((omega))
    | (refine awp_seqK ?_)
    | (refine kt ?_)
    | (refine And.intro ?_ ?_)
    | ((first | refine awp_region ?_ | refine awp_draw (by kernel_rfl) (by kernel_rfl) ?_ | refine Imp.le2 ?_ | refine awp_label ?_ | refine awp_skip ?_ | refine awp_exit ?_ | refine awp_cd ?_ | refine awp_ret ?_ | refine callK_of (hby) ?_ | refine go_split (fun _h => ?_) (fun _h => ?_)) <;> try simp (maxSteps := 4000000) only [go_sem, Nat.reduceAdd, Nat.reduceMul, Nat.reduceSub, Nat.reduceLeDiff, Nat.reduceLT, Int.reduceAdd, Int.reduceToNat, Int.reduceLE, Int.reduceLT, Int.reduceNeg, reduceIte, hol])
    | (intro _h)
    | (refine awp_block ?_)
    | (refine awp_scope ?_)
    | (refine cond_b (fun _h => ?_) (fun _h => ?_))
    | (show heapOK _ _ = true; kernel_rfl)
    | (show heapOK2 _ _ = true; kernel_rfl)
    | (omega)))
          all_goals (refine ⟨i + 1, ⟨by omega, by rw [if_neg (by omega)] at hf; exact hf⟩, by omega, .le2 ?_⟩; simp (maxSteps := 4000000) only [go_sem, Nat.reduceAdd, Nat.reduceMul, Nat.reduceSub, Nat.reduceLeDiff, Nat.reduceLT, Int.reduceAdd, Int.reduceToNat, Int.reduceLE, Int.reduceLT, Int.reduceNeg, reduceIte]; try rfl)
        · have e : i = t.homes.length := by omega
          subst e
          simp only [townC, slH, slL]; simp (maxSteps := 4000000) only [go_sem, Nat.reduceAdd, Nat.reduceMul, Nat.reduceSub, Nat.reduceLeDiff, Nat.reduceLT, Int.reduceAdd, Int.reduceToNat, Int.reduceLE, Int.reduceLT, Int.reduceNeg, reduceIte]
          rw [Nat.sub_self] at hf
          simp only [lateF] at hf
          (repeat' (first
    | ((exfalso; omega))
    | (refine awp_seqK ?_)
    | (refine kt ?_)
    | (refine And.intro ?_ ?_)
    | ((first | refine awp_region ?_ | refine awp_draw (by kernel_rfl) (by kernel_rfl) ?_ | refine Imp.le2 ?_ | refine awp_label ?_ | refine awp_skip ?_ | refine awp_exit ?_ | refine awp_cd ?_ | refine awp_ret ?_ | refine go_split (fun _h => ?_) (fun _h => ?_)) <;> try simp (maxSteps := 4000000) only [go_sem, Nat.reduceAdd, Nat.reduceMul, Nat.reduceSub, Nat.reduceLeDiff, Nat.reduceLT, Int.reduceAdd, Int.reduceToNat, Int.reduceLE, Int.reduceLT, Int.reduceNeg, reduceIte])
    | (intro _h)
    | (refine awp_block ?_)
    | (refine awp_scope ?_)
    | (refine cond_b (fun _h => ?_) (fun _h => ?_))
    | (show heapOK _ _ = true; kernel_rfl)
    | (show heapOK2 _ _ = true; kernel_rfl)
    | (omega)))
          all_goals exact hf
theorem lateF_bd {t : Town} : ∀ (f i : Nat), lateF t f i = 0 ∨ ((i : Int) < lateF t f i ∧ lateF t f i ≤ i + f)
  | 0, _ => .inl rfl
  | f + 1, i => by
    simp only [lateF]
    split
    · right; omega
    · rcases lateF_bd (t := t) f (i + 1) with h | h
      · exact .inl h
      · right; omega
theorem lateN_bd {t : Town} : 0 ≤ lateN t ∧ lateN t ≤ t.homes.length := by
  have := lateF_bd (t := t) t.homes.length 0
  unfold lateN
  omega
def orderE (t : Town) : Int := if faultT t ≠ 0 then faultT t else if 0 < lateN t then 11 else 0
def orderV (t : Town) : AV := if orderE t = 0 then sl (ordL t) else .nils
theorem Order_c (t : Town) (hb : townOK t) : CallS Try.prog 23 [.agg (townC t)] (.tup [orderV t, .int .i64 (orderE t)]) := by
  have hch := check_c t hb
  by_cases h0 : faultT t = 0
  · have ht := faultT_zero h0
    have hlen := ht.homes
    have ho := order_c t ht
    have hol : (ordL t).length = t.homes.length := ordL_ord.len
    have e0 : (faultT t = 0) = True := eq_true h0
    simp only [townC, slH, slL, h0] at hch ho
    by_cases hl : 0 < lateN t
    · have e1 : orderE t = 11 := by simp [orderE, h0, hl]
      have e2 : (0 < lateN t) = True := eq_true hl
      rw [show orderV t = .nils by simp [orderV, e1], e1]
      (refine callS_of_awp (fun w args => Try.call23 ..) Try.func23 rfl (fun w0 m0 wz => ?_); simp only [Try.ntmps23, Try.results23, initT, junks, homeC, hallC, slH, slL, townC, sl, List.toList_toArray, List.cons_append, List.nil_append, List.length_cons, List.length_nil, Nat.reduceAdd, Nat.reduceSub])
      (repeat' (first
    | (refine awp_ownN 1 rfl ?_; simp (maxSteps := 4000000) only [go_sem, Nat.reduceAdd, Nat.reduceMul, Nat.reduceSub, Nat.reduceLeDiff, Nat.reduceLT, Int.reduceAdd, Int.reduceToNat, Int.reduceLE, Int.reduceLT, Int.reduceNeg, reduceIte, List.take_succ_cons, List.take_zero, e0, decide_true, e2]; (repeat refine And.intro (by omega) ?_); refine own_go (ho) [] rfl ?_ ?_ rfl ?_ <;> try simp (maxSteps := 4000000) only [go_sem, Nat.reduceAdd, Nat.reduceMul, Nat.reduceSub, Nat.reduceLeDiff, Nat.reduceLT, Int.reduceAdd, Int.reduceToNat, Int.reduceLE, Int.reduceLT, Int.reduceNeg, reduceIte, Nat.lt_irrefl, e0, decide_true, e2] <;> try decide)
    | (refine awp_seqK ?_)
    | (refine kt ?_)
    | (refine And.intro ?_ ?_)
    | ((first | refine awp_region ?_ | refine awp_draw (by kernel_rfl) (by kernel_rfl) ?_ | refine Imp.le2 ?_ | refine awp_label ?_ | refine awp_skip ?_ | refine awp_exit ?_ | refine awp_cd ?_ | refine awp_ret ?_ | refine callK_of (hch) ?_ | refine go_split (fun _h => ?_) (fun _h => ?_)) <;> try simp (maxSteps := 4000000) only [go_sem, Nat.reduceAdd, Nat.reduceMul, Nat.reduceSub, Nat.reduceLeDiff, Nat.reduceLT, Int.reduceAdd, Int.reduceToNat, Int.reduceLE, Int.reduceLT, Int.reduceNeg, reduceIte, e0, decide_true, e2])
    | (intro _h)
    | (refine awp_block ?_)
    | (refine awp_scope ?_)
    | (refine cond_b (fun _h => ?_) (fun _h => ?_))
    | (show heapOK _ _ = true; kernel_rfl)
    | (show heapOK2 _ _ = true; kernel_rfl)
    | (omega)))
      all_goals trace_state
    · have e1 : orderE t = 0 := by simp [orderE, h0, hl]
      have e2 : (0 < lateN t) = False := eq_false hl
      simp only [orderV, e1, if_true, sl]
      (refine callS_of_awp (fun w args => Try.call23 ..) Try.func23 rfl (fun w0 m0 wz => ?_); simp only [Try.ntmps23, Try.results23, initT, junks, homeC, hallC, slH, slL, townC, sl, List.toList_toArray, List.cons_append, List.nil_append, List.length_cons, List.length_nil, Nat.reduceAdd, Nat.reduceSub])
      (repeat' (first
    | (refine awp_ownN 1 rfl ?_; simp (maxSteps := 4000000) only [go_sem, Nat.reduceAdd, Nat.reduceMul, Nat.reduceSub, Nat.reduceLeDiff, Nat.reduceLT, Int.reduceAdd, Int.reduceToNat, Int.reduceLE, Int.reduceLT, Int.reduceNeg, reduceIte, List.take_succ_cons, List.take_zero, e0, decide_true, e2, decide_false]; (repeat refine And.intro (by omega) ?_); refine own_go (ho) [] rfl ?_ ?_ rfl ?_ <;> try simp (maxSteps := 4000000) only [go_sem, Nat.reduceAdd, Nat.reduceMul, Nat.reduceSub, Nat.reduceLeDiff, Nat.reduceLT, Int.reduceAdd, Int.reduceToNat, Int.reduceLE, Int.reduceLT, Int.reduceNeg, reduceIte, Nat.lt_irrefl, e0, decide_true, e2, decide_false] <;> try decide)
    | (refine awp_seqK ?_)
    | (refine kt ?_)
    | (refine And.intro ?_ ?_)
    | ((first | refine awp_region ?_ | refine awp_draw (by kernel_rfl) (by kernel_rfl) ?_ | refine Imp.le2 ?_ | refine awp_label ?_ | refine awp_skip ?_ | refine awp_exit ?_ | refine awp_cd ?_ | refine awp_ret ?_ | refine callK_of (hch) ?_ | refine go_split (fun _h => ?_) (fun _h => ?_)) <;> try simp (maxSteps := 4000000) only [go_sem, Nat.reduceAdd, Nat.reduceMul, Nat.reduceSub, Nat.reduceLeDiff, Nat.reduceLT, Int.reduceAdd, Int.reduceToNat, Int.reduceLE, Int.reduceLT, Int.reduceNeg, reduceIte, e0, decide_true, e2, decide_false])
    | (intro _h)
    | (refine awp_block ?_)
    | (refine awp_scope ?_)
    | (refine cond_b (fun _h => ?_) (fun _h => ?_))
    | (show heapOK _ _ = true; kernel_rfl)
    | (show heapOK2 _ _ = true; kernel_rfl)
    | (omega)))
      all_goals trace_state
  · have e0 : (faultT t = 0) = False := eq_false h0
    have e1 : orderE t = faultT t := by simp [orderE, h0]
    simp only [orderV, e1, h0, if_false]
    simp only [townC, slH, slL] at hch
    (refine callS_of_awp (fun w args => Try.call23 ..) Try.func23 rfl (fun w0 m0 wz => ?_); simp only [Try.ntmps23, Try.results23, initT, junks, homeC, hallC, slH, slL, townC, sl, List.toList_toArray, List.cons_append, List.nil_append, List.length_cons, List.length_nil, Nat.reduceAdd, Nat.reduceSub])
    (repeat' (first
    | (refine awp_seqK ?_)
    | (refine kt ?_)
    | (refine And.intro ?_ ?_)
    | ((first | refine awp_region ?_ | refine awp_draw (by kernel_rfl) (by kernel_rfl) ?_ | refine Imp.le2 ?_ | refine awp_label ?_ | refine awp_skip ?_ | refine awp_exit ?_ | refine awp_cd ?_ | refine awp_ret ?_ | refine callK_of (hch) ?_ | refine go_split (fun _h => ?_) (fun _h => ?_)) <;> try simp (maxSteps := 4000000) only [go_sem, Nat.reduceAdd, Nat.reduceMul, Nat.reduceSub, Nat.reduceLeDiff, Nat.reduceLT, Int.reduceAdd, Int.reduceToNat, Int.reduceLE, Int.reduceLT, Int.reduceNeg, reduceIte, e0, decide_false])
    | (intro _h)
    | (refine awp_block ?_)
    | (refine awp_scope ?_)
    | (refine cond_b (fun _h => ?_) (fun _h => ?_))
    | (show heapOK _ _ = true; kernel_rfl)
    | (show heapOK2 _ _ = true; kernel_rfl)
    | (omega)))
end Go.Am

/- Contracts of the away functions: those who cannot all be called. -/
namespace Go.Am
open Go.RowKit Go.Proofs
theorem prep_take {ok : Nat → Prop} {w : World} {n : Nat} {xs : List AV} {v : Value} (p : PRep ok w (.psl false n xs) v) (m : Nat) : PRep ok w (.psl false n (xs.take m)) v := by
  cases p with
  | psle h1 h2 h3 => rw [List.take_nil]; exact .psle h1 h2 h3
  | psl vs h1 h2 hok hc hr =>
    refine .psl vs h1 h2 hok (fun j hj => hc j ?_) (fun j hj => ?_)
    · simp at hj; omega
    · have : j < xs.length := by simp at hj; omega
      rw [List.getElem_take]
      exact hr j this
theorem CallS.take1 {P : Program} {f : FuncId} {us0 : List AV} {n : Nat} {xs ys : List AV} (h : CallS P f us0 (.tup (.psl false n xs :: ys))) (m : Nat) : CallS P f us0 (.tup (.psl false n (xs.take m) :: ys)) := by
  refine ⟨h.1, fun w vs ok a b c => (h.2 w vs ok a b c).mono ?_⟩
  rintro e w' ⟨v, rfl, hv, hb⟩
  refine ⟨v, rfl, ?_, hb⟩
  cases hv with
  | tup us h1 r1 =>
    refine .tup us h1 fun j a b => ?_
    cases j with
    | zero => exact prep_take (r1 0 (by simp) b) m
    | succ j => exact r1 (j + 1) (by simpa using a) b
attribute [local irreducible] AWP CallS Kt goK CallK stepK evOps SemF SemY Imp
set_option maxRecDepth 4000
set_option linter.unusedSimpArgs false
set_option linter.unusedVariables false
set_option maxHeartbeats 1600000

def ltI (a b : Int) : Bool := decide (a < b)
theorem nan_c (a : Int) : CallS Try.prog 130 [.int .i64 a] (.bool false) := by
  (refine callS_of_awp (fun w args => Try.call130 ..) Try.func130 rfl (fun w0 m0 wz => ?_); simp only [Try.ntmps130, Try.results130, initT, junks, homeC, hallC, slH, slL, townC, sl, List.toList_toArray, List.cons_append, List.nil_append, List.length_cons, List.length_nil, Nat.reduceAdd, Nat.reduceSub])
  (repeat' (first
    | (refine awp_seqK ?_)
    | (refine kt ?_)
    | (refine And.intro ?_ ?_)
    | ((first | refine awp_region ?_ | refine awp_draw (by kernel_rfl) (by kernel_rfl) ?_ | refine Imp.le2 ?_ | refine awp_label ?_ | refine awp_skip ?_ | refine awp_exit ?_ | refine awp_cd ?_ | refine awp_ret ?_ | refine go_split (fun _h => ?_) (fun _h => ?_)) <;> try simp (maxSteps := 4000000) only [go_sem, Nat.reduceAdd, Nat.reduceMul, Nat.reduceSub, Nat.reduceLeDiff, Nat.reduceLT, Int.reduceAdd, Int.reduceToNat, Int.reduceLE, Int.reduceLT, Int.reduceNeg, reduceIte])
    | (intro _h)
    | (refine awp_block ?_)
    | (refine awp_scope ?_)
    | (refine cond_b (fun _h => ?_) (fun _h => ?_))
    | (show heapOK _ _ = true; kernel_rfl)
    | (show heapOK2 _ _ = true; kernel_rfl)
    | (omega)))
theorem less_c (a b : Int) : CallS Try.prog 111 [.int .i64 a, .int .i64 b] (.bool (decide (a < b))) := by
  (refine callS_of_awp (fun w args => Try.call111 ..) Try.func111 rfl (fun w0 m0 wz => ?_); simp only [Try.ntmps111, Try.results111, initT, junks, homeC, hallC, slH, slL, townC, sl, List.toList_toArray, List.cons_append, List.nil_append, List.length_cons, List.length_nil, Nat.reduceAdd, Nat.reduceSub])
  (repeat' (first
    | (refine awp_seqK ?_)
    | (refine kt ?_)
    | (refine And.intro ?_ ?_)
    | ((first | refine awp_region ?_ | refine awp_draw (by kernel_rfl) (by kernel_rfl) ?_ | refine Imp.le2 ?_ | refine awp_label ?_ | refine awp_skip ?_ | refine awp_exit ?_ | refine awp_cd ?_ | refine awp_ret ?_ | refine callK_of (nan_c _) ?_ | refine go_split (fun _h => ?_) (fun _h => ?_)) <;> try simp (maxSteps := 4000000) only [go_sem, Nat.reduceAdd, Nat.reduceMul, Nat.reduceSub, Nat.reduceLeDiff, Nat.reduceLT, Int.reduceAdd, Int.reduceToNat, Int.reduceLE, Int.reduceLT, Int.reduceNeg, reduceIte])
    | (intro _h)
    | (refine awp_block ?_)
    | (refine awp_scope ?_)
    | (refine cond_b (fun _h => ?_) (fun _h => ?_))
    | (show heapOK _ _ = true; kernel_rfl)
    | (show heapOK2 _ _ = true; kernel_rfl)
    | (omega)))
theorem isortO_c (l : List Int) (g m : Nat) (h1 : 1 ≤ m ∧ m ≤ l.length ∧ l.length ≤ 12) :
    SemF Try.prog 105 [.osl 0 g 0 m, .int .i64 0, .int .i64 m] [some (.cells 3 1 g (ints l))] (.tup []) [some (.cells 3 1 g (ints (isort ltI l m)))] := by
  (refine semF_of_awp (ys := []) (fun w args => Try.call105 ..) Try.func105 rfl (fun w0 m0 wz => ?_); simp only [Try.ntmps105, Try.results105, initT, junks, homeC, hallC, slH, slL, townC, sl, List.toList_toArray, List.cons_append, List.nil_append, List.length_cons, List.length_nil, Nat.reduceAdd, Nat.reduceSub])
  (repeat' (first
    | (refine awp_seqK ?_)
    | (refine kt ?_)
    | (refine And.intro ?_ ?_)
    | ((first | refine awp_region ?_ | refine awp_draw (by kernel_rfl) (by kernel_rfl) ?_ | refine Imp.le2 ?_ | refine awp_label ?_ | refine awp_skip ?_ | refine awp_exit ?_ | refine awp_cd ?_ | refine awp_ret ?_ | refine go_split (fun _h => ?_) (fun _h => ?_)) <;> try simp (maxSteps := 4000000) only [go_sem, Nat.reduceAdd, Nat.reduceMul, Nat.reduceSub, Nat.reduceLeDiff, Nat.reduceLT, Int.reduceAdd, Int.reduceToNat, Int.reduceLE, Int.reduceLT, Int.reduceNeg, reduceIte])
    | (intro _h)
    | (refine awp_block ?_)
    | (refine awp_scope ?_)
    | (refine cond_b (fun _h => ?_) (fun _h => ?_))
    | (show heapOK _ _ = true; kernel_rfl)
    | (show heapOK2 _ _ = true; kernel_rfl)
    | (omega)))
  refine awp_loopN (m - 1) (fun k => ⟨mkT 49 [(0, .osl 0 g 0 m), (1, .int .i64 0), (2, .int .i64 m), (6, .int .i64 ((k : Int) + 1))], [some (.cells 3 1 g (ints (isort ltI l (k + 1))))], []⟩) (.le2 ?_) ?_
  · simp (maxSteps := 4000000) only [go_sem, Nat.reduceAdd, Nat.reduceMul, Nat.reduceSub, Nat.reduceLeDiff, Nat.reduceLT, Int.reduceAdd, Int.reduceToNat, Int.reduceLE, Int.reduceLT, Int.reduceNeg, reduceIte]
    rfl
  · intro k hk
    have hpk := isort_perm (lt := ltI) (l := l) (k + 1) (by omega)
    have hlk := hpk.length_eq
    simp (maxSteps := 4000000) only [go_sem, Nat.reduceAdd, Nat.reduceMul, Nat.reduceSub, Nat.reduceLeDiff, Nat.reduceLT, Int.reduceAdd, Int.reduceToNat, Int.reduceLE, Int.reduceLT, Int.reduceNeg, reduceIte]
    by_cases hk1 : k + 1 < m
    · (repeat' (first
    | ((exfalso; omega))
    | (refine awp_seqK ?_)
    | (refine kt ?_)
    | (refine And.intro ?_ ?_)
    | ((first | refine awp_region ?_ | refine awp_draw (by kernel_rfl) (by kernel_rfl) ?_ | refine Imp.le2 ?_ | refine awp_label ?_ | refine awp_skip ?_ | refine awp_exit ?_ | refine awp_cd ?_ | refine awp_ret ?_ | refine go_split (fun _h => ?_) (fun _h => ?_)) <;> try simp (maxSteps := 4000000) only [go_sem, Nat.reduceAdd, Nat.reduceMul, Nat.reduceSub, Nat.reduceLeDiff, Nat.reduceLT, Int.reduceAdd, Int.reduceToNat, Int.reduceLE, Int.reduceLT, Int.reduceNeg, reduceIte])
    | (intro _h)
    | (refine awp_block ?_)
    | (refine awp_scope ?_)
    | (refine cond_b (fun _h => ?_) (fun _h => ?_))
    | (show heapOK _ _ = true; kernel_rfl)
    | (show heapOK2 _ _ = true; kernel_rfl)
    | (omega)))
      refine awp_loopJ (fun x : Nat × List Int => sink ltI x.1 x.2 = isort ltI l (k + 1 + 1) ∧ x.2.length = l.length ∧ x.1 ≤ k + 1) (fun x => ⟨mkT 49 [(0, .osl 0 g 0 m), (1, .int .i64 0), (2, .int .i64 m), (6, .int .i64 ((k : Int) + 1)), (7, .int .i64 (x.1 : Int))], [some (.cells 3 1 g (ints x.2))], []⟩) (fun x => x.1) (k + 1, isort ltI l (k + 1)) ⟨rfl, hlk, by simp⟩ (.le2 ?_) ?_
      · simp (maxSteps := 4000000) only [go_sem, Nat.reduceAdd, Nat.reduceMul, Nat.reduceSub, Nat.reduceLeDiff, Nat.reduceLT, Int.reduceAdd, Int.reduceToNat, Int.reduceLE, Int.reduceLT, Int.reduceNeg, reduceIte]
        first | rfl | omega | exact ⟨by omega, rfl⟩
      · rintro ⟨j, L⟩ ⟨hs, hL, hj⟩
        simp only at hs hL hj
        cases j with
        | zero =>
          simp only [sink] at hs
          simp (maxSteps := 4000000) only [go_sem, Nat.reduceAdd, Nat.reduceMul, Nat.reduceSub, Nat.reduceLeDiff, Nat.reduceLT, Int.reduceAdd, Int.reduceToNat, Int.reduceLE, Int.reduceLT, Int.reduceNeg, reduceIte]
          (repeat' (first
    | ((exfalso; omega))
    | (refine awp_seqK ?_)
    | (refine kt ?_)
    | (refine And.intro ?_ ?_)
    | ((first | refine awp_region ?_ | refine awp_draw (by kernel_rfl) (by kernel_rfl) ?_ | refine Imp.le2 ?_ | refine awp_label ?_ | refine awp_skip ?_ | refine awp_exit ?_ | refine awp_cd ?_ | refine awp_ret ?_ | refine go_split (fun _h => ?_) (fun _h => ?_)) <;> try simp (maxSteps := 4000000) only [go_sem, Nat.reduceAdd, Nat.reduceMul, Nat.reduceSub, Nat.reduceLeDiff, Nat.reduceLT, Int.reduceAdd, Int.reduceToNat, Int.reduceLE, Int.reduceLT, Int.reduceNeg, reduceIte])
    | (intro _h)
    | (refine awp_block ?_)
    | (refine awp_scope ?_)
    | (refine cond_b (fun _h => ?_) (fun _h => ?_))
    | (show heapOK _ _ = true; kernel_rfl)
    | (show heapOK2 _ _ = true; kernel_rfl)
    | (omega)))
          all_goals rw [hs]
        | succ q =>
          have e1 : ((q + 1 : Nat) : Int) - 1 = q := by omega
          simp only [sink, ltI, decide_eq_true_eq] at hs
          simp (maxSteps := 4000000) only [go_sem, Nat.reduceAdd, Nat.reduceMul, Nat.reduceSub, Nat.reduceLeDiff, Nat.reduceLT, Int.reduceAdd, Int.reduceToNat, Int.reduceLE, Int.reduceLT, Int.reduceNeg, reduceIte]
          (repeat' (first
    | ((omega))
    | (refine awp_seqK ?_)
    | (refine kt ?_)
    | (refine And.intro ?_ ?_)
    | ((first | refine awp_region ?_ | refine awp_draw (by kernel_rfl) (by kernel_rfl) ?_ | refine Imp.le2 ?_ | refine awp_label ?_ | refine awp_skip ?_ | refine awp_exit ?_ | refine awp_cd ?_ | refine awp_ret ?_ | refine callK_of (less_c _ _) ?_ | refine go_split (fun _h => ?_) (fun _h => ?_)) <;> try simp (maxSteps := 4000000) only [go_sem, Nat.reduceAdd, Nat.reduceMul, Nat.reduceSub, Nat.reduceLeDiff, Nat.reduceLT, Int.reduceAdd, Int.reduceToNat, Int.reduceLE, Int.reduceLT, Int.reduceNeg, reduceIte, e1, hL])
    | (intro _h)
    | (refine awp_block ?_)
    | (refine awp_scope ?_)
    | (refine cond_b (fun _h => ?_) (fun _h => ?_))
    | (show heapOK _ _ = true; kernel_rfl)
    | (show heapOK2 _ _ = true; kernel_rfl)
    | (omega)))
          all_goals first
            | (rw [isp_length (by omega)]; omega)
            | (rw [if_pos (by omega)] at hs
               refine ⟨(q, swp2 L q), ⟨hs, by rw [swp2_length (by omega)]; exact hL, by simp only; omega⟩, by simp only; omega, .le2 ?_⟩
               simp only [swp2]; simp (maxSteps := 4000000) only [go_sem, Nat.reduceAdd, Nat.reduceMul, Nat.reduceSub, Nat.reduceLeDiff, Nat.reduceLT, Int.reduceAdd, Int.reduceToNat, Int.reduceLE, Int.reduceLT, Int.reduceNeg, reduceIte])
            | (rw [if_neg (by omega)] at hs; rw [hs])
            | trace_state
    · have e : k + 1 = m := by omega
      (repeat' (first
    | ((exfalso; omega))
    | (refine awp_seqK ?_)
    | (refine kt ?_)
    | (refine And.intro ?_ ?_)
    | ((first | refine awp_region ?_ | refine awp_draw (by kernel_rfl) (by kernel_rfl) ?_ | refine Imp.le2 ?_ | refine awp_label ?_ | refine awp_skip ?_ | refine awp_exit ?_ | refine awp_cd ?_ | refine awp_ret ?_ | refine go_split (fun _h => ?_) (fun _h => ?_)) <;> try simp (maxSteps := 4000000) only [go_sem, Nat.reduceAdd, Nat.reduceMul, Nat.reduceSub, Nat.reduceLeDiff, Nat.reduceLT, Int.reduceAdd, Int.reduceToNat, Int.reduceLE, Int.reduceLT, Int.reduceNeg, reduceIte])
    | (intro _h)
    | (refine awp_block ?_)
    | (refine awp_scope ?_)
    | (refine cond_b (fun _h => ?_) (fun _h => ?_))
    | (show heapOK _ _ = true; kernel_rfl)
    | (show heapOK2 _ _ = true; kernel_rfl)
    | (omega)))
      all_goals rw [e]
theorem len_c (n : Nat) (h : 1 ≤ n ∧ n ≤ 8) : ∃ k : Int, CallS Try.prog 89 [.int .u64 n] (.int .i64 k) := by
  obtain ⟨h1, h2⟩ := h
  have r : ∀ k n : Int, pcallX (xcall Try.prog (fun _ => true) pmA entA 2000 60) 89 [.int .u64 n] = some (.int .i64 k) → CallS Try.prog 89 [.int .u64 n] (.int .i64 k) := fun k n h => callS_run (eqt := fun _ => true) (pm := pmA) (ent := entA) (lf := 2000) (n := 60) (fun t _ => eqOK t) entA_ok mixedA h
  rcases (by omega : n = 1 ∨ n = 2 ∨ n = 3 ∨ n = 4 ∨ n = 5 ∨ n = 6 ∨ n = 7 ∨ n = 8) with rfl | rfl | rfl | rfl | rfl | rfl | rfl | rfl
  · exact ⟨1, r _ _ (by kernel_rfl)⟩
  · exact ⟨2, r _ _ (by kernel_rfl)⟩
  · exact ⟨2, r _ _ (by kernel_rfl)⟩
  · exact ⟨3, r _ _ (by kernel_rfl)⟩
  · exact ⟨3, r _ _ (by kernel_rfl)⟩
  · exact ⟨3, r _ _ (by kernel_rfl)⟩
  · exact ⟨3, r _ _ (by kernel_rfl)⟩
  · exact ⟨4, r _ _ (by kernel_rfl)⟩
theorem pdq_c (l : List Int) (g m : Nat) (k : Int) (h1 : 1 ≤ m ∧ m ≤ l.length ∧ l.length ≤ 12) :
    SemF Try.prog 88 [.osl 0 g 0 m, .int .i64 0, .int .i64 m, .int .i64 k] [some (.cells 3 1 g (ints l))] (.tup []) [some (.cells 3 1 g (ints (isort ltI l m)))] := by
  have hs := isortO_c l g m h1
  have e1 : ((m : Int) ≤ 12) = True := eq_true (by omega)
  (refine semF_of_awp (ys := []) (fun w args => Try.call88 ..) Try.func88 rfl (fun w0 m0 wz => ?_); simp only [Try.ntmps88, Try.results88, initT, junks, homeC, hallC, slH, slL, townC, sl, List.toList_toArray, List.cons_append, List.nil_append, List.length_cons, List.length_nil, Nat.reduceAdd, Nat.reduceSub])
  (repeat' (first
    | (refine awp_seqK ?_)
    | (refine kt ?_)
    | (refine And.intro ?_ ?_)
    | ((first | refine awp_region ?_ | refine awp_draw (by kernel_rfl) (by kernel_rfl) ?_ | refine Imp.le2 ?_ | refine awp_label ?_ | refine awp_skip ?_ | refine awp_exit ?_ | refine awp_cd ?_ | refine awp_ret ?_ | refine go_split (fun _h => ?_) (fun _h => ?_)) <;> try simp (maxSteps := 4000000) only [go_sem, Nat.reduceAdd, Nat.reduceMul, Nat.reduceSub, Nat.reduceLeDiff, Nat.reduceLT, Int.reduceAdd, Int.reduceToNat, Int.reduceLE, Int.reduceLT, Int.reduceNeg, reduceIte])
    | (intro _h)
    | (refine awp_block ?_)
    | (refine awp_scope ?_)
    | (refine cond_b (fun _h => ?_) (fun _h => ?_))
    | (show heapOK _ _ = true; kernel_rfl)
    | (show heapOK2 _ _ = true; kernel_rfl)
    | (omega)))
  (refine awp_rounds 1 ?_; rw [ar_s])
  (repeat' (first
    | (refine awp_ownN (id := 4) 3 rfl ?_; simp (maxSteps := 4000000) only [go_sem, Nat.reduceAdd, Nat.reduceMul, Nat.reduceSub, Nat.reduceLeDiff, Nat.reduceLT, Int.reduceAdd, Int.reduceToNat, Int.reduceLE, Int.reduceLT, Int.reduceNeg, reduceIte, List.take_succ_cons, List.take_zero, e1, decide_true])
    | (refine own_go (hs) [0] rfl ?_ ?_ rfl ?_ <;> try simp (maxSteps := 4000000) only [go_sem, Nat.reduceAdd, Nat.reduceMul, Nat.reduceSub, Nat.reduceLeDiff, Nat.reduceLT, Int.reduceAdd, Int.reduceToNat, Int.reduceLE, Int.reduceLT, Int.reduceNeg, reduceIte, Nat.lt_irrefl, e1, decide_true] <;> try decide)
    | (refine awp_seqK ?_)
    | (refine kt ?_)
    | (refine And.intro ?_ ?_)
    | ((first | refine awp_region ?_ | refine awp_draw (by kernel_rfl) (by kernel_rfl) ?_ | refine Imp.le2 ?_ | refine awp_label ?_ | refine awp_skip ?_ | refine awp_exit ?_ | refine awp_cd ?_ | refine awp_ret ?_ | refine go_split (fun _h => ?_) (fun _h => ?_)) <;> try simp (maxSteps := 4000000) only [go_sem, Nat.reduceAdd, Nat.reduceMul, Nat.reduceSub, Nat.reduceLeDiff, Nat.reduceLT, Int.reduceAdd, Int.reduceToNat, Int.reduceLE, Int.reduceLT, Int.reduceNeg, reduceIte, e1, decide_true])
    | (intro _h)
    | (refine awp_block ?_)
    | (refine awp_scope ?_)
    | (refine cond_b (fun _h => ?_) (fun _h => ?_))
    | (show heapOK _ _ = true; kernel_rfl)
    | (show heapOK2 _ _ = true; kernel_rfl)
    | (omega)))
theorem Sort_c (l : List Int) (g m : Nat) (h1 : 1 ≤ m ∧ m ≤ l.length ∧ l.length ≤ 8) :
    SemF Try.prog 67 [.osl 0 g 0 m] [some (.cells 3 1 g (ints l))] (.tup []) [some (.cells 3 1 g (ints (isort ltI l m)))] := by
  obtain ⟨k, hk⟩ := len_c m (by omega)
  have hs := pdq_c l g m k (by omega)
  have e1 : IntKind.u64.wrap (m : Int) = m := Go.IntWalk.u64_in m (by omega)
  (refine semF_of_awp (ys := []) (fun w args => Try.call67 ..) Try.func67 rfl (fun w0 m0 wz => ?_); simp only [Try.ntmps67, Try.results67, initT, junks, homeC, hallC, slH, slL, townC, sl, List.toList_toArray, List.cons_append, List.nil_append, List.length_cons, List.length_nil, Nat.reduceAdd, Nat.reduceSub])
  (repeat' (first
    | (refine awp_ownN (id := 1) 5 rfl ?_; simp (maxSteps := 4000000) only [go_sem, Nat.reduceAdd, Nat.reduceMul, Nat.reduceSub, Nat.reduceLeDiff, Nat.reduceLT, Int.reduceAdd, Int.reduceToNat, Int.reduceLE, Int.reduceLT, Int.reduceNeg, reduceIte, List.take_succ_cons, List.take_zero, e1])
    | (refine own_go (hs) [0] rfl ?_ ?_ rfl ?_ <;> try simp (maxSteps := 4000000) only [go_sem, Nat.reduceAdd, Nat.reduceMul, Nat.reduceSub, Nat.reduceLeDiff, Nat.reduceLT, Int.reduceAdd, Int.reduceToNat, Int.reduceLE, Int.reduceLT, Int.reduceNeg, reduceIte, Nat.lt_irrefl, e1] <;> try decide)
    | (refine awp_seqK ?_)
    | (refine kt ?_)
    | (refine And.intro ?_ ?_)
    | ((first | refine awp_region ?_ | refine awp_draw (by kernel_rfl) (by kernel_rfl) ?_ | refine Imp.le2 ?_ | refine awp_label ?_ | refine awp_skip ?_ | refine awp_exit ?_ | refine awp_cd ?_ | refine awp_ret ?_ | refine callK_of (hk) ?_ | refine go_split (fun _h => ?_) (fun _h => ?_)) <;> try simp (maxSteps := 4000000) only [go_sem, Nat.reduceAdd, Nat.reduceMul, Nat.reduceSub, Nat.reduceLeDiff, Nat.reduceLT, Int.reduceAdd, Int.reduceToNat, Int.reduceLE, Int.reduceLT, Int.reduceNeg, reduceIte, e1])
    | (intro _h)
    | (refine awp_block ?_)
    | (refine awp_scope ?_)
    | (refine cond_b (fun _h => ?_) (fun _h => ?_))
    | (show heapOK _ _ = true; kernel_rfl)
    | (show heapOK2 _ _ = true; kernel_rfl)
    | (omega)))
/-- Those who cannot all be called. -/
def lateE (t : Town) : Int := if faultT t ≠ 0 then faultT t else if lateN t = 0 then 7 else 0
def lateL (t : Town) : List Int := (isort ltI (ordL t) (lateN t).toNat).take (lateN t).toNat
def lateV (t : Town) : AV := if lateE t = 0 then sl (lateL t) else .nils
theorem Late_c (t : Town) (hb : townOK t) : CallS Try.prog 44 [.agg (townC t)] (.tup [lateV t, .int .i64 (lateE t)]) := by
  have hch := check_c t hb
  by_cases h0 : faultT t = 0
  · have ht := faultT_zero h0
    have hlen := ht.homes
    have ho := order_c t ht
    have hol : (ordL t).length = t.homes.length := ordL_ord.len
    have hbd := lateN_bd (t := t)
    have e0 : (faultT t = 0) = True := eq_true h0
    simp only [townC, slH, slL, h0] at hch ho
    by_cases hl : lateN t = 0
    · have e1 : lateE t = 7 := by simp [lateE, h0, hl]
      have e2 : (lateN t = 0) = True := eq_true hl
      rw [show lateV t = .nils by simp [lateV, e1], e1]
      (refine callS_of_awp (fun w args => Try.call44 ..) Try.func44 rfl (fun w0 m0 wz => ?_); simp only [Try.ntmps44, Try.results44, initT, junks, homeC, hallC, slH, slL, townC, sl, List.toList_toArray, List.cons_append, List.nil_append, List.length_cons, List.length_nil, Nat.reduceAdd, Nat.reduceSub])
      (repeat' (first
    | (refine awp_ownN 1 rfl ?_; simp (maxSteps := 4000000) only [go_sem, Nat.reduceAdd, Nat.reduceMul, Nat.reduceSub, Nat.reduceLeDiff, Nat.reduceLT, Int.reduceAdd, Int.reduceToNat, Int.reduceLE, Int.reduceLT, Int.reduceNeg, reduceIte, List.take_succ_cons, List.take_zero, e0, decide_true, e2]; (repeat refine And.intro (by omega) ?_); refine own_go (ho) [] rfl ?_ ?_ rfl ?_ <;> try simp (maxSteps := 4000000) only [go_sem, Nat.reduceAdd, Nat.reduceMul, Nat.reduceSub, Nat.reduceLeDiff, Nat.reduceLT, Int.reduceAdd, Int.reduceToNat, Int.reduceLE, Int.reduceLT, Int.reduceNeg, reduceIte, Nat.lt_irrefl, e0, decide_true, e2] <;> try decide)
    | (refine awp_seqK ?_)
    | (refine kt ?_)
    | (refine And.intro ?_ ?_)
    | ((first | refine awp_region ?_ | refine awp_draw (by kernel_rfl) (by kernel_rfl) ?_ | refine Imp.le2 ?_ | refine awp_label ?_ | refine awp_skip ?_ | refine awp_exit ?_ | refine awp_cd ?_ | refine awp_ret ?_ | refine callK_of (hch) ?_ | refine go_split (fun _h => ?_) (fun _h => ?_)) <;> try simp (maxSteps := 4000000) only [go_sem, Nat.reduceAdd, Nat.reduceMul, Nat.reduceSub, Nat.reduceLeDiff, Nat.reduceLT, Int.reduceAdd, Int.reduceToNat, Int.reduceLE, Int.reduceLT, Int.reduceNeg, reduceIte, e0, decide_true, e2])
    | (intro _h)
    | (refine awp_block ?_)
    | (refine awp_scope ?_)
    | (refine cond_b (fun _h => ?_) (fun _h => ?_))
    | (show heapOK _ _ = true; kernel_rfl)
    | (show heapOK2 _ _ = true; kernel_rfl)
    | (omega)))
    · have e1 : lateE t = 0 := by simp [lateE, h0, hl]
      have e2 : (lateN t = 0) = False := eq_false hl
      have hso := Sort_c (ordL t) t.homes.length (lateN t).toNat (by omega)
      have hll : (isort ltI (ordL t) (lateN t).toNat).length = t.homes.length := by rw [isort_length (by omega), hol]
      have hlL : (lateL t).length = (lateN t).toNat := by simp only [lateL, List.length_take]; omega
      have inner : CallS Try.prog 44 [.agg (townC t)] (.tup [.psl false (lateN t).toNat (ints (isort ltI (ordL t) (lateN t).toNat)), .int .i64 0]) := by
        (refine callS_of_awp (fun w args => Try.call44 ..) Try.func44 rfl (fun w0 m0 wz => ?_); simp only [Try.ntmps44, Try.results44, initT, junks, homeC, hallC, slH, slL, townC, sl, List.toList_toArray, List.cons_append, List.nil_append, List.length_cons, List.length_nil, Nat.reduceAdd, Nat.reduceSub])
        (repeat' (first
    | (refine awp_ownN (id := 4) 1 rfl ?_; simp (maxSteps := 4000000) only [go_sem, Nat.reduceAdd, Nat.reduceMul, Nat.reduceSub, Nat.reduceLeDiff, Nat.reduceLT, Int.reduceAdd, Int.reduceToNat, Int.reduceLE, Int.reduceLT, Int.reduceNeg, reduceIte, List.take_succ_cons, List.take_zero, e0, decide_true, e2, decide_false, hol])
    | (refine own_go (ho) [] rfl ?_ ?_ rfl ?_ <;> try simp (maxSteps := 4000000) only [go_sem, Nat.reduceAdd, Nat.reduceMul, Nat.reduceSub, Nat.reduceLeDiff, Nat.reduceLT, Int.reduceAdd, Int.reduceToNat, Int.reduceLE, Int.reduceLT, Int.reduceNeg, reduceIte, Nat.lt_irrefl, e0, decide_true, e2, decide_false, hol] <;> try decide)
    | (refine awp_ownN (id := 8) 1 rfl ?_; simp (maxSteps := 4000000) only [go_sem, Nat.reduceAdd, Nat.reduceMul, Nat.reduceSub, Nat.reduceLeDiff, Nat.reduceLT, Int.reduceAdd, Int.reduceToNat, Int.reduceLE, Int.reduceLT, Int.reduceNeg, reduceIte, List.take_succ_cons, List.take_zero, e0, decide_true, e2, decide_false, hol])
    | (refine own_go (hso) [2] rfl ?_ ?_ rfl ?_ <;> try simp (maxSteps := 4000000) only [go_sem, Nat.reduceAdd, Nat.reduceMul, Nat.reduceSub, Nat.reduceLeDiff, Nat.reduceLT, Int.reduceAdd, Int.reduceToNat, Int.reduceLE, Int.reduceLT, Int.reduceNeg, reduceIte, Nat.lt_irrefl, e0, decide_true, e2, decide_false, hol] <;> try decide)
    | (refine awp_seqK ?_)
    | (refine kt ?_)
    | (refine And.intro ?_ ?_)
    | ((first | refine awp_region ?_ | refine awp_draw (by kernel_rfl) (by kernel_rfl) ?_ | refine Imp.le2 ?_ | refine awp_label ?_ | refine awp_skip ?_ | refine awp_exit ?_ | refine awp_cd ?_ | refine awp_ret ?_ | refine callK_of (hch) ?_ | refine go_split (fun _h => ?_) (fun _h => ?_)) <;> try simp (maxSteps := 4000000) only [go_sem, Nat.reduceAdd, Nat.reduceMul, Nat.reduceSub, Nat.reduceLeDiff, Nat.reduceLT, Int.reduceAdd, Int.reduceToNat, Int.reduceLE, Int.reduceLT, Int.reduceNeg, reduceIte, e0, decide_true, e2, decide_false, hol])
    | (intro _h)
    | (refine awp_block ?_)
    | (refine awp_scope ?_)
    | (refine cond_b (fun _h => ?_) (fun _h => ?_))
    | (show heapOK _ _ = true; kernel_rfl)
    | (show heapOK2 _ _ = true; kernel_rfl)
    | (omega)))
      have h9 := inner.take1 (lateN t).toNat
      rw [show lateV t = sl (lateL t) by simp [lateV, e1], e1]
      rw [show (ints (isort ltI (ordL t) (lateN t).toNat)).take (lateN t).toNat = ints (lateL t) by simp [ints, lateL, List.map_take]] at h9
      simp only [sl, hlL]
      simpa only [townC, slH, slL] using h9
  · have e0 : (faultT t = 0) = False := eq_false h0
    have e1 : lateE t = faultT t := by simp [lateE, h0]
    simp only [lateV, e1, h0, if_false]
    simp only [townC, slH, slL] at hch
    (refine callS_of_awp (fun w args => Try.call44 ..) Try.func44 rfl (fun w0 m0 wz => ?_); simp only [Try.ntmps44, Try.results44, initT, junks, homeC, hallC, slH, slL, townC, sl, List.toList_toArray, List.cons_append, List.nil_append, List.length_cons, List.length_nil, Nat.reduceAdd, Nat.reduceSub])
    (repeat' (first
    | (refine awp_seqK ?_)
    | (refine kt ?_)
    | (refine And.intro ?_ ?_)
    | ((first | refine awp_region ?_ | refine awp_draw (by kernel_rfl) (by kernel_rfl) ?_ | refine Imp.le2 ?_ | refine awp_label ?_ | refine awp_skip ?_ | refine awp_exit ?_ | refine awp_cd ?_ | refine awp_ret ?_ | refine callK_of (hch) ?_ | refine go_split (fun _h => ?_) (fun _h => ?_)) <;> try simp (maxSteps := 4000000) only [go_sem, Nat.reduceAdd, Nat.reduceMul, Nat.reduceSub, Nat.reduceLeDiff, Nat.reduceLT, Int.reduceAdd, Int.reduceToNat, Int.reduceLE, Int.reduceLT, Int.reduceNeg, reduceIte, e0, decide_false])
    | (intro _h)
    | (refine awp_block ?_)
    | (refine awp_scope ?_)
    | (refine cond_b (fun _h => ?_) (fun _h => ?_))
    | (show heapOK _ _ = true; kernel_rfl)
    | (show heapOK2 _ _ = true; kernel_rfl)
    | (omega)))
end Go.Am

/- The law AwayOrders, as a contract: it returns true. What the reference says of the order. -/
namespace Go.Am
open Go.RowKit Go.Proofs
attribute [local irreducible] AWP CallS Kt goK CallK stepK evOps SemF SemY Imp
set_option maxRecDepth 4000
set_option linter.unusedSimpArgs false
set_option linter.unusedVariables false
set_option maxHeartbeats 1600000

theorem rByI_c (t : Town) (ht : TownOK t) (a : Int) (h : 0 ≤ a ∧ a < t.homes.length) : CallS Try.prog 68 [.agg (townC t), .int .i64 a] (.int .i64 (byI t a)) := by
  have := rBy_c t a.toNat ht (by omega)
  rwa [show ((a.toNat : Nat) : Int) = a by omega] at this
/-- The order of the first ones. -/
def ordP (t : Town) (k : Nat) : List Int := isort (ltT t) (upTo k) k
theorem ordP_perm {t : Town} {k : Nat} : (ordP t k).Perm (upTo k) := isort_perm _ (by rw [upTo_length]; omega)
theorem rOrder_c (t : Town) (ht : TownOK t) : SemF Try.prog 46 [.agg (townC t)] [] (.osl 1 t.homes.length 0 t.homes.length) [none, some (.cells 3 1 t.homes.length (ints (ordL t)))] := by
  obtain ⟨hh1, hh2⟩ := ht.homes
  (refine semF_of_awp (ys := [.osl 1 t.homes.length 0 t.homes.length]) (fun w args => Try.call46 ..) Try.func46 rfl (fun w0 m0 wz => ?_); simp only [Try.ntmps46, Try.results46, initT, junks, homeC, hallC, slH, slL, townC, sl, List.toList_toArray, List.cons_append, List.nil_append, List.length_cons, List.length_nil, Nat.reduceAdd, Nat.reduceSub])
  (repeat' (first
    | (refine awp_seqK ?_)
    | (refine kt ?_)
    | (refine And.intro ?_ ?_)
    | ((first | refine awp_region ?_ | refine awp_draw (by kernel_rfl) (by kernel_rfl) ?_ | refine Imp.le2 ?_ | refine awp_label ?_ | refine awp_skip ?_ | refine awp_exit ?_ | refine awp_cd ?_ | refine awp_ret ?_ | refine go_split (fun _h => ?_) (fun _h => ?_)) <;> try simp (maxSteps := 4000000) only [go_sem, Nat.reduceAdd, Nat.reduceMul, Nat.reduceSub, Nat.reduceLeDiff, Nat.reduceLT, Int.reduceAdd, Int.reduceToNat, Int.reduceLE, Int.reduceLT, Int.reduceNeg, reduceIte])
    | (intro _h)
    | (refine awp_block ?_)
    | (refine awp_scope ?_)
    | (refine cond_b (fun _h => ?_) (fun _h => ?_))
    | (show heapOK _ _ = true; kernel_rfl)
    | (show heapOK2 _ _ = true; kernel_rfl)
    | (omega)))
  (refine awp_adT 3 3 1 rfl ?_; simp only [adT, lset, hset, List.length_cons, List.length_nil, Nat.reduceAdd])
  refine awp_loopN t.homes.length (fun k => ⟨mkT 57 [(1, .ptr 0 0 0), (3, .osl 1 k 0 k), (4, .int .i64 k)], [some (.cells 27 1 0 (townC t)), some (.cells 3 1 k (ints (ordP t k)))], []⟩) (.le2 ?_) ?_
  · simp only [townC, slH, slL]; simp (maxSteps := 4000000) only [go_sem, Nat.reduceAdd, Nat.reduceMul, Nat.reduceSub, Nat.reduceLeDiff, Nat.reduceLT, Int.reduceAdd, Int.reduceToNat, Int.reduceLE, Int.reduceLT, Int.reduceNeg, reduceIte]
    first | rfl | exact ⟨rfl, rfl⟩
  · intro k hk
    have hpk := ordP_perm (t := t) (k := k)
    have hlk : (ordP t k).length = k := by rw [hpk.length_eq, upTo_length]
    rcases Nat.lt_or_eq_of_le hk with hk1 | hk1
    · have hs : ints (ordP t k) ++ [.int .i64 (k : Int)] = ints (ordP t k ++ [(k : Int)]) := by simp [ints_append, ints_cons, ints_nil]
      have hst : ordP t (k + 1) = sink (ltT t) k (ordP t k ++ [(k : Int)]) := isort_step
      have hin0 : ∀ y ∈ ordP t k ++ [(k : Int)], 0 ≤ y ∧ y < t.homes.length := fun y hy => by
        rcases List.mem_append.1 hy with hy | hy
        · have := upTo_mem.1 (hpk.mem_iff.1 hy); omega
        · simp only [List.mem_singleton] at hy; omega
      have hl0 : (ordP t k ++ [(k : Int)]).length = k + 1 := by simp [hlk]
      have e1 : ((k : Int) + 1) - 1 = k := by omega
      simp only [townC, slH, slL]; simp (maxSteps := 4000000) only [go_sem, Nat.reduceAdd, Nat.reduceMul, Nat.reduceSub, Nat.reduceLeDiff, Nat.reduceLT, Int.reduceAdd, Int.reduceToNat, Int.reduceLE, Int.reduceLT, Int.reduceNeg, reduceIte]
      (repeat' (first
    | ((omega))
    | (refine awp_seqK ?_)
    | (refine kt ?_)
    | (refine And.intro ?_ ?_)
    | ((first | refine awp_region ?_ | refine awp_draw (by kernel_rfl) (by kernel_rfl) ?_ | refine Imp.le2 ?_ | refine awp_label ?_ | refine awp_skip ?_ | refine awp_exit ?_ | refine awp_cd ?_ | refine awp_ret ?_ | refine go_split (fun _h => ?_) (fun _h => ?_)) <;> try simp (maxSteps := 4000000) only [go_sem, Nat.reduceAdd, Nat.reduceMul, Nat.reduceSub, Nat.reduceLeDiff, Nat.reduceLT, Int.reduceAdd, Int.reduceToNat, Int.reduceLE, Int.reduceLT, Int.reduceNeg, reduceIte, hlk, hs, e1])
    | (intro _h)
    | (refine awp_block ?_)
    | (refine awp_scope ?_)
    | (refine cond_b (fun _h => ?_) (fun _h => ?_))
    | (show heapOK _ _ = true; kernel_rfl)
    | (show heapOK2 _ _ = true; kernel_rfl)
    | (omega)))
      generalize hL0 : ordP t k ++ [(k : Int)] = L0 at *
      refine awp_loopJ (fun x : Nat × List Int => sink (ltT t) x.1 x.2 = ordP t (k + 1) ∧ x.2.length = k + 1 ∧ x.1 ≤ k ∧ ∀ y ∈ x.2, 0 ≤ y ∧ y < t.homes.length) (fun x => ⟨mkT 57 [(1, .ptr 0 0 0), (3, .osl 1 (k + 1) 0 (k + 1)), (4, .int .i64 k), (5, .int .i64 (x.1 : Int))], [some (.cells 27 1 0 (townC t)), some (.cells 3 1 (k + 1) (ints x.2))], []⟩) (fun x => x.1) (k, L0) ⟨hst.symm, hl0, Nat.le_refl _, hin0⟩ (.le2 ?_) ?_
      · simp only [townC, slH, slL]; simp (maxSteps := 4000000) only [go_sem, Nat.reduceAdd, Nat.reduceMul, Nat.reduceSub, Nat.reduceLeDiff, Nat.reduceLT, Int.reduceAdd, Int.reduceToNat, Int.reduceLE, Int.reduceLT, Int.reduceNeg, reduceIte]
        try (first | rfl | exact ⟨rfl, rfl⟩ | omega)
      · rintro ⟨j, L⟩ ⟨hs1, hL, hj, hin⟩
        simp only at hs1 hL hj hin
        cases j with
        | zero =>
          simp only [sink] at hs1
          rw [← hs1]
          simp only [townC, slH, slL]; simp (maxSteps := 4000000) only [go_sem, Nat.reduceAdd, Nat.reduceMul, Nat.reduceSub, Nat.reduceLeDiff, Nat.reduceLT, Int.reduceAdd, Int.reduceToNat, Int.reduceLE, Int.reduceLT, Int.reduceNeg, reduceIte]
          (repeat' (first
    | ((exfalso; omega))
    | (refine awp_seqK ?_)
    | (refine kt ?_)
    | (refine And.intro ?_ ?_)
    | ((first | refine awp_region ?_ | refine awp_draw (by kernel_rfl) (by kernel_rfl) ?_ | refine Imp.le2 ?_ | refine awp_label ?_ | refine awp_skip ?_ | refine awp_exit ?_ | refine awp_cd ?_ | refine awp_ret ?_ | refine go_split (fun _h => ?_) (fun _h => ?_)) <;> try simp (maxSteps := 4000000) only [go_sem, Nat.reduceAdd, Nat.reduceMul, Nat.reduceSub, Nat.reduceLeDiff, Nat.reduceLT, Int.reduceAdd, Int.reduceToNat, Int.reduceLE, Int.reduceLT, Int.reduceNeg, reduceIte])
    | (intro _h)
    | (refine awp_block ?_)
    | (refine awp_scope ?_)
    | (refine cond_b (fun _h => ?_) (fun _h => ?_))
    | (show heapOK _ _ = true; kernel_rfl)
    | (show heapOK2 _ _ = true; kernel_rfl)
    | (omega)))
          all_goals first | omega | trace_state
        | succ q =>
          have e2 : ((q + 1 : Nat) : Int) - 1 = q := by omega
          have hb1 := rByI_c t ht (L.getD (q + 1) 0) (hin _ (getD_mem (by omega)))
          have hb2 := rByI_c t ht (L.getD q 0) (hin _ (getD_mem (by omega)))
          simp only [townC, slH, slL] at hb1 hb2
          simp only [sink, ltT, decide_eq_true_eq] at hs1
          simp only [townC, slH, slL]; simp (maxSteps := 4000000) only [go_sem, Nat.reduceAdd, Nat.reduceMul, Nat.reduceSub, Nat.reduceLeDiff, Nat.reduceLT, Int.reduceAdd, Int.reduceToNat, Int.reduceLE, Int.reduceLT, Int.reduceNeg, reduceIte]
          (repeat' (first
    | ((omega))
    | (refine awp_seqK ?_)
    | (refine kt ?_)
    | (refine And.intro ?_ ?_)
    | ((first | refine awp_region ?_ | refine awp_draw (by kernel_rfl) (by kernel_rfl) ?_ | refine Imp.le2 ?_ | refine awp_label ?_ | refine awp_skip ?_ | refine awp_exit ?_ | refine awp_cd ?_ | refine awp_ret ?_ | refine callK_of (hb1) ?_ | refine callK_of (hb2) ?_ | refine go_split (fun _h => ?_) (fun _h => ?_)) <;> try simp (maxSteps := 4000000) only [go_sem, Nat.reduceAdd, Nat.reduceMul, Nat.reduceSub, Nat.reduceLeDiff, Nat.reduceLT, Int.reduceAdd, Int.reduceToNat, Int.reduceLE, Int.reduceLT, Int.reduceNeg, reduceIte, e2, hL])
    | (intro _h)
    | (refine awp_block ?_)
    | (refine awp_scope ?_)
    | (refine cond_b (fun _h => ?_) (fun _h => ?_))
    | (show heapOK _ _ = true; kernel_rfl)
    | (show heapOK2 _ _ = true; kernel_rfl)
    | (omega)))
          all_goals first
            | (rw [isp_length (by omega)]; omega)
            | (rw [if_pos (by omega)] at hs1
               refine ⟨(q, swp2 L q), ⟨hs1, by rw [swp2_length (by omega)]; exact hL, by simp only; omega, fun y hy => hin y ((swp2_perm (by omega)).mem_iff.1 hy)⟩, by simp only; omega, .le2 ?_⟩
               simp only [swp2]; simp (maxSteps := 4000000) only [go_sem, Nat.reduceAdd, Nat.reduceMul, Nat.reduceSub, Nat.reduceLeDiff, Nat.reduceLT, Int.reduceAdd, Int.reduceToNat, Int.reduceLE, Int.reduceLT, Int.reduceNeg, reduceIte])
            | (rw [if_neg (by omega)] at hs1; rw [hs1])
            | trace_state
    · subst hk1
      have eo : ordP t t.homes.length = ordL t := rfl
      rw [eo] at *
      simp only [townC, slH, slL]; simp (maxSteps := 4000000) only [go_sem, Nat.reduceAdd, Nat.reduceMul, Nat.reduceSub, Nat.reduceLeDiff, Nat.reduceLT, Int.reduceAdd, Int.reduceToNat, Int.reduceLE, Int.reduceLT, Int.reduceNeg, reduceIte]
      (repeat' (first
    | ((exfalso; omega))
    | (refine awp_seqK ?_)
    | (refine kt ?_)
    | (refine And.intro ?_ ?_)
    | ((first | refine awp_region ?_ | refine awp_draw (by kernel_rfl) (by kernel_rfl) ?_ | refine Imp.le2 ?_ | refine awp_label ?_ | refine awp_skip ?_ | refine awp_exit ?_ | refine awp_cd ?_ | refine awp_ret ?_ | refine go_split (fun _h => ?_) (fun _h => ?_)) <;> try simp (maxSteps := 4000000) only [go_sem, Nat.reduceAdd, Nat.reduceMul, Nat.reduceSub, Nat.reduceLeDiff, Nat.reduceLT, Int.reduceAdd, Int.reduceToNat, Int.reduceLE, Int.reduceLT, Int.reduceNeg, reduceIte])
    | (intro _h)
    | (refine awp_block ?_)
    | (refine awp_scope ?_)
    | (refine cond_b (fun _h => ?_) (fun _h => ?_))
    | (show heapOK _ _ = true; kernel_rfl)
    | (show heapOK2 _ _ = true; kernel_rfl)
    | (omega)))
      all_goals trace_state
theorem mapO_ints {h : Nat → Option ABlk} {n : Nat} : ∀ l : List Int, mapO (outX h n) (ints l) = some (ints l)
  | [] => rfl
  | a :: l => by
    have e : outX h n (.int .i64 a) = some (.int .i64 a) := by cases n <;> rfl
    simp only [ints_cons, mapO, e, mapO_ints l]
theorem out_osl {H : List (Option ABlk)} {b g m : Nat} {t : TypeId} {l : List Int} (hb : hget H b = some (.cells t 1 g (ints l))) : outRX (hget H) (.osl b g 0 m) = some (.psl false m (ints l)) := by
  show (match hget H b with | some (.cells _ _ g' xs) => if g = g' ∧ 0 = 0 then (match mapO (outX (hget H) 2) xs with | some ys => some (AV.psl false m ys) | none => none) else none | _ => none) = _
  rw [hb]
  simp only [and_self, if_true, mapO_ints]
theorem rOrderP_c (t : Town) (ht : TownOK t) : CallS Try.prog 46 [.agg (townC t)] (sl (ordL t)) := by
  have h := callS_of_semF (rOrder_c t ht) (out_osl rfl)
  have hol : (ordL t).length = t.homes.length := ordL_ord.len
  simpa only [sl, hol] using h
/-- Those who are called too late, as a list of their own. -/
def rlateV (t : Town) : AV := if lateN t = 0 then .nils else .osl 2 t.homes.length 0 (lateN t).toNat
def rlateH (t : Town) : List (Option ABlk) := if lateN t = 0 then [] else [none, none, some (.cells 3 1 t.homes.length (ints (ordL t)))]
theorem rLate_c (t : Town) (ht : TownOK t) : SemF Try.prog 45 [.agg (townC t)] [] (rlateV t) (rlateH t) := by
  obtain ⟨hh1, hh2⟩ := ht.homes
  have hc := ht.call
  have hro := rOrder_c t ht
  have hol : (ordL t).length = t.homes.length := ordL_ord.len
  have hbd := lateN_bd (t := t)
  unfold rlateV rlateH
  simp only [townC, slH, slL] at hro
  have step : ∀ (V : AV) (HH : List (Option ABlk)), (lateN t = 0 → V = .nils ∧ HH = []) → (lateN t ≠ 0 → V = .osl 2 t.homes.length 0 (lateN t).toNat ∧ HH = [none, none, some (.cells 3 1 t.homes.length (ints (ordL t)))]) → SemF Try.prog 45 [.agg (townC t)] [] V HH := by
    intro V HH hz hn
    by_cases hl : lateN t = 0
    · obtain ⟨rfl, rfl⟩ := hz hl
      simp only [townC, slH, slL]
      (refine semF_of_awp (ys := [.nils]) (fun w args => Try.call45 ..) Try.func45 rfl (fun w0 m0 wz => ?_); simp only [Try.ntmps45, Try.results45, initT, junks, homeC, hallC, slH, slL, townC, sl, List.toList_toArray, List.cons_append, List.nil_append, List.length_cons, List.length_nil, Nat.reduceAdd, Nat.reduceSub])
      (repeat' (first
    | (refine awp_ownN 1 rfl ?_; simp (maxSteps := 4000000) only [go_sem, Nat.reduceAdd, Nat.reduceMul, Nat.reduceSub, Nat.reduceLeDiff, Nat.reduceLT, Int.reduceAdd, Int.reduceToNat, Int.reduceLE, Int.reduceLT, Int.reduceNeg, reduceIte, List.take_succ_cons, List.take_zero]; (repeat refine And.intro (by omega) ?_); refine own_go (hro) [] rfl ?_ ?_ rfl ?_ <;> try simp (maxSteps := 4000000) only [go_sem, Nat.reduceAdd, Nat.reduceMul, Nat.reduceSub, Nat.reduceLeDiff, Nat.reduceLT, Int.reduceAdd, Int.reduceToNat, Int.reduceLE, Int.reduceLT, Int.reduceNeg, reduceIte, Nat.lt_irrefl] <;> try decide)
    | (refine awp_seqK ?_)
    | (refine kt ?_)
    | (refine And.intro ?_ ?_)
    | ((first | refine awp_region ?_ | refine awp_draw (by kernel_rfl) (by kernel_rfl) ?_ | refine Imp.le2 ?_ | refine awp_label ?_ | refine awp_skip ?_ | refine awp_exit ?_ | refine awp_cd ?_ | refine awp_ret ?_ | refine go_split (fun _h => ?_) (fun _h => ?_)) <;> try simp (maxSteps := 4000000) only [go_sem, Nat.reduceAdd, Nat.reduceMul, Nat.reduceSub, Nat.reduceLeDiff, Nat.reduceLT, Int.reduceAdd, Int.reduceToNat, Int.reduceLE, Int.reduceLT, Int.reduceNeg, reduceIte])
    | (intro _h)
    | (refine awp_block ?_)
    | (refine awp_scope ?_)
    | (refine cond_b (fun _h => ?_) (fun _h => ?_))
    | (show heapOK _ _ = true; kernel_rfl)
    | (show heapOK2 _ _ = true; kernel_rfl)
    | (omega)))
      refine awp_loopJ (fun i : Nat => i ≤ t.homes.length ∧ lateF t (t.homes.length - i) i = lateN t) (fun i => ⟨mkT 30 [(1, .ptr 0 0 0), (3, .osl 2 t.homes.length 0 t.homes.length), (4, .int .i64 i)], [some (.cells 27 1 0 (townC t)), none, some (.cells 3 1 t.homes.length (ints (ordL t)))], []⟩) (fun i => t.homes.length - i) 0 ⟨Nat.zero_le _, rfl⟩ (.le2 ?_) ?_
      · simp only [townC, slH, slL]; simp (maxSteps := 4000000) only [go_sem, Nat.reduceAdd, Nat.reduceMul, Nat.reduceSub, Nat.reduceLeDiff, Nat.reduceLT, Int.reduceAdd, Int.reduceToNat, Int.reduceLE, Int.reduceLT, Int.reduceNeg, reduceIte]
        try rfl
      · rintro i ⟨hi, hf⟩
        by_cases hi1 : i < t.homes.length
        · have hor := ordL_ord.at (l := ordL t) (k := i) (by omega)
          have hby := rByI_c t ht ((ordL t).getD i 0) (by omega)
          have hm := mul_bd (a := (i : Int) + 1) (A := 8) (b := t.chi) (B := 60) (by omega) (by omega) (by omega) (by omega)
          rw [show t.homes.length - i = (t.homes.length - (i + 1)) + 1 by omega] at hf
          simp only [lateF] at hf
          simp only [townC, slH, slL] at hby
          simp only [townC, slH, slL]; simp (maxSteps := 4000000) only [go_sem, Nat.reduceAdd, Nat.reduceMul, Nat.reduceSub, Nat.reduceLeDiff, Nat.reduceLT, Int.reduceAdd, Int.reduceToNat, Int.reduceLE, Int.reduceLT, Int.reduceNeg, reduceIte]
          (repeat' (first
    | ((exfalso; rw [if_pos (by omega)] at hf; omega))
    | ((omega))
    | (refine awp_seqK ?_)
    | (refine kt ?_)
    | (refine And.intro ?_ ?_)
    | ((first | refine awp_region ?_ | refine awp_draw (by kernel_rfl) (by kernel_rfl) ?_ | refine Imp.le2 ?_ | refine awp_label ?_ | refine awp_skip ?_ | refine awp_exit ?_ | refine awp_cd ?_ | refine awp_ret ?_ | refine callK_of (hby) ?_ | refine go_split (fun _h => ?_) (fun _h => ?_)) <;> try simp (maxSteps := 4000000) only [go_sem, Nat.reduceAdd, Nat.reduceMul, Nat.reduceSub, Nat.reduceLeDiff, Nat.reduceLT, Int.reduceAdd, Int.reduceToNat, Int.reduceLE, Int.reduceLT, Int.reduceNeg, reduceIte, hol])
    | (intro _h)
    | (refine awp_block ?_)
    | (refine awp_scope ?_)
    | (refine cond_b (fun _h => ?_) (fun _h => ?_))
    | (show heapOK _ _ = true; kernel_rfl)
    | (show heapOK2 _ _ = true; kernel_rfl)
    | (omega)))
          all_goals first
            | (refine ⟨i + 1, ⟨by omega, by rw [if_neg (by omega)] at hf; exact hf⟩, by omega, .le2 ?_⟩; simp (maxSteps := 4000000) only [go_sem, Nat.reduceAdd, Nat.reduceMul, Nat.reduceSub, Nat.reduceLeDiff, Nat.reduceLT, Int.reduceAdd, Int.reduceToNat, Int.reduceLE, Int.reduceLT, Int.reduceNeg, reduceIte]; try rfl)
            | trace_state
        · have e : i = t.homes.length := by omega
          subst e
          simp only [townC, slH, slL]; simp (maxSteps := 4000000) only [go_sem, Nat.reduceAdd, Nat.reduceMul, Nat.reduceSub, Nat.reduceLeDiff, Nat.reduceLT, Int.reduceAdd, Int.reduceToNat, Int.reduceLE, Int.reduceLT, Int.reduceNeg, reduceIte]
          (repeat' (first
    | ((exfalso; omega))
    | (refine awp_seqK ?_)
    | (refine kt ?_)
    | (refine And.intro ?_ ?_)
    | ((first | refine awp_region ?_ | refine awp_draw (by kernel_rfl) (by kernel_rfl) ?_ | refine Imp.le2 ?_ | refine awp_label ?_ | refine awp_skip ?_ | refine awp_exit ?_ | refine awp_cd ?_ | refine awp_ret ?_ | refine go_split (fun _h => ?_) (fun _h => ?_)) <;> try simp (maxSteps := 4000000) only [go_sem, Nat.reduceAdd, Nat.reduceMul, Nat.reduceSub, Nat.reduceLeDiff, Nat.reduceLT, Int.reduceAdd, Int.reduceToNat, Int.reduceLE, Int.reduceLT, Int.reduceNeg, reduceIte])
    | (intro _h)
    | (refine awp_block ?_)
    | (refine awp_scope ?_)
    | (refine cond_b (fun _h => ?_) (fun _h => ?_))
    | (show heapOK _ _ = true; kernel_rfl)
    | (show heapOK2 _ _ = true; kernel_rfl)
    | (omega)))
          all_goals trace_state
    · obtain ⟨rfl, rfl⟩ := hn hl
      simp only [townC, slH, slL]
      (refine semF_of_awp (ys := [.osl 2 t.homes.length 0 (lateN t).toNat]) (fun w args => Try.call45 ..) Try.func45 rfl (fun w0 m0 wz => ?_); simp only [Try.ntmps45, Try.results45, initT, junks, homeC, hallC, slH, slL, townC, sl, List.toList_toArray, List.cons_append, List.nil_append, List.length_cons, List.length_nil, Nat.reduceAdd, Nat.reduceSub])
      (repeat' (first
    | (refine awp_ownN 1 rfl ?_; simp (maxSteps := 4000000) only [go_sem, Nat.reduceAdd, Nat.reduceMul, Nat.reduceSub, Nat.reduceLeDiff, Nat.reduceLT, Int.reduceAdd, Int.reduceToNat, Int.reduceLE, Int.reduceLT, Int.reduceNeg, reduceIte, List.take_succ_cons, List.take_zero]; (repeat refine And.intro (by omega) ?_); refine own_go (hro) [] rfl ?_ ?_ rfl ?_ <;> try simp (maxSteps := 4000000) only [go_sem, Nat.reduceAdd, Nat.reduceMul, Nat.reduceSub, Nat.reduceLeDiff, Nat.reduceLT, Int.reduceAdd, Int.reduceToNat, Int.reduceLE, Int.reduceLT, Int.reduceNeg, reduceIte, Nat.lt_irrefl] <;> try decide)
    | (refine awp_seqK ?_)
    | (refine kt ?_)
    | (refine And.intro ?_ ?_)
    | ((first | refine awp_region ?_ | refine awp_draw (by kernel_rfl) (by kernel_rfl) ?_ | refine Imp.le2 ?_ | refine awp_label ?_ | refine awp_skip ?_ | refine awp_exit ?_ | refine awp_cd ?_ | refine awp_ret ?_ | refine go_split (fun _h => ?_) (fun _h => ?_)) <;> try simp (maxSteps := 4000000) only [go_sem, Nat.reduceAdd, Nat.reduceMul, Nat.reduceSub, Nat.reduceLeDiff, Nat.reduceLT, Int.reduceAdd, Int.reduceToNat, Int.reduceLE, Int.reduceLT, Int.reduceNeg, reduceIte])
    | (intro _h)
    | (refine awp_block ?_)
    | (refine awp_scope ?_)
    | (refine cond_b (fun _h => ?_) (fun _h => ?_))
    | (show heapOK _ _ = true; kernel_rfl)
    | (show heapOK2 _ _ = true; kernel_rfl)
    | (omega)))
      refine awp_loopJ (fun i : Nat => i ≤ t.homes.length ∧ lateF t (t.homes.length - i) i = lateN t) (fun i => ⟨mkT 30 [(1, .ptr 0 0 0), (3, .osl 2 t.homes.length 0 t.homes.length), (4, .int .i64 i)], [some (.cells 27 1 0 (townC t)), none, some (.cells 3 1 t.homes.length (ints (ordL t)))], []⟩) (fun i => t.homes.length - i) 0 ⟨Nat.zero_le _, rfl⟩ (.le2 ?_) ?_
      · simp only [townC, slH, slL]; simp (maxSteps := 4000000) only [go_sem, Nat.reduceAdd, Nat.reduceMul, Nat.reduceSub, Nat.reduceLeDiff, Nat.reduceLT, Int.reduceAdd, Int.reduceToNat, Int.reduceLE, Int.reduceLT, Int.reduceNeg, reduceIte]
        try rfl
      · rintro i ⟨hi, hf⟩
        by_cases hi1 : i < t.homes.length
        · have hor := ordL_ord.at (l := ordL t) (k := i) (by omega)
          have hby := rByI_c t ht ((ordL t).getD i 0) (by omega)
          have hm := mul_bd (a := (i : Int) + 1) (A := 8) (b := t.chi) (B := 60) (by omega) (by omega) (by omega) (by omega)
          rw [show t.homes.length - i = (t.homes.length - (i + 1)) + 1 by omega] at hf
          simp only [lateF] at hf
          simp only [townC, slH, slL] at hby
          simp only [townC, slH, slL]; simp (maxSteps := 4000000) only [go_sem, Nat.reduceAdd, Nat.reduceMul, Nat.reduceSub, Nat.reduceLeDiff, Nat.reduceLT, Int.reduceAdd, Int.reduceToNat, Int.reduceLE, Int.reduceLT, Int.reduceNeg, reduceIte]
          (repeat' (first
    | ((omega))
    | ((rw [if_pos (by omega)] at hf; omega))
    | (refine awp_seqK ?_)
    | (refine kt ?_)
    | (refine And.intro ?_ ?_)
    | ((first | refine awp_region ?_ | refine awp_draw (by kernel_rfl) (by kernel_rfl) ?_ | refine Imp.le2 ?_ | refine awp_label ?_ | refine awp_skip ?_ | refine awp_exit ?_ | refine awp_cd ?_ | refine awp_ret ?_ | refine callK_of (hby) ?_ | refine go_split (fun _h => ?_) (fun _h => ?_)) <;> try simp (maxSteps := 4000000) only [go_sem, Nat.reduceAdd, Nat.reduceMul, Nat.reduceSub, Nat.reduceLeDiff, Nat.reduceLT, Int.reduceAdd, Int.reduceToNat, Int.reduceLE, Int.reduceLT, Int.reduceNeg, reduceIte, hol])
    | (intro _h)
    | (refine awp_block ?_)
    | (refine awp_scope ?_)
    | (refine cond_b (fun _h => ?_) (fun _h => ?_))
    | (show heapOK _ _ = true; kernel_rfl)
    | (show heapOK2 _ _ = true; kernel_rfl)
    | (omega)))
          all_goals first
            | (refine ⟨i + 1, ⟨by omega, by rw [if_neg (by omega)] at hf; exact hf⟩, by omega, .le2 ?_⟩; simp (maxSteps := 4000000) only [go_sem, Nat.reduceAdd, Nat.reduceMul, Nat.reduceSub, Nat.reduceLeDiff, Nat.reduceLT, Int.reduceAdd, Int.reduceToNat, Int.reduceLE, Int.reduceLT, Int.reduceNeg, reduceIte]; try rfl)
            | trace_state
        · have e : i = t.homes.length := by omega
          subst e
          rw [Nat.sub_self] at hf
          simp only [lateF] at hf
          exact absurd hf.symm hl
  refine step _ _ (fun h => ?_) (fun h => ?_)
  · rw [if_pos h, if_pos h]; exact ⟨rfl, rfl⟩
  · rw [if_neg h, if_neg h]; exact ⟨rfl, rfl⟩
theorem intsO_c (l L : List Int) (g m : Nat) (hl : l.length ≤ 9223372036854775807) (hm : m ≤ L.length) : SemF Try.prog 34 [sl l, .osl 0 g 0 m] [some (.cells 3 1 g (ints L))] (.bool (decide (l = L.take m))) [some (.cells 3 1 g (ints L))] := by
  have htl : (L.take m).length = m := by simp; omega
  have htg : ∀ j, j < m → (L.take m).getD j 0 = L.getD j 0 := fun j hj => by
    simp [List.getD_eq_getElem?_getD, List.getElem?_take, hj]
  have hyes : l.length = m → (∀ j, j < l.length → l.getD j 0 = L.getD j 0) → true = decide (l = L.take m) := fun a b => by
    refine (decide_eq_true ?_).symm
    apply List.ext_getElem (by omega)
    intro i h1 h2
    have h3 := b i h1
    rw [List.getElem_take]
    simpa [List.getD_eq_getElem?_getD, h1, show i < L.length by omega] using h3
  have hno : (l = L.take m → False) → false = decide (l = L.take m) := fun a => (decide_eq_false a).symm
  have hno1 : l.length ≠ m → false = decide (l = L.take m) := fun a => hno fun h => a (by rw [h, htl])
  have hno2 : ∀ j, j < l.length → l.length = m → l.getD j 0 ≠ L.getD j 0 → false = decide (l = L.take m) := fun j hj e a => hno fun h => a (by rw [← htg j (by omega), ← h])
  generalize decide (l = L.take m) = r at *
  (refine semF_of_awp (ys := [.bool r]) (fun w args => Try.call34 ..) Try.func34 rfl (fun w0 m0 wz => ?_); simp only [Try.ntmps34, Try.results34, initT, junks, homeC, hallC, slH, slL, townC, sl, List.toList_toArray, List.cons_append, List.nil_append, List.length_cons, List.length_nil, Nat.reduceAdd, Nat.reduceSub])
  (repeat' (first
    | (refine awp_seqK ?_)
    | (refine kt ?_)
    | (refine And.intro ?_ ?_)
    | ((first | refine awp_region ?_ | refine awp_draw (by kernel_rfl) (by kernel_rfl) ?_ | refine Imp.le2 ?_ | refine awp_label ?_ | refine awp_skip ?_ | refine awp_exit ?_ | refine awp_cd ?_ | refine awp_ret ?_ | refine go_split (fun _h => ?_) (fun _h => ?_)) <;> try simp (maxSteps := 4000000) only [go_sem, Nat.reduceAdd, Nat.reduceMul, Nat.reduceSub, Nat.reduceLeDiff, Nat.reduceLT, Int.reduceAdd, Int.reduceToNat, Int.reduceLE, Int.reduceLT, Int.reduceNeg, reduceIte])
    | (intro _h)
    | (refine awp_block ?_)
    | (refine awp_scope ?_)
    | (refine cond_b (fun _h => ?_) (fun _h => ?_))
    | (show heapOK _ _ = true; kernel_rfl)
    | (show heapOK2 _ _ = true; kernel_rfl)
    | (omega)))
  all_goals first
    | exact hno1 (by omega)
    | exact (hno1 (by omega)).symm
    | skip
  refine awp_loopJ (fun i : Nat => i ≤ l.length ∧ ∀ j, j < i → l.getD j 0 = L.getD j 0) (fun i => ⟨mkT 26 [(0, sl l), (1, .osl 0 g 0 m), (5, .int .i64 i)], [some (.cells 3 1 g (ints L))], []⟩) (fun i => l.length - i) 0 ⟨Nat.zero_le _, by simp⟩ (.le2 ?_) ?_
  · simp (maxSteps := 4000000) only [go_sem, Nat.reduceAdd, Nat.reduceMul, Nat.reduceSub, Nat.reduceLeDiff, Nat.reduceLT, Int.reduceAdd, Int.reduceToNat, Int.reduceLE, Int.reduceLT, Int.reduceNeg, reduceIte]
  · rintro i ⟨hi, hj⟩
    simp (maxSteps := 4000000) only [go_sem, Nat.reduceAdd, Nat.reduceMul, Nat.reduceSub, Nat.reduceLeDiff, Nat.reduceLT, Int.reduceAdd, Int.reduceToNat, Int.reduceLE, Int.reduceLT, Int.reduceNeg, reduceIte]
    (repeat' (first
    | ((omega))
    | (refine awp_seqK ?_)
    | (refine kt ?_)
    | (refine And.intro ?_ ?_)
    | ((first | refine awp_region ?_ | refine awp_draw (by kernel_rfl) (by kernel_rfl) ?_ | refine Imp.le2 ?_ | refine awp_label ?_ | refine awp_skip ?_ | refine awp_exit ?_ | refine awp_cd ?_ | refine awp_ret ?_ | refine go_split (fun _h => ?_) (fun _h => ?_)) <;> try simp (maxSteps := 4000000) only [go_sem, Nat.reduceAdd, Nat.reduceMul, Nat.reduceSub, Nat.reduceLeDiff, Nat.reduceLT, Int.reduceAdd, Int.reduceToNat, Int.reduceLE, Int.reduceLT, Int.reduceNeg, reduceIte])
    | (intro _h)
    | (refine awp_block ?_)
    | (refine awp_scope ?_)
    | (refine cond_b (fun _h => ?_) (fun _h => ?_))
    | (show heapOK _ _ = true; kernel_rfl)
    | (show heapOK2 _ _ = true; kernel_rfl)
    | (omega)))
    all_goals first
      | (refine ⟨i + 1, ⟨by omega, fun j hji => ?_⟩, by omega, .le2 ?_⟩
         · rcases Nat.lt_succ_iff_lt_or_eq.1 hji with h | rfl
           · exact hj j h
           · assumption
         · simp (maxSteps := 4000000) only [go_sem, Nat.reduceAdd, Nat.reduceMul, Nat.reduceSub, Nat.reduceLeDiff, Nat.reduceLT, Int.reduceAdd, Int.reduceToNat, Int.reduceLE, Int.reduceLT, Int.reduceNeg, reduceIte] <;> omega)
      | exact (hno2 i (by omega) (by omega) (by assumption)).symm
      | exact hno2 i (by omega) (by omega) (by assumption)
      | exact (hyes (by omega) (fun j h => hj j (by omega))).symm
      | exact (hyes (by omega) (fun j h => hj j (by omega)))
      | trace_state
theorem awayOrders_c (t : Town) : CallS Try.prog 12 [.agg (townC t)] (.bool true) := by
  have hth := thin_c t
  have hA := awake_c
  cases hT : thinB t with
  | false =>
    rw [hT] at hth
    simp only [townC, slH, slL, sl] at hth ⊢
    (refine callS_of_awp (fun w args => Try.call12 ..) Try.func12 rfl (fun w0 m0 wz => ?_); simp only [Try.ntmps12, Try.results12, initT, junks, homeC, hallC, slH, slL, townC, sl, List.toList_toArray, List.cons_append, List.nil_append, List.length_cons, List.length_nil, Nat.reduceAdd, Nat.reduceSub])
    (repeat' (first
    | (refine awp_seqK ?_)
    | (refine kt ?_)
    | (refine And.intro ?_ ?_)
    | ((first | refine awp_region ?_ | refine awp_draw (by kernel_rfl) (by kernel_rfl) ?_ | refine Imp.le2 ?_ | refine awp_label ?_ | refine awp_skip ?_ | refine awp_exit ?_ | refine awp_cd ?_ | refine awp_ret ?_ | refine callK_of (hth) ?_ | refine callK_of (hA) ?_ | refine go_split (fun _h => ?_) (fun _h => ?_)) <;> try simp (maxSteps := 4000000) only [go_sem, Nat.reduceAdd, Nat.reduceMul, Nat.reduceSub, Nat.reduceLeDiff, Nat.reduceLT, Int.reduceAdd, Int.reduceToNat, Int.reduceLE, Int.reduceLT, Int.reduceNeg, reduceIte])
    | (intro _h)
    | (refine awp_block ?_)
    | (refine awp_scope ?_)
    | (refine cond_b (fun _h => ?_) (fun _h => ?_))
    | (show heapOK _ _ = true; kernel_rfl)
    | (show heapOK2 _ _ = true; kernel_rfl)
    | (omega)))
  | true =>
    rw [hT] at hth
    obtain ⟨hb, hb1, hb2⟩ := thinB_ok hT
    have hto := Town_c t hb
    have hor := Order_c t hb
    have hla := Late_c t hb
    have hfa := fault_c t hb
    by_cases h0 : faultT t = 0
    · have ht := faultT_zero h0
      have hlen := ht.homes
      have hro := rOrder_c t ht
      have hrl := rLate_c t ht
      have hol : (ordL t).length = t.homes.length := ordL_ord.len
      have hbd := lateN_bd (t := t)
      rw [h0] at hfa
      by_cases hl : lateN t = 0
      · have e1 : orderE t = 0 := by simp [orderE, h0, hl]
        have e2 : lateE t = 7 := by simp [lateE, h0, hl]
        have e3 : lateV t = .nils := by simp [lateV, e2]
        simp only [orderV, e1, if_true] at hor
        rw [e2, e3] at hla
        simp only [rlateV, rlateH, hl, if_true] at hrl
        have hrp := rOrderP_c t ht
        have hin := ints_c (ordL t) (ordL t) (by omega)
        rw [decide_eq_true rfl] at hin
        simp only [townC, slH, slL, sl] at hth hto hor hla hfa hrp hrl hin ⊢
        simp only [hol] at hrp hin
        (refine callS_of_awp (fun w args => Try.call12 ..) Try.func12 rfl (fun w0 m0 wz => ?_); simp only [Try.ntmps12, Try.results12, initT, junks, homeC, hallC, slH, slL, townC, sl, List.toList_toArray, List.cons_append, List.nil_append, List.length_cons, List.length_nil, Nat.reduceAdd, Nat.reduceSub])
        (repeat' (first
    | (refine awp_ownN 1 rfl ?_; simp (maxSteps := 4000000) only [go_sem, Nat.reduceAdd, Nat.reduceMul, Nat.reduceSub, Nat.reduceLeDiff, Nat.reduceLT, Int.reduceAdd, Int.reduceToNat, Int.reduceLE, Int.reduceLT, Int.reduceNeg, reduceIte, List.take_succ_cons, List.take_zero, decide_true, hol]; (repeat refine And.intro (by omega) ?_); refine own_go (hrl) [] rfl ?_ ?_ rfl ?_ <;> try simp (maxSteps := 4000000) only [go_sem, Nat.reduceAdd, Nat.reduceMul, Nat.reduceSub, Nat.reduceLeDiff, Nat.reduceLT, Int.reduceAdd, Int.reduceToNat, Int.reduceLE, Int.reduceLT, Int.reduceNeg, reduceIte, Nat.lt_irrefl, decide_true, hol] <;> try decide)
    | (refine awp_seqK ?_)
    | (refine kt ?_)
    | (refine And.intro ?_ ?_)
    | ((first | refine awp_region ?_ | refine awp_draw (by kernel_rfl) (by kernel_rfl) ?_ | refine Imp.le2 ?_ | refine awp_label ?_ | refine awp_skip ?_ | refine awp_exit ?_ | refine awp_cd ?_ | refine awp_ret ?_ | refine callK_of (hth) ?_ | refine callK_of (hto) ?_ | refine callK_of (hor) ?_ | refine callK_of (hla) ?_ | refine callK_of (hfa) ?_ | refine callK_of (hrp) ?_ | refine callK_of (hin) ?_ | refine callK_of (hA) ?_ | refine go_split (fun _h => ?_) (fun _h => ?_)) <;> try simp (maxSteps := 4000000) only [go_sem, Nat.reduceAdd, Nat.reduceMul, Nat.reduceSub, Nat.reduceLeDiff, Nat.reduceLT, Int.reduceAdd, Int.reduceToNat, Int.reduceLE, Int.reduceLT, Int.reduceNeg, reduceIte, decide_true, hol])
    | (intro _h)
    | (refine awp_block ?_)
    | (refine awp_scope ?_)
    | (refine cond_b (fun _h => ?_) (fun _h => ?_))
    | (show heapOK _ _ = true; kernel_rfl)
    | (show heapOK2 _ _ = true; kernel_rfl)
    | (omega)))
        all_goals trace_state
      · have e1 : orderE t = 11 := by simp [orderE, h0]; omega
        have e2 : lateE t = 0 := by simp [lateE, h0, hl]
        have e3 : orderV t = .nils := by simp [orderV, e1]
        rw [e1, e3] at hor
        simp only [lateV, e2, if_true] at hla
        simp only [rlateV, rlateH, hl, if_false] at hrl
        obtain ⟨m, hm⟩ : ∃ m : Nat, lateN t = m := ⟨(lateN t).toNat, by omega⟩
        rw [hm, Int.toNat_natCast] at hrl
        have hlL : (lateL t).length = m := by simp only [lateL, hm, Int.toNat_natCast, List.length_take, isort_length (lt := ltI) (l := ordL t) (k := m) (by omega)]; omega
        have elL : lateL t = (isort ltI (ordL t) m).take m := by simp only [lateL, hm, Int.toNat_natCast]
        have hin := intsO_c (lateL t) (isort ltI (ordL t) m) t.homes.length m (by omega) (by rw [isort_length (by omega)]; omega)
        rw [decide_eq_true elL] at hin
        have em : ((m : Int) = 0) = False := eq_false (by omega)
        simp only [townC, slH, slL, sl] at hth hto hor hla hfa hrl hin ⊢
        (refine callS_of_awp (fun w args => Try.call12 ..) Try.func12 rfl (fun w0 m0 wz => ?_); simp only [Try.ntmps12, Try.results12, initT, junks, homeC, hallC, slH, slL, townC, sl, List.toList_toArray, List.cons_append, List.nil_append, List.length_cons, List.length_nil, Nat.reduceAdd, Nat.reduceSub])
        (repeat' (first
    | (refine awp_ownN 1 rfl ?_; simp (maxSteps := 4000000) only [go_sem, Nat.reduceAdd, Nat.reduceMul, Nat.reduceSub, Nat.reduceLeDiff, Nat.reduceLT, Int.reduceAdd, Int.reduceToNat, Int.reduceLE, Int.reduceLT, Int.reduceNeg, reduceIte, List.take_succ_cons, List.take_zero, decide_true, hol, em, decide_false]; (repeat refine And.intro (by omega) ?_); refine own_go (hrl) [] rfl ?_ ?_ rfl ?_ <;> try simp (maxSteps := 4000000) only [go_sem, Nat.reduceAdd, Nat.reduceMul, Nat.reduceSub, Nat.reduceLeDiff, Nat.reduceLT, Int.reduceAdd, Int.reduceToNat, Int.reduceLE, Int.reduceLT, Int.reduceNeg, reduceIte, Nat.lt_irrefl, decide_true, hol, em, decide_false] <;> try decide)
    | (refine awp_seqK ?_)
    | (refine kt ?_)
    | (refine And.intro ?_ ?_)
    | ((first | refine awp_region ?_ | refine awp_draw (by kernel_rfl) (by kernel_rfl) ?_ | refine Imp.le2 ?_ | refine awp_label ?_ | refine awp_skip ?_ | refine awp_exit ?_ | refine awp_cd ?_ | refine awp_ret ?_ | refine callK_of (hth) ?_ | refine callK_of (hto) ?_ | refine callK_of (hor) ?_ | refine callK_of (hla) ?_ | refine callK_of (hfa) ?_ | refine go_split (fun _h => ?_) (fun _h => ?_)) <;> try simp (maxSteps := 4000000) only [go_sem, Nat.reduceAdd, Nat.reduceMul, Nat.reduceSub, Nat.reduceLeDiff, Nat.reduceLT, Int.reduceAdd, Int.reduceToNat, Int.reduceLE, Int.reduceLT, Int.reduceNeg, reduceIte, decide_true, hol, em, decide_false])
    | (intro _h)
    | (refine awp_block ?_)
    | (refine awp_scope ?_)
    | (refine cond_b (fun _h => ?_) (fun _h => ?_))
    | (show heapOK _ _ = true; kernel_rfl)
    | (show heapOK2 _ _ = true; kernel_rfl)
    | (omega)))
        refine awp_loopN m (fun k => ⟨mkT 135 [(1, .ptr 0 0 0), (3, .nils), (4, .int .i64 11), (5, .psl false (lateL t).length (ints (lateL t))), (6, .int .i64 0), (8, .osl 3 t.homes.length 0 m), (9, .int .i64 k)], [some (.cells 27 1 0 (townC t)), none, none, some (.cells 3 1 t.homes.length (ints (isort ltI (ordL t) k)))], []⟩) (.le2 ?_) ?_
        · simp only [townC, slH, slL]; simp (maxSteps := 4000000) only [go_sem, Nat.reduceAdd, Nat.reduceMul, Nat.reduceSub, Nat.reduceLeDiff, Nat.reduceLT, Int.reduceAdd, Int.reduceToNat, Int.reduceLE, Int.reduceLT, Int.reduceNeg, reduceIte]
          try rfl
        · intro k hk
          have hpk := isort_perm (lt := ltI) (l := ordL t) k (by omega)
          have hlk := hpk.length_eq
          simp only [townC, slH, slL]; simp (maxSteps := 4000000) only [go_sem, Nat.reduceAdd, Nat.reduceMul, Nat.reduceSub, Nat.reduceLeDiff, Nat.reduceLT, Int.reduceAdd, Int.reduceToNat, Int.reduceLE, Int.reduceLT, Int.reduceNeg, reduceIte]
          rcases Nat.lt_or_eq_of_le hk with hk1 | hk1
          · (repeat' (first
    | ((exfalso; omega))
    | (refine awp_seqK ?_)
    | (refine kt ?_)
    | (refine And.intro ?_ ?_)
    | ((first | refine awp_region ?_ | refine awp_draw (by kernel_rfl) (by kernel_rfl) ?_ | refine Imp.le2 ?_ | refine awp_label ?_ | refine awp_skip ?_ | refine awp_exit ?_ | refine awp_cd ?_ | refine awp_ret ?_ | refine go_split (fun _h => ?_) (fun _h => ?_)) <;> try simp (maxSteps := 4000000) only [go_sem, Nat.reduceAdd, Nat.reduceMul, Nat.reduceSub, Nat.reduceLeDiff, Nat.reduceLT, Int.reduceAdd, Int.reduceToNat, Int.reduceLE, Int.reduceLT, Int.reduceNeg, reduceIte])
    | (intro _h)
    | (refine awp_block ?_)
    | (refine awp_scope ?_)
    | (refine cond_b (fun _h => ?_) (fun _h => ?_))
    | (show heapOK _ _ = true; kernel_rfl)
    | (show heapOK2 _ _ = true; kernel_rfl)
    | (omega)))
            refine awp_loopJ (fun x : Nat × List Int => sink ltI x.1 x.2 = isort ltI (ordL t) (k + 1) ∧ x.2.length = t.homes.length ∧ x.1 ≤ k) (fun x => ⟨mkT 135 [(1, .ptr 0 0 0), (3, .nils), (4, .int .i64 11), (5, .psl false (lateL t).length (ints (lateL t))), (6, .int .i64 0), (8, .osl 3 t.homes.length 0 m), (9, .int .i64 k), (10, .int .i64 (x.1 : Int))], [some (.cells 27 1 0 (townC t)), none, none, some (.cells 3 1 t.homes.length (ints x.2))], []⟩) (fun x => x.1) (k, isort ltI (ordL t) k) ⟨rfl, by simp only; omega, Nat.le_refl _⟩ (.le2 ?_) ?_
            · simp only [townC, slH, slL]; simp (maxSteps := 4000000) only [go_sem, Nat.reduceAdd, Nat.reduceMul, Nat.reduceSub, Nat.reduceLeDiff, Nat.reduceLT, Int.reduceAdd, Int.reduceToNat, Int.reduceLE, Int.reduceLT, Int.reduceNeg, reduceIte]
              try (first | rfl | exact ⟨rfl, rfl⟩)
            · rintro ⟨j, L⟩ ⟨hs1, hL, hj⟩
              simp only at hs1 hL hj
              cases j with
              | zero =>
                simp only [sink] at hs1
                rw [← hs1]
                simp only [townC, slH, slL]; simp (maxSteps := 4000000) only [go_sem, Nat.reduceAdd, Nat.reduceMul, Nat.reduceSub, Nat.reduceLeDiff, Nat.reduceLT, Int.reduceAdd, Int.reduceToNat, Int.reduceLE, Int.reduceLT, Int.reduceNeg, reduceIte]
                (repeat' (first
    | ((exfalso; omega))
    | (refine awp_seqK ?_)
    | (refine kt ?_)
    | (refine And.intro ?_ ?_)
    | ((first | refine awp_region ?_ | refine awp_draw (by kernel_rfl) (by kernel_rfl) ?_ | refine Imp.le2 ?_ | refine awp_label ?_ | refine awp_skip ?_ | refine awp_exit ?_ | refine awp_cd ?_ | refine awp_ret ?_ | refine go_split (fun _h => ?_) (fun _h => ?_)) <;> try simp (maxSteps := 4000000) only [go_sem, Nat.reduceAdd, Nat.reduceMul, Nat.reduceSub, Nat.reduceLeDiff, Nat.reduceLT, Int.reduceAdd, Int.reduceToNat, Int.reduceLE, Int.reduceLT, Int.reduceNeg, reduceIte])
    | (intro _h)
    | (refine awp_block ?_)
    | (refine awp_scope ?_)
    | (refine cond_b (fun _h => ?_) (fun _h => ?_))
    | (show heapOK _ _ = true; kernel_rfl)
    | (show heapOK2 _ _ = true; kernel_rfl)
    | (omega)))
                all_goals first | omega | trace_state
              | succ q =>
                have e2 : ((q + 1 : Nat) : Int) - 1 = q := by omega
                simp only [sink, ltI, decide_eq_true_eq] at hs1
                simp only [townC, slH, slL]; simp (maxSteps := 4000000) only [go_sem, Nat.reduceAdd, Nat.reduceMul, Nat.reduceSub, Nat.reduceLeDiff, Nat.reduceLT, Int.reduceAdd, Int.reduceToNat, Int.reduceLE, Int.reduceLT, Int.reduceNeg, reduceIte]
                (repeat' (first
    | ((omega))
    | (refine awp_seqK ?_)
    | (refine kt ?_)
    | (refine And.intro ?_ ?_)
    | ((first | refine awp_region ?_ | refine awp_draw (by kernel_rfl) (by kernel_rfl) ?_ | refine Imp.le2 ?_ | refine awp_label ?_ | refine awp_skip ?_ | refine awp_exit ?_ | refine awp_cd ?_ | refine awp_ret ?_ | refine go_split (fun _h => ?_) (fun _h => ?_)) <;> try simp (maxSteps := 4000000) only [go_sem, Nat.reduceAdd, Nat.reduceMul, Nat.reduceSub, Nat.reduceLeDiff, Nat.reduceLT, Int.reduceAdd, Int.reduceToNat, Int.reduceLE, Int.reduceLT, Int.reduceNeg, reduceIte, e2, hL])
    | (intro _h)
    | (refine awp_block ?_)
    | (refine awp_scope ?_)
    | (refine cond_b (fun _h => ?_) (fun _h => ?_))
    | (show heapOK _ _ = true; kernel_rfl)
    | (show heapOK2 _ _ = true; kernel_rfl)
    | (omega)))
                all_goals first
                  | (rw [isp_length (by omega)]; omega)
                  | (rw [if_pos (by omega)] at hs1
                     refine ⟨(q, swp2 L q), ⟨hs1, by rw [swp2_length (by omega)]; exact hL, by simp only; omega⟩, by simp only; omega, .le2 ?_⟩
                     simp only [swp2]; simp (maxSteps := 4000000) only [go_sem, Nat.reduceAdd, Nat.reduceMul, Nat.reduceSub, Nat.reduceLeDiff, Nat.reduceLT, Int.reduceAdd, Int.reduceToNat, Int.reduceLE, Int.reduceLT, Int.reduceNeg, reduceIte])
                  | (rw [if_neg (by omega)] at hs1; rw [hs1])
                  | trace_state
          · subst hk1
            (repeat' (first
    | ((exfalso; omega))
    | (refine awp_ownN (id := 18) 14 rfl ?_; simp (maxSteps := 4000000) only [go_sem, Nat.reduceAdd, Nat.reduceMul, Nat.reduceSub, Nat.reduceLeDiff, Nat.reduceLT, Int.reduceAdd, Int.reduceToNat, Int.reduceLE, Int.reduceLT, Int.reduceNeg, reduceIte, List.take_succ_cons, List.take_zero, decide_true])
    | (refine own_go (hin) [3] rfl ?_ ?_ rfl ?_ <;> try simp (maxSteps := 4000000) only [go_sem, Nat.reduceAdd, Nat.reduceMul, Nat.reduceSub, Nat.reduceLeDiff, Nat.reduceLT, Int.reduceAdd, Int.reduceToNat, Int.reduceLE, Int.reduceLT, Int.reduceNeg, reduceIte, Nat.lt_irrefl, decide_true] <;> try decide)
    | (refine awp_seqK ?_)
    | (refine kt ?_)
    | (refine And.intro ?_ ?_)
    | ((first | refine awp_region ?_ | refine awp_draw (by kernel_rfl) (by kernel_rfl) ?_ | refine Imp.le2 ?_ | refine awp_label ?_ | refine awp_skip ?_ | refine awp_exit ?_ | refine awp_cd ?_ | refine awp_ret ?_ | refine callK_of (hA) ?_ | refine go_split (fun _h => ?_) (fun _h => ?_)) <;> try simp (maxSteps := 4000000) only [go_sem, Nat.reduceAdd, Nat.reduceMul, Nat.reduceSub, Nat.reduceLeDiff, Nat.reduceLT, Int.reduceAdd, Int.reduceToNat, Int.reduceLE, Int.reduceLT, Int.reduceNeg, reduceIte, decide_true])
    | (intro _h)
    | (refine awp_block ?_)
    | (refine awp_scope ?_)
    | (refine cond_b (fun _h => ?_) (fun _h => ?_))
    | (show heapOK _ _ = true; kernel_rfl)
    | (show heapOK2 _ _ = true; kernel_rfl)
    | (omega)))
            all_goals trace_state
    · have e0 : (faultT t = 0) = False := eq_false h0
      have e1 : orderE t = faultT t := by simp [orderE, h0]
      have e2 : lateE t = faultT t := by simp [lateE, h0]
      have e3 : orderV t = .nils := by simp [orderV, e1, h0]
      have e4 : lateV t = .nils := by simp [lateV, e2, h0]
      rw [e1, e3] at hor
      rw [e2, e4] at hla
      generalize faultT t = E at *
      simp only [townC, slH, slL, sl] at hth hto hor hla hfa ⊢
      (refine callS_of_awp (fun w args => Try.call12 ..) Try.func12 rfl (fun w0 m0 wz => ?_); simp only [Try.ntmps12, Try.results12, initT, junks, homeC, hallC, slH, slL, townC, sl, List.toList_toArray, List.cons_append, List.nil_append, List.length_cons, List.length_nil, Nat.reduceAdd, Nat.reduceSub])
      (repeat' (first
    | ((exfalso; omega))
    | (refine awp_seqK ?_)
    | (refine kt ?_)
    | (refine And.intro ?_ ?_)
    | ((first | refine awp_region ?_ | refine awp_draw (by kernel_rfl) (by kernel_rfl) ?_ | refine Imp.le2 ?_ | refine awp_label ?_ | refine awp_skip ?_ | refine awp_exit ?_ | refine awp_cd ?_ | refine awp_ret ?_ | refine callK_of (hth) ?_ | refine callK_of (hto) ?_ | refine callK_of (hor) ?_ | refine callK_of (hla) ?_ | refine callK_of (hfa) ?_ | refine callK_of (hA) ?_ | refine go_split (fun _h => ?_) (fun _h => ?_)) <;> try simp (maxSteps := 4000000) only [go_sem, Nat.reduceAdd, Nat.reduceMul, Nat.reduceSub, Nat.reduceLeDiff, Nat.reduceLT, Int.reduceAdd, Int.reduceToNat, Int.reduceLE, Int.reduceLT, Int.reduceNeg, reduceIte, e0, decide_false, decide_true])
    | (intro _h)
    | (refine awp_block ?_)
    | (refine awp_scope ?_)
    | (refine cond_b (fun _h => ?_) (fun _h => ?_))
    | (show heapOK _ _ = true; kernel_rfl)
    | (show heapOK2 _ _ = true; kernel_rfl)
    | (omega)))
      all_goals trace_state
end Go.Am
