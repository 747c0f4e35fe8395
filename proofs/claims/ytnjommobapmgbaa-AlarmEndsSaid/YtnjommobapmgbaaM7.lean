/- Parts BmB, BmC, BlC, BlD, BlE, BlF, BlG, BlH, Aw of the proof, one behind the other: the machine of abstract values, contracts, plain words. No statement is proved here. -/
import Derived.Test.YtnjommobapmgbaaM6
import Derived.Test.YtnjommobapmgbaaM4
import Derived.Test.YtnjommobapmgbaaM3
import Derived.Test.YtnjommobapmgbaaProg
import Derived.KernelRfl
/- Contracts of the alarm functions: a truth that has a speed in an hour. -/
namespace Go.Am
open Go.RowKit Go.Proofs
attribute [local irreducible] AWP CallS Kt goK CallK stepK evOps SemF SemY Imp
set_option maxRecDepth 4000
set_option linter.unusedSimpArgs false
set_option linter.unusedVariables false
set_option maxHeartbeats 1600000

/-- The first gauge with which a speed may be. -/
def pickF (g : Int → Option (Int × Int)) (v : Int) : Nat → Option Int
  | 0 => none
  | i + 1 => match pickF g v i with
    | some f => some f
    | none => match g ((i : Int) - 1) with
      | some x => if x.1 ≤ v ∧ v ≤ x.2 then some ((i : Int) - 1) else none
      | none => none
theorem win_rowsT {l : List (List Int)} {m : Nat} : window (rowsC l) 0 m = rowsC (l.take m) := by simp [window, rowsC, List.map_take]
def copyG (g : Int → Option (Int × Int)) (i : Nat) : Int → Option (Int × Int) := fun f => if f < (i : Int) - 1 then g f else none
theorem copy_zero {n : Nat} {g : Int → Option (Int × Int)} : canon n (copyG g 0) = [] := canon_none fun j h1 h2 => by simp only [copyG]; rw [if_neg (by omega)]
theorem copy_all {n i : Nat} {g : Int → Option (Int × Int)} (h : n < i) : canon n (copyG g i) = canon n g := canon_congr fun j h1 h2 => by simp only [copyG]; rw [if_pos (by omega)]
theorem copy_succ {i : Nat} {g : Int → Option (Int × Int)} : copyG g (i + 1) = updI (copyG g i) ((i : Int) - 1) (g ((i : Int) - 1)) := by
  funext f
  simp only [copyG, updI]
  by_cases e : f = (i : Int) - 1
  · rw [if_pos e, if_pos (by omega), e]
  · rw [if_neg e]
    by_cases h : f < (i : Int) - 1
    · rw [if_pos h, if_pos (by omega)]
    · rw [if_neg h, if_neg (by omega)]
theorem pe_mp {m : List (Int × Int × Int)} : pureE (mpC m) := by
  intro e he
  simp only [mpC, List.mem_map] at he
  obtain ⟨a, _, rfl⟩ := he
  simp [pureA, cellPure]
instance {p : Post} {reads : List (List Int)} {n : Nat} : Still (pmC p reads n) := ⟨by
  simp only [pmC, List.mem_map]
  rintro _ ⟨a, _, rfl⟩; rfl⟩
theorem lv_pm {p : Post} {reads : List (List Int)} {n : Nat} {q : Nat → Bool} : (pmC p reads n).all (live2 q) = true := by
  simp only [pmC, List.all_map, List.all_eq_true]
  intro z _; rfl
attribute [go_sem] lv_pm
theorem pickF_none {g : Int → Option (Int × Int)} {v : Int} : ∀ m : Nat, pickF g v m = none → ∀ i : Nat, i < m → ∀ x, g ((i : Int) - 1) = some x → ¬(x.1 ≤ v ∧ v ≤ x.2)
  | 0, _, i, hi => by omega
  | m + 1, h, i, hi => by
    simp only [pickF] at h
    cases hp : pickF g v m with
    | some f => rw [hp] at h; cases h
    | none =>
      rw [hp] at h
      rcases Nat.lt_or_ge i m with h1 | h1
      · exact pickF_none m hp i h1
      · have e : i = m := by omega
        subst e
        intro x hx hc
        simp only [hx, hc, and_self, if_true] at h
        cases h
theorem pickF_some {g : Int → Option (Int × Int)} {v f : Int} : ∀ m : Nat, pickF g v m = some f → ∃ i : Nat, i < m ∧ f = (i : Int) - 1 ∧ (∃ x, g ((i : Int) - 1) = some x ∧ x.1 ≤ v ∧ v ≤ x.2) ∧ ∀ i' : Nat, i' < i → ∀ x, g ((i' : Int) - 1) = some x → ¬(x.1 ≤ v ∧ v ≤ x.2)
  | 0, h => by cases h
  | m + 1, h => by
    simp only [pickF] at h
    cases hp : pickF g v m with
    | some f' =>
      rw [hp] at h
      simp only [Option.some.injEq] at h
      subst h
      obtain ⟨i, h1, h2⟩ := pickF_some m hp
      exact ⟨i, by omega, h2⟩
    | none =>
      rw [hp] at h
      cases hx : g ((m : Int) - 1) with
      | none => simp [hx] at h
      | some x =>
        simp only [hx] at h
        split at h
        · rename_i hc
          simp only [Option.some.injEq] at h
          exact ⟨m, by omega, h.symm, ⟨x, hx, hc.1, hc.2⟩, pickF_none m hp⟩
        · cases h
def fiH (p : Post) (k v : Int) (g : Int → Option (Int × Int)) (n : Nat) (ms : List AV) (b3 : Int) (b4 : AV) : List (Option ABlk) :=
  [none, some (.cells 3 1 0 [.int .i64 k]), some (.cells 3 1 0 [.int .i64 v]), some (.cells 3 1 0 [.int .i64 b3]), some (.cells 22 1 0 [b4]), some (.cells 29 1 0 [.int .i64 0]), none, some (.map (mpC (canon p.errs.length g))), some (.cells 142 1 0 (watchC p 7)), none, none, some (.cells 130 1 0 [.fn (.func 74) [] [.pptr [.psl false n ms] 0, .ptr 11 0 0, .pptr (postC p) 0]]), some (.cells 115 1 0 [.ptr 8 0 0])]
def fiT : List AV := mkT 86 [(6, .ptr 1 0 0), (7, .ptr 2 0 0), (8, .ptr 3 0 0), (9, .ptr 4 0 0), (10, .ptr 5 0 0), (19, .ptr 11 0 0), (71, .fn (.func 87) [] [.ptr 12 0 0])]
def trH (p : Post) (k v : Int) (g : Int → Option (Int × Int)) (j : Nat) (ms : List AV) : List (Option ABlk) :=
  [some (.cells 51 1 0 (postC p)), some (.cells 3 1 0 [.int .i64 k]), some (.cells 3 1 0 [.int .i64 v]), some (.cells 3 1 0 [.int .i64 0]), some (.cells 22 1 0 [.nils]), some (.cells 29 1 0 [.int .i64 0]), none, some (.map (mpC (canon p.errs.length g))), some (.cells 142 1 0 (watchC p 7)), some (.cells 127 1 0 [.osl 10 j 0 j]), some (.cells 129 1 j ms)]
def trT (rs : List (List Int)) (m j : Nat) : List AV := mkT 86 [(4, .ptr 0 0 0), (6, .ptr 1 0 0), (7, .ptr 2 0 0), (8, .ptr 3 0 0), (9, .ptr 4 0 0), (10, .ptr 5 0 0), (12, .ptr 8 0 0), (13, .ptr 9 0 0), (44, .psl false m (rowsC rs)), (45, .int .i64 m), (46, .int .i64 j)]
def trU (rs : List (List Int)) (m j : Nat) : List AV := mkT 86 [(4, .ptr 0 0 0), (6, .ptr 1 0 0), (7, .ptr 2 0 0), (8, .ptr 3 0 0), (9, .ptr 4 0 0), (10, .ptr 5 0 0), (12, .ptr 8 0 0), (13, .ptr 9 0 0), (16, .ptr 12 0 0), (44, .psl false m (rowsC rs)), (45, .int .i64 m), (46, .int .i64 j), (58, .fn (.func 87) [] [.ptr 13 0 0])]
def trI (p : Post) (k v : Int) (g : Int → Option (Int × Int)) (j : Nat) (ms : List AV) (i : Nat) : List (Option ABlk) :=
  trH p k v g j ms ++ [some (.map (mpC (canon p.errs.length (copyG g i)))), some (.cells 129 1 0 [.map 11]), some (.cells 115 1 0 [.ptr 8 0 0])]
theorem truthOk_c (p : Post) (reads : List (List Int)) (k : Nat) (v : Int) (hb : InB p reads) (hf : faultP p reads = 0) (hk : k < reads.length) (hv : 0 ≤ v ∧ v ≤ 1000) :
    CallS Try.prog 44 [.agg (postC p), sll reads, .int .i64 k, .int .i64 v] (match pickF (gAt p reads (k + 1)) v (p.errs.length + 1) with
      | some f => .tup [.int .i64 f, sl (backL (gAt p reads) p.gain f k v), .int .i64 0]
      | none => .tup [.int .i64 0, .nils, .int .i64 7]) := by
  have hch := check_c p reads hb.e hb.n hb.rows
  rw [hf] at hch
  obtain ⟨hp, hr⟩ := faultP_zero hf
  obtain ⟨hl1, hl2⟩ := hp.len
  have hl3 := hr.len
  have hbg := begin_c p (by omega)
  have e1 : (0 ≤ v ∧ v ≤ 1000) = True := eq_true hv
  have e2 : ((0 : Int) ≤ k ∧ (k : Int) ≤ reads.length - 1) = True := eq_true (by omega)
  have e3 : ((k : Int) + 1).toNat = k + 1 := by omega
  obtain ⟨rs, hrs, hrl, hrg⟩ : ∃ rs : List (List Int), reads.take (k + 1) = rs ∧ rs.length = k + 1 ∧ ∀ j, j < k + 1 → rs.getD j [] = reads.getD j [] :=
    ⟨_, rfl, by simp; omega, fun j hj => by simp only [List.getD_eq_getElem?_getD, List.getElem?_take_of_lt hj]⟩
  simp only [postC, sl, watchC, sll] at hbg hch
  (refine callS_of_awpZ (fun w args => Try.call44 ..) Try.func44 rfl (fun w0 wz => ?_); simp only [Try.ntmps44, Try.results44, initT, junks, postC, watchC, sll, sl, List.toList_toArray, List.cons_append, List.nil_append, List.length_cons, List.length_nil, Nat.reduceAdd, Nat.reduceSub])
  (repeat' (first
    | (refine awp_ownN 1 rfl ?_; simp (maxSteps := 4000000) only [go_sem, List.append_eq, List.cons_append, List.nil_append, Nat.reduceAdd, Nat.reduceMul, Nat.reduceSub, Nat.reduceLeDiff, Nat.reduceLT, Int.reduceAdd, Int.reduceToNat, Int.reduceLE, Int.reduceLT, Int.reduceNeg, reduceIte, postC, watchC, sll, List.take_succ_cons, List.take_zero, e1, e2, e3, win_rowsT, hrs, decide_true]; refine own_go (hbg) [] rfl (by simp (maxSteps := 4000000) only [go_sem, List.append_eq, List.cons_append, List.nil_append, Nat.reduceAdd, Nat.reduceMul, Nat.reduceSub, Nat.reduceLeDiff, Nat.reduceLT, Int.reduceAdd, Int.reduceToNat, Int.reduceLE, Int.reduceLT, Int.reduceNeg, reduceIte, postC, watchC, sll, e1, e2, e3, win_rowsT, hrs, decide_true]) (by simp (maxSteps := 4000000) only [go_sem, List.append_eq, List.cons_append, List.nil_append, Nat.reduceAdd, Nat.reduceMul, Nat.reduceSub, Nat.reduceLeDiff, Nat.reduceLT, Int.reduceAdd, Int.reduceToNat, Int.reduceLE, Int.reduceLT, Int.reduceNeg, reduceIte, postC, watchC, sll, Nat.lt_irrefl, e1, e2, e3, win_rowsT, hrs, decide_true] <;> decide) rfl ?_; simp (maxSteps := 4000000) only [go_sem, List.append_eq, List.cons_append, List.nil_append, Nat.reduceAdd, Nat.reduceMul, Nat.reduceSub, Nat.reduceLeDiff, Nat.reduceLT, Int.reduceAdd, Int.reduceToNat, Int.reduceLE, Int.reduceLT, Int.reduceNeg, reduceIte, postC, watchC, sll, e1, e2, e3, win_rowsT, hrs, decide_true])
    | (refine awp_seqK ?_)
    | (refine kt ?_)
    | (refine And.intro ?_ ?_)
    | ((first | refine awp_region ?_ | refine Imp.le2 ?_ | refine awp_label ?_ | refine awp_skip ?_ | refine awp_exit ?_ | refine awp_cd ?_ | refine awp_ret ?_); simp (maxSteps := 4000000) only [go_sem, List.append_eq, List.cons_append, List.nil_append, Nat.reduceAdd, Nat.reduceMul, Nat.reduceSub, Nat.reduceLeDiff, Nat.reduceLT, Int.reduceAdd, Int.reduceToNat, Int.reduceLE, Int.reduceLT, Int.reduceNeg, reduceIte, postC, watchC, sll, e1, e2, e3, win_rowsT, hrs, decide_true])
    | (intro _h)
    | (refine awp_block ?_)
    | (refine awp_scope ?_)
    | ((first | refine callK_of (hch) ?_ | refine callK_of (within_c _ _ _) ?_ | refine callK_of (speed_c _) ?_); try simp (maxSteps := 4000000) only [go_sem, List.append_eq, List.cons_append, List.nil_append, Nat.reduceAdd, Nat.reduceMul, Nat.reduceSub, Nat.reduceLeDiff, Nat.reduceLT, Int.reduceAdd, Int.reduceToNat, Int.reduceLE, Int.reduceLT, Int.reduceNeg, reduceIte, postC, watchC, sll, e1, e2, e3, win_rowsT, hrs, decide_true])
    | (refine go_split (fun _h => ?_) (fun _h => ?_) <;> simp (maxSteps := 4000000) only [go_sem, List.append_eq, List.cons_append, List.nil_append, Nat.reduceAdd, Nat.reduceMul, Nat.reduceSub, Nat.reduceLeDiff, Nat.reduceLT, Int.reduceAdd, Int.reduceToNat, Int.reduceLE, Int.reduceLT, Int.reduceNeg, reduceIte, postC, watchC, sll, e1, e2, e3, win_rowsT, hrs, decide_true])
    | (show heapOK _ _ = true; kernel_rfl)
    | (show heapOK2 _ _ = true; kernel_rfl)
    | (omega)))
  refine awp_adH 9 0 129 1 rfl rfl ?_
  simp only [adH, hget, hset, lset, List.length_cons, List.length_nil, Nat.reduceAdd]
  refine awp_loopN (k + 1) (fun j => ⟨trT rs (k + 1) j, trH p k v (gAt p reads j) j (pmC p reads j), []⟩) (.le2 ?_) ?_
  · simp only [trT, trH, postC, watchC]; simp (maxSteps := 4000000) only [go_sem, List.append_eq, List.cons_append, List.nil_append, Nat.reduceAdd, Nat.reduceMul, Nat.reduceSub, Nat.reduceLeDiff, Nat.reduceLT, Int.reduceAdd, Int.reduceToNat, Int.reduceLE, Int.reduceLT, Int.reduceNeg, reduceIte, postC, watchC, sll]
    exact ⟨rfl, rfl⟩
  · intro j hj
    have hnx : j < k + 1 → SemF Try.prog 73 [.ptr 0 0 0, sl (rs.getD j []), .bool (decide (j = 0))] [some (.cells 142 1 0 (watchC p 1)), some (.map (mpC (canon p.errs.length (gAt p reads j))))] (.tup []) [some (.cells 142 1 0 (watchC p 1)), some (.map (mpC (canon p.errs.length (gAt p reads (j + 1)))))] :=
      fun h => by rw [hrg j h]; exact next_c p (gAt p reads j) (reads.getD j []) (decide (j = 0)) hp (hr.rows j (by omega)) (gAt_ok j)
    have hfa := failing_c p (canon p.errs.length (gAt p reads (j + 1)))
    have hfb := failing_c p (canon p.errs.length (gAt p reads j))
    simp only [sl, postC, watchC] at hnx hfa hfb
    rcases Nat.lt_or_ge j (k + 1) with hj1 | hj1
    · have hnx := hnx hj1
      have e6 : ((j : Int) < ((k + 1 : Nat) : Int)) = True := eq_true (by omega)
      simp only [trT, trH, postC, watchC]; simp (maxSteps := 4000000) only [go_sem, List.append_eq, List.cons_append, List.nil_append, Nat.reduceAdd, Nat.reduceMul, Nat.reduceSub, Nat.reduceLeDiff, Nat.reduceLT, Int.reduceAdd, Int.reduceToNat, Int.reduceLE, Int.reduceLT, Int.reduceNeg, reduceIte, postC, watchC, sll]
      have hz : (((j : Int) = 0) = True ∧ decide (j = 0) = true) ∨ (((j : Int) = 0) = False ∧ decide (j = 0) = false) := by
        by_cases h : j = 0
        · exact .inl ⟨eq_true (by omega), by simp [h]⟩
        · exact .inr ⟨eq_false (by omega), by simp [h]⟩
      have hG := gAt_ok (p := p) (reads := reads) (j + 1)
      rcases hz with ⟨e0, e1⟩ | ⟨e0, e1⟩ <;> rw [e1] at hnx
      all_goals
        (repeat' (first
    | (refine awp_ownN 4 rfl ?_; simp (maxSteps := 4000000) only [go_sem, List.append_eq, List.cons_append, List.nil_append, Nat.reduceAdd, Nat.reduceMul, Nat.reduceSub, Nat.reduceLeDiff, Nat.reduceLT, Int.reduceAdd, Int.reduceToNat, Int.reduceLE, Int.reduceLT, Int.reduceNeg, reduceIte, postC, watchC, sll, List.take_succ_cons, List.take_zero, e0, e6, decide_true, decide_false]; refine own_go (hnx) [8, 7] rfl (by simp (maxSteps := 4000000) only [go_sem, List.append_eq, List.cons_append, List.nil_append, Nat.reduceAdd, Nat.reduceMul, Nat.reduceSub, Nat.reduceLeDiff, Nat.reduceLT, Int.reduceAdd, Int.reduceToNat, Int.reduceLE, Int.reduceLT, Int.reduceNeg, reduceIte, postC, watchC, sll, e0, e6, decide_true, decide_false]) (by simp (maxSteps := 4000000) only [go_sem, List.append_eq, List.cons_append, List.nil_append, Nat.reduceAdd, Nat.reduceMul, Nat.reduceSub, Nat.reduceLeDiff, Nat.reduceLT, Int.reduceAdd, Int.reduceToNat, Int.reduceLE, Int.reduceLT, Int.reduceNeg, reduceIte, postC, watchC, sll, Nat.lt_irrefl, e0, e6, decide_true, decide_false] <;> decide) rfl ?_; simp (maxSteps := 4000000) only [go_sem, List.append_eq, List.cons_append, List.nil_append, Nat.reduceAdd, Nat.reduceMul, Nat.reduceSub, Nat.reduceLeDiff, Nat.reduceLT, Int.reduceAdd, Int.reduceToNat, Int.reduceLE, Int.reduceLT, Int.reduceNeg, reduceIte, postC, watchC, sll, e0, e6, decide_true, decide_false])
    | (refine awp_ownN 1 rfl ?_; simp (maxSteps := 4000000) only [go_sem, List.append_eq, List.cons_append, List.nil_append, Nat.reduceAdd, Nat.reduceMul, Nat.reduceSub, Nat.reduceLeDiff, Nat.reduceLT, Int.reduceAdd, Int.reduceToNat, Int.reduceLE, Int.reduceLT, Int.reduceNeg, reduceIte, postC, watchC, sll, List.take_succ_cons, List.take_zero, e0, e6, decide_true, decide_false]; refine own_go (hfa) [8, 7] rfl (by simp (maxSteps := 4000000) only [go_sem, List.append_eq, List.cons_append, List.nil_append, Nat.reduceAdd, Nat.reduceMul, Nat.reduceSub, Nat.reduceLeDiff, Nat.reduceLT, Int.reduceAdd, Int.reduceToNat, Int.reduceLE, Int.reduceLT, Int.reduceNeg, reduceIte, postC, watchC, sll, e0, e6, decide_true, decide_false]) (by simp (maxSteps := 4000000) only [go_sem, List.append_eq, List.cons_append, List.nil_append, Nat.reduceAdd, Nat.reduceMul, Nat.reduceSub, Nat.reduceLeDiff, Nat.reduceLT, Int.reduceAdd, Int.reduceToNat, Int.reduceLE, Int.reduceLT, Int.reduceNeg, reduceIte, postC, watchC, sll, Nat.lt_irrefl, e0, e6, decide_true, decide_false] <;> decide) rfl ?_; simp (maxSteps := 4000000) only [go_sem, List.append_eq, List.cons_append, List.nil_append, Nat.reduceAdd, Nat.reduceMul, Nat.reduceSub, Nat.reduceLeDiff, Nat.reduceLT, Int.reduceAdd, Int.reduceToNat, Int.reduceLE, Int.reduceLT, Int.reduceNeg, reduceIte, postC, watchC, sll, e0, e6, decide_true, decide_false])
    | (refine awp_seqK ?_)
    | (refine kt ?_)
    | (refine And.intro ?_ ?_)
    | ((first | refine awp_region ?_ | refine Imp.le2 ?_ | refine awp_label ?_ | refine awp_skip ?_ | refine awp_exit ?_ | refine awp_cd ?_ | refine awp_ret ?_); simp (maxSteps := 4000000) only [go_sem, List.append_eq, List.cons_append, List.nil_append, Nat.reduceAdd, Nat.reduceMul, Nat.reduceSub, Nat.reduceLeDiff, Nat.reduceLT, Int.reduceAdd, Int.reduceToNat, Int.reduceLE, Int.reduceLT, Int.reduceNeg, reduceIte, postC, watchC, sll, e0, e6, decide_true, decide_false])
    | (intro _h)
    | (refine awp_block ?_)
    | (refine awp_scope ?_)
    | (refine go_split (fun _h => ?_) (fun _h => ?_) <;> simp (maxSteps := 4000000) only [go_sem, List.append_eq, List.cons_append, List.nil_append, Nat.reduceAdd, Nat.reduceMul, Nat.reduceSub, Nat.reduceLeDiff, Nat.reduceLT, Int.reduceAdd, Int.reduceToNat, Int.reduceLE, Int.reduceLT, Int.reduceNeg, reduceIte, postC, watchC, sll, e0, e6, decide_true, decide_false])
    | (show heapOK _ _ = true; kernel_rfl)
    | (show heapOK2 _ _ = true; kernel_rfl)
    | (omega)))
      all_goals
        refine AWP.le2 (s' := ⟨trU rs (k + 1) j, trI p k v (gAt p reads (j + 1)) j (pmC p reads j) 0, []⟩) (by simp only [trU, trI, trH, postC, watchC, copy_zero]; simp (maxSteps := 4000000) only [go_sem, List.append_eq, List.cons_append, List.nil_append, Nat.reduceAdd, Nat.reduceMul, Nat.reduceSub, Nat.reduceLeDiff, Nat.reduceLT, Int.reduceAdd, Int.reduceToNat, Int.reduceLE, Int.reduceLT, Int.reduceNeg, reduceIte, postC, watchC, sll]; rfl) ?_
        generalize hgg : gAt p reads (j + 1) = g at *
        refine awp_rangeZ (gf := 87) (first := []) (caps := [.ptr 13 0 0]) (by simp only [trU]; simp (maxSteps := 4000000) only [go_sem, List.append_eq, List.cons_append, List.nil_append, Nat.reduceAdd, Nat.reduceMul, Nat.reduceSub, Nat.reduceLeDiff, Nat.reduceLT, Int.reduceAdd, Int.reduceToNat, Int.reduceLE, Int.reduceLT, Int.reduceNeg, reduceIte, postC, watchC, sll]) 14 rfl ?_
        intro ca cb hca hcb
        refine ⟨.tup [], trI p k v g j (pmC p reads j) (p.errs.length + 1) ++ [some (.dfr true), some (.loop .ready none 0 (trU rs (k + 1) j) #[59, 60] ca cb 14)], .ready, none, .normal, ?_, ?_, by simp, rfl, ?_⟩
        · simp only [trI, trH, trU, postC, watchC]
          simp (maxSteps := 4000000) only [go_sem, List.append_eq, List.cons_append, List.nil_append, Nat.reduceAdd, Nat.reduceMul, Nat.reduceSub, Nat.reduceLeDiff, Nat.reduceLT, Int.reduceAdd, Int.reduceToNat, Int.reduceLE, Int.reduceLT, Int.reduceNeg, reduceIte, postC, watchC, sll]
          (refine semF_of_awp (ys := []) (fun w args => Try.call87 ..) Try.func87 rfl (fun w0 m0 wz => ?_); simp only [Try.ntmps87, Try.results87, initT, junks, postC, watchC, sll, sl, List.toList_toArray, List.cons_append, List.nil_append, List.length_cons, List.length_nil, Nat.reduceAdd, Nat.reduceSub])
          (repeat' (first
    | (refine awp_seqK ?_)
    | (refine kt ?_)
    | (refine And.intro ?_ ?_)
    | ((first | refine awp_region ?_ | refine awp_draw (by kernel_rfl) (by kernel_rfl) ?_ | refine Imp.le2 ?_ | refine awp_label ?_ | refine awp_skip ?_ | refine awp_exit ?_ | refine awp_cd ?_ | refine awp_ret ?_); simp (maxSteps := 4000000) only [go_sem, List.append_eq, List.cons_append, List.nil_append, Nat.reduceAdd, Nat.reduceMul, Nat.reduceSub, Nat.reduceLeDiff, Nat.reduceLT, Int.reduceAdd, Int.reduceToNat, Int.reduceLE, Int.reduceLT, Int.reduceNeg, reduceIte, postC, watchC, sll])
    | (intro _h)
    | (refine awp_block ?_)
    | (refine awp_scope ?_)
    | (refine go_split (fun _h => ?_) (fun _h => ?_) <;> simp (maxSteps := 4000000) only [go_sem, List.append_eq, List.cons_append, List.nil_append, Nat.reduceAdd, Nat.reduceMul, Nat.reduceSub, Nat.reduceLeDiff, Nat.reduceLT, Int.reduceAdd, Int.reduceToNat, Int.reduceLE, Int.reduceLT, Int.reduceNeg, reduceIte, postC, watchC, sll])
    | (show heapOK _ _ = true; kernel_rfl)
    | (show heapOK2 _ _ = true; kernel_rfl)
    | (omega)))
          refine awp_loopN (p.errs.length + 1) (fun i => ⟨mkT 33 [(0, .fn (.yield 15) [] []), (1, .ptr 13 0 0), (3, .int .i64 ((i : Int) - 1))], trI p k v g j (pmC p reads j) i ++ [some (.dfr true), some (.loop .ready none 0 (trU rs (k + 1) j) #[59, 60] ca cb 14)], []⟩) (.le2 ?_) ?_
          · simp only [trI, trH, trU, postC, watchC]; simp (maxSteps := 4000000) only [go_sem, List.append_eq, List.cons_append, List.nil_append, Nat.reduceAdd, Nat.reduceMul, Nat.reduceSub, Nat.reduceLeDiff, Nat.reduceLT, Int.reduceAdd, Int.reduceToNat, Int.reduceLE, Int.reduceLT, Int.reduceNeg, reduceIte, postC, watchC, sll]
            rfl
          · intro i hi
            have hgi := canon_get (n := p.errs.length) (g := g) (j := (i : Int) - 1) (by omega)
            have hcs := copy_succ (g := g) (i := i)
            cases hx : g ((i : Int) - 1) with
            | none =>
              have hsame : canon p.errs.length (copyG g (i + 1)) = canon p.errs.length (copyG g i) := canon_congr fun f h1 h2 => by
                rw [hcs, hx]; simp only [updI]
                by_cases e : f = (i : Int) - 1
                · rw [if_pos e]; simp only [copyG]; rw [if_neg (by omega)]
                · rw [if_neg e]
              simp only [trI, trH, trU, postC, watchC]; simp (maxSteps := 4000000) only [go_sem, List.append_eq, List.cons_append, List.nil_append, Nat.reduceAdd, Nat.reduceMul, Nat.reduceSub, Nat.reduceLeDiff, Nat.reduceLT, Int.reduceAdd, Int.reduceToNat, Int.reduceLE, Int.reduceLT, Int.reduceNeg, reduceIte, postC, watchC, sll]
              (repeat' (first
    | ((rw [mget_none ((hgi (by omega)).trans hx)]; simp (maxSteps := 4000000) only [go_sem, List.append_eq, List.cons_append, List.nil_append, Nat.reduceAdd, Nat.reduceMul, Nat.reduceSub, Nat.reduceLeDiff, Nat.reduceLT, Int.reduceAdd, Int.reduceToNat, Int.reduceLE, Int.reduceLT, Int.reduceNeg, reduceIte, postC, watchC, sll]))
    | ((show zeroOK _ = true; rfl))
    | (refine awp_seqK ?_)
    | (refine kt ?_)
    | (refine And.intro ?_ ?_)
    | ((first | refine awp_region ?_ | refine awp_draw (by kernel_rfl) (by kernel_rfl) ?_ | refine Imp.le2 ?_ | refine awp_label ?_ | refine awp_skip ?_ | refine awp_exit ?_ | refine awp_cd ?_ | refine awp_ret ?_); simp (maxSteps := 4000000) only [go_sem, List.append_eq, List.cons_append, List.nil_append, Nat.reduceAdd, Nat.reduceMul, Nat.reduceSub, Nat.reduceLeDiff, Nat.reduceLT, Int.reduceAdd, Int.reduceToNat, Int.reduceLE, Int.reduceLT, Int.reduceNeg, reduceIte, postC, watchC, sll])
    | (intro _h)
    | (refine awp_block ?_)
    | (refine awp_scope ?_)
    | (refine go_split (fun _h => ?_) (fun _h => ?_) <;> simp (maxSteps := 4000000) only [go_sem, List.append_eq, List.cons_append, List.nil_append, Nat.reduceAdd, Nat.reduceMul, Nat.reduceSub, Nat.reduceLeDiff, Nat.reduceLT, Int.reduceAdd, Int.reduceToNat, Int.reduceLE, Int.reduceLT, Int.reduceNeg, reduceIte, postC, watchC, sll])
    | (show heapOK _ _ = true; kernel_rfl)
    | (show heapOK2 _ _ = true; kernel_rfl)
    | (omega)))
              all_goals first
                | (rw [hsame]; done)
                | (have e : i = p.errs.length + 1 := by omega
                   subst e; first | rfl | exact ⟨rfl, rfl⟩)
                | (rw [hsame]; exact ⟨rfl, rfl⟩)
            | some x =>
              have hput : i < p.errs.length + 1 → mpPut (canon p.errs.length (copyG g i)) ((i : Int) - 1) x = canon p.errs.length (copyG g (i + 1)) := fun h => by
                rw [canon_put (by omega) (by omega) (.inr fun f h1 _ => by simp only [copyG]; rw [if_neg (by omega)]), hcs, hx]
              simp only [trI, trH, trU, postC, watchC]; simp (maxSteps := 4000000) only [go_sem, List.append_eq, List.cons_append, List.nil_append, Nat.reduceAdd, Nat.reduceMul, Nat.reduceSub, Nat.reduceLeDiff, Nat.reduceLT, Int.reduceAdd, Int.reduceToNat, Int.reduceLE, Int.reduceLT, Int.reduceNeg, reduceIte, postC, watchC, sll]
              (repeat' (first
    | ((rw [mget_some ((hgi (by omega)).trans hx)]; simp (maxSteps := 4000000) only [go_sem, List.append_eq, List.cons_append, List.nil_append, Nat.reduceAdd, Nat.reduceMul, Nat.reduceSub, Nat.reduceLeDiff, Nat.reduceLT, Int.reduceAdd, Int.reduceToNat, Int.reduceLE, Int.reduceLT, Int.reduceNeg, reduceIte, postC, watchC, sll]))
    | ((show zeroOK _ = true; rfl))
    | ((refine awp_ownN 5 rfl ?_; simp (maxSteps := 4000000) only [go_sem, List.append_eq, List.cons_append, List.nil_append, Nat.reduceAdd, Nat.reduceMul, Nat.reduceSub, Nat.reduceLeDiff, Nat.reduceLT, Int.reduceAdd, Int.reduceToNat, Int.reduceLE, Int.reduceLT, Int.reduceNeg, reduceIte, postC, watchC, sll, List.take_succ_cons, List.take_zero]; refine callH_yield true (trI p k v g j (pmC p reads j) (i + 1) ++ [some (.dfr true), some (.loop .ready none 0 (trU rs (k + 1) j) #[59, 60] ca cb 14), some (.cells 122 1 0 [.int .i64 x.1, .int .i64 x.2])]) ?_ ?_ <;> simp only [trI, trH, trU, postC, watchC] <;> (try simp (maxSteps := 4000000) only [go_sem, List.append_eq, List.cons_append, List.nil_append, Nat.reduceAdd, Nat.reduceMul, Nat.reduceSub, Nat.reduceLeDiff, Nat.reduceLT, Int.reduceAdd, Int.reduceToNat, Int.reduceLE, Int.reduceLT, Int.reduceNeg, reduceIte, postC, watchC, sll])))
    | (refine awp_seqK ?_)
    | (refine kt ?_)
    | (refine And.intro ?_ ?_)
    | ((first | refine awp_region ?_ | refine awp_draw (by kernel_rfl) (by kernel_rfl) ?_ | refine Imp.le2 ?_ | refine awp_label ?_ | refine awp_skip ?_ | refine awp_exit ?_ | refine awp_cd ?_ | refine awp_ret ?_); simp (maxSteps := 4000000) only [go_sem, List.append_eq, List.cons_append, List.nil_append, Nat.reduceAdd, Nat.reduceMul, Nat.reduceSub, Nat.reduceLeDiff, Nat.reduceLT, Int.reduceAdd, Int.reduceToNat, Int.reduceLE, Int.reduceLT, Int.reduceNeg, reduceIte, postC, watchC, sll])
    | (intro _h)
    | (refine awp_block ?_)
    | (refine awp_scope ?_)
    | (refine go_split (fun _h => ?_) (fun _h => ?_) <;> simp (maxSteps := 4000000) only [go_sem, List.append_eq, List.cons_append, List.nil_append, Nat.reduceAdd, Nat.reduceMul, Nat.reduceSub, Nat.reduceLeDiff, Nat.reduceLT, Int.reduceAdd, Int.reduceToNat, Int.reduceLE, Int.reduceLT, Int.reduceNeg, reduceIte, postC, watchC, sll])
    | (show heapOK _ _ = true; kernel_rfl)
    | (show heapOK2 _ _ = true; kernel_rfl)
    | (omega)))
              · rw [← hput (by omega)]
                refine semY_of_awpZ rfl rfl ?_
                intro B w0 l m w
                refine awp_code hca ?_
                (repeat' (first
    | (refine awp_seqK ?_)
    | (refine kt ?_)
    | (refine And.intro ?_ ?_)
    | ((first | refine awp_region ?_ | refine awp_draw (by kernel_rfl) (by kernel_rfl) ?_ | refine Imp.le2 ?_ | refine awp_label ?_ | refine awp_skip ?_ | refine awp_exit ?_ | refine awp_cd ?_ | refine awp_ret ?_); simp (maxSteps := 4000000) only [go_sem, List.append_eq, List.cons_append, List.nil_append, Nat.reduceAdd, Nat.reduceMul, Nat.reduceSub, Nat.reduceLeDiff, Nat.reduceLT, Int.reduceAdd, Int.reduceToNat, Int.reduceLE, Int.reduceLT, Int.reduceNeg, reduceIte, postC, watchC, sll])
    | (intro _h)
    | (refine awp_block ?_)
    | (refine awp_scope ?_)
    | (refine go_split (fun _h => ?_) (fun _h => ?_) <;> simp (maxSteps := 4000000) only [go_sem, List.append_eq, List.cons_append, List.nil_append, Nat.reduceAdd, Nat.reduceMul, Nat.reduceSub, Nat.reduceLeDiff, Nat.reduceLT, Int.reduceAdd, Int.reduceToNat, Int.reduceLE, Int.reduceLT, Int.reduceNeg, reduceIte, postC, watchC, sll])
    | (show heapOK _ _ = true; kernel_rfl)
    | (show heapOK2 _ _ = true; kernel_rfl)
    | (omega)))
                refine awp_code hcb ?_
                (repeat' (first
    | (refine awp_seqK ?_)
    | (refine kt ?_)
    | (refine And.intro ?_ ?_)
    | ((first | refine awp_region ?_ | refine awp_draw (by kernel_rfl) (by kernel_rfl) ?_ | refine Imp.le2 ?_ | refine awp_label ?_ | refine awp_skip ?_ | refine awp_exit ?_ | refine awp_cd ?_ | refine awp_ret ?_); simp (maxSteps := 4000000) only [go_sem, List.append_eq, List.cons_append, List.nil_append, Nat.reduceAdd, Nat.reduceMul, Nat.reduceSub, Nat.reduceLeDiff, Nat.reduceLT, Int.reduceAdd, Int.reduceToNat, Int.reduceLE, Int.reduceLT, Int.reduceNeg, reduceIte, postC, watchC, sll])
    | (intro _h)
    | (refine awp_block ?_)
    | (refine awp_scope ?_)
    | (refine go_split (fun _h => ?_) (fun _h => ?_) <;> simp (maxSteps := 4000000) only [go_sem, List.append_eq, List.cons_append, List.nil_append, Nat.reduceAdd, Nat.reduceMul, Nat.reduceSub, Nat.reduceLeDiff, Nat.reduceLT, Int.reduceAdd, Int.reduceToNat, Int.reduceLE, Int.reduceLT, Int.reduceNeg, reduceIte, postC, watchC, sll])
    | (show heapOK _ _ = true; kernel_rfl)
    | (show heapOK2 _ _ = true; kernel_rfl)
    | (omega)))
              all_goals first
                | (have e : i = p.errs.length + 1 := by omega
                   subst e; first | rfl | exact ⟨rfl, rfl⟩)
        · rfl
        · simp only [trI, trH, trU, postC, watchC]
          simp (maxSteps := 4000000) only [go_sem, List.append_eq, List.cons_append, List.nil_append, Nat.reduceAdd, Nat.reduceMul, Nat.reduceSub, Nat.reduceLeDiff, Nat.reduceLT, Int.reduceAdd, Int.reduceToNat, Int.reduceLE, Int.reduceLT, Int.reduceNeg, reduceIte, postC, watchC, sll]
          refine kt ?_
          rw [copy_all (by omega)]
          (refine awp_fmz 11 rfl (pe_mp) (fun _ => rfl) ?_; simp only [fmz, fm_pure, fmB_c, fmB_m, fmB_d, fmB_l, fmO, fmH, fmHs, fzl, fm2, fm1, fm0, List.map_cons, List.map_nil, if_true, if_false, reduceIte, Nat.reduceEqDiff, Nat.reduceAdd, Nat.succ_ne_self, Nat.zero_ne_one, Nat.one_ne_zero, reduceCtorEq, and_self])
          (repeat' (first
    | (refine awp_seqK ?_)
    | (refine kt ?_)
    | (refine And.intro ?_ ?_)
    | ((first | refine awp_region ?_ | refine awp_draw (by kernel_rfl) (by kernel_rfl) ?_ | refine awp_label ?_ | refine awp_skip ?_ | refine awp_exit ?_ | refine awp_cd ?_ | refine awp_ret ?_); simp (maxSteps := 4000000) only [go_sem, List.append_eq, List.cons_append, List.nil_append, Nat.reduceAdd, Nat.reduceMul, Nat.reduceSub, Nat.reduceLeDiff, Nat.reduceLT, Int.reduceAdd, Int.reduceToNat, Int.reduceLE, Int.reduceLT, Int.reduceNeg, reduceIte, postC, watchC, sll])
    | (intro _h)
    | (refine awp_block ?_)
    | (refine awp_scope ?_)
    | (refine go_split (fun _h => ?_) (fun _h => ?_) <;> simp (maxSteps := 4000000) only [go_sem, List.append_eq, List.cons_append, List.nil_append, Nat.reduceAdd, Nat.reduceMul, Nat.reduceSub, Nat.reduceLeDiff, Nat.reduceLT, Int.reduceAdd, Int.reduceToNat, Int.reduceLE, Int.reduceLT, Int.reduceNeg, reduceIte, postC, watchC, sll])
    | (show heapOK _ _ = true; kernel_rfl)
    | (show heapOK2 _ _ = true; kernel_rfl)
    | (omega)))
          refine Imp.hide (fun _ => rfl) ?_ ?_
          · rw [pmC_succ, hgg]
            simp (maxSteps := 4000000) only [go_sem, List.append_eq, List.cons_append, List.nil_append, Nat.reduceAdd, Nat.reduceMul, Nat.reduceSub, Nat.reduceLeDiff, Nat.reduceLT, Int.reduceAdd, Int.reduceToNat, Int.reduceLE, Int.reduceLT, Int.reduceNeg, reduceIte, postC, watchC, sll]
            exact ⟨by omega, by simp only [List.all_append, lv_pm, List.all_cons, lv_pmap, List.all_nil, Bool.and_self]⟩
          · simp [hidD, hget]
    · have ej : j = k + 1 := by omega
      have e6 : ((j : Int) < ((k + 1 : Nat) : Int)) = False := eq_false (by omega)
      simp only [trT, trH, postC, watchC]; simp (maxSteps := 4000000) only [go_sem, List.append_eq, List.cons_append, List.nil_append, Nat.reduceAdd, Nat.reduceMul, Nat.reduceSub, Nat.reduceLeDiff, Nat.reduceLT, Int.reduceAdd, Int.reduceToNat, Int.reduceLE, Int.reduceLT, Int.reduceNeg, reduceIte, postC, watchC, sll]
      (repeat' (first
    | (refine awp_ownN 1 rfl ?_; simp (maxSteps := 4000000) only [go_sem, List.append_eq, List.cons_append, List.nil_append, Nat.reduceAdd, Nat.reduceMul, Nat.reduceSub, Nat.reduceLeDiff, Nat.reduceLT, Int.reduceAdd, Int.reduceToNat, Int.reduceLE, Int.reduceLT, Int.reduceNeg, reduceIte, postC, watchC, sll, List.take_succ_cons, List.take_zero, e6, decide_false]; refine own_go (hfb) [8, 7] rfl (by simp (maxSteps := 4000000) only [go_sem, List.append_eq, List.cons_append, List.nil_append, Nat.reduceAdd, Nat.reduceMul, Nat.reduceSub, Nat.reduceLeDiff, Nat.reduceLT, Int.reduceAdd, Int.reduceToNat, Int.reduceLE, Int.reduceLT, Int.reduceNeg, reduceIte, postC, watchC, sll, e6, decide_false]) (by simp (maxSteps := 4000000) only [go_sem, List.append_eq, List.cons_append, List.nil_append, Nat.reduceAdd, Nat.reduceMul, Nat.reduceSub, Nat.reduceLeDiff, Nat.reduceLT, Int.reduceAdd, Int.reduceToNat, Int.reduceLE, Int.reduceLT, Int.reduceNeg, reduceIte, postC, watchC, sll, Nat.lt_irrefl, e6, decide_false] <;> decide) rfl ?_; simp (maxSteps := 4000000) only [go_sem, List.append_eq, List.cons_append, List.nil_append, Nat.reduceAdd, Nat.reduceMul, Nat.reduceSub, Nat.reduceLeDiff, Nat.reduceLT, Int.reduceAdd, Int.reduceToNat, Int.reduceLE, Int.reduceLT, Int.reduceNeg, reduceIte, postC, watchC, sll, e6, decide_false])
    | (refine awp_seqK ?_)
    | (refine kt ?_)
    | (refine And.intro ?_ ?_)
    | ((first | refine awp_region ?_ | refine Imp.le2 ?_ | refine awp_label ?_ | refine awp_skip ?_ | refine awp_exit ?_ | refine awp_cd ?_ | refine awp_ret ?_); simp (maxSteps := 4000000) only [go_sem, List.append_eq, List.cons_append, List.nil_append, Nat.reduceAdd, Nat.reduceMul, Nat.reduceSub, Nat.reduceLeDiff, Nat.reduceLT, Int.reduceAdd, Int.reduceToNat, Int.reduceLE, Int.reduceLT, Int.reduceNeg, reduceIte, postC, watchC, sll, e6, decide_false])
    | (intro _h)
    | (refine awp_block ?_)
    | (refine awp_scope ?_)
    | (refine go_split (fun _h => ?_) (fun _h => ?_) <;> simp (maxSteps := 4000000) only [go_sem, List.append_eq, List.cons_append, List.nil_append, Nat.reduceAdd, Nat.reduceMul, Nat.reduceSub, Nat.reduceLeDiff, Nat.reduceLT, Int.reduceAdd, Int.reduceToNat, Int.reduceLE, Int.reduceLT, Int.reduceNeg, reduceIte, postC, watchC, sll, e6, decide_false])
    | (show heapOK _ _ = true; kernel_rfl)
    | (show heapOK2 _ _ = true; kernel_rfl)
    | (omega)))
      subst ej
      (refine awp_frz 10 rfl (by simp (maxSteps := 4000000) only [go_sem, List.append_eq, List.cons_append, List.nil_append, Nat.reduceAdd, Nat.reduceMul, Nat.reduceSub, Nat.reduceLeDiff, Nat.reduceLT, Int.reduceAdd, Int.reduceToNat, Int.reduceLE, Int.reduceLT, Int.reduceNeg, reduceIte, postC, watchC, sll]) (fun _ => rfl) ?_; simp only [frz, fq_pure, fzB_c, fzB_m, fzB_d, fzB_l, fzO, fzH, fzHs, fzl, fz2, fz1, fz0, List.map_cons, List.map_nil, if_true, if_false, reduceIte, Nat.reduceEqDiff, Nat.reduceAdd, Nat.succ_ne_self, Nat.zero_ne_one, Nat.one_ne_zero, reduceCtorEq, and_self])
      (refine awp_frz 9 rfl (by simp (maxSteps := 4000000) only [go_sem, List.append_eq, List.cons_append, List.nil_append, Nat.reduceAdd, Nat.reduceMul, Nat.reduceSub, Nat.reduceLeDiff, Nat.reduceLT, Int.reduceAdd, Int.reduceToNat, Int.reduceLE, Int.reduceLT, Int.reduceNeg, reduceIte, postC, watchC, sll]) (fun _ => rfl) ?_; simp only [frz, fq_pure, fzB_c, fzB_m, fzB_d, fzB_l, fzO, fzH, fzHs, fzl, fz2, fz1, fz0, List.map_cons, List.map_nil, if_true, if_false, reduceIte, Nat.reduceEqDiff, Nat.reduceAdd, Nat.succ_ne_self, Nat.zero_ne_one, Nat.one_ne_zero, reduceCtorEq, and_self])
      (refine awp_frz 0 rfl (by simp (maxSteps := 4000000) only [go_sem, List.append_eq, List.cons_append, List.nil_append, Nat.reduceAdd, Nat.reduceMul, Nat.reduceSub, Nat.reduceLeDiff, Nat.reduceLT, Int.reduceAdd, Int.reduceToNat, Int.reduceLE, Int.reduceLT, Int.reduceNeg, reduceIte, postC, watchC, sll]) (fun _ => rfl) ?_; simp only [frz, fq_pure, fzB_c, fzB_m, fzB_d, fzB_l, fzO, fzH, fzHs, fzl, fz2, fz1, fz0, List.map_cons, List.map_nil, if_true, if_false, reduceIte, Nat.reduceEqDiff, Nat.reduceAdd, Nat.succ_ne_self, Nat.zero_ne_one, Nat.one_ne_zero, reduceCtorEq, and_self])
      have hG := gAt_ok (p := p) (reads := reads) (k + 1)
      refine AWP.le2 (s' := ⟨fiT, fiH p k v (gAt p reads (k + 1)) (k + 1) (pmC p reads (k + 1)) 0 .nils, []⟩) (by simp only [fiT, fiH, postC, watchC]; simp (maxSteps := 4000000) only [go_sem, List.append_eq, List.cons_append, List.nil_append, Nat.reduceAdd, Nat.reduceMul, Nat.reduceSub, Nat.reduceLeDiff, Nat.reduceLT, Int.reduceAdd, Int.reduceToNat, Int.reduceLE, Int.reduceLT, Int.reduceNeg, reduceIte, postC, watchC, sll]) ?_
      generalize hgg : gAt p reads (k + 1) = g at *
      refine awp_rangeZ (gf := 87) (first := []) (caps := [.ptr 12 0 0]) (by simp only [fiT]; simp (maxSteps := 4000000) only [go_sem, List.append_eq, List.cons_append, List.nil_append, Nat.reduceAdd, Nat.reduceMul, Nat.reduceSub, Nat.reduceLeDiff, Nat.reduceLT, Int.reduceAdd, Int.reduceToNat, Int.reduceLE, Int.reduceLT, Int.reduceNeg, reduceIte, postC, watchC, sll]) 13 rfl ?_
      intro ca cb hca hcb
      cases hpk : pickF g v (p.errs.length + 1) with
      | none =>
        have hno := pickF_none _ hpk
        refine ⟨.tup [], fiH p k v g (k + 1) (pmC p reads (k + 1)) 0 .nils ++ [some (.dfr true), some (.loop .ready none 0 fiT #[72, 73] ca cb 13)], .ready, none, .normal, ?_, ?_, by simp, rfl, ?_⟩
        · simp only [fiH, fiT, postC, watchC]
          simp (maxSteps := 4000000) only [go_sem, List.append_eq, List.cons_append, List.nil_append, Nat.reduceAdd, Nat.reduceMul, Nat.reduceSub, Nat.reduceLeDiff, Nat.reduceLT, Int.reduceAdd, Int.reduceToNat, Int.reduceLE, Int.reduceLT, Int.reduceNeg, reduceIte, postC, watchC, sll]
          (refine semF_of_awp (ys := []) (fun w args => Try.call87 ..) Try.func87 rfl (fun w0 m0 wz => ?_); simp only [Try.ntmps87, Try.results87, initT, junks, postC, watchC, sll, sl, List.toList_toArray, List.cons_append, List.nil_append, List.length_cons, List.length_nil, Nat.reduceAdd, Nat.reduceSub])
          (repeat' (first
    | (refine awp_seqK ?_)
    | (refine kt ?_)
    | (refine And.intro ?_ ?_)
    | ((first | refine awp_region ?_ | refine awp_draw (by kernel_rfl) (by kernel_rfl) ?_ | refine Imp.le2 ?_ | refine awp_label ?_ | refine awp_skip ?_ | refine awp_exit ?_ | refine awp_cd ?_ | refine awp_ret ?_); simp (maxSteps := 4000000) only [go_sem, List.append_eq, List.cons_append, List.nil_append, Nat.reduceAdd, Nat.reduceMul, Nat.reduceSub, Nat.reduceLeDiff, Nat.reduceLT, Int.reduceAdd, Int.reduceToNat, Int.reduceLE, Int.reduceLT, Int.reduceNeg, reduceIte, postC, watchC, sll])
    | (intro _h)
    | (refine awp_block ?_)
    | (refine awp_scope ?_)
    | (refine go_split (fun _h => ?_) (fun _h => ?_) <;> simp (maxSteps := 4000000) only [go_sem, List.append_eq, List.cons_append, List.nil_append, Nat.reduceAdd, Nat.reduceMul, Nat.reduceSub, Nat.reduceLeDiff, Nat.reduceLT, Int.reduceAdd, Int.reduceToNat, Int.reduceLE, Int.reduceLT, Int.reduceNeg, reduceIte, postC, watchC, sll])
    | (show heapOK _ _ = true; kernel_rfl)
    | (show heapOK2 _ _ = true; kernel_rfl)
    | (omega)))
          refine awp_loopN (p.errs.length + 1) (fun i => ⟨mkT 33 [(0, .fn (.yield 14) [] []), (1, .ptr 12 0 0), (3, .int .i64 ((i : Int) - 1))], fiH p k v g (k + 1) (pmC p reads (k + 1)) 0 .nils ++ [some (.dfr true), some (.loop .ready none 0 fiT #[72, 73] ca cb 13)], []⟩) (.le2 ?_) ?_
          · simp only [fiH, fiT, postC, watchC]; simp (maxSteps := 4000000) only [go_sem, List.append_eq, List.cons_append, List.nil_append, Nat.reduceAdd, Nat.reduceMul, Nat.reduceSub, Nat.reduceLeDiff, Nat.reduceLT, Int.reduceAdd, Int.reduceToNat, Int.reduceLE, Int.reduceLT, Int.reduceNeg, reduceIte, postC, watchC, sll]
            rfl
          · intro i hi
            have hgi := canon_get (n := p.errs.length) (g := g) (j := (i : Int) - 1) (by omega)
            cases hx : g ((i : Int) - 1) with
            | none =>
              simp only [fiH, fiT, postC, watchC]; simp (maxSteps := 4000000) only [go_sem, List.append_eq, List.cons_append, List.nil_append, Nat.reduceAdd, Nat.reduceMul, Nat.reduceSub, Nat.reduceLeDiff, Nat.reduceLT, Int.reduceAdd, Int.reduceToNat, Int.reduceLE, Int.reduceLT, Int.reduceNeg, reduceIte, postC, watchC, sll]
              (repeat' (first
    | ((rw [mget_none ((hgi (by omega)).trans hx)]; simp (maxSteps := 4000000) only [go_sem, List.append_eq, List.cons_append, List.nil_append, Nat.reduceAdd, Nat.reduceMul, Nat.reduceSub, Nat.reduceLeDiff, Nat.reduceLT, Int.reduceAdd, Int.reduceToNat, Int.reduceLE, Int.reduceLT, Int.reduceNeg, reduceIte, postC, watchC, sll]))
    | ((show zeroOK _ = true; rfl))
    | (refine awp_seqK ?_)
    | (refine kt ?_)
    | (refine And.intro ?_ ?_)
    | ((first | refine awp_region ?_ | refine awp_draw (by kernel_rfl) (by kernel_rfl) ?_ | refine Imp.le2 ?_ | refine awp_label ?_ | refine awp_skip ?_ | refine awp_exit ?_ | refine awp_cd ?_ | refine awp_ret ?_); simp (maxSteps := 4000000) only [go_sem, List.append_eq, List.cons_append, List.nil_append, Nat.reduceAdd, Nat.reduceMul, Nat.reduceSub, Nat.reduceLeDiff, Nat.reduceLT, Int.reduceAdd, Int.reduceToNat, Int.reduceLE, Int.reduceLT, Int.reduceNeg, reduceIte, postC, watchC, sll])
    | (intro _h)
    | (refine awp_block ?_)
    | (refine awp_scope ?_)
    | (refine go_split (fun _h => ?_) (fun _h => ?_) <;> simp (maxSteps := 4000000) only [go_sem, List.append_eq, List.cons_append, List.nil_append, Nat.reduceAdd, Nat.reduceMul, Nat.reduceSub, Nat.reduceLeDiff, Nat.reduceLT, Int.reduceAdd, Int.reduceToNat, Int.reduceLE, Int.reduceLT, Int.reduceNeg, reduceIte, postC, watchC, sll])
    | (show heapOK _ _ = true; kernel_rfl)
    | (show heapOK2 _ _ = true; kernel_rfl)
    | (omega)))
            | some x =>
              have hn1 : i < p.errs.length + 1 → (x.1 ≤ v ∧ v ≤ x.2) = False := fun h => eq_false (hno i h x hx)
              simp only [fiH, fiT, postC, watchC]; simp (maxSteps := 4000000) only [go_sem, List.append_eq, List.cons_append, List.nil_append, Nat.reduceAdd, Nat.reduceMul, Nat.reduceSub, Nat.reduceLeDiff, Nat.reduceLT, Int.reduceAdd, Int.reduceToNat, Int.reduceLE, Int.reduceLT, Int.reduceNeg, reduceIte, postC, watchC, sll]
              (repeat' (first
    | ((rw [mget_some ((hgi (by omega)).trans hx)]; simp (maxSteps := 4000000) only [go_sem, List.append_eq, List.cons_append, List.nil_append, Nat.reduceAdd, Nat.reduceMul, Nat.reduceSub, Nat.reduceLeDiff, Nat.reduceLT, Int.reduceAdd, Int.reduceToNat, Int.reduceLE, Int.reduceLT, Int.reduceNeg, reduceIte, postC, watchC, sll]))
    | ((show zeroOK _ = true; rfl))
    | ((refine awp_ownN 5 rfl ?_; simp (maxSteps := 4000000) only [go_sem, List.append_eq, List.cons_append, List.nil_append, Nat.reduceAdd, Nat.reduceMul, Nat.reduceSub, Nat.reduceLeDiff, Nat.reduceLT, Int.reduceAdd, Int.reduceToNat, Int.reduceLE, Int.reduceLT, Int.reduceNeg, reduceIte, postC, watchC, sll, List.take_succ_cons, List.take_zero]; refine callH_yield true (fiH p k v g (k + 1) (pmC p reads (k + 1)) 0 .nils ++ [some (.dfr true), some (.loop .ready none 0 fiT #[72, 73] ca cb 13), some (.cells 122 1 0 [.int .i64 x.1, .int .i64 x.2])]) ?_ ?_ <;> simp only [fiH, fiT, postC, watchC] <;> (try simp (maxSteps := 4000000) only [go_sem, List.append_eq, List.cons_append, List.nil_append, Nat.reduceAdd, Nat.reduceMul, Nat.reduceSub, Nat.reduceLeDiff, Nat.reduceLT, Int.reduceAdd, Int.reduceToNat, Int.reduceLE, Int.reduceLT, Int.reduceNeg, reduceIte, postC, watchC, sll])))
    | (refine awp_seqK ?_)
    | (refine kt ?_)
    | (refine And.intro ?_ ?_)
    | ((first | refine awp_region ?_ | refine awp_draw (by kernel_rfl) (by kernel_rfl) ?_ | refine Imp.le2 ?_ | refine awp_label ?_ | refine awp_skip ?_ | refine awp_exit ?_ | refine awp_cd ?_ | refine awp_ret ?_); simp (maxSteps := 4000000) only [go_sem, List.append_eq, List.cons_append, List.nil_append, Nat.reduceAdd, Nat.reduceMul, Nat.reduceSub, Nat.reduceLeDiff, Nat.reduceLT, Int.reduceAdd, Int.reduceToNat, Int.reduceLE, Int.reduceLT, Int.reduceNeg, reduceIte, postC, watchC, sll])
    | (intro _h)
    | (refine awp_block ?_)
    | (refine awp_scope ?_)
    | (refine go_split (fun _h => ?_) (fun _h => ?_) <;> simp (maxSteps := 4000000) only [go_sem, List.append_eq, List.cons_append, List.nil_append, Nat.reduceAdd, Nat.reduceMul, Nat.reduceSub, Nat.reduceLeDiff, Nat.reduceLT, Int.reduceAdd, Int.reduceToNat, Int.reduceLE, Int.reduceLT, Int.reduceNeg, reduceIte, postC, watchC, sll])
    | (show heapOK _ _ = true; kernel_rfl)
    | (show heapOK2 _ _ = true; kernel_rfl)
    | (omega)))
              · have hn2 := hn1 (by omega)
                refine semY_of_awpZ rfl rfl ?_
                intro B w0 l m w
                refine awp_code hca ?_
                (repeat' (first
    | (refine awp_seqK ?_)
    | (refine kt ?_)
    | (refine And.intro ?_ ?_)
    | ((first | refine awp_region ?_ | refine awp_draw (by kernel_rfl) (by kernel_rfl) ?_ | refine Imp.le2 ?_ | refine awp_label ?_ | refine awp_skip ?_ | refine awp_exit ?_ | refine awp_cd ?_ | refine awp_ret ?_); simp (maxSteps := 4000000) only [go_sem, List.append_eq, List.cons_append, List.nil_append, Nat.reduceAdd, Nat.reduceMul, Nat.reduceSub, Nat.reduceLeDiff, Nat.reduceLT, Int.reduceAdd, Int.reduceToNat, Int.reduceLE, Int.reduceLT, Int.reduceNeg, reduceIte, postC, watchC, sll])
    | (intro _h)
    | (refine awp_block ?_)
    | (refine awp_scope ?_)
    | (refine go_split (fun _h => ?_) (fun _h => ?_) <;> simp (maxSteps := 4000000) only [go_sem, List.append_eq, List.cons_append, List.nil_append, Nat.reduceAdd, Nat.reduceMul, Nat.reduceSub, Nat.reduceLeDiff, Nat.reduceLT, Int.reduceAdd, Int.reduceToNat, Int.reduceLE, Int.reduceLT, Int.reduceNeg, reduceIte, postC, watchC, sll])
    | (show heapOK _ _ = true; kernel_rfl)
    | (show heapOK2 _ _ = true; kernel_rfl)
    | (omega)))
                refine awp_code hcb ?_
                (repeat' (first
    | (refine awp_seqK ?_)
    | (refine kt ?_)
    | (refine And.intro ?_ ?_)
    | ((first | refine awp_region ?_ | refine awp_draw (by kernel_rfl) (by kernel_rfl) ?_ | refine Imp.le2 ?_ | refine awp_label ?_ | refine awp_skip ?_ | refine awp_exit ?_ | refine awp_cd ?_ | refine awp_ret ?_); simp (maxSteps := 4000000) only [go_sem, List.append_eq, List.cons_append, List.nil_append, Nat.reduceAdd, Nat.reduceMul, Nat.reduceSub, Nat.reduceLeDiff, Nat.reduceLT, Int.reduceAdd, Int.reduceToNat, Int.reduceLE, Int.reduceLT, Int.reduceNeg, reduceIte, postC, watchC, sll, hn2, decide_false])
    | (intro _h)
    | (refine awp_block ?_)
    | (refine awp_scope ?_)
    | ((first | refine callK_of (within_c _ _ _) ?_); try simp (maxSteps := 4000000) only [go_sem, List.append_eq, List.cons_append, List.nil_append, Nat.reduceAdd, Nat.reduceMul, Nat.reduceSub, Nat.reduceLeDiff, Nat.reduceLT, Int.reduceAdd, Int.reduceToNat, Int.reduceLE, Int.reduceLT, Int.reduceNeg, reduceIte, postC, watchC, sll, hn2, decide_false])
    | (refine go_split (fun _h => ?_) (fun _h => ?_) <;> simp (maxSteps := 4000000) only [go_sem, List.append_eq, List.cons_append, List.nil_append, Nat.reduceAdd, Nat.reduceMul, Nat.reduceSub, Nat.reduceLeDiff, Nat.reduceLT, Int.reduceAdd, Int.reduceToNat, Int.reduceLE, Int.reduceLT, Int.reduceNeg, reduceIte, postC, watchC, sll, hn2, decide_false])
    | (show heapOK _ _ = true; kernel_rfl)
    | (show heapOK2 _ _ = true; kernel_rfl)
    | (omega)))
        · rfl
        · simp only [fiH, fiT, postC, watchC]
          simp (maxSteps := 4000000) only [go_sem, List.append_eq, List.cons_append, List.nil_append, Nat.reduceAdd, Nat.reduceMul, Nat.reduceSub, Nat.reduceLeDiff, Nat.reduceLT, Int.reduceAdd, Int.reduceToNat, Int.reduceLE, Int.reduceLT, Int.reduceNeg, reduceIte, postC, watchC, sll]
          (repeat' (first
    | (refine awp_seqK ?_)
    | (refine kt ?_)
    | (refine And.intro ?_ ?_)
    | ((first | refine awp_region ?_ | refine awp_draw (by kernel_rfl) (by kernel_rfl) ?_ | refine Imp.le2 ?_ | refine awp_label ?_ | refine awp_skip ?_ | refine awp_exit ?_ | refine awp_cd ?_ | refine awp_ret ?_); simp (maxSteps := 4000000) only [go_sem, List.append_eq, List.cons_append, List.nil_append, Nat.reduceAdd, Nat.reduceMul, Nat.reduceSub, Nat.reduceLeDiff, Nat.reduceLT, Int.reduceAdd, Int.reduceToNat, Int.reduceLE, Int.reduceLT, Int.reduceNeg, reduceIte, postC, watchC, sll])
    | (intro _h)
    | (refine awp_block ?_)
    | (refine awp_scope ?_)
    | (refine go_split (fun _h => ?_) (fun _h => ?_) <;> simp (maxSteps := 4000000) only [go_sem, List.append_eq, List.cons_append, List.nil_append, Nat.reduceAdd, Nat.reduceMul, Nat.reduceSub, Nat.reduceLeDiff, Nat.reduceLT, Int.reduceAdd, Int.reduceToNat, Int.reduceLE, Int.reduceLT, Int.reduceNeg, reduceIte, postC, watchC, sll])
    | (show heapOK _ _ = true; kernel_rfl)
    | (show heapOK2 _ _ = true; kernel_rfl)
    | (omega)))
      | some f =>
        obtain ⟨i0, hi0, rfl, ⟨x0, hx0, hin⟩, hbef⟩ := pickF_some _ hpk
        have hbk : ∃ (b4 : AV) (tl : List (Option ABlk)), (k = 0 ∧ b4 = .psl true 1 [.int .i64 v] ∧ tl = [] ∧ backL (gAt p reads) p.gain ((i0 : Int) - 1) k v = [v] ∧ SemF Try.prog 74 [.int .i64 ((i0 : Int) - 1), .int .i64 k, .int .i64 v, .pptr [.psl false (k + 1) (pmC p reads (k + 1))] 0, .ptr 0 0 0, .pptr (postC p) 0] (backH p reads (k + 1)) (.psl true 1 [.int .i64 v]) (backH p reads (k + 1))) ∨
            (∃ q, k = q + 1 ∧ b4 = .osl 17 q 0 (q + 2) ∧ tl = [none, none, some (.cells 3 1 q (ints (backL (gAt p reads) p.gain ((i0 : Int) - 1) k v)))] ∧ SemF Try.prog 74 [.int .i64 ((i0 : Int) - 1), .int .i64 k, .int .i64 v, .pptr [.psl false (k + 1) (pmC p reads (k + 1))] 0, .ptr 0 0 0, .pptr (postC p) 0] (backH p reads (k + 1)) (.osl 1 q 0 (q + 2)) (backH p reads (k + 1) ++ [some (.cells 3 1 q (ints (backL (gAt p reads) p.gain ((i0 : Int) - 1) k v)))])) := by
          have h := back_c p reads (k + 1) ((i0 : Int) - 1) hp (by omega) (by omega) k v (by omega) hv
          cases k with
          | zero => exact ⟨_, _, .inl ⟨rfl, rfl, rfl, rfl, h⟩⟩
          | succ q => exact ⟨_, _, .inr ⟨q, rfl, rfl, rfl, h⟩⟩
        have hlen := backL_length (g := gAt p reads) (gain := p.gain) (f := (i0 : Int) - 1) k v
        generalize hLd : backL (gAt p reads) p.gain ((i0 : Int) - 1) k v = L at hbk hlen
        obtain ⟨b4, tl, hbk⟩ := hbk
        have hin' : (x0.1 ≤ v ∧ v ≤ x0.2) = True := eq_true hin
        rcases hbk with ⟨hk0, rfl, rfl, hL, hbk⟩ | ⟨q, hq, rfl, rfl, hbk⟩
        · simp only [backH, postC, sl] at hbk
          refine ⟨.tup [], fiH p k v g (k + 1) (pmC p reads (k + 1)) ((i0 : Int) - 1) (.psl true 1 [.int .i64 v]) ++ [some (.dfr true), some (.loop .done (some .ret) 0 fiT #[72, 73] ca cb 13)], .done, some .ret, .ret, ?_, ?_, by simp, rfl, ?_⟩
          · simp only [fiH, fiT, postC, watchC]
            simp (maxSteps := 4000000) only [go_sem, List.append_eq, List.cons_append, List.nil_append, Nat.reduceAdd, Nat.reduceMul, Nat.reduceSub, Nat.reduceLeDiff, Nat.reduceLT, Int.reduceAdd, Int.reduceToNat, Int.reduceLE, Int.reduceLT, Int.reduceNeg, reduceIte, postC, watchC, sll]
            (refine semF_of_awp (ys := []) (fun w args => Try.call87 ..) Try.func87 rfl (fun w0 m0 wz => ?_); simp only [Try.ntmps87, Try.results87, initT, junks, postC, watchC, sll, sl, List.toList_toArray, List.cons_append, List.nil_append, List.length_cons, List.length_nil, Nat.reduceAdd, Nat.reduceSub])
            (repeat' (first
    | (refine awp_seqK ?_)
    | (refine kt ?_)
    | (refine And.intro ?_ ?_)
    | ((first | refine awp_region ?_ | refine awp_draw (by kernel_rfl) (by kernel_rfl) ?_ | refine Imp.le2 ?_ | refine awp_label ?_ | refine awp_skip ?_ | refine awp_exit ?_ | refine awp_cd ?_ | refine awp_ret ?_); simp (maxSteps := 4000000) only [go_sem, List.append_eq, List.cons_append, List.nil_append, Nat.reduceAdd, Nat.reduceMul, Nat.reduceSub, Nat.reduceLeDiff, Nat.reduceLT, Int.reduceAdd, Int.reduceToNat, Int.reduceLE, Int.reduceLT, Int.reduceNeg, reduceIte, postC, watchC, sll])
    | (intro _h)
    | (refine awp_block ?_)
    | (refine awp_scope ?_)
    | (refine go_split (fun _h => ?_) (fun _h => ?_) <;> simp (maxSteps := 4000000) only [go_sem, List.append_eq, List.cons_append, List.nil_append, Nat.reduceAdd, Nat.reduceMul, Nat.reduceSub, Nat.reduceLeDiff, Nat.reduceLT, Int.reduceAdd, Int.reduceToNat, Int.reduceLE, Int.reduceLT, Int.reduceNeg, reduceIte, postC, watchC, sll])
    | (show heapOK _ _ = true; kernel_rfl)
    | (show heapOK2 _ _ = true; kernel_rfl)
    | (omega)))
            refine awp_loopN i0 (fun i => ⟨mkT 33 [(0, .fn (.yield 14) [] []), (1, .ptr 12 0 0), (3, .int .i64 ((i : Int) - 1))], fiH p k v g (k + 1) (pmC p reads (k + 1)) 0 .nils ++ [some (.dfr true), some (.loop .ready none 0 fiT #[72, 73] ca cb 13)], []⟩) (.le2 ?_) ?_
            · simp only [fiH, fiT, postC, watchC]; simp (maxSteps := 4000000) only [go_sem, List.append_eq, List.cons_append, List.nil_append, Nat.reduceAdd, Nat.reduceMul, Nat.reduceSub, Nat.reduceLeDiff, Nat.reduceLT, Int.reduceAdd, Int.reduceToNat, Int.reduceLE, Int.reduceLT, Int.reduceNeg, reduceIte, postC, watchC, sll]
              rfl
            · intro i hi
              have hgi := canon_get (n := p.errs.length) (g := g) (j := (i : Int) - 1) (by omega)
              rcases Nat.lt_or_eq_of_le hi with hi1 | hi1
              · cases hx : g ((i : Int) - 1) with
                | none =>
                  simp only [fiH, fiT, postC, watchC]; simp (maxSteps := 4000000) only [go_sem, List.append_eq, List.cons_append, List.nil_append, Nat.reduceAdd, Nat.reduceMul, Nat.reduceSub, Nat.reduceLeDiff, Nat.reduceLT, Int.reduceAdd, Int.reduceToNat, Int.reduceLE, Int.reduceLT, Int.reduceNeg, reduceIte, postC, watchC, sll]
                  (repeat' (first
    | ((rw [mget_none ((hgi (by omega)).trans hx)]; simp (maxSteps := 4000000) only [go_sem, List.append_eq, List.cons_append, List.nil_append, Nat.reduceAdd, Nat.reduceMul, Nat.reduceSub, Nat.reduceLeDiff, Nat.reduceLT, Int.reduceAdd, Int.reduceToNat, Int.reduceLE, Int.reduceLT, Int.reduceNeg, reduceIte, postC, watchC, sll]))
    | ((show zeroOK _ = true; rfl))
    | (refine awp_seqK ?_)
    | (refine kt ?_)
    | (refine And.intro ?_ ?_)
    | ((first | refine awp_region ?_ | refine awp_draw (by kernel_rfl) (by kernel_rfl) ?_ | refine Imp.le2 ?_ | refine awp_label ?_ | refine awp_skip ?_ | refine awp_exit ?_ | refine awp_cd ?_ | refine awp_ret ?_); simp (maxSteps := 4000000) only [go_sem, List.append_eq, List.cons_append, List.nil_append, Nat.reduceAdd, Nat.reduceMul, Nat.reduceSub, Nat.reduceLeDiff, Nat.reduceLT, Int.reduceAdd, Int.reduceToNat, Int.reduceLE, Int.reduceLT, Int.reduceNeg, reduceIte, postC, watchC, sll])
    | (intro _h)
    | (refine awp_block ?_)
    | (refine awp_scope ?_)
    | (refine go_split (fun _h => ?_) (fun _h => ?_) <;> simp (maxSteps := 4000000) only [go_sem, List.append_eq, List.cons_append, List.nil_append, Nat.reduceAdd, Nat.reduceMul, Nat.reduceSub, Nat.reduceLeDiff, Nat.reduceLT, Int.reduceAdd, Int.reduceToNat, Int.reduceLE, Int.reduceLT, Int.reduceNeg, reduceIte, postC, watchC, sll])
    | (show heapOK _ _ = true; kernel_rfl)
    | (show heapOK2 _ _ = true; kernel_rfl)
    | (omega)))
                | some x =>
                  have hn2 : (x.1 ≤ v ∧ v ≤ x.2) = False := eq_false (hbef i hi1 x hx)
                  simp only [fiH, fiT, postC, watchC]; simp (maxSteps := 4000000) only [go_sem, List.append_eq, List.cons_append, List.nil_append, Nat.reduceAdd, Nat.reduceMul, Nat.reduceSub, Nat.reduceLeDiff, Nat.reduceLT, Int.reduceAdd, Int.reduceToNat, Int.reduceLE, Int.reduceLT, Int.reduceNeg, reduceIte, postC, watchC, sll]
                  (repeat' (first
    | ((rw [mget_some ((hgi (by omega)).trans hx)]; simp (maxSteps := 4000000) only [go_sem, List.append_eq, List.cons_append, List.nil_append, Nat.reduceAdd, Nat.reduceMul, Nat.reduceSub, Nat.reduceLeDiff, Nat.reduceLT, Int.reduceAdd, Int.reduceToNat, Int.reduceLE, Int.reduceLT, Int.reduceNeg, reduceIte, postC, watchC, sll]))
    | ((show zeroOK _ = true; rfl))
    | ((refine awp_ownN 5 rfl ?_; simp (maxSteps := 4000000) only [go_sem, List.append_eq, List.cons_append, List.nil_append, Nat.reduceAdd, Nat.reduceMul, Nat.reduceSub, Nat.reduceLeDiff, Nat.reduceLT, Int.reduceAdd, Int.reduceToNat, Int.reduceLE, Int.reduceLT, Int.reduceNeg, reduceIte, postC, watchC, sll, List.take_succ_cons, List.take_zero]; refine callH_yield true (fiH p k v g (k + 1) (pmC p reads (k + 1)) 0 .nils ++ [some (.dfr true), some (.loop .ready none 0 fiT #[72, 73] ca cb 13), some (.cells 122 1 0 [.int .i64 x.1, .int .i64 x.2])]) ?_ ?_ <;> simp only [fiH, fiT, postC, watchC] <;> (try simp (maxSteps := 4000000) only [go_sem, List.append_eq, List.cons_append, List.nil_append, Nat.reduceAdd, Nat.reduceMul, Nat.reduceSub, Nat.reduceLeDiff, Nat.reduceLT, Int.reduceAdd, Int.reduceToNat, Int.reduceLE, Int.reduceLT, Int.reduceNeg, reduceIte, postC, watchC, sll])))
    | (refine awp_seqK ?_)
    | (refine kt ?_)
    | (refine And.intro ?_ ?_)
    | ((first | refine awp_region ?_ | refine awp_draw (by kernel_rfl) (by kernel_rfl) ?_ | refine Imp.le2 ?_ | refine awp_label ?_ | refine awp_skip ?_ | refine awp_exit ?_ | refine awp_cd ?_ | refine awp_ret ?_); simp (maxSteps := 4000000) only [go_sem, List.append_eq, List.cons_append, List.nil_append, Nat.reduceAdd, Nat.reduceMul, Nat.reduceSub, Nat.reduceLeDiff, Nat.reduceLT, Int.reduceAdd, Int.reduceToNat, Int.reduceLE, Int.reduceLT, Int.reduceNeg, reduceIte, postC, watchC, sll])
    | (intro _h)
    | (refine awp_block ?_)
    | (refine awp_scope ?_)
    | (refine go_split (fun _h => ?_) (fun _h => ?_) <;> simp (maxSteps := 4000000) only [go_sem, List.append_eq, List.cons_append, List.nil_append, Nat.reduceAdd, Nat.reduceMul, Nat.reduceSub, Nat.reduceLeDiff, Nat.reduceLT, Int.reduceAdd, Int.reduceToNat, Int.reduceLE, Int.reduceLT, Int.reduceNeg, reduceIte, postC, watchC, sll])
    | (show heapOK _ _ = true; kernel_rfl)
    | (show heapOK2 _ _ = true; kernel_rfl)
    | (omega)))
                  · refine semY_of_awpZ rfl rfl ?_
                    intro B w0 l m w
                    refine awp_code hca ?_
                    (repeat' (first
    | (refine awp_seqK ?_)
    | (refine kt ?_)
    | (refine And.intro ?_ ?_)
    | ((first | refine awp_region ?_ | refine awp_draw (by kernel_rfl) (by kernel_rfl) ?_ | refine Imp.le2 ?_ | refine awp_label ?_ | refine awp_skip ?_ | refine awp_exit ?_ | refine awp_cd ?_ | refine awp_ret ?_); simp (maxSteps := 4000000) only [go_sem, List.append_eq, List.cons_append, List.nil_append, Nat.reduceAdd, Nat.reduceMul, Nat.reduceSub, Nat.reduceLeDiff, Nat.reduceLT, Int.reduceAdd, Int.reduceToNat, Int.reduceLE, Int.reduceLT, Int.reduceNeg, reduceIte, postC, watchC, sll])
    | (intro _h)
    | (refine awp_block ?_)
    | (refine awp_scope ?_)
    | (refine go_split (fun _h => ?_) (fun _h => ?_) <;> simp (maxSteps := 4000000) only [go_sem, List.append_eq, List.cons_append, List.nil_append, Nat.reduceAdd, Nat.reduceMul, Nat.reduceSub, Nat.reduceLeDiff, Nat.reduceLT, Int.reduceAdd, Int.reduceToNat, Int.reduceLE, Int.reduceLT, Int.reduceNeg, reduceIte, postC, watchC, sll])
    | (show heapOK _ _ = true; kernel_rfl)
    | (show heapOK2 _ _ = true; kernel_rfl)
    | (omega)))
                    refine awp_code hcb ?_
                    (repeat' (first
    | (refine awp_seqK ?_)
    | (refine kt ?_)
    | (refine And.intro ?_ ?_)
    | ((first | refine awp_region ?_ | refine awp_draw (by kernel_rfl) (by kernel_rfl) ?_ | refine Imp.le2 ?_ | refine awp_label ?_ | refine awp_skip ?_ | refine awp_exit ?_ | refine awp_cd ?_ | refine awp_ret ?_); simp (maxSteps := 4000000) only [go_sem, List.append_eq, List.cons_append, List.nil_append, Nat.reduceAdd, Nat.reduceMul, Nat.reduceSub, Nat.reduceLeDiff, Nat.reduceLT, Int.reduceAdd, Int.reduceToNat, Int.reduceLE, Int.reduceLT, Int.reduceNeg, reduceIte, postC, watchC, sll, hn2, decide_false])
    | (intro _h)
    | (refine awp_block ?_)
    | (refine awp_scope ?_)
    | ((first | refine callK_of (within_c _ _ _) ?_); try simp (maxSteps := 4000000) only [go_sem, List.append_eq, List.cons_append, List.nil_append, Nat.reduceAdd, Nat.reduceMul, Nat.reduceSub, Nat.reduceLeDiff, Nat.reduceLT, Int.reduceAdd, Int.reduceToNat, Int.reduceLE, Int.reduceLT, Int.reduceNeg, reduceIte, postC, watchC, sll, hn2, decide_false])
    | (refine go_split (fun _h => ?_) (fun _h => ?_) <;> simp (maxSteps := 4000000) only [go_sem, List.append_eq, List.cons_append, List.nil_append, Nat.reduceAdd, Nat.reduceMul, Nat.reduceSub, Nat.reduceLeDiff, Nat.reduceLT, Int.reduceAdd, Int.reduceToNat, Int.reduceLE, Int.reduceLT, Int.reduceNeg, reduceIte, postC, watchC, sll, hn2, decide_false])
    | (show heapOK _ _ = true; kernel_rfl)
    | (show heapOK2 _ _ = true; kernel_rfl)
    | (omega)))
              · subst hi1
                simp only [fiH, fiT, postC, watchC]; simp (maxSteps := 4000000) only [go_sem, List.append_eq, List.cons_append, List.nil_append, Nat.reduceAdd, Nat.reduceMul, Nat.reduceSub, Nat.reduceLeDiff, Nat.reduceLT, Int.reduceAdd, Int.reduceToNat, Int.reduceLE, Int.reduceLT, Int.reduceNeg, reduceIte, postC, watchC, sll]
                (repeat' (first
    | ((rw [mget_some ((hgi (by omega)).trans hx0)]; simp (maxSteps := 4000000) only [go_sem, List.append_eq, List.cons_append, List.nil_append, Nat.reduceAdd, Nat.reduceMul, Nat.reduceSub, Nat.reduceLeDiff, Nat.reduceLT, Int.reduceAdd, Int.reduceToNat, Int.reduceLE, Int.reduceLT, Int.reduceNeg, reduceIte, postC, watchC, sll]))
    | ((show zeroOK _ = true; rfl))
    | ((refine awp_ownN 5 rfl ?_; simp (maxSteps := 4000000) only [go_sem, List.append_eq, List.cons_append, List.nil_append, Nat.reduceAdd, Nat.reduceMul, Nat.reduceSub, Nat.reduceLeDiff, Nat.reduceLT, Int.reduceAdd, Int.reduceToNat, Int.reduceLE, Int.reduceLT, Int.reduceNeg, reduceIte, postC, watchC, sll, List.take_succ_cons, List.take_zero]; refine callH_yield false (fiH p k v g (k + 1) (pmC p reads (k + 1)) ((i : Int) - 1) (.psl true 1 [.int .i64 v]) ++ [some (.dfr true), some (.loop .done (some .ret) 0 fiT #[72, 73] ca cb 13), some (.cells 122 1 0 [.int .i64 x0.1, .int .i64 x0.2])]) ?_ ?_ <;> simp only [fiH, fiT, postC, watchC] <;> (try simp (maxSteps := 4000000) only [go_sem, List.append_eq, List.cons_append, List.nil_append, Nat.reduceAdd, Nat.reduceMul, Nat.reduceSub, Nat.reduceLeDiff, Nat.reduceLT, Int.reduceAdd, Int.reduceToNat, Int.reduceLE, Int.reduceLT, Int.reduceNeg, reduceIte, postC, watchC, sll])))
    | (refine awp_seqK ?_)
    | (refine kt ?_)
    | (refine And.intro ?_ ?_)
    | ((first | refine awp_region ?_ | refine awp_draw (by kernel_rfl) (by kernel_rfl) ?_ | refine Imp.le2 ?_ | refine awp_label ?_ | refine awp_skip ?_ | refine awp_exit ?_ | refine awp_cd ?_ | refine awp_ret ?_); simp (maxSteps := 4000000) only [go_sem, List.append_eq, List.cons_append, List.nil_append, Nat.reduceAdd, Nat.reduceMul, Nat.reduceSub, Nat.reduceLeDiff, Nat.reduceLT, Int.reduceAdd, Int.reduceToNat, Int.reduceLE, Int.reduceLT, Int.reduceNeg, reduceIte, postC, watchC, sll])
    | (intro _h)
    | (refine awp_block ?_)
    | (refine awp_scope ?_)
    | (refine go_split (fun _h => ?_) (fun _h => ?_) <;> simp (maxSteps := 4000000) only [go_sem, List.append_eq, List.cons_append, List.nil_append, Nat.reduceAdd, Nat.reduceMul, Nat.reduceSub, Nat.reduceLeDiff, Nat.reduceLT, Int.reduceAdd, Int.reduceToNat, Int.reduceLE, Int.reduceLT, Int.reduceNeg, reduceIte, postC, watchC, sll])
    | (show heapOK _ _ = true; kernel_rfl)
    | (show heapOK2 _ _ = true; kernel_rfl)
    | (omega)))
                · refine semY_of_awpZ rfl rfl ?_
                  intro B w0 l m w
                  refine awp_code hca ?_
                  (repeat' (first
    | (refine awp_seqK ?_)
    | (refine kt ?_)
    | (refine And.intro ?_ ?_)
    | ((first | refine awp_region ?_ | refine awp_draw (by kernel_rfl) (by kernel_rfl) ?_ | refine Imp.le2 ?_ | refine awp_label ?_ | refine awp_skip ?_ | refine awp_exit ?_ | refine awp_cd ?_ | refine awp_ret ?_); simp (maxSteps := 4000000) only [go_sem, List.append_eq, List.cons_append, List.nil_append, Nat.reduceAdd, Nat.reduceMul, Nat.reduceSub, Nat.reduceLeDiff, Nat.reduceLT, Int.reduceAdd, Int.reduceToNat, Int.reduceLE, Int.reduceLT, Int.reduceNeg, reduceIte, postC, watchC, sll])
    | (intro _h)
    | (refine awp_block ?_)
    | (refine awp_scope ?_)
    | (refine go_split (fun _h => ?_) (fun _h => ?_) <;> simp (maxSteps := 4000000) only [go_sem, List.append_eq, List.cons_append, List.nil_append, Nat.reduceAdd, Nat.reduceMul, Nat.reduceSub, Nat.reduceLeDiff, Nat.reduceLT, Int.reduceAdd, Int.reduceToNat, Int.reduceLE, Int.reduceLT, Int.reduceNeg, reduceIte, postC, watchC, sll])
    | (show heapOK _ _ = true; kernel_rfl)
    | (show heapOK2 _ _ = true; kernel_rfl)
    | (omega)))
                  refine awp_code hcb ?_
                  (repeat' (first
    | (refine awp_ownN 5 rfl ?_; simp (maxSteps := 4000000) only [go_sem, List.append_eq, List.cons_append, List.nil_append, Nat.reduceAdd, Nat.reduceMul, Nat.reduceSub, Nat.reduceLeDiff, Nat.reduceLT, Int.reduceAdd, Int.reduceToNat, Int.reduceLE, Int.reduceLT, Int.reduceNeg, reduceIte, postC, watchC, sll, List.take_succ_cons, List.take_zero, hin', decide_true]; refine own_go (hbk) [11] rfl (by simp (maxSteps := 4000000) only [go_sem, List.append_eq, List.cons_append, List.nil_append, Nat.reduceAdd, Nat.reduceMul, Nat.reduceSub, Nat.reduceLeDiff, Nat.reduceLT, Int.reduceAdd, Int.reduceToNat, Int.reduceLE, Int.reduceLT, Int.reduceNeg, reduceIte, postC, watchC, sll, hin', decide_true]) (by simp (maxSteps := 4000000) only [go_sem, List.append_eq, List.cons_append, List.nil_append, Nat.reduceAdd, Nat.reduceMul, Nat.reduceSub, Nat.reduceLeDiff, Nat.reduceLT, Int.reduceAdd, Int.reduceToNat, Int.reduceLE, Int.reduceLT, Int.reduceNeg, reduceIte, postC, watchC, sll, Nat.lt_irrefl, hin', decide_true] <;> decide) rfl ?_; simp (maxSteps := 4000000) only [go_sem, List.append_eq, List.cons_append, List.nil_append, Nat.reduceAdd, Nat.reduceMul, Nat.reduceSub, Nat.reduceLeDiff, Nat.reduceLT, Int.reduceAdd, Int.reduceToNat, Int.reduceLE, Int.reduceLT, Int.reduceNeg, reduceIte, postC, watchC, sll, hin', decide_true])
    | (refine awp_seqK ?_)
    | (refine kt ?_)
    | (refine And.intro ?_ ?_)
    | ((first | refine awp_region ?_ | refine awp_draw (by kernel_rfl) (by kernel_rfl) ?_ | refine Imp.le2 ?_ | refine awp_label ?_ | refine awp_skip ?_ | refine awp_exit ?_ | refine awp_cd ?_ | refine awp_ret ?_); simp (maxSteps := 4000000) only [go_sem, List.append_eq, List.cons_append, List.nil_append, Nat.reduceAdd, Nat.reduceMul, Nat.reduceSub, Nat.reduceLeDiff, Nat.reduceLT, Int.reduceAdd, Int.reduceToNat, Int.reduceLE, Int.reduceLT, Int.reduceNeg, reduceIte, postC, watchC, sll, hin', decide_true])
    | (intro _h)
    | (refine awp_block ?_)
    | (refine awp_scope ?_)
    | ((first | refine callK_of (within_c _ _ _) ?_); try simp (maxSteps := 4000000) only [go_sem, List.append_eq, List.cons_append, List.nil_append, Nat.reduceAdd, Nat.reduceMul, Nat.reduceSub, Nat.reduceLeDiff, Nat.reduceLT, Int.reduceAdd, Int.reduceToNat, Int.reduceLE, Int.reduceLT, Int.reduceNeg, reduceIte, postC, watchC, sll, hin', decide_true])
    | (refine go_split (fun _h => ?_) (fun _h => ?_) <;> simp (maxSteps := 4000000) only [go_sem, List.append_eq, List.cons_append, List.nil_append, Nat.reduceAdd, Nat.reduceMul, Nat.reduceSub, Nat.reduceLeDiff, Nat.reduceLT, Int.reduceAdd, Int.reduceToNat, Int.reduceLE, Int.reduceLT, Int.reduceNeg, reduceIte, postC, watchC, sll, hin', decide_true])
    | (show heapOK _ _ = true; kernel_rfl)
    | (show heapOK2 _ _ = true; kernel_rfl)
    | (omega)))
          · rfl
          · simp only [fiH, fiT, postC, watchC]
            simp (maxSteps := 4000000) only [go_sem, List.append_eq, List.cons_append, List.nil_append, Nat.reduceAdd, Nat.reduceMul, Nat.reduceSub, Nat.reduceLeDiff, Nat.reduceLT, Int.reduceAdd, Int.reduceToNat, Int.reduceLE, Int.reduceLT, Int.reduceNeg, reduceIte, postC, watchC, sll]
            rw [hLd]
            first
              | (subst hL; exact ⟨rfl, rfl⟩)
              | (exact ⟨by omega, rfl⟩)
        · simp only [backH, postC, sl] at hbk
          refine ⟨.tup [], fiH p k v g (k + 1) (pmC p reads (k + 1)) ((i0 : Int) - 1) (.osl 17 q 0 (q + 2)) ++ [some (.dfr true), some (.loop .done (some .ret) 0 fiT #[72, 73] ca cb 13), none, none, some (.cells 3 1 q (ints L))], .done, some .ret, .ret, ?_, ?_, by simp, rfl, ?_⟩
          · simp only [fiH, fiT, postC, watchC]
            simp (maxSteps := 4000000) only [go_sem, List.append_eq, List.cons_append, List.nil_append, Nat.reduceAdd, Nat.reduceMul, Nat.reduceSub, Nat.reduceLeDiff, Nat.reduceLT, Int.reduceAdd, Int.reduceToNat, Int.reduceLE, Int.reduceLT, Int.reduceNeg, reduceIte, postC, watchC, sll]
            (refine semF_of_awp (ys := []) (fun w args => Try.call87 ..) Try.func87 rfl (fun w0 m0 wz => ?_); simp only [Try.ntmps87, Try.results87, initT, junks, postC, watchC, sll, sl, List.toList_toArray, List.cons_append, List.nil_append, List.length_cons, List.length_nil, Nat.reduceAdd, Nat.reduceSub])
            (repeat' (first
    | (refine awp_seqK ?_)
    | (refine kt ?_)
    | (refine And.intro ?_ ?_)
    | ((first | refine awp_region ?_ | refine awp_draw (by kernel_rfl) (by kernel_rfl) ?_ | refine Imp.le2 ?_ | refine awp_label ?_ | refine awp_skip ?_ | refine awp_exit ?_ | refine awp_cd ?_ | refine awp_ret ?_); simp (maxSteps := 4000000) only [go_sem, List.append_eq, List.cons_append, List.nil_append, Nat.reduceAdd, Nat.reduceMul, Nat.reduceSub, Nat.reduceLeDiff, Nat.reduceLT, Int.reduceAdd, Int.reduceToNat, Int.reduceLE, Int.reduceLT, Int.reduceNeg, reduceIte, postC, watchC, sll])
    | (intro _h)
    | (refine awp_block ?_)
    | (refine awp_scope ?_)
    | (refine go_split (fun _h => ?_) (fun _h => ?_) <;> simp (maxSteps := 4000000) only [go_sem, List.append_eq, List.cons_append, List.nil_append, Nat.reduceAdd, Nat.reduceMul, Nat.reduceSub, Nat.reduceLeDiff, Nat.reduceLT, Int.reduceAdd, Int.reduceToNat, Int.reduceLE, Int.reduceLT, Int.reduceNeg, reduceIte, postC, watchC, sll])
    | (show heapOK _ _ = true; kernel_rfl)
    | (show heapOK2 _ _ = true; kernel_rfl)
    | (omega)))
            refine awp_loopN i0 (fun i => ⟨mkT 33 [(0, .fn (.yield 14) [] []), (1, .ptr 12 0 0), (3, .int .i64 ((i : Int) - 1))], fiH p k v g (k + 1) (pmC p reads (k + 1)) 0 .nils ++ [some (.dfr true), some (.loop .ready none 0 fiT #[72, 73] ca cb 13)], []⟩) (.le2 ?_) ?_
            · simp only [fiH, fiT, postC, watchC]; simp (maxSteps := 4000000) only [go_sem, List.append_eq, List.cons_append, List.nil_append, Nat.reduceAdd, Nat.reduceMul, Nat.reduceSub, Nat.reduceLeDiff, Nat.reduceLT, Int.reduceAdd, Int.reduceToNat, Int.reduceLE, Int.reduceLT, Int.reduceNeg, reduceIte, postC, watchC, sll]
              rfl
            · intro i hi
              have hgi := canon_get (n := p.errs.length) (g := g) (j := (i : Int) - 1) (by omega)
              rcases Nat.lt_or_eq_of_le hi with hi1 | hi1
              · cases hx : g ((i : Int) - 1) with
                | none =>
                  simp only [fiH, fiT, postC, watchC]; simp (maxSteps := 4000000) only [go_sem, List.append_eq, List.cons_append, List.nil_append, Nat.reduceAdd, Nat.reduceMul, Nat.reduceSub, Nat.reduceLeDiff, Nat.reduceLT, Int.reduceAdd, Int.reduceToNat, Int.reduceLE, Int.reduceLT, Int.reduceNeg, reduceIte, postC, watchC, sll]
                  (repeat' (first
    | ((rw [mget_none ((hgi (by omega)).trans hx)]; simp (maxSteps := 4000000) only [go_sem, List.append_eq, List.cons_append, List.nil_append, Nat.reduceAdd, Nat.reduceMul, Nat.reduceSub, Nat.reduceLeDiff, Nat.reduceLT, Int.reduceAdd, Int.reduceToNat, Int.reduceLE, Int.reduceLT, Int.reduceNeg, reduceIte, postC, watchC, sll]))
    | ((show zeroOK _ = true; rfl))
    | (refine awp_seqK ?_)
    | (refine kt ?_)
    | (refine And.intro ?_ ?_)
    | ((first | refine awp_region ?_ | refine awp_draw (by kernel_rfl) (by kernel_rfl) ?_ | refine Imp.le2 ?_ | refine awp_label ?_ | refine awp_skip ?_ | refine awp_exit ?_ | refine awp_cd ?_ | refine awp_ret ?_); simp (maxSteps := 4000000) only [go_sem, List.append_eq, List.cons_append, List.nil_append, Nat.reduceAdd, Nat.reduceMul, Nat.reduceSub, Nat.reduceLeDiff, Nat.reduceLT, Int.reduceAdd, Int.reduceToNat, Int.reduceLE, Int.reduceLT, Int.reduceNeg, reduceIte, postC, watchC, sll])
    | (intro _h)
    | (refine awp_block ?_)
    | (refine awp_scope ?_)
    | (refine go_split (fun _h => ?_) (fun _h => ?_) <;> simp (maxSteps := 4000000) only [go_sem, List.append_eq, List.cons_append, List.nil_append, Nat.reduceAdd, Nat.reduceMul, Nat.reduceSub, Nat.reduceLeDiff, Nat.reduceLT, Int.reduceAdd, Int.reduceToNat, Int.reduceLE, Int.reduceLT, Int.reduceNeg, reduceIte, postC, watchC, sll])
    | (show heapOK _ _ = true; kernel_rfl)
    | (show heapOK2 _ _ = true; kernel_rfl)
    | (omega)))
                | some x =>
                  have hn2 : (x.1 ≤ v ∧ v ≤ x.2) = False := eq_false (hbef i hi1 x hx)
                  simp only [fiH, fiT, postC, watchC]; simp (maxSteps := 4000000) only [go_sem, List.append_eq, List.cons_append, List.nil_append, Nat.reduceAdd, Nat.reduceMul, Nat.reduceSub, Nat.reduceLeDiff, Nat.reduceLT, Int.reduceAdd, Int.reduceToNat, Int.reduceLE, Int.reduceLT, Int.reduceNeg, reduceIte, postC, watchC, sll]
                  (repeat' (first
    | ((rw [mget_some ((hgi (by omega)).trans hx)]; simp (maxSteps := 4000000) only [go_sem, List.append_eq, List.cons_append, List.nil_append, Nat.reduceAdd, Nat.reduceMul, Nat.reduceSub, Nat.reduceLeDiff, Nat.reduceLT, Int.reduceAdd, Int.reduceToNat, Int.reduceLE, Int.reduceLT, Int.reduceNeg, reduceIte, postC, watchC, sll]))
    | ((show zeroOK _ = true; rfl))
    | ((refine awp_ownN 5 rfl ?_; simp (maxSteps := 4000000) only [go_sem, List.append_eq, List.cons_append, List.nil_append, Nat.reduceAdd, Nat.reduceMul, Nat.reduceSub, Nat.reduceLeDiff, Nat.reduceLT, Int.reduceAdd, Int.reduceToNat, Int.reduceLE, Int.reduceLT, Int.reduceNeg, reduceIte, postC, watchC, sll, List.take_succ_cons, List.take_zero]; refine callH_yield true (fiH p k v g (k + 1) (pmC p reads (k + 1)) 0 .nils ++ [some (.dfr true), some (.loop .ready none 0 fiT #[72, 73] ca cb 13), some (.cells 122 1 0 [.int .i64 x.1, .int .i64 x.2])]) ?_ ?_ <;> simp only [fiH, fiT, postC, watchC] <;> (try simp (maxSteps := 4000000) only [go_sem, List.append_eq, List.cons_append, List.nil_append, Nat.reduceAdd, Nat.reduceMul, Nat.reduceSub, Nat.reduceLeDiff, Nat.reduceLT, Int.reduceAdd, Int.reduceToNat, Int.reduceLE, Int.reduceLT, Int.reduceNeg, reduceIte, postC, watchC, sll])))
    | (refine awp_seqK ?_)
    | (refine kt ?_)
    | (refine And.intro ?_ ?_)
    | ((first | refine awp_region ?_ | refine awp_draw (by kernel_rfl) (by kernel_rfl) ?_ | refine Imp.le2 ?_ | refine awp_label ?_ | refine awp_skip ?_ | refine awp_exit ?_ | refine awp_cd ?_ | refine awp_ret ?_); simp (maxSteps := 4000000) only [go_sem, List.append_eq, List.cons_append, List.nil_append, Nat.reduceAdd, Nat.reduceMul, Nat.reduceSub, Nat.reduceLeDiff, Nat.reduceLT, Int.reduceAdd, Int.reduceToNat, Int.reduceLE, Int.reduceLT, Int.reduceNeg, reduceIte, postC, watchC, sll])
    | (intro _h)
    | (refine awp_block ?_)
    | (refine awp_scope ?_)
    | (refine go_split (fun _h => ?_) (fun _h => ?_) <;> simp (maxSteps := 4000000) only [go_sem, List.append_eq, List.cons_append, List.nil_append, Nat.reduceAdd, Nat.reduceMul, Nat.reduceSub, Nat.reduceLeDiff, Nat.reduceLT, Int.reduceAdd, Int.reduceToNat, Int.reduceLE, Int.reduceLT, Int.reduceNeg, reduceIte, postC, watchC, sll])
    | (show heapOK _ _ = true; kernel_rfl)
    | (show heapOK2 _ _ = true; kernel_rfl)
    | (omega)))
                  · refine semY_of_awpZ rfl rfl ?_
                    intro B w0 l m w
                    refine awp_code hca ?_
                    (repeat' (first
    | (refine awp_seqK ?_)
    | (refine kt ?_)
    | (refine And.intro ?_ ?_)
    | ((first | refine awp_region ?_ | refine awp_draw (by kernel_rfl) (by kernel_rfl) ?_ | refine Imp.le2 ?_ | refine awp_label ?_ | refine awp_skip ?_ | refine awp_exit ?_ | refine awp_cd ?_ | refine awp_ret ?_); simp (maxSteps := 4000000) only [go_sem, List.append_eq, List.cons_append, List.nil_append, Nat.reduceAdd, Nat.reduceMul, Nat.reduceSub, Nat.reduceLeDiff, Nat.reduceLT, Int.reduceAdd, Int.reduceToNat, Int.reduceLE, Int.reduceLT, Int.reduceNeg, reduceIte, postC, watchC, sll])
    | (intro _h)
    | (refine awp_block ?_)
    | (refine awp_scope ?_)
    | (refine go_split (fun _h => ?_) (fun _h => ?_) <;> simp (maxSteps := 4000000) only [go_sem, List.append_eq, List.cons_append, List.nil_append, Nat.reduceAdd, Nat.reduceMul, Nat.reduceSub, Nat.reduceLeDiff, Nat.reduceLT, Int.reduceAdd, Int.reduceToNat, Int.reduceLE, Int.reduceLT, Int.reduceNeg, reduceIte, postC, watchC, sll])
    | (show heapOK _ _ = true; kernel_rfl)
    | (show heapOK2 _ _ = true; kernel_rfl)
    | (omega)))
                    refine awp_code hcb ?_
                    (repeat' (first
    | (refine awp_seqK ?_)
    | (refine kt ?_)
    | (refine And.intro ?_ ?_)
    | ((first | refine awp_region ?_ | refine awp_draw (by kernel_rfl) (by kernel_rfl) ?_ | refine Imp.le2 ?_ | refine awp_label ?_ | refine awp_skip ?_ | refine awp_exit ?_ | refine awp_cd ?_ | refine awp_ret ?_); simp (maxSteps := 4000000) only [go_sem, List.append_eq, List.cons_append, List.nil_append, Nat.reduceAdd, Nat.reduceMul, Nat.reduceSub, Nat.reduceLeDiff, Nat.reduceLT, Int.reduceAdd, Int.reduceToNat, Int.reduceLE, Int.reduceLT, Int.reduceNeg, reduceIte, postC, watchC, sll, hn2, decide_false])
    | (intro _h)
    | (refine awp_block ?_)
    | (refine awp_scope ?_)
    | ((first | refine callK_of (within_c _ _ _) ?_); try simp (maxSteps := 4000000) only [go_sem, List.append_eq, List.cons_append, List.nil_append, Nat.reduceAdd, Nat.reduceMul, Nat.reduceSub, Nat.reduceLeDiff, Nat.reduceLT, Int.reduceAdd, Int.reduceToNat, Int.reduceLE, Int.reduceLT, Int.reduceNeg, reduceIte, postC, watchC, sll, hn2, decide_false])
    | (refine go_split (fun _h => ?_) (fun _h => ?_) <;> simp (maxSteps := 4000000) only [go_sem, List.append_eq, List.cons_append, List.nil_append, Nat.reduceAdd, Nat.reduceMul, Nat.reduceSub, Nat.reduceLeDiff, Nat.reduceLT, Int.reduceAdd, Int.reduceToNat, Int.reduceLE, Int.reduceLT, Int.reduceNeg, reduceIte, postC, watchC, sll, hn2, decide_false])
    | (show heapOK _ _ = true; kernel_rfl)
    | (show heapOK2 _ _ = true; kernel_rfl)
    | (omega)))
              · subst hi1
                simp only [fiH, fiT, postC, watchC]; simp (maxSteps := 4000000) only [go_sem, List.append_eq, List.cons_append, List.nil_append, Nat.reduceAdd, Nat.reduceMul, Nat.reduceSub, Nat.reduceLeDiff, Nat.reduceLT, Int.reduceAdd, Int.reduceToNat, Int.reduceLE, Int.reduceLT, Int.reduceNeg, reduceIte, postC, watchC, sll]
                (repeat' (first
    | ((rw [mget_some ((hgi (by omega)).trans hx0)]; simp (maxSteps := 4000000) only [go_sem, List.append_eq, List.cons_append, List.nil_append, Nat.reduceAdd, Nat.reduceMul, Nat.reduceSub, Nat.reduceLeDiff, Nat.reduceLT, Int.reduceAdd, Int.reduceToNat, Int.reduceLE, Int.reduceLT, Int.reduceNeg, reduceIte, postC, watchC, sll]))
    | ((show zeroOK _ = true; rfl))
    | ((refine awp_ownN 5 rfl ?_; simp (maxSteps := 4000000) only [go_sem, List.append_eq, List.cons_append, List.nil_append, Nat.reduceAdd, Nat.reduceMul, Nat.reduceSub, Nat.reduceLeDiff, Nat.reduceLT, Int.reduceAdd, Int.reduceToNat, Int.reduceLE, Int.reduceLT, Int.reduceNeg, reduceIte, postC, watchC, sll, List.take_succ_cons, List.take_zero]; refine callH_yield false (fiH p k v g (k + 1) (pmC p reads (k + 1)) ((i : Int) - 1) (.osl 17 q 0 (q + 2)) ++ [some (.dfr true), some (.loop .done (some .ret) 0 fiT #[72, 73] ca cb 13), some (.cells 122 1 0 [.int .i64 x0.1, .int .i64 x0.2]), none, some (.cells 3 1 q (ints L))]) ?_ ?_ <;> simp only [fiH, fiT, postC, watchC] <;> (try simp (maxSteps := 4000000) only [go_sem, List.append_eq, List.cons_append, List.nil_append, Nat.reduceAdd, Nat.reduceMul, Nat.reduceSub, Nat.reduceLeDiff, Nat.reduceLT, Int.reduceAdd, Int.reduceToNat, Int.reduceLE, Int.reduceLT, Int.reduceNeg, reduceIte, postC, watchC, sll])))
    | (refine awp_seqK ?_)
    | (refine kt ?_)
    | (refine And.intro ?_ ?_)
    | ((first | refine awp_region ?_ | refine awp_draw (by kernel_rfl) (by kernel_rfl) ?_ | refine Imp.le2 ?_ | refine awp_label ?_ | refine awp_skip ?_ | refine awp_exit ?_ | refine awp_cd ?_ | refine awp_ret ?_); simp (maxSteps := 4000000) only [go_sem, List.append_eq, List.cons_append, List.nil_append, Nat.reduceAdd, Nat.reduceMul, Nat.reduceSub, Nat.reduceLeDiff, Nat.reduceLT, Int.reduceAdd, Int.reduceToNat, Int.reduceLE, Int.reduceLT, Int.reduceNeg, reduceIte, postC, watchC, sll])
    | (intro _h)
    | (refine awp_block ?_)
    | (refine awp_scope ?_)
    | (refine go_split (fun _h => ?_) (fun _h => ?_) <;> simp (maxSteps := 4000000) only [go_sem, List.append_eq, List.cons_append, List.nil_append, Nat.reduceAdd, Nat.reduceMul, Nat.reduceSub, Nat.reduceLeDiff, Nat.reduceLT, Int.reduceAdd, Int.reduceToNat, Int.reduceLE, Int.reduceLT, Int.reduceNeg, reduceIte, postC, watchC, sll])
    | (show heapOK _ _ = true; kernel_rfl)
    | (show heapOK2 _ _ = true; kernel_rfl)
    | (omega)))
                · refine semY_of_awpZ rfl rfl ?_
                  intro B w0 l m w
                  refine awp_code hca ?_
                  (repeat' (first
    | (refine awp_seqK ?_)
    | (refine kt ?_)
    | (refine And.intro ?_ ?_)
    | ((first | refine awp_region ?_ | refine awp_draw (by kernel_rfl) (by kernel_rfl) ?_ | refine Imp.le2 ?_ | refine awp_label ?_ | refine awp_skip ?_ | refine awp_exit ?_ | refine awp_cd ?_ | refine awp_ret ?_); simp (maxSteps := 4000000) only [go_sem, List.append_eq, List.cons_append, List.nil_append, Nat.reduceAdd, Nat.reduceMul, Nat.reduceSub, Nat.reduceLeDiff, Nat.reduceLT, Int.reduceAdd, Int.reduceToNat, Int.reduceLE, Int.reduceLT, Int.reduceNeg, reduceIte, postC, watchC, sll])
    | (intro _h)
    | (refine awp_block ?_)
    | (refine awp_scope ?_)
    | (refine go_split (fun _h => ?_) (fun _h => ?_) <;> simp (maxSteps := 4000000) only [go_sem, List.append_eq, List.cons_append, List.nil_append, Nat.reduceAdd, Nat.reduceMul, Nat.reduceSub, Nat.reduceLeDiff, Nat.reduceLT, Int.reduceAdd, Int.reduceToNat, Int.reduceLE, Int.reduceLT, Int.reduceNeg, reduceIte, postC, watchC, sll])
    | (show heapOK _ _ = true; kernel_rfl)
    | (show heapOK2 _ _ = true; kernel_rfl)
    | (omega)))
                  refine awp_code hcb ?_
                  (repeat' (first
    | (refine awp_ownN 5 rfl ?_; simp (maxSteps := 4000000) only [go_sem, List.append_eq, List.cons_append, List.nil_append, Nat.reduceAdd, Nat.reduceMul, Nat.reduceSub, Nat.reduceLeDiff, Nat.reduceLT, Int.reduceAdd, Int.reduceToNat, Int.reduceLE, Int.reduceLT, Int.reduceNeg, reduceIte, postC, watchC, sll, List.take_succ_cons, List.take_zero, hin', decide_true]; refine own_go (hbk) [11] rfl (by simp (maxSteps := 4000000) only [go_sem, List.append_eq, List.cons_append, List.nil_append, Nat.reduceAdd, Nat.reduceMul, Nat.reduceSub, Nat.reduceLeDiff, Nat.reduceLT, Int.reduceAdd, Int.reduceToNat, Int.reduceLE, Int.reduceLT, Int.reduceNeg, reduceIte, postC, watchC, sll, hin', decide_true]) (by simp (maxSteps := 4000000) only [go_sem, List.append_eq, List.cons_append, List.nil_append, Nat.reduceAdd, Nat.reduceMul, Nat.reduceSub, Nat.reduceLeDiff, Nat.reduceLT, Int.reduceAdd, Int.reduceToNat, Int.reduceLE, Int.reduceLT, Int.reduceNeg, reduceIte, postC, watchC, sll, Nat.lt_irrefl, hin', decide_true] <;> decide) rfl ?_; simp (maxSteps := 4000000) only [go_sem, List.append_eq, List.cons_append, List.nil_append, Nat.reduceAdd, Nat.reduceMul, Nat.reduceSub, Nat.reduceLeDiff, Nat.reduceLT, Int.reduceAdd, Int.reduceToNat, Int.reduceLE, Int.reduceLT, Int.reduceNeg, reduceIte, postC, watchC, sll, hin', decide_true])
    | (refine awp_seqK ?_)
    | (refine kt ?_)
    | (refine And.intro ?_ ?_)
    | ((first | refine awp_region ?_ | refine awp_draw (by kernel_rfl) (by kernel_rfl) ?_ | refine Imp.le2 ?_ | refine awp_label ?_ | refine awp_skip ?_ | refine awp_exit ?_ | refine awp_cd ?_ | refine awp_ret ?_); simp (maxSteps := 4000000) only [go_sem, List.append_eq, List.cons_append, List.nil_append, Nat.reduceAdd, Nat.reduceMul, Nat.reduceSub, Nat.reduceLeDiff, Nat.reduceLT, Int.reduceAdd, Int.reduceToNat, Int.reduceLE, Int.reduceLT, Int.reduceNeg, reduceIte, postC, watchC, sll, hin', decide_true])
    | (intro _h)
    | (refine awp_block ?_)
    | (refine awp_scope ?_)
    | ((first | refine callK_of (within_c _ _ _) ?_); try simp (maxSteps := 4000000) only [go_sem, List.append_eq, List.cons_append, List.nil_append, Nat.reduceAdd, Nat.reduceMul, Nat.reduceSub, Nat.reduceLeDiff, Nat.reduceLT, Int.reduceAdd, Int.reduceToNat, Int.reduceLE, Int.reduceLT, Int.reduceNeg, reduceIte, postC, watchC, sll, hin', decide_true])
    | (refine go_split (fun _h => ?_) (fun _h => ?_) <;> simp (maxSteps := 4000000) only [go_sem, List.append_eq, List.cons_append, List.nil_append, Nat.reduceAdd, Nat.reduceMul, Nat.reduceSub, Nat.reduceLeDiff, Nat.reduceLT, Int.reduceAdd, Int.reduceToNat, Int.reduceLE, Int.reduceLT, Int.reduceNeg, reduceIte, postC, watchC, sll, hin', decide_true])
    | (show heapOK _ _ = true; kernel_rfl)
    | (show heapOK2 _ _ = true; kernel_rfl)
    | (omega)))
          · rfl
          · simp only [fiH, fiT, postC, watchC]
            simp (maxSteps := 4000000) only [go_sem, List.append_eq, List.cons_append, List.nil_append, Nat.reduceAdd, Nat.reduceMul, Nat.reduceSub, Nat.reduceLeDiff, Nat.reduceLT, Int.reduceAdd, Int.reduceToNat, Int.reduceLE, Int.reduceLT, Int.reduceNeg, reduceIte, postC, watchC, sll]
            rw [hLd]
            first
              | (subst hL; exact ⟨rfl, rfl⟩)
              | (exact ⟨by omega, rfl⟩)
end Go.Am

/- Contracts of the alarm functions: Truth, with its errors. -/
namespace Go.Am
open Go.RowKit Go.Proofs
attribute [local irreducible] AWP Kt goK CallK stepK evOps SemF SemY Imp
set_option maxRecDepth 4000
set_option linter.unusedSimpArgs false
set_option linter.unusedVariables false
set_option maxHeartbeats 1600000

/-- What Truth hands back. -/
def truthR (p : Post) (reads : List (List Int)) (hour v : Int) : Int × List Int × Int :=
  if faultP p reads = 0 then
    if (0 ≤ hour ∧ hour < reads.length) ∧ (0 ≤ v ∧ v ≤ 1000) then
      match pickF (gAt p reads (hour.toNat + 1)) v (p.errs.length + 1) with
      | some f => (f, backL (gAt p reads) p.gain f hour.toNat v, 0)
      | none => (0, [], 7)
    else (0, [], 2)
  else (0, [], faultP p reads)
theorem CallS.res {P : Program} {f : FuncId} {xs : List AV} {x y : AV} (h : CallS P f xs x) (hs : resSub x y) : CallS P f xs y :=
  ⟨h.1, fun w vs ok h1 h2 h3 => (h.2 w vs ok h1 h2 h3).mono fun _ _ ⟨v, e1, e2, e3⟩ => ⟨v, e1, prep_resSub e2 hs, e3⟩⟩
attribute [local irreducible] CallS
theorem truthAll_c (p : Post) (reads : List (List Int)) (hour v : Int) (hb : InB p reads) :
    CallS Try.prog 44 [.agg (postC p), sll reads, .int .i64 hour, .int .i64 v] (.tup [.int .i64 (truthR p reads hour v).1, sl (truthR p reads hour v).2.1, .int .i64 (truthR p reads hour v).2.2]) := by
  have hch := check_c p reads hb.e hb.n hb.rows
  have hfc := faultP_cases p reads
  unfold truthR
  by_cases hf : faultP p reads = 0
  · rw [if_pos hf]
    by_cases hr : (0 ≤ hour ∧ hour < reads.length) ∧ (0 ≤ v ∧ v ≤ 1000)
    · rw [if_pos hr]
      have h := truthOk_c p reads hour.toNat v hb hf (by omega) hr.2
      rw [show ((hour.toNat : Nat) : Int) = hour by omega] at h
      cases hpk : pickF (gAt p reads (hour.toNat + 1)) v (p.errs.length + 1) with
      | some f => rw [hpk] at h; exact h
      | none => rw [hpk] at h; exact h.res (by simp [resSub, subL, avSub, sl, ints])
    · rw [if_neg hr]
      rw [hf] at hch
      have hl := hb.n
      simp only [postC, sl, watchC, sll] at hch
      (refine callS_of_awp (fun w args => Try.call44 ..) Try.func44 rfl (fun w0 m0 wz => ?_); simp only [Try.ntmps44, Try.results44, initT, junks, postC, watchC, sll, sl, List.toList_toArray, List.cons_append, List.nil_append, List.length_cons, List.length_nil, Nat.reduceAdd, Nat.reduceSub])
      by_cases h1 : 0 ≤ hour ∧ hour ≤ (reads.length : Int) - 1
      · have h2 : ¬(0 ≤ v ∧ v ≤ 1000) := fun h => hr ⟨⟨by omega, by omega⟩, h⟩
        have e1 := eq_true h1
        have e2 := eq_false h2
        (repeat' (first
    | (refine awp_seqK ?_)
    | (refine kt ?_)
    | (refine And.intro ?_ ?_)
    | ((first | refine awp_region ?_ | refine awp_draw (by kernel_rfl) (by kernel_rfl) ?_ | refine Imp.le2 ?_ | refine awp_label ?_ | refine awp_skip ?_ | refine awp_exit ?_ | refine awp_cd ?_ | refine awp_ret ?_); simp (maxSteps := 4000000) only [go_sem, List.append_eq, List.cons_append, List.nil_append, Nat.reduceAdd, Nat.reduceMul, Nat.reduceSub, Nat.reduceLeDiff, Nat.reduceLT, Int.reduceAdd, Int.reduceToNat, Int.reduceLE, Int.reduceLT, Int.reduceNeg, reduceIte, postC, watchC, sll, e1, e2, decide_true, decide_false])
    | (intro _h)
    | (refine awp_block ?_)
    | (refine awp_scope ?_)
    | ((first | refine callK_of (hch) ?_ | refine callK_of (within_c _ _ _) ?_ | refine callK_of (speed_c _) ?_); try simp (maxSteps := 4000000) only [go_sem, List.append_eq, List.cons_append, List.nil_append, Nat.reduceAdd, Nat.reduceMul, Nat.reduceSub, Nat.reduceLeDiff, Nat.reduceLT, Int.reduceAdd, Int.reduceToNat, Int.reduceLE, Int.reduceLT, Int.reduceNeg, reduceIte, postC, watchC, sll, e1, e2, decide_true, decide_false])
    | (refine go_split (fun _h => ?_) (fun _h => ?_) <;> simp (maxSteps := 4000000) only [go_sem, List.append_eq, List.cons_append, List.nil_append, Nat.reduceAdd, Nat.reduceMul, Nat.reduceSub, Nat.reduceLeDiff, Nat.reduceLT, Int.reduceAdd, Int.reduceToNat, Int.reduceLE, Int.reduceLT, Int.reduceNeg, reduceIte, postC, watchC, sll, e1, e2, decide_true, decide_false])
    | (show heapOK _ _ = true; kernel_rfl)
    | (show heapOK2 _ _ = true; kernel_rfl)
    | (omega)))
        trace_state
      · have e1 := eq_false h1
        (repeat' (first
    | (refine awp_seqK ?_)
    | (refine kt ?_)
    | (refine And.intro ?_ ?_)
    | ((first | refine awp_region ?_ | refine awp_draw (by kernel_rfl) (by kernel_rfl) ?_ | refine Imp.le2 ?_ | refine awp_label ?_ | refine awp_skip ?_ | refine awp_exit ?_ | refine awp_cd ?_ | refine awp_ret ?_); simp (maxSteps := 4000000) only [go_sem, List.append_eq, List.cons_append, List.nil_append, Nat.reduceAdd, Nat.reduceMul, Nat.reduceSub, Nat.reduceLeDiff, Nat.reduceLT, Int.reduceAdd, Int.reduceToNat, Int.reduceLE, Int.reduceLT, Int.reduceNeg, reduceIte, postC, watchC, sll, e1, decide_true, decide_false])
    | (intro _h)
    | (refine awp_block ?_)
    | (refine awp_scope ?_)
    | ((first | refine callK_of (hch) ?_ | refine callK_of (within_c _ _ _) ?_ | refine callK_of (speed_c _) ?_); try simp (maxSteps := 4000000) only [go_sem, List.append_eq, List.cons_append, List.nil_append, Nat.reduceAdd, Nat.reduceMul, Nat.reduceSub, Nat.reduceLeDiff, Nat.reduceLT, Int.reduceAdd, Int.reduceToNat, Int.reduceLE, Int.reduceLT, Int.reduceNeg, reduceIte, postC, watchC, sll, e1, decide_true, decide_false])
    | (refine go_split (fun _h => ?_) (fun _h => ?_) <;> simp (maxSteps := 4000000) only [go_sem, List.append_eq, List.cons_append, List.nil_append, Nat.reduceAdd, Nat.reduceMul, Nat.reduceSub, Nat.reduceLeDiff, Nat.reduceLT, Int.reduceAdd, Int.reduceToNat, Int.reduceLE, Int.reduceLT, Int.reduceNeg, reduceIte, postC, watchC, sll, e1, decide_true, decide_false])
    | (show heapOK _ _ = true; kernel_rfl)
    | (show heapOK2 _ _ = true; kernel_rfl)
    | (omega)))
        trace_state
  · rw [if_neg hf]
    simp only [postC, sl, watchC, sll] at hch
    generalize faultP p reads = e at *
    (refine callS_of_awp (fun w args => Try.call44 ..) Try.func44 rfl (fun w0 m0 wz => ?_); simp only [Try.ntmps44, Try.results44, initT, junks, postC, watchC, sll, sl, List.toList_toArray, List.cons_append, List.nil_append, List.length_cons, List.length_nil, Nat.reduceAdd, Nat.reduceSub])
    (repeat' (first
    | (refine awp_seqK ?_)
    | (refine kt ?_)
    | (refine And.intro ?_ ?_)
    | ((first | refine awp_region ?_ | refine awp_draw (by kernel_rfl) (by kernel_rfl) ?_ | refine Imp.le2 ?_ | refine awp_label ?_ | refine awp_skip ?_ | refine awp_exit ?_ | refine awp_cd ?_ | refine awp_ret ?_); simp (maxSteps := 4000000) only [go_sem, List.append_eq, List.cons_append, List.nil_append, Nat.reduceAdd, Nat.reduceMul, Nat.reduceSub, Nat.reduceLeDiff, Nat.reduceLT, Int.reduceAdd, Int.reduceToNat, Int.reduceLE, Int.reduceLT, Int.reduceNeg, reduceIte, postC, watchC, sll])
    | (intro _h)
    | (refine awp_block ?_)
    | (refine awp_scope ?_)
    | ((first | refine callK_of (hch) ?_); try simp (maxSteps := 4000000) only [go_sem, List.append_eq, List.cons_append, List.nil_append, Nat.reduceAdd, Nat.reduceMul, Nat.reduceSub, Nat.reduceLeDiff, Nat.reduceLT, Int.reduceAdd, Int.reduceToNat, Int.reduceLE, Int.reduceLT, Int.reduceNeg, reduceIte, postC, watchC, sll])
    | (refine go_split (fun _h => ?_) (fun _h => ?_) <;> simp (maxSteps := 4000000) only [go_sem, List.append_eq, List.cons_append, List.nil_append, Nat.reduceAdd, Nat.reduceMul, Nat.reduceSub, Nat.reduceLeDiff, Nat.reduceLT, Int.reduceAdd, Int.reduceToNat, Int.reduceLE, Int.reduceLT, Int.reduceNeg, reduceIte, postC, watchC, sll])
    | (show heapOK _ _ = true; kernel_rfl)
    | (show heapOK2 _ _ = true; kernel_rfl)
    | (omega)))
    trace_state
end Go.Am

/- Contracts of the alarm functions: whether speeds are a truth. -/
namespace Go.Am
open Go.RowKit Go.Proofs
attribute [local irreducible] AWP CallS Kt goK CallK stepK evOps SemF SemY
set_option maxRecDepth 4000
set_option linter.unusedSimpArgs false
set_option linter.unusedVariables false
set_option maxHeartbeats 1600000

/-- One hour of a truth. -/
def okT (p : Post) (reads : List (List Int)) (f : Int) (sp : List Int) (h : Nat) : Prop :=
  ((agreedEnds p.errs (reads.getD h []) f).1 ≤ sp.getD h 0 ∧ sp.getD h 0 ≤ (agreedEnds p.errs (reads.getD h []) f).2) ∧ (h = 0 ∨ (-p.drop ≤ sp.getD h 0 - sp.getD (h - 1) 0 ∧ sp.getD h 0 - sp.getD (h - 1) 0 ≤ p.gain))
instance {p : Post} {reads : List (List Int)} {f : Int} {sp : List Int} {h : Nat} : Decidable (okT p reads f sp h) := by unfold okT; exact inferInstance
theorem okT_iff {p : Post} {reads : List (List Int)} {f : Int} {sp : List Int} {h : Nat} : okT p reads f sp h ↔
  (((agreedEnds p.errs (reads.getD h []) f).1 ≤ sp.getD h 0 ∧ sp.getD h 0 ≤ (agreedEnds p.errs (reads.getD h []) f).2) ∧ (h = 0 ∨ (-p.drop ≤ sp.getD h 0 - sp.getD (h - 1) 0 ∧ sp.getD h 0 - sp.getD (h - 1) 0 ≤ p.gain))) := Iff.rfl
def proveB (p : Post) (reads : List (List Int)) (f : Int) (sp : List Int) : Bool :=
  decide (faultP p reads = 0 ∧ sp.length = reads.length ∧ (-1 ≤ f ∧ f ≤ (p.errs.length : Int) - 1) ∧ ∀ h, h < sp.length → okT p reads f sp h)
theorem agreed_bd {errs row : List Int} {f : Int} : 0 ≤ (agreedEnds errs row f).1 ∧ (agreedEnds errs row f).2 ≤ 1000 := by
  unfold agreedEnds
  split
  · simp
  · exact ⟨agLo_ge _, agHi_le _⟩
theorem okT_bd {p : Post} {reads : List (List Int)} {f : Int} {sp : List Int} {h : Nat} (k : okT p reads f sp h) : 0 ≤ sp.getD h 0 ∧ sp.getD h 0 ≤ 1000 := by
  have := agreed_bd (errs := p.errs) (row := reads.getD h []) (f := f)
  have := k.1
  omega
theorem prove_c (p : Post) (reads : List (List Int)) (f : Int) (sp : List Int) (hb : InB p reads) (hs : sp.length ≤ 9223372036854775807) : CallS Try.prog 38 [.agg (postC p), sll reads, .int .i64 f, sl sp] (.bool (proveB p reads f sp)) := by
  have hch := check_c p reads hb.e hb.n hb.rows
  have hfc := faultP_cases p reads
  have hbe := hb.e
  have hbn := hb.n
  by_cases hf : faultP p reads = 0
  · obtain ⟨hp, hr⟩ := faultP_zero hf
    obtain ⟨hl1, hl2⟩ := hp.len
    have hga := hp.gain
    have hdr := hp.drop
    have hl3 := hr.len
    rw [hf] at hch
    simp only [postC, sl, watchC, sll] at hch
    have hyes : sp.length = reads.length → (-1 ≤ f ∧ f ≤ (p.errs.length : Int) - 1) → (∀ h, h < sp.length → okT p reads f sp h) → true = proveB p reads f sp := fun a b c => (decide_eq_true ⟨hf, a, b, c⟩).symm
    have hno : (sp.length = reads.length → (-1 ≤ f ∧ f ≤ (p.errs.length : Int) - 1) → (∀ h, h < sp.length → okT p reads f sp h) → False) → false = proveB p reads f sp := fun a => (decide_eq_false fun ⟨_, b, c, d⟩ => a b c d).symm
    generalize proveB p reads f sp = r at *
    (refine callS_of_awp (fun w args => Try.call38 ..) Try.func38 rfl (fun w0 m0 wz => ?_); simp only [Try.ntmps38, Try.results38, initT, junks, postC, watchC, sll, sl, List.toList_toArray, List.cons_append, List.nil_append, List.length_cons, List.length_nil, Nat.reduceAdd, Nat.reduceSub])
    (repeat' (first
    | (refine awp_seqK ?_)
    | (refine kt ?_)
    | (refine And.intro ?_ ?_)
    | ((first | refine awp_region ?_ | refine awp_draw (by kernel_rfl) (by kernel_rfl) ?_ | refine Imp.le2 ?_ | refine awp_label ?_ | refine awp_skip ?_ | refine awp_exit ?_ | refine awp_cd ?_ | refine awp_ret ?_); simp (maxSteps := 4000000) only [go_sem, List.append_eq, List.cons_append, List.nil_append, Nat.reduceAdd, Nat.reduceMul, Nat.reduceSub, Nat.reduceLeDiff, Nat.reduceLT, Int.reduceAdd, Int.reduceToNat, Int.reduceLE, Int.reduceLT, Int.reduceNeg, reduceIte, postC, watchC, sll])
    | (intro _h)
    | (refine awp_block ?_)
    | (refine awp_scope ?_)
    | ((first | refine callK_of (hch) ?_ | refine callK_of (within_c _ _ _) ?_); try simp (maxSteps := 4000000) only [go_sem, List.append_eq, List.cons_append, List.nil_append, Nat.reduceAdd, Nat.reduceMul, Nat.reduceSub, Nat.reduceLeDiff, Nat.reduceLT, Int.reduceAdd, Int.reduceToNat, Int.reduceLE, Int.reduceLT, Int.reduceNeg, reduceIte, postC, watchC, sll])
    | (refine go_split (fun _h => ?_) (fun _h => ?_) <;> simp (maxSteps := 4000000) only [go_sem, List.append_eq, List.cons_append, List.nil_append, Nat.reduceAdd, Nat.reduceMul, Nat.reduceSub, Nat.reduceLeDiff, Nat.reduceLT, Int.reduceAdd, Int.reduceToNat, Int.reduceLE, Int.reduceLT, Int.reduceNeg, reduceIte, postC, watchC, sll])
    | (show heapOK _ _ = true; kernel_rfl)
    | (omega)))
    · refine awp_loopJ (fun h : Nat => h ≤ sp.length ∧ ∀ j, j < h → okT p reads f sp j) (fun h => ⟨mkT 74 [(1, sll reads), (2, .int .i64 f), (3, sl sp), (4, .ptr 0 0 0), (32, sl sp), (33, .int .i64 sp.length), (34, .int .i64 h)], [some (.cells 51 1 0 (postC p))], []⟩) (fun h => sp.length - h) 0 ⟨Nat.zero_le _, by simp⟩ (.le2 ?_) ?_
      · simp only [postC]; simp (maxSteps := 4000000) only [go_sem, List.append_eq, List.cons_append, List.nil_append, Nat.reduceAdd, Nat.reduceMul, Nat.reduceSub, Nat.reduceLeDiff, Nat.reduceLT, Int.reduceAdd, Int.reduceToNat, Int.reduceLE, Int.reduceLT, Int.reduceNeg, reduceIte, postC, watchC, sll]
      · rintro h ⟨hh, hj⟩
        have hag := fun k : h < reads.length => agreed_c p (reads.getD h []) f (hr.rows h k).len (by have := (hr.rows h k).len; omega) (hr.rows h k).reads hp.errs
        have hab := agreed_bd (errs := p.errs) (row := reads.getD h []) (f := f)
        have hok := okT_iff (p := p) (reads := reads) (f := f) (sp := sp) (h := h)
        have hpr := fun k : 0 < h => okT_bd (hj (h - 1) (by omega))
        simp only [postC, sl] at hag
        generalize agreedEnds p.errs (reads.getD h []) f = y at *
        obtain ⟨y1, y2⟩ := y
        simp only at hok hab
        simp only [postC]; simp (maxSteps := 4000000) only [go_sem, List.append_eq, List.cons_append, List.nil_append, Nat.reduceAdd, Nat.reduceMul, Nat.reduceSub, Nat.reduceLeDiff, Nat.reduceLT, Int.reduceAdd, Int.reduceToNat, Int.reduceLE, Int.reduceLT, Int.reduceNeg, reduceIte, postC, watchC, sll]
        have e1 : (((h : Int)) - 1).toNat = h - 1 := by omega
        (repeat' (first
    | ((rw [e1]))
    | (refine awp_seqK ?_)
    | (refine kt ?_)
    | (refine And.intro ?_ ?_)
    | ((first | refine awp_region ?_ | refine awp_draw (by kernel_rfl) (by kernel_rfl) ?_ | refine Imp.le2 ?_ | refine awp_label ?_ | refine awp_skip ?_ | refine awp_exit ?_ | refine awp_cd ?_ | refine awp_ret ?_); simp (maxSteps := 4000000) only [go_sem, List.append_eq, List.cons_append, List.nil_append, Nat.reduceAdd, Nat.reduceMul, Nat.reduceSub, Nat.reduceLeDiff, Nat.reduceLT, Int.reduceAdd, Int.reduceToNat, Int.reduceLE, Int.reduceLT, Int.reduceNeg, reduceIte, postC, watchC, sll])
    | (intro _h)
    | (refine awp_block ?_)
    | (refine awp_scope ?_)
    | ((first | refine callK_of (hag (by omega)) ?_ | refine callK_of (within_c _ _ _) ?_); try simp (maxSteps := 4000000) only [go_sem, List.append_eq, List.cons_append, List.nil_append, Nat.reduceAdd, Nat.reduceMul, Nat.reduceSub, Nat.reduceLeDiff, Nat.reduceLT, Int.reduceAdd, Int.reduceToNat, Int.reduceLE, Int.reduceLT, Int.reduceNeg, reduceIte, postC, watchC, sll])
    | (refine go_split (fun _h => ?_) (fun _h => ?_) <;> simp (maxSteps := 4000000) only [go_sem, List.append_eq, List.cons_append, List.nil_append, Nat.reduceAdd, Nat.reduceMul, Nat.reduceSub, Nat.reduceLeDiff, Nat.reduceLT, Int.reduceAdd, Int.reduceToNat, Int.reduceLE, Int.reduceLT, Int.reduceNeg, reduceIte, postC, watchC, sll])
    | (show heapOK _ _ = true; kernel_rfl)
    | (omega)))
        all_goals first
          | (refine ⟨h + 1, ⟨by omega, fun j hji => ?_⟩, by omega, .le2 ?_⟩
             · rcases Nat.lt_succ_iff_lt_or_eq.1 hji with h | rfl
               · exact hj j h
               · exact hok.2 (by omega)
             · simp (maxSteps := 4000000) only [go_sem, List.append_eq, List.cons_append, List.nil_append, Nat.reduceAdd, Nat.reduceMul, Nat.reduceSub, Nat.reduceLeDiff, Nat.reduceLT, Int.reduceAdd, Int.reduceToNat, Int.reduceLE, Int.reduceLT, Int.reduceNeg, reduceIte, postC, watchC, sll] <;> omega)
          | exact (hno (fun a b c => by have := hok.1 (c h (by omega)); omega)).symm
          | exact (hyes (by omega) ‹_› (fun j hjl => hj j (by omega))).symm
          | exact (hyes (by omega) ‹_› (fun j hjl => hj j (by omega)))
    all_goals first
      | exact (hno (fun a b c => by omega)).symm
      | exact (hno (fun a b c => by omega))
  · have : proveB p reads f sp = false := decide_eq_false fun h => hf h.1
    rw [this]
    simp only [postC, sl, watchC, sll] at hch
    generalize faultP p reads = e at *
    (refine callS_of_awp (fun w args => Try.call38 ..) Try.func38 rfl (fun w0 m0 wz => ?_); simp only [Try.ntmps38, Try.results38, initT, junks, postC, watchC, sll, sl, List.toList_toArray, List.cons_append, List.nil_append, List.length_cons, List.length_nil, Nat.reduceAdd, Nat.reduceSub])
    (repeat' (first
    | (refine awp_seqK ?_)
    | (refine kt ?_)
    | (refine And.intro ?_ ?_)
    | ((first | refine awp_region ?_ | refine awp_draw (by kernel_rfl) (by kernel_rfl) ?_ | refine Imp.le2 ?_ | refine awp_label ?_ | refine awp_skip ?_ | refine awp_exit ?_ | refine awp_cd ?_ | refine awp_ret ?_); simp (maxSteps := 4000000) only [go_sem, List.append_eq, List.cons_append, List.nil_append, Nat.reduceAdd, Nat.reduceMul, Nat.reduceSub, Nat.reduceLeDiff, Nat.reduceLT, Int.reduceAdd, Int.reduceToNat, Int.reduceLE, Int.reduceLT, Int.reduceNeg, reduceIte, postC, watchC, sll])
    | (intro _h)
    | (refine awp_block ?_)
    | (refine awp_scope ?_)
    | ((first | refine callK_of (hch) ?_); try simp (maxSteps := 4000000) only [go_sem, List.append_eq, List.cons_append, List.nil_append, Nat.reduceAdd, Nat.reduceMul, Nat.reduceSub, Nat.reduceLeDiff, Nat.reduceLT, Int.reduceAdd, Int.reduceToNat, Int.reduceLE, Int.reduceLT, Int.reduceNeg, reduceIte, postC, watchC, sll])
    | (refine go_split (fun _h => ?_) (fun _h => ?_) <;> simp (maxSteps := 4000000) only [go_sem, List.append_eq, List.cons_append, List.nil_append, Nat.reduceAdd, Nat.reduceMul, Nat.reduceSub, Nat.reduceLeDiff, Nat.reduceLT, Int.reduceAdd, Int.reduceToNat, Int.reduceLE, Int.reduceLT, Int.reduceNeg, reduceIte, postC, watchC, sll])
    | (show heapOK _ _ = true; kernel_rfl)
    | (omega)))
end Go.Am

/- Lists that are told by a function; lists of bools; counts. What may be, by the reference's words. -/
namespace Go.Am
open Go.RowKit Go.Proofs
set_option linter.unusedSimpArgs false
set_option linter.unusedVariables false

/-- A list of n elements, told by a function. -/
def tab {α : Type} (n : Nat) (f : Nat → α) : List α := (List.range n).map f
section
variable {α : Type} {n : Nat} {f g : Nat → α}
theorem tab_length : (tab n f).length = n := by simp [tab]
theorem tab_getD {j : Nat} {d : α} (h : j < n) : (tab n f).getD j d = f j := by simp [tab, List.getD_eq_getElem?_getD, h]
theorem tab_congr (h : ∀ j, j < n → f j = g j) : tab n f = tab n g := List.map_congr_left fun j hj => h j (by simpa using hj)
/-- One element in another's place. -/
def isp (l : List α) (j : Nat) (v : α) : List α := l.take j ++ v :: l.drop (j + 1)
theorem isp_set {l : List α} {j : Nat} {v : α} (h : j < l.length) : isp l j v = l.set j v := by rw [List.set_eq_take_append_cons_drop, if_pos h]; rfl
theorem isp_length {l : List α} {j : Nat} {v : α} (h : j < l.length) : (isp l j v).length = l.length := by rw [isp_set h, List.length_set]
theorem isp_getD {l : List α} {j k : Nat} {v d : α} (h : j < l.length) : (isp l j v).getD k d = if k = j then v else l.getD k d := by
  rw [isp_set h]
  simp only [List.getD_eq_getElem?_getD, List.getElem?_set]
  by_cases e : j = k
  · subst e; simp [h]
  · rw [if_neg e, if_neg (Ne.symm e)]
theorem isp_tab {j : Nat} {v : α} (h : j < n) : isp (tab n f) j v = tab n fun i => if i = j then v else f i := by
  rw [isp_set (by rw [tab_length]; exact h)]
  apply List.ext_getElem
  · simp [tab]
  · intro i a b
    simp only [tab, List.getElem_set, List.getElem_map, List.getElem_range]
    by_cases e : j = i
    · subst e; simp
    · rw [if_neg e, if_neg (Ne.symm e)]
theorem tab_fill {n v : Nat} {G : Nat → Bool} {b : Bool} (h : v < n) (hb : G v = b) : isp (tab n fun i => if i < v then G i else false) v b = tab n fun i => if i < v + 1 then G i else false := by
  rw [isp_tab h]
  refine tab_congr fun i _ => ?_
  rcases Nat.lt_trichotomy i v with h9 | h9 | h9
  · simp only [show ¬ i = v by omega, h9, show i < v + 1 by omega, if_true, if_false]
  · subst h9; simp [hb]
  · simp only [show ¬ i = v by omega, show ¬ i < v by omega, show ¬ i < v + 1 by omega, if_false]
theorem replicate_tab {a : α} : List.replicate n a = tab n fun _ => a := by
  apply List.ext_getElem
  · simp [tab]
  · intro i h1 h2; simp [tab]
end
/-- A list of bools, as cells. -/
def bools (l : List Bool) : List AV := l.map .bool
theorem bools_length {l : List Bool} : (bools l).length = l.length := by simp [bools]
theorem pl_bools {l : List Bool} : pureL (bools l) = True := by
  simp only [pureL, bools, List.mem_map, eq_iff_iff, iff_true]
  rintro _ ⟨a, _, rfl⟩; rfl
theorem al_bools {l : List Bool} {p : Nat → Bool} : (bools l).all (live2 p) = true := by
  simp only [bools, List.all_map, List.all_eq_true]
  intro z _; rfl
theorem nth_bools {l : List Bool} {j : Nat} {K : AV → Prop} : optK (nth (bools l) j) K = (j < l.length ∧ K (.bool (l.getD j false))) := by
  rw [← nth_is]
  simp only [bools, List.getElem?_map]
  by_cases h : j < l.length
  · simp [h, optK, List.getD_eq_getElem?_getD]
  · simp [h, optK]
theorem sp_bools {l : List Bool} {j : Nat} {b : Bool} : splice (bools l) j [.bool b] = bools (isp l j b) := by
  simp [splice, bools, isp, List.map_take, List.map_drop]
theorem sp_ints {l : List Int} {j : Nat} {v : Int} : splice (ints l) j [.int .i64 v] = ints (isp l j v) := by
  simp [splice, ints, isp, List.map_take, List.map_drop]
theorem rep_ints {n : Nat} {v : Int} : (List.replicate n [AV.int .i64 v]).flatten = ints (tab n fun _ => v) := by
  rw [← replicate_tab]
  induction n with
  | zero => rfl
  | succ n ih => rw [List.replicate_succ, List.flatten_cons, ih]; rfl
theorem rep_bools {n : Nat} {v : Bool} : (List.replicate n [AV.bool v]).flatten = bools (tab n fun _ => v) := by
  rw [← replicate_tab]
  induction n with
  | zero => rfl
  | succ n ih => rw [List.replicate_succ, List.flatten_cons, ih]; rfl
attribute [go_sem] bools_length pl_bools al_bools nth_bools sp_bools tab_length

/-- How many of the first ones are true. -/
def cnt (f : Nat → Bool) : Nat → Int
  | 0 => 0
  | i + 1 => if f i = true then cnt f i + 1 else cnt f i
theorem cnt_zero {f : Nat → Bool} : cnt f 0 = 0 := rfl
theorem cnt_succ {f : Nat → Bool} {i : Nat} : cnt f (i + 1) = if f i = true then cnt f i + 1 else cnt f i := rfl
theorem cnt_bd {f : Nat → Bool} : ∀ i, 0 ≤ cnt f i ∧ cnt f i ≤ i
  | 0 => by simp [cnt]
  | i + 1 => by have := cnt_bd (f := f) i; simp only [cnt]; split <;> omega
theorem cnt_lt {f : Nat → Bool} {a : Nat} : ∀ {b : Nat}, a ≤ b → (cnt f a ≤ cnt f b ∧ (cnt f a < cnt f b ↔ ∃ u, a ≤ u ∧ u < b ∧ f u = true))
  | 0, h => by
    have : a = 0 := by omega
    subst this
    refine ⟨by omega, ⟨fun h => by omega, fun ⟨u, _, h, _⟩ => by omega⟩⟩
  | b + 1, h => by
    rcases Nat.lt_or_eq_of_le h with h1 | h1
    · obtain ⟨k1, k2⟩ := cnt_lt (f := f) (a := a) (b := b) (by omega)
      by_cases hf : f b = true
      · have e : cnt f (b + 1) = cnt f b + 1 := by simp [cnt, hf]
        rw [e]
        exact ⟨by omega, ⟨fun _ => ⟨b, by omega, by omega, hf⟩, fun _ => by omega⟩⟩
      · have e : cnt f (b + 1) = cnt f b := by simp [cnt, hf]
        rw [e]
        refine ⟨k1, k2.trans ⟨fun ⟨u, x, y, z⟩ => ⟨u, x, by omega, z⟩, fun ⟨u, x, y, z⟩ => ⟨u, x, ?_, z⟩⟩⟩
        rcases Nat.lt_or_eq_of_le (Nat.le_of_lt_succ y) with h2 | h2
        · exact h2
        · subst h2; exact absurd z hf
    · subst h1
      refine ⟨by omega, ⟨fun h => by omega, fun ⟨u, x, y, _⟩ => by omega⟩⟩

/-- Is a speed among some ends? -/
def inE (x : Option (Int × Int)) (v : Nat) : Bool := match x with | none => false | some x => decide (x.1 ≤ v ∧ v ≤ x.2)
/-- Do all gauges but one agree with a speed? -/
def agreesB (errs row : List Int) (f : Int) (v : Int) : Bool := decide (∀ i : Nat, i < row.length → (i : Int) ≠ f → max (row.getD i 0 - v) (v - row.getD i 0) ≤ errs.getD i 0)
theorem agrees_to {errs row : List Int} {f v : Int} : ∀ n : Nat, (∀ i : Nat, i < n → (i : Int) ≠ f → max (row.getD i 0 - v) (v - row.getD i 0) ≤ errs.getD i 0) → 0 ≤ v → v ≤ 1000 → agLo errs row f n ≤ v ∧ v ≤ agHi errs row f n
  | 0, _, h1, h2 => by simp only [agLo, agHi]; omega
  | n + 1, h, h1, h2 => by
    have ih := agrees_to (errs := errs) (row := row) (f := f) (v := v) n (fun i hi => h i (by omega)) h1 h2
    have := h n (by omega)
    simp only [agLo, agHi]
    split
    · exact ih
    · rename_i e; have := this e; omega
theorem agrees_of {errs row : List Int} {f v : Int} : ∀ n : Nat, agLo errs row f n ≤ v → v ≤ agHi errs row f n → ∀ i : Nat, i < n → (i : Int) ≠ f → max (row.getD i 0 - v) (v - row.getD i 0) ≤ errs.getD i 0
  | 0, _, _, i, hi, _ => by omega
  | n + 1, h1, h2, i, hi, hne => by
    simp only [agLo, agHi] at h1 h2
    rcases Nat.lt_or_eq_of_le (Nat.le_of_lt_succ hi) with h3 | h3
    · refine agrees_of (f := f) n ?_ ?_ i h3 hne
      · split at h1 <;> omega
      · split at h2 <;> omega
    · subst h3
      rw [if_neg hne] at h1 h2
      omega
theorem agrees_iff {errs row : List Int} {f : Int} {v : Nat} (hv : v ≤ 1000) : agreesB errs row f v = decide (agLo errs row f row.length ≤ v ∧ (v : Int) ≤ agHi errs row f row.length) := by
  unfold agreesB
  rw [decide_eq_decide]
  exact ⟨fun h => agrees_to row.length h (by omega) (by omega), fun h => agrees_of row.length h.1 h.2⟩
/-- From where a speed comes. -/
def fromLo (p : Post) (v : Nat) : Nat := (max 0 ((v : Int) - p.gain)).toNat
def fromHi (p : Post) (v : Nat) : Nat := (min 1000 ((v : Int) + p.drop)).toNat + 1
def comesB (p : Post) (x : Option (Int × Int)) (v : Nat) : Bool := decide (cnt (fun u => inE x u) (fromLo p v) < cnt (fun u => inE x u) (fromHi p v))
/-- One hour by words: a speed may be if one may be from which it comes, and all gauges but one agree. -/
theorem step_in {p : Post} {row : List Int} {f : Int} {x : Option (Int × Int)} {v : Nat} (hp : PostOK p) (hv : v ≤ 1000) (hx : ∀ z, x = some z → 0 ≤ z.1 ∧ z.1 ≤ z.2 ∧ z.2 ≤ 1000) :
    inE (x.bind (stepX p row false f)) v = (comesB p x v && agreesB p.errs row f v) := by
  have hg := hp.gain
  have hd := hp.drop
  rw [agrees_iff hv]
  have hco := (cnt_lt (f := fun u => inE x u) (a := fromLo p v) (b := fromHi p v) (by unfold fromLo fromHi; omega)).2
  cases x with
  | none =>
    have : comesB p none v = false := decide_eq_false (fun h => by obtain ⟨u, _, _, h⟩ := hco.1 h; simp [inE] at h)
    rw [this]
    simp [inE]
  | some z =>
    have hz := hx z rfl
    have key : comesB p (some z) v = decide (z.1 - p.drop ≤ v ∧ (v : Int) ≤ z.2 + p.gain) := by
      unfold comesB
      rw [decide_eq_decide, hco]
      unfold fromLo fromHi
      constructor
      · rintro ⟨u, h1, h2, h3⟩
        have h4 : z.1 ≤ u ∧ (u : Int) ≤ z.2 := of_decide_eq_true h3
        omega
      · rintro ⟨h1, h2⟩
        refine ⟨(max z.1 (min v z.2)).toNat, by omega, by omega, ?_⟩
        exact decide_eq_true (by omega)
    rw [key]
    simp only [Option.bind_some, stepX, agreedEnds, Bool.false_eq_true, if_false]
    by_cases hc : agHi p.errs row f row.length < agLo p.errs row f row.length
    · rw [if_pos hc, if_pos (.inl rfl), ← Bool.decide_and]
      exact (decide_eq_false (by omega)).symm
    · rw [if_neg hc]
      have hne : ¬ ((agLo p.errs row f row.length, agHi p.errs row f row.length) = ((1, 0) : Int × Int)) := by
        intro e
        simp only [Prod.mk.injEq] at e
        omega
      simp only
      rw [← Bool.decide_and]
      by_cases hm : min (z.2 + p.gain) (agHi p.errs row f row.length) < max (z.1 - p.drop) (agLo p.errs row f row.length)
      · rw [if_pos (.inr hm)]
        exact (decide_eq_false (by omega)).symm
      · rw [if_neg (by rintro (h | h); exact hne h; exact hm h)]
        simp only [inE]
        rw [decide_eq_decide]
        omega
theorem first_in {p : Post} {row : List Int} {f : Int} {v : Nat} (hv : v ≤ 1000) : inE (stepX p row true f (0, 1000)) v = agreesB p.errs row f v := by
  rw [agrees_iff hv]
  simp only [stepX, agreedEnds, if_true]
  have hl := agLo_ge (errs := p.errs) (row := row) (f := f) row.length
  have hh := agHi_le (errs := p.errs) (row := row) (f := f) row.length
  by_cases hc : agHi p.errs row f row.length < agLo p.errs row f row.length
  · rw [if_pos hc, if_pos (.inl rfl)]
    exact (decide_eq_false (by omega)).symm
  · rw [if_neg hc]
    have hne : ¬ ((agLo p.errs row f row.length, agHi p.errs row f row.length) = ((1, 0) : Int × Int)) := by
      intro e
      simp only [Prod.mk.injEq] at e
      omega
    simp only
    rw [if_neg (by rintro (h | h); exact hne h; omega)]
    simp only [inE]
    rw [decide_eq_decide]
    omega
end Go.Am

/- Contracts of the reference: what may be. -/
namespace Go.Am
open Go.RowKit Go.Proofs
attribute [local irreducible] AWP CallS Kt goK CallK stepK evOps SemF SemY Imp tab isp cnt
set_option maxRecDepth 4000
set_option linter.unusedSimpArgs false
set_option linter.unusedVariables false
set_option maxHeartbeats 1600000

theorem agrees_c (p : Post) (row : List Int) (f v : Int) (hp : PostOK p) (hr : RowOK p row) (hv : 0 ≤ v ∧ v ≤ 1000) : CallS Try.prog 69 [.agg (postC p), sl row, .int .i64 f, .int .i64 v] (.bool (agreesB p.errs row f v)) := by
  have hl := hp.len
  have hrl := hr.len
  have hyes : (∀ i : Nat, i < row.length → (i : Int) ≠ f → max (row.getD i 0 - v) (v - row.getD i 0) ≤ p.errs.getD i 0) → true = agreesB p.errs row f v := fun h => (decide_eq_true h).symm
  have hno : (i : Nat) → i < row.length → (i : Int) ≠ f → ¬ max (row.getD i 0 - v) (v - row.getD i 0) ≤ p.errs.getD i 0 → false = agreesB p.errs row f v := fun i a b c => (decide_eq_false fun h => c (h i a b)).symm
  generalize agreesB p.errs row f v = r at *
  (refine callS_of_awp (fun w args => Try.call69 ..) Try.func69 rfl (fun w0 m0 wz => ?_); simp only [Try.ntmps69, Try.results69, initT, junks, postC, watchC, sll, sl, List.toList_toArray, List.cons_append, List.nil_append, List.length_cons, List.length_nil, Nat.reduceAdd, Nat.reduceSub])
  (repeat' (first
    | (refine awp_seqK ?_)
    | (refine kt ?_)
    | (refine And.intro ?_ ?_)
    | ((first | refine awp_region ?_ | refine awp_draw (by kernel_rfl) (by kernel_rfl) ?_ | refine Imp.le2 ?_ | refine awp_label ?_ | refine awp_skip ?_ | refine awp_exit ?_ | refine awp_cd ?_ | refine awp_ret ?_); simp (maxSteps := 4000000) only [go_sem, List.append_eq, List.cons_append, List.nil_append, Nat.reduceAdd, Nat.reduceMul, Nat.reduceSub, Nat.reduceLeDiff, Nat.reduceLT, Int.reduceAdd, Int.reduceToNat, Int.reduceLE, Int.reduceLT, Int.reduceNeg, reduceIte, postC, watchC, sll])
    | (intro _h)
    | (refine awp_block ?_)
    | (refine awp_scope ?_)
    | (refine go_split (fun _h => ?_) (fun _h => ?_) <;> simp (maxSteps := 4000000) only [go_sem, List.append_eq, List.cons_append, List.nil_append, Nat.reduceAdd, Nat.reduceMul, Nat.reduceSub, Nat.reduceLeDiff, Nat.reduceLT, Int.reduceAdd, Int.reduceToNat, Int.reduceLE, Int.reduceLT, Int.reduceNeg, reduceIte, postC, watchC, sll])
    | (show heapOK _ _ = true; kernel_rfl)
    | (omega)))
  refine awp_loopJ (fun i : Nat => i ≤ row.length ∧ ∀ j : Nat, j < i → (j : Int) ≠ f → max (row.getD j 0 - v) (v - row.getD j 0) ≤ p.errs.getD j 0) (fun i => ⟨mkT 40 [(1, sl row), (2, .int .i64 f), (3, .int .i64 v), (4, .ptr 0 0 0), (9, .int .i64 i)], [some (.cells 46 1 0 (postC p))], []⟩) (fun i => row.length - i) 0 ⟨Nat.zero_le _, by simp⟩ (.le2 ?_) ?_
  · simp only [postC]; simp (maxSteps := 4000000) only [go_sem, List.append_eq, List.cons_append, List.nil_append, Nat.reduceAdd, Nat.reduceMul, Nat.reduceSub, Nat.reduceLeDiff, Nat.reduceLT, Int.reduceAdd, Int.reduceToNat, Int.reduceLE, Int.reduceLT, Int.reduceNeg, reduceIte, postC, watchC, sll]
  · rintro i ⟨hi, hj⟩
    have hrr := hr.reads i
    have hee := hp.errs i
    have hn := hno i
    simp only [postC]; simp (maxSteps := 4000000) only [go_sem, List.append_eq, List.cons_append, List.nil_append, Nat.reduceAdd, Nat.reduceMul, Nat.reduceSub, Nat.reduceLeDiff, Nat.reduceLT, Int.reduceAdd, Int.reduceToNat, Int.reduceLE, Int.reduceLT, Int.reduceNeg, reduceIte, postC, watchC, sll]
    (repeat' (first
    | (refine awp_seqK ?_)
    | (refine kt ?_)
    | (refine And.intro ?_ ?_)
    | ((first | refine awp_region ?_ | refine awp_draw (by kernel_rfl) (by kernel_rfl) ?_ | refine Imp.le2 ?_ | refine awp_label ?_ | refine awp_skip ?_ | refine awp_exit ?_ | refine awp_cd ?_ | refine awp_ret ?_); simp (maxSteps := 4000000) only [go_sem, List.append_eq, List.cons_append, List.nil_append, Nat.reduceAdd, Nat.reduceMul, Nat.reduceSub, Nat.reduceLeDiff, Nat.reduceLT, Int.reduceAdd, Int.reduceToNat, Int.reduceLE, Int.reduceLT, Int.reduceNeg, reduceIte, postC, watchC, sll])
    | (intro _h)
    | (refine awp_block ?_)
    | (refine awp_scope ?_)
    | (refine go_split (fun _h => ?_) (fun _h => ?_) <;> simp (maxSteps := 4000000) only [go_sem, List.append_eq, List.cons_append, List.nil_append, Nat.reduceAdd, Nat.reduceMul, Nat.reduceSub, Nat.reduceLeDiff, Nat.reduceLT, Int.reduceAdd, Int.reduceToNat, Int.reduceLE, Int.reduceLT, Int.reduceNeg, reduceIte, postC, watchC, sll])
    | (show heapOK _ _ = true; kernel_rfl)
    | (omega)))
    all_goals first
      | (refine ⟨i + 1, ⟨by omega, fun j hji => ?_⟩, by omega, .le2 ?_⟩
         · rcases Nat.lt_succ_iff_lt_or_eq.1 hji with h | rfl
           · exact hj j h
           · intro hne; omega
         · simp (maxSteps := 4000000) only [go_sem, List.append_eq, List.cons_append, List.nil_append, Nat.reduceAdd, Nat.reduceMul, Nat.reduceSub, Nat.reduceLeDiff, Nat.reduceLT, Int.reduceAdd, Int.reduceToNat, Int.reduceLE, Int.reduceLT, Int.reduceNeg, reduceIte, postC, watchC, sll] <;> omega)
      | exact (hn (by omega) ‹_› (by omega)).symm
      | exact (hyes (fun j hjl => hj j (by omega))).symm
      | exact (hn (by omega) ‹_› (by omega))
      | exact (hyes (fun j hjl => hj j (by omega)))
theorem any_c (l : List Bool) (hl : l.length ≤ 100000) : CallS Try.prog 41 [.psl false l.length (bools l)] (.bool (l.any id)) := by
  have hyes : (i : Nat) → i < l.length → l.getD i false = true → true = l.any id := fun i a b => by
    rw [eq_comm, List.any_eq_true]
    refine ⟨l[i], List.getElem_mem a, ?_⟩
    rwa [show l.getD i false = l[i] by simp [List.getD_eq_getElem?_getD, a]] at b
  have hno : (∀ i, i < l.length → l.getD i false = false) → false = l.any id := fun h => by
    rw [eq_comm, List.any_eq_false]
    intro x hx
    obtain ⟨j, hj, rfl⟩ := List.mem_iff_getElem.1 hx
    have := h j hj
    rw [show l.getD j false = l[j] by simp [List.getD_eq_getElem?_getD, hj]] at this
    simp [this]
  generalize l.any id = r at *
  (refine callS_of_awp (fun w args => Try.call41 ..) Try.func41 rfl (fun w0 m0 wz => ?_); simp only [Try.ntmps41, Try.results41, initT, junks, postC, watchC, sll, sl, List.toList_toArray, List.cons_append, List.nil_append, List.length_cons, List.length_nil, Nat.reduceAdd, Nat.reduceSub])
  (repeat' (first
    | (refine awp_seqK ?_)
    | (refine kt ?_)
    | (refine And.intro ?_ ?_)
    | ((first | refine awp_region ?_ | refine awp_draw (by kernel_rfl) (by kernel_rfl) ?_ | refine Imp.le2 ?_ | refine awp_label ?_ | refine awp_skip ?_ | refine awp_exit ?_ | refine awp_cd ?_ | refine awp_ret ?_); simp (maxSteps := 4000000) only [go_sem, List.append_eq, List.cons_append, List.nil_append, Nat.reduceAdd, Nat.reduceMul, Nat.reduceSub, Nat.reduceLeDiff, Nat.reduceLT, Int.reduceAdd, Int.reduceToNat, Int.reduceLE, Int.reduceLT, Int.reduceNeg, reduceIte, postC, watchC, sll])
    | (intro _h)
    | (refine awp_block ?_)
    | (refine awp_scope ?_)
    | (refine go_split (fun _h => ?_) (fun _h => ?_) <;> simp (maxSteps := 4000000) only [go_sem, List.append_eq, List.cons_append, List.nil_append, Nat.reduceAdd, Nat.reduceMul, Nat.reduceSub, Nat.reduceLeDiff, Nat.reduceLT, Int.reduceAdd, Int.reduceToNat, Int.reduceLE, Int.reduceLT, Int.reduceNeg, reduceIte, postC, watchC, sll])
    | (show heapOK _ _ = true; kernel_rfl)
    | (omega)))
  refine awp_loopJ (fun i : Nat => i ≤ l.length ∧ ∀ j : Nat, j < i → l.getD j false = false) (fun i => ⟨mkT 14 [(0, .psl false l.length (bools l)), (3, .int .i64 i)], [], []⟩) (fun i => l.length - i) 0 ⟨Nat.zero_le _, by simp⟩ (.le2 ?_) ?_
  · simp (maxSteps := 4000000) only [go_sem, List.append_eq, List.cons_append, List.nil_append, Nat.reduceAdd, Nat.reduceMul, Nat.reduceSub, Nat.reduceLeDiff, Nat.reduceLT, Int.reduceAdd, Int.reduceToNat, Int.reduceLE, Int.reduceLT, Int.reduceNeg, reduceIte, postC, watchC, sll]
  · rintro i ⟨hi, hj⟩
    simp (maxSteps := 4000000) only [go_sem, List.append_eq, List.cons_append, List.nil_append, Nat.reduceAdd, Nat.reduceMul, Nat.reduceSub, Nat.reduceLeDiff, Nat.reduceLT, Int.reduceAdd, Int.reduceToNat, Int.reduceLE, Int.reduceLT, Int.reduceNeg, reduceIte, postC, watchC, sll]
    (repeat' (first
    | (refine awp_seqK ?_)
    | (refine kt ?_)
    | (refine And.intro ?_ ?_)
    | ((first | refine awp_region ?_ | refine awp_draw (by kernel_rfl) (by kernel_rfl) ?_ | refine Imp.le2 ?_ | refine awp_label ?_ | refine awp_skip ?_ | refine awp_exit ?_ | refine awp_cd ?_ | refine awp_ret ?_); simp (maxSteps := 4000000) only [go_sem, List.append_eq, List.cons_append, List.nil_append, Nat.reduceAdd, Nat.reduceMul, Nat.reduceSub, Nat.reduceLeDiff, Nat.reduceLT, Int.reduceAdd, Int.reduceToNat, Int.reduceLE, Int.reduceLT, Int.reduceNeg, reduceIte, postC, watchC, sll])
    | (intro _h)
    | (refine awp_block ?_)
    | (refine awp_scope ?_)
    | (refine go_split (fun _h => ?_) (fun _h => ?_) <;> simp (maxSteps := 4000000) only [go_sem, List.append_eq, List.cons_append, List.nil_append, Nat.reduceAdd, Nat.reduceMul, Nat.reduceSub, Nat.reduceLeDiff, Nat.reduceLT, Int.reduceAdd, Int.reduceToNat, Int.reduceLE, Int.reduceLT, Int.reduceNeg, reduceIte, postC, watchC, sll])
    | (show heapOK _ _ = true; kernel_rfl)
    | (omega)))
    all_goals first
      | (refine ⟨i + 1, ⟨by omega, fun j hji => ?_⟩, by omega, .le2 ?_⟩
         · rcases Nat.lt_succ_iff_lt_or_eq.1 hji with h | rfl
           · exact hj j h
           · assumption
         · simp (maxSteps := 4000000) only [go_sem, List.append_eq, List.cons_append, List.nil_append, Nat.reduceAdd, Nat.reduceMul, Nat.reduceSub, Nat.reduceLeDiff, Nat.reduceLT, Int.reduceAdd, Int.reduceToNat, Int.reduceLE, Int.reduceLT, Int.reduceNeg, reduceIte, postC, watchC, sll] <;> omega)
      | exact (hyes i (by omega) ‹_›).symm
      | exact (hno (fun j hjl => hj j (by omega))).symm
      | exact (hyes i (by omega) ‹_›)
      | exact (hno (fun j hjl => hj j (by omega)))
/-- What may be after k rows with a gauge failed, as a list. -/
def mayL (p : Post) (reads : List (List Int)) (f : Int) (k : Nat) : List Bool := tab 1001 fun v => inE (gAt p reads k f) v
theorem mayL_length {p : Post} {reads : List (List Int)} {f : Int} {k : Nat} : (mayL p reads f k).length = 1001 := tab_length
attribute [go_sem] mayL_length
theorem may_c (p : Post) (reads : List (List Int)) (f : Int) (hp : PostOK p) (hr : ReadsOK p reads) : CallS Try.prog 42 [.agg (postC p), sll reads, .int .i64 f] (.psl false 1001 (bools (mayL p reads f reads.length))) := by
  have hl := hr.len
  (refine callS_of_awp (fun w args => Try.call42 ..) Try.func42 rfl (fun w0 m0 wz => ?_); simp only [Try.ntmps42, Try.results42, initT, junks, postC, watchC, sll, sl, List.toList_toArray, List.cons_append, List.nil_append, List.length_cons, List.length_nil, Nat.reduceAdd, Nat.reduceSub])
  (repeat' (first
    | (refine awp_seqK ?_)
    | (refine kt ?_)
    | (refine And.intro ?_ ?_)
    | ((first | refine awp_region ?_ | refine awp_draw (by kernel_rfl) (by kernel_rfl) ?_ | refine Imp.le2 ?_ | refine awp_label ?_ | refine awp_skip ?_ | refine awp_exit ?_ | refine awp_cd ?_ | refine awp_ret ?_); simp (maxSteps := 4000000) only [go_sem, List.append_eq, List.cons_append, List.nil_append, Nat.reduceAdd, Nat.reduceMul, Nat.reduceSub, Nat.reduceLeDiff, Nat.reduceLT, Int.reduceAdd, Int.reduceToNat, Int.reduceLE, Int.reduceLT, Int.reduceNeg, reduceIte, postC, watchC, sll, ↓rep_bools, ↓rep_ints])
    | (intro _h)
    | (refine awp_block ?_)
    | (refine awp_scope ?_)
    | (refine go_split (fun _h => ?_) (fun _h => ?_) <;> simp (maxSteps := 4000000) only [go_sem, List.append_eq, List.cons_append, List.nil_append, Nat.reduceAdd, Nat.reduceMul, Nat.reduceSub, Nat.reduceLeDiff, Nat.reduceLT, Int.reduceAdd, Int.reduceToNat, Int.reduceLE, Int.reduceLT, Int.reduceNeg, reduceIte, postC, watchC, sll, ↓rep_bools, ↓rep_ints])
    | (show heapOK _ _ = true; kernel_rfl)
    | (omega)))
  refine awp_loopN 1001 (fun v => ⟨mkT 100 [(1, sll reads), (2, .int .i64 f), (3, .ptr 0 0 0), (7, .osl 1 0 0 1001), (8, .int .i64 v)], [some (.cells 46 1 0 (postC p)), some (.cells 4 1 0 (bools (tab 1001 fun i => decide (i < v))))], []⟩) (.le2 ?_) ?_
  · simp only [postC]; simp (maxSteps := 4000000) only [go_sem, List.append_eq, List.cons_append, List.nil_append, Nat.reduceAdd, Nat.reduceMul, Nat.reduceSub, Nat.reduceLeDiff, Nat.reduceLT, Int.reduceAdd, Int.reduceToNat, Int.reduceLE, Int.reduceLT, Int.reduceNeg, reduceIte, postC, watchC, sll]
    simp
  · intro v hv
    simp only [postC]; simp (maxSteps := 4000000) only [go_sem, List.append_eq, List.cons_append, List.nil_append, Nat.reduceAdd, Nat.reduceMul, Nat.reduceSub, Nat.reduceLeDiff, Nat.reduceLT, Int.reduceAdd, Int.reduceToNat, Int.reduceLE, Int.reduceLT, Int.reduceNeg, reduceIte, postC, watchC, sll]
    (repeat' (first
    | (refine awp_seqK ?_)
    | (refine kt ?_)
    | (refine And.intro ?_ ?_)
    | ((first | refine awp_region ?_ | refine awp_draw (by kernel_rfl) (by kernel_rfl) ?_ | refine Imp.le2 ?_ | refine awp_label ?_ | refine awp_skip ?_ | refine awp_exit ?_ | refine awp_cd ?_ | refine awp_ret ?_); simp (maxSteps := 4000000) only [go_sem, List.append_eq, List.cons_append, List.nil_append, Nat.reduceAdd, Nat.reduceMul, Nat.reduceSub, Nat.reduceLeDiff, Nat.reduceLT, Int.reduceAdd, Int.reduceToNat, Int.reduceLE, Int.reduceLT, Int.reduceNeg, reduceIte, postC, watchC, sll])
    | (intro _h)
    | (refine awp_block ?_)
    | (refine awp_scope ?_)
    | (refine go_split (fun _h => ?_) (fun _h => ?_) <;> simp (maxSteps := 4000000) only [go_sem, List.append_eq, List.cons_append, List.nil_append, Nat.reduceAdd, Nat.reduceMul, Nat.reduceSub, Nat.reduceLeDiff, Nat.reduceLT, Int.reduceAdd, Int.reduceToNat, Int.reduceLE, Int.reduceLT, Int.reduceNeg, reduceIte, postC, watchC, sll])
    | (show heapOK _ _ = true; kernel_rfl)
    | (omega)))
    · rw [isp_tab (by omega)]
      congr 1
      refine tab_congr fun j hj => ?_
      by_cases e : j = v
      · subst e; simp
      · rw [if_neg e, decide_eq_decide]; omega
    · have ev : v = 1001 := by omega
      (refine awp_frz 1 rfl (by simp (maxSteps := 4000000) only [go_sem, List.append_eq, List.cons_append, List.nil_append, Nat.reduceAdd, Nat.reduceMul, Nat.reduceSub, Nat.reduceLeDiff, Nat.reduceLT, Int.reduceAdd, Int.reduceToNat, Int.reduceLE, Int.reduceLT, Int.reduceNeg, reduceIte, postC, watchC, sll]) (fun _ => rfl) ?_; simp only [frz, fzl, fz2, fz1, fz0, fzH, fzHs, fzO, fzB, List.map_cons, List.map_nil, if_true, if_false, reduceIte, Nat.reduceEqDiff, Nat.reduceAdd, Nat.succ_ne_self, Nat.zero_ne_one, Nat.one_ne_zero, reduceCtorEq, and_self])
      refine awp_loopN reads.length (fun h => ⟨mkT 100 [(1, sll reads), (2, .int .i64 f), (3, .ptr 0 0 0), (7, .psl false 1001 (bools (mayL p reads f h))), (9, .int .i64 h)], [some (.cells 46 1 0 (postC p))], []⟩) (.le2 ?_) ?_
      · simp only [postC]; simp (maxSteps := 4000000) only [go_sem, List.append_eq, List.cons_append, List.nil_append, Nat.reduceAdd, Nat.reduceMul, Nat.reduceSub, Nat.reduceLeDiff, Nat.reduceLT, Int.reduceAdd, Int.reduceToNat, Int.reduceLE, Int.reduceLT, Int.reduceNeg, reduceIte, postC, watchC, sll]
        refine congrArg bools (tab_congr fun j hj => ?_)
        simp only [gAt, inE]
        rw [decide_eq_decide]; omega
      · clear ev hv
        intro h hh
        rcases Nat.lt_or_eq_of_le hh with hh1 | hh1
        · have hrow := hr.rows h hh1
          have hga := hp.gain
          have hdr := hp.drop
          have hgok := gAt_ok (p := p) (reads := reads) h
          have hnew : gAt p reads (h + 1) f = (gAt p reads h f).bind (stepX p (reads.getD h []) (decide (h = 0)) f) := rfl
          simp only [postC]; simp (maxSteps := 4000000) only [go_sem, List.append_eq, List.cons_append, List.nil_append, Nat.reduceAdd, Nat.reduceMul, Nat.reduceSub, Nat.reduceLeDiff, Nat.reduceLT, Int.reduceAdd, Int.reduceToNat, Int.reduceLE, Int.reduceLT, Int.reduceNeg, reduceIte, postC, watchC, sll]
          (repeat' (first
    | (refine awp_seqK ?_)
    | (refine kt ?_)
    | (refine And.intro ?_ ?_)
    | ((first | refine awp_region ?_ | refine awp_draw (by kernel_rfl) (by kernel_rfl) ?_ | refine Imp.le2 ?_ | refine awp_label ?_ | refine awp_skip ?_ | refine awp_exit ?_ | refine awp_cd ?_ | refine awp_ret ?_); simp (maxSteps := 4000000) only [go_sem, List.append_eq, List.cons_append, List.nil_append, Nat.reduceAdd, Nat.reduceMul, Nat.reduceSub, Nat.reduceLeDiff, Nat.reduceLT, Int.reduceAdd, Int.reduceToNat, Int.reduceLE, Int.reduceLT, Int.reduceNeg, reduceIte, postC, watchC, sll, ↓rep_bools, ↓rep_ints])
    | (intro _h)
    | (refine awp_block ?_)
    | (refine awp_scope ?_)
    | (refine go_split (fun _h => ?_) (fun _h => ?_) <;> simp (maxSteps := 4000000) only [go_sem, List.append_eq, List.cons_append, List.nil_append, Nat.reduceAdd, Nat.reduceMul, Nat.reduceSub, Nat.reduceLeDiff, Nat.reduceLT, Int.reduceAdd, Int.reduceToNat, Int.reduceLE, Int.reduceLT, Int.reduceNeg, reduceIte, postC, watchC, sll, ↓rep_bools, ↓rep_ints])
    | (show heapOK _ _ = true; kernel_rfl)
    | (omega)))
          refine awp_loopN 1001 (fun v => ⟨mkT 100 [(1, sll reads), (2, .int .i64 f), (3, .ptr 0 0 0), (7, .psl false 1001 (bools (mayL p reads f h))), (9, .int .i64 h), (10, .osl 1 0 0 1001), (11, .osl 2 0 0 1002), (12, .int .i64 v)],
            [some (.cells 46 1 0 (postC p)), some (.cells 4 1 0 (bools (tab 1001 fun _ => false))), some (.cells 3 1 0 (ints (tab 1002 fun i => if i ≤ v then cnt (fun u => inE (gAt p reads h f) u) i else 0)))], []⟩) (.le2 ?_) ?_
          · simp only [postC]; simp (maxSteps := 4000000) only [go_sem, List.append_eq, List.cons_append, List.nil_append, Nat.reduceAdd, Nat.reduceMul, Nat.reduceSub, Nat.reduceLeDiff, Nat.reduceLT, Int.reduceAdd, Int.reduceToNat, Int.reduceLE, Int.reduceLT, Int.reduceNeg, reduceIte, postC, watchC, sll]
            refine congrArg ints (tab_congr fun j hj => ?_)
            split
            · have : j = 0 := by omega
              subst this; exact cnt_zero.symm
            · rfl
          · intro v hv
            have e1 : (tab 1002 fun i => if i ≤ v then cnt (fun u => inE (gAt p reads h f) u) i else 0).getD v 0 = cnt (fun u => inE (gAt p reads h f) u) v := by
              rw [tab_getD (by omega), if_pos (Nat.le_refl _)]
            have e2 : v < 1001 → isp (tab 1002 fun i => if i ≤ v then cnt (fun u => inE (gAt p reads h f) u) i else 0) (v + 1) (cnt (fun u => inE (gAt p reads h f) u) v) = tab 1002 (fun i => if i = v + 1 then cnt (fun u => inE (gAt p reads h f) u) v else if i ≤ v then cnt (fun u => inE (gAt p reads h f) u) i else 0) := fun h => isp_tab (by omega)
            have e3 : v < 1001 → (mayL p reads f h).getD v false = inE (gAt p reads h f) v := fun h => tab_getD h
            have e4 : v < 1001 → (tab 1002 (fun i => if i = v + 1 then cnt (fun u => inE (gAt p reads h f) u) v else if i ≤ v then cnt (fun u => inE (gAt p reads h f) u) i else 0)).getD (v + 1) 0 = cnt (fun u => inE (gAt p reads h f) u) v := fun h => by
              rw [tab_getD (by omega), if_pos rfl]
            have e5 := cnt_bd (f := fun u => inE (gAt p reads h f) u) v
            have e0 : ((v : Int) + 1).toNat = v + 1 := by omega
            have ec : cnt (fun u => inE (gAt p reads h f) u) (v + 1) = if inE (gAt p reads h f) v = true then cnt (fun u => inE (gAt p reads h f) u) v + 1 else cnt (fun u => inE (gAt p reads h f) u) v := cnt_succ
            rcases Nat.lt_or_eq_of_le hv with hv1 | hv1
            · have e2 := e2 hv1
              have e3 := e3 hv1
              have e4 := e4 hv1
              simp only [postC]; simp (maxSteps := 4000000) only [go_sem, List.append_eq, List.cons_append, List.nil_append, Nat.reduceAdd, Nat.reduceMul, Nat.reduceSub, Nat.reduceLeDiff, Nat.reduceLT, Int.reduceAdd, Int.reduceToNat, Int.reduceLE, Int.reduceLT, Int.reduceNeg, reduceIte, postC, watchC, sll]
              cases hnw : inE (gAt p reads h f) v
              · rw [hnw] at e3 ec
                (repeat' (first
    | (refine awp_seqK ?_)
    | (refine kt ?_)
    | (refine And.intro ?_ ?_)
    | ((first | refine awp_region ?_ | refine awp_draw (by kernel_rfl) (by kernel_rfl) ?_ | refine Imp.le2 ?_ | refine awp_label ?_ | refine awp_skip ?_ | refine awp_exit ?_ | refine awp_cd ?_ | refine awp_ret ?_); simp (maxSteps := 4000000) only [go_sem, List.append_eq, List.cons_append, List.nil_append, Nat.reduceAdd, Nat.reduceMul, Nat.reduceSub, Nat.reduceLeDiff, Nat.reduceLT, Int.reduceAdd, Int.reduceToNat, Int.reduceLE, Int.reduceLT, Int.reduceNeg, reduceIte, postC, watchC, sll, e0, e1, e2, e3, e4, sp_ints])
    | (intro _h)
    | (refine awp_block ?_)
    | (refine awp_scope ?_)
    | (refine go_split (fun _h => ?_) (fun _h => ?_) <;> simp (maxSteps := 4000000) only [go_sem, List.append_eq, List.cons_append, List.nil_append, Nat.reduceAdd, Nat.reduceMul, Nat.reduceSub, Nat.reduceLeDiff, Nat.reduceLT, Int.reduceAdd, Int.reduceToNat, Int.reduceLE, Int.reduceLT, Int.reduceNeg, reduceIte, postC, watchC, sll, e0, e1, e2, e3, e4, sp_ints])
    | (show heapOK _ _ = true; kernel_rfl)
    | (omega)))
                all_goals first
                  | omega
                  | (refine congrArg ints ?_
                     try rw [isp_tab (by omega)]
                     refine tab_congr fun i hi => ?_
                     rcases Nat.lt_trichotomy i (v + 1) with h9 | h9 | h9
                     · simp only [show ¬ i = v + 1 by omega, show i ≤ v by omega, show i ≤ v + 1 by omega, if_true, if_false]
                     · subst h9
                       simp only [if_true, Nat.le_refl, ec, Bool.false_eq_true, if_false]
                     · simp only [show ¬ i = v + 1 by omega, show ¬ i ≤ v by omega, show ¬ i ≤ v + 1 by omega, if_false])
              · rw [hnw] at e3 ec
                (repeat' (first
    | (refine awp_seqK ?_)
    | (refine kt ?_)
    | (refine And.intro ?_ ?_)
    | ((first | refine awp_region ?_ | refine awp_draw (by kernel_rfl) (by kernel_rfl) ?_ | refine Imp.le2 ?_ | refine awp_label ?_ | refine awp_skip ?_ | refine awp_exit ?_ | refine awp_cd ?_ | refine awp_ret ?_); simp (maxSteps := 4000000) only [go_sem, List.append_eq, List.cons_append, List.nil_append, Nat.reduceAdd, Nat.reduceMul, Nat.reduceSub, Nat.reduceLeDiff, Nat.reduceLT, Int.reduceAdd, Int.reduceToNat, Int.reduceLE, Int.reduceLT, Int.reduceNeg, reduceIte, postC, watchC, sll, e0, e1, e2, e3, e4, sp_ints])
    | (intro _h)
    | (refine awp_block ?_)
    | (refine awp_scope ?_)
    | (refine go_split (fun _h => ?_) (fun _h => ?_) <;> simp (maxSteps := 4000000) only [go_sem, List.append_eq, List.cons_append, List.nil_append, Nat.reduceAdd, Nat.reduceMul, Nat.reduceSub, Nat.reduceLeDiff, Nat.reduceLT, Int.reduceAdd, Int.reduceToNat, Int.reduceLE, Int.reduceLT, Int.reduceNeg, reduceIte, postC, watchC, sll, e0, e1, e2, e3, e4, sp_ints])
    | (show heapOK _ _ = true; kernel_rfl)
    | (omega)))
                all_goals first
                  | omega
                  | (refine congrArg ints ?_
                     try rw [isp_tab (by omega)]
                     refine tab_congr fun i hi => ?_
                     rcases Nat.lt_trichotomy i (v + 1) with h9 | h9 | h9
                     · simp only [show ¬ i = v + 1 by omega, show i ≤ v by omega, show i ≤ v + 1 by omega, if_true, if_false]
                     · subst h9
                       simp only [if_true, Nat.le_refl, ec, Bool.false_eq_true, if_false]
                     · simp only [show ¬ i = v + 1 by omega, show ¬ i ≤ v by omega, show ¬ i ≤ v + 1 by omega, if_false])
            · simp only [postC]; simp (maxSteps := 4000000) only [go_sem, List.append_eq, List.cons_append, List.nil_append, Nat.reduceAdd, Nat.reduceMul, Nat.reduceSub, Nat.reduceLeDiff, Nat.reduceLT, Int.reduceAdd, Int.reduceToNat, Int.reduceLE, Int.reduceLT, Int.reduceNeg, reduceIte, postC, watchC, sll]
              (repeat' (first
    | ((exfalso; omega))
    | (refine awp_seqK ?_)
    | (refine kt ?_)
    | (refine And.intro ?_ ?_)
    | ((first | refine awp_region ?_ | refine awp_draw (by kernel_rfl) (by kernel_rfl) ?_ | refine Imp.le2 ?_ | refine awp_label ?_ | refine awp_skip ?_ | refine awp_exit ?_ | refine awp_cd ?_ | refine awp_ret ?_); simp (maxSteps := 4000000) only [go_sem, List.append_eq, List.cons_append, List.nil_append, Nat.reduceAdd, Nat.reduceMul, Nat.reduceSub, Nat.reduceLeDiff, Nat.reduceLT, Int.reduceAdd, Int.reduceToNat, Int.reduceLE, Int.reduceLT, Int.reduceNeg, reduceIte, postC, watchC, sll])
    | (intro _h)
    | (refine awp_block ?_)
    | (refine awp_scope ?_)
    | (refine go_split (fun _h => ?_) (fun _h => ?_) <;> simp (maxSteps := 4000000) only [go_sem, List.append_eq, List.cons_append, List.nil_append, Nat.reduceAdd, Nat.reduceMul, Nat.reduceSub, Nat.reduceLeDiff, Nat.reduceLT, Int.reduceAdd, Int.reduceToNat, Int.reduceLE, Int.reduceLT, Int.reduceNeg, reduceIte, postC, watchC, sll])
    | (show heapOK _ _ = true; kernel_rfl)
    | (omega)))
              refine awp_loopN 1001 (fun v => ⟨mkT 100 [(1, sll reads), (2, .int .i64 f), (3, .ptr 0 0 0), (7, .psl false 1001 (bools (mayL p reads f h))), (9, .int .i64 h), (10, .osl 1 0 0 1001), (11, .osl 2 0 0 1002), (13, .int .i64 v)],
                [some (.cells 46 1 0 (postC p)), some (.cells 4 1 0 (bools (tab 1001 fun i => if i < v then inE (gAt p reads (h + 1) f) i else false))), some (.cells 3 1 0 (ints (tab 1002 (cnt (fun u => inE (gAt p reads h f) u)))))], []⟩) (.le2 ?_) ?_
              · simp only [postC]; simp (maxSteps := 4000000) only [go_sem, List.append_eq, List.cons_append, List.nil_append, Nat.reduceAdd, Nat.reduceMul, Nat.reduceSub, Nat.reduceLeDiff, Nat.reduceLT, Int.reduceAdd, Int.reduceToNat, Int.reduceLE, Int.reduceLT, Int.reduceNeg, reduceIte, postC, watchC, sll]
                refine ⟨congrArg bools (tab_congr fun j hj => ?_), congrArg ints (tab_congr fun j hj => ?_)⟩
                · rw [if_neg (by omega)]
                · rw [if_pos (by omega)]
              · clear e1 e2 e3 e4 e5 e0 ec hv hv1
                intro v hv
                have e1 : ((min 1000 ((v : Int) + p.drop) + 1)).toNat = fromHi p v := by unfold fromHi; omega
                have e2 : (max 0 ((v : Int) - p.gain)).toNat = fromLo p v := rfl
                have e3 : v < 1001 → (tab 1002 (cnt (fun u => inE (gAt p reads h f) u))).getD (fromHi p v) 0 = cnt (fun u => inE (gAt p reads h f) u) (fromHi p v) := fun _ => tab_getD (by unfold fromHi; omega)
                have e4 : v < 1001 → (tab 1002 (cnt (fun u => inE (gAt p reads h f) u))).getD (fromLo p v) 0 = cnt (fun u => inE (gAt p reads h f) u) (fromLo p v) := fun _ => tab_getD (by unfold fromLo; omega)
                have hfh : v < 1001 → fromHi p v < 1002 := fun _ => by unfold fromHi; omega
                have hfl : v < 1001 → fromLo p v < 1002 := fun _ => by unfold fromLo; omega
                have hag := fun k : v < 1001 => agrees_c p (reads.getD h []) f v hp hrow ⟨by omega, by omega⟩
                simp only [postC, sl] at hag
                rcases Nat.lt_or_eq_of_le hv with hv1 | hv1
                · have e3 := e3 hv1
                  have e4 := e4 hv1
                  have hag := hag hv1
                  have hfh := hfh hv1
                  have hfl := hfl hv1
                  have hsi := step_in (p := p) (row := reads.getD h []) (f := f) (x := gAt p reads h f) (v := v) hp (by omega) (fun z hz => hgok f z hz)
                  by_cases h0 : h = 0
                  · have hin : inE (gAt p reads (h + 1) f) v = agreesB p.errs (reads.getD h []) f v := by
                      subst h0; exact first_in (by omega)
                    have e0 : ((h : Int) = 0) = True := eq_true (by omega)
                    generalize agreesB p.errs (reads.getD h []) f v = ab at *
                    simp only [postC]; simp (maxSteps := 4000000) only [go_sem, List.append_eq, List.cons_append, List.nil_append, Nat.reduceAdd, Nat.reduceMul, Nat.reduceSub, Nat.reduceLeDiff, Nat.reduceLT, Int.reduceAdd, Int.reduceToNat, Int.reduceLE, Int.reduceLT, Int.reduceNeg, reduceIte, postC, watchC, sll]
                    (repeat' (first
    | (refine awp_seqK ?_)
    | (refine kt ?_)
    | (refine And.intro ?_ ?_)
    | ((first | refine awp_region ?_ | refine awp_draw (by kernel_rfl) (by kernel_rfl) ?_ | refine Imp.le2 ?_ | refine awp_label ?_ | refine awp_skip ?_ | refine awp_exit ?_ | refine awp_cd ?_ | refine awp_ret ?_); simp (maxSteps := 4000000) only [go_sem, List.append_eq, List.cons_append, List.nil_append, Nat.reduceAdd, Nat.reduceMul, Nat.reduceSub, Nat.reduceLeDiff, Nat.reduceLT, Int.reduceAdd, Int.reduceToNat, Int.reduceLE, Int.reduceLT, Int.reduceNeg, reduceIte, postC, watchC, sll, e0, decide_true, e1, e2, e3, e4])
    | (intro _h)
    | (refine awp_block ?_)
    | (refine awp_scope ?_)
    | ((first | refine callK_of (hag) ?_); try simp (maxSteps := 4000000) only [go_sem, List.append_eq, List.cons_append, List.nil_append, Nat.reduceAdd, Nat.reduceMul, Nat.reduceSub, Nat.reduceLeDiff, Nat.reduceLT, Int.reduceAdd, Int.reduceToNat, Int.reduceLE, Int.reduceLT, Int.reduceNeg, reduceIte, postC, watchC, sll, e0, decide_true, e1, e2, e3, e4])
    | (refine go_split (fun _h => ?_) (fun _h => ?_) <;> simp (maxSteps := 4000000) only [go_sem, List.append_eq, List.cons_append, List.nil_append, Nat.reduceAdd, Nat.reduceMul, Nat.reduceSub, Nat.reduceLeDiff, Nat.reduceLT, Int.reduceAdd, Int.reduceToNat, Int.reduceLE, Int.reduceLT, Int.reduceNeg, reduceIte, postC, watchC, sll, e0, decide_true, e1, e2, e3, e4])
    | (show heapOK _ _ = true; kernel_rfl)
    | (omega)))
                    all_goals (refine congrArg bools (tab_fill hv1 ?_); rw [hin]; assumption)
                  · have hin : inE (gAt p reads (h + 1) f) v = (comesB p (gAt p reads h f) v && agreesB p.errs (reads.getD h []) f v) := by
                      rw [hnew, decide_eq_false h0]; exact hsi
                    have e0 : ((h : Int) = 0) = False := eq_false (by omega)
                    unfold comesB at hin
                    generalize agreesB p.errs (reads.getD h []) f v = ab at *
                    simp only [postC]; simp (maxSteps := 4000000) only [go_sem, List.append_eq, List.cons_append, List.nil_append, Nat.reduceAdd, Nat.reduceMul, Nat.reduceSub, Nat.reduceLeDiff, Nat.reduceLT, Int.reduceAdd, Int.reduceToNat, Int.reduceLE, Int.reduceLT, Int.reduceNeg, reduceIte, postC, watchC, sll]
                    (repeat' (first
    | (refine awp_seqK ?_)
    | (refine kt ?_)
    | (refine And.intro ?_ ?_)
    | ((first | refine awp_region ?_ | refine awp_draw (by kernel_rfl) (by kernel_rfl) ?_ | refine Imp.le2 ?_ | refine awp_label ?_ | refine awp_skip ?_ | refine awp_exit ?_ | refine awp_cd ?_ | refine awp_ret ?_); simp (maxSteps := 4000000) only [go_sem, List.append_eq, List.cons_append, List.nil_append, Nat.reduceAdd, Nat.reduceMul, Nat.reduceSub, Nat.reduceLeDiff, Nat.reduceLT, Int.reduceAdd, Int.reduceToNat, Int.reduceLE, Int.reduceLT, Int.reduceNeg, reduceIte, postC, watchC, sll, e0, decide_false, e1, e2, e3, e4])
    | (intro _h)
    | (refine awp_block ?_)
    | (refine awp_scope ?_)
    | ((first | refine callK_of (hag) ?_); try simp (maxSteps := 4000000) only [go_sem, List.append_eq, List.cons_append, List.nil_append, Nat.reduceAdd, Nat.reduceMul, Nat.reduceSub, Nat.reduceLeDiff, Nat.reduceLT, Int.reduceAdd, Int.reduceToNat, Int.reduceLE, Int.reduceLT, Int.reduceNeg, reduceIte, postC, watchC, sll, e0, decide_false, e1, e2, e3, e4])
    | (refine go_split (fun _h => ?_) (fun _h => ?_) <;> simp (maxSteps := 4000000) only [go_sem, List.append_eq, List.cons_append, List.nil_append, Nat.reduceAdd, Nat.reduceMul, Nat.reduceSub, Nat.reduceLeDiff, Nat.reduceLT, Int.reduceAdd, Int.reduceToNat, Int.reduceLE, Int.reduceLT, Int.reduceNeg, reduceIte, postC, watchC, sll, e0, decide_false, e1, e2, e3, e4])
    | (show heapOK _ _ = true; kernel_rfl)
    | (omega)))
                    all_goals (refine congrArg bools (tab_fill hv1 ?_); rw [hin])
                    all_goals first
                      | (rw [decide_eq_true ‹_›, Bool.true_and]; assumption)
                      | (rw [decide_eq_false ‹_›, Bool.false_and])
                · simp only [postC]; simp (maxSteps := 4000000) only [go_sem, List.append_eq, List.cons_append, List.nil_append, Nat.reduceAdd, Nat.reduceMul, Nat.reduceSub, Nat.reduceLeDiff, Nat.reduceLT, Int.reduceAdd, Int.reduceToNat, Int.reduceLE, Int.reduceLT, Int.reduceNeg, reduceIte, postC, watchC, sll]
                  (repeat' (first
    | ((exfalso; omega))
    | (refine awp_seqK ?_)
    | (refine kt ?_)
    | (refine And.intro ?_ ?_)
    | ((first | refine awp_region ?_ | refine awp_draw (by kernel_rfl) (by kernel_rfl) ?_ | refine awp_label ?_ | refine awp_skip ?_ | refine awp_exit ?_ | refine awp_cd ?_ | refine awp_ret ?_); simp (maxSteps := 4000000) only [go_sem, List.append_eq, List.cons_append, List.nil_append, Nat.reduceAdd, Nat.reduceMul, Nat.reduceSub, Nat.reduceLeDiff, Nat.reduceLT, Int.reduceAdd, Int.reduceToNat, Int.reduceLE, Int.reduceLT, Int.reduceNeg, reduceIte, postC, watchC, sll])
    | (intro _h)
    | (refine awp_block ?_)
    | (refine awp_scope ?_)
    | (refine go_split (fun _h => ?_) (fun _h => ?_) <;> simp (maxSteps := 4000000) only [go_sem, List.append_eq, List.cons_append, List.nil_append, Nat.reduceAdd, Nat.reduceMul, Nat.reduceSub, Nat.reduceLeDiff, Nat.reduceLT, Int.reduceAdd, Int.reduceToNat, Int.reduceLE, Int.reduceLT, Int.reduceNeg, reduceIte, postC, watchC, sll])
    | (show heapOK _ _ = true; kernel_rfl)
    | (omega)))
                  (refine Imp.trans (Imp.frz 1 rfl ?_ (fun _ => rfl)) (.le2 ?_); (focus (simp (maxSteps := 4000000) only [go_sem, List.append_eq, List.cons_append, List.nil_append, Nat.reduceAdd, Nat.reduceMul, Nat.reduceSub, Nat.reduceLeDiff, Nat.reduceLT, Int.reduceAdd, Int.reduceToNat, Int.reduceLE, Int.reduceLT, Int.reduceNeg, reduceIte, postC, watchC, sll])); simp only [frz, fzl, fz2, fz1, fz0, fzH, fzHs, fzO, fzB, List.map_cons, List.map_nil, if_true, if_false, reduceIte, Nat.reduceEqDiff, Nat.reduceAdd, Nat.succ_ne_self, Nat.zero_ne_one, Nat.one_ne_zero, reduceCtorEq, and_self]; simp (maxSteps := 4000000) only [go_sem, List.append_eq, List.cons_append, List.nil_append, Nat.reduceAdd, Nat.reduceMul, Nat.reduceSub, Nat.reduceLeDiff, Nat.reduceLT, Int.reduceAdd, Int.reduceToNat, Int.reduceLE, Int.reduceLT, Int.reduceNeg, reduceIte, postC, watchC, sll])
                  refine ⟨congrArg bools (tab_congr fun j hj => ?_), by omega⟩
                  rw [if_pos (by omega)]
        · simp only [postC]; simp (maxSteps := 4000000) only [go_sem, List.append_eq, List.cons_append, List.nil_append, Nat.reduceAdd, Nat.reduceMul, Nat.reduceSub, Nat.reduceLeDiff, Nat.reduceLT, Int.reduceAdd, Int.reduceToNat, Int.reduceLE, Int.reduceLT, Int.reduceNeg, reduceIte, postC, watchC, sll]
          (repeat' (first
    | ((exfalso; omega))
    | (refine awp_seqK ?_)
    | (refine kt ?_)
    | (refine And.intro ?_ ?_)
    | ((first | refine awp_region ?_ | refine awp_draw (by kernel_rfl) (by kernel_rfl) ?_ | refine Imp.le2 ?_ | refine awp_label ?_ | refine awp_skip ?_ | refine awp_exit ?_ | refine awp_cd ?_ | refine awp_ret ?_); simp (maxSteps := 4000000) only [go_sem, List.append_eq, List.cons_append, List.nil_append, Nat.reduceAdd, Nat.reduceMul, Nat.reduceSub, Nat.reduceLeDiff, Nat.reduceLT, Int.reduceAdd, Int.reduceToNat, Int.reduceLE, Int.reduceLT, Int.reduceNeg, reduceIte, postC, watchC, sll])
    | (intro _h)
    | (refine awp_block ?_)
    | (refine awp_scope ?_)
    | (refine go_split (fun _h => ?_) (fun _h => ?_) <;> simp (maxSteps := 4000000) only [go_sem, List.append_eq, List.cons_append, List.nil_append, Nat.reduceAdd, Nat.reduceMul, Nat.reduceSub, Nat.reduceLeDiff, Nat.reduceLT, Int.reduceAdd, Int.reduceToNat, Int.reduceLE, Int.reduceLT, Int.reduceNeg, reduceIte, postC, watchC, sll])
    | (show heapOK _ _ = true; kernel_rfl)
    | (omega)))
          all_goals first | omega | (rw [hh1])
end Go.Am

/- Contracts of the reference: levels, states, truths, errors. -/
namespace Go.Am
open Go.RowKit Go.Proofs
attribute [local irreducible] AWP CallS Kt goK CallK stepK evOps SemF SemY Imp
set_option maxRecDepth 4000
set_option linter.unusedSimpArgs false
set_option linter.unusedVariables false
set_option maxHeartbeats 1600000

def refLeft (p : Post) (v : Int) : Int := if p.fall ≤ v then 0 else if p.gain = 0 then -1 else leftOf p v
theorem left_lt {p : Post} {v : Int} (hv : v < p.fall) (hg : 0 < p.gain) (n : Int) : n < leftOf p v ↔ v + n * p.gain < p.fall := by
  have e : leftOf p v = (p.fall - v + p.gain - 1) / p.gain := by
    unfold leftOf
    rw [if_neg (by omega), if_neg (by omega), Int.tdiv_eq_ediv_of_nonneg (by omega)]
  rw [e]
  have := Int.le_ediv_iff_mul_le (a := n + 1) (b := p.fall - v + p.gain - 1) hg
  rw [Int.add_mul] at this
  omega
theorem refLeft_c (p : Post) (v : Int) (hp : PostOK p) (hv : 0 ≤ v ∧ v ≤ 1000) : CallS Try.prog 90 [.agg (postC p), .int .i64 v] (.int .i64 (refLeft p v)) := by
  have h1 := hp.fall
  have h2 := hp.gain
  have hlt := fun a b => left_lt (p := p) (v := v) a b
  have hb := leftOf_bd hp (show -1000000 ≤ v by omega)
  unfold refLeft
  generalize leftOf p v = L at *
  (refine callS_of_awp (fun w args => Try.call90 ..) Try.func90 rfl (fun w0 m0 wz => ?_); simp only [Try.ntmps90, Try.results90, initT, junks, postC, watchC, sll, sl, List.toList_toArray, List.cons_append, List.nil_append, List.length_cons, List.length_nil, Nat.reduceAdd, Nat.reduceSub])
  (repeat' (first
    | (refine awp_seqK ?_)
    | (refine kt ?_)
    | (refine And.intro ?_ ?_)
    | ((first | refine awp_region ?_ | refine awp_draw (by kernel_rfl) (by kernel_rfl) ?_ | refine Imp.le2 ?_ | refine awp_label ?_ | refine awp_skip ?_ | refine awp_exit ?_ | refine awp_cd ?_ | refine awp_ret ?_); simp (maxSteps := 4000000) only [go_sem, List.append_eq, List.cons_append, List.nil_append, Nat.reduceAdd, Nat.reduceMul, Nat.reduceSub, Nat.reduceLeDiff, Nat.reduceLT, Int.reduceAdd, Int.reduceToNat, Int.reduceLE, Int.reduceLT, Int.reduceNeg, reduceIte, postC, watchC, sll])
    | (intro _h)
    | (refine awp_block ?_)
    | (refine awp_scope ?_)
    | (refine go_split (fun _h => ?_) (fun _h => ?_) <;> simp (maxSteps := 4000000) only [go_sem, List.append_eq, List.cons_append, List.nil_append, Nat.reduceAdd, Nat.reduceMul, Nat.reduceSub, Nat.reduceLeDiff, Nat.reduceLT, Int.reduceAdd, Int.reduceToNat, Int.reduceLE, Int.reduceLT, Int.reduceNeg, reduceIte, postC, watchC, sll])
    | (show heapOK _ _ = true; kernel_rfl)
    | (omega)))
  all_goals first
    | (rw [if_pos (by omega)])
    | (rw [if_neg (by omega), if_pos (by omega)])
    | (refine awp_loopN L.toNat (fun n => ⟨mkT 25 [(1, .int .i64 v), (2, .ptr 0 0 0), (5, .int .i64 n)], [some (.cells 46 1 0 (postC p))], []⟩) (.le2 ?_) ?_
       · simp only [postC]; simp (maxSteps := 4000000) only [go_sem, List.append_eq, List.cons_append, List.nil_append, Nat.reduceAdd, Nat.reduceMul, Nat.reduceSub, Nat.reduceLeDiff, Nat.reduceLT, Int.reduceAdd, Int.reduceToNat, Int.reduceLE, Int.reduceLT, Int.reduceNeg, reduceIte, postC, watchC, sll]
       · intro n hn
         have hl0 := hlt (by omega) (by omega) n
         have hl1 := hlt (by omega) (by omega) ((n : Int) - 1)
         rw [Int.sub_mul] at hl1
         have hnn : 0 ≤ (n : Int) * p.gain := Int.mul_nonneg (by omega) (by omega)
         simp only [postC]; simp (maxSteps := 4000000) only [go_sem, List.append_eq, List.cons_append, List.nil_append, Nat.reduceAdd, Nat.reduceMul, Nat.reduceSub, Nat.reduceLeDiff, Nat.reduceLT, Int.reduceAdd, Int.reduceToNat, Int.reduceLE, Int.reduceLT, Int.reduceNeg, reduceIte, postC, watchC, sll]
         (repeat' (first
    | (refine awp_seqK ?_)
    | (refine kt ?_)
    | (refine And.intro ?_ ?_)
    | ((first | refine awp_region ?_ | refine awp_draw (by kernel_rfl) (by kernel_rfl) ?_ | refine Imp.le2 ?_ | refine awp_label ?_ | refine awp_skip ?_ | refine awp_exit ?_ | refine awp_cd ?_ | refine awp_ret ?_); simp (maxSteps := 4000000) only [go_sem, List.append_eq, List.cons_append, List.nil_append, Nat.reduceAdd, Nat.reduceMul, Nat.reduceSub, Nat.reduceLeDiff, Nat.reduceLT, Int.reduceAdd, Int.reduceToNat, Int.reduceLE, Int.reduceLT, Int.reduceNeg, reduceIte, postC, watchC, sll])
    | (intro _h)
    | (refine awp_block ?_)
    | (refine awp_scope ?_)
    | (refine go_split (fun _h => ?_) (fun _h => ?_) <;> simp (maxSteps := 4000000) only [go_sem, List.append_eq, List.cons_append, List.nil_append, Nat.reduceAdd, Nat.reduceMul, Nat.reduceSub, Nat.reduceLeDiff, Nat.reduceLT, Int.reduceAdd, Int.reduceToNat, Int.reduceLE, Int.reduceLT, Int.reduceNeg, reduceIte, postC, watchC, sll])
    | (show heapOK _ _ = true; kernel_rfl)
    | (omega)))
         all_goals first
           | omega
           | (rw [if_neg (by omega), if_neg (by omega)]; omega)
           | trace_state)
theorem refLevel_c (p : Post) (v : Int) (hp : PostOK p) (hv : 0 ≤ v ∧ v ≤ 1000) : CallS Try.prog 66 [.agg (postC p), .int .i64 v] (.int .u8 (levelOf p v)) := by
  have h1 := hp.fall
  have h2 := hp.gain
  have h3 := hp.out
  have h4 := hp.ahead
  have hc := refLeft_c p v hp hv
  have hL : refLeft p v = -1 ∧ leftOf p v = 1073741824 ∨ refLeft p v = leftOf p v := by
    unfold refLeft leftOf
    by_cases h : p.fall ≤ v
    · rw [if_pos h, if_pos h]; exact .inr rfl
    · rw [if_neg h, if_neg h]
      by_cases h : p.gain = 0
      · rw [if_pos h, if_pos h]; exact .inl ⟨rfl, rfl⟩
      · rw [if_neg h, if_neg h]; exact .inr rfl
  have hb := leftOf_bd hp (show -1000000 ≤ v by omega)
  unfold levelOf
  simp only [postC, sl] at hc
  generalize refLeft p v = R at *
  generalize leftOf p v = L at *
  (refine callS_of_awp (fun w args => Try.call66 ..) Try.func66 rfl (fun w0 m0 wz => ?_); simp only [Try.ntmps66, Try.results66, initT, junks, postC, watchC, sll, sl, List.toList_toArray, List.cons_append, List.nil_append, List.length_cons, List.length_nil, Nat.reduceAdd, Nat.reduceSub])
  (repeat' (first
    | (refine awp_seqK ?_)
    | (refine kt ?_)
    | (refine And.intro ?_ ?_)
    | ((first | refine awp_region ?_ | refine awp_draw (by kernel_rfl) (by kernel_rfl) ?_ | refine Imp.le2 ?_ | refine awp_label ?_ | refine awp_skip ?_ | refine awp_exit ?_ | refine awp_cd ?_ | refine awp_ret ?_); simp (maxSteps := 4000000) only [go_sem, List.append_eq, List.cons_append, List.nil_append, Nat.reduceAdd, Nat.reduceMul, Nat.reduceSub, Nat.reduceLeDiff, Nat.reduceLT, Int.reduceAdd, Int.reduceToNat, Int.reduceLE, Int.reduceLT, Int.reduceNeg, reduceIte, postC, watchC, sll])
    | (intro _h)
    | (refine awp_block ?_)
    | (refine awp_scope ?_)
    | ((first | refine callK_of (hc) ?_); try simp (maxSteps := 4000000) only [go_sem, List.append_eq, List.cons_append, List.nil_append, Nat.reduceAdd, Nat.reduceMul, Nat.reduceSub, Nat.reduceLeDiff, Nat.reduceLT, Int.reduceAdd, Int.reduceToNat, Int.reduceLE, Int.reduceLT, Int.reduceNeg, reduceIte, postC, watchC, sll])
    | (refine go_split (fun _h => ?_) (fun _h => ?_) <;> simp (maxSteps := 4000000) only [go_sem, List.append_eq, List.cons_append, List.nil_append, Nat.reduceAdd, Nat.reduceMul, Nat.reduceSub, Nat.reduceLeDiff, Nat.reduceLT, Int.reduceAdd, Int.reduceToNat, Int.reduceLE, Int.reduceLT, Int.reduceNeg, reduceIte, postC, watchC, sll])
    | (show heapOK _ _ = true; kernel_rfl)
    | (omega)))
  all_goals first
    | omega
    | (split <;> first | omega | (split <;> first | omega | (split <;> omega)))
    | trace_state
/-- The state by the reference. -/
def aLo (s : Option (Int × Int)) : Int := match s with | none => -1 | some s => s.1
def acLo (lo a v : Int) : Int := if v ≤ a then lo else if lo < 0 then a else min lo a
def acHi (hi a b v : Int) : Int := if v ≤ a then hi else max hi (min (v - 1) b)
theorem acLo_is (lo a v : Int) : (v ≤ a ∧ acLo lo a v = lo) ∨ (a < v ∧ lo < 0 ∧ acLo lo a v = a) ∨ (a < v ∧ 0 ≤ lo ∧ acLo lo a v = min lo a) := by
  unfold acLo
  split
  · omega
  · split <;> omega
theorem acHi_is (hi a b v : Int) : (v ≤ a ∧ acHi hi a b v = hi) ∨ (a < v ∧ acHi hi a b v = max hi (min (v - 1) b)) := by
  unfold acHi
  split <;> omega
theorem at_c (p : Post) (reads : List (List Int)) (hp : PostOK p) (hr : ReadsOK p reads) : CallS Try.prog 36 [.agg (postC p), sll reads]
    (.tup [.agg [.int .i64 (aLo (hull (gAt p reads reads.length) (p.errs.length + 1))), .int .i64 (hHi (hull (gAt p reads reads.length) (p.errs.length + 1))), .int .u8 (levelOf p (hHi (hull (gAt p reads reads.length) (p.errs.length + 1))))], .bool (hull (gAt p reads reads.length) (p.errs.length + 1)).isSome]) := by
  obtain ⟨hl1, hl2⟩ := hp.len
  have hl3 := hr.len
  have hgok := gAt_ok (p := p) (reads := reads) reads.length
  have hmc := fun f => may_c p reads f hp hr
  simp only [postC, sl, sll] at hmc
  (refine callS_of_awp (fun w args => Try.call36 ..) Try.func36 rfl (fun w0 m0 wz => ?_); simp only [Try.ntmps36, Try.results36, initT, junks, postC, watchC, sll, sl, List.toList_toArray, List.cons_append, List.nil_append, List.length_cons, List.length_nil, Nat.reduceAdd, Nat.reduceSub])
  (repeat' (first
    | (refine awp_seqK ?_)
    | (refine kt ?_)
    | (refine And.intro ?_ ?_)
    | ((first | refine awp_region ?_ | refine awp_draw (by kernel_rfl) (by kernel_rfl) ?_ | refine Imp.le2 ?_ | refine awp_label ?_ | refine awp_skip ?_ | refine awp_exit ?_ | refine awp_cd ?_ | refine awp_ret ?_); simp (maxSteps := 4000000) only [go_sem, List.append_eq, List.cons_append, List.nil_append, Nat.reduceAdd, Nat.reduceMul, Nat.reduceSub, Nat.reduceLeDiff, Nat.reduceLT, Int.reduceAdd, Int.reduceToNat, Int.reduceLE, Int.reduceLT, Int.reduceNeg, reduceIte, postC, watchC, sll])
    | (intro _h)
    | (refine awp_block ?_)
    | (refine awp_scope ?_)
    | (refine go_split (fun _h => ?_) (fun _h => ?_) <;> simp (maxSteps := 4000000) only [go_sem, List.append_eq, List.cons_append, List.nil_append, Nat.reduceAdd, Nat.reduceMul, Nat.reduceSub, Nat.reduceLeDiff, Nat.reduceLT, Int.reduceAdd, Int.reduceToNat, Int.reduceLE, Int.reduceLT, Int.reduceNeg, reduceIte, postC, watchC, sll])
    | (show heapOK _ _ = true; kernel_rfl)
    | (omega)))
  refine awp_loopN (p.errs.length + 1) (fun i => ⟨mkT 55 [(1, sll reads), (2, .ptr 0 0 0), (4, .ptr 1 0 0), (6, .ptr 2 0 0), (7, .int .i64 ((i : Int) - 1))], [some (.cells 46 1 0 (postC p)), some (.cells 70 1 0 [.int .i64 0, .int .i64 0, .int .u8 0]), some (.cells 70 1 0 [.int .i64 (aLo (hull (gAt p reads reads.length) i)), .int .i64 (hHi (hull (gAt p reads reads.length) i)), .int .u8 0])], []⟩) (.le2 ?_) ?_
  · simp only [postC]; simp (maxSteps := 4000000) only [go_sem, List.append_eq, List.cons_append, List.nil_append, Nat.reduceAdd, Nat.reduceMul, Nat.reduceSub, Nat.reduceLeDiff, Nat.reduceLT, Int.reduceAdd, Int.reduceToNat, Int.reduceLE, Int.reduceLT, Int.reduceNeg, reduceIte, postC, watchC, sll]
    exact ⟨rfl, rfl⟩
  · intro i hi
    have hbd := hull_bd hgok i
    rcases Nat.lt_or_eq_of_le hi with hi1 | hi1
    · have hm := hmc ((i : Int) - 1)
      have hln := mayL_length (p := p) (reads := reads) (f := (i : Int) - 1) (k := reads.length)
      have hget : ∀ v, v < 1001 → (mayL p reads ((i : Int) - 1) reads.length).getD v false = inE (gAt p reads reads.length ((i : Int) - 1)) v := fun v h => tab_getD h
      have hz := hgok ((i : Int) - 1)
      have hsu : hull (gAt p reads reads.length) (i + 1) = match gAt p reads reads.length ((i : Int) - 1) with | none => hull (gAt p reads reads.length) i | some x => some (joinE (hull (gAt p reads reads.length) i) x) := rfl
      generalize mayL p reads ((i : Int) - 1) reads.length = ml at *
      simp only [postC]; simp (maxSteps := 4000000) only [go_sem, List.append_eq, List.cons_append, List.nil_append, Nat.reduceAdd, Nat.reduceMul, Nat.reduceSub, Nat.reduceLeDiff, Nat.reduceLT, Int.reduceAdd, Int.reduceToNat, Int.reduceLE, Int.reduceLT, Int.reduceNeg, reduceIte, postC, watchC, sll]
      (repeat' (first
    | (refine awp_seqK ?_)
    | (refine kt ?_)
    | (refine And.intro ?_ ?_)
    | ((first | refine awp_region ?_ | refine awp_draw (by kernel_rfl) (by kernel_rfl) ?_ | refine Imp.le2 ?_ | refine awp_label ?_ | refine awp_skip ?_ | refine awp_exit ?_ | refine awp_cd ?_ | refine awp_ret ?_); simp (maxSteps := 4000000) only [go_sem, List.append_eq, List.cons_append, List.nil_append, Nat.reduceAdd, Nat.reduceMul, Nat.reduceSub, Nat.reduceLeDiff, Nat.reduceLT, Int.reduceAdd, Int.reduceToNat, Int.reduceLE, Int.reduceLT, Int.reduceNeg, reduceIte, postC, watchC, sll])
    | (intro _h)
    | (refine awp_block ?_)
    | (refine awp_scope ?_)
    | ((first | refine callK_of (hm) ?_); try simp (maxSteps := 4000000) only [go_sem, List.append_eq, List.cons_append, List.nil_append, Nat.reduceAdd, Nat.reduceMul, Nat.reduceSub, Nat.reduceLeDiff, Nat.reduceLT, Int.reduceAdd, Int.reduceToNat, Int.reduceLE, Int.reduceLT, Int.reduceNeg, reduceIte, postC, watchC, sll])
    | (refine go_split (fun _h => ?_) (fun _h => ?_) <;> simp (maxSteps := 4000000) only [go_sem, List.append_eq, List.cons_append, List.nil_append, Nat.reduceAdd, Nat.reduceMul, Nat.reduceSub, Nat.reduceLeDiff, Nat.reduceLT, Int.reduceAdd, Int.reduceToNat, Int.reduceLE, Int.reduceLT, Int.reduceNeg, reduceIte, postC, watchC, sll])
    | (show heapOK _ _ = true; kernel_rfl)
    | (omega)))
      generalize gAt p reads reads.length ((i : Int) - 1) = x at *
      rw [hsu]
      clear hm hmc hsu
      generalize hull (gAt p reads reads.length) i = s at *
      · cases x with
        | none =>
          refine awp_loopN 1001 (fun v => ⟨mkT 55 [(1, sll reads), (2, .ptr 0 0 0), (4, .ptr 1 0 0), (6, .ptr 2 0 0), (7, .int .i64 ((i : Int) - 1)), (8, .psl false 1001 (bools ml)), (9, .int .i64 v)], [some (.cells 46 1 0 (postC p)), some (.cells 70 1 0 [.int .i64 0, .int .i64 0, .int .u8 0]), some (.cells 70 1 0 [.int .i64 (aLo s), .int .i64 (hHi s), .int .u8 0])], []⟩) (.le2 ?_) ?_
          · simp only [postC]; simp (maxSteps := 4000000) only [go_sem, List.append_eq, List.cons_append, List.nil_append, Nat.reduceAdd, Nat.reduceMul, Nat.reduceSub, Nat.reduceLeDiff, Nat.reduceLT, Int.reduceAdd, Int.reduceToNat, Int.reduceLE, Int.reduceLT, Int.reduceNeg, reduceIte, postC, watchC, sll]
          · intro v hv
            have hgv := fun h : v < 1001 => (hget v h).trans (show inE none v = false from rfl)
            rcases Nat.lt_or_eq_of_le hv with hv1 | hv1
            · have hgv := hgv hv1
              simp only [postC]; simp (maxSteps := 4000000) only [go_sem, List.append_eq, List.cons_append, List.nil_append, Nat.reduceAdd, Nat.reduceMul, Nat.reduceSub, Nat.reduceLeDiff, Nat.reduceLT, Int.reduceAdd, Int.reduceToNat, Int.reduceLE, Int.reduceLT, Int.reduceNeg, reduceIte, postC, watchC, sll]
              (repeat' (first
    | (refine awp_seqK ?_)
    | (refine kt ?_)
    | (refine And.intro ?_ ?_)
    | ((first | refine awp_region ?_ | refine awp_draw (by kernel_rfl) (by kernel_rfl) ?_ | refine Imp.le2 ?_ | refine awp_label ?_ | refine awp_skip ?_ | refine awp_exit ?_ | refine awp_cd ?_ | refine awp_ret ?_); simp (maxSteps := 4000000) only [go_sem, List.append_eq, List.cons_append, List.nil_append, Nat.reduceAdd, Nat.reduceMul, Nat.reduceSub, Nat.reduceLeDiff, Nat.reduceLT, Int.reduceAdd, Int.reduceToNat, Int.reduceLE, Int.reduceLT, Int.reduceNeg, reduceIte, postC, watchC, sll, hgv, hln])
    | (intro _h)
    | (refine awp_block ?_)
    | (refine awp_scope ?_)
    | (refine go_split (fun _h => ?_) (fun _h => ?_) <;> simp (maxSteps := 4000000) only [go_sem, List.append_eq, List.cons_append, List.nil_append, Nat.reduceAdd, Nat.reduceMul, Nat.reduceSub, Nat.reduceLeDiff, Nat.reduceLT, Int.reduceAdd, Int.reduceToNat, Int.reduceLE, Int.reduceLT, Int.reduceNeg, reduceIte, postC, watchC, sll, hgv, hln])
    | (show heapOK _ _ = true; kernel_rfl)
    | (omega)))
              all_goals omega
            · simp only [postC]; simp (maxSteps := 4000000) only [go_sem, List.append_eq, List.cons_append, List.nil_append, Nat.reduceAdd, Nat.reduceMul, Nat.reduceSub, Nat.reduceLeDiff, Nat.reduceLT, Int.reduceAdd, Int.reduceToNat, Int.reduceLE, Int.reduceLT, Int.reduceNeg, reduceIte, postC, watchC, sll]
              (repeat' (first
    | ((exfalso; omega))
    | (refine awp_seqK ?_)
    | (refine kt ?_)
    | (refine And.intro ?_ ?_)
    | ((first | refine awp_region ?_ | refine awp_draw (by kernel_rfl) (by kernel_rfl) ?_ | refine Imp.le2 ?_ | refine awp_label ?_ | refine awp_skip ?_ | refine awp_exit ?_ | refine awp_cd ?_ | refine awp_ret ?_); simp (maxSteps := 4000000) only [go_sem, List.append_eq, List.cons_append, List.nil_append, Nat.reduceAdd, Nat.reduceMul, Nat.reduceSub, Nat.reduceLeDiff, Nat.reduceLT, Int.reduceAdd, Int.reduceToNat, Int.reduceLE, Int.reduceLT, Int.reduceNeg, reduceIte, postC, watchC, sll])
    | (intro _h)
    | (refine awp_block ?_)
    | (refine awp_scope ?_)
    | (refine go_split (fun _h => ?_) (fun _h => ?_) <;> simp (maxSteps := 4000000) only [go_sem, List.append_eq, List.cons_append, List.nil_append, Nat.reduceAdd, Nat.reduceMul, Nat.reduceSub, Nat.reduceLeDiff, Nat.reduceLT, Int.reduceAdd, Int.reduceToNat, Int.reduceLE, Int.reduceLT, Int.reduceNeg, reduceIte, postC, watchC, sll])
    | (show heapOK _ _ = true; kernel_rfl)
    | (omega)))
              all_goals omega
        | some x =>
          obtain ⟨a, b⟩ := x
          have hz := hz _ rfl
          simp only at hz
          have hj1 : aLo (some (joinE s (a, b))) = acLo (aLo s) a 1001 := by
            cases s <;> simp only [joinE, aLo, acLo, hLo, hHi] at * <;> (split <;> first | omega | (split <;> omega))
          have hj2 : hHi (some (joinE s (a, b))) = acHi (hHi s) a b 1001 := by
            cases s <;> simp only [joinE, aLo, acHi, hLo, hHi] at * <;> (split <;> omega)
          have hlo : -1 ≤ aLo s ∧ aLo s ≤ 1000 := by cases s <;> simp only [aLo, hLo] at * <;> omega
          simp only [hj1, hj2]
          generalize aLo s = lo at *
          generalize hHi s = hi0 at *
          refine awp_loopN 1001 (fun v => ⟨mkT 55 [(1, sll reads), (2, .ptr 0 0 0), (4, .ptr 1 0 0), (6, .ptr 2 0 0), (7, .int .i64 ((i : Int) - 1)), (8, .psl false 1001 (bools ml)), (9, .int .i64 v)], [some (.cells 46 1 0 (postC p)), some (.cells 70 1 0 [.int .i64 0, .int .i64 0, .int .u8 0]), some (.cells 70 1 0 [.int .i64 (acLo lo a v), .int .i64 (acHi hi0 a b v), .int .u8 0])], []⟩) (.le2 ?_) ?_
          · simp only [postC]; simp (maxSteps := 4000000) only [go_sem, List.append_eq, List.cons_append, List.nil_append, Nat.reduceAdd, Nat.reduceMul, Nat.reduceSub, Nat.reduceLeDiff, Nat.reduceLT, Int.reduceAdd, Int.reduceToNat, Int.reduceLE, Int.reduceLT, Int.reduceNeg, reduceIte, postC, watchC, sll]
            simp only [acLo, acHi]
            rw [if_pos (by omega), if_pos (by omega)]
            try exact ⟨rfl, rfl⟩
          · intro v hv
            have hgv := fun h : v < 1001 => (hget v h).trans (show inE (some (a, b)) v = decide (a ≤ v ∧ (v : Int) ≤ b) from rfl)
            have hc1 := acLo_is lo a v
            have hc2 := acLo_is lo a (v + 1 : Nat)
            have hc3 := acHi_is hi0 a b v
            have hc4 := acHi_is hi0 a b (v + 1 : Nat)
            rcases Nat.lt_or_eq_of_le hv with hv1 | hv1
            · have hgv := hgv hv1
              simp only [postC]; simp (maxSteps := 4000000) only [go_sem, List.append_eq, List.cons_append, List.nil_append, Nat.reduceAdd, Nat.reduceMul, Nat.reduceSub, Nat.reduceLeDiff, Nat.reduceLT, Int.reduceAdd, Int.reduceToNat, Int.reduceLE, Int.reduceLT, Int.reduceNeg, reduceIte, postC, watchC, sll]
              (repeat' (first
    | (refine awp_seqK ?_)
    | (refine kt ?_)
    | (refine And.intro ?_ ?_)
    | ((first | refine awp_region ?_ | refine awp_draw (by kernel_rfl) (by kernel_rfl) ?_ | refine Imp.le2 ?_ | refine awp_label ?_ | refine awp_skip ?_ | refine awp_exit ?_ | refine awp_cd ?_ | refine awp_ret ?_); simp (maxSteps := 4000000) only [go_sem, List.append_eq, List.cons_append, List.nil_append, Nat.reduceAdd, Nat.reduceMul, Nat.reduceSub, Nat.reduceLeDiff, Nat.reduceLT, Int.reduceAdd, Int.reduceToNat, Int.reduceLE, Int.reduceLT, Int.reduceNeg, reduceIte, postC, watchC, sll, hgv, hln])
    | (intro _h)
    | (refine awp_block ?_)
    | (refine awp_scope ?_)
    | (refine go_split (fun _h => ?_) (fun _h => ?_) <;> simp (maxSteps := 4000000) only [go_sem, List.append_eq, List.cons_append, List.nil_append, Nat.reduceAdd, Nat.reduceMul, Nat.reduceSub, Nat.reduceLeDiff, Nat.reduceLT, Int.reduceAdd, Int.reduceToNat, Int.reduceLE, Int.reduceLT, Int.reduceNeg, reduceIte, postC, watchC, sll, hgv, hln])
    | (show heapOK _ _ = true; kernel_rfl)
    | (omega)))
              all_goals first
                | omega
                | (simp only [List.cons.injEq, AV.int.injEq, and_true, true_and]; omega)
                | trace_state
            · subst hv1
              simp only [postC]; simp (maxSteps := 4000000) only [go_sem, List.append_eq, List.cons_append, List.nil_append, Nat.reduceAdd, Nat.reduceMul, Nat.reduceSub, Nat.reduceLeDiff, Nat.reduceLT, Int.reduceAdd, Int.reduceToNat, Int.reduceLE, Int.reduceLT, Int.reduceNeg, reduceIte, postC, watchC, sll]
              (repeat' (first
    | ((exfalso; omega))
    | (refine awp_seqK ?_)
    | (refine kt ?_)
    | (refine And.intro ?_ ?_)
    | ((first | refine awp_region ?_ | refine awp_draw (by kernel_rfl) (by kernel_rfl) ?_ | refine Imp.le2 ?_ | refine awp_label ?_ | refine awp_skip ?_ | refine awp_exit ?_ | refine awp_cd ?_ | refine awp_ret ?_); simp (maxSteps := 4000000) only [go_sem, List.append_eq, List.cons_append, List.nil_append, Nat.reduceAdd, Nat.reduceMul, Nat.reduceSub, Nat.reduceLeDiff, Nat.reduceLT, Int.reduceAdd, Int.reduceToNat, Int.reduceLE, Int.reduceLT, Int.reduceNeg, reduceIte, postC, watchC, sll])
    | (intro _h)
    | (refine awp_block ?_)
    | (refine awp_scope ?_)
    | (refine go_split (fun _h => ?_) (fun _h => ?_) <;> simp (maxSteps := 4000000) only [go_sem, List.append_eq, List.cons_append, List.nil_append, Nat.reduceAdd, Nat.reduceMul, Nat.reduceSub, Nat.reduceLeDiff, Nat.reduceLT, Int.reduceAdd, Int.reduceToNat, Int.reduceLE, Int.reduceLT, Int.reduceNeg, reduceIte, postC, watchC, sll])
    | (show heapOK _ _ = true; kernel_rfl)
    | (omega)))
              trace_state
              all_goals omega
    · have hlv := refLevel_c p (hHi (hull (gAt p reads reads.length) i)) hp (by omega)
      simp only [postC, sl, sll] at hlv
      rw [← hi1]
      generalize hull (gAt p reads reads.length) i = s at *
      simp only [postC]; simp (maxSteps := 4000000) only [go_sem, List.append_eq, List.cons_append, List.nil_append, Nat.reduceAdd, Nat.reduceMul, Nat.reduceSub, Nat.reduceLeDiff, Nat.reduceLT, Int.reduceAdd, Int.reduceToNat, Int.reduceLE, Int.reduceLT, Int.reduceNeg, reduceIte, postC, watchC, sll]
      (repeat' (first
    | (refine awp_seqK ?_)
    | (refine kt ?_)
    | (refine And.intro ?_ ?_)
    | ((first | refine awp_region ?_ | refine awp_draw (by kernel_rfl) (by kernel_rfl) ?_ | refine Imp.le2 ?_ | refine awp_label ?_ | refine awp_skip ?_ | refine awp_exit ?_ | refine awp_cd ?_ | refine awp_ret ?_); simp (maxSteps := 4000000) only [go_sem, List.append_eq, List.cons_append, List.nil_append, Nat.reduceAdd, Nat.reduceMul, Nat.reduceSub, Nat.reduceLeDiff, Nat.reduceLT, Int.reduceAdd, Int.reduceToNat, Int.reduceLE, Int.reduceLT, Int.reduceNeg, reduceIte, postC, watchC, sll])
    | (intro _h)
    | (refine awp_block ?_)
    | (refine awp_scope ?_)
    | ((first | refine callK_of (hlv) ?_); try simp (maxSteps := 4000000) only [go_sem, List.append_eq, List.cons_append, List.nil_append, Nat.reduceAdd, Nat.reduceMul, Nat.reduceSub, Nat.reduceLeDiff, Nat.reduceLT, Int.reduceAdd, Int.reduceToNat, Int.reduceLE, Int.reduceLT, Int.reduceNeg, reduceIte, postC, watchC, sll])
    | (refine go_split (fun _h => ?_) (fun _h => ?_) <;> simp (maxSteps := 4000000) only [go_sem, List.append_eq, List.cons_append, List.nil_append, Nat.reduceAdd, Nat.reduceMul, Nat.reduceSub, Nat.reduceLeDiff, Nat.reduceLT, Int.reduceAdd, Int.reduceToNat, Int.reduceLE, Int.reduceLT, Int.reduceNeg, reduceIte, postC, watchC, sll])
    | (show heapOK _ _ = true; kernel_rfl)
    | (omega)))
      all_goals clear hlv hmc
      all_goals (cases s <;> simp only [aLo, hLo, Option.isSome] at *)
      all_goals first | rfl | omega | contradiction
theorem ends_iff {p : Post} {row : List Int} {f v : Int} : ((agreedEnds p.errs row f).1 ≤ v ∧ v ≤ (agreedEnds p.errs row f).2) ↔ ((0 ≤ v ∧ v ≤ 1000) ∧ agreesB p.errs row f v = true) := by
  have hl := agLo_ge (errs := p.errs) (row := row) (f := f) row.length
  have hh := agHi_le (errs := p.errs) (row := row) (f := f) row.length
  constructor
  · intro h
    have hv : 0 ≤ v ∧ v ≤ 1000 := by
      have := agreed_bd (errs := p.errs) (row := row) (f := f)
      omega
    refine ⟨hv, ?_⟩
    obtain ⟨n, rfl⟩ : ∃ n : Nat, v = n := ⟨v.toNat, by omega⟩
    rw [agrees_iff (by omega)]
    refine decide_eq_true ?_
    unfold agreedEnds at h
    split at h
    · simp only at h; omega
    · exact h
  · rintro ⟨hv, h⟩
    obtain ⟨n, rfl⟩ : ∃ n : Nat, v = n := ⟨v.toNat, by omega⟩
    rw [agrees_iff (by omega)] at h
    have := of_decide_eq_true h
    unfold agreedEnds
    rw [if_neg (by omega)]
    exact this
theorem refTruth_c (p : Post) (reads : List (List Int)) (f : Int) (sp : List Int) (hf : faultP p reads = 0) (hs : sp.length ≤ 9223372036854775807) : CallS Try.prog 40 [.agg (postC p), sll reads, .int .i64 f, sl sp] (.bool (proveB p reads f sp)) := by
  obtain ⟨hp, hr⟩ := faultP_zero hf
  obtain ⟨hl1, hl2⟩ := hp.len
  have hga := hp.gain
  have hdr := hp.drop
  have hl3 := hr.len
  have hyes : sp.length = reads.length → (-1 ≤ f ∧ f ≤ (p.errs.length : Int) - 1) → (∀ h, h < sp.length → okT p reads f sp h) → true = proveB p reads f sp := fun a b c => (decide_eq_true ⟨hf, a, b, c⟩).symm
  have hno : (sp.length = reads.length → (-1 ≤ f ∧ f ≤ (p.errs.length : Int) - 1) → (∀ h, h < sp.length → okT p reads f sp h) → False) → false = proveB p reads f sp := fun a => (decide_eq_false fun ⟨_, b, c, d⟩ => a b c d).symm
  generalize proveB p reads f sp = r at *
  (refine callS_of_awp (fun w args => Try.call40 ..) Try.func40 rfl (fun w0 m0 wz => ?_); simp only [Try.ntmps40, Try.results40, initT, junks, postC, watchC, sll, sl, List.toList_toArray, List.cons_append, List.nil_append, List.length_cons, List.length_nil, Nat.reduceAdd, Nat.reduceSub])
  (repeat' (first
    | (refine awp_seqK ?_)
    | (refine kt ?_)
    | (refine And.intro ?_ ?_)
    | ((first | refine awp_region ?_ | refine awp_draw (by kernel_rfl) (by kernel_rfl) ?_ | refine Imp.le2 ?_ | refine awp_label ?_ | refine awp_skip ?_ | refine awp_exit ?_ | refine awp_cd ?_ | refine awp_ret ?_); simp (maxSteps := 4000000) only [go_sem, List.append_eq, List.cons_append, List.nil_append, Nat.reduceAdd, Nat.reduceMul, Nat.reduceSub, Nat.reduceLeDiff, Nat.reduceLT, Int.reduceAdd, Int.reduceToNat, Int.reduceLE, Int.reduceLT, Int.reduceNeg, reduceIte, postC, watchC, sll])
    | (intro _h)
    | (refine awp_block ?_)
    | (refine awp_scope ?_)
    | ((first | refine callK_of (in_c _ _ _) ?_); try simp (maxSteps := 4000000) only [go_sem, List.append_eq, List.cons_append, List.nil_append, Nat.reduceAdd, Nat.reduceMul, Nat.reduceSub, Nat.reduceLeDiff, Nat.reduceLT, Int.reduceAdd, Int.reduceToNat, Int.reduceLE, Int.reduceLT, Int.reduceNeg, reduceIte, postC, watchC, sll])
    | (refine go_split (fun _h => ?_) (fun _h => ?_) <;> simp (maxSteps := 4000000) only [go_sem, List.append_eq, List.cons_append, List.nil_append, Nat.reduceAdd, Nat.reduceMul, Nat.reduceSub, Nat.reduceLeDiff, Nat.reduceLT, Int.reduceAdd, Int.reduceToNat, Int.reduceLE, Int.reduceLT, Int.reduceNeg, reduceIte, postC, watchC, sll])
    | (show heapOK _ _ = true; kernel_rfl)
    | (omega)))
  · refine awp_loopJ (fun h : Nat => h ≤ sp.length ∧ ∀ j, j < h → okT p reads f sp j) (fun h => ⟨mkT 82 [(1, sll reads), (2, .int .i64 f), (3, sl sp), (4, .ptr 0 0 0), (9, .int .i64 h)], [some (.cells 46 1 0 (postC p))], []⟩) (fun h => sp.length - h) 0 ⟨Nat.zero_le _, by simp⟩ (.le2 ?_) ?_
    · simp only [postC]; simp (maxSteps := 4000000) only [go_sem, List.append_eq, List.cons_append, List.nil_append, Nat.reduceAdd, Nat.reduceMul, Nat.reduceSub, Nat.reduceLeDiff, Nat.reduceLT, Int.reduceAdd, Int.reduceToNat, Int.reduceLE, Int.reduceLT, Int.reduceNeg, reduceIte, postC, watchC, sll]
    · rintro h ⟨hh, hj⟩
      have hag := fun (k : h < reads.length) (k2 : 0 ≤ sp.getD h 0 ∧ sp.getD h 0 ≤ 1000) => agrees_c p (reads.getD h []) f (sp.getD h 0) hp (hr.rows h k) k2
      have hok := okT_iff (p := p) (reads := reads) (f := f) (sp := sp) (h := h)
      rw [ends_iff] at hok
      have hpr := fun k : 0 < h => okT_bd (hj (h - 1) (by omega))
      simp only [postC, sl] at hag
      generalize agreesB p.errs (reads.getD h []) f (sp.getD h 0) = y at *
      have e1 : (((h : Int)) - 1).toNat = h - 1 := by omega
      simp only [postC]; simp (maxSteps := 4000000) only [go_sem, List.append_eq, List.cons_append, List.nil_append, Nat.reduceAdd, Nat.reduceMul, Nat.reduceSub, Nat.reduceLeDiff, Nat.reduceLT, Int.reduceAdd, Int.reduceToNat, Int.reduceLE, Int.reduceLT, Int.reduceNeg, reduceIte, postC, watchC, sll]
      cases y
      all_goals simp only [Bool.false_eq_true, and_false, false_and, iff_false, and_true, true_and] at hok
      all_goals (repeat' (first
    | ((rw [e1]))
    | (refine awp_seqK ?_)
    | (refine kt ?_)
    | (refine And.intro ?_ ?_)
    | ((first | refine awp_region ?_ | refine awp_draw (by kernel_rfl) (by kernel_rfl) ?_ | refine Imp.le2 ?_ | refine awp_label ?_ | refine awp_skip ?_ | refine awp_exit ?_ | refine awp_cd ?_ | refine awp_ret ?_); simp (maxSteps := 4000000) only [go_sem, List.append_eq, List.cons_append, List.nil_append, Nat.reduceAdd, Nat.reduceMul, Nat.reduceSub, Nat.reduceLeDiff, Nat.reduceLT, Int.reduceAdd, Int.reduceToNat, Int.reduceLE, Int.reduceLT, Int.reduceNeg, reduceIte, postC, watchC, sll])
    | (intro _h)
    | (refine awp_block ?_)
    | (refine awp_scope ?_)
    | ((first | refine callK_of (in_c _ _ _) ?_ | refine callK_of (hag (by omega) ‹_›) ?_); try simp (maxSteps := 4000000) only [go_sem, List.append_eq, List.cons_append, List.nil_append, Nat.reduceAdd, Nat.reduceMul, Nat.reduceSub, Nat.reduceLeDiff, Nat.reduceLT, Int.reduceAdd, Int.reduceToNat, Int.reduceLE, Int.reduceLT, Int.reduceNeg, reduceIte, postC, watchC, sll])
    | (refine go_split (fun _h => ?_) (fun _h => ?_) <;> simp (maxSteps := 4000000) only [go_sem, List.append_eq, List.cons_append, List.nil_append, Nat.reduceAdd, Nat.reduceMul, Nat.reduceSub, Nat.reduceLeDiff, Nat.reduceLT, Int.reduceAdd, Int.reduceToNat, Int.reduceLE, Int.reduceLT, Int.reduceNeg, reduceIte, postC, watchC, sll])
    | (show heapOK _ _ = true; kernel_rfl)
    | (omega)))
      all_goals first
        | (refine ⟨h + 1, ⟨by omega, fun j hji => ?_⟩, by omega, .le2 ?_⟩
           · rcases Nat.lt_succ_iff_lt_or_eq.1 hji with h | rfl
             · exact hj j h
             · exact hok.2 (by omega)
           · simp (maxSteps := 4000000) only [go_sem, List.append_eq, List.cons_append, List.nil_append, Nat.reduceAdd, Nat.reduceMul, Nat.reduceSub, Nat.reduceLeDiff, Nat.reduceLT, Int.reduceAdd, Int.reduceToNat, Int.reduceLE, Int.reduceLT, Int.reduceNeg, reduceIte, postC, watchC, sll] <;> omega)
        | exact (hno (fun a b c => hok (c h (by omega))))
        | exact (hno (fun a b c => by have := hok.1 (c h (by omega)); omega))
        | exact (hyes (by omega) ‹_› (fun j hjl => hj j (by omega)))
        | exact (hno (fun a b c => hok (c h (by omega)))).symm
        | exact (hno (fun a b c => by have := hok.1 (c h (by omega)); omega)).symm
        | exact (hyes (by omega) ‹_› (fun j hjl => hj j (by omega))).symm
        | trace_state
  all_goals first
    | exact (hno (fun a b c => by omega)).symm
    | exact (hno (fun a b c => by omega))
end Go.Am

/- Contracts: the reference's errors of posts; what the statements about posts use. -/
namespace Go.Am
open Go.RowKit Go.Proofs
attribute [local irreducible] AWP CallS Kt goK CallK stepK evOps SemF SemY Imp
set_option maxRecDepth 4000
set_option linter.unusedSimpArgs false
set_option linter.unusedVariables false
set_option maxHeartbeats 1600000

theorem right_c (p : Post) (hb : p.errs.length ≤ 9223372036854775807) : CallS Try.prog 34 [.agg (postC p)] (.bool (postB p)) := by
  have hyes : (∀ j, j < p.errs.length → 0 ≤ p.errs.getD j 0 ∧ p.errs.getD j 0 ≤ 1000) → p.errs.all speedB = true := fun h => by
    rw [List.all_eq_true]
    intro x hx
    obtain ⟨j, hj, rfl⟩ := List.mem_iff_getElem.1 hx
    have := h j hj
    rw [show p.errs.getD j 0 = p.errs[j] by simp [List.getD_eq_getElem?_getD, hj]] at this
    exact decide_eq_true this
  have hno : ∀ j, j < p.errs.length → ¬ (0 ≤ p.errs.getD j 0 ∧ p.errs.getD j 0 ≤ 1000) → p.errs.all speedB = false := fun j hj h => by
    cases ha : p.errs.all speedB with
    | false => rfl
    | true => exact absurd (of_decide_eq_true (all_getD ha j hj)) h
  unfold postB
  generalize p.errs.all speedB = al at *
  (refine callS_of_awp (fun w args => Try.call34 ..) Try.func34 rfl (fun w0 m0 wz => ?_); simp only [Try.ntmps34, Try.results34, initT, junks, postC, watchC, sll, sl, List.toList_toArray, List.cons_append, List.nil_append, List.length_cons, List.length_nil, Nat.reduceAdd, Nat.reduceSub])
  (repeat' (first
    | (refine awp_seqK ?_)
    | (refine kt ?_)
    | (refine And.intro ?_ ?_)
    | ((first | refine awp_region ?_ | refine awp_draw (by kernel_rfl) (by kernel_rfl) ?_ | refine Imp.le2 ?_ | refine awp_label ?_ | refine awp_skip ?_ | refine awp_exit ?_ | refine awp_cd ?_ | refine awp_ret ?_); simp (maxSteps := 4000000) only [go_sem, List.append_eq, List.cons_append, List.nil_append, Nat.reduceAdd, Nat.reduceMul, Nat.reduceSub, Nat.reduceLeDiff, Nat.reduceLT, Int.reduceAdd, Int.reduceToNat, Int.reduceLE, Int.reduceLT, Int.reduceNeg, reduceIte, postC, watchC, sll])
    | (intro _h)
    | (refine awp_block ?_)
    | (refine awp_scope ?_)
    | (refine go_split (fun _h => ?_) (fun _h => ?_) <;> simp (maxSteps := 4000000) only [go_sem, List.append_eq, List.cons_append, List.nil_append, Nat.reduceAdd, Nat.reduceMul, Nat.reduceSub, Nat.reduceLeDiff, Nat.reduceLT, Int.reduceAdd, Int.reduceToNat, Int.reduceLE, Int.reduceLT, Int.reduceNeg, reduceIte, postC, watchC, sll])
    | (show heapOK _ _ = true; kernel_rfl)
    | (omega)))
  refine awp_loopJ (fun i : Nat => i ≤ p.errs.length ∧ ∀ j, j < i → 0 ≤ p.errs.getD j 0 ∧ p.errs.getD j 0 ≤ 1000) (fun i => ⟨mkT 47 [(1, .ptr 0 0 0), (3, .int .i64 i)], [some (.cells 46 1 0 (postC p))], []⟩) (fun i => p.errs.length - i) 0 ⟨Nat.zero_le _, by simp⟩ (.le2 ?_) ?_
  · simp only [postC]; simp (maxSteps := 4000000) only [go_sem, List.append_eq, List.cons_append, List.nil_append, Nat.reduceAdd, Nat.reduceMul, Nat.reduceSub, Nat.reduceLeDiff, Nat.reduceLT, Int.reduceAdd, Int.reduceToNat, Int.reduceLE, Int.reduceLT, Int.reduceNeg, reduceIte, postC, watchC, sll]
  · rintro i ⟨hi, hj⟩
    have hno := hno i
    simp only [postC]; simp (maxSteps := 4000000) only [go_sem, List.append_eq, List.cons_append, List.nil_append, Nat.reduceAdd, Nat.reduceMul, Nat.reduceSub, Nat.reduceLeDiff, Nat.reduceLT, Int.reduceAdd, Int.reduceToNat, Int.reduceLE, Int.reduceLT, Int.reduceNeg, reduceIte, postC, watchC, sll]
    (repeat' (first
    | (refine awp_seqK ?_)
    | (refine kt ?_)
    | (refine And.intro ?_ ?_)
    | ((first | refine awp_region ?_ | refine awp_draw (by kernel_rfl) (by kernel_rfl) ?_ | refine Imp.le2 ?_ | refine awp_label ?_ | refine awp_skip ?_ | refine awp_exit ?_ | refine awp_cd ?_ | refine awp_ret ?_); simp (maxSteps := 4000000) only [go_sem, List.append_eq, List.cons_append, List.nil_append, Nat.reduceAdd, Nat.reduceMul, Nat.reduceSub, Nat.reduceLeDiff, Nat.reduceLT, Int.reduceAdd, Int.reduceToNat, Int.reduceLE, Int.reduceLT, Int.reduceNeg, reduceIte, postC, watchC, sll])
    | (intro _h)
    | (refine awp_block ?_)
    | (refine awp_scope ?_)
    | ((first | refine callK_of (in_c _ _ _) ?_); try simp (maxSteps := 4000000) only [go_sem, List.append_eq, List.cons_append, List.nil_append, Nat.reduceAdd, Nat.reduceMul, Nat.reduceSub, Nat.reduceLeDiff, Nat.reduceLT, Int.reduceAdd, Int.reduceToNat, Int.reduceLE, Int.reduceLT, Int.reduceNeg, reduceIte, postC, watchC, sll])
    | (refine go_split (fun _h => ?_) (fun _h => ?_) <;> simp (maxSteps := 4000000) only [go_sem, List.append_eq, List.cons_append, List.nil_append, Nat.reduceAdd, Nat.reduceMul, Nat.reduceSub, Nat.reduceLeDiff, Nat.reduceLT, Int.reduceAdd, Int.reduceToNat, Int.reduceLE, Int.reduceLT, Int.reduceNeg, reduceIte, postC, watchC, sll])
    | (show heapOK _ _ = true; kernel_rfl)
    | (omega)))
    all_goals first
      | (refine ⟨i + 1, ⟨by omega, fun j hji => ?_⟩, by omega, .le2 ?_⟩
         · rcases Nat.lt_succ_iff_lt_or_eq.1 hji with h | rfl
           · exact hj j h
           · omega
         · simp (maxSteps := 4000000) only [go_sem, List.append_eq, List.cons_append, List.nil_append, Nat.reduceAdd, Nat.reduceMul, Nat.reduceSub, Nat.reduceLeDiff, Nat.reduceLT, Int.reduceAdd, Int.reduceToNat, Int.reduceLE, Int.reduceLT, Int.reduceNeg, reduceIte, postC, watchC, sll] <;> omega)
      | exact hyes (fun j h => hj j (by omega))
      | (have h9 := hno (by omega) ‹_›; simp_all; done)
      | (have h9 := hyes (fun j h => hj j (by omega)); simp_all; done)
      | trace_state
theorem fault_c (p : Post) (reads : List (List Int)) (hb : InB p reads) : CallS Try.prog 35 [.agg (postC p), sll reads] (.int .i64 (faultP p reads)) := by
  have hri := right_c p hb.e
  have hbe := hb.e
  have hbn := hb.n
  have hbr := hb.rows
  simp only [postC, sl] at hri
  have h1 : postB p = false → faultP p reads = 1 := fun h => by unfold faultP; rw [if_pos h]
  have h2 : postB p = true → 60 < reads.length → faultP p reads = 3 := fun h h' => by unfold faultP; rw [if_neg (by simp [h]), if_pos h']
  have h3 : postB p = true → ¬ 60 < reads.length → ∀ i, i < reads.length → rowB p (reads.getD i []) = false → faultP p reads = 2 := fun h h' i hi hr => by
    unfold faultP; rw [if_neg (by simp [h]), if_neg h', allrows hi hr]; simp
  have h4 : postB p = true → ¬ 60 < reads.length → (∀ i, i < reads.length → rowB p (reads.getD i []) = true) → faultP p reads = 0 := fun h h' hr => by
    unfold faultP; rw [if_neg (by simp [h]), if_neg h', allrows' hr]; simp
  have hrow : ∀ i, rowB p (reads.getD i []) = true ↔ ((reads.getD i []).length = p.errs.length ∧ (reads.getD i []).all readB = true) := fun i => by simp [rowB]
  have hall : ∀ i, (∀ k, k < (reads.getD i []).length → -1000 ≤ (reads.getD i []).getD k 0 ∧ (reads.getD i []).getD k 0 ≤ 2000) → (reads.getD i []).all readB = true := fun i h => by
    clear hrow
    generalize reads.getD i [] = row at *
    rw [List.all_eq_true]
    intro x hx
    obtain ⟨j, hj, rfl⟩ := List.mem_iff_getElem.1 hx
    have := h j hj
    rw [show row.getD j 0 = row[j] by simp [List.getD_eq_getElem?_getD, hj]] at this
    exact decide_eq_true this
  have hnot : ∀ i k, k < (reads.getD i []).length → ¬ (-1000 ≤ (reads.getD i []).getD k 0 ∧ (reads.getD i []).getD k 0 ≤ 2000) → rowB p (reads.getD i []) = false := fun i k hk h => by
    cases hr : rowB p (reads.getD i []) with
    | false => rfl
    | true => exact absurd (of_decide_eq_true (all_getD ((hrow i).1 hr).2 k hk)) h
  have hnot2 : ∀ i, ¬ (reads.getD i []).length = p.errs.length → rowB p (reads.getD i []) = false := fun i h => by
    cases hr : rowB p (reads.getD i []) with
    | false => rfl
    | true => exact absurd ((hrow i).1 hr).1 h
  generalize faultP p reads = r at *
  generalize postB p = pb at *
  (refine callS_of_awp (fun w args => Try.call35 ..) Try.func35 rfl (fun w0 m0 wz => ?_); simp only [Try.ntmps35, Try.results35, initT, junks, postC, watchC, sll, sl, List.toList_toArray, List.cons_append, List.nil_append, List.length_cons, List.length_nil, Nat.reduceAdd, Nat.reduceSub])
  (repeat' (first
    | (refine awp_seqK ?_)
    | (refine kt ?_)
    | (refine And.intro ?_ ?_)
    | ((first | refine awp_region ?_ | refine awp_draw (by kernel_rfl) (by kernel_rfl) ?_ | refine Imp.le2 ?_ | refine awp_label ?_ | refine awp_skip ?_ | refine awp_exit ?_ | refine awp_cd ?_ | refine awp_ret ?_); simp (maxSteps := 4000000) only [go_sem, List.append_eq, List.cons_append, List.nil_append, Nat.reduceAdd, Nat.reduceMul, Nat.reduceSub, Nat.reduceLeDiff, Nat.reduceLT, Int.reduceAdd, Int.reduceToNat, Int.reduceLE, Int.reduceLT, Int.reduceNeg, reduceIte, postC, watchC, sll])
    | (intro _h)
    | (refine awp_block ?_)
    | (refine awp_scope ?_)
    | ((first | refine callK_of (hri) ?_); try simp (maxSteps := 4000000) only [go_sem, List.append_eq, List.cons_append, List.nil_append, Nat.reduceAdd, Nat.reduceMul, Nat.reduceSub, Nat.reduceLeDiff, Nat.reduceLT, Int.reduceAdd, Int.reduceToNat, Int.reduceLE, Int.reduceLT, Int.reduceNeg, reduceIte, postC, watchC, sll])
    | (refine go_split (fun _h => ?_) (fun _h => ?_) <;> simp (maxSteps := 4000000) only [go_sem, List.append_eq, List.cons_append, List.nil_append, Nat.reduceAdd, Nat.reduceMul, Nat.reduceSub, Nat.reduceLeDiff, Nat.reduceLT, Int.reduceAdd, Int.reduceToNat, Int.reduceLE, Int.reduceLT, Int.reduceNeg, reduceIte, postC, watchC, sll])
    | (show heapOK _ _ = true; kernel_rfl)
    | (omega)))
  all_goals first
    | exact (h1 ‹_›).symm
    | exact (h2 ‹_› (by omega)).symm
    | skip
  refine awp_loopJ (fun i : Nat => i ≤ reads.length ∧ ∀ j, j < i → rowB p (reads.getD j []) = true) (fun i => ⟨mkT 46 [(1, sll reads), (2, .ptr 0 0 0), (5, .int .i64 i)], [some (.cells 46 1 0 (postC p))], []⟩) (fun i => reads.length - i) 0 ⟨Nat.zero_le _, by simp⟩ (.le2 ?_) ?_
  · simp only [postC]; simp (maxSteps := 4000000) only [go_sem, List.append_eq, List.cons_append, List.nil_append, Nat.reduceAdd, Nat.reduceMul, Nat.reduceSub, Nat.reduceLeDiff, Nat.reduceLT, Int.reduceAdd, Int.reduceToNat, Int.reduceLE, Int.reduceLT, Int.reduceNeg, reduceIte, postC, watchC, sll]
  · rintro i ⟨hi, hj⟩
    have hbr := hbr i
    simp only [postC]; simp (maxSteps := 4000000) only [go_sem, List.append_eq, List.cons_append, List.nil_append, Nat.reduceAdd, Nat.reduceMul, Nat.reduceSub, Nat.reduceLeDiff, Nat.reduceLT, Int.reduceAdd, Int.reduceToNat, Int.reduceLE, Int.reduceLT, Int.reduceNeg, reduceIte, postC, watchC, sll]
    (repeat' (first
    | (refine awp_seqK ?_)
    | (refine kt ?_)
    | (refine And.intro ?_ ?_)
    | ((first | refine awp_region ?_ | refine awp_draw (by kernel_rfl) (by kernel_rfl) ?_ | refine Imp.le2 ?_ | refine awp_label ?_ | refine awp_skip ?_ | refine awp_exit ?_ | refine awp_cd ?_ | refine awp_ret ?_); simp (maxSteps := 4000000) only [go_sem, List.append_eq, List.cons_append, List.nil_append, Nat.reduceAdd, Nat.reduceMul, Nat.reduceSub, Nat.reduceLeDiff, Nat.reduceLT, Int.reduceAdd, Int.reduceToNat, Int.reduceLE, Int.reduceLT, Int.reduceNeg, reduceIte, postC, watchC, sll])
    | (intro _h)
    | (refine awp_block ?_)
    | (refine awp_scope ?_)
    | (refine go_split (fun _h => ?_) (fun _h => ?_) <;> simp (maxSteps := 4000000) only [go_sem, List.append_eq, List.cons_append, List.nil_append, Nat.reduceAdd, Nat.reduceMul, Nat.reduceSub, Nat.reduceLeDiff, Nat.reduceLT, Int.reduceAdd, Int.reduceToNat, Int.reduceLE, Int.reduceLT, Int.reduceNeg, reduceIte, postC, watchC, sll])
    | (show heapOK _ _ = true; kernel_rfl)
    | (omega)))
    all_goals first
      | (refine awp_loopJ (fun k : Nat => k ≤ (reads.getD i []).length ∧ ∀ j, j < k → -1000 ≤ (reads.getD i []).getD j 0 ∧ (reads.getD i []).getD j 0 ≤ 2000) (fun k => ⟨mkT 46 [(1, sll reads), (2, .ptr 0 0 0), (5, .int .i64 i), (6, .int .i64 k)], [some (.cells 46 1 0 (postC p))], []⟩) (fun k => (reads.getD i []).length - k) 0 ⟨Nat.zero_le _, by simp⟩ (.le2 ?_) ?_
         · simp only [postC]; simp (maxSteps := 4000000) only [go_sem, List.append_eq, List.cons_append, List.nil_append, Nat.reduceAdd, Nat.reduceMul, Nat.reduceSub, Nat.reduceLeDiff, Nat.reduceLT, Int.reduceAdd, Int.reduceToNat, Int.reduceLE, Int.reduceLT, Int.reduceNeg, reduceIte, postC, watchC, sll]
         · rintro k ⟨hk, hjk⟩
           simp only [postC]; simp (maxSteps := 4000000) only [go_sem, List.append_eq, List.cons_append, List.nil_append, Nat.reduceAdd, Nat.reduceMul, Nat.reduceSub, Nat.reduceLeDiff, Nat.reduceLT, Int.reduceAdd, Int.reduceToNat, Int.reduceLE, Int.reduceLT, Int.reduceNeg, reduceIte, postC, watchC, sll]
           (repeat' (first
    | (refine awp_seqK ?_)
    | (refine kt ?_)
    | (refine And.intro ?_ ?_)
    | ((first | refine awp_region ?_ | refine awp_draw (by kernel_rfl) (by kernel_rfl) ?_ | refine Imp.le2 ?_ | refine awp_label ?_ | refine awp_skip ?_ | refine awp_exit ?_ | refine awp_cd ?_ | refine awp_ret ?_); simp (maxSteps := 4000000) only [go_sem, List.append_eq, List.cons_append, List.nil_append, Nat.reduceAdd, Nat.reduceMul, Nat.reduceSub, Nat.reduceLeDiff, Nat.reduceLT, Int.reduceAdd, Int.reduceToNat, Int.reduceLE, Int.reduceLT, Int.reduceNeg, reduceIte, postC, watchC, sll])
    | (intro _h)
    | (refine awp_block ?_)
    | (refine awp_scope ?_)
    | ((first | refine callK_of (in_c _ _ _) ?_); try simp (maxSteps := 4000000) only [go_sem, List.append_eq, List.cons_append, List.nil_append, Nat.reduceAdd, Nat.reduceMul, Nat.reduceSub, Nat.reduceLeDiff, Nat.reduceLT, Int.reduceAdd, Int.reduceToNat, Int.reduceLE, Int.reduceLT, Int.reduceNeg, reduceIte, postC, watchC, sll])
    | (refine go_split (fun _h => ?_) (fun _h => ?_) <;> simp (maxSteps := 4000000) only [go_sem, List.append_eq, List.cons_append, List.nil_append, Nat.reduceAdd, Nat.reduceMul, Nat.reduceSub, Nat.reduceLeDiff, Nat.reduceLT, Int.reduceAdd, Int.reduceToNat, Int.reduceLE, Int.reduceLT, Int.reduceNeg, reduceIte, postC, watchC, sll])
    | (show heapOK _ _ = true; kernel_rfl)
    | (omega)))
           all_goals first
             | (refine ⟨k + 1, ⟨by omega, fun j hji => ?_⟩, by omega, .le2 ?_⟩
                · rcases Nat.lt_succ_iff_lt_or_eq.1 hji with h | rfl
                  · exact hjk j h
                  · omega
                · simp (maxSteps := 4000000) only [go_sem, List.append_eq, List.cons_append, List.nil_append, Nat.reduceAdd, Nat.reduceMul, Nat.reduceSub, Nat.reduceLeDiff, Nat.reduceLT, Int.reduceAdd, Int.reduceToNat, Int.reduceLE, Int.reduceLT, Int.reduceNeg, reduceIte, postC, watchC, sll] <;> omega)
             | (refine ⟨i + 1, ⟨by omega, fun j hji => ?_⟩, by omega, .le2 ?_⟩
                · rcases Nat.lt_succ_iff_lt_or_eq.1 hji with h | rfl
                  · exact hj j h
                  · exact (hrow j).2 ⟨by omega, hall j (fun k hk => hjk k (by omega))⟩
                · simp (maxSteps := 4000000) only [go_sem, List.append_eq, List.cons_append, List.nil_append, Nat.reduceAdd, Nat.reduceMul, Nat.reduceSub, Nat.reduceLeDiff, Nat.reduceLT, Int.reduceAdd, Int.reduceToNat, Int.reduceLE, Int.reduceLT, Int.reduceNeg, reduceIte, postC, watchC, sll] <;> omega)
             | exact (h3 ‹_› (by omega) i (by omega) (hnot i k (by omega) ‹_›)).symm
             | trace_state)
      | exact (h3 ‹_› (by omega) i (by omega) (hnot2 i (by omega))).symm
      | exact (h4 ‹_› (by omega) (fun j h => hj j (by omega))).symm
      | trace_state
end Go.Am

/- Contracts: what the statements about posts use. -/
namespace Go.Am
open Go.RowKit Go.Proofs
attribute [local irreducible] AWP CallS Kt goK CallK stepK evOps SemF SemY Imp
set_option maxRecDepth 4000
set_option linter.unusedSimpArgs false
set_option linter.unusedVariables false
set_option maxHeartbeats 1600000

theorem Post_c (p : Post) (hb : p.errs.length ≤ 1000000) : CallS Try.prog 25 [.agg (postC p)] (.agg (postC p)) := by
  have hl := list_c p.errs hb
  simp only [sl] at hl
  (refine callS_of_awp (fun w args => Try.call25 ..) Try.func25 rfl (fun w0 m0 wz => ?_); simp only [Try.ntmps25, Try.results25, initT, junks, postC, watchC, sll, sl, List.toList_toArray, List.cons_append, List.nil_append, List.length_cons, List.length_nil, Nat.reduceAdd, Nat.reduceSub])
  (repeat' (first
    | (refine awp_seqK ?_)
    | (refine kt ?_)
    | (refine And.intro ?_ ?_)
    | ((first | refine awp_region ?_ | refine awp_draw (by kernel_rfl) (by kernel_rfl) ?_ | refine Imp.le2 ?_ | refine awp_label ?_ | refine awp_skip ?_ | refine awp_exit ?_ | refine awp_cd ?_ | refine awp_ret ?_); simp (maxSteps := 4000000) only [go_sem, List.append_eq, List.cons_append, List.nil_append, Nat.reduceAdd, Nat.reduceMul, Nat.reduceSub, Nat.reduceLeDiff, Nat.reduceLT, Int.reduceAdd, Int.reduceToNat, Int.reduceLE, Int.reduceLT, Int.reduceNeg, reduceIte, postC, watchC, sll])
    | (intro _h)
    | (refine awp_block ?_)
    | (refine awp_scope ?_)
    | ((first | refine callK_of (hl) ?_); try simp (maxSteps := 4000000) only [go_sem, List.append_eq, List.cons_append, List.nil_append, Nat.reduceAdd, Nat.reduceMul, Nat.reduceSub, Nat.reduceLeDiff, Nat.reduceLT, Int.reduceAdd, Int.reduceToNat, Int.reduceLE, Int.reduceLT, Int.reduceNeg, reduceIte, postC, watchC, sll])
    | (refine go_split (fun _h => ?_) (fun _h => ?_) <;> simp (maxSteps := 4000000) only [go_sem, List.append_eq, List.cons_append, List.nil_append, Nat.reduceAdd, Nat.reduceMul, Nat.reduceSub, Nat.reduceLeDiff, Nat.reduceLT, Int.reduceAdd, Int.reduceToNat, Int.reduceLE, Int.reduceLT, Int.reduceNeg, reduceIte, postC, watchC, sll])
    | (show heapOK _ _ = true; kernel_rfl)
    | (omega)))
theorem rows_c (l : List (List Int)) (hb : l.length ≤ 1000000) (hr : ∀ i, i < l.length → (l.getD i []).length ≤ 1000000) : CallS Try.prog 26 [sll l] (sll l) := by
  (refine callS_of_awp (fun w args => Try.call26 ..) Try.func26 rfl (fun w0 m0 wz => ?_); simp only [Try.ntmps26, Try.results26, initT, junks, postC, watchC, sll, sl, List.toList_toArray, List.cons_append, List.nil_append, List.length_cons, List.length_nil, Nat.reduceAdd, Nat.reduceSub])
  (repeat' (first
    | (refine awp_seqK ?_)
    | (refine kt ?_)
    | (refine And.intro ?_ ?_)
    | ((first | refine awp_region ?_ | refine awp_draw (by kernel_rfl) (by kernel_rfl) ?_ | refine Imp.le2 ?_ | refine awp_label ?_ | refine awp_skip ?_ | refine awp_exit ?_ | refine awp_cd ?_ | refine awp_ret ?_); simp (maxSteps := 4000000) only [go_sem, List.append_eq, List.cons_append, List.nil_append, Nat.reduceAdd, Nat.reduceMul, Nat.reduceSub, Nat.reduceLeDiff, Nat.reduceLT, Int.reduceAdd, Int.reduceToNat, Int.reduceLE, Int.reduceLT, Int.reduceNeg, reduceIte, postC, watchC, sll])
    | (intro _h)
    | (refine awp_block ?_)
    | (refine awp_scope ?_)
    | (refine go_split (fun _h => ?_) (fun _h => ?_) <;> simp (maxSteps := 4000000) only [go_sem, List.append_eq, List.cons_append, List.nil_append, Nat.reduceAdd, Nat.reduceMul, Nat.reduceSub, Nat.reduceLeDiff, Nat.reduceLT, Int.reduceAdd, Int.reduceToNat, Int.reduceLE, Int.reduceLT, Int.reduceNeg, reduceIte, postC, watchC, sll])
    | (show heapOK _ _ = true; kernel_rfl)
    | (omega)))
  (refine awp_adT 3 22 1 rfl ?_; simp only [adT, lset, hset, List.length_cons, List.length_nil, Nat.reduceAdd])
  refine awp_loopN l.length (fun k => ⟨mkT 20 [(0, sll l), (3, .osl 0 k 0 k), (4, .int .i64 k)], [some (.cells 22 1 k (rowsC (l.take k)))], []⟩) (.le2 ?_) ?_
  · simp (maxSteps := 4000000) only [go_sem, List.append_eq, List.cons_append, List.nil_append, Nat.reduceAdd, Nat.reduceMul, Nat.reduceSub, Nat.reduceLeDiff, Nat.reduceLT, Int.reduceAdd, Int.reduceToNat, Int.reduceLE, Int.reduceLT, Int.reduceNeg, reduceIte, postC, watchC, sll]
    simp [rowsC]
  · intro k hk
    rcases Nat.lt_or_eq_of_le hk with hk1 | hk1
    · have hl := list_c (l.getD k []) (hr k hk1)
      simp only [sl] at hl
      have ht : rowsC (l.take k) ++ [AV.psl false (l.getD k []).length (ints (l.getD k []))] = rowsC (l.take (k + 1)) := by
        rw [List.take_succ_eq_append_getElem hk1, rowsC_snoc]
        simp [sl, List.getD_eq_getElem?_getD, hk1]
      have hlt : (l.take k).length = k := by simp; omega
      simp (maxSteps := 4000000) only [go_sem, List.append_eq, List.cons_append, List.nil_append, Nat.reduceAdd, Nat.reduceMul, Nat.reduceSub, Nat.reduceLeDiff, Nat.reduceLT, Int.reduceAdd, Int.reduceToNat, Int.reduceLE, Int.reduceLT, Int.reduceNeg, reduceIte, postC, watchC, sll]
      (repeat' (first
    | (refine awp_seqK ?_)
    | (refine kt ?_)
    | (refine And.intro ?_ ?_)
    | ((first | refine awp_region ?_ | refine awp_draw (by kernel_rfl) (by kernel_rfl) ?_ | refine Imp.le2 ?_ | refine awp_label ?_ | refine awp_skip ?_ | refine awp_exit ?_ | refine awp_cd ?_ | refine awp_ret ?_); simp (maxSteps := 4000000) only [go_sem, List.append_eq, List.cons_append, List.nil_append, Nat.reduceAdd, Nat.reduceMul, Nat.reduceSub, Nat.reduceLeDiff, Nat.reduceLT, Int.reduceAdd, Int.reduceToNat, Int.reduceLE, Int.reduceLT, Int.reduceNeg, reduceIte, postC, watchC, sll, hlt, ht])
    | (intro _h)
    | (refine awp_block ?_)
    | (refine awp_scope ?_)
    | ((first | refine callK_of (hl) ?_); try simp (maxSteps := 4000000) only [go_sem, List.append_eq, List.cons_append, List.nil_append, Nat.reduceAdd, Nat.reduceMul, Nat.reduceSub, Nat.reduceLeDiff, Nat.reduceLT, Int.reduceAdd, Int.reduceToNat, Int.reduceLE, Int.reduceLT, Int.reduceNeg, reduceIte, postC, watchC, sll, hlt, ht])
    | (refine go_split (fun _h => ?_) (fun _h => ?_) <;> simp (maxSteps := 4000000) only [go_sem, List.append_eq, List.cons_append, List.nil_append, Nat.reduceAdd, Nat.reduceMul, Nat.reduceSub, Nat.reduceLeDiff, Nat.reduceLT, Int.reduceAdd, Int.reduceToNat, Int.reduceLE, Int.reduceLT, Int.reduceNeg, reduceIte, postC, watchC, sll, hlt, ht])
    | (show heapOK _ _ = true; kernel_rfl)
    | (omega)))
      all_goals omega
    · subst hk1
      have hlt : (l.take l.length) = l := by simp
      simp (maxSteps := 4000000) only [go_sem, List.append_eq, List.cons_append, List.nil_append, Nat.reduceAdd, Nat.reduceMul, Nat.reduceSub, Nat.reduceLeDiff, Nat.reduceLT, Int.reduceAdd, Int.reduceToNat, Int.reduceLE, Int.reduceLT, Int.reduceNeg, reduceIte, postC, watchC, sll, hlt]
      (repeat' (first
    | ((exfalso; omega))
    | (refine awp_seqK ?_)
    | (refine kt ?_)
    | (refine And.intro ?_ ?_)
    | ((first | refine awp_region ?_ | refine awp_draw (by kernel_rfl) (by kernel_rfl) ?_ | refine Imp.le2 ?_ | refine awp_label ?_ | refine awp_skip ?_ | refine awp_exit ?_ | refine awp_cd ?_ | refine awp_ret ?_); simp (maxSteps := 4000000) only [go_sem, List.append_eq, List.cons_append, List.nil_append, Nat.reduceAdd, Nat.reduceMul, Nat.reduceSub, Nat.reduceLeDiff, Nat.reduceLT, Int.reduceAdd, Int.reduceToNat, Int.reduceLE, Int.reduceLT, Int.reduceNeg, reduceIte, postC, watchC, sll])
    | (intro _h)
    | (refine awp_block ?_)
    | (refine awp_scope ?_)
    | (refine go_split (fun _h => ?_) (fun _h => ?_) <;> simp (maxSteps := 4000000) only [go_sem, List.append_eq, List.cons_append, List.nil_append, Nat.reduceAdd, Nat.reduceMul, Nat.reduceSub, Nat.reduceLeDiff, Nat.reduceLT, Int.reduceAdd, Int.reduceToNat, Int.reduceLE, Int.reduceLT, Int.reduceNeg, reduceIte, postC, watchC, sll])
    | (show heapOK _ _ = true; kernel_rfl)
    | (omega)))
      all_goals omega
def thinB (p : Post) (reads : List (List Int)) : Bool := decide (p.errs.length ≤ 15 ∧ reads.length ≤ 65 ∧ ∀ i, i < reads.length → (reads.getD i []).length ≤ 15)
theorem thin_c (p : Post) (reads : List (List Int)) (hb : InB p reads) : CallS Try.prog 61 [.agg (postC p), sll reads] (.bool (thinB p reads)) := by
  have hbe := hb.e
  have hbn := hb.n
  have hbr := hb.rows
  have hyes : p.errs.length ≤ 15 → reads.length ≤ 65 → (∀ i, i < reads.length → (reads.getD i []).length ≤ 15) → true = thinB p reads := fun a b c => (decide_eq_true ⟨a, b, c⟩).symm
  have hno : (p.errs.length ≤ 15 → reads.length ≤ 65 → (∀ i, i < reads.length → (reads.getD i []).length ≤ 15) → False) → false = thinB p reads := fun a => (decide_eq_false fun ⟨b, c, d⟩ => a b c d).symm
  generalize thinB p reads = r at *
  (refine callS_of_awp (fun w args => Try.call61 ..) Try.func61 rfl (fun w0 m0 wz => ?_); simp only [Try.ntmps61, Try.results61, initT, junks, postC, watchC, sll, sl, List.toList_toArray, List.cons_append, List.nil_append, List.length_cons, List.length_nil, Nat.reduceAdd, Nat.reduceSub])
  (repeat' (first
    | (refine awp_seqK ?_)
    | (refine kt ?_)
    | (refine And.intro ?_ ?_)
    | ((first | refine awp_region ?_ | refine awp_draw (by kernel_rfl) (by kernel_rfl) ?_ | refine Imp.le2 ?_ | refine awp_label ?_ | refine awp_skip ?_ | refine awp_exit ?_ | refine awp_cd ?_ | refine awp_ret ?_); simp (maxSteps := 4000000) only [go_sem, List.append_eq, List.cons_append, List.nil_append, Nat.reduceAdd, Nat.reduceMul, Nat.reduceSub, Nat.reduceLeDiff, Nat.reduceLT, Int.reduceAdd, Int.reduceToNat, Int.reduceLE, Int.reduceLT, Int.reduceNeg, reduceIte, postC, watchC, sll])
    | (intro _h)
    | (refine awp_block ?_)
    | (refine awp_scope ?_)
    | (refine go_split (fun _h => ?_) (fun _h => ?_) <;> simp (maxSteps := 4000000) only [go_sem, List.append_eq, List.cons_append, List.nil_append, Nat.reduceAdd, Nat.reduceMul, Nat.reduceSub, Nat.reduceLeDiff, Nat.reduceLT, Int.reduceAdd, Int.reduceToNat, Int.reduceLE, Int.reduceLT, Int.reduceNeg, reduceIte, postC, watchC, sll])
    | (show heapOK _ _ = true; kernel_rfl)
    | (omega)))
  refine awp_loopJ (fun i : Nat => i ≤ reads.length ∧ i ≤ 66 ∧ ∀ j, j < i → (reads.getD j []).length ≤ 15) (fun i => ⟨mkT 31 [(1, sll reads), (2, .ptr 0 0 0), (5, .int .i64 i)], [some (.cells 46 1 0 (postC p))], []⟩) (fun i => reads.length - i) 0 ⟨Nat.zero_le _, by omega, by simp⟩ (.le2 ?_) ?_
  · simp only [postC]; simp (maxSteps := 4000000) only [go_sem, List.append_eq, List.cons_append, List.nil_append, Nat.reduceAdd, Nat.reduceMul, Nat.reduceSub, Nat.reduceLeDiff, Nat.reduceLT, Int.reduceAdd, Int.reduceToNat, Int.reduceLE, Int.reduceLT, Int.reduceNeg, reduceIte, postC, watchC, sll]
  · rintro i ⟨hi, hi6, hj⟩
    have hbr := hbr i
    simp only [postC]; simp (maxSteps := 4000000) only [go_sem, List.append_eq, List.cons_append, List.nil_append, Nat.reduceAdd, Nat.reduceMul, Nat.reduceSub, Nat.reduceLeDiff, Nat.reduceLT, Int.reduceAdd, Int.reduceToNat, Int.reduceLE, Int.reduceLT, Int.reduceNeg, reduceIte, postC, watchC, sll]
    (repeat' (first
    | (refine awp_seqK ?_)
    | (refine kt ?_)
    | (refine And.intro ?_ ?_)
    | ((first | refine awp_region ?_ | refine awp_draw (by kernel_rfl) (by kernel_rfl) ?_ | refine Imp.le2 ?_ | refine awp_label ?_ | refine awp_skip ?_ | refine awp_exit ?_ | refine awp_cd ?_ | refine awp_ret ?_); simp (maxSteps := 4000000) only [go_sem, List.append_eq, List.cons_append, List.nil_append, Nat.reduceAdd, Nat.reduceMul, Nat.reduceSub, Nat.reduceLeDiff, Nat.reduceLT, Int.reduceAdd, Int.reduceToNat, Int.reduceLE, Int.reduceLT, Int.reduceNeg, reduceIte, postC, watchC, sll])
    | (intro _h)
    | (refine awp_block ?_)
    | (refine awp_scope ?_)
    | (refine go_split (fun _h => ?_) (fun _h => ?_) <;> simp (maxSteps := 4000000) only [go_sem, List.append_eq, List.cons_append, List.nil_append, Nat.reduceAdd, Nat.reduceMul, Nat.reduceSub, Nat.reduceLeDiff, Nat.reduceLT, Int.reduceAdd, Int.reduceToNat, Int.reduceLE, Int.reduceLT, Int.reduceNeg, reduceIte, postC, watchC, sll])
    | (show heapOK _ _ = true; kernel_rfl)
    | (omega)))
    all_goals first
      | (refine ⟨i + 1, ⟨by omega, by omega, fun j hji => ?_⟩, by omega, .le2 ?_⟩
         · rcases Nat.lt_succ_iff_lt_or_eq.1 hji with h | rfl
           · exact hj j h
           · omega
         · simp (maxSteps := 4000000) only [go_sem, List.append_eq, List.cons_append, List.nil_append, Nat.reduceAdd, Nat.reduceMul, Nat.reduceSub, Nat.reduceLeDiff, Nat.reduceLT, Int.reduceAdd, Int.reduceToNat, Int.reduceLE, Int.reduceLT, Int.reduceNeg, reduceIte, postC, watchC, sll] <;> omega)
      | exact (hno (fun a b c => by omega)).symm
      | exact (hno (fun a b c => by have := c i (by omega); omega)).symm
      | exact (hyes (by omega) (by omega) (fun j h => hj j (by omega))).symm
      | exact (hno (fun a b c => by omega))
      | exact (hno (fun a b c => by have := c i (by omega); omega))
      | exact (hyes (by omega) (by omega) (fun j h => hj j (by omega)))
      | trace_state
def fewB (p : Post) (reads : List (List Int)) : Bool := thinB p reads && decide (faultP p reads ≠ 0 ∨ reads.length ≤ 8)
def readyB (p : Post) (reads : List (List Int)) : Bool := thinB p reads && decide (faultP p reads = 0)
theorem few_c (p : Post) (reads : List (List Int)) (hb : InB p reads) : CallS Try.prog 31 [.agg (postC p), sll reads] (.bool (fewB p reads)) := by
  have h1 := thin_c p reads hb
  have h2 := fault_c p reads hb
  have hbn := hb.n
  unfold fewB
  simp only [postC, sl, sll] at h1 h2
  generalize thinB p reads = t at *
  generalize faultP p reads = f at *
  (refine callS_of_awp (fun w args => Try.call31 ..) Try.func31 rfl (fun w0 m0 wz => ?_); simp only [Try.ntmps31, Try.results31, initT, junks, postC, watchC, sll, sl, List.toList_toArray, List.cons_append, List.nil_append, List.length_cons, List.length_nil, Nat.reduceAdd, Nat.reduceSub])
  (repeat' (first
    | (refine awp_seqK ?_)
    | (refine kt ?_)
    | (refine And.intro ?_ ?_)
    | ((first | refine awp_region ?_ | refine awp_draw (by kernel_rfl) (by kernel_rfl) ?_ | refine Imp.le2 ?_ | refine awp_label ?_ | refine awp_skip ?_ | refine awp_exit ?_ | refine awp_cd ?_ | refine awp_ret ?_); simp (maxSteps := 4000000) only [go_sem, List.append_eq, List.cons_append, List.nil_append, Nat.reduceAdd, Nat.reduceMul, Nat.reduceSub, Nat.reduceLeDiff, Nat.reduceLT, Int.reduceAdd, Int.reduceToNat, Int.reduceLE, Int.reduceLT, Int.reduceNeg, reduceIte, postC, watchC, sll])
    | (intro _h)
    | (refine awp_block ?_)
    | (refine awp_scope ?_)
    | ((first | refine callK_of (h1) ?_ | refine callK_of (h2) ?_); try simp (maxSteps := 4000000) only [go_sem, List.append_eq, List.cons_append, List.nil_append, Nat.reduceAdd, Nat.reduceMul, Nat.reduceSub, Nat.reduceLeDiff, Nat.reduceLT, Int.reduceAdd, Int.reduceToNat, Int.reduceLE, Int.reduceLT, Int.reduceNeg, reduceIte, postC, watchC, sll])
    | (refine go_split (fun _h => ?_) (fun _h => ?_) <;> simp (maxSteps := 4000000) only [go_sem, List.append_eq, List.cons_append, List.nil_append, Nat.reduceAdd, Nat.reduceMul, Nat.reduceSub, Nat.reduceLeDiff, Nat.reduceLT, Int.reduceAdd, Int.reduceToNat, Int.reduceLE, Int.reduceLT, Int.reduceNeg, reduceIte, postC, watchC, sll])
    | (show heapOK _ _ = true; kernel_rfl)
    | (omega)))
  all_goals (simp_all; try omega)
theorem ready_c (p : Post) (reads : List (List Int)) (hb : InB p reads) : CallS Try.prog 24 [.agg (postC p), sll reads] (.bool (readyB p reads)) := by
  have h1 := thin_c p reads hb
  have h2 := fault_c p reads hb
  have hbn := hb.n
  unfold readyB
  simp only [postC, sl, sll] at h1 h2
  generalize thinB p reads = t at *
  generalize faultP p reads = f at *
  (refine callS_of_awp (fun w args => Try.call24 ..) Try.func24 rfl (fun w0 m0 wz => ?_); simp only [Try.ntmps24, Try.results24, initT, junks, postC, watchC, sll, sl, List.toList_toArray, List.cons_append, List.nil_append, List.length_cons, List.length_nil, Nat.reduceAdd, Nat.reduceSub])
  (repeat' (first
    | (refine awp_seqK ?_)
    | (refine kt ?_)
    | (refine And.intro ?_ ?_)
    | ((first | refine awp_region ?_ | refine awp_draw (by kernel_rfl) (by kernel_rfl) ?_ | refine Imp.le2 ?_ | refine awp_label ?_ | refine awp_skip ?_ | refine awp_exit ?_ | refine awp_cd ?_ | refine awp_ret ?_); simp (maxSteps := 4000000) only [go_sem, List.append_eq, List.cons_append, List.nil_append, Nat.reduceAdd, Nat.reduceMul, Nat.reduceSub, Nat.reduceLeDiff, Nat.reduceLT, Int.reduceAdd, Int.reduceToNat, Int.reduceLE, Int.reduceLT, Int.reduceNeg, reduceIte, postC, watchC, sll])
    | (intro _h)
    | (refine awp_block ?_)
    | (refine awp_scope ?_)
    | ((first | refine callK_of (h1) ?_ | refine callK_of (h2) ?_); try simp (maxSteps := 4000000) only [go_sem, List.append_eq, List.cons_append, List.nil_append, Nat.reduceAdd, Nat.reduceMul, Nat.reduceSub, Nat.reduceLeDiff, Nat.reduceLT, Int.reduceAdd, Int.reduceToNat, Int.reduceLE, Int.reduceLT, Int.reduceNeg, reduceIte, postC, watchC, sll])
    | (refine go_split (fun _h => ?_) (fun _h => ?_) <;> simp (maxSteps := 4000000) only [go_sem, List.append_eq, List.cons_append, List.nil_append, Nat.reduceAdd, Nat.reduceMul, Nat.reduceSub, Nat.reduceLeDiff, Nat.reduceLT, Int.reduceAdd, Int.reduceToNat, Int.reduceLE, Int.reduceLT, Int.reduceNeg, reduceIte, postC, watchC, sll])
    | (show heapOK _ _ = true; kernel_rfl)
    | (omega)))
  all_goals (simp_all; try omega)
theorem stateEq_c (a b c a' b' c' : Int) : CallS Try.prog 37 [.agg [.int .i64 a, .int .i64 b, .int .u8 c], .agg [.int .i64 a', .int .i64 b', .int .u8 c']] (.bool (decide (a = a' ∧ b = b' ∧ c = c'))) := by
  (refine callS_of_awp (fun w args => Try.call37 ..) Try.func37 rfl (fun w0 m0 wz => ?_); simp only [Try.ntmps37, Try.results37, initT, junks, postC, watchC, sll, sl, List.toList_toArray, List.cons_append, List.nil_append, List.length_cons, List.length_nil, Nat.reduceAdd, Nat.reduceSub])
  (repeat' (first
    | (refine awp_seqK ?_)
    | (refine kt ?_)
    | (refine And.intro ?_ ?_)
    | ((first | refine awp_region ?_ | refine awp_draw (by kernel_rfl) (by kernel_rfl) ?_ | refine Imp.le2 ?_ | refine awp_label ?_ | refine awp_skip ?_ | refine awp_exit ?_ | refine awp_cd ?_ | refine awp_ret ?_); simp (maxSteps := 4000000) only [go_sem, List.append_eq, List.cons_append, List.nil_append, Nat.reduceAdd, Nat.reduceMul, Nat.reduceSub, Nat.reduceLeDiff, Nat.reduceLT, Int.reduceAdd, Int.reduceToNat, Int.reduceLE, Int.reduceLT, Int.reduceNeg, reduceIte, postC, watchC, sll])
    | (intro _h)
    | (refine awp_block ?_)
    | (refine awp_scope ?_)
    | (refine go_split (fun _h => ?_) (fun _h => ?_) <;> simp (maxSteps := 4000000) only [go_sem, List.append_eq, List.cons_append, List.nil_append, Nat.reduceAdd, Nat.reduceMul, Nat.reduceSub, Nat.reduceLeDiff, Nat.reduceLT, Int.reduceAdd, Int.reduceToNat, Int.reduceLE, Int.reduceLT, Int.reduceNeg, reduceIte, postC, watchC, sll])
    | (show heapOK _ _ = true; kernel_rfl)
    | (omega)))
theorem ints_c (l l' : List Int) (hl : l.length ≤ 9223372036854775807) : CallS Try.prog 30 [sl l, sl l'] (.bool (decide (l = l'))) := by
  have hyes : l.length = l'.length → (∀ j, j < l.length → l.getD j 0 = l'.getD j 0) → true = decide (l = l') := fun a b => by
    refine (decide_eq_true ?_).symm
    apply List.ext_getElem a
    intro i h1 h2
    have := b i h1
    simpa [List.getD_eq_getElem?_getD, h1, h2] using this
  have hno : (l = l' → False) → false = decide (l = l') := fun a => (decide_eq_false a).symm
  generalize decide (l = l') = r at *
  (refine callS_of_awp (fun w args => Try.call30 ..) Try.func30 rfl (fun w0 m0 wz => ?_); simp only [Try.ntmps30, Try.results30, initT, junks, postC, watchC, sll, sl, List.toList_toArray, List.cons_append, List.nil_append, List.length_cons, List.length_nil, Nat.reduceAdd, Nat.reduceSub])
  (repeat' (first
    | (refine awp_seqK ?_)
    | (refine kt ?_)
    | (refine And.intro ?_ ?_)
    | ((first | refine awp_region ?_ | refine awp_draw (by kernel_rfl) (by kernel_rfl) ?_ | refine Imp.le2 ?_ | refine awp_label ?_ | refine awp_skip ?_ | refine awp_exit ?_ | refine awp_cd ?_ | refine awp_ret ?_); simp (maxSteps := 4000000) only [go_sem, List.append_eq, List.cons_append, List.nil_append, Nat.reduceAdd, Nat.reduceMul, Nat.reduceSub, Nat.reduceLeDiff, Nat.reduceLT, Int.reduceAdd, Int.reduceToNat, Int.reduceLE, Int.reduceLT, Int.reduceNeg, reduceIte, postC, watchC, sll])
    | (intro _h)
    | (refine awp_block ?_)
    | (refine awp_scope ?_)
    | (refine go_split (fun _h => ?_) (fun _h => ?_) <;> simp (maxSteps := 4000000) only [go_sem, List.append_eq, List.cons_append, List.nil_append, Nat.reduceAdd, Nat.reduceMul, Nat.reduceSub, Nat.reduceLeDiff, Nat.reduceLT, Int.reduceAdd, Int.reduceToNat, Int.reduceLE, Int.reduceLT, Int.reduceNeg, reduceIte, postC, watchC, sll])
    | (show heapOK _ _ = true; kernel_rfl)
    | (omega)))
  all_goals first
    | exact hno (fun h => by subst h; contradiction)
    | exact (hno (fun h => by subst h; contradiction)).symm
    | skip
  refine awp_loopJ (fun i : Nat => i ≤ l.length ∧ ∀ j, j < i → l.getD j 0 = l'.getD j 0) (fun i => ⟨mkT 26 [(0, sl l), (1, sl l'), (5, .int .i64 i)], [], []⟩) (fun i => l.length - i) 0 ⟨Nat.zero_le _, by simp⟩ (.le2 ?_) ?_
  · simp (maxSteps := 4000000) only [go_sem, List.append_eq, List.cons_append, List.nil_append, Nat.reduceAdd, Nat.reduceMul, Nat.reduceSub, Nat.reduceLeDiff, Nat.reduceLT, Int.reduceAdd, Int.reduceToNat, Int.reduceLE, Int.reduceLT, Int.reduceNeg, reduceIte, postC, watchC, sll]
  · rintro i ⟨hi, hj⟩
    simp (maxSteps := 4000000) only [go_sem, List.append_eq, List.cons_append, List.nil_append, Nat.reduceAdd, Nat.reduceMul, Nat.reduceSub, Nat.reduceLeDiff, Nat.reduceLT, Int.reduceAdd, Int.reduceToNat, Int.reduceLE, Int.reduceLT, Int.reduceNeg, reduceIte, postC, watchC, sll]
    (repeat' (first
    | (refine awp_seqK ?_)
    | (refine kt ?_)
    | (refine And.intro ?_ ?_)
    | ((first | refine awp_region ?_ | refine awp_draw (by kernel_rfl) (by kernel_rfl) ?_ | refine Imp.le2 ?_ | refine awp_label ?_ | refine awp_skip ?_ | refine awp_exit ?_ | refine awp_cd ?_ | refine awp_ret ?_); simp (maxSteps := 4000000) only [go_sem, List.append_eq, List.cons_append, List.nil_append, Nat.reduceAdd, Nat.reduceMul, Nat.reduceSub, Nat.reduceLeDiff, Nat.reduceLT, Int.reduceAdd, Int.reduceToNat, Int.reduceLE, Int.reduceLT, Int.reduceNeg, reduceIte, postC, watchC, sll])
    | (intro _h)
    | (refine awp_block ?_)
    | (refine awp_scope ?_)
    | (refine go_split (fun _h => ?_) (fun _h => ?_) <;> simp (maxSteps := 4000000) only [go_sem, List.append_eq, List.cons_append, List.nil_append, Nat.reduceAdd, Nat.reduceMul, Nat.reduceSub, Nat.reduceLeDiff, Nat.reduceLT, Int.reduceAdd, Int.reduceToNat, Int.reduceLE, Int.reduceLT, Int.reduceNeg, reduceIte, postC, watchC, sll])
    | (show heapOK _ _ = true; kernel_rfl)
    | (omega)))
    all_goals first
      | (refine ⟨i + 1, ⟨by omega, fun j hji => ?_⟩, by omega, .le2 ?_⟩
         · rcases Nat.lt_succ_iff_lt_or_eq.1 hji with h | rfl
           · exact hj j h
           · assumption
         · simp (maxSteps := 4000000) only [go_sem, List.append_eq, List.cons_append, List.nil_append, Nat.reduceAdd, Nat.reduceMul, Nat.reduceSub, Nat.reduceLeDiff, Nat.reduceLT, Int.reduceAdd, Int.reduceToNat, Int.reduceLE, Int.reduceLT, Int.reduceNeg, reduceIte, postC, watchC, sll] <;> omega)
      | exact (hno (fun h => by subst h; contradiction)).symm
      | exact (hyes (by omega) (fun j h => hj j (by omega))).symm
      | exact (hno (fun h => by subst h; contradiction))
      | exact (hyes (by omega) (fun j h => hj j (by omega)))
      | trace_state
end Go.Am

/- What the chapter shows (awake), by running it. -/
namespace Go.Am
open Go.RowKit Go.Proofs

def entA (g : FuncId) : Bool := Nat.ble 3 g && Nat.ble g 107
theorem entA_all : (List.range' 3 105).all (entB Try.prog) = true := by kernel_rfl
theorem entA_ok (g : FuncId) (h : entA g = true) : Enters Try.prog g := by
  simp only [entA, Bool.and_eq_true, Nat.ble_eq] at h
  refine enters_of ?_
  have := List.all_eq_true.1 entA_all g (by rw [List.mem_range']; exact ⟨g - 3, by omega, by omega⟩)
  exact this
theorem mixedA : Try.prog.follows .mixedOrders = true := by kernel_rfl
set_option maxRecDepth 100000 in
theorem awake_c : CallS Try.prog 17 [] (.bool true) :=
  callS_run (eqt := fun _ => true) (pm := fun g => !(Nat.beq g 72 || Nat.beq g 63)) (ent := entA) (lf := 2000) (n := 60) (fun t _ => eqOK t) entA_ok mixedA (by kernel_rfl)
end Go.Am
