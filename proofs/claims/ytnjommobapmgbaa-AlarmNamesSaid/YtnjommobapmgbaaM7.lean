/- Parts BmB, BmC, Aw, BmG, Xo, AlJ, AlK, AlL, AlM, BlC, BmH, BmI of the proof, one behind the other: the machine of abstract values, contracts, plain words. No statement is proved here. -/
import Derived.Test.YtnjommobapmgbaaM6
import Derived.Test.YtnjommobapmgbaaM4
import Derived.Test.YtnjommobapmgbaaM3
import Derived.Test.YtnjommobapmgbaaProg
import Derived.KernelRfl
import Derived.Test.YtnjommobapmgbaaM5
/- Contracts of the alarm functions: a truth that has a speed in an hour. -/
namespace Go.Am
open Go.RowKit Go.Proofs
attribute [local irreducible] AWP CallS Kt goK CallK stepK evOps SemF SemY Imp
set_option maxRecDepth 4000
set_option linter.unusedSimpArgs false
set_option linter.unusedVariables false
set_option maxHeartbeats 1600000

/-- The first gauge with which a speed may be. -/
def pickF (g : Int → Option (Int × Int)) (v : Int) : Nat → Option Int
  | 0 => none
  | i + 1 => match pickF g v i with
    | some f => some f
    | none => match g ((i : Int) - 1) with
      | some x => if x.1 ≤ v ∧ v ≤ x.2 then some ((i : Int) - 1) else none
      | none => none
theorem win_rowsT {l : List (List Int)} {m : Nat} : window (rowsC l) 0 m = rowsC (l.take m) := by simp [window, rowsC, List.map_take]
def copyG (g : Int → Option (Int × Int)) (i : Nat) : Int → Option (Int × Int) := fun f => if f < (i : Int) - 1 then g f else none
theorem copy_zero {n : Nat} {g : Int → Option (Int × Int)} : canon n (copyG g 0) = [] := canon_none fun j h1 h2 => by simp only [copyG]; rw [if_neg (by omega)]
theorem copy_all {n i : Nat} {g : Int → Option (Int × Int)} (h : n < i) : canon n (copyG g i) = canon n g := canon_congr fun j h1 h2 => by simp only [copyG]; rw [if_pos (by omega)]
theorem copy_succ {i : Nat} {g : Int → Option (Int × Int)} : copyG g (i + 1) = updI (copyG g i) ((i : Int) - 1) (g ((i : Int) - 1)) := by
  funext f
  simp only [copyG, updI]
  by_cases e : f = (i : Int) - 1
  · rw [if_pos e, if_pos (by omega), e]
  · rw [if_neg e]
    by_cases h : f < (i : Int) - 1
    · rw [if_pos h, if_pos (by omega)]
    · rw [if_neg h, if_neg (by omega)]
theorem pe_mp {m : List (Int × Int × Int)} : pureE (mpC m) := by
  intro e he
  simp only [mpC, List.mem_map] at he
  obtain ⟨a, _, rfl⟩ := he
  simp [pureA, cellPure]
instance {p : Post} {reads : List (List Int)} {n : Nat} : Still (pmC p reads n) := ⟨by
  simp only [pmC, List.mem_map]
  rintro _ ⟨a, _, rfl⟩; rfl⟩
theorem lv_pm {p : Post} {reads : List (List Int)} {n : Nat} {q : Nat → Bool} : (pmC p reads n).all (live2 q) = true := by
  simp only [pmC, List.all_map, List.all_eq_true]
  intro z _; rfl
attribute [go_sem] lv_pm
theorem pickF_none {g : Int → Option (Int × Int)} {v : Int} : ∀ m : Nat, pickF g v m = none → ∀ i : Nat, i < m → ∀ x, g ((i : Int) - 1) = some x → ¬(x.1 ≤ v ∧ v ≤ x.2)
  | 0, _, i, hi => by omega
  | m + 1, h, i, hi => by
    simp only [pickF] at h
    cases hp : pickF g v m with
    | some f => rw [hp] at h; cases h
    | none =>
      rw [hp] at h
      rcases Nat.lt_or_ge i m with h1 | h1
      · exact pickF_none m hp i h1
      · have e : i = m := by omega
        subst e
        intro x hx hc
        simp only [hx, hc, and_self, if_true] at h
        cases h
theorem pickF_some {g : Int → Option (Int × Int)} {v f : Int} : ∀ m : Nat, pickF g v m = some f → ∃ i : Nat, i < m ∧ f = (i : Int) - 1 ∧ (∃ x, g ((i : Int) - 1) = some x ∧ x.1 ≤ v ∧ v ≤ x.2) ∧ ∀ i' : Nat, i' < i → ∀ x, g ((i' : Int) - 1) = some x → ¬(x.1 ≤ v ∧ v ≤ x.2)
  | 0, h => by cases h
  | m + 1, h => by
    simp only [pickF] at h
    cases hp : pickF g v m with
    | some f' =>
      rw [hp] at h
      simp only [Option.some.injEq] at h
      subst h
      obtain ⟨i, h1, h2⟩ := pickF_some m hp
      exact ⟨i, by omega, h2⟩
    | none =>
      rw [hp] at h
      cases hx : g ((m : Int) - 1) with
      | none => simp [hx] at h
      | some x =>
        simp only [hx] at h
        split at h
        · rename_i hc
          simp only [Option.some.injEq] at h
          exact ⟨m, by omega, h.symm, ⟨x, hx, hc.1, hc.2⟩, pickF_none m hp⟩
        · cases h
def fiH (p : Post) (k v : Int) (g : Int → Option (Int × Int)) (n : Nat) (ms : List AV) (b3 : Int) (b4 : AV) : List (Option ABlk) :=
  [none, some (.cells 3 1 0 [.int .i64 k]), some (.cells 3 1 0 [.int .i64 v]), some (.cells 3 1 0 [.int .i64 b3]), some (.cells 22 1 0 [b4]), some (.cells 29 1 0 [.int .i64 0]), none, some (.map (mpC (canon p.errs.length g))), some (.cells 142 1 0 (watchC p 7)), none, none, some (.cells 130 1 0 [.fn (.func 74) [] [.pptr [.psl false n ms] 0, .ptr 11 0 0, .pptr (postC p) 0]]), some (.cells 115 1 0 [.ptr 8 0 0])]
def fiT : List AV := mkT 86 [(6, .ptr 1 0 0), (7, .ptr 2 0 0), (8, .ptr 3 0 0), (9, .ptr 4 0 0), (10, .ptr 5 0 0), (19, .ptr 11 0 0), (71, .fn (.func 87) [] [.ptr 12 0 0])]
def trH (p : Post) (k v : Int) (g : Int → Option (Int × Int)) (j : Nat) (ms : List AV) : List (Option ABlk) :=
  [some (.cells 51 1 0 (postC p)), some (.cells 3 1 0 [.int .i64 k]), some (.cells 3 1 0 [.int .i64 v]), some (.cells 3 1 0 [.int .i64 0]), some (.cells 22 1 0 [.nils]), some (.cells 29 1 0 [.int .i64 0]), none, some (.map (mpC (canon p.errs.length g))), some (.cells 142 1 0 (watchC p 7)), some (.cells 127 1 0 [.osl 10 j 0 j]), some (.cells 129 1 j ms)]
def trT (rs : List (List Int)) (m j : Nat) : List AV := mkT 86 [(4, .ptr 0 0 0), (6, .ptr 1 0 0), (7, .ptr 2 0 0), (8, .ptr 3 0 0), (9, .ptr 4 0 0), (10, .ptr 5 0 0), (12, .ptr 8 0 0), (13, .ptr 9 0 0), (44, .psl false m (rowsC rs)), (45, .int .i64 m), (46, .int .i64 j)]
def trU (rs : List (List Int)) (m j : Nat) : List AV := mkT 86 [(4, .ptr 0 0 0), (6, .ptr 1 0 0), (7, .ptr 2 0 0), (8, .ptr 3 0 0), (9, .ptr 4 0 0), (10, .ptr 5 0 0), (12, .ptr 8 0 0), (13, .ptr 9 0 0), (16, .ptr 12 0 0), (44, .psl false m (rowsC rs)), (45, .int .i64 m), (46, .int .i64 j), (58, .fn (.func 87) [] [.ptr 13 0 0])]
def trI (p : Post) (k v : Int) (g : Int → Option (Int × Int)) (j : Nat) (ms : List AV) (i : Nat) : List (Option ABlk) :=
  trH p k v g j ms ++ [some (.map (mpC (canon p.errs.length (copyG g i)))), some (.cells 129 1 0 [.map 11]), some (.cells 115 1 0 [.ptr 8 0 0])]
theorem truthOk_c (p : Post) (reads : List (List Int)) (k : Nat) (v : Int) (hb : InB p reads) (hf : faultP p reads = 0) (hk : k < reads.length) (hv : 0 ≤ v ∧ v ≤ 1000) :
    CallS Try.prog 44 [.agg (postC p), sll reads, .int .i64 k, .int .i64 v] (match pickF (gAt p reads (k + 1)) v (p.errs.length + 1) with
      | some f => .tup [.int .i64 f, sl (backL (gAt p reads) p.gain f k v), .int .i64 0]
      | none => .tup [.int .i64 0, .nils, .int .i64 7]) := by
  have hch := check_c p reads hb.e hb.n hb.rows
  rw [hf] at hch
  obtain ⟨hp, hr⟩ := faultP_zero hf
  obtain ⟨hl1, hl2⟩ := hp.len
  have hl3 := hr.len
  have hbg := begin_c p (by omega)
  have e1 : (0 ≤ v ∧ v ≤ 1000) = True := eq_true hv
  have e2 : ((0 : Int) ≤ k ∧ (k : Int) ≤ reads.length - 1) = True := eq_true (by omega)
  have e3 : ((k : Int) + 1).toNat = k + 1 := by omega
  obtain ⟨rs, hrs, hrl, hrg⟩ : ∃ rs : List (List Int), reads.take (k + 1) = rs ∧ rs.length = k + 1 ∧ ∀ j, j < k + 1 → rs.getD j [] = reads.getD j [] :=
    ⟨_, rfl, by simp; omega, fun j hj => by simp only [List.getD_eq_getElem?_getD, List.getElem?_take_of_lt hj]⟩
  simp only [postC, sl, watchC, sll] at hbg hch
  (refine callS_of_awpZ (fun w args => Try.call44 ..) Try.func44 rfl (fun w0 wz => ?_); simp only [Try.ntmps44, Try.results44, initT, junks, postC, watchC, sll, sl, List.toList_toArray, List.cons_append, List.nil_append, List.length_cons, List.length_nil, Nat.reduceAdd, Nat.reduceSub])
  (repeat' (first
    | (refine awp_ownN 1 rfl ?_; simp (maxSteps := 4000000) only [go_sem, List.append_eq, List.cons_append, List.nil_append, Nat.reduceAdd, Nat.reduceMul, Nat.reduceSub, Nat.reduceLeDiff, Nat.reduceLT, Int.reduceAdd, Int.reduceToNat, Int.reduceLE, Int.reduceLT, Int.reduceNeg, reduceIte, postC, watchC, sll, List.take_succ_cons, List.take_zero, e1, e2, e3, win_rowsT, hrs, decide_true]; refine own_go (hbg) [] rfl (by simp (maxSteps := 4000000) only [go_sem, List.append_eq, List.cons_append, List.nil_append, Nat.reduceAdd, Nat.reduceMul, Nat.reduceSub, Nat.reduceLeDiff, Nat.reduceLT, Int.reduceAdd, Int.reduceToNat, Int.reduceLE, Int.reduceLT, Int.reduceNeg, reduceIte, postC, watchC, sll, e1, e2, e3, win_rowsT, hrs, decide_true]) (by simp (maxSteps := 4000000) only [go_sem, List.append_eq, List.cons_append, List.nil_append, Nat.reduceAdd, Nat.reduceMul, Nat.reduceSub, Nat.reduceLeDiff, Nat.reduceLT, Int.reduceAdd, Int.reduceToNat, Int.reduceLE, Int.reduceLT, Int.reduceNeg, reduceIte, postC, watchC, sll, Nat.lt_irrefl, e1, e2, e3, win_rowsT, hrs, decide_true] <;> decide) rfl ?_; simp (maxSteps := 4000000) only [go_sem, List.append_eq, List.cons_append, List.nil_append, Nat.reduceAdd, Nat.reduceMul, Nat.reduceSub, Nat.reduceLeDiff, Nat.reduceLT, Int.reduceAdd, Int.reduceToNat, Int.reduceLE, Int.reduceLT, Int.reduceNeg, reduceIte, postC, watchC, sll, e1, e2, e3, win_rowsT, hrs, decide_true])
    | (refine awp_seqK ?_)
    | (refine kt ?_)
    | (refine And.intro ?_ ?_)
    | ((first | refine awp_region ?_ | refine Imp.le2 ?_ | refine awp_label ?_ | refine awp_skip ?_ | refine awp_exit ?_ | refine awp_cd ?_ | refine awp_ret ?_); simp (maxSteps := 4000000) only [go_sem, List.append_eq, List.cons_append, List.nil_append, Nat.reduceAdd, Nat.reduceMul, Nat.reduceSub, Nat.reduceLeDiff, Nat.reduceLT, Int.reduceAdd, Int.reduceToNat, Int.reduceLE, Int.reduceLT, Int.reduceNeg, reduceIte, postC, watchC, sll, e1, e2, e3, win_rowsT, hrs, decide_true])
    | (intro _h)
    | (refine awp_block ?_)
    | (refine awp_scope ?_)
    | ((first | refine callK_of (hch) ?_ | refine callK_of (within_c _ _ _) ?_ | refine callK_of (speed_c _) ?_); try simp (maxSteps := 4000000) only [go_sem, List.append_eq, List.cons_append, List.nil_append, Nat.reduceAdd, Nat.reduceMul, Nat.reduceSub, Nat.reduceLeDiff, Nat.reduceLT, Int.reduceAdd, Int.reduceToNat, Int.reduceLE, Int.reduceLT, Int.reduceNeg, reduceIte, postC, watchC, sll, e1, e2, e3, win_rowsT, hrs, decide_true])
    | (refine go_split (fun _h => ?_) (fun _h => ?_) <;> simp (maxSteps := 4000000) only [go_sem, List.append_eq, List.cons_append, List.nil_append, Nat.reduceAdd, Nat.reduceMul, Nat.reduceSub, Nat.reduceLeDiff, Nat.reduceLT, Int.reduceAdd, Int.reduceToNat, Int.reduceLE, Int.reduceLT, Int.reduceNeg, reduceIte, postC, watchC, sll, e1, e2, e3, win_rowsT, hrs, decide_true])
    | (show heapOK _ _ = true; kernel_rfl)
    | (show heapOK2 _ _ = true; kernel_rfl)
    | (omega)))
  refine awp_adH 9 0 129 1 rfl rfl ?_
  simp only [adH, hget, hset, lset, List.length_cons, List.length_nil, Nat.reduceAdd]
  refine awp_loopN (k + 1) (fun j => ⟨trT rs (k + 1) j, trH p k v (gAt p reads j) j (pmC p reads j), []⟩) (.le2 ?_) ?_
  · simp only [trT, trH, postC, watchC]; simp (maxSteps := 4000000) only [go_sem, List.append_eq, List.cons_append, List.nil_append, Nat.reduceAdd, Nat.reduceMul, Nat.reduceSub, Nat.reduceLeDiff, Nat.reduceLT, Int.reduceAdd, Int.reduceToNat, Int.reduceLE, Int.reduceLT, Int.reduceNeg, reduceIte, postC, watchC, sll]
    exact ⟨rfl, rfl⟩
  · intro j hj
    have hnx : j < k + 1 → SemF Try.prog 73 [.ptr 0 0 0, sl (rs.getD j []), .bool (decide (j = 0))] [some (.cells 142 1 0 (watchC p 1)), some (.map (mpC (canon p.errs.length (gAt p reads j))))] (.tup []) [some (.cells 142 1 0 (watchC p 1)), some (.map (mpC (canon p.errs.length (gAt p reads (j + 1)))))] :=
      fun h => by rw [hrg j h]; exact next_c p (gAt p reads j) (reads.getD j []) (decide (j = 0)) hp (hr.rows j (by omega)) (gAt_ok j)
    have hfa := failing_c p (canon p.errs.length (gAt p reads (j + 1)))
    have hfb := failing_c p (canon p.errs.length (gAt p reads j))
    simp only [sl, postC, watchC] at hnx hfa hfb
    rcases Nat.lt_or_ge j (k + 1) with hj1 | hj1
    · have hnx := hnx hj1
      have e6 : ((j : Int) < ((k + 1 : Nat) : Int)) = True := eq_true (by omega)
      simp only [trT, trH, postC, watchC]; simp (maxSteps := 4000000) only [go_sem, List.append_eq, List.cons_append, List.nil_append, Nat.reduceAdd, Nat.reduceMul, Nat.reduceSub, Nat.reduceLeDiff, Nat.reduceLT, Int.reduceAdd, Int.reduceToNat, Int.reduceLE, Int.reduceLT, Int.reduceNeg, reduceIte, postC, watchC, sll]
      have hz : (((j : Int) = 0) = True ∧ decide (j = 0) = true) ∨ (((j : Int) = 0) = False ∧ decide (j = 0) = false) := by
        by_cases h : j = 0
        · exact .inl ⟨eq_true (by omega), by simp [h]⟩
        · exact .inr ⟨eq_false (by omega), by simp [h]⟩
      have hG := gAt_ok (p := p) (reads := reads) (j + 1)
      rcases hz with ⟨e0, e1⟩ | ⟨e0, e1⟩ <;> rw [e1] at hnx
      all_goals
        (repeat' (first
    | (refine awp_ownN 4 rfl ?_; simp (maxSteps := 4000000) only [go_sem, List.append_eq, List.cons_append, List.nil_append, Nat.reduceAdd, Nat.reduceMul, Nat.reduceSub, Nat.reduceLeDiff, Nat.reduceLT, Int.reduceAdd, Int.reduceToNat, Int.reduceLE, Int.reduceLT, Int.reduceNeg, reduceIte, postC, watchC, sll, List.take_succ_cons, List.take_zero, e0, e6, decide_true, decide_false]; refine own_go (hnx) [8, 7] rfl (by simp (maxSteps := 4000000) only [go_sem, List.append_eq, List.cons_append, List.nil_append, Nat.reduceAdd, Nat.reduceMul, Nat.reduceSub, Nat.reduceLeDiff, Nat.reduceLT, Int.reduceAdd, Int.reduceToNat, Int.reduceLE, Int.reduceLT, Int.reduceNeg, reduceIte, postC, watchC, sll, e0, e6, decide_true, decide_false]) (by simp (maxSteps := 4000000) only [go_sem, List.append_eq, List.cons_append, List.nil_append, Nat.reduceAdd, Nat.reduceMul, Nat.reduceSub, Nat.reduceLeDiff, Nat.reduceLT, Int.reduceAdd, Int.reduceToNat, Int.reduceLE, Int.reduceLT, Int.reduceNeg, reduceIte, postC, watchC, sll, Nat.lt_irrefl, e0, e6, decide_true, decide_false] <;> decide) rfl ?_; simp (maxSteps := 4000000) only [go_sem, List.append_eq, List.cons_append, List.nil_append, Nat.reduceAdd, Nat.reduceMul, Nat.reduceSub, Nat.reduceLeDiff, Nat.reduceLT, Int.reduceAdd, Int.reduceToNat, Int.reduceLE, Int.reduceLT, Int.reduceNeg, reduceIte, postC, watchC, sll, e0, e6, decide_true, decide_false])
    | (refine awp_ownN 1 rfl ?_; simp (maxSteps := 4000000) only [go_sem, List.append_eq, List.cons_append, List.nil_append, Nat.reduceAdd, Nat.reduceMul, Nat.reduceSub, Nat.reduceLeDiff, Nat.reduceLT, Int.reduceAdd, Int.reduceToNat, Int.reduceLE, Int.reduceLT, Int.reduceNeg, reduceIte, postC, watchC, sll, List.take_succ_cons, List.take_zero, e0, e6, decide_true, decide_false]; refine own_go (hfa) [8, 7] rfl (by simp (maxSteps := 4000000) only [go_sem, List.append_eq, List.cons_append, List.nil_append, Nat.reduceAdd, Nat.reduceMul, Nat.reduceSub, Nat.reduceLeDiff, Nat.reduceLT, Int.reduceAdd, Int.reduceToNat, Int.reduceLE, Int.reduceLT, Int.reduceNeg, reduceIte, postC, watchC, sll, e0, e6, decide_true, decide_false]) (by simp (maxSteps := 4000000) only [go_sem, List.append_eq, List.cons_append, List.nil_append, Nat.reduceAdd, Nat.reduceMul, Nat.reduceSub, Nat.reduceLeDiff, Nat.reduceLT, Int.reduceAdd, Int.reduceToNat, Int.reduceLE, Int.reduceLT, Int.reduceNeg, reduceIte, postC, watchC, sll, Nat.lt_irrefl, e0, e6, decide_true, decide_false] <;> decide) rfl ?_; simp (maxSteps := 4000000) only [go_sem, List.append_eq, List.cons_append, List.nil_append, Nat.reduceAdd, Nat.reduceMul, Nat.reduceSub, Nat.reduceLeDiff, Nat.reduceLT, Int.reduceAdd, Int.reduceToNat, Int.reduceLE, Int.reduceLT, Int.reduceNeg, reduceIte, postC, watchC, sll, e0, e6, decide_true, decide_false])
    | (refine awp_seqK ?_)
    | (refine kt ?_)
    | (refine And.intro ?_ ?_)
    | ((first | refine awp_region ?_ | refine Imp.le2 ?_ | refine awp_label ?_ | refine awp_skip ?_ | refine awp_exit ?_ | refine awp_cd ?_ | refine awp_ret ?_); simp (maxSteps := 4000000) only [go_sem, List.append_eq, List.cons_append, List.nil_append, Nat.reduceAdd, Nat.reduceMul, Nat.reduceSub, Nat.reduceLeDiff, Nat.reduceLT, Int.reduceAdd, Int.reduceToNat, Int.reduceLE, Int.reduceLT, Int.reduceNeg, reduceIte, postC, watchC, sll, e0, e6, decide_true, decide_false])
    | (intro _h)
    | (refine awp_block ?_)
    | (refine awp_scope ?_)
    | (refine go_split (fun _h => ?_) (fun _h => ?_) <;> simp (maxSteps := 4000000) only [go_sem, List.append_eq, List.cons_append, List.nil_append, Nat.reduceAdd, Nat.reduceMul, Nat.reduceSub, Nat.reduceLeDiff, Nat.reduceLT, Int.reduceAdd, Int.reduceToNat, Int.reduceLE, Int.reduceLT, Int.reduceNeg, reduceIte, postC, watchC, sll, e0, e6, decide_true, decide_false])
    | (show heapOK _ _ = true; kernel_rfl)
    | (show heapOK2 _ _ = true; kernel_rfl)
    | (omega)))
      all_goals
        refine AWP.le2 (s' := ⟨trU rs (k + 1) j, trI p k v (gAt p reads (j + 1)) j (pmC p reads j) 0, []⟩) (by simp only [trU, trI, trH, postC, watchC, copy_zero]; simp (maxSteps := 4000000) only [go_sem, List.append_eq, List.cons_append, List.nil_append, Nat.reduceAdd, Nat.reduceMul, Nat.reduceSub, Nat.reduceLeDiff, Nat.reduceLT, Int.reduceAdd, Int.reduceToNat, Int.reduceLE, Int.reduceLT, Int.reduceNeg, reduceIte, postC, watchC, sll]; rfl) ?_
        generalize hgg : gAt p reads (j + 1) = g at *
        refine awp_rangeZ (gf := 87) (first := []) (caps := [.ptr 13 0 0]) (by simp only [trU]; simp (maxSteps := 4000000) only [go_sem, List.append_eq, List.cons_append, List.nil_append, Nat.reduceAdd, Nat.reduceMul, Nat.reduceSub, Nat.reduceLeDiff, Nat.reduceLT, Int.reduceAdd, Int.reduceToNat, Int.reduceLE, Int.reduceLT, Int.reduceNeg, reduceIte, postC, watchC, sll]) 14 rfl ?_
        intro ca cb hca hcb
        refine ⟨.tup [], trI p k v g j (pmC p reads j) (p.errs.length + 1) ++ [some (.dfr true), some (.loop .ready none 0 (trU rs (k + 1) j) #[59, 60] ca cb 14)], .ready, none, .normal, ?_, ?_, by simp, rfl, ?_⟩
        · simp only [trI, trH, trU, postC, watchC]
          simp (maxSteps := 4000000) only [go_sem, List.append_eq, List.cons_append, List.nil_append, Nat.reduceAdd, Nat.reduceMul, Nat.reduceSub, Nat.reduceLeDiff, Nat.reduceLT, Int.reduceAdd, Int.reduceToNat, Int.reduceLE, Int.reduceLT, Int.reduceNeg, reduceIte, postC, watchC, sll]
          (refine semF_of_awp (ys := []) (fun w args => Try.call87 ..) Try.func87 rfl (fun w0 m0 wz => ?_); simp only [Try.ntmps87, Try.results87, initT, junks, postC, watchC, sll, sl, List.toList_toArray, List.cons_append, List.nil_append, List.length_cons, List.length_nil, Nat.reduceAdd, Nat.reduceSub])
          (repeat' (first
    | (refine awp_seqK ?_)
    | (refine kt ?_)
    | (refine And.intro ?_ ?_)
    | ((first | refine awp_region ?_ | refine awp_draw (by kernel_rfl) (by kernel_rfl) ?_ | refine Imp.le2 ?_ | refine awp_label ?_ | refine awp_skip ?_ | refine awp_exit ?_ | refine awp_cd ?_ | refine awp_ret ?_); simp (maxSteps := 4000000) only [go_sem, List.append_eq, List.cons_append, List.nil_append, Nat.reduceAdd, Nat.reduceMul, Nat.reduceSub, Nat.reduceLeDiff, Nat.reduceLT, Int.reduceAdd, Int.reduceToNat, Int.reduceLE, Int.reduceLT, Int.reduceNeg, reduceIte, postC, watchC, sll])
    | (intro _h)
    | (refine awp_block ?_)
    | (refine awp_scope ?_)
    | (refine go_split (fun _h => ?_) (fun _h => ?_) <;> simp (maxSteps := 4000000) only [go_sem, List.append_eq, List.cons_append, List.nil_append, Nat.reduceAdd, Nat.reduceMul, Nat.reduceSub, Nat.reduceLeDiff, Nat.reduceLT, Int.reduceAdd, Int.reduceToNat, Int.reduceLE, Int.reduceLT, Int.reduceNeg, reduceIte, postC, watchC, sll])
    | (show heapOK _ _ = true; kernel_rfl)
    | (show heapOK2 _ _ = true; kernel_rfl)
    | (omega)))
          refine awp_loopN (p.errs.length + 1) (fun i => ⟨mkT 33 [(0, .fn (.yield 15) [] []), (1, .ptr 13 0 0), (3, .int .i64 ((i : Int) - 1))], trI p k v g j (pmC p reads j) i ++ [some (.dfr true), some (.loop .ready none 0 (trU rs (k + 1) j) #[59, 60] ca cb 14)], []⟩) (.le2 ?_) ?_
          · simp only [trI, trH, trU, postC, watchC]; simp (maxSteps := 4000000) only [go_sem, List.append_eq, List.cons_append, List.nil_append, Nat.reduceAdd, Nat.reduceMul, Nat.reduceSub, Nat.reduceLeDiff, Nat.reduceLT, Int.reduceAdd, Int.reduceToNat, Int.reduceLE, Int.reduceLT, Int.reduceNeg, reduceIte, postC, watchC, sll]
            rfl
          · intro i hi
            have hgi := canon_get (n := p.errs.length) (g := g) (j := (i : Int) - 1) (by omega)
            have hcs := copy_succ (g := g) (i := i)
            cases hx : g ((i : Int) - 1) with
            | none =>
              have hsame : canon p.errs.length (copyG g (i + 1)) = canon p.errs.length (copyG g i) := canon_congr fun f h1 h2 => by
                rw [hcs, hx]; simp only [updI]
                by_cases e : f = (i : Int) - 1
                · rw [if_pos e]; simp only [copyG]; rw [if_neg (by omega)]
                · rw [if_neg e]
              simp only [trI, trH, trU, postC, watchC]; simp (maxSteps := 4000000) only [go_sem, List.append_eq, List.cons_append, List.nil_append, Nat.reduceAdd, Nat.reduceMul, Nat.reduceSub, Nat.reduceLeDiff, Nat.reduceLT, Int.reduceAdd, Int.reduceToNat, Int.reduceLE, Int.reduceLT, Int.reduceNeg, reduceIte, postC, watchC, sll]
              (repeat' (first
    | ((rw [mget_none ((hgi (by omega)).trans hx)]; simp (maxSteps := 4000000) only [go_sem, List.append_eq, List.cons_append, List.nil_append, Nat.reduceAdd, Nat.reduceMul, Nat.reduceSub, Nat.reduceLeDiff, Nat.reduceLT, Int.reduceAdd, Int.reduceToNat, Int.reduceLE, Int.reduceLT, Int.reduceNeg, reduceIte, postC, watchC, sll]))
    | ((show zeroOK _ = true; rfl))
    | (refine awp_seqK ?_)
    | (refine kt ?_)
    | (refine And.intro ?_ ?_)
    | ((first | refine awp_region ?_ | refine awp_draw (by kernel_rfl) (by kernel_rfl) ?_ | refine Imp.le2 ?_ | refine awp_label ?_ | refine awp_skip ?_ | refine awp_exit ?_ | refine awp_cd ?_ | refine awp_ret ?_); simp (maxSteps := 4000000) only [go_sem, List.append_eq, List.cons_append, List.nil_append, Nat.reduceAdd, Nat.reduceMul, Nat.reduceSub, Nat.reduceLeDiff, Nat.reduceLT, Int.reduceAdd, Int.reduceToNat, Int.reduceLE, Int.reduceLT, Int.reduceNeg, reduceIte, postC, watchC, sll])
    | (intro _h)
    | (refine awp_block ?_)
    | (refine awp_scope ?_)
    | (refine go_split (fun _h => ?_) (fun _h => ?_) <;> simp (maxSteps := 4000000) only [go_sem, List.append_eq, List.cons_append, List.nil_append, Nat.reduceAdd, Nat.reduceMul, Nat.reduceSub, Nat.reduceLeDiff, Nat.reduceLT, Int.reduceAdd, Int.reduceToNat, Int.reduceLE, Int.reduceLT, Int.reduceNeg, reduceIte, postC, watchC, sll])
    | (show heapOK _ _ = true; kernel_rfl)
    | (show heapOK2 _ _ = true; kernel_rfl)
    | (omega)))
              all_goals first
                | (rw [hsame]; done)
                | (have e : i = p.errs.length + 1 := by omega
                   subst e; first | rfl | exact ⟨rfl, rfl⟩)
                | (rw [hsame]; exact ⟨rfl, rfl⟩)
            | some x =>
              have hput : i < p.errs.length + 1 → mpPut (canon p.errs.length (copyG g i)) ((i : Int) - 1) x = canon p.errs.length (copyG g (i + 1)) := fun h => by
                rw [canon_put (by omega) (by omega) (.inr fun f h1 _ => by simp only [copyG]; rw [if_neg (by omega)]), hcs, hx]
              simp only [trI, trH, trU, postC, watchC]; simp (maxSteps := 4000000) only [go_sem, List.append_eq, List.cons_append, List.nil_append, Nat.reduceAdd, Nat.reduceMul, Nat.reduceSub, Nat.reduceLeDiff, Nat.reduceLT, Int.reduceAdd, Int.reduceToNat, Int.reduceLE, Int.reduceLT, Int.reduceNeg, reduceIte, postC, watchC, sll]
              (repeat' (first
    | ((rw [mget_some ((hgi (by omega)).trans hx)]; simp (maxSteps := 4000000) only [go_sem, List.append_eq, List.cons_append, List.nil_append, Nat.reduceAdd, Nat.reduceMul, Nat.reduceSub, Nat.reduceLeDiff, Nat.reduceLT, Int.reduceAdd, Int.reduceToNat, Int.reduceLE, Int.reduceLT, Int.reduceNeg, reduceIte, postC, watchC, sll]))
    | ((show zeroOK _ = true; rfl))
    | ((refine awp_ownN 5 rfl ?_; simp (maxSteps := 4000000) only [go_sem, List.append_eq, List.cons_append, List.nil_append, Nat.reduceAdd, Nat.reduceMul, Nat.reduceSub, Nat.reduceLeDiff, Nat.reduceLT, Int.reduceAdd, Int.reduceToNat, Int.reduceLE, Int.reduceLT, Int.reduceNeg, reduceIte, postC, watchC, sll, List.take_succ_cons, List.take_zero]; refine callH_yield true (trI p k v g j (pmC p reads j) (i + 1) ++ [some (.dfr true), some (.loop .ready none 0 (trU rs (k + 1) j) #[59, 60] ca cb 14), some (.cells 122 1 0 [.int .i64 x.1, .int .i64 x.2])]) ?_ ?_ <;> simp only [trI, trH, trU, postC, watchC] <;> (try simp (maxSteps := 4000000) only [go_sem, List.append_eq, List.cons_append, List.nil_append, Nat.reduceAdd, Nat.reduceMul, Nat.reduceSub, Nat.reduceLeDiff, Nat.reduceLT, Int.reduceAdd, Int.reduceToNat, Int.reduceLE, Int.reduceLT, Int.reduceNeg, reduceIte, postC, watchC, sll])))
    | (refine awp_seqK ?_)
    | (refine kt ?_)
    | (refine And.intro ?_ ?_)
    | ((first | refine awp_region ?_ | refine awp_draw (by kernel_rfl) (by kernel_rfl) ?_ | refine Imp.le2 ?_ | refine awp_label ?_ | refine awp_skip ?_ | refine awp_exit ?_ | refine awp_cd ?_ | refine awp_ret ?_); simp (maxSteps := 4000000) only [go_sem, List.append_eq, List.cons_append, List.nil_append, Nat.reduceAdd, Nat.reduceMul, Nat.reduceSub, Nat.reduceLeDiff, Nat.reduceLT, Int.reduceAdd, Int.reduceToNat, Int.reduceLE, Int.reduceLT, Int.reduceNeg, reduceIte, postC, watchC, sll])
    | (intro _h)
    | (refine awp_block ?_)
    | (refine awp_scope ?_)
    | (refine go_split (fun _h => ?_) (fun _h => ?_) <;> simp (maxSteps := 4000000) only [go_sem, List.append_eq, List.cons_append, List.nil_append, Nat.reduceAdd, Nat.reduceMul, Nat.reduceSub, Nat.reduceLeDiff, Nat.reduceLT, Int.reduceAdd, Int.reduceToNat, Int.reduceLE, Int.reduceLT, Int.reduceNeg, reduceIte, postC, watchC, sll])
    | (show heapOK _ _ = true; kernel_rfl)
    | (show heapOK2 _ _ = true; kernel_rfl)
    | (omega)))
              · rw [← hput (by omega)]
                refine semY_of_awpZ rfl rfl ?_
                intro B w0 l m w
                refine awp_code hca ?_
                (repeat' (first
    | (refine awp_seqK ?_)
    | (refine kt ?_)
    | (refine And.intro ?_ ?_)
    | ((first | refine awp_region ?_ | refine awp_draw (by kernel_rfl) (by kernel_rfl) ?_ | refine Imp.le2 ?_ | refine awp_label ?_ | refine awp_skip ?_ | refine awp_exit ?_ | refine awp_cd ?_ | refine awp_ret ?_); simp (maxSteps := 4000000) only [go_sem, List.append_eq, List.cons_append, List.nil_append, Nat.reduceAdd, Nat.reduceMul, Nat.reduceSub, Nat.reduceLeDiff, Nat.reduceLT, Int.reduceAdd, Int.reduceToNat, Int.reduceLE, Int.reduceLT, Int.reduceNeg, reduceIte, postC, watchC, sll])
    | (intro _h)
    | (refine awp_block ?_)
    | (refine awp_scope ?_)
    | (refine go_split (fun _h => ?_) (fun _h => ?_) <;> simp (maxSteps := 4000000) only [go_sem, List.append_eq, List.cons_append, List.nil_append, Nat.reduceAdd, Nat.reduceMul, Nat.reduceSub, Nat.reduceLeDiff, Nat.reduceLT, Int.reduceAdd, Int.reduceToNat, Int.reduceLE, Int.reduceLT, Int.reduceNeg, reduceIte, postC, watchC, sll])
    | (show heapOK _ _ = true; kernel_rfl)
    | (show heapOK2 _ _ = true; kernel_rfl)
    | (omega)))
                refine awp_code hcb ?_
                (repeat' (first
    | (refine awp_seqK ?_)
    | (refine kt ?_)
    | (refine And.intro ?_ ?_)
    | ((first | refine awp_region ?_ | refine awp_draw (by kernel_rfl) (by kernel_rfl) ?_ | refine Imp.le2 ?_ | refine awp_label ?_ | refine awp_skip ?_ | refine awp_exit ?_ | refine awp_cd ?_ | refine awp_ret ?_); simp (maxSteps := 4000000) only [go_sem, List.append_eq, List.cons_append, List.nil_append, Nat.reduceAdd, Nat.reduceMul, Nat.reduceSub, Nat.reduceLeDiff, Nat.reduceLT, Int.reduceAdd, Int.reduceToNat, Int.reduceLE, Int.reduceLT, Int.reduceNeg, reduceIte, postC, watchC, sll])
    | (intro _h)
    | (refine awp_block ?_)
    | (refine awp_scope ?_)
    | (refine go_split (fun _h => ?_) (fun _h => ?_) <;> simp (maxSteps := 4000000) only [go_sem, List.append_eq, List.cons_append, List.nil_append, Nat.reduceAdd, Nat.reduceMul, Nat.reduceSub, Nat.reduceLeDiff, Nat.reduceLT, Int.reduceAdd, Int.reduceToNat, Int.reduceLE, Int.reduceLT, Int.reduceNeg, reduceIte, postC, watchC, sll])
    | (show heapOK _ _ = true; kernel_rfl)
    | (show heapOK2 _ _ = true; kernel_rfl)
    | (omega)))
              all_goals first
                | (have e : i = p.errs.length + 1 := by omega
                   subst e; first | rfl | exact ⟨rfl, rfl⟩)
        · rfl
        · simp only [trI, trH, trU, postC, watchC]
          simp (maxSteps := 4000000) only [go_sem, List.append_eq, List.cons_append, List.nil_append, Nat.reduceAdd, Nat.reduceMul, Nat.reduceSub, Nat.reduceLeDiff, Nat.reduceLT, Int.reduceAdd, Int.reduceToNat, Int.reduceLE, Int.reduceLT, Int.reduceNeg, reduceIte, postC, watchC, sll]
          refine kt ?_
          rw [copy_all (by omega)]
          (refine awp_fmz 11 rfl (pe_mp) (fun _ => rfl) ?_; simp only [fmz, fm_pure, fmB_c, fmB_m, fmB_d, fmB_l, fmO, fmH, fmHs, fzl, fm2, fm1, fm0, List.map_cons, List.map_nil, if_true, if_false, reduceIte, Nat.reduceEqDiff, Nat.reduceAdd, Nat.succ_ne_self, Nat.zero_ne_one, Nat.one_ne_zero, reduceCtorEq, and_self])
          (repeat' (first
    | (refine awp_seqK ?_)
    | (refine kt ?_)
    | (refine And.intro ?_ ?_)
    | ((first | refine awp_region ?_ | refine awp_draw (by kernel_rfl) (by kernel_rfl) ?_ | refine awp_label ?_ | refine awp_skip ?_ | refine awp_exit ?_ | refine awp_cd ?_ | refine awp_ret ?_); simp (maxSteps := 4000000) only [go_sem, List.append_eq, List.cons_append, List.nil_append, Nat.reduceAdd, Nat.reduceMul, Nat.reduceSub, Nat.reduceLeDiff, Nat.reduceLT, Int.reduceAdd, Int.reduceToNat, Int.reduceLE, Int.reduceLT, Int.reduceNeg, reduceIte, postC, watchC, sll])
    | (intro _h)
    | (refine awp_block ?_)
    | (refine awp_scope ?_)
    | (refine go_split (fun _h => ?_) (fun _h => ?_) <;> simp (maxSteps := 4000000) only [go_sem, List.append_eq, List.cons_append, List.nil_append, Nat.reduceAdd, Nat.reduceMul, Nat.reduceSub, Nat.reduceLeDiff, Nat.reduceLT, Int.reduceAdd, Int.reduceToNat, Int.reduceLE, Int.reduceLT, Int.reduceNeg, reduceIte, postC, watchC, sll])
    | (show heapOK _ _ = true; kernel_rfl)
    | (show heapOK2 _ _ = true; kernel_rfl)
    | (omega)))
          refine Imp.hide (fun _ => rfl) ?_ ?_
          · rw [pmC_succ, hgg]
            simp (maxSteps := 4000000) only [go_sem, List.append_eq, List.cons_append, List.nil_append, Nat.reduceAdd, Nat.reduceMul, Nat.reduceSub, Nat.reduceLeDiff, Nat.reduceLT, Int.reduceAdd, Int.reduceToNat, Int.reduceLE, Int.reduceLT, Int.reduceNeg, reduceIte, postC, watchC, sll]
            exact ⟨by omega, by simp only [List.all_append, lv_pm, List.all_cons, lv_pmap, List.all_nil, Bool.and_self]⟩
          · simp [hidD, hget]
    · have ej : j = k + 1 := by omega
      have e6 : ((j : Int) < ((k + 1 : Nat) : Int)) = False := eq_false (by omega)
      simp only [trT, trH, postC, watchC]; simp (maxSteps := 4000000) only [go_sem, List.append_eq, List.cons_append, List.nil_append, Nat.reduceAdd, Nat.reduceMul, Nat.reduceSub, Nat.reduceLeDiff, Nat.reduceLT, Int.reduceAdd, Int.reduceToNat, Int.reduceLE, Int.reduceLT, Int.reduceNeg, reduceIte, postC, watchC, sll]
      (repeat' (first
    | (refine awp_ownN 1 rfl ?_; simp (maxSteps := 4000000) only [go_sem, List.append_eq, List.cons_append, List.nil_append, Nat.reduceAdd, Nat.reduceMul, Nat.reduceSub, Nat.reduceLeDiff, Nat.reduceLT, Int.reduceAdd, Int.reduceToNat, Int.reduceLE, Int.reduceLT, Int.reduceNeg, reduceIte, postC, watchC, sll, List.take_succ_cons, List.take_zero, e6, decide_false]; refine own_go (hfb) [8, 7] rfl (by simp (maxSteps := 4000000) only [go_sem, List.append_eq, List.cons_append, List.nil_append, Nat.reduceAdd, Nat.reduceMul, Nat.reduceSub, Nat.reduceLeDiff, Nat.reduceLT, Int.reduceAdd, Int.reduceToNat, Int.reduceLE, Int.reduceLT, Int.reduceNeg, reduceIte, postC, watchC, sll, e6, decide_false]) (by simp (maxSteps := 4000000) only [go_sem, List.append_eq, List.cons_append, List.nil_append, Nat.reduceAdd, Nat.reduceMul, Nat.reduceSub, Nat.reduceLeDiff, Nat.reduceLT, Int.reduceAdd, Int.reduceToNat, Int.reduceLE, Int.reduceLT, Int.reduceNeg, reduceIte, postC, watchC, sll, Nat.lt_irrefl, e6, decide_false] <;> decide) rfl ?_; simp (maxSteps := 4000000) only [go_sem, List.append_eq, List.cons_append, List.nil_append, Nat.reduceAdd, Nat.reduceMul, Nat.reduceSub, Nat.reduceLeDiff, Nat.reduceLT, Int.reduceAdd, Int.reduceToNat, Int.reduceLE, Int.reduceLT, Int.reduceNeg, reduceIte, postC, watchC, sll, e6, decide_false])
    | (refine awp_seqK ?_)
    | (refine kt ?_)
    | (refine And.intro ?_ ?_)
    | ((first | refine awp_region ?_ | refine Imp.le2 ?_ | refine awp_label ?_ | refine awp_skip ?_ | refine awp_exit ?_ | refine awp_cd ?_ | refine awp_ret ?_); simp (maxSteps := 4000000) only [go_sem, List.append_eq, List.cons_append, List.nil_append, Nat.reduceAdd, Nat.reduceMul, Nat.reduceSub, Nat.reduceLeDiff, Nat.reduceLT, Int.reduceAdd, Int.reduceToNat, Int.reduceLE, Int.reduceLT, Int.reduceNeg, reduceIte, postC, watchC, sll, e6, decide_false])
    | (intro _h)
    | (refine awp_block ?_)
    | (refine awp_scope ?_)
    | (refine go_split (fun _h => ?_) (fun _h => ?_) <;> simp (maxSteps := 4000000) only [go_sem, List.append_eq, List.cons_append, List.nil_append, Nat.reduceAdd, Nat.reduceMul, Nat.reduceSub, Nat.reduceLeDiff, Nat.reduceLT, Int.reduceAdd, Int.reduceToNat, Int.reduceLE, Int.reduceLT, Int.reduceNeg, reduceIte, postC, watchC, sll, e6, decide_false])
    | (show heapOK _ _ = true; kernel_rfl)
    | (show heapOK2 _ _ = true; kernel_rfl)
    | (omega)))
      subst ej
      (refine awp_frz 10 rfl (by simp (maxSteps := 4000000) only [go_sem, List.append_eq, List.cons_append, List.nil_append, Nat.reduceAdd, Nat.reduceMul, Nat.reduceSub, Nat.reduceLeDiff, Nat.reduceLT, Int.reduceAdd, Int.reduceToNat, Int.reduceLE, Int.reduceLT, Int.reduceNeg, reduceIte, postC, watchC, sll]) (fun _ => rfl) ?_; simp only [frz, fq_pure, fzB_c, fzB_m, fzB_d, fzB_l, fzO, fzH, fzHs, fzl, fz2, fz1, fz0, List.map_cons, List.map_nil, if_true, if_false, reduceIte, Nat.reduceEqDiff, Nat.reduceAdd, Nat.succ_ne_self, Nat.zero_ne_one, Nat.one_ne_zero, reduceCtorEq, and_self])
      (refine awp_frz 9 rfl (by simp (maxSteps := 4000000) only [go_sem, List.append_eq, List.cons_append, List.nil_append, Nat.reduceAdd, Nat.reduceMul, Nat.reduceSub, Nat.reduceLeDiff, Nat.reduceLT, Int.reduceAdd, Int.reduceToNat, Int.reduceLE, Int.reduceLT, Int.reduceNeg, reduceIte, postC, watchC, sll]) (fun _ => rfl) ?_; simp only [frz, fq_pure, fzB_c, fzB_m, fzB_d, fzB_l, fzO, fzH, fzHs, fzl, fz2, fz1, fz0, List.map_cons, List.map_nil, if_true, if_false, reduceIte, Nat.reduceEqDiff, Nat.reduceAdd, Nat.succ_ne_self, Nat.zero_ne_one, Nat.one_ne_zero, reduceCtorEq, and_self])
      (refine awp_frz 0 rfl (by simp (maxSteps := 4000000) only [go_sem, List.append_eq, List.cons_append, List.nil_append, Nat.reduceAdd, Nat.reduceMul, Nat.reduceSub, Nat.reduceLeDiff, Nat.reduceLT, Int.reduceAdd, Int.reduceToNat, Int.reduceLE, Int.reduceLT, Int.reduceNeg, reduceIte, postC, watchC, sll]) (fun _ => rfl) ?_; simp only [frz, fq_pure, fzB_c, fzB_m, fzB_d, fzB_l, fzO, fzH, fzHs, fzl, fz2, fz1, fz0, List.map_cons, List.map_nil, if_true, if_false, reduceIte, Nat.reduceEqDiff, Nat.reduceAdd, Nat.succ_ne_self, Nat.zero_ne_one, Nat.one_ne_zero, reduceCtorEq, and_self])
      have hG := gAt_ok (p := p) (reads := reads) (k + 1)
      refine AWP.le2 (s' := ⟨fiT, fiH p k v (gAt p reads (k + 1)) (k + 1) (pmC p reads (k + 1)) 0 .nils, []⟩) (by simp only [fiT, fiH, postC, watchC]; simp (maxSteps := 4000000) only [go_sem, List.append_eq, List.cons_append, List.nil_append, Nat.reduceAdd, Nat.reduceMul, Nat.reduceSub, Nat.reduceLeDiff, Nat.reduceLT, Int.reduceAdd, Int.reduceToNat, Int.reduceLE, Int.reduceLT, Int.reduceNeg, reduceIte, postC, watchC, sll]) ?_
      generalize hgg : gAt p reads (k + 1) = g at *
      refine awp_rangeZ (gf := 87) (first := []) (caps := [.ptr 12 0 0]) (by simp only [fiT]; simp (maxSteps := 4000000) only [go_sem, List.append_eq, List.cons_append, List.nil_append, Nat.reduceAdd, Nat.reduceMul, Nat.reduceSub, Nat.reduceLeDiff, Nat.reduceLT, Int.reduceAdd, Int.reduceToNat, Int.reduceLE, Int.reduceLT, Int.reduceNeg, reduceIte, postC, watchC, sll]) 13 rfl ?_
      intro ca cb hca hcb
      cases hpk : pickF g v (p.errs.length + 1) with
      | none =>
        have hno := pickF_none _ hpk
        refine ⟨.tup [], fiH p k v g (k + 1) (pmC p reads (k + 1)) 0 .nils ++ [some (.dfr true), some (.loop .ready none 0 fiT #[72, 73] ca cb 13)], .ready, none, .normal, ?_, ?_, by simp, rfl, ?_⟩
        · simp only [fiH, fiT, postC, watchC]
          simp (maxSteps := 4000000) only [go_sem, List.append_eq, List.cons_append, List.nil_append, Nat.reduceAdd, Nat.reduceMul, Nat.reduceSub, Nat.reduceLeDiff, Nat.reduceLT, Int.reduceAdd, Int.reduceToNat, Int.reduceLE, Int.reduceLT, Int.reduceNeg, reduceIte, postC, watchC, sll]
          (refine semF_of_awp (ys := []) (fun w args => Try.call87 ..) Try.func87 rfl (fun w0 m0 wz => ?_); simp only [Try.ntmps87, Try.results87, initT, junks, postC, watchC, sll, sl, List.toList_toArray, List.cons_append, List.nil_append, List.length_cons, List.length_nil, Nat.reduceAdd, Nat.reduceSub])
          (repeat' (first
    | (refine awp_seqK ?_)
    | (refine kt ?_)
    | (refine And.intro ?_ ?_)
    | ((first | refine awp_region ?_ | refine awp_draw (by kernel_rfl) (by kernel_rfl) ?_ | refine Imp.le2 ?_ | refine awp_label ?_ | refine awp_skip ?_ | refine awp_exit ?_ | refine awp_cd ?_ | refine awp_ret ?_); simp (maxSteps := 4000000) only [go_sem, List.append_eq, List.cons_append, List.nil_append, Nat.reduceAdd, Nat.reduceMul, Nat.reduceSub, Nat.reduceLeDiff, Nat.reduceLT, Int.reduceAdd, Int.reduceToNat, Int.reduceLE, Int.reduceLT, Int.reduceNeg, reduceIte, postC, watchC, sll])
    | (intro _h)
    | (refine awp_block ?_)
    | (refine awp_scope ?_)
    | (refine go_split (fun _h => ?_) (fun _h => ?_) <;> simp (maxSteps := 4000000) only [go_sem, List.append_eq, List.cons_append, List.nil_append, Nat.reduceAdd, Nat.reduceMul, Nat.reduceSub, Nat.reduceLeDiff, Nat.reduceLT, Int.reduceAdd, Int.reduceToNat, Int.reduceLE, Int.reduceLT, Int.reduceNeg, reduceIte, postC, watchC, sll])
    | (show heapOK _ _ = true; kernel_rfl)
    | (show heapOK2 _ _ = true; kernel_rfl)
    | (omega)))
          refine awp_loopN (p.errs.length + 1) (fun i => ⟨mkT 33 [(0, .fn (.yield 14) [] []), (1, .ptr 12 0 0), (3, .int .i64 ((i : Int) - 1))], fiH p k v g (k + 1) (pmC p reads (k + 1)) 0 .nils ++ [some (.dfr true), some (.loop .ready none 0 fiT #[72, 73] ca cb 13)], []⟩) (.le2 ?_) ?_
          · simp only [fiH, fiT, postC, watchC]; simp (maxSteps := 4000000) only [go_sem, List.append_eq, List.cons_append, List.nil_append, Nat.reduceAdd, Nat.reduceMul, Nat.reduceSub, Nat.reduceLeDiff, Nat.reduceLT, Int.reduceAdd, Int.reduceToNat, Int.reduceLE, Int.reduceLT, Int.reduceNeg, reduceIte, postC, watchC, sll]
            rfl
          · intro i hi
            have hgi := canon_get (n := p.errs.length) (g := g) (j := (i : Int) - 1) (by omega)
            cases hx : g ((i : Int) - 1) with
            | none =>
              simp only [fiH, fiT, postC, watchC]; simp (maxSteps := 4000000) only [go_sem, List.append_eq, List.cons_append, List.nil_append, Nat.reduceAdd, Nat.reduceMul, Nat.reduceSub, Nat.reduceLeDiff, Nat.reduceLT, Int.reduceAdd, Int.reduceToNat, Int.reduceLE, Int.reduceLT, Int.reduceNeg, reduceIte, postC, watchC, sll]
              (repeat' (first
    | ((rw [mget_none ((hgi (by omega)).trans hx)]; simp (maxSteps := 4000000) only [go_sem, List.append_eq, List.cons_append, List.nil_append, Nat.reduceAdd, Nat.reduceMul, Nat.reduceSub, Nat.reduceLeDiff, Nat.reduceLT, Int.reduceAdd, Int.reduceToNat, Int.reduceLE, Int.reduceLT, Int.reduceNeg, reduceIte, postC, watchC, sll]))
    | ((show zeroOK _ = true; rfl))
    | (refine awp_seqK ?_)
    | (refine kt ?_)
    | (refine And.intro ?_ ?_)
    | ((first | refine awp_region ?_ | refine awp_draw (by kernel_rfl) (by kernel_rfl) ?_ | refine Imp.le2 ?_ | refine awp_label ?_ | refine awp_skip ?_ | refine awp_exit ?_ | refine awp_cd ?_ | refine awp_ret ?_); simp (maxSteps := 4000000) only [go_sem, List.append_eq, List.cons_append, List.nil_append, Nat.reduceAdd, Nat.reduceMul, Nat.reduceSub, Nat.reduceLeDiff, Nat.reduceLT, Int.reduceAdd, Int.reduceToNat, Int.reduceLE, Int.reduceLT, Int.reduceNeg, reduceIte, postC, watchC, sll])
    | (intro _h)
    | (refine awp_block ?_)
    | (refine awp_scope ?_)
    | (refine go_split (fun _h => ?_) (fun _h => ?_) <;> simp (maxSteps := 4000000) only [go_sem, List.append_eq, List.cons_append, List.nil_append, Nat.reduceAdd, Nat.reduceMul, Nat.reduceSub, Nat.reduceLeDiff, Nat.reduceLT, Int.reduceAdd, Int.reduceToNat, Int.reduceLE, Int.reduceLT, Int.reduceNeg, reduceIte, postC, watchC, sll])
    | (show heapOK _ _ = true; kernel_rfl)
    | (show heapOK2 _ _ = true; kernel_rfl)
    | (omega)))
            | some x =>
              have hn1 : i < p.errs.length + 1 → (x.1 ≤ v ∧ v ≤ x.2) = False := fun h => eq_false (hno i h x hx)
              simp only [fiH, fiT, postC, watchC]; simp (maxSteps := 4000000) only [go_sem, List.append_eq, List.cons_append, List.nil_append, Nat.reduceAdd, Nat.reduceMul, Nat.reduceSub, Nat.reduceLeDiff, Nat.reduceLT, Int.reduceAdd, Int.reduceToNat, Int.reduceLE, Int.reduceLT, Int.reduceNeg, reduceIte, postC, watchC, sll]
              (repeat' (first
    | ((rw [mget_some ((hgi (by omega)).trans hx)]; simp (maxSteps := 4000000) only [go_sem, List.append_eq, List.cons_append, List.nil_append, Nat.reduceAdd, Nat.reduceMul, Nat.reduceSub, Nat.reduceLeDiff, Nat.reduceLT, Int.reduceAdd, Int.reduceToNat, Int.reduceLE, Int.reduceLT, Int.reduceNeg, reduceIte, postC, watchC, sll]))
    | ((show zeroOK _ = true; rfl))
    | ((refine awp_ownN 5 rfl ?_; simp (maxSteps := 4000000) only [go_sem, List.append_eq, List.cons_append, List.nil_append, Nat.reduceAdd, Nat.reduceMul, Nat.reduceSub, Nat.reduceLeDiff, Nat.reduceLT, Int.reduceAdd, Int.reduceToNat, Int.reduceLE, Int.reduceLT, Int.reduceNeg, reduceIte, postC, watchC, sll, List.take_succ_cons, List.take_zero]; refine callH_yield true (fiH p k v g (k + 1) (pmC p reads (k + 1)) 0 .nils ++ [some (.dfr true), some (.loop .ready none 0 fiT #[72, 73] ca cb 13), some (.cells 122 1 0 [.int .i64 x.1, .int .i64 x.2])]) ?_ ?_ <;> simp only [fiH, fiT, postC, watchC] <;> (try simp (maxSteps := 4000000) only [go_sem, List.append_eq, List.cons_append, List.nil_append, Nat.reduceAdd, Nat.reduceMul, Nat.reduceSub, Nat.reduceLeDiff, Nat.reduceLT, Int.reduceAdd, Int.reduceToNat, Int.reduceLE, Int.reduceLT, Int.reduceNeg, reduceIte, postC, watchC, sll])))
    | (refine awp_seqK ?_)
    | (refine kt ?_)
    | (refine And.intro ?_ ?_)
    | ((first | refine awp_region ?_ | refine awp_draw (by kernel_rfl) (by kernel_rfl) ?_ | refine Imp.le2 ?_ | refine awp_label ?_ | refine awp_skip ?_ | refine awp_exit ?_ | refine awp_cd ?_ | refine awp_ret ?_); simp (maxSteps := 4000000) only [go_sem, List.append_eq, List.cons_append, List.nil_append, Nat.reduceAdd, Nat.reduceMul, Nat.reduceSub, Nat.reduceLeDiff, Nat.reduceLT, Int.reduceAdd, Int.reduceToNat, Int.reduceLE, Int.reduceLT, Int.reduceNeg, reduceIte, postC, watchC, sll])
    | (intro _h)
    | (refine awp_block ?_)
    | (refine awp_scope ?_)
    | (refine go_split (fun _h => ?_) (fun _h => ?_) <;> simp (maxSteps := 4000000) only [go_sem, List.append_eq, List.cons_append, List.nil_append, Nat.reduceAdd, Nat.reduceMul, Nat.reduceSub, Nat.reduceLeDiff, Nat.reduceLT, Int.reduceAdd, Int.reduceToNat, Int.reduceLE, Int.reduceLT, Int.reduceNeg, reduceIte, postC, watchC, sll])
    | (show heapOK _ _ = true; kernel_rfl)
    | (show heapOK2 _ _ = true; kernel_rfl)
    | (omega)))
              · have hn2 := hn1 (by omega)
                refine semY_of_awpZ rfl rfl ?_
                intro B w0 l m w
                refine awp_code hca ?_
                (repeat' (first
    | (refine awp_seqK ?_)
    | (refine kt ?_)
    | (refine And.intro ?_ ?_)
    | ((first | refine awp_region ?_ | refine awp_draw (by kernel_rfl) (by kernel_rfl) ?_ | refine Imp.le2 ?_ | refine awp_label ?_ | refine awp_skip ?_ | refine awp_exit ?_ | refine awp_cd ?_ | refine awp_ret ?_); simp (maxSteps := 4000000) only [go_sem, List.append_eq, List.cons_append, List.nil_append, Nat.reduceAdd, Nat.reduceMul, Nat.reduceSub, Nat.reduceLeDiff, Nat.reduceLT, Int.reduceAdd, Int.reduceToNat, Int.reduceLE, Int.reduceLT, Int.reduceNeg, reduceIte, postC, watchC, sll])
    | (intro _h)
    | (refine awp_block ?_)
    | (refine awp_scope ?_)
    | (refine go_split (fun _h => ?_) (fun _h => ?_) <;> simp (maxSteps := 4000000) only [go_sem, List.append_eq, List.cons_append, List.nil_append, Nat.reduceAdd, Nat.reduceMul, Nat.reduceSub, Nat.reduceLeDiff, Nat.reduceLT, Int.reduceAdd, Int.reduceToNat, Int.reduceLE, Int.reduceLT, Int.reduceNeg, reduceIte, postC, watchC, sll])
    | (show heapOK _ _ = true; kernel_rfl)
    | (show heapOK2 _ _ = true; kernel_rfl)
    | (omega)))
                refine awp_code hcb ?_
                (repeat' (first
    | (refine awp_seqK ?_)
    | (refine kt ?_)
    | (refine And.intro ?_ ?_)
    | ((first | refine awp_region ?_ | refine awp_draw (by kernel_rfl) (by kernel_rfl) ?_ | refine Imp.le2 ?_ | refine awp_label ?_ | refine awp_skip ?_ | refine awp_exit ?_ | refine awp_cd ?_ | refine awp_ret ?_); simp (maxSteps := 4000000) only [go_sem, List.append_eq, List.cons_append, List.nil_append, Nat.reduceAdd, Nat.reduceMul, Nat.reduceSub, Nat.reduceLeDiff, Nat.reduceLT, Int.reduceAdd, Int.reduceToNat, Int.reduceLE, Int.reduceLT, Int.reduceNeg, reduceIte, postC, watchC, sll, hn2, decide_false])
    | (intro _h)
    | (refine awp_block ?_)
    | (refine awp_scope ?_)
    | ((first | refine callK_of (within_c _ _ _) ?_); try simp (maxSteps := 4000000) only [go_sem, List.append_eq, List.cons_append, List.nil_append, Nat.reduceAdd, Nat.reduceMul, Nat.reduceSub, Nat.reduceLeDiff, Nat.reduceLT, Int.reduceAdd, Int.reduceToNat, Int.reduceLE, Int.reduceLT, Int.reduceNeg, reduceIte, postC, watchC, sll, hn2, decide_false])
    | (refine go_split (fun _h => ?_) (fun _h => ?_) <;> simp (maxSteps := 4000000) only [go_sem, List.append_eq, List.cons_append, List.nil_append, Nat.reduceAdd, Nat.reduceMul, Nat.reduceSub, Nat.reduceLeDiff, Nat.reduceLT, Int.reduceAdd, Int.reduceToNat, Int.reduceLE, Int.reduceLT, Int.reduceNeg, reduceIte, postC, watchC, sll, hn2, decide_false])
    | (show heapOK _ _ = true; kernel_rfl)
    | (show heapOK2 _ _ = true; kernel_rfl)
    | (omega)))
        · rfl
        · simp only [fiH, fiT, postC, watchC]
          simp (maxSteps := 4000000) only [go_sem, List.append_eq, List.cons_append, List.nil_append, Nat.reduceAdd, Nat.reduceMul, Nat.reduceSub, Nat.reduceLeDiff, Nat.reduceLT, Int.reduceAdd, Int.reduceToNat, Int.reduceLE, Int.reduceLT, Int.reduceNeg, reduceIte, postC, watchC, sll]
          (repeat' (first
    | (refine awp_seqK ?_)
    | (refine kt ?_)
    | (refine And.intro ?_ ?_)
    | ((first | refine awp_region ?_ | refine awp_draw (by kernel_rfl) (by kernel_rfl) ?_ | refine Imp.le2 ?_ | refine awp_label ?_ | refine awp_skip ?_ | refine awp_exit ?_ | refine awp_cd ?_ | refine awp_ret ?_); simp (maxSteps := 4000000) only [go_sem, List.append_eq, List.cons_append, List.nil_append, Nat.reduceAdd, Nat.reduceMul, Nat.reduceSub, Nat.reduceLeDiff, Nat.reduceLT, Int.reduceAdd, Int.reduceToNat, Int.reduceLE, Int.reduceLT, Int.reduceNeg, reduceIte, postC, watchC, sll])
    | (intro _h)
    | (refine awp_block ?_)
    | (refine awp_scope ?_)
    | (refine go_split (fun _h => ?_) (fun _h => ?_) <;> simp (maxSteps := 4000000) only [go_sem, List.append_eq, List.cons_append, List.nil_append, Nat.reduceAdd, Nat.reduceMul, Nat.reduceSub, Nat.reduceLeDiff, Nat.reduceLT, Int.reduceAdd, Int.reduceToNat, Int.reduceLE, Int.reduceLT, Int.reduceNeg, reduceIte, postC, watchC, sll])
    | (show heapOK _ _ = true; kernel_rfl)
    | (show heapOK2 _ _ = true; kernel_rfl)
    | (omega)))
      | some f =>
        obtain ⟨i0, hi0, rfl, ⟨x0, hx0, hin⟩, hbef⟩ := pickF_some _ hpk
        have hbk : ∃ (b4 : AV) (tl : List (Option ABlk)), (k = 0 ∧ b4 = .psl true 1 [.int .i64 v] ∧ tl = [] ∧ backL (gAt p reads) p.gain ((i0 : Int) - 1) k v = [v] ∧ SemF Try.prog 74 [.int .i64 ((i0 : Int) - 1), .int .i64 k, .int .i64 v, .pptr [.psl false (k + 1) (pmC p reads (k + 1))] 0, .ptr 0 0 0, .pptr (postC p) 0] (backH p reads (k + 1)) (.psl true 1 [.int .i64 v]) (backH p reads (k + 1))) ∨
            (∃ q, k = q + 1 ∧ b4 = .osl 17 q 0 (q + 2) ∧ tl = [none, none, some (.cells 3 1 q (ints (backL (gAt p reads) p.gain ((i0 : Int) - 1) k v)))] ∧ SemF Try.prog 74 [.int .i64 ((i0 : Int) - 1), .int .i64 k, .int .i64 v, .pptr [.psl false (k + 1) (pmC p reads (k + 1))] 0, .ptr 0 0 0, .pptr (postC p) 0] (backH p reads (k + 1)) (.osl 1 q 0 (q + 2)) (backH p reads (k + 1) ++ [some (.cells 3 1 q (ints (backL (gAt p reads) p.gain ((i0 : Int) - 1) k v)))])) := by
          have h := back_c p reads (k + 1) ((i0 : Int) - 1) hp (by omega) (by omega) k v (by omega) hv
          cases k with
          | zero => exact ⟨_, _, .inl ⟨rfl, rfl, rfl, rfl, h⟩⟩
          | succ q => exact ⟨_, _, .inr ⟨q, rfl, rfl, rfl, h⟩⟩
        have hlen := backL_length (g := gAt p reads) (gain := p.gain) (f := (i0 : Int) - 1) k v
        generalize hLd : backL (gAt p reads) p.gain ((i0 : Int) - 1) k v = L at hbk hlen
        obtain ⟨b4, tl, hbk⟩ := hbk
        have hin' : (x0.1 ≤ v ∧ v ≤ x0.2) = True := eq_true hin
        rcases hbk with ⟨hk0, rfl, rfl, hL, hbk⟩ | ⟨q, hq, rfl, rfl, hbk⟩
        · simp only [backH, postC, sl] at hbk
          refine ⟨.tup [], fiH p k v g (k + 1) (pmC p reads (k + 1)) ((i0 : Int) - 1) (.psl true 1 [.int .i64 v]) ++ [some (.dfr true), some (.loop .done (some .ret) 0 fiT #[72, 73] ca cb 13)], .done, some .ret, .ret, ?_, ?_, by simp, rfl, ?_⟩
          · simp only [fiH, fiT, postC, watchC]
            simp (maxSteps := 4000000) only [go_sem, List.append_eq, List.cons_append, List.nil_append, Nat.reduceAdd, Nat.reduceMul, Nat.reduceSub, Nat.reduceLeDiff, Nat.reduceLT, Int.reduceAdd, Int.reduceToNat, Int.reduceLE, Int.reduceLT, Int.reduceNeg, reduceIte, postC, watchC, sll]
            (refine semF_of_awp (ys := []) (fun w args => Try.call87 ..) Try.func87 rfl (fun w0 m0 wz => ?_); simp only [Try.ntmps87, Try.results87, initT, junks, postC, watchC, sll, sl, List.toList_toArray, List.cons_append, List.nil_append, List.length_cons, List.length_nil, Nat.reduceAdd, Nat.reduceSub])
            (repeat' (first
    | (refine awp_seqK ?_)
    | (refine kt ?_)
    | (refine And.intro ?_ ?_)
    | ((first | refine awp_region ?_ | refine awp_draw (by kernel_rfl) (by kernel_rfl) ?_ | refine Imp.le2 ?_ | refine awp_label ?_ | refine awp_skip ?_ | refine awp_exit ?_ | refine awp_cd ?_ | refine awp_ret ?_); simp (maxSteps := 4000000) only [go_sem, List.append_eq, List.cons_append, List.nil_append, Nat.reduceAdd, Nat.reduceMul, Nat.reduceSub, Nat.reduceLeDiff, Nat.reduceLT, Int.reduceAdd, Int.reduceToNat, Int.reduceLE, Int.reduceLT, Int.reduceNeg, reduceIte, postC, watchC, sll])
    | (intro _h)
    | (refine awp_block ?_)
    | (refine awp_scope ?_)
    | (refine go_split (fun _h => ?_) (fun _h => ?_) <;> simp (maxSteps := 4000000) only [go_sem, List.append_eq, List.cons_append, List.nil_append, Nat.reduceAdd, Nat.reduceMul, Nat.reduceSub, Nat.reduceLeDiff, Nat.reduceLT, Int.reduceAdd, Int.reduceToNat, Int.reduceLE, Int.reduceLT, Int.reduceNeg, reduceIte, postC, watchC, sll])
    | (show heapOK _ _ = true; kernel_rfl)
    | (show heapOK2 _ _ = true; kernel_rfl)
    | (omega)))
            refine awp_loopN i0 (fun i => ⟨mkT 33 [(0, .fn (.yield 14) [] []), (1, .ptr 12 0 0), (3, .int .i64 ((i : Int) - 1))], fiH p k v g (k + 1) (pmC p reads (k + 1)) 0 .nils ++ [some (.dfr true), some (.loop .ready none 0 fiT #[72, 73] ca cb 13)], []⟩) (.le2 ?_) ?_
            · simp only [fiH, fiT, postC, watchC]; simp (maxSteps := 4000000) only [go_sem, List.append_eq, List.cons_append, List.nil_append, Nat.reduceAdd, Nat.reduceMul, Nat.reduceSub, Nat.reduceLeDiff, Nat.reduceLT, Int.reduceAdd, Int.reduceToNat, Int.reduceLE, Int.reduceLT, Int.reduceNeg, reduceIte, postC, watchC, sll]
              rfl
            · intro i hi
              have hgi := canon_get (n := p.errs.length) (g := g) (j := (i : Int) - 1) (by omega)
              rcases Nat.lt_or_eq_of_le hi with hi1 | hi1
              · cases hx : g ((i : Int) - 1) with
                | none =>
                  simp only [fiH, fiT, postC, watchC]; simp (maxSteps := 4000000) only [go_sem, List.append_eq, List.cons_append, List.nil_append, Nat.reduceAdd, Nat.reduceMul, Nat.reduceSub, Nat.reduceLeDiff, Nat.reduceLT, Int.reduceAdd, Int.reduceToNat, Int.reduceLE, Int.reduceLT, Int.reduceNeg, reduceIte, postC, watchC, sll]
                  (repeat' (first
    | ((rw [mget_none ((hgi (by omega)).trans hx)]; simp (maxSteps := 4000000) only [go_sem, List.append_eq, List.cons_append, List.nil_append, Nat.reduceAdd, Nat.reduceMul, Nat.reduceSub, Nat.reduceLeDiff, Nat.reduceLT, Int.reduceAdd, Int.reduceToNat, Int.reduceLE, Int.reduceLT, Int.reduceNeg, reduceIte, postC, watchC, sll]))
    | ((show zeroOK _ = true; rfl))
    | (refine awp_seqK ?_)
    | (refine kt ?_)
    | (refine And.intro ?_ ?_)
    | ((first | refine awp_region ?_ | refine awp_draw (by kernel_rfl) (by kernel_rfl) ?_ | refine Imp.le2 ?_ | refine awp_label ?_ | refine awp_skip ?_ | refine awp_exit ?_ | refine awp_cd ?_ | refine awp_ret ?_); simp (maxSteps := 4000000) only [go_sem, List.append_eq, List.cons_append, List.nil_append, Nat.reduceAdd, Nat.reduceMul, Nat.reduceSub, Nat.reduceLeDiff, Nat.reduceLT, Int.reduceAdd, Int.reduceToNat, Int.reduceLE, Int.reduceLT, Int.reduceNeg, reduceIte, postC, watchC, sll])
    | (intro _h)
    | (refine awp_block ?_)
    | (refine awp_scope ?_)
    | (refine go_split (fun _h => ?_) (fun _h => ?_) <;> simp (maxSteps := 4000000) only [go_sem, List.append_eq, List.cons_append, List.nil_append, Nat.reduceAdd, Nat.reduceMul, Nat.reduceSub, Nat.reduceLeDiff, Nat.reduceLT, Int.reduceAdd, Int.reduceToNat, Int.reduceLE, Int.reduceLT, Int.reduceNeg, reduceIte, postC, watchC, sll])
    | (show heapOK _ _ = true; kernel_rfl)
    | (show heapOK2 _ _ = true; kernel_rfl)
    | (omega)))
                | some x =>
                  have hn2 : (x.1 ≤ v ∧ v ≤ x.2) = False := eq_false (hbef i hi1 x hx)
                  simp only [fiH, fiT, postC, watchC]; simp (maxSteps := 4000000) only [go_sem, List.append_eq, List.cons_append, List.nil_append, Nat.reduceAdd, Nat.reduceMul, Nat.reduceSub, Nat.reduceLeDiff, Nat.reduceLT, Int.reduceAdd, Int.reduceToNat, Int.reduceLE, Int.reduceLT, Int.reduceNeg, reduceIte, postC, watchC, sll]
                  (repeat' (first
    | ((rw [mget_some ((hgi (by omega)).trans hx)]; simp (maxSteps := 4000000) only [go_sem, List.append_eq, List.cons_append, List.nil_append, Nat.reduceAdd, Nat.reduceMul, Nat.reduceSub, Nat.reduceLeDiff, Nat.reduceLT, Int.reduceAdd, Int.reduceToNat, Int.reduceLE, Int.reduceLT, Int.reduceNeg, reduceIte, postC, watchC, sll]))
    | ((show zeroOK _ = true; rfl))
    | ((refine awp_ownN 5 rfl ?_; simp (maxSteps := 4000000) only [go_sem, List.append_eq, List.cons_append, List.nil_append, Nat.reduceAdd, Nat.reduceMul, Nat.reduceSub, Nat.reduceLeDiff, Nat.reduceLT, Int.reduceAdd, Int.reduceToNat, Int.reduceLE, Int.reduceLT, Int.reduceNeg, reduceIte, postC, watchC, sll, List.take_succ_cons, List.take_zero]; refine callH_yield true (fiH p k v g (k + 1) (pmC p reads (k + 1)) 0 .nils ++ [some (.dfr true), some (.loop .ready none 0 fiT #[72, 73] ca cb 13), some (.cells 122 1 0 [.int .i64 x.1, .int .i64 x.2])]) ?_ ?_ <;> simp only [fiH, fiT, postC, watchC] <;> (try simp (maxSteps := 4000000) only [go_sem, List.append_eq, List.cons_append, List.nil_append, Nat.reduceAdd, Nat.reduceMul, Nat.reduceSub, Nat.reduceLeDiff, Nat.reduceLT, Int.reduceAdd, Int.reduceToNat, Int.reduceLE, Int.reduceLT, Int.reduceNeg, reduceIte, postC, watchC, sll])))
    | (refine awp_seqK ?_)
    | (refine kt ?_)
    | (refine And.intro ?_ ?_)
    | ((first | refine awp_region ?_ | refine awp_draw (by kernel_rfl) (by kernel_rfl) ?_ | refine Imp.le2 ?_ | refine awp_label ?_ | refine awp_skip ?_ | refine awp_exit ?_ | refine awp_cd ?_ | refine awp_ret ?_); simp (maxSteps := 4000000) only [go_sem, List.append_eq, List.cons_append, List.nil_append, Nat.reduceAdd, Nat.reduceMul, Nat.reduceSub, Nat.reduceLeDiff, Nat.reduceLT, Int.reduceAdd, Int.reduceToNat, Int.reduceLE, Int.reduceLT, Int.reduceNeg, reduceIte, postC, watchC, sll])
    | (intro _h)
    | (refine awp_block ?_)
    | (refine awp_scope ?_)
    | (refine go_split (fun _h => ?_) (fun _h => ?_) <;> simp (maxSteps := 4000000) only [go_sem, List.append_eq, List.cons_append, List.nil_append, Nat.reduceAdd, Nat.reduceMul, Nat.reduceSub, Nat.reduceLeDiff, Nat.reduceLT, Int.reduceAdd, Int.reduceToNat, Int.reduceLE, Int.reduceLT, Int.reduceNeg, reduceIte, postC, watchC, sll])
    | (show heapOK _ _ = true; kernel_rfl)
    | (show heapOK2 _ _ = true; kernel_rfl)
    | (omega)))
                  · refine semY_of_awpZ rfl rfl ?_
                    intro B w0 l m w
                    refine awp_code hca ?_
                    (repeat' (first
    | (refine awp_seqK ?_)
    | (refine kt ?_)
    | (refine And.intro ?_ ?_)
    | ((first | refine awp_region ?_ | refine awp_draw (by kernel_rfl) (by kernel_rfl) ?_ | refine Imp.le2 ?_ | refine awp_label ?_ | refine awp_skip ?_ | refine awp_exit ?_ | refine awp_cd ?_ | refine awp_ret ?_); simp (maxSteps := 4000000) only [go_sem, List.append_eq, List.cons_append, List.nil_append, Nat.reduceAdd, Nat.reduceMul, Nat.reduceSub, Nat.reduceLeDiff, Nat.reduceLT, Int.reduceAdd, Int.reduceToNat, Int.reduceLE, Int.reduceLT, Int.reduceNeg, reduceIte, postC, watchC, sll])
    | (intro _h)
    | (refine awp_block ?_)
    | (refine awp_scope ?_)
    | (refine go_split (fun _h => ?_) (fun _h => ?_) <;> simp (maxSteps := 4000000) only [go_sem, List.append_eq, List.cons_append, List.nil_append, Nat.reduceAdd, Nat.reduceMul, Nat.reduceSub, Nat.reduceLeDiff, Nat.reduceLT, Int.reduceAdd, Int.reduceToNat, Int.reduceLE, Int.reduceLT, Int.reduceNeg, reduceIte, postC, watchC, sll])
    | (show heapOK _ _ = true; kernel_rfl)
    | (show heapOK2 _ _ = true; kernel_rfl)
    | (omega)))
                    refine awp_code hcb ?_
                    (repeat' (first
    | (refine awp_seqK ?_)
    | (refine kt ?_)
    | (refine And.intro ?_ ?_)
    | ((first | refine awp_region ?_ | refine awp_draw (by kernel_rfl) (by kernel_rfl) ?_ | refine Imp.le2 ?_ | refine awp_label ?_ | refine awp_skip ?_ | refine awp_exit ?_ | refine awp_cd ?_ | refine awp_ret ?_); simp (maxSteps := 4000000) only [go_sem, List.append_eq, List.cons_append, List.nil_append, Nat.reduceAdd, Nat.reduceMul, Nat.reduceSub, Nat.reduceLeDiff, Nat.reduceLT, Int.reduceAdd, Int.reduceToNat, Int.reduceLE, Int.reduceLT, Int.reduceNeg, reduceIte, postC, watchC, sll, hn2, decide_false])
    | (intro _h)
    | (refine awp_block ?_)
    | (refine awp_scope ?_)
    | ((first | refine callK_of (within_c _ _ _) ?_); try simp (maxSteps := 4000000) only [go_sem, List.append_eq, List.cons_append, List.nil_append, Nat.reduceAdd, Nat.reduceMul, Nat.reduceSub, Nat.reduceLeDiff, Nat.reduceLT, Int.reduceAdd, Int.reduceToNat, Int.reduceLE, Int.reduceLT, Int.reduceNeg, reduceIte, postC, watchC, sll, hn2, decide_false])
    | (refine go_split (fun _h => ?_) (fun _h => ?_) <;> simp (maxSteps := 4000000) only [go_sem, List.append_eq, List.cons_append, List.nil_append, Nat.reduceAdd, Nat.reduceMul, Nat.reduceSub, Nat.reduceLeDiff, Nat.reduceLT, Int.reduceAdd, Int.reduceToNat, Int.reduceLE, Int.reduceLT, Int.reduceNeg, reduceIte, postC, watchC, sll, hn2, decide_false])
    | (show heapOK _ _ = true; kernel_rfl)
    | (show heapOK2 _ _ = true; kernel_rfl)
    | (omega)))
              · subst hi1
                simp only [fiH, fiT, postC, watchC]; simp (maxSteps := 4000000) only [go_sem, List.append_eq, List.cons_append, List.nil_append, Nat.reduceAdd, Nat.reduceMul, Nat.reduceSub, Nat.reduceLeDiff, Nat.reduceLT, Int.reduceAdd, Int.reduceToNat, Int.reduceLE, Int.reduceLT, Int.reduceNeg, reduceIte, postC, watchC, sll]
                (repeat' (first
    | ((rw [mget_some ((hgi (by omega)).trans hx0)]; simp (maxSteps := 4000000) only [go_sem, List.append_eq, List.cons_append, List.nil_append, Nat.reduceAdd, Nat.reduceMul, Nat.reduceSub, Nat.reduceLeDiff, Nat.reduceLT, Int.reduceAdd, Int.reduceToNat, Int.reduceLE, Int.reduceLT, Int.reduceNeg, reduceIte, postC, watchC, sll]))
    | ((show zeroOK _ = true; rfl))
    | ((refine awp_ownN 5 rfl ?_; simp (maxSteps := 4000000) only [go_sem, List.append_eq, List.cons_append, List.nil_append, Nat.reduceAdd, Nat.reduceMul, Nat.reduceSub, Nat.reduceLeDiff, Nat.reduceLT, Int.reduceAdd, Int.reduceToNat, Int.reduceLE, Int.reduceLT, Int.reduceNeg, reduceIte, postC, watchC, sll, List.take_succ_cons, List.take_zero]; refine callH_yield false (fiH p k v g (k + 1) (pmC p reads (k + 1)) ((i : Int) - 1) (.psl true 1 [.int .i64 v]) ++ [some (.dfr true), some (.loop .done (some .ret) 0 fiT #[72, 73] ca cb 13), some (.cells 122 1 0 [.int .i64 x0.1, .int .i64 x0.2])]) ?_ ?_ <;> simp only [fiH, fiT, postC, watchC] <;> (try simp (maxSteps := 4000000) only [go_sem, List.append_eq, List.cons_append, List.nil_append, Nat.reduceAdd, Nat.reduceMul, Nat.reduceSub, Nat.reduceLeDiff, Nat.reduceLT, Int.reduceAdd, Int.reduceToNat, Int.reduceLE, Int.reduceLT, Int.reduceNeg, reduceIte, postC, watchC, sll])))
    | (refine awp_seqK ?_)
    | (refine kt ?_)
    | (refine And.intro ?_ ?_)
    | ((first | refine awp_region ?_ | refine awp_draw (by kernel_rfl) (by kernel_rfl) ?_ | refine Imp.le2 ?_ | refine awp_label ?_ | refine awp_skip ?_ | refine awp_exit ?_ | refine awp_cd ?_ | refine awp_ret ?_); simp (maxSteps := 4000000) only [go_sem, List.append_eq, List.cons_append, List.nil_append, Nat.reduceAdd, Nat.reduceMul, Nat.reduceSub, Nat.reduceLeDiff, Nat.reduceLT, Int.reduceAdd, Int.reduceToNat, Int.reduceLE, Int.reduceLT, Int.reduceNeg, reduceIte, postC, watchC, sll])
    | (intro _h)
    | (refine awp_block ?_)
    | (refine awp_scope ?_)
    | (refine go_split (fun _h => ?_) (fun _h => ?_) <;> simp (maxSteps := 4000000) only [go_sem, List.append_eq, List.cons_append, List.nil_append, Nat.reduceAdd, Nat.reduceMul, Nat.reduceSub, Nat.reduceLeDiff, Nat.reduceLT, Int.reduceAdd, Int.reduceToNat, Int.reduceLE, Int.reduceLT, Int.reduceNeg, reduceIte, postC, watchC, sll])
    | (show heapOK _ _ = true; kernel_rfl)
    | (show heapOK2 _ _ = true; kernel_rfl)
    | (omega)))
                · refine semY_of_awpZ rfl rfl ?_
                  intro B w0 l m w
                  refine awp_code hca ?_
                  (repeat' (first
    | (refine awp_seqK ?_)
    | (refine kt ?_)
    | (refine And.intro ?_ ?_)
    | ((first | refine awp_region ?_ | refine awp_draw (by kernel_rfl) (by kernel_rfl) ?_ | refine Imp.le2 ?_ | refine awp_label ?_ | refine awp_skip ?_ | refine awp_exit ?_ | refine awp_cd ?_ | refine awp_ret ?_); simp (maxSteps := 4000000) only [go_sem, List.append_eq, List.cons_append, List.nil_append, Nat.reduceAdd, Nat.reduceMul, Nat.reduceSub, Nat.reduceLeDiff, Nat.reduceLT, Int.reduceAdd, Int.reduceToNat, Int.reduceLE, Int.reduceLT, Int.reduceNeg, reduceIte, postC, watchC, sll])
    | (intro _h)
    | (refine awp_block ?_)
    | (refine awp_scope ?_)
    | (refine go_split (fun _h => ?_) (fun _h => ?_) <;> simp (maxSteps := 4000000) only [go_sem, List.append_eq, List.cons_append, List.nil_append, Nat.reduceAdd, Nat.reduceMul, Nat.reduceSub, Nat.reduceLeDiff, Nat.reduceLT, Int.reduceAdd, Int.reduceToNat, Int.reduceLE, Int.reduceLT, Int.reduceNeg, reduceIte, postC, watchC, sll])
    | (show heapOK _ _ = true; kernel_rfl)
    | (show heapOK2 _ _ = true; kernel_rfl)
    | (omega)))
                  refine awp_code hcb ?_
                  (repeat' (first
    | (refine awp_ownN 5 rfl ?_; simp (maxSteps := 4000000) only [go_sem, List.append_eq, List.cons_append, List.nil_append, Nat.reduceAdd, Nat.reduceMul, Nat.reduceSub, Nat.reduceLeDiff, Nat.reduceLT, Int.reduceAdd, Int.reduceToNat, Int.reduceLE, Int.reduceLT, Int.reduceNeg, reduceIte, postC, watchC, sll, List.take_succ_cons, List.take_zero, hin', decide_true]; refine own_go (hbk) [11] rfl (by simp (maxSteps := 4000000) only [go_sem, List.append_eq, List.cons_append, List.nil_append, Nat.reduceAdd, Nat.reduceMul, Nat.reduceSub, Nat.reduceLeDiff, Nat.reduceLT, Int.reduceAdd, Int.reduceToNat, Int.reduceLE, Int.reduceLT, Int.reduceNeg, reduceIte, postC, watchC, sll, hin', decide_true]) (by simp (maxSteps := 4000000) only [go_sem, List.append_eq, List.cons_append, List.nil_append, Nat.reduceAdd, Nat.reduceMul, Nat.reduceSub, Nat.reduceLeDiff, Nat.reduceLT, Int.reduceAdd, Int.reduceToNat, Int.reduceLE, Int.reduceLT, Int.reduceNeg, reduceIte, postC, watchC, sll, Nat.lt_irrefl, hin', decide_true] <;> decide) rfl ?_; simp (maxSteps := 4000000) only [go_sem, List.append_eq, List.cons_append, List.nil_append, Nat.reduceAdd, Nat.reduceMul, Nat.reduceSub, Nat.reduceLeDiff, Nat.reduceLT, Int.reduceAdd, Int.reduceToNat, Int.reduceLE, Int.reduceLT, Int.reduceNeg, reduceIte, postC, watchC, sll, hin', decide_true])
    | (refine awp_seqK ?_)
    | (refine kt ?_)
    | (refine And.intro ?_ ?_)
    | ((first | refine awp_region ?_ | refine awp_draw (by kernel_rfl) (by kernel_rfl) ?_ | refine Imp.le2 ?_ | refine awp_label ?_ | refine awp_skip ?_ | refine awp_exit ?_ | refine awp_cd ?_ | refine awp_ret ?_); simp (maxSteps := 4000000) only [go_sem, List.append_eq, List.cons_append, List.nil_append, Nat.reduceAdd, Nat.reduceMul, Nat.reduceSub, Nat.reduceLeDiff, Nat.reduceLT, Int.reduceAdd, Int.reduceToNat, Int.reduceLE, Int.reduceLT, Int.reduceNeg, reduceIte, postC, watchC, sll, hin', decide_true])
    | (intro _h)
    | (refine awp_block ?_)
    | (refine awp_scope ?_)
    | ((first | refine callK_of (within_c _ _ _) ?_); try simp (maxSteps := 4000000) only [go_sem, List.append_eq, List.cons_append, List.nil_append, Nat.reduceAdd, Nat.reduceMul, Nat.reduceSub, Nat.reduceLeDiff, Nat.reduceLT, Int.reduceAdd, Int.reduceToNat, Int.reduceLE, Int.reduceLT, Int.reduceNeg, reduceIte, postC, watchC, sll, hin', decide_true])
    | (refine go_split (fun _h => ?_) (fun _h => ?_) <;> simp (maxSteps := 4000000) only [go_sem, List.append_eq, List.cons_append, List.nil_append, Nat.reduceAdd, Nat.reduceMul, Nat.reduceSub, Nat.reduceLeDiff, Nat.reduceLT, Int.reduceAdd, Int.reduceToNat, Int.reduceLE, Int.reduceLT, Int.reduceNeg, reduceIte, postC, watchC, sll, hin', decide_true])
    | (show heapOK _ _ = true; kernel_rfl)
    | (show heapOK2 _ _ = true; kernel_rfl)
    | (omega)))
          · rfl
          · simp only [fiH, fiT, postC, watchC]
            simp (maxSteps := 4000000) only [go_sem, List.append_eq, List.cons_append, List.nil_append, Nat.reduceAdd, Nat.reduceMul, Nat.reduceSub, Nat.reduceLeDiff, Nat.reduceLT, Int.reduceAdd, Int.reduceToNat, Int.reduceLE, Int.reduceLT, Int.reduceNeg, reduceIte, postC, watchC, sll]
            rw [hLd]
            first
              | (subst hL; exact ⟨rfl, rfl⟩)
              | (exact ⟨by omega, rfl⟩)
        · simp only [backH, postC, sl] at hbk
          refine ⟨.tup [], fiH p k v g (k + 1) (pmC p reads (k + 1)) ((i0 : Int) - 1) (.osl 17 q 0 (q + 2)) ++ [some (.dfr true), some (.loop .done (some .ret) 0 fiT #[72, 73] ca cb 13), none, none, some (.cells 3 1 q (ints L))], .done, some .ret, .ret, ?_, ?_, by simp, rfl, ?_⟩
          · simp only [fiH, fiT, postC, watchC]
            simp (maxSteps := 4000000) only [go_sem, List.append_eq, List.cons_append, List.nil_append, Nat.reduceAdd, Nat.reduceMul, Nat.reduceSub, Nat.reduceLeDiff, Nat.reduceLT, Int.reduceAdd, Int.reduceToNat, Int.reduceLE, Int.reduceLT, Int.reduceNeg, reduceIte, postC, watchC, sll]
            (refine semF_of_awp (ys := []) (fun w args => Try.call87 ..) Try.func87 rfl (fun w0 m0 wz => ?_); simp only [Try.ntmps87, Try.results87, initT, junks, postC, watchC, sll, sl, List.toList_toArray, List.cons_append, List.nil_append, List.length_cons, List.length_nil, Nat.reduceAdd, Nat.reduceSub])
            (repeat' (first
    | (refine awp_seqK ?_)
    | (refine kt ?_)
    | (refine And.intro ?_ ?_)
    | ((first | refine awp_region ?_ | refine awp_draw (by kernel_rfl) (by kernel_rfl) ?_ | refine Imp.le2 ?_ | refine awp_label ?_ | refine awp_skip ?_ | refine awp_exit ?_ | refine awp_cd ?_ | refine awp_ret ?_); simp (maxSteps := 4000000) only [go_sem, List.append_eq, List.cons_append, List.nil_append, Nat.reduceAdd, Nat.reduceMul, Nat.reduceSub, Nat.reduceLeDiff, Nat.reduceLT, Int.reduceAdd, Int.reduceToNat, Int.reduceLE, Int.reduceLT, Int.reduceNeg, reduceIte, postC, watchC, sll])
    | (intro _h)
    | (refine awp_block ?_)
    | (refine awp_scope ?_)
    | (refine go_split (fun _h => ?_) (fun _h => ?_) <;> simp (maxSteps := 4000000) only [go_sem, List.append_eq, List.cons_append, List.nil_append, Nat.reduceAdd, Nat.reduceMul, Nat.reduceSub, Nat.reduceLeDiff, Nat.reduceLT, Int.reduceAdd, Int.reduceToNat, Int.reduceLE, Int.reduceLT, Int.reduceNeg, reduceIte, postC, watchC, sll])
    | (show heapOK _ _ = true; kernel_rfl)
    | (show heapOK2 _ _ = true; kernel_rfl)
    | (omega)))
            refine awp_loopN i0 (fun i => ⟨mkT 33 [(0, .fn (.yield 14) [] []), (1, .ptr 12 0 0), (3, .int .i64 ((i : Int) - 1))], fiH p k v g (k + 1) (pmC p reads (k + 1)) 0 .nils ++ [some (.dfr true), some (.loop .ready none 0 fiT #[72, 73] ca cb 13)], []⟩) (.le2 ?_) ?_
            · simp only [fiH, fiT, postC, watchC]; simp (maxSteps := 4000000) only [go_sem, List.append_eq, List.cons_append, List.nil_append, Nat.reduceAdd, Nat.reduceMul, Nat.reduceSub, Nat.reduceLeDiff, Nat.reduceLT, Int.reduceAdd, Int.reduceToNat, Int.reduceLE, Int.reduceLT, Int.reduceNeg, reduceIte, postC, watchC, sll]
              rfl
            · intro i hi
              have hgi := canon_get (n := p.errs.length) (g := g) (j := (i : Int) - 1) (by omega)
              rcases Nat.lt_or_eq_of_le hi with hi1 | hi1
              · cases hx : g ((i : Int) - 1) with
                | none =>
                  simp only [fiH, fiT, postC, watchC]; simp (maxSteps := 4000000) only [go_sem, List.append_eq, List.cons_append, List.nil_append, Nat.reduceAdd, Nat.reduceMul, Nat.reduceSub, Nat.reduceLeDiff, Nat.reduceLT, Int.reduceAdd, Int.reduceToNat, Int.reduceLE, Int.reduceLT, Int.reduceNeg, reduceIte, postC, watchC, sll]
                  (repeat' (first
    | ((rw [mget_none ((hgi (by omega)).trans hx)]; simp (maxSteps := 4000000) only [go_sem, List.append_eq, List.cons_append, List.nil_append, Nat.reduceAdd, Nat.reduceMul, Nat.reduceSub, Nat.reduceLeDiff, Nat.reduceLT, Int.reduceAdd, Int.reduceToNat, Int.reduceLE, Int.reduceLT, Int.reduceNeg, reduceIte, postC, watchC, sll]))
    | ((show zeroOK _ = true; rfl))
    | (refine awp_seqK ?_)
    | (refine kt ?_)
    | (refine And.intro ?_ ?_)
    | ((first | refine awp_region ?_ | refine awp_draw (by kernel_rfl) (by kernel_rfl) ?_ | refine Imp.le2 ?_ | refine awp_label ?_ | refine awp_skip ?_ | refine awp_exit ?_ | refine awp_cd ?_ | refine awp_ret ?_); simp (maxSteps := 4000000) only [go_sem, List.append_eq, List.cons_append, List.nil_append, Nat.reduceAdd, Nat.reduceMul, Nat.reduceSub, Nat.reduceLeDiff, Nat.reduceLT, Int.reduceAdd, Int.reduceToNat, Int.reduceLE, Int.reduceLT, Int.reduceNeg, reduceIte, postC, watchC, sll])
    | (intro _h)
    | (refine awp_block ?_)
    | (refine awp_scope ?_)
    | (refine go_split (fun _h => ?_) (fun _h => ?_) <;> simp (maxSteps := 4000000) only [go_sem, List.append_eq, List.cons_append, List.nil_append, Nat.reduceAdd, Nat.reduceMul, Nat.reduceSub, Nat.reduceLeDiff, Nat.reduceLT, Int.reduceAdd, Int.reduceToNat, Int.reduceLE, Int.reduceLT, Int.reduceNeg, reduceIte, postC, watchC, sll])
    | (show heapOK _ _ = true; kernel_rfl)
    | (show heapOK2 _ _ = true; kernel_rfl)
    | (omega)))
                | some x =>
                  have hn2 : (x.1 ≤ v ∧ v ≤ x.2) = False := eq_false (hbef i hi1 x hx)
                  simp only [fiH, fiT, postC, watchC]; simp (maxSteps := 4000000) only [go_sem, List.append_eq, List.cons_append, List.nil_append, Nat.reduceAdd, Nat.reduceMul, Nat.reduceSub, Nat.reduceLeDiff, Nat.reduceLT, Int.reduceAdd, Int.reduceToNat, Int.reduceLE, Int.reduceLT, Int.reduceNeg, reduceIte, postC, watchC, sll]
                  (repeat' (first
    | ((rw [mget_some ((hgi (by omega)).trans hx)]; simp (maxSteps := 4000000) only [go_sem, List.append_eq, List.cons_append, List.nil_append, Nat.reduceAdd, Nat.reduceMul, Nat.reduceSub, Nat.reduceLeDiff, Nat.reduceLT, Int.reduceAdd, Int.reduceToNat, Int.reduceLE, Int.reduceLT, Int.reduceNeg, reduceIte, postC, watchC, sll]))
    | ((show zeroOK _ = true; rfl))
    | ((refine awp_ownN 5 rfl ?_; simp (maxSteps := 4000000) only [go_sem, List.append_eq, List.cons_append, List.nil_append, Nat.reduceAdd, Nat.reduceMul, Nat.reduceSub, Nat.reduceLeDiff, Nat.reduceLT, Int.reduceAdd, Int.reduceToNat, Int.reduceLE, Int.reduceLT, Int.reduceNeg, reduceIte, postC, watchC, sll, List.take_succ_cons, List.take_zero]; refine callH_yield true (fiH p k v g (k + 1) (pmC p reads (k + 1)) 0 .nils ++ [some (.dfr true), some (.loop .ready none 0 fiT #[72, 73] ca cb 13), some (.cells 122 1 0 [.int .i64 x.1, .int .i64 x.2])]) ?_ ?_ <;> simp only [fiH, fiT, postC, watchC] <;> (try simp (maxSteps := 4000000) only [go_sem, List.append_eq, List.cons_append, List.nil_append, Nat.reduceAdd, Nat.reduceMul, Nat.reduceSub, Nat.reduceLeDiff, Nat.reduceLT, Int.reduceAdd, Int.reduceToNat, Int.reduceLE, Int.reduceLT, Int.reduceNeg, reduceIte, postC, watchC, sll])))
    | (refine awp_seqK ?_)
    | (refine kt ?_)
    | (refine And.intro ?_ ?_)
    | ((first | refine awp_region ?_ | refine awp_draw (by kernel_rfl) (by kernel_rfl) ?_ | refine Imp.le2 ?_ | refine awp_label ?_ | refine awp_skip ?_ | refine awp_exit ?_ | refine awp_cd ?_ | refine awp_ret ?_); simp (maxSteps := 4000000) only [go_sem, List.append_eq, List.cons_append, List.nil_append, Nat.reduceAdd, Nat.reduceMul, Nat.reduceSub, Nat.reduceLeDiff, Nat.reduceLT, Int.reduceAdd, Int.reduceToNat, Int.reduceLE, Int.reduceLT, Int.reduceNeg, reduceIte, postC, watchC, sll])
    | (intro _h)
    | (refine awp_block ?_)
    | (refine awp_scope ?_)
    | (refine go_split (fun _h => ?_) (fun _h => ?_) <;> simp (maxSteps := 4000000) only [go_sem, List.append_eq, List.cons_append, List.nil_append, Nat.reduceAdd, Nat.reduceMul, Nat.reduceSub, Nat.reduceLeDiff, Nat.reduceLT, Int.reduceAdd, Int.reduceToNat, Int.reduceLE, Int.reduceLT, Int.reduceNeg, reduceIte, postC, watchC, sll])
    | (show heapOK _ _ = true; kernel_rfl)
    | (show heapOK2 _ _ = true; kernel_rfl)
    | (omega)))
                  · refine semY_of_awpZ rfl rfl ?_
                    intro B w0 l m w
                    refine awp_code hca ?_
                    (repeat' (first
    | (refine awp_seqK ?_)
    | (refine kt ?_)
    | (refine And.intro ?_ ?_)
    | ((first | refine awp_region ?_ | refine awp_draw (by kernel_rfl) (by kernel_rfl) ?_ | refine Imp.le2 ?_ | refine awp_label ?_ | refine awp_skip ?_ | refine awp_exit ?_ | refine awp_cd ?_ | refine awp_ret ?_); simp (maxSteps := 4000000) only [go_sem, List.append_eq, List.cons_append, List.nil_append, Nat.reduceAdd, Nat.reduceMul, Nat.reduceSub, Nat.reduceLeDiff, Nat.reduceLT, Int.reduceAdd, Int.reduceToNat, Int.reduceLE, Int.reduceLT, Int.reduceNeg, reduceIte, postC, watchC, sll])
    | (intro _h)
    | (refine awp_block ?_)
    | (refine awp_scope ?_)
    | (refine go_split (fun _h => ?_) (fun _h => ?_) <;> simp (maxSteps := 4000000) only [go_sem, List.append_eq, List.cons_append, List.nil_append, Nat.reduceAdd, Nat.reduceMul, Nat.reduceSub, Nat.reduceLeDiff, Nat.reduceLT, Int.reduceAdd, Int.reduceToNat, Int.reduceLE, Int.reduceLT, Int.reduceNeg, reduceIte, postC, watchC, sll])
    | (show heapOK _ _ = true; kernel_rfl)
    | (show heapOK2 _ _ = true; kernel_rfl)
    | (omega)))
                    refine awp_code hcb ?_
                    (repeat' (first
    | (refine awp_seqK ?_)
    | (refine kt ?_)
    | (refine And.intro ?_ ?_)
    | ((first | refine awp_region ?_ | refine awp_draw (by kernel_rfl) (by kernel_rfl) ?_ | refine Imp.le2 ?_ | refine awp_label ?_ | refine awp_skip ?_ | refine awp_exit ?_ | refine awp_cd ?_ | refine awp_ret ?_); simp (maxSteps := 4000000) only [go_sem, List.append_eq, List.cons_append, List.nil_append, Nat.reduceAdd, Nat.reduceMul, Nat.reduceSub, Nat.reduceLeDiff, Nat.reduceLT, Int.reduceAdd, Int.reduceToNat, Int.reduceLE, Int.reduceLT, Int.reduceNeg, reduceIte, postC, watchC, sll, hn2, decide_false])
    | (intro _h)
    | (refine awp_block ?_)
    | (refine awp_scope ?_)
    | ((first | refine callK_of (within_c _ _ _) ?_); try simp (maxSteps := 4000000) only [go_sem, List.append_eq, List.cons_append, List.nil_append, Nat.reduceAdd, Nat.reduceMul, Nat.reduceSub, Nat.reduceLeDiff, Nat.reduceLT, Int.reduceAdd, Int.reduceToNat, Int.reduceLE, Int.reduceLT, Int.reduceNeg, reduceIte, postC, watchC, sll, hn2, decide_false])
    | (refine go_split (fun _h => ?_) (fun _h => ?_) <;> simp (maxSteps := 4000000) only [go_sem, List.append_eq, List.cons_append, List.nil_append, Nat.reduceAdd, Nat.reduceMul, Nat.reduceSub, Nat.reduceLeDiff, Nat.reduceLT, Int.reduceAdd, Int.reduceToNat, Int.reduceLE, Int.reduceLT, Int.reduceNeg, reduceIte, postC, watchC, sll, hn2, decide_false])
    | (show heapOK _ _ = true; kernel_rfl)
    | (show heapOK2 _ _ = true; kernel_rfl)
    | (omega)))
              · subst hi1
                simp only [fiH, fiT, postC, watchC]; simp (maxSteps := 4000000) only [go_sem, List.append_eq, List.cons_append, List.nil_append, Nat.reduceAdd, Nat.reduceMul, Nat.reduceSub, Nat.reduceLeDiff, Nat.reduceLT, Int.reduceAdd, Int.reduceToNat, Int.reduceLE, Int.reduceLT, Int.reduceNeg, reduceIte, postC, watchC, sll]
                (repeat' (first
    | ((rw [mget_some ((hgi (by omega)).trans hx0)]; simp (maxSteps := 4000000) only [go_sem, List.append_eq, List.cons_append, List.nil_append, Nat.reduceAdd, Nat.reduceMul, Nat.reduceSub, Nat.reduceLeDiff, Nat.reduceLT, Int.reduceAdd, Int.reduceToNat, Int.reduceLE, Int.reduceLT, Int.reduceNeg, reduceIte, postC, watchC, sll]))
    | ((show zeroOK _ = true; rfl))
    | ((refine awp_ownN 5 rfl ?_; simp (maxSteps := 4000000) only [go_sem, List.append_eq, List.cons_append, List.nil_append, Nat.reduceAdd, Nat.reduceMul, Nat.reduceSub, Nat.reduceLeDiff, Nat.reduceLT, Int.reduceAdd, Int.reduceToNat, Int.reduceLE, Int.reduceLT, Int.reduceNeg, reduceIte, postC, watchC, sll, List.take_succ_cons, List.take_zero]; refine callH_yield false (fiH p k v g (k + 1) (pmC p reads (k + 1)) ((i : Int) - 1) (.osl 17 q 0 (q + 2)) ++ [some (.dfr true), some (.loop .done (some .ret) 0 fiT #[72, 73] ca cb 13), some (.cells 122 1 0 [.int .i64 x0.1, .int .i64 x0.2]), none, some (.cells 3 1 q (ints L))]) ?_ ?_ <;> simp only [fiH, fiT, postC, watchC] <;> (try simp (maxSteps := 4000000) only [go_sem, List.append_eq, List.cons_append, List.nil_append, Nat.reduceAdd, Nat.reduceMul, Nat.reduceSub, Nat.reduceLeDiff, Nat.reduceLT, Int.reduceAdd, Int.reduceToNat, Int.reduceLE, Int.reduceLT, Int.reduceNeg, reduceIte, postC, watchC, sll])))
    | (refine awp_seqK ?_)
    | (refine kt ?_)
    | (refine And.intro ?_ ?_)
    | ((first | refine awp_region ?_ | refine awp_draw (by kernel_rfl) (by kernel_rfl) ?_ | refine Imp.le2 ?_ | refine awp_label ?_ | refine awp_skip ?_ | refine awp_exit ?_ | refine awp_cd ?_ | refine awp_ret ?_); simp (maxSteps := 4000000) only [go_sem, List.append_eq, List.cons_append, List.nil_append, Nat.reduceAdd, Nat.reduceMul, Nat.reduceSub, Nat.reduceLeDiff, Nat.reduceLT, Int.reduceAdd, Int.reduceToNat, Int.reduceLE, Int.reduceLT, Int.reduceNeg, reduceIte, postC, watchC, sll])
    | (intro _h)
    | (refine awp_block ?_)
    | (refine awp_scope ?_)
    | (refine go_split (fun _h => ?_) (fun _h => ?_) <;> simp (maxSteps := 4000000) only [go_sem, List.append_eq, List.cons_append, List.nil_append, Nat.reduceAdd, Nat.reduceMul, Nat.reduceSub, Nat.reduceLeDiff, Nat.reduceLT, Int.reduceAdd, Int.reduceToNat, Int.reduceLE, Int.reduceLT, Int.reduceNeg, reduceIte, postC, watchC, sll])
    | (show heapOK _ _ = true; kernel_rfl)
    | (show heapOK2 _ _ = true; kernel_rfl)
    | (omega)))
                · refine semY_of_awpZ rfl rfl ?_
                  intro B w0 l m w
                  refine awp_code hca ?_
                  (repeat' (first
    | (refine awp_seqK ?_)
    | (refine kt ?_)
    | (refine And.intro ?_ ?_)
    | ((first | refine awp_region ?_ | refine awp_draw (by kernel_rfl) (by kernel_rfl) ?_ | refine Imp.le2 ?_ | refine awp_label ?_ | refine awp_skip ?_ | refine awp_exit ?_ | refine awp_cd ?_ | refine awp_ret ?_); simp (maxSteps := 4000000) only [go_sem, List.append_eq, List.cons_append, List.nil_append, Nat.reduceAdd, Nat.reduceMul, Nat.reduceSub, Nat.reduceLeDiff, Nat.reduceLT, Int.reduceAdd, Int.reduceToNat, Int.reduceLE, Int.reduceLT, Int.reduceNeg, reduceIte, postC, watchC, sll])
    | (intro _h)
    | (refine awp_block ?_)
    | (refine awp_scope ?_)
    | (refine go_split (fun _h => ?_) (fun _h => ?_) <;> simp (maxSteps := 4000000) only [go_sem, List.append_eq, List.cons_append, List.nil_append, Nat.reduceAdd, Nat.reduceMul, Nat.reduceSub, Nat.reduceLeDiff, Nat.reduceLT, Int.reduceAdd, Int.reduceToNat, Int.reduceLE, Int.reduceLT, Int.reduceNeg, reduceIte, postC, watchC, sll])
    | (show heapOK _ _ = true; kernel_rfl)
    | (show heapOK2 _ _ = true; kernel_rfl)
    | (omega)))
                  refine awp_code hcb ?_
                  (repeat' (first
    | (refine awp_ownN 5 rfl ?_; simp (maxSteps := 4000000) only [go_sem, List.append_eq, List.cons_append, List.nil_append, Nat.reduceAdd, Nat.reduceMul, Nat.reduceSub, Nat.reduceLeDiff, Nat.reduceLT, Int.reduceAdd, Int.reduceToNat, Int.reduceLE, Int.reduceLT, Int.reduceNeg, reduceIte, postC, watchC, sll, List.take_succ_cons, List.take_zero, hin', decide_true]; refine own_go (hbk) [11] rfl (by simp (maxSteps := 4000000) only [go_sem, List.append_eq, List.cons_append, List.nil_append, Nat.reduceAdd, Nat.reduceMul, Nat.reduceSub, Nat.reduceLeDiff, Nat.reduceLT, Int.reduceAdd, Int.reduceToNat, Int.reduceLE, Int.reduceLT, Int.reduceNeg, reduceIte, postC, watchC, sll, hin', decide_true]) (by simp (maxSteps := 4000000) only [go_sem, List.append_eq, List.cons_append, List.nil_append, Nat.reduceAdd, Nat.reduceMul, Nat.reduceSub, Nat.reduceLeDiff, Nat.reduceLT, Int.reduceAdd, Int.reduceToNat, Int.reduceLE, Int.reduceLT, Int.reduceNeg, reduceIte, postC, watchC, sll, Nat.lt_irrefl, hin', decide_true] <;> decide) rfl ?_; simp (maxSteps := 4000000) only [go_sem, List.append_eq, List.cons_append, List.nil_append, Nat.reduceAdd, Nat.reduceMul, Nat.reduceSub, Nat.reduceLeDiff, Nat.reduceLT, Int.reduceAdd, Int.reduceToNat, Int.reduceLE, Int.reduceLT, Int.reduceNeg, reduceIte, postC, watchC, sll, hin', decide_true])
    | (refine awp_seqK ?_)
    | (refine kt ?_)
    | (refine And.intro ?_ ?_)
    | ((first | refine awp_region ?_ | refine awp_draw (by kernel_rfl) (by kernel_rfl) ?_ | refine Imp.le2 ?_ | refine awp_label ?_ | refine awp_skip ?_ | refine awp_exit ?_ | refine awp_cd ?_ | refine awp_ret ?_); simp (maxSteps := 4000000) only [go_sem, List.append_eq, List.cons_append, List.nil_append, Nat.reduceAdd, Nat.reduceMul, Nat.reduceSub, Nat.reduceLeDiff, Nat.reduceLT, Int.reduceAdd, Int.reduceToNat, Int.reduceLE, Int.reduceLT, Int.reduceNeg, reduceIte, postC, watchC, sll, hin', decide_true])
    | (intro _h)
    | (refine awp_block ?_)
    | (refine awp_scope ?_)
    | ((first | refine callK_of (within_c _ _ _) ?_); try simp (maxSteps := 4000000) only [go_sem, List.append_eq, List.cons_append, List.nil_append, Nat.reduceAdd, Nat.reduceMul, Nat.reduceSub, Nat.reduceLeDiff, Nat.reduceLT, Int.reduceAdd, Int.reduceToNat, Int.reduceLE, Int.reduceLT, Int.reduceNeg, reduceIte, postC, watchC, sll, hin', decide_true])
    | (refine go_split (fun _h => ?_) (fun _h => ?_) <;> simp (maxSteps := 4000000) only [go_sem, List.append_eq, List.cons_append, List.nil_append, Nat.reduceAdd, Nat.reduceMul, Nat.reduceSub, Nat.reduceLeDiff, Nat.reduceLT, Int.reduceAdd, Int.reduceToNat, Int.reduceLE, Int.reduceLT, Int.reduceNeg, reduceIte, postC, watchC, sll, hin', decide_true])
    | (show heapOK _ _ = true; kernel_rfl)
    | (show heapOK2 _ _ = true; kernel_rfl)
    | (omega)))
          · rfl
          · simp only [fiH, fiT, postC, watchC]
            simp (maxSteps := 4000000) only [go_sem, List.append_eq, List.cons_append, List.nil_append, Nat.reduceAdd, Nat.reduceMul, Nat.reduceSub, Nat.reduceLeDiff, Nat.reduceLT, Int.reduceAdd, Int.reduceToNat, Int.reduceLE, Int.reduceLT, Int.reduceNeg, reduceIte, postC, watchC, sll]
            rw [hLd]
            first
              | (subst hL; exact ⟨rfl, rfl⟩)
              | (exact ⟨by omega, rfl⟩)
end Go.Am

/- Contracts of the alarm functions: Truth, with its errors. -/
namespace Go.Am
open Go.RowKit Go.Proofs
attribute [local irreducible] AWP Kt goK CallK stepK evOps SemF SemY Imp
set_option maxRecDepth 4000
set_option linter.unusedSimpArgs false
set_option linter.unusedVariables false
set_option maxHeartbeats 1600000

/-- What Truth hands back. -/
def truthR (p : Post) (reads : List (List Int)) (hour v : Int) : Int × List Int × Int :=
  if faultP p reads = 0 then
    if (0 ≤ hour ∧ hour < reads.length) ∧ (0 ≤ v ∧ v ≤ 1000) then
      match pickF (gAt p reads (hour.toNat + 1)) v (p.errs.length + 1) with
      | some f => (f, backL (gAt p reads) p.gain f hour.toNat v, 0)
      | none => (0, [], 7)
    else (0, [], 2)
  else (0, [], faultP p reads)
theorem CallS.res {P : Program} {f : FuncId} {xs : List AV} {x y : AV} (h : CallS P f xs x) (hs : resSub x y) : CallS P f xs y :=
  ⟨h.1, fun w vs ok h1 h2 h3 => (h.2 w vs ok h1 h2 h3).mono fun _ _ ⟨v, e1, e2, e3⟩ => ⟨v, e1, prep_resSub e2 hs, e3⟩⟩
attribute [local irreducible] CallS
theorem truthAll_c (p : Post) (reads : List (List Int)) (hour v : Int) (hb : InB p reads) :
    CallS Try.prog 44 [.agg (postC p), sll reads, .int .i64 hour, .int .i64 v] (.tup [.int .i64 (truthR p reads hour v).1, sl (truthR p reads hour v).2.1, .int .i64 (truthR p reads hour v).2.2]) := by
  have hch := check_c p reads hb.e hb.n hb.rows
  have hfc := faultP_cases p reads
  unfold truthR
  by_cases hf : faultP p reads = 0
  · rw [if_pos hf]
    by_cases hr : (0 ≤ hour ∧ hour < reads.length) ∧ (0 ≤ v ∧ v ≤ 1000)
    · rw [if_pos hr]
      have h := truthOk_c p reads hour.toNat v hb hf (by omega) hr.2
      rw [show ((hour.toNat : Nat) : Int) = hour by omega] at h
      cases hpk : pickF (gAt p reads (hour.toNat + 1)) v (p.errs.length + 1) with
      | some f => rw [hpk] at h; exact h
      | none => rw [hpk] at h; exact h.res (by simp [resSub, subL, avSub, sl, ints])
    · rw [if_neg hr]
      rw [hf] at hch
      have hl := hb.n
      simp only [postC, sl, watchC, sll] at hch
      (refine callS_of_awp (fun w args => Try.call44 ..) Try.func44 rfl (fun w0 m0 wz => ?_); simp only [Try.ntmps44, Try.results44, initT, junks, postC, watchC, sll, sl, List.toList_toArray, List.cons_append, List.nil_append, List.length_cons, List.length_nil, Nat.reduceAdd, Nat.reduceSub])
      by_cases h1 : 0 ≤ hour ∧ hour ≤ (reads.length : Int) - 1
      · have h2 : ¬(0 ≤ v ∧ v ≤ 1000) := fun h => hr ⟨⟨by omega, by omega⟩, h⟩
        have e1 := eq_true h1
        have e2 := eq_false h2
        (repeat' (first
    | (refine awp_seqK ?_)
    | (refine kt ?_)
    | (refine And.intro ?_ ?_)
    | ((first | refine awp_region ?_ | refine awp_draw (by kernel_rfl) (by kernel_rfl) ?_ | refine Imp.le2 ?_ | refine awp_label ?_ | refine awp_skip ?_ | refine awp_exit ?_ | refine awp_cd ?_ | refine awp_ret ?_); simp (maxSteps := 4000000) only [go_sem, List.append_eq, List.cons_append, List.nil_append, Nat.reduceAdd, Nat.reduceMul, Nat.reduceSub, Nat.reduceLeDiff, Nat.reduceLT, Int.reduceAdd, Int.reduceToNat, Int.reduceLE, Int.reduceLT, Int.reduceNeg, reduceIte, postC, watchC, sll, e1, e2, decide_true, decide_false])
    | (intro _h)
    | (refine awp_block ?_)
    | (refine awp_scope ?_)
    | ((first | refine callK_of (hch) ?_ | refine callK_of (within_c _ _ _) ?_ | refine callK_of (speed_c _) ?_); try simp (maxSteps := 4000000) only [go_sem, List.append_eq, List.cons_append, List.nil_append, Nat.reduceAdd, Nat.reduceMul, Nat.reduceSub, Nat.reduceLeDiff, Nat.reduceLT, Int.reduceAdd, Int.reduceToNat, Int.reduceLE, Int.reduceLT, Int.reduceNeg, reduceIte, postC, watchC, sll, e1, e2, decide_true, decide_false])
    | (refine go_split (fun _h => ?_) (fun _h => ?_) <;> simp (maxSteps := 4000000) only [go_sem, List.append_eq, List.cons_append, List.nil_append, Nat.reduceAdd, Nat.reduceMul, Nat.reduceSub, Nat.reduceLeDiff, Nat.reduceLT, Int.reduceAdd, Int.reduceToNat, Int.reduceLE, Int.reduceLT, Int.reduceNeg, reduceIte, postC, watchC, sll, e1, e2, decide_true, decide_false])
    | (show heapOK _ _ = true; kernel_rfl)
    | (show heapOK2 _ _ = true; kernel_rfl)
    | (omega)))
        trace_state
      · have e1 := eq_false h1
        (repeat' (first
    | (refine awp_seqK ?_)
    | (refine kt ?_)
    | (refine And.intro ?_ ?_)
    | ((first | refine awp_region ?_ | refine awp_draw (by kernel_rfl) (by kernel_rfl) ?_ | refine Imp.le2 ?_ | refine awp_label ?_ | refine awp_skip ?_ | refine awp_exit ?_ | refine awp_cd ?_ | refine awp_ret ?_); simp (maxSteps := 4000000) only [go_sem, List.append_eq, List.cons_append, List.nil_append, Nat.reduceAdd, Nat.reduceMul, Nat.reduceSub, Nat.reduceLeDiff, Nat.reduceLT, Int.reduceAdd, Int.reduceToNat, Int.reduceLE, Int.reduceLT, Int.reduceNeg, reduceIte, postC, watchC, sll, e1, decide_true, decide_false])
    | (intro _h)
    | (refine awp_block ?_)
    | (refine awp_scope ?_)
    | ((first | refine callK_of (hch) ?_ | refine callK_of (within_c _ _ _) ?_ | refine callK_of (speed_c _) ?_); try simp (maxSteps := 4000000) only [go_sem, List.append_eq, List.cons_append, List.nil_append, Nat.reduceAdd, Nat.reduceMul, Nat.reduceSub, Nat.reduceLeDiff, Nat.reduceLT, Int.reduceAdd, Int.reduceToNat, Int.reduceLE, Int.reduceLT, Int.reduceNeg, reduceIte, postC, watchC, sll, e1, decide_true, decide_false])
    | (refine go_split (fun _h => ?_) (fun _h => ?_) <;> simp (maxSteps := 4000000) only [go_sem, List.append_eq, List.cons_append, List.nil_append, Nat.reduceAdd, Nat.reduceMul, Nat.reduceSub, Nat.reduceLeDiff, Nat.reduceLT, Int.reduceAdd, Int.reduceToNat, Int.reduceLE, Int.reduceLT, Int.reduceNeg, reduceIte, postC, watchC, sll, e1, decide_true, decide_false])
    | (show heapOK _ _ = true; kernel_rfl)
    | (show heapOK2 _ _ = true; kernel_rfl)
    | (omega)))
        trace_state
  · rw [if_neg hf]
    simp only [postC, sl, watchC, sll] at hch
    generalize faultP p reads = e at *
    (refine callS_of_awp (fun w args => Try.call44 ..) Try.func44 rfl (fun w0 m0 wz => ?_); simp only [Try.ntmps44, Try.results44, initT, junks, postC, watchC, sll, sl, List.toList_toArray, List.cons_append, List.nil_append, List.length_cons, List.length_nil, Nat.reduceAdd, Nat.reduceSub])
    (repeat' (first
    | (refine awp_seqK ?_)
    | (refine kt ?_)
    | (refine And.intro ?_ ?_)
    | ((first | refine awp_region ?_ | refine awp_draw (by kernel_rfl) (by kernel_rfl) ?_ | refine Imp.le2 ?_ | refine awp_label ?_ | refine awp_skip ?_ | refine awp_exit ?_ | refine awp_cd ?_ | refine awp_ret ?_); simp (maxSteps := 4000000) only [go_sem, List.append_eq, List.cons_append, List.nil_append, Nat.reduceAdd, Nat.reduceMul, Nat.reduceSub, Nat.reduceLeDiff, Nat.reduceLT, Int.reduceAdd, Int.reduceToNat, Int.reduceLE, Int.reduceLT, Int.reduceNeg, reduceIte, postC, watchC, sll])
    | (intro _h)
    | (refine awp_block ?_)
    | (refine awp_scope ?_)
    | ((first | refine callK_of (hch) ?_); try simp (maxSteps := 4000000) only [go_sem, List.append_eq, List.cons_append, List.nil_append, Nat.reduceAdd, Nat.reduceMul, Nat.reduceSub, Nat.reduceLeDiff, Nat.reduceLT, Int.reduceAdd, Int.reduceToNat, Int.reduceLE, Int.reduceLT, Int.reduceNeg, reduceIte, postC, watchC, sll])
    | (refine go_split (fun _h => ?_) (fun _h => ?_) <;> simp (maxSteps := 4000000) only [go_sem, List.append_eq, List.cons_append, List.nil_append, Nat.reduceAdd, Nat.reduceMul, Nat.reduceSub, Nat.reduceLeDiff, Nat.reduceLT, Int.reduceAdd, Int.reduceToNat, Int.reduceLE, Int.reduceLT, Int.reduceNeg, reduceIte, postC, watchC, sll])
    | (show heapOK _ _ = true; kernel_rfl)
    | (show heapOK2 _ _ = true; kernel_rfl)
    | (omega)))
    trace_state
end Go.Am

/- What the chapter shows (awake), by running it. -/
namespace Go.Am
open Go.RowKit Go.Proofs

def entA (g : FuncId) : Bool := Nat.ble 3 g && Nat.ble g 107
theorem entA_all : (List.range' 3 105).all (entB Try.prog) = true := by kernel_rfl
theorem entA_ok (g : FuncId) (h : entA g = true) : Enters Try.prog g := by
  simp only [entA, Bool.and_eq_true, Nat.ble_eq] at h
  refine enters_of ?_
  have := List.all_eq_true.1 entA_all g (by rw [List.mem_range']; exact ⟨g - 3, by omega, by omega⟩)
  exact this
theorem mixedA : Try.prog.follows .mixedOrders = true := by kernel_rfl
set_option maxRecDepth 100000 in
theorem awake_c : CallS Try.prog 17 [] (.bool true) :=
  callS_run (eqt := fun _ => true) (pm := fun g => !(Nat.beq g 72 || Nat.beq g 63)) (ent := entA) (lf := 2000) (n := 60) (fun t _ => eqOK t) entA_ok mixedA (by kernel_rfl)
end Go.Am

/- Closed calls of the alarm functions: what they hand back (found by running them). -/
namespace Go.Am
open Go.RowKit Go.Proofs
set_option linter.unusedSimpArgs false
set_option linter.unusedVariables false

/-- Lists that are known to be full, and lists. -/
inductive Deep : AV → AV → Prop
  | refl (x : AV) : Deep x x
  | psl {f f' : Bool} {n : Nat} {xs ys : List AV} (hf : f' = true → f = true) (hl : xs.length = ys.length) (h : ∀ j (a : j < xs.length) (b : j < ys.length), Deep xs[j] ys[j]) : Deep (.psl f n xs) (.psl f' n ys)
  | agg {xs ys : List AV} (hl : xs.length = ys.length) (h : ∀ j (a : j < xs.length) (b : j < ys.length), Deep xs[j] ys[j]) : Deep (.agg xs) (.agg ys)
theorem prep_deep {ok : Nat → Prop} {w : World} {x y : AV} (d : Deep x y) : ∀ {v : Value}, PRep ok w x v → PRep ok w y v := by
  induction d with
  | refl x => exact fun p => p
  | psl hf hl h ih =>
    intro v p
    cases p with
    | psle h1 h2 h3 =>
      have e := List.eq_nil_of_length_eq_zero hl.symm
      subst e
      exact .psle h1 (fun e => h2 (hf e)) h3
    | psl vs h1 h2 hok hc hr =>
      exact .psl vs h1 (fun e => h2 (hf e)) hok (fun j hj => hc j (by omega)) (fun j hj => ih j (by omega) hj (hr j (by omega)))
  | agg hl h ih =>
    intro v p
    cases p with
    | agg us h1 ho r1 => exact .agg us (by omega) ho (fun j a b => ih j (by omega) a (r1 j (by omega) b))
/-- Lists of values, one by one. -/
def deepL : List AV → List AV → Prop
  | [], [] => True
  | x :: xs, y :: ys => Deep x y ∧ deepL xs ys
  | _, _ => False
theorem deepL_spec : ∀ {xs ys : List AV}, deepL xs ys → xs.length = ys.length ∧ ∀ j (a : j < xs.length) (b : j < ys.length), Deep xs[j] ys[j]
  | [], [], _ => ⟨rfl, fun j a => by simp at a⟩
  | x :: xs, y :: ys, h => by
    obtain ⟨h1, h2⟩ := h
    obtain ⟨h3, h4⟩ := deepL_spec h2
    refine ⟨by simp [h3], fun j a b => ?_⟩
    cases j with
    | zero => exact h1
    | succ j => exact h4 j (by simpa using a) (by simpa using b)
  | [], _ :: _, h => h.elim
  | _ :: _, [], h => h.elim
theorem deep_psl {f : Bool} {n : Nat} {xs ys : List AV} (h : deepL xs ys) : Deep (.psl f n xs) (.psl false n ys) := .psl (fun e => by cases e) (deepL_spec h).1 (deepL_spec h).2
theorem deep_agg {xs ys : List AV} (h : deepL xs ys) : Deep (.agg xs) (.agg ys) := .agg (deepL_spec h).1 (deepL_spec h).2
theorem CallS.deep {P : Program} {f : FuncId} {xs ys : List AV} {r : AV} (h : CallS P f ys r) (hs : deepL xs ys) : CallS P f xs r :=
  ⟨h.1, fun w vs ok h1 h2 h3 => h.2 w vs ok h1 ((deepL_spec hs).1.symm.trans h2) fun j a b => prep_deep ((deepL_spec hs).2 j (by rw [(deepL_spec hs).1]; exact a) a) (h3 j (by rw [(deepL_spec hs).1]; exact a) b)⟩

abbrev i64 (n : Int) : AV := .int .i64 n
def lst (l : List Int) : AV := .psl true l.length (ints l)
/-- The post of the chapter; its rows. -/
def post0 : AV := .agg [lst [2, 2, 5], i64 3, i64 10, i64 30, i64 4, i64 2]
def lone0 : AV := .psl true 3 [lst [10, 11, 12], lst [12, 30, 13], lst [15, 29, 14]]
def fast0 : AV := .psl true 3 [lst [10, 11, 12], lst [12, 13, 13], lst [18, 18, 18]]
def year0 : AV := .agg [lst [5, 12, 9, 9, 3, 14, 15], .bool true]
end Go.Am

/- The abstract machine Am, part Xo: the machine that runs, with calls of which the contract is known. -/
namespace Go.Am
open Go.RowKit
set_option linter.unusedSimpArgs false
set_option linter.unusedVariables false
/-- CALLS: of functions, of yield; what is known of some calls (orc) is not run. -/
def xcallO (P : Program) (eqt : TypeId → Bool) (pm ent : FuncId → Bool) (orc : Cv) (lf : Nat) : Nat → Cv
  | 0, _, _, _ => none
  | n + 1, f, args, H => match orc f args H with
    | some r => some r
    | none => match f with
    | .fn (.func g) first caps => if ent g = true then (match P.funcs[g]? with
      | some fn => (match fn.body with
        | some c => (match xcode P eqt pm (xcallO P eqt pm ent orc lf n) lf false c ⟨initT (first ++ args ++ caps) fn.ntmps, H, []⟩ with
          | some (.normal, s', W) => (match shutX s'.D s'.H with
            | some H2 => (match resX P ⟨s'.T, H2, []⟩ fn.results.toList with
              | some vs => some (finAV vs, H2, s'.D ++ W)
              | none => none)
            | none => none)
          | some (.ret, s', W) => (match shutX s'.D s'.H with
            | some H2 => (match resX P ⟨s'.T, H2, []⟩ fn.results.toList with
              | some vs => some (finAV vs, H2, s'.D ++ W)
              | none => none)
            | none => none)
          | _ => none)
        | none => none)
      | none => none) else none
    | .fn (.yield b) [] [] => (match hget H b with
      | some (.loop .ready none fn T ps asg body d) => (match putArgs ps.toList args T with
        | some T1 => (match xcode P eqt pm (xcallO P eqt pm ent orc lf n) lf true asg ⟨T1, H, []⟩ with
          | some (.normal, s1, W1) => (match hget s1.H b with
            | some (.loop .ready none fn T ps asg body d) => (match xcode P eqt pm (xcallO P eqt pm ent orc lf n) lf true body ⟨s1.T, hset s1.H b (.loop .busy none fn T ps asg body d), s1.D⟩ with
              | some (.normal, s2, W2) => (match hget s2.H b with
                | some (.loop .busy none fn T ps asg body d) => some (.bool true, hset s2.H b (.loop .ready none fn T ps asg body d), b :: (W1 ++ W2))
                | _ => none)
              | some (.ret, s2, W2) => (match hget s2.H b with
                | some (.loop .busy none fn T ps asg body d) => some (.bool false, hset s2.H b (.loop .done (some .ret) fn T ps asg body d), b :: (W1 ++ W2))
                | _ => none)
              | some (.exit id, s2, W2) => (match hget s2.H b with
                | some (.loop .busy none fn T ps asg body d) => some (.bool false, hset s2.H b (.loop .done (some (.exit id)) fn T ps asg body d), b :: (W1 ++ W2))
                | _ => none)
              | _ => none)
            | _ => none)
          | _ => none)
        | none => none)
      | _ => none)
    | _ => none


section
variable {P : Program} {eqt : TypeId → Bool} {pm ent : FuncId → Bool} {lf : Nat}
/-- CALLS. -/
theorem xcallO_sound {orc : Cv} (horc : CvOK P orc) (he : ∀ t, eqt t = true → EqOK P t) (hen : ∀ g, ent g = true → Enters P g) (hmx : P.follows .mixedOrders = true) : ∀ n, CvOK P (xcallO P eqt pm ent orc lf n) := by
  intro n
  induction n with
  | zero => intro fv ax0 H r H' W hx; simp [xcallO] at hx
  | succ n ih =>
    have hcode := fun rd => xcode_sound (rd := rd) (lf := lf) (pm := pm) he hmx ih
    intro fv ax0 H r H' W hx
    simp only [xcallO] at hx
    cases ho : orc fv ax0 H with
    | some q =>
      rw [ho] at hx
      exact horc fv ax0 H r H' W (by rw [ho]; exact hx)
    | none =>
    simp only [ho] at hx
    split at hx
    · rename_i g first caps
      split at hx
      · rename_i hent
        split at hx
        · rename_i fn hfn
          split at hx
          · rename_i c hbody
            have key : ∀ (ex : Exit) (s' : St) (W' : List Nat), (ex = .normal ∨ ex = .ret) → xcode P eqt pm (xcallO P eqt pm ent orc lf n) lf false c ⟨initT (first ++ ax0 ++ caps) fn.ntmps, H, []⟩ = some (ex, s', W') →
                (match shutX s'.D s'.H with
                  | some H2 => (match resX P ⟨s'.T, H2, []⟩ fn.results.toList with
                    | some vs => some (finAV vs, H2, s'.D ++ W')
                    | none => none)
                  | none => none) = some (r, H', W) → Frm H H' W ∧ Sem P (.fn (.func g) first caps) ax0 H r H' := by
              intro exx s' W' hex hc hx
              split at hx
              · rename_i H2 hsh
                split at hx
                · rename_i vs hvs
                  cases hx
                  obtain ⟨f1, x1⟩ := hcode false c _ _ _ _ hc
                  refine ⟨(f1.trans (shutX_frm _ hsh)).congr (fun b => by simp [or_comm]), hen g hent, fun w0 m w us hg hlen hrep => ?_⟩
                  refine callsIn_of_wp_marks hfn hbody trivial ?_
                  have hsat : SatM w0 [] (lget (initT (first ++ ax0 ++ caps) fn.ntmps)) (initT (first ++ ax0 ++ caps) fn.ntmps).length (hget H) [] m { tmps := us.toArray ++ Array.replicate (fn.ntmps - us.toArray.size) undef, defers := [] } w := by
                    refine ⟨hg, ?_, fun j hj => ?_, HidR.nil, [], rfl, fun j a => by simp at a, rfl⟩
                    · simp only [initT, List.length_append, junks_length, Array.size_append, List.size_toArray, Array.size_replicate] at hlen ⊢
                      omega
                    · simp only [initT, List.length_append, junks_length] at hj
                      rw [initT, lget_append]
                      by_cases hj' : j < (first ++ ax0 ++ caps).length
                      · refine ⟨us[j], ?_, ?_⟩
                        · rw [Array.getElem?_append_left (by simpa using (by omega : j < us.length))]; simp
                        · rw [dif_pos hj']
                          exact hrep j hj' (by omega)
                      · refine ⟨undef, ?_, ?_⟩
                        · rw [Array.getElem?_append_right (by simpa using (by omega : us.length ≤ j))]
                          rw [Array.getElem?_replicate, if_pos (by simp only [List.length_append] at hj' hlen; simp; omega)]
                        · rw [dif_neg hj', lget_junks]; exact .junk _
                  refine wpIn_mono (x1 w0 none [] m _ w (fun _ => rfl) hsat) ?_
                  rintro e' a' w' ⟨rfl, m', hs', ex'⟩
                  have := leavesX (P := P) (w0 := w0) (fn := fn) hvs (RR := fun e w' => ∃ v m', e = .returned v ∧ Good w0 (hget H') m' w' ∧ Ext (hget H) m w (hget H') m' w' ∧ Rep (hget H') m' w' (finAV vs) v) (fun v w' m' a b c => ⟨v, m', rfl, a, b, c⟩) s'.D s'.H a' w' m' hsh hs' ex'
                  rcases hex with rfl | rfl
                  · exact this
                  · exact this
                · cases hx
              · cases hx
            split at hx
            · rename_i s' W' hc; exact key _ s' W' (.inl rfl) hc hx
            · rename_i s' W' hc; exact key _ s' W' (.inr rfl) hc hx
            · cases hx
          · cases hx
        · cases hx
      · cases hx
    · rename_i b
      split at hx
      · rename_i fn T ps asg body d hb
        split at hx
        · rename_i T1 hT1
          split at hx
          · rename_i s1 W1 hc1
            obtain ⟨f1, x1⟩ := hcode true asg _ _ _ _ hc1
            split at hx
            · rename_i fn' T' ps' asg' body' d' hb1
              have key : ∀ (e2 : Exit) (s2 : St) (W2 : List Nat) (jump : Option Code) (fn2 : FuncId) (T2 : List AV) (ps2 : Array Tmp) (asg2 body2 : Code) (d2 : Nat), xcode P eqt pm (xcallO P eqt pm ent orc lf n) lf true body' ⟨s1.T, hset s1.H b (.loop .busy none fn' T' ps' asg' body' d'), s1.D⟩ = some (e2, s2, W2) →
                  hget s2.H b = some (.loop .busy none fn2 T2 ps2 asg2 body2 d2) → (∀ l R a w, (∃ v w', (Instr.endRound l jump).run P w = .ok v w' ∧ R (.returned v) w') → roundPost P l R e2 a w) →
                  Frm H (hset s2.H b (.loop (if jump.isNone then .ready else .done) jump fn2 T2 ps2 asg2 body2 d2)) (b :: (W1 ++ W2)) ∧ SemY P b ax0 H (.bool jump.isNone) (hset s2.H b (.loop (if jump.isNone then .ready else .done) jump fn2 T2 ps2 asg2 body2 d2)) := by
                intro e2 s2 W2 jump fn2 T2 ps2 asg2 body2 d2 hc2 hb2 hpost
                obtain ⟨f2, x2⟩ := hcode true body' _ _ _ _ hc2
                refine ⟨(((f1.trans (Frm.set _ b _)).trans f2).trans (Frm.set _ b _)).congr (fun c => ?_), ?_⟩
                · simp only [List.mem_append, List.mem_cons, List.not_mem_nil, or_false]
                  constructor
                  · rintro (((h | h) | h) | h) <;> simp [h]
                  · rintro (h | h | h) <;> simp [h]
                · intro _ w0 m w us l hg hl hlen hrep
                  obtain ⟨rec, k1, k2, k3, k4, k5, k6, k7, k8, _, _⟩ := rec_same hg hb hl .ready none
                  obtain ⟨p1, p2, p3, p4⟩ := putArgs_sound ps.toList ax0 T T1 us rec.tmps hT1 hlen hrep k7 (fun j hj => by
                    obtain ⟨v, hv, hr⟩ := k8 j hj
                    refine ⟨v, hv, ?_⟩
                    rw [lget_get, List.getElem?_eq_getElem hj]; exact hr)
                  have hy := run_yield (P := P) (args := us.toArray) k1 (by rw [k4]; simpa using p1.symm)
                  have hfold : (rec.params.zip us.toArray).foldl (fun tmps (t, a) => tmps.setIfInBounds t a) rec.tmps = (ps.toList.zip us).foldl (fun t p => t.setIfInBounds p.1 p.2) rec.tmps := by
                    rw [k4, ← Array.foldl_toList, Array.toList_zip]
                  refine ⟨_, _, _, _, hy, roundIn_of_wpIn trivial ?_⟩
                  rw [hfold, k5]
                  have hsat : SatM w0 [] (lget T1) T1.length (hget H) [] m { tmps := (ps.toList.zip us).foldl (fun t p => t.setIfInBounds p.1 p.2) rec.tmps, defers := [] } w :=
                    ⟨hg, by rw [p2]; exact p3, fun j hj => p4 j (by rw [← p2]; exact hj), HidR.nil, [], rfl, fun j a => by simp at a, rfl⟩
                  refine wpIn_mono (x1 w0 (some l.c) [] m _ w (by simp) hsat) ?_
                  rintro e' a1 w1 ⟨rfl, m1, hs1, ex1⟩
                  have hl1 : m1 b = some l := by rw [(ex1.loop _ _ _ _ _ _ _ _ _ hb).2]; exact hl
                  obtain ⟨rec1, q1, q2, q3, _, _, q6, _, _, g2, e2x⟩ := rec_same hs1.good hb1 hl1 .busy none
                  rw [← hget_upd] at g2 e2x
                  have hbr := run_beginRound (P := P) q1 q2
                  rw [q3] at hbr
                  have hbody : rec.body = body' := by
                    have h5 : ∃ st' pend', hget s1.H b = some (.loop st' pend' fn T ps asg body d) := (ex1.loop _ _ _ _ _ _ _ _ _ hb).1
                    obtain ⟨st', pend', h5⟩ := h5
                    rw [hb1] at h5
                    cases h5
                    exact k6
                  refine ⟨_, hbr, ?_⟩
                  rw [hbody]
                  have hs2 : SatM w0 [] (lget s1.T) s1.T.length (hget (hset s1.H b (.loop .busy none fn' T' ps' asg' body' d'))) s1.D _ a1 _ := hs1.move g2 e2x
                  refine wpIn_mono (x2 w0 (some l.c) [] _ a1 _ (by simp) hs2) ?_
                  rintro e3 a3 w3 ⟨rfl, m3, hs3, ex3⟩
                  have hl3 : m3 b = some l := by
                    rw [(ex3.loop _ _ _ _ _ _ _ _ _ (by rw [hget_upd, upd_same])).2, upd_same]
                  obtain ⟨v, w4, r1, v', m4, r2, r3, r4, r5⟩ := round_end (P := P) hs3.good ((ex1.trans e2x).trans ex3) hl3 hb2 jump _ rfl
                  exact hpost _ _ _ _ ⟨v, w4, r1, v', m4, r2, r3, r4, r5⟩
              split at hx
              · rename_i s2 W2 hc2
                split at hx
                · rename_i hb2
                  cases hx
                  exact key _ _ _ none _ _ _ _ _ _ hc2 hb2 (fun l R a w h => h)
                · cases hx
              · rename_i s2 W2 hc2
                split at hx
                · rename_i hb2
                  cases hx
                  exact key _ _ _ (some .ret) _ _ _ _ _ _ hc2 hb2 (fun l R a w h => h)
                · cases hx
              · rename_i id s2 W2 hc2
                split at hx
                · rename_i hb2
                  cases hx
                  exact key _ _ _ (some (.exit id)) _ _ _ _ _ _ hc2 hb2 (fun l R a w h => h)
                · cases hx
              · cases hx
            · cases hx
          · cases hx
        · cases hx
      · cases hx
    · cases hx

/-- The contract of a function that is run. -/
theorem callS_runO {orc : Cv} (horc : CvOK P orc) (he : ∀ t, eqt t = true → EqOK P t) (hen : ∀ g, ent g = true → Enters P g) (hmx : P.follows .mixedOrders = true) {n : Nat} {g : FuncId} {ax0 : List AV} {y : AV} (h : pcallX (xcallO P eqt pm ent orc lf n) g ax0 = some y) : CallS P g ax0 y := by
  unfold pcallX at h
  split at h
  · rename_i r H' W hc
    obtain ⟨_, hs⟩ := xcallO_sound horc he hen hmx n _ _ _ _ _ _ hc
    exact callS_of_semF (by simpa [Sem] using hs) h
  · cases h
/-- A call whose contract is known, with no blocks. -/
theorem semF_of_callS {g : FuncId} {xs : List AV} {r : AV} (h : CallS P g xs r) (hp : ∀ x ∈ xs, pureA x = true) : SemF P g xs [] r [] := by
  refine ⟨h.1, fun {B} w0 m w vs hg hlen hrep => ?_⟩
  refine (h.2 w vs (Ok m w) (fun c hc => hc.1) hlen (fun j a b => pure_prep (hrep j a b) (hp _ (List.getElem_mem _)))).mono ?_
  rintro e w' ⟨v, rfl, hv, hb⟩
  obtain ⟨g1, e1⟩ := hg.garbage hb
  refine ⟨v, m, rfl, g1, e1, .pure (hv.mono (fun _ _ => rfl) (fun c hc => ?_))⟩
  rcases hc with hc | hc
  · exact ⟨Nat.lt_of_lt_of_le hc.1 hb.size, hc.2⟩
  · refine ⟨hc.2, fun b l hl he => ?_, hg.fresh _ (.inr hc.1)⟩
    have := hg.lt hl
    omega
end
end Go.Am

/- Contracts of the alarm functions: terms, the price of seasons. -/
namespace Go.Am
open Go.RowKit Go.Proofs
attribute [local irreducible] AWP CallS Kt goK CallK stepK evOps
set_option maxRecDepth 4000
set_option linter.unusedSimpArgs false
set_option linter.unusedVariables false
set_option maxHeartbeats 1600000

theorem cost_c (n : Int) : CallS Try.prog 101 [.int .i64 n] (.bool (decide (0 ≤ n ∧ n ≤ 1000))) := by
  (refine callS_of_awp (fun w args => Try.call101 ..) Try.func101 rfl (fun w0 m0 wz => ?_); simp only [Try.ntmps101, Try.results101, initT, junks, ruleC, seasonC, slS, slX, termsC, spellC, sl, List.toList_toArray, List.cons_append, List.nil_append, List.length_cons, List.length_nil, Nat.reduceAdd, Nat.reduceSub])
  (repeat' (first
    | (refine awp_seqK ?_)
    | (refine kt ?_)
    | (refine And.intro ?_ ?_)
    | ((first | refine awp_region ?_ | refine awp_draw (by kernel_rfl) (by kernel_rfl) ?_ | refine Imp.le2 ?_ | refine awp_label ?_ | refine awp_skip ?_ | refine awp_exit ?_ | refine awp_cd ?_ | refine awp_ret ?_); simp (maxSteps := 4000000) only [go_sem, List.append_eq, List.cons_append, List.nil_append, Nat.reduceAdd, Nat.reduceMul, Nat.reduceSub, Nat.reduceLeDiff, Nat.reduceLT, Int.reduceAdd, Int.reduceToNat, Int.reduceLE, Int.reduceLT, Int.reduceNeg, reduceIte, ruleC, seasonC, slS, slX, termsC, spellC])
    | (intro _h)
    | (refine awp_block ?_)
    | (refine awp_scope ?_)
    | ((first | refine callK_of (within_c _ _ _) ?_); try simp (maxSteps := 4000000) only [go_sem, List.append_eq, List.cons_append, List.nil_append, Nat.reduceAdd, Nat.reduceMul, Nat.reduceSub, Nat.reduceLeDiff, Nat.reduceLT, Int.reduceAdd, Int.reduceToNat, Int.reduceLE, Int.reduceLT, Int.reduceNeg, reduceIte, ruleC, seasonC, slS, slX, termsC, spellC])
    | (refine go_split (fun _h => ?_) (fun _h => ?_) <;> simp (maxSteps := 4000000) only [go_sem, List.append_eq, List.cons_append, List.nil_append, Nat.reduceAdd, Nat.reduceMul, Nat.reduceSub, Nat.reduceLeDiff, Nat.reduceLT, Int.reduceAdd, Int.reduceToNat, Int.reduceLE, Int.reduceLT, Int.reduceNeg, reduceIte, ruleC, seasonC, slS, slX, termsC, spellC])
    | (show heapOK _ _ = true; kernel_rfl)
    | (omega)))
theorem termsValid_c (t : Terms) : CallS Try.prog 93 [.agg (termsC t)] (.bool (termsB t)) := by
  unfold termsB
  (refine callS_of_awp (fun w args => Try.call93 ..) Try.func93 rfl (fun w0 m0 wz => ?_); simp only [Try.ntmps93, Try.results93, initT, junks, ruleC, seasonC, slS, slX, termsC, spellC, sl, List.toList_toArray, List.cons_append, List.nil_append, List.length_cons, List.length_nil, Nat.reduceAdd, Nat.reduceSub])
  (repeat' (first
    | (refine awp_seqK ?_)
    | (refine kt ?_)
    | (refine And.intro ?_ ?_)
    | ((first | refine awp_region ?_ | refine awp_draw (by kernel_rfl) (by kernel_rfl) ?_ | refine Imp.le2 ?_ | refine awp_label ?_ | refine awp_skip ?_ | refine awp_exit ?_ | refine awp_cd ?_ | refine awp_ret ?_); simp (maxSteps := 4000000) only [go_sem, List.append_eq, List.cons_append, List.nil_append, Nat.reduceAdd, Nat.reduceMul, Nat.reduceSub, Nat.reduceLeDiff, Nat.reduceLT, Int.reduceAdd, Int.reduceToNat, Int.reduceLE, Int.reduceLT, Int.reduceNeg, reduceIte, ruleC, seasonC, slS, slX, termsC, spellC])
    | (intro _h)
    | (refine awp_block ?_)
    | (refine awp_scope ?_)
    | ((first | refine callK_of (within_c _ _ _) ?_ | refine callK_of (speed_c _) ?_ | refine callK_of (hold_c _) ?_ | refine callK_of (cost_c _) ?_); try simp (maxSteps := 4000000) only [go_sem, List.append_eq, List.cons_append, List.nil_append, Nat.reduceAdd, Nat.reduceMul, Nat.reduceSub, Nat.reduceLeDiff, Nat.reduceLT, Int.reduceAdd, Int.reduceToNat, Int.reduceLE, Int.reduceLT, Int.reduceNeg, reduceIte, ruleC, seasonC, slS, slX, termsC, spellC])
    | (refine go_split (fun _h => ?_) (fun _h => ?_) <;> simp (maxSteps := 4000000) only [go_sem, List.append_eq, List.cons_append, List.nil_append, Nat.reduceAdd, Nat.reduceMul, Nat.reduceSub, Nat.reduceLeDiff, Nat.reduceLT, Int.reduceAdd, Int.reduceToNat, Int.reduceLE, Int.reduceLT, Int.reduceNeg, reduceIte, ruleC, seasonC, slS, slX, termsC, spellC])
    | (show heapOK _ _ = true; kernel_rfl)
    | (omega)))
theorem rightTerms_c (t : Terms) : CallS Try.prog 78 [.agg (termsC t)] (.bool (termsB t)) := by
  unfold termsB
  (refine callS_of_awp (fun w args => Try.call78 ..) Try.func78 rfl (fun w0 m0 wz => ?_); simp only [Try.ntmps78, Try.results78, initT, junks, ruleC, seasonC, slS, slX, termsC, spellC, sl, List.toList_toArray, List.cons_append, List.nil_append, List.length_cons, List.length_nil, Nat.reduceAdd, Nat.reduceSub])
  (repeat' (first
    | (refine awp_seqK ?_)
    | (refine kt ?_)
    | (refine And.intro ?_ ?_)
    | ((first | refine awp_region ?_ | refine awp_draw (by kernel_rfl) (by kernel_rfl) ?_ | refine Imp.le2 ?_ | refine awp_label ?_ | refine awp_skip ?_ | refine awp_exit ?_ | refine awp_cd ?_ | refine awp_ret ?_); simp (maxSteps := 4000000) only [go_sem, List.append_eq, List.cons_append, List.nil_append, Nat.reduceAdd, Nat.reduceMul, Nat.reduceSub, Nat.reduceLeDiff, Nat.reduceLT, Int.reduceAdd, Int.reduceToNat, Int.reduceLE, Int.reduceLT, Int.reduceNeg, reduceIte, ruleC, seasonC, slS, slX, termsC, spellC])
    | (intro _h)
    | (refine awp_block ?_)
    | (refine awp_scope ?_)
    | ((first | refine callK_of (in_c _ _ _) ?_); try simp (maxSteps := 4000000) only [go_sem, List.append_eq, List.cons_append, List.nil_append, Nat.reduceAdd, Nat.reduceMul, Nat.reduceSub, Nat.reduceLeDiff, Nat.reduceLT, Int.reduceAdd, Int.reduceToNat, Int.reduceLE, Int.reduceLT, Int.reduceNeg, reduceIte, ruleC, seasonC, slS, slX, termsC, spellC])
    | (refine go_split (fun _h => ?_) (fun _h => ?_) <;> simp (maxSteps := 4000000) only [go_sem, List.append_eq, List.cons_append, List.nil_append, Nat.reduceAdd, Nat.reduceMul, Nat.reduceSub, Nat.reduceLeDiff, Nat.reduceLT, Int.reduceAdd, Int.reduceToNat, Int.reduceLE, Int.reduceLT, Int.reduceNeg, reduceIte, ruleC, seasonC, slS, slX, termsC, spellC])
    | (show heapOK _ _ = true; kernel_rfl)
    | (omega)))
theorem Terms_c (t : Terms) : CallS Try.prog 49 [.agg (termsC t)] (.agg (termsC t)) := by
  (refine callS_of_awp (fun w args => Try.call49 ..) Try.func49 rfl (fun w0 m0 wz => ?_); simp only [Try.ntmps49, Try.results49, initT, junks, ruleC, seasonC, slS, slX, termsC, spellC, sl, List.toList_toArray, List.cons_append, List.nil_append, List.length_cons, List.length_nil, Nat.reduceAdd, Nat.reduceSub])
  (repeat' (first
    | (refine awp_seqK ?_)
    | (refine kt ?_)
    | (refine And.intro ?_ ?_)
    | ((first | refine awp_region ?_ | refine awp_draw (by kernel_rfl) (by kernel_rfl) ?_ | refine Imp.le2 ?_ | refine awp_label ?_ | refine awp_skip ?_ | refine awp_exit ?_ | refine awp_cd ?_ | refine awp_ret ?_); simp (maxSteps := 4000000) only [go_sem, List.append_eq, List.cons_append, List.nil_append, Nat.reduceAdd, Nat.reduceMul, Nat.reduceSub, Nat.reduceLeDiff, Nat.reduceLT, Int.reduceAdd, Int.reduceToNat, Int.reduceLE, Int.reduceLT, Int.reduceNeg, reduceIte, ruleC, seasonC, slS, slX, termsC, spellC])
    | (intro _h)
    | (refine awp_block ?_)
    | (refine awp_scope ?_)
    | (refine go_split (fun _h => ?_) (fun _h => ?_) <;> simp (maxSteps := 4000000) only [go_sem, List.append_eq, List.cons_append, List.nil_append, Nat.reduceAdd, Nat.reduceMul, Nat.reduceSub, Nat.reduceLeDiff, Nat.reduceLT, Int.reduceAdd, Int.reduceToNat, Int.reduceLE, Int.reduceLT, Int.reduceNeg, reduceIte, ruleC, seasonC, slS, slX, termsC, spellC])
    | (show heapOK _ _ = true; kernel_rfl)
    | (omega)))
theorem priced_c (l : List Season) (t : Terms) (hl : okS l) : CallS Try.prog 76 [slS l, .agg (termsC t)] (.int .i64 (pricedE l t)) := by
  have h1 := seasons_c l hl
  have h2 := termsValid_c t
  simp only [slS, termsC] at h1 h2
  unfold pricedE
  (refine callS_of_awp (fun w args => Try.call76 ..) Try.func76 rfl (fun w0 m0 wz => ?_); simp only [Try.ntmps76, Try.results76, initT, junks, ruleC, seasonC, slS, slX, termsC, spellC, sl, List.toList_toArray, List.cons_append, List.nil_append, List.length_cons, List.length_nil, Nat.reduceAdd, Nat.reduceSub])
  (repeat' (first
    | (refine awp_seqK ?_)
    | (refine kt ?_)
    | (refine And.intro ?_ ?_)
    | ((first | refine awp_region ?_ | refine awp_draw (by kernel_rfl) (by kernel_rfl) ?_ | refine Imp.le2 ?_ | refine awp_label ?_ | refine awp_skip ?_ | refine awp_exit ?_ | refine awp_cd ?_ | refine awp_ret ?_); simp (maxSteps := 4000000) only [go_sem, List.append_eq, List.cons_append, List.nil_append, Nat.reduceAdd, Nat.reduceMul, Nat.reduceSub, Nat.reduceLeDiff, Nat.reduceLT, Int.reduceAdd, Int.reduceToNat, Int.reduceLE, Int.reduceLT, Int.reduceNeg, reduceIte, ruleC, seasonC, slS, slX, termsC, spellC])
    | (intro _h)
    | (refine awp_block ?_)
    | (refine awp_scope ?_)
    | ((first | refine callK_of (h1) ?_ | refine callK_of (h2) ?_); try simp (maxSteps := 4000000) only [go_sem, List.append_eq, List.cons_append, List.nil_append, Nat.reduceAdd, Nat.reduceMul, Nat.reduceSub, Nat.reduceLeDiff, Nat.reduceLT, Int.reduceAdd, Int.reduceToNat, Int.reduceLE, Int.reduceLT, Int.reduceNeg, reduceIte, ruleC, seasonC, slS, slX, termsC, spellC])
    | (refine go_split (fun _h => ?_) (fun _h => ?_) <;> simp (maxSteps := 4000000) only [go_sem, List.append_eq, List.cons_append, List.nil_append, Nat.reduceAdd, Nat.reduceMul, Nat.reduceSub, Nat.reduceLeDiff, Nat.reduceLT, Int.reduceAdd, Int.reduceToNat, Int.reduceLE, Int.reduceLT, Int.reduceNeg, reduceIte, ruleC, seasonC, slS, slX, termsC, spellC])
    | (show heapOK _ _ = true; kernel_rfl)
    | (omega))) <;> simp_all
theorem lawPriced_c (l : List Season) (t : Terms) (hl : okS l) : CallS Try.prog 50 [slS l, .agg (termsC t)] (.int .i64 (pricedE l t)) := by
  have h1 := seasonsFault_c l hl
  have h2 := rightTerms_c t
  simp only [slS, termsC] at h1 h2
  unfold pricedE
  (refine callS_of_awp (fun w args => Try.call50 ..) Try.func50 rfl (fun w0 m0 wz => ?_); simp only [Try.ntmps50, Try.results50, initT, junks, ruleC, seasonC, slS, slX, termsC, spellC, sl, List.toList_toArray, List.cons_append, List.nil_append, List.length_cons, List.length_nil, Nat.reduceAdd, Nat.reduceSub])
  (repeat' (first
    | (refine awp_seqK ?_)
    | (refine kt ?_)
    | (refine And.intro ?_ ?_)
    | ((first | refine awp_region ?_ | refine awp_draw (by kernel_rfl) (by kernel_rfl) ?_ | refine Imp.le2 ?_ | refine awp_label ?_ | refine awp_skip ?_ | refine awp_exit ?_ | refine awp_cd ?_ | refine awp_ret ?_); simp (maxSteps := 4000000) only [go_sem, List.append_eq, List.cons_append, List.nil_append, Nat.reduceAdd, Nat.reduceMul, Nat.reduceSub, Nat.reduceLeDiff, Nat.reduceLT, Int.reduceAdd, Int.reduceToNat, Int.reduceLE, Int.reduceLT, Int.reduceNeg, reduceIte, ruleC, seasonC, slS, slX, termsC, spellC])
    | (intro _h)
    | (refine awp_block ?_)
    | (refine awp_scope ?_)
    | ((first | refine callK_of (h1) ?_ | refine callK_of (h2) ?_); try simp (maxSteps := 4000000) only [go_sem, List.append_eq, List.cons_append, List.nil_append, Nat.reduceAdd, Nat.reduceMul, Nat.reduceSub, Nat.reduceLeDiff, Nat.reduceLT, Int.reduceAdd, Int.reduceToNat, Int.reduceLE, Int.reduceLT, Int.reduceNeg, reduceIte, ruleC, seasonC, slS, slX, termsC, spellC])
    | (refine go_split (fun _h => ?_) (fun _h => ?_) <;> simp (maxSteps := 4000000) only [go_sem, List.append_eq, List.cons_append, List.nil_append, Nat.reduceAdd, Nat.reduceMul, Nat.reduceSub, Nat.reduceLeDiff, Nat.reduceLT, Int.reduceAdd, Int.reduceToNat, Int.reduceLE, Int.reduceLT, Int.reduceNeg, reduceIte, ruleC, seasonC, slS, slX, termsC, spellC])
    | (show heapOK _ _ = true; kernel_rfl)
    | (omega))) <;> simp_all

/-- Seasons as they may be priced. -/
def fitS (l : List Season) : Prop := l.length ≤ 10 ∧ ∀ i, i < l.length → (l.getD i default).speeds.length ≤ 60
theorem fitS_of {l : List Season} (h : faultS l = 0) : fitS l := by
  obtain ⟨h1, h2, _⟩ := faultS_zero h
  refine ⟨h1, fun i hi => ?_⟩
  rw [show l.getD i default = l[i] by simp [List.getD_eq_getElem?_getD, hi]]
  exact h2 _ (List.getElem_mem hi)
theorem priceS_bd {t : Terms} {r : Rule} {s : Season} (hl : s.speeds.length ≤ 60) (ht : termsB t = true) (hr : 1 ≤ r.hold) : 0 ≤ priceS t r s ∧ priceS t r s ≤ 3660000 := by
  have hch := spells_chain (sp := s.speeds) hr
  have hle := spells_le (sp := s.speeds) (r := r)
  have := sumTo_bd (f := spellCost t s) (l := spells s.speeds r) 61000 (0, 0) (fun j hj => (cost_bd ht (hch.at j hj).2.1 (hch.at j hj).2.2 hl).2.2) _ (Nat.le_refl _)
  unfold priceS
  omega
def allTo {α : Type} (q : α → Bool) (l : List α) (k : Nat) : Bool := (l.take k).all q
theorem allTo_zero {α : Type} {q : α → Bool} {l : List α} : allTo q l 0 = true := by simp [allTo]
theorem allTo_succ {α : Type} {q : α → Bool} {l : List α} {k : Nat} (d : α) (h : k < l.length) : allTo q l (k + 1) = (allTo q l k && q (l.getD k d)) := by
  unfold allTo
  rw [List.take_succ_eq_append_getElem h, List.all_append]
  simp [List.getD_eq_getElem?_getD, h]
theorem allTo_all {α : Type} {q : α → Bool} {l : List α} : allTo q l l.length = l.all q := by simp [allTo]

theorem total_c (l : List Season) (t : Terms) (r : Rule) (hl : fitS l) (ht : termsB t = true) (hr : 1 ≤ r.hold ∧ r.hold ≤ 60) : CallS Try.prog 77 [slS l, .agg (termsC t), .agg (ruleC r)] (.tup [.int .i64 (totalP l t r), .bool (totalI l t r)]) := by
  obtain ⟨hl1, hl2⟩ := hl
  unfold totalP totalI
  (refine callS_of_awp (fun w args => Try.call77 ..) Try.func77 rfl (fun w0 m0 wz => ?_); simp only [Try.ntmps77, Try.results77, initT, junks, ruleC, seasonC, slS, slX, termsC, spellC, sl, List.toList_toArray, List.cons_append, List.nil_append, List.length_cons, List.length_nil, Nat.reduceAdd, Nat.reduceSub])
  (repeat' (first
    | (refine awp_seqK ?_)
    | (refine kt ?_)
    | (refine And.intro ?_ ?_)
    | ((first | refine awp_region ?_ | refine awp_draw (by kernel_rfl) (by kernel_rfl) ?_ | refine Imp.le2 ?_ | refine awp_label ?_ | refine awp_skip ?_ | refine awp_exit ?_ | refine awp_cd ?_ | refine awp_ret ?_); simp (maxSteps := 4000000) only [go_sem, List.append_eq, List.cons_append, List.nil_append, Nat.reduceAdd, Nat.reduceMul, Nat.reduceSub, Nat.reduceLeDiff, Nat.reduceLT, Int.reduceAdd, Int.reduceToNat, Int.reduceLE, Int.reduceLT, Int.reduceNeg, reduceIte, ruleC, seasonC, slS, slX, termsC, spellC])
    | (intro _h)
    | (refine awp_block ?_)
    | (refine awp_scope ?_)
    | (refine go_split (fun _h => ?_) (fun _h => ?_) <;> simp (maxSteps := 4000000) only [go_sem, List.append_eq, List.cons_append, List.nil_append, Nat.reduceAdd, Nat.reduceMul, Nat.reduceSub, Nat.reduceLeDiff, Nat.reduceLT, Int.reduceAdd, Int.reduceToNat, Int.reduceLE, Int.reduceLT, Int.reduceNeg, reduceIte, ruleC, seasonC, slS, slX, termsC, spellC])
    | (show heapOK _ _ = true; kernel_rfl)
    | (omega)))
  refine awp_loopN l.length (fun k => ⟨mkT 35 [(4, .ptr 0 0 0), (5, .ptr 1 0 0), (6, .int .i64 (sumTo (priceS t r) l k)), (7, .bool (allTo (inTimeS t r) l k)), (12, slS l), (13, .int .i64 l.length), (14, .int .i64 k)], [some (.cells 96 1 0 (termsC t)), some (.cells 34 1 0 (ruleC r))], []⟩) (.le2 ?_) ?_
  · simp (maxSteps := 4000000) only [go_sem, List.append_eq, List.cons_append, List.nil_append, Nat.reduceAdd, Nat.reduceMul, Nat.reduceSub, Nat.reduceLeDiff, Nat.reduceLT, Int.reduceAdd, Int.reduceToNat, Int.reduceLE, Int.reduceLT, Int.reduceNeg, reduceIte, ruleC, seasonC, slS, slX, termsC, spellC]
    simp [sumTo_zero, allTo_zero]
  · intro k hk
    have hbd := sumTo_bd (f := priceS t r) (l := l) 3660000 default (fun j hj => priceS_bd (hl2 j hj) ht hr.1) k hk
    have hpb : k < l.length → _ := fun h => priceS_bd (t := t) (r := r) (hl2 k h) ht hr.1
    have hsu : k < l.length → _ := fun h => sumTo_succ (f := priceS t r) (l := l) default h
    have hau : k < l.length → _ := fun h => allTo_succ (q := inTimeS t r) (l := l) default h
    simp (maxSteps := 4000000) only [go_sem, List.append_eq, List.cons_append, List.nil_append, Nat.reduceAdd, Nat.reduceMul, Nat.reduceSub, Nat.reduceLeDiff, Nat.reduceLT, Int.reduceAdd, Int.reduceToNat, Int.reduceLE, Int.reduceLT, Int.reduceNeg, reduceIte, ruleC, seasonC, slS, slX, termsC, spellC]
    (repeat' (first
    | (refine awp_seqK ?_)
    | (refine kt ?_)
    | (refine And.intro ?_ ?_)
    | ((first | refine awp_region ?_ | refine awp_draw (by kernel_rfl) (by kernel_rfl) ?_ | refine Imp.le2 ?_ | refine awp_label ?_ | refine awp_skip ?_ | refine awp_exit ?_ | refine awp_cd ?_ | refine awp_ret ?_); simp (maxSteps := 4000000) only [go_sem, List.append_eq, List.cons_append, List.nil_append, Nat.reduceAdd, Nat.reduceMul, Nat.reduceSub, Nat.reduceLeDiff, Nat.reduceLT, Int.reduceAdd, Int.reduceToNat, Int.reduceLE, Int.reduceLT, Int.reduceNeg, reduceIte, ruleC, seasonC, slS, slX, termsC, spellC])
    | (intro _h)
    | (refine awp_block ?_)
    | (refine awp_scope ?_)
    | ((first | refine callK_of (price_c (l.getD k default) t r (hl2 k (by omega)) ht hr) ?_); try simp (maxSteps := 4000000) only [go_sem, List.append_eq, List.cons_append, List.nil_append, Nat.reduceAdd, Nat.reduceMul, Nat.reduceSub, Nat.reduceLeDiff, Nat.reduceLT, Int.reduceAdd, Int.reduceToNat, Int.reduceLE, Int.reduceLT, Int.reduceNeg, reduceIte, ruleC, seasonC, slS, slX, termsC, spellC])
    | (refine go_split (fun _h => ?_) (fun _h => ?_) <;> simp (maxSteps := 4000000) only [go_sem, List.append_eq, List.cons_append, List.nil_append, Nat.reduceAdd, Nat.reduceMul, Nat.reduceSub, Nat.reduceLeDiff, Nat.reduceLT, Int.reduceAdd, Int.reduceToNat, Int.reduceLE, Int.reduceLT, Int.reduceNeg, reduceIte, ruleC, seasonC, slS, slX, termsC, spellC])
    | (show heapOK _ _ = true; kernel_rfl)
    | (omega)))
    all_goals (try (have hpb := hpb (by omega)); try (have hsu := hsu (by omega)); try (have hau := hau (by omega)))
    all_goals (first
      | omega
      | (rw [hau]; simp only [*, Bool.and_true, Bool.and_false, Bool.true_and, Bool.false_and])
      | (have : k = l.length := by omega
         subst this; first | rfl | (rw [← allTo_all]; assumption) | rw [← allTo_all])
      | trace "LEFT")
theorem Price_c (l : List Season) (t : Terms) (r : Rule) (hl : okS l) :
    CallS Try.prog 47 [slS l, .agg (termsC t), .agg (ruleC r)] (.tup [.int .i64 (if pricedE l t = 0 ∧ ruleB r = true then totalP l t r else 0), .bool (decide (pricedE l t = 0 ∧ ruleB r = true) && totalI l t r), .int .i64 (if pricedE l t = 0 then (if ruleB r = true then 0 else 2) else pricedE l t)]) := by
  have h1 := priced_c l t hl
  have h2 := ruleValid_c r
  simp only [slS, termsC, ruleC] at h1 h2
  (refine callS_of_awp (fun w args => Try.call47 ..) Try.func47 rfl (fun w0 m0 wz => ?_); simp only [Try.ntmps47, Try.results47, initT, junks, ruleC, seasonC, slS, slX, termsC, spellC, sl, List.toList_toArray, List.cons_append, List.nil_append, List.length_cons, List.length_nil, Nat.reduceAdd, Nat.reduceSub])
  (repeat' (first
    | (refine awp_seqK ?_)
    | (refine kt ?_)
    | (refine And.intro ?_ ?_)
    | ((first | refine awp_region ?_ | refine awp_draw (by kernel_rfl) (by kernel_rfl) ?_ | refine Imp.le2 ?_ | refine awp_label ?_ | refine awp_skip ?_ | refine awp_exit ?_ | refine awp_cd ?_ | refine awp_ret ?_); simp (maxSteps := 4000000) only [go_sem, List.append_eq, List.cons_append, List.nil_append, Nat.reduceAdd, Nat.reduceMul, Nat.reduceSub, Nat.reduceLeDiff, Nat.reduceLT, Int.reduceAdd, Int.reduceToNat, Int.reduceLE, Int.reduceLT, Int.reduceNeg, reduceIte, ruleC, seasonC, slS, slX, termsC, spellC])
    | (intro _h)
    | (refine awp_block ?_)
    | (refine awp_scope ?_)
    | ((first | refine callK_of (h1) ?_ | refine callK_of (h2) ?_ | refine callK_of (total_c _ _ _ (fitS_of (pricedE_zero ‹_›).1) (pricedE_zero ‹_›).2.2 (ruleB_true ‹_›).2.2) ?_); try simp (maxSteps := 4000000) only [go_sem, List.append_eq, List.cons_append, List.nil_append, Nat.reduceAdd, Nat.reduceMul, Nat.reduceSub, Nat.reduceLeDiff, Nat.reduceLT, Int.reduceAdd, Int.reduceToNat, Int.reduceLE, Int.reduceLT, Int.reduceNeg, reduceIte, ruleC, seasonC, slS, slX, termsC, spellC])
    | (refine go_split (fun _h => ?_) (fun _h => ?_) <;> simp (maxSteps := 4000000) only [go_sem, List.append_eq, List.cons_append, List.nil_append, Nat.reduceAdd, Nat.reduceMul, Nat.reduceSub, Nat.reduceLeDiff, Nat.reduceLT, Int.reduceAdd, Int.reduceToNat, Int.reduceLE, Int.reduceLT, Int.reduceNeg, reduceIte, ruleC, seasonC, slS, slX, termsC, spellC])
    | (show heapOK _ _ = true; kernel_rfl)
    | (omega)))
  all_goals (first | (simp [*]; done) | trace "LEFT")
end Go.Am

/- Contracts of the alarm functions: the price by the reference, seasons for the program, guards. -/
namespace Go.Am
open Go.RowKit Go.Proofs
attribute [local irreducible] AWP CallS Kt goK CallK stepK evOps
set_option maxRecDepth 4000
set_option linter.unusedSimpArgs false
set_option linter.unusedVariables false
set_option maxHeartbeats 1600000

theorem snoc_S {l : List Season} {s : Season} : recs seasonC l ++ [.psl false s.speeds.length (ints s.speeds), .bool s.fell] = recs seasonC (l ++ [s]) := by simp [recs, seasonC, sl]
theorem take_snoc {α : Type} {l : List α} {k : Nat} (d : α) (h : k < l.length) : l.take k ++ [l.getD k d] = l.take (k + 1) := by
  rw [List.take_succ_eq_append_getElem h]; simp [List.getD_eq_getElem?_getD, h]
theorem Seasons_c (l : List Season) (h1 : l.length ≤ 1000) (h2 : ∀ i, i < l.length → (l.getD i default).speeds.length ≤ 1000000) : CallS Try.prog 48 [slS l] (slS l) := by
  (refine callS_of_awp (fun w args => Try.call48 ..) Try.func48 rfl (fun w0 m0 wz => ?_); simp only [Try.ntmps48, Try.results48, initT, junks, ruleC, seasonC, slS, slX, termsC, spellC, sl, List.toList_toArray, List.cons_append, List.nil_append, List.length_cons, List.length_nil, Nat.reduceAdd, Nat.reduceSub])
  (repeat' (first
    | (refine awp_seqK ?_)
    | (refine kt ?_)
    | (refine And.intro ?_ ?_)
    | ((first | refine awp_region ?_ | refine awp_draw (by kernel_rfl) (by kernel_rfl) ?_ | refine Imp.le2 ?_ | refine awp_label ?_ | refine awp_skip ?_ | refine awp_exit ?_ | refine awp_cd ?_ | refine awp_ret ?_); simp (maxSteps := 4000000) only [go_sem, List.append_eq, List.cons_append, List.nil_append, Nat.reduceAdd, Nat.reduceMul, Nat.reduceSub, Nat.reduceLeDiff, Nat.reduceLT, Int.reduceAdd, Int.reduceToNat, Int.reduceLE, Int.reduceLT, Int.reduceNeg, reduceIte, ruleC, seasonC, slS, slX, termsC, spellC])
    | (intro _h)
    | (refine awp_block ?_)
    | (refine awp_scope ?_)
    | (refine go_split (fun _h => ?_) (fun _h => ?_) <;> simp (maxSteps := 4000000) only [go_sem, List.append_eq, List.cons_append, List.nil_append, Nat.reduceAdd, Nat.reduceMul, Nat.reduceSub, Nat.reduceLeDiff, Nat.reduceLT, Int.reduceAdd, Int.reduceToNat, Int.reduceLE, Int.reduceLT, Int.reduceNeg, reduceIte, ruleC, seasonC, slS, slX, termsC, spellC])
    | (show heapOK _ _ = true; kernel_rfl)
    | (omega)))
  (refine awp_adT 3 32 2 rfl ?_; simp only [adT, lset, hset, List.length_cons, List.length_nil, Nat.reduceAdd])
  refine awp_loopN l.length (fun k => ⟨mkT 20 [(0, slS l), (3, .osl 0 k 0 k), (4, .int .i64 k)], [some (.cells 32 2 k (recs seasonC (l.take k)))], []⟩) (.le2 ?_) ?_
  · simp (maxSteps := 4000000) only [go_sem, List.append_eq, List.cons_append, List.nil_append, Nat.reduceAdd, Nat.reduceMul, Nat.reduceSub, Nat.reduceLeDiff, Nat.reduceLT, Int.reduceAdd, Int.reduceToNat, Int.reduceLE, Int.reduceLT, Int.reduceNeg, reduceIte, ruleC, seasonC, slS, slX, termsC, spellC]
    simp [recs]
  · intro k hk
    have hsn : k < l.length → _ := fun h => take_snoc (l := l) default h
    have hlt : (l.take k).length = k := by simp; omega
    simp (maxSteps := 4000000) only [go_sem, List.append_eq, List.cons_append, List.nil_append, Nat.reduceAdd, Nat.reduceMul, Nat.reduceSub, Nat.reduceLeDiff, Nat.reduceLT, Int.reduceAdd, Int.reduceToNat, Int.reduceLE, Int.reduceLT, Int.reduceNeg, reduceIte, ruleC, seasonC, slS, slX, termsC, spellC]
    (repeat' (first
    | (refine awp_seqK ?_)
    | (refine kt ?_)
    | (refine And.intro ?_ ?_)
    | ((first | refine awp_region ?_ | refine awp_draw (by kernel_rfl) (by kernel_rfl) ?_ | refine Imp.le2 ?_ | refine awp_label ?_ | refine awp_skip ?_ | refine awp_exit ?_ | refine awp_cd ?_ | refine awp_ret ?_); simp (maxSteps := 4000000) only [go_sem, List.append_eq, List.cons_append, List.nil_append, Nat.reduceAdd, Nat.reduceMul, Nat.reduceSub, Nat.reduceLeDiff, Nat.reduceLT, Int.reduceAdd, Int.reduceToNat, Int.reduceLE, Int.reduceLT, Int.reduceNeg, reduceIte, ruleC, seasonC, slS, slX, termsC, spellC])
    | (intro _h)
    | (refine awp_block ?_)
    | (refine awp_scope ?_)
    | ((first | refine callK_of (Season_c (l.getD k default) (h2 k (by omega))) ?_); try simp (maxSteps := 4000000) only [go_sem, List.append_eq, List.cons_append, List.nil_append, Nat.reduceAdd, Nat.reduceMul, Nat.reduceSub, Nat.reduceLeDiff, Nat.reduceLT, Int.reduceAdd, Int.reduceToNat, Int.reduceLE, Int.reduceLT, Int.reduceNeg, reduceIte, ruleC, seasonC, slS, slX, termsC, spellC])
    | (refine go_split (fun _h => ?_) (fun _h => ?_) <;> simp (maxSteps := 4000000) only [go_sem, List.append_eq, List.cons_append, List.nil_append, Nat.reduceAdd, Nat.reduceMul, Nat.reduceSub, Nat.reduceLeDiff, Nat.reduceLT, Int.reduceAdd, Int.reduceToNat, Int.reduceLE, Int.reduceLT, Int.reduceNeg, reduceIte, ruleC, seasonC, slS, slX, termsC, spellC])
    | (show heapOK _ _ = true; kernel_rfl)
    | (omega)))
    all_goals (try (have hsn := hsn (by omega)))
    all_goals (first
      | omega
      | (rw [← hsn]; exact snoc_S)
      | (have : k = l.length := by omega
         subst this; simp; done)
      | trace "LEFT")
def shortB (l : List Season) : Bool := decide (l.length ≤ 12) && l.all (fun s => decide (s.speeds.length ≤ 65))
theorem short_c (l : List Season) (hl : okS l) : CallS Try.prog 46 [slS l] (.bool (shortB l)) := by
  obtain ⟨hl1, hl2⟩ := hl
  have bad : ∀ i, i < l.length → 65 < (l.getD i default).speeds.length → shortB l = false := by
    intro i hi h
    unfold shortB
    have : (l.all fun s => decide (s.speeds.length ≤ 65)) = false := by
      rw [List.all_eq_false]
      refine ⟨l[i], List.getElem_mem hi, ?_⟩
      rw [show l.getD i default = l[i] by simp [List.getD_eq_getElem?_getD, hi]] at h
      simp; omega
    rw [this, Bool.and_false]
  have good : l.length ≤ 12 → (∀ j, j < l.length → (l.getD j default).speeds.length ≤ 65) → shortB l = true := by
    intro h h'
    unfold shortB
    rw [Bool.and_eq_true, decide_eq_true_eq, List.all_eq_true]
    refine ⟨h, fun s hs => ?_⟩
    obtain ⟨j, hj, rfl⟩ := List.mem_iff_getElem.1 hs
    have := h' j hj
    rw [show l.getD j default = l[j] by simp [List.getD_eq_getElem?_getD, hj]] at this
    simpa using this
  have long : ¬ l.length ≤ 12 → shortB l = false := by
    intro h; unfold shortB; rw [decide_eq_false h, Bool.false_and]
  (refine callS_of_awp (fun w args => Try.call46 ..) Try.func46 rfl (fun w0 m0 wz => ?_); simp only [Try.ntmps46, Try.results46, initT, junks, ruleC, seasonC, slS, slX, termsC, spellC, sl, List.toList_toArray, List.cons_append, List.nil_append, List.length_cons, List.length_nil, Nat.reduceAdd, Nat.reduceSub])
  (repeat' (first
    | (refine awp_seqK ?_)
    | (refine kt ?_)
    | (refine And.intro ?_ ?_)
    | ((first | refine awp_region ?_ | refine awp_draw (by kernel_rfl) (by kernel_rfl) ?_ | refine Imp.le2 ?_ | refine awp_label ?_ | refine awp_skip ?_ | refine awp_exit ?_ | refine awp_cd ?_ | refine awp_ret ?_); simp (maxSteps := 4000000) only [go_sem, List.append_eq, List.cons_append, List.nil_append, Nat.reduceAdd, Nat.reduceMul, Nat.reduceSub, Nat.reduceLeDiff, Nat.reduceLT, Int.reduceAdd, Int.reduceToNat, Int.reduceLE, Int.reduceLT, Int.reduceNeg, reduceIte, ruleC, seasonC, slS, slX, termsC, spellC])
    | (intro _h)
    | (refine awp_block ?_)
    | (refine awp_scope ?_)
    | (refine go_split (fun _h => ?_) (fun _h => ?_) <;> simp (maxSteps := 4000000) only [go_sem, List.append_eq, List.cons_append, List.nil_append, Nat.reduceAdd, Nat.reduceMul, Nat.reduceSub, Nat.reduceLeDiff, Nat.reduceLT, Int.reduceAdd, Int.reduceToNat, Int.reduceLE, Int.reduceLT, Int.reduceNeg, reduceIte, ruleC, seasonC, slS, slX, termsC, spellC])
    | (show heapOK _ _ = true; kernel_rfl)
    | (omega)))
  refine awp_loopJ (fun i : Nat => i ≤ l.length ∧ i ≤ 13 ∧ ∀ j, j < i → (l.getD j default).speeds.length ≤ 65) (fun i => ⟨mkT 24 [(0, slS l), (3, .int .i64 i)], [], []⟩) (fun i => l.length - i) 0 ⟨Nat.zero_le _, Nat.zero_le _, by simp⟩ (.le2 ?_) ?_
  · simp (maxSteps := 4000000) only [go_sem, List.append_eq, List.cons_append, List.nil_append, Nat.reduceAdd, Nat.reduceMul, Nat.reduceSub, Nat.reduceLeDiff, Nat.reduceLT, Int.reduceAdd, Int.reduceToNat, Int.reduceLE, Int.reduceLT, Int.reduceNeg, reduceIte, ruleC, seasonC, slS, slX, termsC, spellC]
  · rintro i ⟨hi, hi13, hj⟩
    simp (maxSteps := 4000000) only [go_sem, List.append_eq, List.cons_append, List.nil_append, Nat.reduceAdd, Nat.reduceMul, Nat.reduceSub, Nat.reduceLeDiff, Nat.reduceLT, Int.reduceAdd, Int.reduceToNat, Int.reduceLE, Int.reduceLT, Int.reduceNeg, reduceIte, ruleC, seasonC, slS, slX, termsC, spellC]
    (repeat' (first
    | (refine awp_seqK ?_)
    | (refine kt ?_)
    | (refine And.intro ?_ ?_)
    | ((first | refine awp_region ?_ | refine awp_draw (by kernel_rfl) (by kernel_rfl) ?_ | refine Imp.le2 ?_ | refine awp_label ?_ | refine awp_skip ?_ | refine awp_exit ?_ | refine awp_cd ?_ | refine awp_ret ?_); simp (maxSteps := 4000000) only [go_sem, List.append_eq, List.cons_append, List.nil_append, Nat.reduceAdd, Nat.reduceMul, Nat.reduceSub, Nat.reduceLeDiff, Nat.reduceLT, Int.reduceAdd, Int.reduceToNat, Int.reduceLE, Int.reduceLT, Int.reduceNeg, reduceIte, ruleC, seasonC, slS, slX, termsC, spellC])
    | (intro _h)
    | (refine awp_block ?_)
    | (refine awp_scope ?_)
    | (refine go_split (fun _h => ?_) (fun _h => ?_) <;> simp (maxSteps := 4000000) only [go_sem, List.append_eq, List.cons_append, List.nil_append, Nat.reduceAdd, Nat.reduceMul, Nat.reduceSub, Nat.reduceLeDiff, Nat.reduceLT, Int.reduceAdd, Int.reduceToNat, Int.reduceLE, Int.reduceLT, Int.reduceNeg, reduceIte, ruleC, seasonC, slS, slX, termsC, spellC])
    | (show heapOK _ _ = true; kernel_rfl)
    | (omega)))
    all_goals (first
      | omega
      | exact bad i (by omega) (by omega)
      | exact long (by omega)
      | exact good (by omega) (fun j h => hj j (by omega))
      | (refine ⟨i + 1, ⟨by omega, by omega, fun j hji => ?_⟩, by omega, .le2 ?_⟩
         · rcases Nat.lt_succ_iff_lt_or_eq.1 hji with h | rfl
           · exact hj j h
           · omega
         · simp (maxSteps := 4000000) only [go_sem, List.append_eq, List.cons_append, List.nil_append, Nat.reduceAdd, Nat.reduceMul, Nat.reduceSub, Nat.reduceLeDiff, Nat.reduceLT, Int.reduceAdd, Int.reduceToNat, Int.reduceLE, Int.reduceLT, Int.reduceNeg, reduceIte, ruleC, seasonC, slS, slX, termsC, spellC]
           omega)
      | trace "LEFT")
def anyTo {α : Type} (q : α → Bool) (l : List α) (k : Nat) : Bool := (l.take k).any q
theorem anyTo_zero {α : Type} {q : α → Bool} {l : List α} : anyTo q l 0 = false := by simp [anyTo]
theorem anyTo_succ {α : Type} {q : α → Bool} {l : List α} {k : Nat} (d : α) (h : k < l.length) : anyTo q l (k + 1) = (anyTo q l k || q (l.getD k d)) := by
  unfold anyTo
  rw [List.take_succ_eq_append_getElem h, List.any_append]
  simp [List.getD_eq_getElem?_getD, h]
theorem anyTo_all {α : Type} {q : α → Bool} {l : List α} : anyTo q l l.length = l.any q := by simp [anyTo]
end Go.Am

/- Contracts of the alarm functions: the price by the reference. -/
namespace Go.Am
open Go.RowKit Go.Proofs
attribute [local irreducible] AWP CallS Kt goK CallK stepK evOps
set_option maxRecDepth 4000
set_option linter.unusedSimpArgs false
set_option linter.unusedVariables false
set_option maxHeartbeats 1600000

theorem refPrice_c (l : List Season) (t : Terms) (r : Rule) (hl : fitS l) (ht : termsB t = true) (hr : 1 ≤ r.hold ∧ r.hold ≤ 60) : CallS Try.prog 51 [slS l, .agg (termsC t), .agg (ruleC r)] (.tup [.int .i64 (totalP l t r), .bool (totalI l t r)]) := by
  obtain ⟨hl1, hl2⟩ := hl
  unfold totalP totalI
  obtain ⟨tt1, tt2, tt3, tt4, tt5⟩ := termsB_true ht
  (refine callS_of_awp (fun w args => Try.call51 ..) Try.func51 rfl (fun w0 m0 wz => ?_); simp only [Try.ntmps51, Try.results51, initT, junks, ruleC, seasonC, slS, slX, termsC, spellC, sl, List.toList_toArray, List.cons_append, List.nil_append, List.length_cons, List.length_nil, Nat.reduceAdd, Nat.reduceSub])
  (repeat' (first
    | (refine awp_seqK ?_)
    | (refine kt ?_)
    | (refine And.intro ?_ ?_)
    | ((first | refine awp_region ?_ | refine awp_draw (by kernel_rfl) (by kernel_rfl) ?_ | refine Imp.le2 ?_ | refine awp_label ?_ | refine awp_skip ?_ | refine awp_exit ?_ | refine awp_cd ?_ | refine awp_ret ?_); simp (maxSteps := 4000000) only [go_sem, List.append_eq, List.cons_append, List.nil_append, Nat.reduceAdd, Nat.reduceMul, Nat.reduceSub, Nat.reduceLeDiff, Nat.reduceLT, Int.reduceAdd, Int.reduceToNat, Int.reduceLE, Int.reduceLT, Int.reduceNeg, reduceIte, ruleC, seasonC, slS, slX, termsC, spellC])
    | (intro _h)
    | (refine awp_block ?_)
    | (refine awp_scope ?_)
    | (refine go_split (fun _h => ?_) (fun _h => ?_) <;> simp (maxSteps := 4000000) only [go_sem, List.append_eq, List.cons_append, List.nil_append, Nat.reduceAdd, Nat.reduceMul, Nat.reduceSub, Nat.reduceLeDiff, Nat.reduceLT, Int.reduceAdd, Int.reduceToNat, Int.reduceLE, Int.reduceLT, Int.reduceNeg, reduceIte, ruleC, seasonC, slS, slX, termsC, spellC])
    | (show heapOK _ _ = true; kernel_rfl)
    | (omega)))
  refine awp_loopN l.length (fun i => ⟨mkT 86 [(0, slS l), (4, .ptr 0 0 0), (5, .ptr 1 0 0), (8, .int .i64 (sumTo (priceS t r) l i)), (9, .bool (allTo (inTimeS t r) l i)), (10, .int .i64 i)], [some (.cells 90 1 0 (termsC t)), some (.cells 26 1 0 (ruleC r))], []⟩) (.le2 ?_) ?_
  · simp (maxSteps := 4000000) only [go_sem, List.append_eq, List.cons_append, List.nil_append, Nat.reduceAdd, Nat.reduceMul, Nat.reduceSub, Nat.reduceLeDiff, Nat.reduceLT, Int.reduceAdd, Int.reduceToNat, Int.reduceLE, Int.reduceLT, Int.reduceNeg, reduceIte, ruleC, seasonC, slS, slX, termsC, spellC]
    simp [sumTo_zero, allTo_zero]
  · intro i hi
    have hbi := sumTo_bd (f := priceS t r) (l := l) 3660000 default (fun j hj => priceS_bd (hl2 j hj) ht hr.1) i hi
    have hsi : i < l.length → _ := fun h => sumTo_succ (f := priceS t r) (l := l) default h
    have hai : i < l.length → _ := fun h => allTo_succ (q := inTimeS t r) (l := l) default h
    have hle : i < l.length → _ := fun h => hl2 i h
    generalize hS : sumTo (priceS t r) l i = S at *
    simp (maxSteps := 4000000) only [go_sem, List.append_eq, List.cons_append, List.nil_append, Nat.reduceAdd, Nat.reduceMul, Nat.reduceSub, Nat.reduceLeDiff, Nat.reduceLT, Int.reduceAdd, Int.reduceToNat, Int.reduceLE, Int.reduceLT, Int.reduceNeg, reduceIte, ruleC, seasonC, slS, slX, termsC, spellC]
    (repeat' (first
    | (refine awp_seqK ?_)
    | (refine kt ?_)
    | (refine And.intro ?_ ?_)
    | ((first | refine awp_region ?_ | refine awp_draw (by kernel_rfl) (by kernel_rfl) ?_ | refine Imp.le2 ?_ | refine awp_label ?_ | refine awp_skip ?_ | refine awp_exit ?_ | refine awp_cd ?_ | refine awp_ret ?_); simp (maxSteps := 4000000) only [go_sem, List.append_eq, List.cons_append, List.nil_append, Nat.reduceAdd, Nat.reduceMul, Nat.reduceSub, Nat.reduceLeDiff, Nat.reduceLT, Int.reduceAdd, Int.reduceToNat, Int.reduceLE, Int.reduceLT, Int.reduceNeg, reduceIte, ruleC, seasonC, slS, slX, termsC, spellC])
    | (intro _h)
    | (refine awp_block ?_)
    | (refine awp_scope ?_)
    | ((first | refine callK_of (refSpells_c (l.getD i default) r (by have := hl2 i (by omega); omega) hr) ?_); try simp (maxSteps := 4000000) only [go_sem, List.append_eq, List.cons_append, List.nil_append, Nat.reduceAdd, Nat.reduceMul, Nat.reduceSub, Nat.reduceLeDiff, Nat.reduceLT, Int.reduceAdd, Int.reduceToNat, Int.reduceLE, Int.reduceLT, Int.reduceNeg, reduceIte, ruleC, seasonC, slS, slX, termsC, spellC])
    | (refine go_split (fun _h => ?_) (fun _h => ?_) <;> simp (maxSteps := 4000000) only [go_sem, List.append_eq, List.cons_append, List.nil_append, Nat.reduceAdd, Nat.reduceMul, Nat.reduceSub, Nat.reduceLeDiff, Nat.reduceLT, Int.reduceAdd, Int.reduceToNat, Int.reduceLE, Int.reduceLT, Int.reduceNeg, reduceIte, ruleC, seasonC, slS, slX, termsC, spellC])
    | (show heapOK _ _ = true; kernel_rfl)
    | (omega)))
    · have hle := hle (by omega)
      have hsi := hsi (by omega)
      have hai := hai (by omega)
      generalize l.getD i default = s at *
      obtain ⟨sp, fl⟩ := s
      simp only at hle
      have hch := spells_chain (sp := sp) hr.1
      have hle2 := spells_le (sp := sp) (r := r)
      simp only [priceS, inTimeS] at hsi hai
      simp only
      generalize spells sp r = xs at *
      refine awp_loopN xs.length (fun k => ⟨mkT 86 [(0, slS l), (4, .ptr 0 0 0), (5, .ptr 1 0 0), (8, .int .i64 (S + sumTo (spellCost t ⟨sp, fl⟩) xs k)), (9, .bool (allTo (inTimeS t r) l i)), (10, .int .i64 i), (11, .ptr 2 0 0), (12, slX xs), (13, .bool (fl && anyTo (savedB t ⟨sp, fl⟩) xs k)), (14, .int .i64 k)], [some (.cells 90 1 0 (termsC t)), some (.cells 26 1 0 (ruleC r)), some (.cells 24 1 0 (seasonC ⟨sp, fl⟩))], []⟩) (.le2 ?_) ?_
      · simp (maxSteps := 4000000) only [go_sem, List.append_eq, List.cons_append, List.nil_append, Nat.reduceAdd, Nat.reduceMul, Nat.reduceSub, Nat.reduceLeDiff, Nat.reduceLT, Int.reduceAdd, Int.reduceToNat, Int.reduceLE, Int.reduceLT, Int.reduceNeg, reduceIte, ruleC, seasonC, slS, slX, termsC, spellC]
        simp [sumTo_zero, anyTo_zero]
      · intro k hk
        have hbd := sumTo_bd (f := spellCost t ⟨sp, fl⟩) (l := xs) 61000 (0, 0) (fun j hj => (cost_bd ht (hch.at j hj).2.1 (hch.at j hj).2.2 hle).2.2) k hk
        have hat := hch.at k
        have hcb : k < xs.length → _ := fun h => cost_bd (s := ⟨sp, fl⟩) ht (hat h).2.1 (hat h).2.2 hle
        have hsu : k < xs.length → _ := fun h => sumTo_succ (f := spellCost t ⟨sp, fl⟩) (l := xs) (0, 0) h
        have hau : k < xs.length → _ := fun h => anyTo_succ (q := savedB t ⟨sp, fl⟩) (l := xs) (0, 0) h
        simp (maxSteps := 4000000) only [go_sem, List.append_eq, List.cons_append, List.nil_append, Nat.reduceAdd, Nat.reduceMul, Nat.reduceSub, Nat.reduceLeDiff, Nat.reduceLT, Int.reduceAdd, Int.reduceToNat, Int.reduceLE, Int.reduceLT, Int.reduceNeg, reduceIte, ruleC, seasonC, slS, slX, termsC, spellC]
        (repeat' (first
    | (refine awp_seqK ?_)
    | (refine kt ?_)
    | (refine And.intro ?_ ?_)
    | ((first | refine awp_region ?_ | refine awp_draw (by kernel_rfl) (by kernel_rfl) ?_ | refine Imp.le2 ?_ | refine awp_label ?_ | refine awp_skip ?_ | refine awp_exit ?_ | refine awp_cd ?_ | refine awp_ret ?_); simp (maxSteps := 4000000) only [go_sem, List.append_eq, List.cons_append, List.nil_append, Nat.reduceAdd, Nat.reduceMul, Nat.reduceSub, Nat.reduceLeDiff, Nat.reduceLT, Int.reduceAdd, Int.reduceToNat, Int.reduceLE, Int.reduceLT, Int.reduceNeg, reduceIte, ruleC, seasonC, slS, slX, termsC, spellC])
    | (intro _h)
    | (refine awp_block ?_)
    | (refine awp_scope ?_)
    | (refine go_split (fun _h => ?_) (fun _h => ?_) <;> simp (maxSteps := 4000000) only [go_sem, List.append_eq, List.cons_append, List.nil_append, Nat.reduceAdd, Nat.reduceMul, Nat.reduceSub, Nat.reduceLeDiff, Nat.reduceLT, Int.reduceAdd, Int.reduceToNat, Int.reduceLE, Int.reduceLT, Int.reduceNeg, reduceIte, ruleC, seasonC, slS, slX, termsC, spellC])
    | (show heapOK _ _ = true; kernel_rfl)
    | (omega)))
        all_goals (try (have hcb := hcb (by omega)); try (have hat := hat (by omega)); try (have hsu := hsu (by omega)); try (have hau := hau (by omega)))
        all_goals (try simp only at hcb hat)
        all_goals (first
          | omega
          | (rw [hsu]; cases fl <;> first
              | contradiction
              | (rw [spellCost_pos (s := ⟨sp, _⟩) ⟨rfl, by simp only; omega⟩]; omega)
              | (rw [spellCost_neg (s := ⟨sp, _⟩) (by rintro ⟨h1, h2⟩; first | (cases h1; done) | (simp only at h2; omega))]; omega))
          | (rw [hau]; cases fl <;> first
              | contradiction
              | rfl
              | (rw [show savedB t ⟨sp, true⟩ (xs.getD k (0, 0)) = true from decide_eq_true ⟨by simp only; omega, by omega⟩]; simp; done)
              | (rw [show savedB t ⟨sp, true⟩ (xs.getD k (0, 0)) = false from decide_eq_false (by simp only; omega)]; simp; done))
          | (have : k = xs.length := by omega
             subst this; first | (rw [hsi]; done) | (rw [hai, ← anyTo_all (q := savedB t ⟨sp, fl⟩) (l := xs)]; simp_all; done))
          | trace "LEFT")
    all_goals (first
      | omega
      | (have : i = l.length := by omega
         subst this; first | (rw [hS]; done) | (rw [← hS]; done) | rfl | (rw [← allTo_all]; assumption) | (rw [← allTo_all]; done))
      | trace "LEFT")
end Go.Am

/- Contracts of the alarm functions: the best rule. -/
namespace Go.Am
open Go.RowKit Go.Proofs
attribute [local irreducible] AWP CallS Kt goK CallK stepK evOps
set_option maxRecDepth 4000
set_option linter.unusedSimpArgs false
set_option linter.unusedVariables false
set_option maxHeartbeats 1600000

def bRule (t : Terms) : Option (Nat × Int) → Rule
  | none => ⟨0, 0, 0⟩
  | some p => ruleAt t p.1
def bPrice : Option (Nat × Int) → Int
  | none => 0
  | some p => p.2
def updB (lt : Int → Int → Bool) (k : Nat) (i : Bool) (n : Int) (b : Option (Nat × Int)) : Option (Nat × Int) :=
  if i = true then (match b with | none => some (k, n) | some p => if lt n p.2 = true then some (k, n) else some p) else b
theorem up_succ {l : List Season} {t : Terms} {k : Nat} : bestUp (tryAt l t) (k + 1) = updB (fun a b => decide (a ≤ b)) k (totalI l t (ruleAt t k)) (totalP l t (ruleAt t k)) (bestUp (tryAt l t) k) := by
  simp only [bestUp, tryAt, updB]
  cases totalI l t (ruleAt t k) <;> simp <;> rfl
theorem dn_succ {l : List Season} {t : Terms} {N k : Nat} : bestDn (tryAt l t) N (k + 1) = updB (fun a b => decide (a < b)) (N - 1 - k) (totalI l t (ruleAt t (N - 1 - k))) (totalP l t (ruleAt t (N - 1 - k))) (bestDn (tryAt l t) N k) := by
  simp only [bestDn, tryAt, updB]
  cases totalI l t (ruleAt t (N - 1 - k)) <;> simp <;> rfl

theorem bestA_c (l : List Season) (t : Terms) (hl : okS l) (hp : pricedE l t = 0) : CallS Try.prog 52 [slS l, .agg (termsC t)]
    (.tup [.agg (ruleC (bRule t (bestUp (tryAt l t) 1001))), .int .i64 (bPrice (bestUp (tryAt l t) 1001)), .int .i64 (if (bestUp (tryAt l t) 1001).isSome = true then 0 else 11)]) := by
  have h1 := priced_c l t hl
  rw [hp] at h1
  simp only [slS, termsC] at h1
  obtain ⟨hf, h0, ht⟩ := pricedE_zero hp
  obtain ⟨tt1, tt2, tt3, tt4, tt5⟩ := termsB_true ht
  (refine callS_of_awp (fun w args => Try.call52 ..) Try.func52 rfl (fun w0 m0 wz => ?_); simp only [Try.ntmps52, Try.results52, initT, junks, ruleC, seasonC, slS, slX, termsC, spellC, sl, List.toList_toArray, List.cons_append, List.nil_append, List.length_cons, List.length_nil, Nat.reduceAdd, Nat.reduceSub])
  (repeat' (first
    | (refine awp_seqK ?_)
    | (refine kt ?_)
    | (refine And.intro ?_ ?_)
    | ((first | refine awp_region ?_ | refine awp_draw (by kernel_rfl) (by kernel_rfl) ?_ | refine Imp.le2 ?_ | refine awp_label ?_ | refine awp_skip ?_ | refine awp_exit ?_ | refine awp_cd ?_ | refine awp_ret ?_); simp (maxSteps := 4000000) only [go_sem, List.append_eq, List.cons_append, List.nil_append, Nat.reduceAdd, Nat.reduceMul, Nat.reduceSub, Nat.reduceLeDiff, Nat.reduceLT, Int.reduceAdd, Int.reduceToNat, Int.reduceLE, Int.reduceLT, Int.reduceNeg, reduceIte, ruleC, seasonC, slS, slX, termsC, spellC])
    | (intro _h)
    | (refine awp_block ?_)
    | (refine awp_scope ?_)
    | ((first | refine callK_of (h1) ?_); try simp (maxSteps := 4000000) only [go_sem, List.append_eq, List.cons_append, List.nil_append, Nat.reduceAdd, Nat.reduceMul, Nat.reduceSub, Nat.reduceLeDiff, Nat.reduceLT, Int.reduceAdd, Int.reduceToNat, Int.reduceLE, Int.reduceLT, Int.reduceNeg, reduceIte, ruleC, seasonC, slS, slX, termsC, spellC])
    | (refine go_split (fun _h => ?_) (fun _h => ?_) <;> simp (maxSteps := 4000000) only [go_sem, List.append_eq, List.cons_append, List.nil_append, Nat.reduceAdd, Nat.reduceMul, Nat.reduceSub, Nat.reduceLeDiff, Nat.reduceLT, Int.reduceAdd, Int.reduceToNat, Int.reduceLE, Int.reduceLT, Int.reduceNeg, reduceIte, ruleC, seasonC, slS, slX, termsC, spellC])
    | (show heapOK _ _ = true; kernel_rfl)
    | (omega)))
  refine awp_loopN 1001 (fun k => ⟨mkT 58 [(0, slS l), (3, .ptr 0 0 0), (4, .ptr 1 0 0), (5, .int .i64 (bPrice (bestUp (tryAt l t) k))), (8, .bool (bestUp (tryAt l t) k).isSome), (20, .int .i64 k)], [some (.cells 96 1 0 (termsC t)), some (.cells 34 1 0 (ruleC (bRule t (bestUp (tryAt l t) k))))], []⟩) (.le2 ?_) ?_
  · simp (maxSteps := 4000000) only [go_sem, List.append_eq, List.cons_append, List.nil_append, Nat.reduceAdd, Nat.reduceMul, Nat.reduceSub, Nat.reduceLeDiff, Nat.reduceLT, Int.reduceAdd, Int.reduceToNat, Int.reduceLE, Int.reduceLT, Int.reduceNeg, reduceIte, ruleC, seasonC, slS, slX, termsC, spellC]
    simp [bestUp, bPrice, bRule]
  · intro k hk
    have hs := up_succ (l := l) (t := t) (k := k)
    rcases Nat.lt_or_eq_of_le hk with hk | rfl
    · rw [hs]
      generalize bestUp (tryAt l t) k = b at *
      simp (maxSteps := 4000000) only [go_sem, List.append_eq, List.cons_append, List.nil_append, Nat.reduceAdd, Nat.reduceMul, Nat.reduceSub, Nat.reduceLeDiff, Nat.reduceLT, Int.reduceAdd, Int.reduceToNat, Int.reduceLE, Int.reduceLT, Int.reduceNeg, reduceIte, ruleC, seasonC, slS, slX, termsC, spellC]
      (repeat' (first
    | (refine awp_seqK ?_)
    | (refine kt ?_)
    | (refine And.intro ?_ ?_)
    | ((first | refine awp_region ?_ | refine awp_draw (by kernel_rfl) (by kernel_rfl) ?_ | refine Imp.le2 ?_ | refine awp_label ?_ | refine awp_skip ?_ | refine awp_exit ?_ | refine awp_cd ?_ | refine awp_ret ?_); simp (maxSteps := 4000000) only [go_sem, List.append_eq, List.cons_append, List.nil_append, Nat.reduceAdd, Nat.reduceMul, Nat.reduceSub, Nat.reduceLeDiff, Nat.reduceLT, Int.reduceAdd, Int.reduceToNat, Int.reduceLE, Int.reduceLT, Int.reduceNeg, reduceIte, ruleC, seasonC, slS, slX, termsC, spellC])
    | (intro _h)
    | (refine awp_block ?_)
    | (refine awp_scope ?_)
    | ((first | refine callK_of (total_c l t (ruleAt t k) (fitS_of hf) ht tt5) ?_ | refine callK_of (greatest_c _ _ _) ?_); try simp (maxSteps := 4000000) only [go_sem, List.append_eq, List.cons_append, List.nil_append, Nat.reduceAdd, Nat.reduceMul, Nat.reduceSub, Nat.reduceLeDiff, Nat.reduceLT, Int.reduceAdd, Int.reduceToNat, Int.reduceLE, Int.reduceLT, Int.reduceNeg, reduceIte, ruleC, seasonC, slS, slX, termsC, spellC])
    | (refine go_split (fun _h => ?_) (fun _h => ?_) <;> simp (maxSteps := 4000000) only [go_sem, List.append_eq, List.cons_append, List.nil_append, Nat.reduceAdd, Nat.reduceMul, Nat.reduceSub, Nat.reduceLeDiff, Nat.reduceLT, Int.reduceAdd, Int.reduceToNat, Int.reduceLE, Int.reduceLT, Int.reduceNeg, reduceIte, ruleC, seasonC, slS, slX, termsC, spellC])
    | (show heapOK _ _ = true; kernel_rfl)
    | (omega)))
      all_goals (first
        | omega
        | (cases b <;> simp_all [updB, bPrice, bRule, ruleAt]; done)
        | (cases b with
           | none => simp_all
           | some p => simp only [bPrice] at *; simp [updB, bPrice, bRule, *]; done)
        | trace "LEFT")
    · clear hs
      generalize bestUp (tryAt l t) 1001 = b at *
      cases b
      · simp (maxSteps := 4000000) only [go_sem, List.append_eq, List.cons_append, List.nil_append, Nat.reduceAdd, Nat.reduceMul, Nat.reduceSub, Nat.reduceLeDiff, Nat.reduceLT, Int.reduceAdd, Int.reduceToNat, Int.reduceLE, Int.reduceLT, Int.reduceNeg, reduceIte, ruleC, seasonC, slS, slX, termsC, spellC, bRule, bPrice, Option.isSome]
        (repeat' (first
    | (refine awp_seqK ?_)
    | (refine kt ?_)
    | (refine And.intro ?_ ?_)
    | ((first | refine awp_region ?_ | refine awp_draw (by kernel_rfl) (by kernel_rfl) ?_ | refine Imp.le2 ?_ | refine awp_label ?_ | refine awp_skip ?_ | refine awp_exit ?_ | refine awp_cd ?_ | refine awp_ret ?_); simp (maxSteps := 4000000) only [go_sem, List.append_eq, List.cons_append, List.nil_append, Nat.reduceAdd, Nat.reduceMul, Nat.reduceSub, Nat.reduceLeDiff, Nat.reduceLT, Int.reduceAdd, Int.reduceToNat, Int.reduceLE, Int.reduceLT, Int.reduceNeg, reduceIte, ruleC, seasonC, slS, slX, termsC, spellC])
    | (intro _h)
    | (refine awp_block ?_)
    | (refine awp_scope ?_)
    | (refine go_split (fun _h => ?_) (fun _h => ?_) <;> simp (maxSteps := 4000000) only [go_sem, List.append_eq, List.cons_append, List.nil_append, Nat.reduceAdd, Nat.reduceMul, Nat.reduceSub, Nat.reduceLeDiff, Nat.reduceLT, Int.reduceAdd, Int.reduceToNat, Int.reduceLE, Int.reduceLT, Int.reduceNeg, reduceIte, ruleC, seasonC, slS, slX, termsC, spellC])
    | (show heapOK _ _ = true; kernel_rfl)
    | (omega)))
        all_goals (first | (simp [avSub, subL]; done) | (cases _h; done))
      · simp (maxSteps := 4000000) only [go_sem, List.append_eq, List.cons_append, List.nil_append, Nat.reduceAdd, Nat.reduceMul, Nat.reduceSub, Nat.reduceLeDiff, Nat.reduceLT, Int.reduceAdd, Int.reduceToNat, Int.reduceLE, Int.reduceLT, Int.reduceNeg, reduceIte, ruleC, seasonC, slS, slX, termsC, spellC, bRule, bPrice, Option.isSome]
        (repeat' (first
    | (refine awp_seqK ?_)
    | (refine kt ?_)
    | (refine And.intro ?_ ?_)
    | ((first | refine awp_region ?_ | refine awp_draw (by kernel_rfl) (by kernel_rfl) ?_ | refine Imp.le2 ?_ | refine awp_label ?_ | refine awp_skip ?_ | refine awp_exit ?_ | refine awp_cd ?_ | refine awp_ret ?_); simp (maxSteps := 4000000) only [go_sem, List.append_eq, List.cons_append, List.nil_append, Nat.reduceAdd, Nat.reduceMul, Nat.reduceSub, Nat.reduceLeDiff, Nat.reduceLT, Int.reduceAdd, Int.reduceToNat, Int.reduceLE, Int.reduceLT, Int.reduceNeg, reduceIte, ruleC, seasonC, slS, slX, termsC, spellC])
    | (intro _h)
    | (refine awp_block ?_)
    | (refine awp_scope ?_)
    | (refine go_split (fun _h => ?_) (fun _h => ?_) <;> simp (maxSteps := 4000000) only [go_sem, List.append_eq, List.cons_append, List.nil_append, Nat.reduceAdd, Nat.reduceMul, Nat.reduceSub, Nat.reduceLeDiff, Nat.reduceLT, Int.reduceAdd, Int.reduceToNat, Int.reduceLE, Int.reduceLT, Int.reduceNeg, reduceIte, ruleC, seasonC, slS, slX, termsC, spellC])
    | (show heapOK _ _ = true; kernel_rfl)
    | (omega)))
        all_goals (first | (simp [avSub, subL]; done) | (cases _h; done))
theorem bestB_c (l : List Season) (t : Terms) (hl : okS l) (hp : ¬ pricedE l t = 0) : CallS Try.prog 52 [slS l, .agg (termsC t)]
    (.tup [.agg (ruleC ⟨0, 0, 0⟩), .int .i64 0, .int .i64 (pricedE l t)]) := by
  have h1 := priced_c l t hl
  simp only [slS, termsC] at h1
  (refine callS_of_awp (fun w args => Try.call52 ..) Try.func52 rfl (fun w0 m0 wz => ?_); simp only [Try.ntmps52, Try.results52, initT, junks, ruleC, seasonC, slS, slX, termsC, spellC, sl, List.toList_toArray, List.cons_append, List.nil_append, List.length_cons, List.length_nil, Nat.reduceAdd, Nat.reduceSub])
  (repeat' (first
    | (refine awp_seqK ?_)
    | (refine kt ?_)
    | (refine And.intro ?_ ?_)
    | ((first | refine awp_region ?_ | refine awp_draw (by kernel_rfl) (by kernel_rfl) ?_ | refine Imp.le2 ?_ | refine awp_label ?_ | refine awp_skip ?_ | refine awp_exit ?_ | refine awp_cd ?_ | refine awp_ret ?_); simp (maxSteps := 4000000) only [go_sem, List.append_eq, List.cons_append, List.nil_append, Nat.reduceAdd, Nat.reduceMul, Nat.reduceSub, Nat.reduceLeDiff, Nat.reduceLT, Int.reduceAdd, Int.reduceToNat, Int.reduceLE, Int.reduceLT, Int.reduceNeg, reduceIte, ruleC, seasonC, slS, slX, termsC, spellC])
    | (intro _h)
    | (refine awp_block ?_)
    | (refine awp_scope ?_)
    | ((first | refine callK_of (h1) ?_); try simp (maxSteps := 4000000) only [go_sem, List.append_eq, List.cons_append, List.nil_append, Nat.reduceAdd, Nat.reduceMul, Nat.reduceSub, Nat.reduceLeDiff, Nat.reduceLT, Int.reduceAdd, Int.reduceToNat, Int.reduceLE, Int.reduceLT, Int.reduceNeg, reduceIte, ruleC, seasonC, slS, slX, termsC, spellC])
    | (refine go_split (fun _h => ?_) (fun _h => ?_) <;> simp (maxSteps := 4000000) only [go_sem, List.append_eq, List.cons_append, List.nil_append, Nat.reduceAdd, Nat.reduceMul, Nat.reduceSub, Nat.reduceLeDiff, Nat.reduceLT, Int.reduceAdd, Int.reduceToNat, Int.reduceLE, Int.reduceLT, Int.reduceNeg, reduceIte, ruleC, seasonC, slS, slX, termsC, spellC])
    | (show heapOK _ _ = true; kernel_rfl)
    | (omega)))
  all_goals (first | (simp [avSub, subL]; done) | (cases _h; done))
theorem refBest_c (l : List Season) (t : Terms) (hf : fitS l) (ht : termsB t = true) : CallS Try.prog 53 [slS l, .agg (termsC t)]
    (.tup [.agg (ruleC (bRule t (bestUp (tryAt l t) 1001))), .int .i64 (bPrice (bestUp (tryAt l t) 1001)), .bool (bestUp (tryAt l t) 1001).isSome]) := by
  obtain ⟨tt1, tt2, tt3, tt4, tt5⟩ := termsB_true ht
  rw [best_same]
  (refine callS_of_awp (fun w args => Try.call53 ..) Try.func53 rfl (fun w0 m0 wz => ?_); simp only [Try.ntmps53, Try.results53, initT, junks, ruleC, seasonC, slS, slX, termsC, spellC, sl, List.toList_toArray, List.cons_append, List.nil_append, List.length_cons, List.length_nil, Nat.reduceAdd, Nat.reduceSub])
  (repeat' (first
    | (refine awp_seqK ?_)
    | (refine kt ?_)
    | (refine And.intro ?_ ?_)
    | ((first | refine awp_region ?_ | refine awp_draw (by kernel_rfl) (by kernel_rfl) ?_ | refine Imp.le2 ?_ | refine awp_label ?_ | refine awp_skip ?_ | refine awp_exit ?_ | refine awp_cd ?_ | refine awp_ret ?_); simp (maxSteps := 4000000) only [go_sem, List.append_eq, List.cons_append, List.nil_append, Nat.reduceAdd, Nat.reduceMul, Nat.reduceSub, Nat.reduceLeDiff, Nat.reduceLT, Int.reduceAdd, Int.reduceToNat, Int.reduceLE, Int.reduceLT, Int.reduceNeg, reduceIte, ruleC, seasonC, slS, slX, termsC, spellC])
    | (intro _h)
    | (refine awp_block ?_)
    | (refine awp_scope ?_)
    | (refine go_split (fun _h => ?_) (fun _h => ?_) <;> simp (maxSteps := 4000000) only [go_sem, List.append_eq, List.cons_append, List.nil_append, Nat.reduceAdd, Nat.reduceMul, Nat.reduceSub, Nat.reduceLeDiff, Nat.reduceLT, Int.reduceAdd, Int.reduceToNat, Int.reduceLE, Int.reduceLT, Int.reduceNeg, reduceIte, ruleC, seasonC, slS, slX, termsC, spellC])
    | (show heapOK _ _ = true; kernel_rfl)
    | (omega)))
  refine awp_loopN 1001 (fun k => ⟨mkT 50 [(0, slS l), (3, .ptr 0 0 0), (4, .ptr 1 0 0), (7, .ptr 2 0 0), (8, .int .i64 (bPrice (bestDn (tryAt l t) 1001 k))), (9, .bool (bestDn (tryAt l t) 1001 k).isSome), (10, .int .i64 (1000 - (k : Int)))], [some (.cells 90 1 0 (termsC t)), some (.cells 26 1 0 [.int .i64 0, .int .i64 0, .int .i64 0]), some (.cells 26 1 0 (ruleC (bRule t (bestDn (tryAt l t) 1001 k))))], []⟩) (.le2 ?_) ?_
  · simp (maxSteps := 4000000) only [go_sem, List.append_eq, List.cons_append, List.nil_append, Nat.reduceAdd, Nat.reduceMul, Nat.reduceSub, Nat.reduceLeDiff, Nat.reduceLT, Int.reduceAdd, Int.reduceToNat, Int.reduceLE, Int.reduceLT, Int.reduceNeg, reduceIte, ruleC, seasonC, slS, slX, termsC, spellC]
    simp [bestDn, bPrice, bRule]
  · intro k hk
    have hs := dn_succ (l := l) (t := t) (N := 1001) (k := k)
    rcases Nat.lt_or_eq_of_le hk with hk | rfl
    · rw [hs]
      have e : (1000 : Int) - k = ((1001 - 1 - k : Nat) : Int) := by omega
      rw [e]
      generalize 1001 - 1 - k = s at *
      generalize bestDn (tryAt l t) 1001 k = b at *
      have es : (1000 : Int) - ((k + 1 : Nat) : Int) = s - 1 := by omega
      rw [es]
      simp (maxSteps := 4000000) only [go_sem, List.append_eq, List.cons_append, List.nil_append, Nat.reduceAdd, Nat.reduceMul, Nat.reduceSub, Nat.reduceLeDiff, Nat.reduceLT, Int.reduceAdd, Int.reduceToNat, Int.reduceLE, Int.reduceLT, Int.reduceNeg, reduceIte, ruleC, seasonC, slS, slX, termsC, spellC]
      (repeat' (first
    | (refine awp_seqK ?_)
    | (refine kt ?_)
    | (refine And.intro ?_ ?_)
    | ((first | refine awp_region ?_ | refine awp_draw (by kernel_rfl) (by kernel_rfl) ?_ | refine Imp.le2 ?_ | refine awp_label ?_ | refine awp_skip ?_ | refine awp_exit ?_ | refine awp_cd ?_ | refine awp_ret ?_); simp (maxSteps := 4000000) only [go_sem, List.append_eq, List.cons_append, List.nil_append, Nat.reduceAdd, Nat.reduceMul, Nat.reduceSub, Nat.reduceLeDiff, Nat.reduceLT, Int.reduceAdd, Int.reduceToNat, Int.reduceLE, Int.reduceLT, Int.reduceNeg, reduceIte, ruleC, seasonC, slS, slX, termsC, spellC])
    | (intro _h)
    | (refine awp_block ?_)
    | (refine awp_scope ?_)
    | ((first | refine callK_of (refPrice_c l t (ruleAt t s) hf ht tt5) ?_ | refine callK_of (greatest_c _ _ _) ?_); try simp (maxSteps := 4000000) only [go_sem, List.append_eq, List.cons_append, List.nil_append, Nat.reduceAdd, Nat.reduceMul, Nat.reduceSub, Nat.reduceLeDiff, Nat.reduceLT, Int.reduceAdd, Int.reduceToNat, Int.reduceLE, Int.reduceLT, Int.reduceNeg, reduceIte, ruleC, seasonC, slS, slX, termsC, spellC])
    | (refine go_split (fun _h => ?_) (fun _h => ?_) <;> simp (maxSteps := 4000000) only [go_sem, List.append_eq, List.cons_append, List.nil_append, Nat.reduceAdd, Nat.reduceMul, Nat.reduceSub, Nat.reduceLeDiff, Nat.reduceLT, Int.reduceAdd, Int.reduceToNat, Int.reduceLE, Int.reduceLT, Int.reduceNeg, reduceIte, ruleC, seasonC, slS, slX, termsC, spellC])
    | (show heapOK _ _ = true; kernel_rfl)
    | (omega)))
      all_goals (first
        | omega
        | (cases b <;> simp_all [updB, bPrice, bRule, ruleAt]; done)
        | (cases b with
           | none => simp_all
           | some p => simp only [bPrice] at *; simp [updB, bPrice, bRule, *]; done)
        | trace "LEFT")
    · clear hs
      generalize bestDn (tryAt l t) 1001 1001 = b at *
      cases b
      · simp (maxSteps := 4000000) only [go_sem, List.append_eq, List.cons_append, List.nil_append, Nat.reduceAdd, Nat.reduceMul, Nat.reduceSub, Nat.reduceLeDiff, Nat.reduceLT, Int.reduceAdd, Int.reduceToNat, Int.reduceLE, Int.reduceLT, Int.reduceNeg, reduceIte, ruleC, seasonC, slS, slX, termsC, spellC, bRule, bPrice, Option.isSome]
        (repeat' (first
    | (refine awp_seqK ?_)
    | (refine kt ?_)
    | (refine And.intro ?_ ?_)
    | ((first | refine awp_region ?_ | refine awp_draw (by kernel_rfl) (by kernel_rfl) ?_ | refine Imp.le2 ?_ | refine awp_label ?_ | refine awp_skip ?_ | refine awp_exit ?_ | refine awp_cd ?_ | refine awp_ret ?_); simp (maxSteps := 4000000) only [go_sem, List.append_eq, List.cons_append, List.nil_append, Nat.reduceAdd, Nat.reduceMul, Nat.reduceSub, Nat.reduceLeDiff, Nat.reduceLT, Int.reduceAdd, Int.reduceToNat, Int.reduceLE, Int.reduceLT, Int.reduceNeg, reduceIte, ruleC, seasonC, slS, slX, termsC, spellC])
    | (intro _h)
    | (refine awp_block ?_)
    | (refine awp_scope ?_)
    | (refine go_split (fun _h => ?_) (fun _h => ?_) <;> simp (maxSteps := 4000000) only [go_sem, List.append_eq, List.cons_append, List.nil_append, Nat.reduceAdd, Nat.reduceMul, Nat.reduceSub, Nat.reduceLeDiff, Nat.reduceLT, Int.reduceAdd, Int.reduceToNat, Int.reduceLE, Int.reduceLT, Int.reduceNeg, reduceIte, ruleC, seasonC, slS, slX, termsC, spellC])
    | (show heapOK _ _ = true; kernel_rfl)
    | (omega)))
        all_goals (first | (simp [avSub, subL]; done) | (cases _h; done))
      · simp (maxSteps := 4000000) only [go_sem, List.append_eq, List.cons_append, List.nil_append, Nat.reduceAdd, Nat.reduceMul, Nat.reduceSub, Nat.reduceLeDiff, Nat.reduceLT, Int.reduceAdd, Int.reduceToNat, Int.reduceLE, Int.reduceLT, Int.reduceNeg, reduceIte, ruleC, seasonC, slS, slX, termsC, spellC, bRule, bPrice, Option.isSome]
        (repeat' (first
    | (refine awp_seqK ?_)
    | (refine kt ?_)
    | (refine And.intro ?_ ?_)
    | ((first | refine awp_region ?_ | refine awp_draw (by kernel_rfl) (by kernel_rfl) ?_ | refine Imp.le2 ?_ | refine awp_label ?_ | refine awp_skip ?_ | refine awp_exit ?_ | refine awp_cd ?_ | refine awp_ret ?_); simp (maxSteps := 4000000) only [go_sem, List.append_eq, List.cons_append, List.nil_append, Nat.reduceAdd, Nat.reduceMul, Nat.reduceSub, Nat.reduceLeDiff, Nat.reduceLT, Int.reduceAdd, Int.reduceToNat, Int.reduceLE, Int.reduceLT, Int.reduceNeg, reduceIte, ruleC, seasonC, slS, slX, termsC, spellC])
    | (intro _h)
    | (refine awp_block ?_)
    | (refine awp_scope ?_)
    | (refine go_split (fun _h => ?_) (fun _h => ?_) <;> simp (maxSteps := 4000000) only [go_sem, List.append_eq, List.cons_append, List.nil_append, Nat.reduceAdd, Nat.reduceMul, Nat.reduceSub, Nat.reduceLeDiff, Nat.reduceLT, Int.reduceAdd, Int.reduceToNat, Int.reduceLE, Int.reduceLT, Int.reduceNeg, reduceIte, ruleC, seasonC, slS, slX, termsC, spellC])
    | (show heapOK _ _ = true; kernel_rfl)
    | (omega)))
        all_goals (first | (simp [avSub, subL]; done) | (cases _h; done))
end Go.Am

/- Contracts of the alarm functions: whether speeds are a truth. -/
namespace Go.Am
open Go.RowKit Go.Proofs
attribute [local irreducible] AWP CallS Kt goK CallK stepK evOps SemF SemY
set_option maxRecDepth 4000
set_option linter.unusedSimpArgs false
set_option linter.unusedVariables false
set_option maxHeartbeats 1600000

/-- One hour of a truth. -/
def okT (p : Post) (reads : List (List Int)) (f : Int) (sp : List Int) (h : Nat) : Prop :=
  ((agreedEnds p.errs (reads.getD h []) f).1 ≤ sp.getD h 0 ∧ sp.getD h 0 ≤ (agreedEnds p.errs (reads.getD h []) f).2) ∧ (h = 0 ∨ (-p.drop ≤ sp.getD h 0 - sp.getD (h - 1) 0 ∧ sp.getD h 0 - sp.getD (h - 1) 0 ≤ p.gain))
instance {p : Post} {reads : List (List Int)} {f : Int} {sp : List Int} {h : Nat} : Decidable (okT p reads f sp h) := by unfold okT; exact inferInstance
theorem okT_iff {p : Post} {reads : List (List Int)} {f : Int} {sp : List Int} {h : Nat} : okT p reads f sp h ↔
  (((agreedEnds p.errs (reads.getD h []) f).1 ≤ sp.getD h 0 ∧ sp.getD h 0 ≤ (agreedEnds p.errs (reads.getD h []) f).2) ∧ (h = 0 ∨ (-p.drop ≤ sp.getD h 0 - sp.getD (h - 1) 0 ∧ sp.getD h 0 - sp.getD (h - 1) 0 ≤ p.gain))) := Iff.rfl
def proveB (p : Post) (reads : List (List Int)) (f : Int) (sp : List Int) : Bool :=
  decide (faultP p reads = 0 ∧ sp.length = reads.length ∧ (-1 ≤ f ∧ f ≤ (p.errs.length : Int) - 1) ∧ ∀ h, h < sp.length → okT p reads f sp h)
theorem agreed_bd {errs row : List Int} {f : Int} : 0 ≤ (agreedEnds errs row f).1 ∧ (agreedEnds errs row f).2 ≤ 1000 := by
  unfold agreedEnds
  split
  · simp
  · exact ⟨agLo_ge _, agHi_le _⟩
theorem okT_bd {p : Post} {reads : List (List Int)} {f : Int} {sp : List Int} {h : Nat} (k : okT p reads f sp h) : 0 ≤ sp.getD h 0 ∧ sp.getD h 0 ≤ 1000 := by
  have := agreed_bd (errs := p.errs) (row := reads.getD h []) (f := f)
  have := k.1
  omega
theorem prove_c (p : Post) (reads : List (List Int)) (f : Int) (sp : List Int) (hb : InB p reads) (hs : sp.length ≤ 9223372036854775807) : CallS Try.prog 38 [.agg (postC p), sll reads, .int .i64 f, sl sp] (.bool (proveB p reads f sp)) := by
  have hch := check_c p reads hb.e hb.n hb.rows
  have hfc := faultP_cases p reads
  have hbe := hb.e
  have hbn := hb.n
  by_cases hf : faultP p reads = 0
  · obtain ⟨hp, hr⟩ := faultP_zero hf
    obtain ⟨hl1, hl2⟩ := hp.len
    have hga := hp.gain
    have hdr := hp.drop
    have hl3 := hr.len
    rw [hf] at hch
    simp only [postC, sl, watchC, sll] at hch
    have hyes : sp.length = reads.length → (-1 ≤ f ∧ f ≤ (p.errs.length : Int) - 1) → (∀ h, h < sp.length → okT p reads f sp h) → true = proveB p reads f sp := fun a b c => (decide_eq_true ⟨hf, a, b, c⟩).symm
    have hno : (sp.length = reads.length → (-1 ≤ f ∧ f ≤ (p.errs.length : Int) - 1) → (∀ h, h < sp.length → okT p reads f sp h) → False) → false = proveB p reads f sp := fun a => (decide_eq_false fun ⟨_, b, c, d⟩ => a b c d).symm
    generalize proveB p reads f sp = r at *
    (refine callS_of_awp (fun w args => Try.call38 ..) Try.func38 rfl (fun w0 m0 wz => ?_); simp only [Try.ntmps38, Try.results38, initT, junks, postC, watchC, sll, sl, List.toList_toArray, List.cons_append, List.nil_append, List.length_cons, List.length_nil, Nat.reduceAdd, Nat.reduceSub])
    (repeat' (first
    | (refine awp_seqK ?_)
    | (refine kt ?_)
    | (refine And.intro ?_ ?_)
    | ((first | refine awp_region ?_ | refine awp_draw (by kernel_rfl) (by kernel_rfl) ?_ | refine Imp.le2 ?_ | refine awp_label ?_ | refine awp_skip ?_ | refine awp_exit ?_ | refine awp_cd ?_ | refine awp_ret ?_); simp (maxSteps := 4000000) only [go_sem, List.append_eq, List.cons_append, List.nil_append, Nat.reduceAdd, Nat.reduceMul, Nat.reduceSub, Nat.reduceLeDiff, Nat.reduceLT, Int.reduceAdd, Int.reduceToNat, Int.reduceLE, Int.reduceLT, Int.reduceNeg, reduceIte, postC, watchC, sll])
    | (intro _h)
    | (refine awp_block ?_)
    | (refine awp_scope ?_)
    | ((first | refine callK_of (hch) ?_ | refine callK_of (within_c _ _ _) ?_); try simp (maxSteps := 4000000) only [go_sem, List.append_eq, List.cons_append, List.nil_append, Nat.reduceAdd, Nat.reduceMul, Nat.reduceSub, Nat.reduceLeDiff, Nat.reduceLT, Int.reduceAdd, Int.reduceToNat, Int.reduceLE, Int.reduceLT, Int.reduceNeg, reduceIte, postC, watchC, sll])
    | (refine go_split (fun _h => ?_) (fun _h => ?_) <;> simp (maxSteps := 4000000) only [go_sem, List.append_eq, List.cons_append, List.nil_append, Nat.reduceAdd, Nat.reduceMul, Nat.reduceSub, Nat.reduceLeDiff, Nat.reduceLT, Int.reduceAdd, Int.reduceToNat, Int.reduceLE, Int.reduceLT, Int.reduceNeg, reduceIte, postC, watchC, sll])
    | (show heapOK _ _ = true; kernel_rfl)
    | (omega)))
    · refine awp_loopJ (fun h : Nat => h ≤ sp.length ∧ ∀ j, j < h → okT p reads f sp j) (fun h => ⟨mkT 74 [(1, sll reads), (2, .int .i64 f), (3, sl sp), (4, .ptr 0 0 0), (32, sl sp), (33, .int .i64 sp.length), (34, .int .i64 h)], [some (.cells 51 1 0 (postC p))], []⟩) (fun h => sp.length - h) 0 ⟨Nat.zero_le _, by simp⟩ (.le2 ?_) ?_
      · simp only [postC]; simp (maxSteps := 4000000) only [go_sem, List.append_eq, List.cons_append, List.nil_append, Nat.reduceAdd, Nat.reduceMul, Nat.reduceSub, Nat.reduceLeDiff, Nat.reduceLT, Int.reduceAdd, Int.reduceToNat, Int.reduceLE, Int.reduceLT, Int.reduceNeg, reduceIte, postC, watchC, sll]
      · rintro h ⟨hh, hj⟩
        have hag := fun k : h < reads.length => agreed_c p (reads.getD h []) f (hr.rows h k).len (by have := (hr.rows h k).len; omega) (hr.rows h k).reads hp.errs
        have hab := agreed_bd (errs := p.errs) (row := reads.getD h []) (f := f)
        have hok := okT_iff (p := p) (reads := reads) (f := f) (sp := sp) (h := h)
        have hpr := fun k : 0 < h => okT_bd (hj (h - 1) (by omega))
        simp only [postC, sl] at hag
        generalize agreedEnds p.errs (reads.getD h []) f = y at *
        obtain ⟨y1, y2⟩ := y
        simp only at hok hab
        simp only [postC]; simp (maxSteps := 4000000) only [go_sem, List.append_eq, List.cons_append, List.nil_append, Nat.reduceAdd, Nat.reduceMul, Nat.reduceSub, Nat.reduceLeDiff, Nat.reduceLT, Int.reduceAdd, Int.reduceToNat, Int.reduceLE, Int.reduceLT, Int.reduceNeg, reduceIte, postC, watchC, sll]
        have e1 : (((h : Int)) - 1).toNat = h - 1 := by omega
        (repeat' (first
    | ((rw [e1]))
    | (refine awp_seqK ?_)
    | (refine kt ?_)
    | (refine And.intro ?_ ?_)
    | ((first | refine awp_region ?_ | refine awp_draw (by kernel_rfl) (by kernel_rfl) ?_ | refine Imp.le2 ?_ | refine awp_label ?_ | refine awp_skip ?_ | refine awp_exit ?_ | refine awp_cd ?_ | refine awp_ret ?_); simp (maxSteps := 4000000) only [go_sem, List.append_eq, List.cons_append, List.nil_append, Nat.reduceAdd, Nat.reduceMul, Nat.reduceSub, Nat.reduceLeDiff, Nat.reduceLT, Int.reduceAdd, Int.reduceToNat, Int.reduceLE, Int.reduceLT, Int.reduceNeg, reduceIte, postC, watchC, sll])
    | (intro _h)
    | (refine awp_block ?_)
    | (refine awp_scope ?_)
    | ((first | refine callK_of (hag (by omega)) ?_ | refine callK_of (within_c _ _ _) ?_); try simp (maxSteps := 4000000) only [go_sem, List.append_eq, List.cons_append, List.nil_append, Nat.reduceAdd, Nat.reduceMul, Nat.reduceSub, Nat.reduceLeDiff, Nat.reduceLT, Int.reduceAdd, Int.reduceToNat, Int.reduceLE, Int.reduceLT, Int.reduceNeg, reduceIte, postC, watchC, sll])
    | (refine go_split (fun _h => ?_) (fun _h => ?_) <;> simp (maxSteps := 4000000) only [go_sem, List.append_eq, List.cons_append, List.nil_append, Nat.reduceAdd, Nat.reduceMul, Nat.reduceSub, Nat.reduceLeDiff, Nat.reduceLT, Int.reduceAdd, Int.reduceToNat, Int.reduceLE, Int.reduceLT, Int.reduceNeg, reduceIte, postC, watchC, sll])
    | (show heapOK _ _ = true; kernel_rfl)
    | (omega)))
        all_goals first
          | (refine ⟨h + 1, ⟨by omega, fun j hji => ?_⟩, by omega, .le2 ?_⟩
             · rcases Nat.lt_succ_iff_lt_or_eq.1 hji with h | rfl
               · exact hj j h
               · exact hok.2 (by omega)
             · simp (maxSteps := 4000000) only [go_sem, List.append_eq, List.cons_append, List.nil_append, Nat.reduceAdd, Nat.reduceMul, Nat.reduceSub, Nat.reduceLeDiff, Nat.reduceLT, Int.reduceAdd, Int.reduceToNat, Int.reduceLE, Int.reduceLT, Int.reduceNeg, reduceIte, postC, watchC, sll] <;> omega)
          | exact (hno (fun a b c => by have := hok.1 (c h (by omega)); omega)).symm
          | exact (hyes (by omega) ‹_› (fun j hjl => hj j (by omega))).symm
          | exact (hyes (by omega) ‹_› (fun j hjl => hj j (by omega)))
    all_goals first
      | exact (hno (fun a b c => by omega)).symm
      | exact (hno (fun a b c => by omega))
  · have : proveB p reads f sp = false := decide_eq_false fun h => hf h.1
    rw [this]
    simp only [postC, sl, watchC, sll] at hch
    generalize faultP p reads = e at *
    (refine callS_of_awp (fun w args => Try.call38 ..) Try.func38 rfl (fun w0 m0 wz => ?_); simp only [Try.ntmps38, Try.results38, initT, junks, postC, watchC, sll, sl, List.toList_toArray, List.cons_append, List.nil_append, List.length_cons, List.length_nil, Nat.reduceAdd, Nat.reduceSub])
    (repeat' (first
    | (refine awp_seqK ?_)
    | (refine kt ?_)
    | (refine And.intro ?_ ?_)
    | ((first | refine awp_region ?_ | refine awp_draw (by kernel_rfl) (by kernel_rfl) ?_ | refine Imp.le2 ?_ | refine awp_label ?_ | refine awp_skip ?_ | refine awp_exit ?_ | refine awp_cd ?_ | refine awp_ret ?_); simp (maxSteps := 4000000) only [go_sem, List.append_eq, List.cons_append, List.nil_append, Nat.reduceAdd, Nat.reduceMul, Nat.reduceSub, Nat.reduceLeDiff, Nat.reduceLT, Int.reduceAdd, Int.reduceToNat, Int.reduceLE, Int.reduceLT, Int.reduceNeg, reduceIte, postC, watchC, sll])
    | (intro _h)
    | (refine awp_block ?_)
    | (refine awp_scope ?_)
    | ((first | refine callK_of (hch) ?_); try simp (maxSteps := 4000000) only [go_sem, List.append_eq, List.cons_append, List.nil_append, Nat.reduceAdd, Nat.reduceMul, Nat.reduceSub, Nat.reduceLeDiff, Nat.reduceLT, Int.reduceAdd, Int.reduceToNat, Int.reduceLE, Int.reduceLT, Int.reduceNeg, reduceIte, postC, watchC, sll])
    | (refine go_split (fun _h => ?_) (fun _h => ?_) <;> simp (maxSteps := 4000000) only [go_sem, List.append_eq, List.cons_append, List.nil_append, Nat.reduceAdd, Nat.reduceMul, Nat.reduceSub, Nat.reduceLeDiff, Nat.reduceLT, Int.reduceAdd, Int.reduceToNat, Int.reduceLE, Int.reduceLT, Int.reduceNeg, reduceIte, postC, watchC, sll])
    | (show heapOK _ _ = true; kernel_rfl)
    | (omega)))
end Go.Am

/- Values read as what they stand for; what is known of Truth and Best, for calls that are run. -/
namespace Go.Am
open Go.RowKit Go.Proofs
set_option linter.unusedSimpArgs false
set_option linter.unusedVariables false

/-! ### Values read as what they stand for -/
def decI : List AV → Option (List Int)
  | [] => some []
  | .int .i64 n :: xs => (decI xs).map (n :: ·)
  | _ => none
theorem decI_ok : ∀ {xs : List AV} {l : List Int}, decI xs = some l → xs = ints l
  | [], l, h => by simp only [decI, Option.some.injEq] at h; subst h; rfl
  | x :: xs, l, h => by
    unfold decI at h
    split at h
    · rename_i e; cases e
    · rename_i n ys e
      cases e
      obtain ⟨r, hr, rfl⟩ := Option.map_eq_some_iff.1 h
      rw [decI_ok hr, ints_cons]
    · cases h
def decP : AV → Option (List Int)
  | .psl _ n xs => (match decI xs with
    | some l => if l.length = n then some l else none
    | none => none)
  | _ => none
theorem decP_ok {x : AV} {l : List Int} (h : decP x = some l) : Deep x (sl l) := by
  unfold decP at h
  split at h
  · rename_i f n xs
    split at h
    · rename_i l' hl
      split at h
      · rename_i hn
        cases h
        rw [decI_ok hl, ← hn]
        exact .psl (fun e => by cases e) rfl (fun j a b => .refl _)
      · cases h
    · cases h
  · cases h
def decR : List AV → Option (List (List Int))
  | [] => some []
  | x :: xs => (match decP x, decR xs with
    | some l, some r => some (l :: r)
    | _, _ => none)
theorem decR_ok : ∀ {xs : List AV} {l : List (List Int)}, decR xs = some l → deepL xs (rowsC l)
  | [], l, h => by simp only [decR, Option.some.injEq] at h; subst h; trivial
  | x :: xs, l, h => by
    simp only [decR] at h
    split at h
    · rename_i a r h1 h2
      cases h
      exact ⟨decP_ok h1, decR_ok h2⟩
    · cases h
def decRows : AV → Option (List (List Int))
  | .psl _ n xs => (match decR xs with
    | some l => if l.length = n then some l else none
    | none => none)
  | _ => none
theorem decRows_ok {x : AV} {l : List (List Int)} (h : decRows x = some l) : Deep x (sll l) := by
  unfold decRows at h
  split at h
  · rename_i f n xs
    split at h
    · rename_i l' hl
      split at h
      · rename_i hn
        cases h
        rw [← hn]
        exact deep_psl (decR_ok hl)
      · cases h
    · cases h
  · cases h
def decPost : AV → Option Post
  | .agg [e, .int .i64 a, .int .i64 b, .int .i64 c, .int .i64 d, .int .i64 f] => (decP e).map fun l => ⟨l, a, b, c, d, f⟩
  | _ => none
theorem decPost_ok {x : AV} {p : Post} (h : decPost x = some p) : Deep x (.agg (postC p)) := by
  unfold decPost at h
  split at h
  · obtain ⟨l, hl, rfl⟩ := Option.map_eq_some_iff.1 h
    exact deep_agg ⟨decP_ok hl, .refl _, .refl _, .refl _, .refl _, .refl _, trivial⟩
  · cases h
def decS : List AV → Option (List Season)
  | [] => some []
  | x :: .bool b :: xs => (match decP x, decS xs with
    | some l, some r => some (⟨l, b⟩ :: r)
    | _, _ => none)
  | _ => none
theorem decS_ok : ∀ {xs : List AV} {l : List Season}, decS xs = some l → deepL xs (recs seasonC l)
  | [], l, h => by simp only [decS, Option.some.injEq] at h; subst h; trivial
  | [x], l, h => by simp [decS] at h
  | x :: y :: xs, l, h => by
    unfold decS at h
    split at h
    · rename_i e; cases e
    · rename_i x' b xs' e
      cases e
      split at h
      · rename_i a r h1 h2
        cases h
        exact ⟨decP_ok h1, .refl _, decS_ok h2⟩
      · cases h
    · cases h
def decSeas : AV → Option (List Season)
  | .psl _ n xs => (match decS xs with
    | some l => if l.length = n then some l else none
    | none => none)
  | _ => none
theorem decSeas_ok {x : AV} {l : List Season} (h : decSeas x = some l) : Deep x (slS l) := by
  unfold decSeas at h
  split at h
  · rename_i f n xs
    split at h
    · rename_i l' hl
      split at h
      · rename_i hn
        cases h
        rw [← hn]
        exact deep_psl (decS_ok hl)
      · cases h
    · cases h
  · cases h
def decT : AV → Option Terms
  | .agg [.int .i64 a, .int .i64 b, .int .i64 c, .int .i64 d, .int .i64 e] => some ⟨a, b, c, d, e⟩
  | _ => none
theorem decT_ok {x : AV} {t : Terms} (h : decT x = some t) : Deep x (.agg (termsC t)) := by
  unfold decT at h
  split at h
  · cases h; exact .refl _
  · cases h

/-! ### What is known -/
def smallB (p : Post) (l : List (List Int)) : Bool := decide (p.errs.length ≤ 1000) && (decide (l.length ≤ 1000) && l.all fun r => decide (r.length ≤ 1000))
theorem small_inB {p : Post} {l : List (List Int)} (h : smallB p l = true) : InB p l := by
  simp only [smallB, Bool.and_eq_true, decide_eq_true_eq, List.all_eq_true] at h
  obtain ⟨h1, h2, h3⟩ := h
  refine ⟨by omega, by omega, fun i hi => ?_⟩
  have := h3 _ (List.getElem_mem hi)
  rw [show l.getD i [] = l[i] by simp [List.getD_eq_getElem?_getD, hi]]
  omega
def o44 : List AV → Option AV
  | [x, y, .int .i64 h, .int .i64 v] => (match decPost x, decRows y with
    | some p, some l => if smallB p l = true then some (.tup [.int .i64 (truthR p l h v).1, sl (truthR p l h v).2.1, .int .i64 (truthR p l h v).2.2]) else none
    | _, _ => none)
  | _ => none
theorem o44_ok {xs : List AV} {r : AV} (h : o44 xs = some r) : CallS Try.prog 44 xs r := by
  unfold o44 at h
  split at h
  · split at h
    · rename_i p l h1 h2
      split at h
      · rename_i h3
        cases h
        exact (truthAll_c p l _ _ (small_inB h3)).deep ⟨decPost_ok h1, decRows_ok h2, .refl _, .refl _, trivial⟩
      · cases h
    · cases h
  · cases h
def okB (l : List Season) (t : Terms) : Bool := decide (l.length ≤ 1000) && ((l.all fun s => decide (s.speeds.length ≤ 1000)) && decide (pricedE l t = 0))
theorem okB_ok {l : List Season} {t : Terms} (h : okB l t = true) : okS l ∧ pricedE l t = 0 := by
  simp only [okB, Bool.and_eq_true, decide_eq_true_eq, List.all_eq_true] at h
  obtain ⟨h1, h2, h3⟩ := h
  refine ⟨⟨by omega, fun i hi => ?_⟩, h3⟩
  have := h2 _ (List.getElem_mem hi)
  rw [show l.getD i default = l[i] by simp [List.getD_eq_getElem?_getD, hi]]
  omega
def bestR (l : List Season) (t : Terms) (b : Option (Nat × Int)) : AV := .tup [.agg (ruleC (bRule t b)), .int .i64 (bPrice b), .int .i64 (if b.isSome = true then 0 else 11)]
def o52 : List AV → Option AV
  | [x, y] => (match decSeas x, decT y with
    | some l, some t => if okB l t = true then some (bestR l t (bestUp (tryAt l t) 1001)) else none
    | _, _ => none)
  | _ => none
theorem o52_ok {xs : List AV} {r : AV} (h : o52 xs = some r) : CallS Try.prog 52 xs r := by
  unfold o52 at h
  split at h
  · split at h
    · rename_i l t h1 h2
      split at h
      · rename_i h3
        cases h
        obtain ⟨h4, h5⟩ := okB_ok h3
        exact (bestA_c l t h4 h5).deep ⟨decSeas_ok h1, decT_ok h2, trivial⟩
      · cases h
    · cases h
  · cases h
/-- A call with a post and reads. -/
def oPR (f : Post → List (List Int) → AV) : List AV → Option AV
  | [x, y] => (match decPost x, decRows y with
    | some p, some l => if smallB p l = true then some (f p l) else none
    | _, _ => none)
  | _ => none
theorem oPR_ok {f : Post → List (List Int) → AV} {g : FuncId} (hf : ∀ p l, InB p l → CallS Try.prog g [.agg (postC p), sll l] (f p l)) {xs : List AV} {r : AV} (h : oPR f xs = some r) : CallS Try.prog g xs r := by
  unfold oPR at h
  split at h
  · split at h
    · rename_i p l h1 h2
      split at h
      · rename_i h3
        cases h
        exact (hf p l (small_inB h3)).deep ⟨decPost_ok h1, decRows_ok h2, trivial⟩
      · cases h
    · cases h
  · cases h
def r27 (p : Post) (l : List (List Int)) : AV := .tup [slSt (levelsL p l), .int .i64 (levelsE p l)]
def r29 (p : Post) (l : List (List Int)) : AV := .tup [sl (failedL p l), .int .i64 (levelsE p l)]
def r33 (p : Post) (l : List (List Int)) : AV := .tup [.int .i64 (breaksN p l), .int .i64 (breaksE p l)]
def o38 : List AV → Option AV
  | [x, y, .int .i64 f, z] => (match decPost x, decRows y, decP z with
    | some p, some l, some sp => if smallB p l = true ∧ sp.length ≤ 1000 then some (.bool (proveB p l f sp)) else none
    | _, _, _ => none)
  | _ => none
theorem o38_ok {xs : List AV} {r : AV} (h : o38 xs = some r) : CallS Try.prog 38 xs r := by
  unfold o38 at h
  split at h
  · split at h
    · rename_i p l sp h1 h2 h4
      split at h
      · rename_i h3
        cases h
        exact (prove_c p l _ sp (small_inB h3.1) (by have := h3.2; omega)).deep ⟨decPost_ok h1, decRows_ok h2, .refl _, decP_ok h4, trivial⟩
      · cases h
    · cases h
  · cases h
def o17 : List AV → Option AV
  | [] => some (.bool true)
  | _ => none
theorem o17_ok {xs : List AV} {r : AV} (h : o17 xs = some r) : CallS Try.prog 17 xs r := by
  unfold o17 at h
  split at h
  · cases h; exact awake_c
  · cases h
def orcR (o : List AV → Option AV) (xs : List AV) : Option (AV × List (Option ABlk) × List Nat) := if xs.all pureA = true then (match o xs with
  | some r => some (r, [], [])
  | none => none) else none
theorem orcR_ok {o : List AV → Option AV} {g : FuncId} (ho : ∀ {xs : List AV} {r : AV}, o xs = some r → CallS Try.prog g xs r) {xs : List AV} {r : AV} {H' : List (Option ABlk)} {W : List Nat} (h : orcR o xs = some (r, H', W)) : Frm [] H' W ∧ SemF Try.prog g xs [] r H' := by
  unfold orcR at h
  split at h
  · rename_i hp
    split at h
    · rename_i r' hr
      cases h
      exact ⟨Frm.refl _, semF_of_callS (ho hr) (by simpa using hp)⟩
    · cases h
  · cases h
/-- Values that lead to nothing. -/
def flat0 : AV → Bool
  | .int _ _ => true
  | .bool _ => true
  | .nils => true
  | .psl _ _ [] => true
  | _ => false
def flat : AV → Bool
  | .tup xs => xs.all flat0
  | x => flat0 x
theorem prep_flat0 {ok ok' : Nat → Prop} {w : World} {x : AV} {v : Value} (p : PRep ok w x v) (h : flat0 x = true) : PRep ok' w x v := by
  cases p with
  | int k n => exact .int k n
  | bool b => exact .bool b
  | nils => exact .nils
  | psle h1 h2 h3 => exact .psle h1 h2 h3
  | psl vs h1 h2 hok hc hr =>
    rename_i f n xs c o cap
    cases xs with
    | nil => exact .psle h1 h2 (fun e => by cases e)
    | cons x xs => cases h
  | str s => cases h
  | nilp => cases h
  | nilm => cases h
  | nilf => cases h
  | pptr _ _ _ _ => cases h
  | pmap _ _ _ _ _ => cases h
  | fn _ _ _ _ _ _ _ => cases h
  | agg _ _ _ _ => cases h
  | tup _ _ _ => cases h
theorem prep_flat {ok ok' : Nat → Prop} {w : World} {x : AV} {v : Value} (p : PRep ok w x v) (h : flat x = true) : PRep ok' w x v := by
  cases x
  case tup xs =>
    cases p with
    | tup us h1 r1 => exact .tup us h1 fun j a b => prep_flat0 (r1 j a b) (List.all_eq_true.1 h _ (List.getElem_mem _))
  all_goals exact prep_flat0 p h
def orcF (o : List AV → Option AV) (xs : List AV) (H : List (Option ABlk)) : Option (AV × List (Option ABlk) × List Nat) := match mapO (outAX (hget H)) xs with
  | some ys => (match o ys with
    | some r => if flat r = true then some (r, H, []) else none
    | none => none)
  | none => none
theorem orcF_ok {o : List AV → Option AV} {g : FuncId} (ho : ∀ {xs : List AV} {r : AV}, o xs = some r → CallS Try.prog g xs r) {xs : List AV} {r : AV} {H H' : List (Option ABlk)} {W : List Nat} (h : orcF o xs H = some (r, H', W)) : Frm H H' W ∧ SemF Try.prog g xs H r H' := by
  unfold orcF at h
  split at h
  · rename_i ys hys
    split at h
    · rename_i r' hr
      split at h
      · rename_i hfl
        cases h
        refine ⟨Frm.refl _, (ho hr).1, fun {B} w0 m w vs hg hlen hrep => ?_⟩
        obtain ⟨l1, l2⟩ := mapO_some hys
        refine ((ho hr).2 w vs (OkB w) (fun c hc => hc.2) (by omega) (fun j a b => outAX_sound (l2 j (by omega) a) hg (hrep j (by omega) b))).mono ?_
        rintro e w' ⟨v, rfl, hv, hb⟩
        obtain ⟨g1, e1⟩ := hg.garbage hb
        exact ⟨v, m, rfl, g1, e1, .pure (prep_flat hv hfl)⟩
      · cases h
    · cases h
  · cases h
def orcA : Cv := fun f args H => match f with
  | .fn (.func g) [] [] => (match H with
    | [] => if g = 44 then orcR o44 args else if g = 52 then orcR o52 args else if g = 27 then orcR (oPR r27) args else if g = 29 then orcR (oPR r29) args else if g = 33 then orcR (oPR r33) args else if g = 38 then orcR o38 args else if g = 17 then orcR o17 args else none
    | _ :: _ => if g = 27 then orcF (oPR r27) args H else if g = 33 then orcF (oPR r33) args H else none)
  | _ => none
theorem orcA_ok : CvOK Try.prog orcA := by
  intro fv xs H r H' W hx
  unfold orcA at hx
  split at hx
  · rename_i g
    split at hx
    · have fin : ∀ {o : List AV → Option AV} {k : FuncId}, (∀ {xs : List AV} {r : AV}, o xs = some r → CallS Try.prog k xs r) → orcR o xs = some (r, H', W) → Frm [] H' W ∧ Sem Try.prog (.fn (.func k) [] []) xs [] r H' := fun ho h => by
        have := orcR_ok ho h
        exact ⟨this.1, by simpa [Sem] using this.2⟩
      split at hx
      · rename_i hg; subst hg; exact fin o44_ok hx
      split at hx
      · rename_i hg; subst hg; exact fin o52_ok hx
      split at hx
      · rename_i hg; subst hg; exact fin (oPR_ok fun p l h => levels_c p l h) hx
      split at hx
      · rename_i hg; subst hg; exact fin (oPR_ok fun p l h => failed_c p l h) hx
      split at hx
      · rename_i hg; subst hg; exact fin (oPR_ok fun p l h => breaks_c p l h) hx
      split at hx
      · rename_i hg; subst hg; exact fin o38_ok hx
      split at hx
      · rename_i hg; subst hg; exact fin o17_ok hx
      · cases hx
    · rename_i k HH
      have fin : ∀ {o : List AV → Option AV} {n : FuncId}, (∀ {xs : List AV} {r : AV}, o xs = some r → CallS Try.prog n xs r) → orcF o xs (k :: HH) = some (r, H', W) → Frm (k :: HH) H' W ∧ Sem Try.prog (.fn (.func n) [] []) xs (k :: HH) r H' := fun ho h => by
        have := orcF_ok ho h
        exact ⟨this.1, by simpa [Sem] using this.2⟩
      split at hx
      · rename_i hg; subst hg; exact fin (oPR_ok fun p l h => levels_c p l h) hx
      split at hx
      · rename_i hg; subst hg; exact fin (oPR_ok fun p l h => breaks_c p l h) hx
      · cases hx
  · cases hx
end Go.Am

/- The law AlarmNames, as a contract: it returns true. The calls are run; of Truth and Best the contracts are known. -/
namespace Go.Am
open Go.RowKit Go.Proofs
set_option maxRecDepth 100000 in
theorem alarmNames_c : CallS Try.prog 16 [] (.bool true) :=
  callS_runO orcA_ok (eqt := fun _ => true) (pm := fun g => !(Nat.beq g 72 || Nat.beq g 63)) (ent := entA) (lf := 2000) (n := 60) (fun t _ => eqOK t) entA_ok mixedA (by kernel_rfl)
end Go.Am
