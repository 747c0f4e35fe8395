/- Parts BnA, BlL, BlP, BnB, BlM, BnC of the proof, one behind the other. No statement is proved here. -/
import Derived.Test.YtnjommobapmgbaaG6
import Derived.Test.YtnjommobapmgbaaG3
import Derived.Test.YtnjommobapmgbaaG5
set_option linter.unusedVariables false -- all
set_option linter.unusedSimpArgs false
/- Contracts of the alarm functions: lists, rows and posts of the caller's own. -/
namespace Go.Am
open Go.RowKit Go.Proofs
attribute [local irreducible] AWP CallS Kt goK CallK stepK evOps SemF SemY Imp
set_option maxRecDepth 4000
set_option linter.unusedSimpArgs false
set_option linter.unusedVariables false
set_option maxHeartbeats 6400000
theorem list_o (l : List Int) (hl : l.length ≤ 1000000) : SemF Try.prog 39 [sl l] [] (.osl 0 0 0 l.length) [some (.cells 3 1 0 (ints l))] := by
  simp only [sl]
  (refine semF_of_awp (ys := [.osl 0 0 0 l.length]) (fun w args => Try.call39 ..) Try.func39 rfl (fun w0 m0 wz => ?_); simp only [Try.ntmps39, Try.results39, initT, junks, postC, sll, sl, List.toList_toArray, List.cons_append, List.nil_append, List.length_cons, List.length_nil, Nat.reduceAdd, Nat.reduceSub])
  (repeat' (first
 | refine awp_seqK ?_
 | refine kt ?_
 | refine And.intro ?_ ?_
 | ((first | refine awp_stp rfl ?_ | refine awp_draw (by kernel_rfl) (by kernel_rfl) ?_ | refine Imp.le2 ?_ | refine go_split (fun _h => ?_) (fun _h => ?_)) <;> try simp (maxSteps := 4000000) only [go_sem, seval, List.append_eq, List.cons_append, List.nil_append, postC, sll])
 | intro _h
 | refine awp_block ?_
 | refine awp_scope ?_
 | refine cond_b ?_ ?_
 | (show heapOK _ _ = true; kernel_rfl)
 | (show heapOK2 _ _ = true; kernel_rfl)
 | (omega)))
  all_goals trace_state
theorem Post_o (p : Post) (hb : p.errs.length ≤ 1000000) : SemF Try.prog 25 [.agg (postC p)] [] (.agg [.osl 2 0 0 p.errs.length, .int .i64 p.gain, .int .i64 p.drop, .int .i64 p.fall, .int .i64 p.out, .int .i64 p.ahead]) [none, none, some (.cells 3 1 0 (ints p.errs))] := by
  have hl := list_o p.errs hb
  simp only [sl] at hl
  (refine semF_of_awp (ys := [.agg [.osl 2 0 0 p.errs.length, .int .i64 p.gain, .int .i64 p.drop, .int .i64 p.fall, .int .i64 p.out, .int .i64 p.ahead]]) (fun w args => Try.call25 ..) Try.func25 rfl (fun w0 m0 wz => ?_); simp only [Try.ntmps25, Try.results25, initT, junks, postC, sll, sl, List.toList_toArray, List.cons_append, List.nil_append, List.length_cons, List.length_nil, Nat.reduceAdd, Nat.reduceSub])
  (repeat' (first
 | refine awp_seqK ?_
 | refine kt ?_
 | refine And.intro ?_ ?_
 | ((first | refine awp_stp rfl ?_ | refine Imp.le2 ?_ | refine go_split (fun _h => ?_) (fun _h => ?_)) <;> try simp (maxSteps := 4000000) only [go_sem, seval, List.append_eq, List.cons_append, List.nil_append, postC, sll])
 | intro _h
 | refine awp_block ?_
 | refine awp_scope ?_
 | refine cond_b ?_ ?_
 | (show heapOK _ _ = true; kernel_rfl)
 | (show heapOK2 _ _ = true; kernel_rfl)
 | (omega)))
  ((repeat refine awp_seqK ?_); refine awp_draws [(2,[2])] (by kernel_rfl) (by kernel_rfl) ?_; simp (maxSteps := 4000000) only [go_sem, seval, List.append_eq, List.cons_append, List.nil_append, postC, sll, sg_cons, sg_nil, List.take_succ_cons, List.take_zero, List.drop_succ_cons, List.drop_zero])
  (refine own_go (hl) [] rfl (by simp (maxSteps := 4000000) only [go_sem, seval, List.append_eq, List.cons_append, List.nil_append, postC, sll]) (by simp (maxSteps := 4000000) only [go_sem, seval, List.append_eq, List.cons_append, List.nil_append, postC, sll, Nat.lt_irrefl] <;> decide) rfl ?_; simp (maxSteps := 4000000) only [go_sem, seval, List.append_eq, List.cons_append, List.nil_append, postC, sll]; refine And.intro (frm_of (by repeat (first | exact rfl | exact ⟨_, rfl⟩ | refine And.intro ?_ ?_))) ?_; try simp (maxSteps := 4000000) only [go_sem, seval, List.append_eq, List.cons_append, List.nil_append, postC, sll, sg_cons, sg_nil, List.take_succ_cons, List.take_zero, List.drop_succ_cons, List.drop_zero])
  (repeat' (first
 | refine awp_seqK ?_
 | refine kt ?_
 | refine And.intro ?_ ?_
 | ((first | refine awp_stp rfl ?_ | refine awp_draw (by kernel_rfl) (by kernel_rfl) ?_ | refine Imp.le2 ?_ | refine go_split (fun _h => ?_) (fun _h => ?_)) <;> try simp (maxSteps := 4000000) only [go_sem, seval, List.append_eq, List.cons_append, List.nil_append, postC, sll])
 | intro _h
 | refine awp_block ?_
 | refine awp_scope ?_
 | refine cond_b ?_ ?_
 | (show heapOK _ _ = true; kernel_rfl)
 | (show heapOK2 _ _ = true; kernel_rfl)
 | (omega)))
  all_goals trace_state
/-- The blocks of rows, and the list of them. -/
def refR (l : List (List Int)) (b : Nat) : List AV := (List.range l.length).map fun j => .osl (b + j) 0 0 (l.getD j []).length
def blkR (l : List (List Int)) : List (Option ABlk) := l.map fun r => some (.cells 3 1 0 (ints r))
theorem blkR_length {l : List (List Int)} : (blkR l).length = l.length := by simp [blkR]
theorem refR_length {l : List (List Int)} {b : Nat} : (refR l b).length = l.length := by simp [refR]
theorem blkR_snoc {l : List (List Int)} {r : List Int} : blkR (l ++ [r]) = blkR l ++ [some (.cells 3 1 0 (ints r))] := by simp [blkR]
theorem refR_snoc {l : List (List Int)} {r : List Int} {b : Nat} : refR (l ++ [r]) b = refR l b ++ [.osl (b + l.length) 0 0 r.length] := by
  unfold refR
  rw [List.length_append, List.length_singleton, List.range_succ, List.map_append, List.map_singleton]
  congr 1
  · refine List.map_congr_left fun j hj => ?_
    have := List.mem_range.1 hj
    simp [List.getD_eq_getElem?_getD, List.getElem?_append_left this]
  · simp [List.getD_eq_getElem?_getD]
theorem live_ref {l : List (List Int)} {b : Nat} {p : Nat → Bool} (hp : ∀ j, j < l.length → p (b + j) = true) : (refR l b).all (live2 p) = true := by
  rw [List.all_eq_true]
  intro y hy
  simp only [refR, List.mem_map, List.mem_range] at hy
  obtain ⟨j, hj, rfl⟩ := hy
  simp [live2, live1, live0, hp j hj]
theorem hget_at : ∀ (H : List (Option ABlk)) (i : Nat), hget H i = (H[i]?).join
  | [], i => by simp [hget]
  | x :: H, 0 => by simp [hget]
  | x :: H, i + 1 => by simp only [hget, List.getElem?_cons_succ]; exact hget_at H i
theorem hget_blk {l : List (List Int)} {j : Nat} (h : j < l.length) : hget (blkR l) j = some (.cells 3 1 0 (ints (l.getD j []))) := by
  rw [hget_at]
  simp [blkR, List.getD_eq_getElem?_getD, h]
theorem live_int {p : Nat → Bool} {l : List Int} : (ints l).all (live2 p) = true := by
  rw [List.all_eq_true]
  intro y hy
  simp only [ints, List.mem_map] at hy
  obtain ⟨n, _, rfl⟩ := hy
  rfl
theorem leH_blk {p : Nat → Bool} {l : List (List Int)} : leH p (blkR l) (blkR l) := leH_of fun b k hk => by
  refine ⟨hk, ?_⟩
  by_cases h : b < l.length
  · rw [hget_blk h] at hk
    cases hk
    exact live_int
  · rw [hget_at, List.getElem?_eq_none (by rw [blkR_length]; omega)] at hk
    cases hk
theorem rows_o (l : List (List Int)) (hb : l.length ≤ 1000000) (hr : ∀ i, i < l.length → (l.getD i []).length ≤ 1000000) : SemF Try.prog 26 [sll l] [] (.osl 0 l.length 0 l.length) (some (.cells 22 1 l.length (refR l 1)) :: blkR l) := by
  simp only [sll]
  (refine semF_of_awp (ys := [.osl 0 l.length 0 l.length]) (fun w args => Try.call26 ..) Try.func26 rfl (fun w0 m0 wz => ?_); simp only [Try.ntmps26, Try.results26, initT, junks, postC, sll, sl, List.toList_toArray, List.cons_append, List.nil_append, List.length_cons, List.length_nil, Nat.reduceAdd, Nat.reduceSub])
  (repeat' (first
 | refine awp_seqK ?_
 | refine kt ?_
 | refine And.intro ?_ ?_
 | ((first | refine awp_stp rfl ?_ | refine awp_draw (by kernel_rfl) (by kernel_rfl) ?_ | refine Imp.le2 ?_ | refine go_split (fun _h => ?_) (fun _h => ?_)) <;> try simp (maxSteps := 4000000) only [go_sem, seval, List.append_eq, List.cons_append, List.nil_append, postC, sll])
 | intro _h
 | refine awp_block ?_
 | refine awp_scope ?_
 | refine cond_b ?_ ?_
 | (show heapOK _ _ = true; kernel_rfl)
 | (show heapOK2 _ _ = true; kernel_rfl)
 | (omega)))
  (refine awp_adT 3 22 1 rfl ?_; simp only [adT, lset, hset, List.length_cons, List.length_nil, Nat.reduceAdd])
  refine awp_loopN l.length (fun k => ⟨mkT 20 [(0, sll l), (3, .osl 0 k 0 k), (4, .int .i64 k)], some (.cells 22 1 k (refR (l.take k) 1)) :: blkR (l.take k), []⟩) (.le2 ?_) ?_
  · simp only [sll]; simp (maxSteps := 4000000) only [go_sem, seval, List.append_eq, List.cons_append, List.nil_append, postC, sll]
    simp [refR, blkR, leH]
  · intro k hk
    have hlt : (l.take k).length = k := by simp; omega
    rcases Nat.lt_or_eq_of_le hk with hk1 | hk1
    · have hl := list_o (l.getD k []) (hr k hk1)
      simp only [sl] at hl
      obtain ⟨rw0, hrw⟩ : ∃ rw0, l.getD k [] = rw0 := ⟨_, rfl⟩
      have ht1 : l.take (k + 1) = l.take k ++ [rw0] := by rw [List.take_succ_eq_append_getElem hk1, ← hrw]; simp [List.getD_eq_getElem?_getD, hk1]
      rw [hrw] at hl
      rw [ht1, blkR_snoc, refR_snoc, hlt]
      have hBl := blkR_length (l := l.take k)
      have hRl := refR_length (l := l.take k) (b := 1)
      rw [hlt] at hBl hRl
      have hRv := fun p => live_ref (l := l.take k) (b := 1) (p := p)
      have hBv := fun j => hget_blk (l := l.take k) (j := j)
      rw [hlt] at hRv hBv
      generalize blkR (l.take k) = Bk at *
      generalize refR (l.take k) 1 = Rk at *
      simp only [sll]; simp (maxSteps := 4000000) only [go_sem, seval, List.append_eq, List.cons_append, List.nil_append, postC, sll]
      (repeat' (first
 | ((refine awp_segE (id := 5) [(5, none, [k + 1]), (0, some ⟨.osl (k + 2) 0 0 1, [], some (k + 2, .cells 22 1 0 [.osl (k + 1) 0 0 rw0.length])⟩, []), (0, some ⟨.osl 0 (k + 1) 0 (k + 1), [k + 2], some (0, .cells 22 1 (k + 1) (Rk ++ [.osl (k + 1) 0 0 rw0.length]))⟩, [])] ?_; simp (maxSteps := 4000000) only [go_sem, seval, List.append_eq, List.cons_append, List.nil_append, postC, sll, hrw, se_own, se_op, se_nil, List.take_succ_cons, List.take_zero, List.drop_succ_cons, List.drop_zero]))
 | ((omega))
 | refine awp_seqK ?_
 | refine kt ?_
 | refine And.intro ?_ ?_
 | ((first | refine awp_stp rfl ?_ | refine Imp.le2 ?_) <;> try simp (maxSteps := 4000000) only [go_sem, seval, List.append_eq, List.cons_append, List.nil_append, postC, sll])
 | intro _h
 | refine awp_block ?_
 | refine awp_scope ?_
 | refine cond_b ?_ ?_
 | (show heapOK _ _ = true; kernel_rfl)
 | (show heapOK2 _ _ = true; kernel_rfl)
 | (omega)))
      refine own_go hl [] rfl (by simp (maxSteps := 4000000) only [go_sem, seval, List.append_eq, List.cons_append, List.nil_append, postC, sll]) (by simp (maxSteps := 4000000) only [go_sem, seval, List.append_eq, List.cons_append, List.nil_append, postC, sll, Nat.lt_irrefl] <;> decide) rfl ?_
      simp (maxSteps := 4000000) only [go_sem, seval, List.append_eq, List.cons_append, List.nil_append, postC, sll, mg, sg, hBl, List.length_cons, Nat.add_zero]
      have hHl : (some (ABlk.cells 22 1 k Rk) :: Bk).length = k + 1 := by simp [hBl]
      refine ⟨by have := frm_new (H := some (ABlk.cells 22 1 k Rk) :: Bk) (k := .cells 3 1 0 (ints rw0)); rwa [hHl] at this, ?_⟩
      have hg0 : hget (some (ABlk.cells 22 1 k Rk) :: (Bk ++ [some (ABlk.cells 3 1 0 (ints rw0))])) 0 = some (.cells 22 1 k Rk) := rfl
      have hg2 : hget (some (ABlk.cells 22 1 k Rk) :: (Bk ++ [some (ABlk.cells 3 1 0 (ints rw0))])) (k + 2) = none := by
        rw [hget_at, List.getElem?_eq_none (by simp [hBl])]; rfl
      generalize hHH : some (ABlk.cells 22 1 k Rk) :: (Bk ++ [some (ABlk.cells 3 1 0 (ints rw0))]) = HH at *
      refine ⟨rfl, sound_litE rfl hg2 tslice47 tsz22 tzero22 rfl (by decide) (by decide) (by decide) (by decide) rfl rfl, ?_⟩
      refine ⟨rfl, sound_appoo rfl tslice47 tsz22 tbytes22 tzero22 rfl (by decide) rfl (by simp only [hseto, hget_set]; rw [if_neg (by omega)]; exact hg0) (by rw [hRl]; omega) rfl (by simp only [hseto, hget_set, if_true]; rfl) (Nat.le_refl _) (by decide) (by omega) (by omega) rfl, ?_⟩
      have hl1 : (Rk ++ [AV.osl (1 + k) 0 0 rw0.length]).all (live2 (liveIn (some (ABlk.cells 22 1 (k + 1) (Rk ++ [AV.osl (1 + k) 0 0 rw0.length])) :: (Bk ++ [some (ABlk.cells 3 1 0 (ints rw0))])))) = true := by
        rw [List.all_append, Bool.and_eq_true]
        refine ⟨hRv _ fun j hj => ?_, ?_⟩
        · unfold liveIn
          rw [Nat.add_comm 1 j]
          simp only [hget]
          rw [hget_app, if_neg (by omega), hBv j hj]; rfl
        · have : liveIn (some (ABlk.cells 22 1 (k + 1) (Rk ++ [AV.osl (1 + k) 0 0 rw0.length])) :: (Bk ++ [some (ABlk.cells 3 1 0 (ints rw0))])) (1 + k) = true := by
            unfold liveIn
            rw [Nat.add_comm 1 k]
            simp only [hget]
            rw [hget_app, if_pos (by omega), hBl, Nat.sub_self]; rfl
          simp [live2, live1, live0, this]
      have hb9 : ∀ (p : Nat → Bool) b kk, hget (Bk ++ [some (ABlk.cells 3 1 0 (ints rw0))]) b = some kk → blkLive p kk = true := fun p b kk hb2 => by
        rw [hget_app] at hb2
        split at hb2
        · rename_i h9
          cases e9 : b - Bk.length with
          | zero => rw [e9] at hb2; simp only [hget] at hb2; cases hb2; exact live_int
          | succ j => rw [e9] at hb2; simp [hget] at hb2
        · rw [hBv b (by omega)] at hb2
          cases hb2; exact live_int
      have hl2 : ∀ p, leH p (Bk ++ [some (ABlk.cells 3 1 0 (ints rw0))]) (Bk ++ [some (ABlk.cells 3 1 0 (ints rw0))]) := fun p => leH_of fun b kk hb2 => ⟨hb2, hb9 p b kk hb2⟩
      refine kt ?_
      refine AWP.le2 (s' := ⟨mkT 20 [(0, sll l), (3, .osl 0 (k + 1) 0 (k + 1)), (4, .int .i64 k)], some (.cells 22 1 (k + 1) (Rk ++ [.osl (1 + k) 0 0 rw0.length])) :: (Bk ++ [some (.cells 3 1 0 (ints rw0))]), []⟩) ⟨?_, ?_, rfl, ?_, ?_⟩ ?_
      · simp only [sll]; simp (maxSteps := 4000000) only [go_sem, seval, List.append_eq, List.cons_append, List.nil_append, postC, sll]
        all_goals trace_state
      · refine leH_of fun b kk hb2 => ?_
        subst hHH
        cases b with
        | zero =>
          simp only [hget] at hb2
          cases hb2
          exact ⟨by simp only [hseto, hget_set, if_true, Nat.add_comm 1 k], hl1⟩
        | succ b =>
          have hne : b + 1 ≠ k + 2 := fun e => by
            simp only [hget] at hb2
            rw [hget_at, List.getElem?_eq_none (by simp [hBl]; omega)] at hb2
            cases hb2
          refine ⟨?_, ?_⟩
          · simp only [hseto, hget_set]
            rw [if_neg (by omega), if_neg hne]
            exact hb2
          · exact hb9 _ _ _ hb2
      · intro d hd; simp at hd
      · intro b hb2; exact absurd rfl hb2
      · simp (maxSteps := 4000000) only [go_sem, seval, List.append_eq, List.cons_append, List.nil_append, postC, sll]
        (repeat' (first
 | ((omega))
 | ((exact hl1))
 | ((exact hl2 _))
 | refine awp_seqK ?_
 | refine kt ?_
 | refine And.intro ?_ ?_
 | ((first | refine awp_stp rfl ?_ | refine awp_draw (by kernel_rfl) (by kernel_rfl) ?_ | refine Imp.le2 ?_ | refine go_split (fun _h => ?_) (fun _h => ?_)) <;> try simp (maxSteps := 4000000) only [go_sem, seval, List.append_eq, List.cons_append, List.nil_append, postC, sll])
 | intro _h
 | refine awp_block ?_
 | refine awp_scope ?_
 | refine cond_b ?_ ?_
 | (show heapOK _ _ = true; kernel_rfl)
 | (show heapOK2 _ _ = true; kernel_rfl)
 | (omega)))
        all_goals first | exact hl1 | exact hl2 _ | trace_state
    · subst hk1
      have hlt : (l.take l.length) = l := by simp
      simp only [sll]; simp (maxSteps := 4000000) only [go_sem, seval, List.append_eq, List.cons_append, List.nil_append, postC, sll, hlt]
      (repeat' (first
 | ((exact leH_blk))
 | ((exfalso; omega))
 | refine awp_seqK ?_
 | refine kt ?_
 | refine And.intro ?_ ?_
 | ((first | refine awp_stp rfl ?_ | refine awp_draw (by kernel_rfl) (by kernel_rfl) ?_ | refine Imp.le2 ?_ | refine go_split (fun _h => ?_) (fun _h => ?_)) <;> try simp (maxSteps := 4000000) only [go_sem, seval, List.append_eq, List.cons_append, List.nil_append, postC, sll])
 | intro _h
 | refine awp_block ?_
 | refine awp_scope ?_
 | refine cond_b ?_ ?_
 | (show heapOK _ _ = true; kernel_rfl)
 | (show heapOK2 _ _ = true; kernel_rfl)
 | (omega)))
      all_goals first
        | exact leH_blk
        | (refine live_ref fun j hj => ?_
           unfold liveIn
           rw [Nat.add_comm 1 j]
           simp only [hget]
           rw [hget_blk hj]; rfl)
        | trace_state
end Go.Am

/- Plain words for posts at work: a truth is among what may be. -/
namespace Go.Am
open Go.RowKit Go.Proofs
set_option linter.unusedSimpArgs false
set_option linter.unusedVariables false
theorem hull_mem {g : Int → Option (Int × Int)} {i : Nat} {x : Int × Int} (hx : g ((i : Int) - 1) = some x) : ∀ n, i < n → ∃ s, hull g n = some s ∧ s.1 ≤ x.1 ∧ x.2 ≤ s.2
  | 0, h => by omega
  | n + 1, h => by
    simp only [hull]
    rcases Nat.lt_or_eq_of_le (Nat.le_of_lt_succ h) with h1 | h1
    · obtain ⟨s, h2, h3, h4⟩ := hull_mem hx n h1
      rw [h2]
      cases g ((n : Int) - 1) with
      | none => exact ⟨s, rfl, h3, h4⟩
      | some y => exact ⟨_, rfl, by simp only [joinE]; omega, by simp only [joinE]; omega⟩
    · subst h1
      rw [hx]
      refine ⟨_, rfl, ?_, ?_⟩ <;> cases hull g i <;> simp only [joinE] <;> omega
end Go.Am

/- Plain words for posts: one gauge that disagrees with two others, and a post that has all others twice. -/
namespace Go.Am
open Go.RowKit Go.Proofs
set_option linter.unusedSimpArgs false
set_option linter.unusedVariables false
theorem agLo_iff {errs row : List Int} {f v : Int} : ∀ n : Nat, agLo errs row f n ≤ v ↔ 0 ≤ v ∧ ∀ i : Nat, i < n → (i : Int) ≠ f → row.getD i 0 - errs.getD i 0 ≤ v
  | 0 => by simp [agLo]
  | n + 1 => by
    have ih := agLo_iff (errs := errs) (row := row) (f := f) (v := v) n
    have key : (∀ i : Nat, i < n + 1 → (i : Int) ≠ f → row.getD i 0 - errs.getD i 0 ≤ v) ↔ (∀ i : Nat, i < n → (i : Int) ≠ f → row.getD i 0 - errs.getD i 0 ≤ v) ∧ ((n : Int) ≠ f → row.getD n 0 - errs.getD n 0 ≤ v) := by
      constructor
      · exact fun h => ⟨fun i hi => h i (by omega), h n (by omega)⟩
      · rintro ⟨h1, h2⟩ i hi hne
        rcases Nat.lt_or_eq_of_le (Nat.le_of_lt_succ hi) with h | h
        · exact h1 i h hne
        · subst h; exact h2 hne
    rw [key]
    simp only [agLo]
    split
    · rename_i e
      rw [ih]
      exact ⟨fun h => ⟨h.1, h.2, fun hne => absurd e hne⟩, fun h => ⟨h.1, h.2.1⟩⟩
    · rename_i e
      constructor
      · intro h
        have := ih.1 (by omega)
        exact ⟨this.1, this.2, fun _ => by omega⟩
      · rintro ⟨h1, h2, h3⟩
        have := ih.2 ⟨h1, h2⟩
        have := h3 e
        omega
theorem agHi_iff {errs row : List Int} {f v : Int} : ∀ n : Nat, v ≤ agHi errs row f n ↔ v ≤ 1000 ∧ ∀ i : Nat, i < n → (i : Int) ≠ f → v ≤ row.getD i 0 + errs.getD i 0
  | 0 => by simp [agHi]
  | n + 1 => by
    have ih := agHi_iff (errs := errs) (row := row) (f := f) (v := v) n
    have key : (∀ i : Nat, i < n + 1 → (i : Int) ≠ f → v ≤ row.getD i 0 + errs.getD i 0) ↔ (∀ i : Nat, i < n → (i : Int) ≠ f → v ≤ row.getD i 0 + errs.getD i 0) ∧ ((n : Int) ≠ f → v ≤ row.getD n 0 + errs.getD n 0) := by
      constructor
      · exact fun h => ⟨fun i hi => h i (by omega), h n (by omega)⟩
      · rintro ⟨h1, h2⟩ i hi hne
        rcases Nat.lt_or_eq_of_le (Nat.le_of_lt_succ hi) with h | h
        · exact h1 i h hne
        · subst h; exact h2 hne
    rw [key]
    simp only [agHi]
    split
    · rename_i e
      rw [ih]
      exact ⟨fun h => ⟨h.1, h.2, fun hne => absurd e hne⟩, fun h => ⟨h.1, h.2.1⟩⟩
    · rename_i e
      constructor
      · intro h
        have := ih.1 (by omega)
        exact ⟨this.1, this.2, fun _ => by omega⟩
      · rintro ⟨h1, h2, h3⟩
        have := ih.2 ⟨h1, h2⟩
        have := h3 e
        omega
end Go.Am

/- Plain words: a post with one gauge more. -/
namespace Go.Am
open Go.RowKit Go.Proofs
set_option linter.unusedSimpArgs false
set_option linter.unusedVariables false
def moreP (p : Post) (e : Int) : Post := ⟨p.errs ++ [e], p.gain, p.drop, p.fall, p.out, p.ahead⟩
def moreR (reads : List (List Int)) (x : Nat → Int) : List (List Int) := tab reads.length fun h => reads.getD h [] ++ [x h]
theorem moreR_length {reads : List (List Int)} {x : Nat → Int} : (moreR reads x).length = reads.length := tab_length
theorem moreR_get {reads : List (List Int)} {x : Nat → Int} {h : Nat} (hh : h < reads.length) : (moreR reads x).getD h [] = reads.getD h [] ++ [x h] := tab_getD hh
theorem app_get1 {l : List Int} {e : Int} {i : Nat} (h : i < l.length) : (l ++ [e]).getD i 0 = l.getD i 0 := by simp [List.getD_eq_getElem?_getD, List.getElem?_append_left h]
/-- What the old gauges say, where the new one has failed. -/
def oldF (n : Nat) (f : Int) : Int := if f = n then -1 else f
theorem more_lo {errs row : List Int} {e v f : Int} (hr : row.length = errs.length) : agLo errs row (oldF errs.length f) row.length ≤ agLo (errs ++ [e]) (row ++ [v]) f (row ++ [v]).length := by
  have h := (agLo_iff (errs := errs ++ [e]) (row := row ++ [v]) (f := f) (v := agLo (errs ++ [e]) (row ++ [v]) f (row ++ [v]).length) (row ++ [v]).length).1 (Int.le_refl _)
  rw [agLo_iff]
  refine ⟨h.1, fun i hi hne => ?_⟩
  have h2 := h.2 i (by simp; omega) (by
    intro e1
    unfold oldF at hne
    split at hne
    · omega
    · exact hne e1)
  rwa [app_get1 hi, app_get1 (by omega)] at h2
theorem more_hi {errs row : List Int} {e v f : Int} (hr : row.length = errs.length) : agHi (errs ++ [e]) (row ++ [v]) f (row ++ [v]).length ≤ agHi errs row (oldF errs.length f) row.length := by
  have h := (agHi_iff (errs := errs ++ [e]) (row := row ++ [v]) (f := f) (v := agHi (errs ++ [e]) (row ++ [v]) f (row ++ [v]).length) (row ++ [v]).length).1 (Int.le_refl _)
  rw [agHi_iff]
  refine ⟨h.1, fun i hi hne => ?_⟩
  have h2 := h.2 i (by simp; omega) (by
    intro e1
    unfold oldF at hne
    split at hne
    · omega
    · exact hne e1)
  rwa [app_get1 hi, app_get1 (by omega)] at h2
/-- No wider. -/
def NarO (a b : Option (Int × Int)) : Prop := ∀ x, a = some x → ∃ y, b = some y ∧ y.1 ≤ x.1 ∧ x.2 ≤ y.2
theorem stepX_iff {p : Post} {row : List Int} {first : Bool} {f : Int} {x z : Int × Int} : stepX p row first f x = some z ↔ agLo p.errs row f row.length ≤ agHi p.errs row f row.length ∧ z = (max (if first = true then x.1 else x.1 - p.drop) (agLo p.errs row f row.length), min (if first = true then x.2 else x.2 + p.gain) (agHi p.errs row f row.length)) ∧ z.1 ≤ z.2 := by
  unfold stepX agreedEnds
  obtain ⟨A, hA⟩ : ∃ A, (if first = true then x.1 else x.1 - p.drop) = A := ⟨_, rfl⟩
  obtain ⟨C, hC⟩ : ∃ C, (if first = true then x.2 else x.2 + p.gain) = C := ⟨_, rfl⟩
  rw [hA, hC]
  by_cases c : agHi p.errs row f row.length < agLo p.errs row f row.length
  · simp only [if_pos c, true_or, if_true]
    constructor
    · intro h; cases h
    · rintro ⟨h, _⟩; omega
  · simp only [if_neg c]
    split
    · rename_i h
      constructor
      · intro h; cases h
      · rintro ⟨h1, rfl, h3⟩
        rcases h with h | h
        · simp only [Prod.mk.injEq] at h; omega
        · simp only at h3; omega
    · rename_i h
      constructor
      · intro e
        cases e
        have h9 := fun h9 => h (.inr h9)
        exact ⟨by omega, rfl, by simp only; omega⟩
      · rintro ⟨_, rfl, _⟩; rfl
theorem step_nar {p : Post} {row : List Int} {e v f : Int} {first : Bool} {x y : Int × Int} (hr : row.length = p.errs.length) (h1 : y.1 ≤ x.1) (h2 : x.2 ≤ y.2) : NarO (stepX (moreP p e) (row ++ [v]) first f x) (stepX p row first (oldF p.errs.length f) y) := by
  intro z hz
  have a1 := more_lo (e := e) (v := v) (f := f) hr
  have a2 := more_hi (e := e) (v := v) (f := f) hr
  obtain ⟨b1, rfl, b3⟩ := stepX_iff.1 hz
  have e1 : (moreP p e).errs = p.errs ++ [e] := rfl
  have e2 : (moreP p e).drop = p.drop := rfl
  have e3 : (moreP p e).gain = p.gain := rfl
  rw [e1] at b1 b3 ⊢
  rw [e2, e3] at b3 ⊢
  simp only at b3
  refine ⟨_, stepX_iff.2 ⟨?_, rfl, ?_⟩, ?_, ?_⟩
  · omega
  · simp only
    cases first <;> simp only [Bool.false_eq_true, if_true, if_false] at b3 ⊢ <;> omega
  · simp only
    cases first <;> simp only [Bool.false_eq_true, if_true, if_false] <;> omega
  · simp only
    cases first <;> simp only [Bool.false_eq_true, if_true, if_false] <;> omega
theorem gAt_nar {p : Post} {reads : List (List Int)} {e : Int} {x : Nat → Int} (hr : ReadsOK p reads) (f : Int) : ∀ k, k ≤ reads.length → NarO (gAt (moreP p e) (moreR reads x) k f) (gAt p reads k (oldF p.errs.length f))
  | 0, _ => fun z hz => ⟨z, hz, Int.le_refl _, Int.le_refl _⟩
  | k + 1, hk => by
    have ih := gAt_nar hr (e := e) (x := x) f k (by omega)
    intro z hz
    simp only [gAt, stepG] at hz ⊢
    cases h0 : gAt (moreP p e) (moreR reads x) k f with
    | none => rw [h0] at hz; cases hz
    | some y =>
      obtain ⟨y0, e0, b1, b2⟩ := ih y h0
      rw [h0, moreR_get (by omega)] at hz
      rw [e0]
      exact step_nar (hr.rows k (by omega)).len b1 b2 z hz
theorem hull_nar {g g' : Int → Option (Int × Int)} {n : Nat} (h : ∀ f : Int, NarO (g' f) (g (oldF n f))) : ∀ m, m ≤ n + 2 → NarO (hull g' m) (hull g (n + 1))
  | 0, _ => fun z hz => by cases hz
  | m + 1, hm => by
    have ih := hull_nar h m (by omega)
    intro z hz
    simp only [hull] at hz
    cases h0 : g' ((m : Int) - 1) with
    | none => rw [h0] at hz; exact ih z hz
    | some x =>
      rw [h0] at hz
      simp only [Option.some.injEq] at hz
      obtain ⟨y, hy, b1, b2⟩ := h _ x h0
      have hidx : ∃ i : Nat, i < n + 1 ∧ oldF n ((m : Int) - 1) = (i : Int) - 1 := by
        unfold oldF
        split
        · exact ⟨0, by omega, rfl⟩
        · exact ⟨m, by omega, rfl⟩
      obtain ⟨i, hi, hie⟩ := hidx
      rw [hie] at hy
      obtain ⟨s, hs, b3, b4⟩ := hull_mem hy (n + 1) hi
      subst hz
      refine ⟨s, hs, ?_⟩
      cases h1 : hull g' m with
      | none => simp only [joinE]; omega
      | some s' =>
        obtain ⟨s2, hs2, b5, b6⟩ := ih s' h1
        rw [hs] at hs2
        cases hs2
        simp only [joinE]; omega
theorem stAt_nar {p : Post} {reads : List (List Int)} {e : Int} {x : Nat → Int} (hr : ReadsOK p reads) {k : Nat} (hk : k < reads.length) : NarO (stAt (moreP p e) (moreR reads x) k) (stAt p reads k) := by
  unfold stAt
  have : (moreP p e).errs.length + 1 = p.errs.length + 2 := by simp [moreP]
  rw [this]
  exact hull_nar (fun f => gAt_nar hr f (k + 1) (by omega)) _ (Nat.le_refl _)
theorem left_anti {p : Post} {v w : Int} (hp : PostOK p) (h : v ≤ w) : leftOf p w ≤ leftOf p v := by
  have h1 := hp.fall
  have h2 := hp.gain
  unfold leftOf
  by_cases c1 : p.fall ≤ v
  · rw [if_pos c1, if_pos (by omega)]; exact Int.le_refl _
  · rw [if_neg c1]
    by_cases c0 : p.gain = 0
    · rw [if_pos c0]
      split
      · omega
      · exact Int.le_refl _
    · rw [if_neg c0]
      have hn : 0 ≤ (p.fall - v + p.gain - 1).tdiv p.gain := Int.tdiv_nonneg (by omega) (by omega)
      split
      · exact hn
      · rw [Int.tdiv_eq_ediv_of_nonneg (by omega), Int.tdiv_eq_ediv_of_nonneg (by omega)]
        exact Int.ediv_le_ediv (by omega) (by omega)
theorem level_mono {p : Post} {v w : Int} (hp : PostOK p) (h : v ≤ w) : levelOf p v ≤ levelOf p w := by
  have h1 := left_anti hp h
  unfold levelOf
  generalize leftOf p w = a at *
  generalize leftOf p v = b at *
  split <;> split <;> (try split) <;> (try split) <;> (try split) <;> (try split) <;> omega
theorem more_fault {p : Post} {reads : List (List Int)} {e : Int} {x : Nat → Int} (hf : faultP p reads = 0) (hn : p.errs.length ≤ 9) (he : 0 ≤ e ∧ e ≤ 1000) (hx : ∀ h, h < reads.length → -1000 ≤ x h ∧ x h ≤ 2000) : faultP (moreP p e) (moreR reads x) = 0 := by
  obtain ⟨hp, hr⟩ := faultP_zero hf
  have hl := hp.len
  have hpb : postB (moreP p e) = true := by
    refine decide_eq_true ⟨?_, ?_, hp.gain, hp.drop, hp.fall, hp.out, hp.ahead⟩
    · rw [show (moreP p e).errs = p.errs ++ [e] from rfl, List.length_append, List.length_singleton]; omega
    · rw [List.all_eq_true]
      intro y hy
      rcases List.mem_append.1 hy with hy | hy
      · obtain ⟨i, hi, rfl⟩ := List.mem_iff_getElem.1 hy
        have := hp.errs i hi
        rw [List.getD_eq_getElem?_getD, List.getElem?_eq_getElem hi] at this
        exact decide_eq_true this
      · rw [List.mem_singleton] at hy
        subst hy
        exact decide_eq_true he
  unfold faultP
  rw [if_neg (by simp [hpb]), if_neg (by have := hr.len; rw [moreR_length]; omega), if_pos]
  rw [List.all_eq_true]
  intro row hrow
  simp only [moreR, tab, List.mem_map, List.mem_range] at hrow
  obtain ⟨h, hh, rfl⟩ := hrow
  have h1 := hr.rows h hh
  unfold rowB
  rw [Bool.and_eq_true]
  refine ⟨decide_eq_true (by have := h1.len; simp only [moreP, List.length_append, List.length_singleton]; omega), ?_⟩
  rw [List.all_eq_true]
  intro y hy
  rcases List.mem_append.1 hy with hy | hy
  · obtain ⟨i, hi, rfl⟩ := List.mem_iff_getElem.1 hy
    have := h1.reads i hi
    rw [List.getD_eq_getElem?_getD, List.getElem?_eq_getElem hi] at this
    exact decide_eq_true this
  · rw [List.mem_singleton] at hy
    subst hy
    exact decide_eq_true (hx h hh)
structure MoreF (reads : List (List Int)) (E E' : Int) (LA LB : List (Int × Int × Int)) : Prop where
  e : E = 0 ∨ E = 9
  e' : E' = 0 ∨ E' = 9
  ok : E' = 0 → E = 0 ∧ LA.length = reads.length ∧ LB.length = reads.length
  le : E' = 0 → ∀ h, h < reads.length → (LA.getD h default).1 ≤ (LB.getD h default).1 ∧ (LB.getD h default).2.1 ≤ (LA.getD h default).2.1 ∧ (LB.getD h default).2.2 ≤ (LA.getD h default).2.2
theorem more_levels {p : Post} {reads : List (List Int)} {e : Int} {x : Nat → Int} (ib : InB p reads) (hf : faultP p reads = 0) (hn : p.errs.length ≤ 9) (he : 0 ≤ e ∧ e ≤ 1000) (hx : ∀ h, h < reads.length → -1000 ≤ x h ∧ x h ≤ 2000) : ∃ E E' LA LB, MoreF reads E E' LA LB ∧
    CallS Try.prog 27 [.agg (postC p), sll reads] (.tup [slSt LA, .int .i64 E]) ∧ CallS Try.prog 27 [.agg (postC (moreP p e)), sll (moreR reads x)] (.tup [slSt LB, .int .i64 E']) := by
  obtain ⟨hp, hr⟩ := faultP_zero hf
  have hf2 := more_fault hf hn he hx
  have l1 := levels_c p reads ib
  have l2 := levels_c (moreP p e) (moreR reads x) ⟨by simp [moreP]; omega, by rw [moreR_length]; exact ib.n, fun i hi => by
    rw [moreR_length] at hi
    rw [moreR_get hi, List.length_append, (hr.rows i hi).len, List.length_singleton]; omega⟩
  unfold levelsL levelsE at l1 l2
  rw [if_pos hf, if_pos hf] at l1
  rw [if_pos hf2, if_pos hf2] at l2
  have hE : ∃ E LA, (E = 0 ∨ E = 9) ∧ (E = 0 → LA = states p reads reads.length ∧ brk p reads = none) ∧ (E ≠ 0 → ∃ k, brk p reads = some k) ∧ CallS Try.prog 27 [.agg (postC p), sll reads] (.tup [slSt LA, .int .i64 E]) := by
    cases hb : brk p reads with
    | none => rw [hb] at l1; exact ⟨0, _, .inl rfl, fun _ => ⟨rfl, rfl⟩, fun h => absurd rfl h, l1⟩
    | some k => rw [hb] at l1; exact ⟨9, _, .inr rfl, fun h => absurd h (by decide), fun _ => ⟨k, rfl⟩, l1⟩
  obtain ⟨E, LA, hE1, hE2, hE3, hE4⟩ := hE
  cases hb : brk (moreP p e) (moreR reads x) with
  | none =>
    rw [hb] at l2
    have hs := brk_none hb
    have hE0 : E = 0 := by
      rcases hE1 with h | h
      · exact h
      · exfalso
        obtain ⟨k, hk⟩ := hE3 (by omega)
        obtain ⟨k1, k2, k3⟩ := brk_some hk
        have h9 := hs k (by rw [moreR_length]; exact k1)
        obtain ⟨z, hz⟩ := Option.isSome_iff_exists.1 h9
        obtain ⟨y, hy, _⟩ := stAt_nar hr (e := e) (x := x) k1 z hz
        rw [k2] at hy; cases hy
    obtain ⟨eLA, _⟩ := hE2 hE0
    subst eLA
    refine ⟨E, 0, _, _, ⟨hE1, .inl rfl, fun _ => ⟨hE0, states_length, by rw [states_length, moreR_length]⟩, fun _ h hh => ?_⟩, hE4, l2⟩
    have e1 : (states p reads reads.length).getD h default = stRec p (stAt p reads h) := by simp [states, List.getD_eq_getElem?_getD, hh]
    have e2 : (states (moreP p e) (moreR reads x) (moreR reads x).length).getD h default = stRec (moreP p e) (stAt (moreP p e) (moreR reads x) h) := by
      have hh2 : h < (moreR reads x).length := by rw [moreR_length]; exact hh
      simp [states, List.getD_eq_getElem?_getD, hh2]
    rw [e1, e2]
    obtain ⟨z, hz⟩ := Option.isSome_iff_exists.1 (hs h (by rw [moreR_length]; exact hh))
    obtain ⟨y, hy, b1, b2⟩ := stAt_nar hr (e := e) (x := x) hh z hz
    rw [hz, hy]
    refine ⟨b1, b2, ?_⟩
    show levelOf (moreP p e) z.2 ≤ levelOf p y.2
    exact level_mono (p := p) hp b2
  | some k =>
    rw [hb] at l2
    exact ⟨E, 9, _, _, ⟨hE1, .inr rfl, fun h => absurd h (by decide), fun h => absurd h (by decide)⟩, hE4, l2⟩
end Go.Am

/- The law AlarmSafe, as a contract: it returns true. -/
namespace Go.Am
open Go.RowKit Go.Proofs
attribute [local irreducible] AWP CallS Kt goK CallK stepK evOps SemF SemY Imp tab
set_option maxRecDepth 4000
set_option linter.unusedSimpArgs false
set_option linter.unusedVariables false
set_option maxHeartbeats 3200000
theorem nth_st0 {l : List (Int × Int × Int)} {i : Nat} {K : AV → Prop} : optK (nth (recs stC l) (i * 3)) K = (i < l.length ∧ K (.int .i64 (l.getD i default).1)) := nth_recs (sz := 3) (o := 0) (fun _ => rfl) (by omega)
theorem nth_st1 {l : List (Int × Int × Int)} {i : Nat} {K : AV → Prop} : optK (nth (recs stC l) (i * 3 + 1)) K = (i < l.length ∧ K (.int .i64 (l.getD i default).2.1)) := nth_recs (sz := 3) (o := 1) (fun _ => rfl) (by omega)
theorem nth_st2 {l : List (Int × Int × Int)} {i : Nat} {K : AV → Prop} : optK (nth (recs stC l) (i * 3 + 2)) K = (i < l.length ∧ K (.int .u8 (l.getD i default).2.2)) := nth_recs (sz := 3) (o := 2) (fun _ => rfl) (by omega)
attribute [go_sem] nth_st0 nth_st1 nth_st2
end Go.Am

/- The law AlarmMore, as a contract: it returns true. -/
namespace Go.Am
open Go.RowKit Go.Proofs
attribute [local irreducible] AWP CallS Kt goK CallK stepK evOps SemF SemY Imp
set_option maxRecDepth 4000
set_option linter.unusedSimpArgs false
set_option linter.unusedVariables false
set_option maxHeartbeats 6400000
/-- The cells of the list of rows, of which the first h stay and the one at h is v. -/
def curR (l : List (List Int)) (x : Nat → Int) (b h : Nat) (v : AV) : List AV := tab l.length fun j => if j < h then sl (l.getD j [] ++ [x j]) else if j = h then v else .osl (b + j) 0 0 (l.getD j []).length
def tlR (l : List (List Int)) (h : Nat) : List (Option ABlk) := tab l.length fun j => if j < h then none else some (.cells 3 1 0 (ints (l.getD j [])))
theorem curR_length {l : List (List Int)} {x : Nat → Int} {b h : Nat} {v : AV} : (curR l x b h v).length = l.length := tab_length
theorem curR_zero {l : List (List Int)} {x : Nat → Int} {b : Nat} : curR l x b 0 (.osl b 0 0 (l.getD 0 []).length) = refR l b := by
  unfold curR refR tab
  refine List.map_congr_left fun j hj => ?_
  rw [if_neg (by omega)]
  split
  · rename_i e; subst e; rfl
  · rfl
theorem tlR_zero {l : List (List Int)} : tlR l 0 = blkR l := by
  unfold tlR blkR tab
  refine List.ext_getElem (by simp) fun j h1 h2 => ?_
  have hj : j < l.length := by simpa using h1
  simp [List.getD_eq_getElem?_getD, hj]
theorem curR_next {l : List (List Int)} {x : Nat → Int} {b h : Nat} : curR l x b h (sl (l.getD h [] ++ [x h])) = curR l x b (h + 1) (.osl (b + (h + 1)) 0 0 (l.getD (h + 1) []).length) := by
  unfold curR tab
  refine List.map_congr_left fun j hj => ?_
  by_cases h1 : j < h
  · rw [if_pos h1, if_pos (by omega)]
  · rw [if_neg h1]
    by_cases h2 : j = h
    · subst h2; rw [if_pos rfl, if_pos (by omega)]
    · rw [if_neg h2, if_neg (by omega)]
      split
      · rename_i e; subst e; rfl
      · rfl
theorem curR_all {l : List (List Int)} {x : Nat → Int} {b : Nat} {v : AV} : curR l x b l.length v = rowsC (moreR l x) := by
  unfold curR rowsC moreR tab
  rw [List.map_map]
  refine List.map_congr_left fun j hj => ?_
  rw [if_pos (List.mem_range.1 hj)]; rfl
theorem nth_cur {l : List (List Int)} {x : Nat → Int} {b h : Nat} {v : AV} {K : AV → Prop} (hh : h < l.length) : optK (nth (curR l x b h v) h) K = K v := by
  have : nth (curR l x b h v) h = some v := by
    rw [← nth_is]; unfold curR tab; simp [hh]
  rw [this]; rfl
theorem sp_cur {l : List (List Int)} {x : Nat → Int} {b h : Nat} {v w : AV} (hh : h < l.length) : splice (curR l x b h v) h [w] = curR l x b h w := by
  refine List.ext_getElem ?_ fun j h1 h2 => ?_
  · simp only [splice, List.length_append, List.length_take, List.length_drop, List.length_singleton, curR_length]; omega
  · have hj : j < l.length := by rw [curR_length] at h2; exact h2
    have e : splice (curR l x b h v) h [w] = (curR l x b h v).set h w := by
      rw [List.set_eq_take_append_cons_drop, if_pos (by rw [curR_length]; exact hh)]; simp [splice]
    simp only [e, List.getElem_set]
    simp only [curR, tab, List.getElem_map, List.getElem_range]
    by_cases e2 : h = j
    · subst e2; simp
    · rw [if_neg e2]
      split
      · rfl
      · rw [if_neg (Ne.symm e2), if_neg (Ne.symm e2)]
theorem fz_cur {l : List (List Int)} {x : Nat → Int} {b h g n b1 : Nat} {zs : List AV} (hb : b1 < b) : fzl (fz2 b1 g zs) (curR l x b h (.osl b1 g 0 n)) = curR l x b h (.psl false n zs) := by
  have e : ∀ (f : AV → AV) (xs : List AV), fzl f xs = xs.map f := fun f xs => by
    induction xs with
    | nil => rfl
    | cons a xs ih => simp only [fzl, List.map_cons, ih]
  rw [e]
  unfold curR tab
  rw [List.map_map]
  refine List.map_congr_left fun j hj => ?_
  simp only [Function.comp]
  split
  · simp [fz2, fz1, fz0, sl]
  · split
    · simp [fz2, fz1, fz0]
    · simp [fz2, fz1, fz0, show ¬ b + j = b1 by omega]
theorem fz_tl {l : List (List Int)} {h b g : Nat} {zs : List AV} : fzHs b g zs (tlR l h) = tlR l h := by
  have e : ∀ (H : List (Option ABlk)), fzHs b g zs H = H.map (fzO b g zs) := fun H => by
    induction H with
    | nil => rfl
    | cons a xs ih => simp only [fzHs, List.map_cons, ih]
  rw [e]
  unfold tlR tab
  rw [List.map_map]
  refine List.map_congr_left fun j hj => ?_
  simp only [Function.comp]
  split
  · rfl
  · simp only [fzO, fzB]
    rw [fz_ints]
theorem ren_cur {l : List (List Int)} {x : Nat → Int} {b h b1 : Nat} {σ : Nat → Nat} (hh : h < l.length) (h1 : σ (b + h) = b1) (h2 : ∀ j, j ≠ h → σ (b + j) = b + j) : renL σ (curR l x b h (.osl (b + h) 0 0 (l.getD h []).length)) = curR l x b h (.osl b1 0 0 (l.getD h []).length) := by
  have e : ∀ (xs : List AV), renL σ xs = xs.map (ren σ) := fun xs => by
    induction xs with
    | nil => rfl
    | cons a xs ih => simp only [renL, List.map_cons, ih]
  rw [e]
  unfold curR tab
  rw [List.map_map]
  refine List.map_congr_left fun j hj => ?_
  simp only [Function.comp]
  split
  · simp [ren, sl]
  · split
    · simp [ren, h1]
    · rename_i h3; simp [ren, h2 j h3]
theorem hget_tl {l : List (List Int)} {h j : Nat} : hget (tlR l h) j = if j < l.length then (if j < h then none else some (.cells 3 1 0 (ints (l.getD j [])))) else none := by
  rw [hget_at]
  by_cases hj : j < l.length
  · rw [if_pos hj]
    simp [tlR, tab, hj]
  · rw [if_neg hj, List.getElem?_eq_none (by simp [tlR, tab]; omega)]; rfl
theorem leH_tl {p : Nat → Bool} {l : List (List Int)} {h : Nat} : leH p (tlR l h) (tlR l h) := leH_of fun b k hk => by
  refine ⟨hk, ?_⟩
  rw [hget_tl] at hk
  split at hk
  · split at hk
    · cases hk
    · cases hk; exact live_int
  · cases hk
theorem live_cur {l : List (List Int)} {x : Nat → Int} {b h : Nat} {p : Nat → Bool} (hp : ∀ j, h ≤ j → j < l.length → p (b + j) = true) : (curR l x b h (.osl (b + h) 0 0 (l.getD h []).length)).all (live2 p) = true := by
  rw [List.all_eq_true]
  intro y hy
  simp only [curR, tab, List.mem_map, List.mem_range] at hy
  obtain ⟨j, hj, rfl⟩ := hy
  split
  · rfl
  · rename_i h1
    split
    · rename_i h2; subst h2
      simp [live2, live1, live0, hp j (Nat.le_refl _) hj]
    · simp [live2, live1, live0, hp j (by omega) hj]
def xW (words : List Int) (h : Nat) : Int := (words.getD (h % words.length) 0).tmod 1000
theorem ren_ref {l : List (List Int)} : renL (fun x => 5 + x) (refR l 1) = refR l 6 := by
  have e : ∀ (xs : List AV), renL (fun x => 5 + x) xs = xs.map (ren (fun x => 5 + x)) := fun xs => by
    induction xs with
    | nil => rfl
    | cons a xs ih => simp only [renL, List.map_cons, ih]
  rw [e]
  unfold refR
  rw [List.map_map]
  refine List.map_congr_left fun j hj => ?_
  simp only [Function.comp, ren]
  rw [show 5 + (1 + j) = 6 + j by omega]
theorem ren_ints {σ : Nat → Nat} : ∀ l : List Int, renL σ (ints l) = ints l
  | [] => rfl
  | n :: l => by
    have ih := ren_ints (σ := σ) l
    show renL σ (.int .i64 n :: ints l) = .int .i64 n :: ints l
    simp only [renL, ren, ih]
theorem ren_blk {l : List (List Int)} {σ : Nat → Nat} : (blkR l).map (Option.map (renB σ)) = blkR l := by
  unfold blkR
  rw [List.map_map]
  refine List.map_congr_left fun r _ => ?_
  simp only [Function.comp, Option.map_some, renB, ren_ints]
/-- The list at h under the number 1. -/
theorem more_renH {l : List (List Int)} {x : Nat → Int} {h : Nat} {σ : Nat → Nat} {n1 : Nat} {E1 : List Int} {a1 a2 a3 a4 a5 : Int} {c1 : Nat} {b0 : List AV} (hb0 : renL σ b0 = b0) (hh : h < l.length) (s0 : σ 0 = 0) (s1 : σ 1 = 6 + h) (s2 : σ 2 = 2) (s3 : σ 3 = 3) (s4 : σ 4 = 4) (s5 : σ 5 = 5) (s6 : σ (6 + h) = 1) (sx : ∀ j, j ≠ h → σ (6 + j) = 6 + j) (i : Nat) :
    hget (some (.cells 46 1 0 b0) :: some (.cells 3 1 0 (ints (l.getD h []))) :: none :: some (.cells 3 1 1 (ints E1)) :: some (.cells 51 1 0 [.osl 3 1 0 c1, .int .i64 a1, .int .i64 a2, .int .i64 a3, .int .i64 a4, .int .i64 a5]) :: some (.cells 22 1 n1 (curR l x 6 h (.osl 1 0 0 (l.getD h []).length))) :: tlR l (h + 1)) i =
      (hget (some (.cells 46 1 0 b0) :: none :: none :: some (.cells 3 1 1 (ints E1)) :: some (.cells 51 1 0 [.osl 3 1 0 c1, .int .i64 a1, .int .i64 a2, .int .i64 a3, .int .i64 a4, .int .i64 a5]) :: some (.cells 22 1 n1 (curR l x 6 h (.osl (6 + h) 0 0 (l.getD h []).length))) :: tlR l h) (σ i)).map (renB σ) := by
  match i with
  | 0 => rw [s0]; simp only [hget, Option.map_some, renB, hb0]
  | 1 =>
    rw [s1, Nat.add_comm 6 h]
    simp only [hget]
    rw [hget_tl, if_pos hh, if_neg (Nat.lt_irrefl _)]
    simp only [Option.map_some, renB, ren_ints]
  | 2 => rw [s2]; rfl
  | 3 => rw [s3]; simp only [hget, Option.map_some, renB, ren_ints]
  | 4 => rw [s4]; simp only [hget, Option.map_some, renB, renL, ren, s3]
  | 5 =>
    rw [s5]
    simp only [hget, Option.map_some, renB]
    rw [ren_cur hh s6 sx]
  | j + 6 =>
    by_cases e : j = h
    · subst e
      rw [Nat.add_comm j 6, s6, Nat.add_comm 6 j]
      simp only [hget]
      rw [hget_tl, if_pos hh, if_pos (by omega)]; rfl
    · rw [Nat.add_comm j 6, sx j e, Nat.add_comm 6 j]
      simp only [hget]
      rw [hget_tl, hget_tl]
      by_cases hj : j < l.length
      · rw [if_pos hj, if_pos hj]
        by_cases h2 : j < h
        · rw [if_pos (by omega), if_pos h2]; rfl
        · rw [if_neg (by omega), if_neg h2]
          simp only [Option.map_some, renB, ren_ints]
      · rw [if_neg hj, if_neg hj]; rfl
theorem more_main (p : Post) (reads : List (List Int)) (err : Int) (words : List Int) (ib : InB p reads) (he : 0 ≤ err ∧ err ≤ 65535) (hw : wordsOK words) (o1 : readyB p reads = true) (c9 : p.errs.length ≤ 9) (cw : 0 < words.length) : CallS Try.prog 4 [.agg (postC p), sll reads, .int .u16 err, slW words] (.bool true) := by
  have k1 := ready_c p reads ib
  rw [o1] at k1
  have hA := awake_c
  have hth : thinB p reads = true ∧ faultP p reads = 0 := by
    unfold readyB at o1; rw [Bool.and_eq_true] at o1; exact ⟨o1.1, of_decide_eq_true o1.2⟩
  obtain ⟨t1, t2, t3⟩ := thinB_true hth.1
  obtain ⟨hp, hr⟩ := faultP_zero hth.2
  have e9 : (9 < (p.errs.length : Int)) = False := eq_false (by omega)
  have eW : ((words.length : Int) = 0) = False := eq_false (by omega)
  have hm := tmod_bd (a := err) (b := 20) he.1 (by omega)
  obtain ⟨e, hee⟩ : ∃ e, err.tmod 20 = e := ⟨_, rfl⟩
  rw [hee] at hm
  have hxb : ∀ h, h < reads.length → -1000 ≤ xW words h ∧ xW words h ≤ 2000 := fun h _ => by
    have h1 := hw.2 (h % words.length) (Nat.mod_lt _ cw)
    have := tmod_bd (a := words.getD (h % words.length) 0) (b := 1000) h1.1 (by omega)
    unfold xW; omega
  obtain ⟨E, E', LA, LB, mf, l1, l2⟩ := more_levels (e := e) (x := xW words) ib hth.2 c9 ⟨by omega, by omega⟩ hxb
  have pO := Post_o p (by omega)
  have rO := rows_o reads (by omega) (fun i hi => by have := t3 i hi; omega)
  have hren := ren_ref (l := reads)
  have hblk := fun σ => ren_blk (l := reads) (σ := σ)
  have hie : ints p.errs ++ [AV.int .i64 e] = ints (p.errs ++ [e]) := by simp [ints]
  simp only [postC, sl, sll, slW] at k1 pO rO l1 l2 ⊢
  (refine callS_of_awp (fun w args => Try.call4 ..) Try.func4 rfl (fun w0 m0 wz => ?_); simp only [Try.ntmps4, Try.results4, initT, junks, postC, sll, sl, List.toList_toArray, List.cons_append, List.nil_append, List.length_cons, List.length_nil, Nat.reduceAdd, Nat.reduceSub])
  (repeat' (first
 | (refine awp_ownN (id := 3) 1 rfl ?_; simp (maxSteps := 4000000) only [go_sem, seval, List.append_eq, List.cons_append, List.nil_append, postC, sll, List.take_succ_cons, List.take_zero, e9, eW, hee, hie, hren, hblk, mg, sg, decide_true, decide_false])
 | (refine own_go (pO) [] rfl ?_ ?_ rfl ?_ <;> try simp (maxSteps := 4000000) only [go_sem, seval, List.append_eq, List.cons_append, List.nil_append, postC, sll, Nat.lt_irrefl, e9, eW, hee, hie, hren, hblk, mg, sg, decide_true, decide_false] <;> try decide)
 | (refine awp_ownN (id := 5) 1 rfl ?_; simp (maxSteps := 4000000) only [go_sem, seval, List.append_eq, List.cons_append, List.nil_append, postC, sll, List.take_succ_cons, List.take_zero, e9, eW, hee, hie, hren, hblk, mg, sg, decide_true, decide_false])
 | (refine own_go (rO) [] rfl ?_ ?_ rfl ?_ <;> try simp (maxSteps := 4000000) only [go_sem, seval, List.append_eq, List.cons_append, List.nil_append, postC, sll, Nat.lt_irrefl, e9, eW, hee, hie, hren, hblk, mg, sg, decide_true, decide_false] <;> try decide)
 | ((omega))
 | refine awp_seqK ?_
 | refine kt ?_
 | refine And.intro ?_ ?_
 | ((first | refine awp_stp rfl ?_ | refine awp_draw (by kernel_rfl) (by kernel_rfl) ?_ | refine Imp.le2 ?_ | refine callK_of (k1) ?_) <;> try simp (maxSteps := 4000000) only [go_sem, seval, List.append_eq, List.cons_append, List.nil_append, postC, sll, e9, eW, hee, hie, hren, hblk, mg, sg, decide_true, decide_false])
 | intro _h
 | refine awp_block ?_
 | refine awp_scope ?_
 | refine cond_b ?_ ?_
 | (show heapOK _ _ = true; kernel_rfl)
 | (show heapOK2 _ _ = true; kernel_rfl)
 | (omega)))
  refine awp_loopN reads.length (fun h => ⟨mkT 158 [(1, sll reads), (3, slW words), (4, .ptr 0 0 0), (9, .ptr 4 0 0), (10, .osl 5 reads.length 0 reads.length), (11, .int .i64 h)], some (.cells 46 1 0 (postC p)) :: none :: none :: some (.cells 3 1 1 (ints (p.errs ++ [e]))) :: some (.cells 51 1 0 [.osl 3 1 0 (p.errs.length + 1), .int .i64 p.gain, .int .i64 p.drop, .int .i64 p.fall, .int .i64 p.out, .int .i64 p.ahead]) :: some (.cells 22 1 reads.length (curR reads (xW words) 6 h (.osl (6 + h) 0 0 (reads.getD h []).length))) :: tlR reads h, []⟩) (.le2 ?_) ?_
  · simp only [Nat.add_zero, curR_zero, tlR_zero]
    simp only [postC, sl, sll, slW]; simp (maxSteps := 4000000) only [go_sem, seval, List.append_eq, List.cons_append, List.nil_append, postC, sll]
    refine ⟨live_ref fun j hj => ?_, leH_blk⟩
    unfold liveIn
    rw [Nat.add_comm 6 j]
    simp only [hget]
    rw [hget_blk hj]; rfl
  · intro h hh
    rcases Nat.lt_or_eq_of_le hh with hh1 | hh1
    · obtain ⟨σ, hσ⟩ : ∃ σ : Nat → Nat, σ = fun i => if i = 1 then 6 + h else if i = 6 + h then 1 else i := ⟨_, rfl⟩
      have s0 : σ 0 = 0 := by rw [hσ]; simp; omega
      have s1 : σ 1 = 6 + h := by rw [hσ]; simp
      have s2 : σ 2 = 2 := by rw [hσ]; simp; omega
      have s3 : σ 3 = 3 := by rw [hσ]; simp; omega
      have s4 : σ 4 = 4 := by rw [hσ]; simp; omega
      have s5 : σ 5 = 5 := by rw [hσ]; simp; omega
      have s6 : σ (6 + h) = 1 := by rw [hσ]; show (if 6 + h = 1 then 6 + h else if 6 + h = 6 + h then 1 else 6 + h) = 1; rw [if_neg (by omega), if_pos rfl]
      have sx : ∀ j, j ≠ h → σ (6 + j) = 6 + j := fun j hj => by rw [hσ]; simp only; rw [if_neg (by omega), if_neg (by omega)]
      have ss : ∀ i, σ (σ i) = i := fun i => by
        rw [hσ]
        simp only
        by_cases h1 : i = 1
        · rw [if_pos h1, if_neg (show ¬ 6 + h = 1 by omega), if_pos rfl]; exact h1.symm
        · rw [if_neg h1]
          by_cases h2 : i = 6 + h
          · rw [if_pos h2, if_pos rfl, h2]
          · rw [if_neg h2, if_neg h1, if_neg h2]
      refine awp_renum σ ss (T' := mkT 158 [(1, sll reads), (3, slW words), (4, .ptr 0 0 0), (9, .ptr 4 0 0), (10, .osl 5 reads.length 0 reads.length), (11, .int .i64 h)]) rfl (fun _ => rfl) ?_ (more_renH (x := xW words) (n1 := reads.length) ?_ hh1 s0 s1 s2 s3 s4 s5 s6 sx) ?_
      · simp only [sll, slW]; simp (maxSteps := 4000000) only [go_sem, seval, List.append_eq, List.cons_append, List.nil_append, postC, sll, renL, ren, s0, s4, s5]
        trace_state
        all_goals sorry
      · simp only [postC, sl, renL, ren]
      · clear hσ ss s0 s1 s2 s3 s4 s5 s6 sx
        have hcl := fun v => curR_length (l := reads) (x := xW words) (b := 6) (h := h) (v := v)
        have hq : (h : Int).tmod (words.length : Int) = ((h % words.length : Nat) : Int) := rfl
        have hxe : (words.getD (h % words.length) 0).tmod 1000 = xW words h := rfl
        have hwi : h % words.length < words.length := Nat.mod_lt _ cw
        have hwb := hw.2 _ hwi
        obtain ⟨rw0, hrw⟩ : ∃ rw0, reads.getD h [] = rw0 := ⟨_, rfl⟩
        have hrl := t3 h hh1
        rw [hrw] at hrl ⊢
        have hn := fun v K => nth_cur (l := reads) (x := xW words) (b := 6) (h := h) (v := v) (K := K) hh1
        have hsp := fun v w => sp_cur (l := reads) (x := xW words) (b := 6) (h := h) (v := v) (w := w) hh1
        have hir : ints rw0 ++ [AV.int .i64 (xW words h)] = ints (rw0 ++ [xW words h]) := by simp [ints]
        have hpi : pureL (ints (rw0 ++ [xW words h])) := fun y hy => by
          simp only [ints, List.mem_map] at hy
          obtain ⟨_, _, rfl⟩ := hy
          rfl
        have hfz : fzl (fz2 1 1 (ints (rw0 ++ [xW words h]))) (curR reads (xW words) 6 h (.osl 1 1 0 (rw0.length + 1))) = curR reads (xW words) 6 (h + 1) (.osl (6 + (h + 1)) 0 0 (reads.getD (h + 1) []).length) := by
          rw [fz_cur (by omega), ← curR_next, hrw]
          simp [sl]
        have hle := fun p => leH_tl (p := p) (l := reads) (h := h + 1)
        have hli : ∀ (a b c d e f : Option ABlk), (curR reads (xW words) 6 (h + 1) (.osl (6 + (h + 1)) 0 0 (reads.getD (h + 1) []).length)).all (live2 (liveIn (a :: b :: c :: d :: e :: f :: tlR reads (h + 1)))) = true := fun a b c d e f => live_cur fun j h1 h2 => by
          unfold liveIn
          rw [Nat.add_comm 6 j]
          simp only [hget]
          rw [hget_tl, if_pos h2, if_neg (by omega)]; rfl
        simp only [postC, sl, sll, slW]; simp (maxSteps := 4000000) only [go_sem, seval, List.append_eq, List.cons_append, List.nil_append, postC, sll]
        (repeat' (first
 | ((omega))
 | refine awp_seqK ?_
 | refine kt ?_
 | refine And.intro ?_ ?_
 | ((first | refine awp_stp rfl ?_ | refine Imp.le2 ?_) <;> try simp (maxSteps := 4000000) only [go_sem, seval, List.append_eq, List.cons_append, List.nil_append, postC, sll, hcl, hn, hsp, hq, hxe])
 | intro _h
 | refine awp_block ?_
 | refine awp_scope ?_
 | refine cond_b ?_ ?_
 | (show heapOK _ _ = true; kernel_rfl)
 | (show heapOK2 _ _ = true; kernel_rfl)
 | (omega)))
        refine awp_draw (by kernel_rfl) (by kernel_rfl) ?_
        simp (maxSteps := 4000000) only [go_sem, seval, List.append_eq, List.cons_append, List.nil_append, postC, sll, hcl, hn, hsp, hq, hxe, hir]
        (repeat' (first
 | ((refine awp_frz (c := .region 8 _ _) 1 rfl hpi (fun _ => rfl) ?_; simp only [hseto, hset, lseto, lset, frz, hfz, fz_tl, fz_ints, fz_rows, fzB_c, fzB_m, fzB_d, fzB_l, fzO, fzH, fzHs, fzl, fz2, fz1, fz0, List.map_cons, List.map_nil, if_true, if_false, reduceIte, Nat.reduceEqDiff, Nat.reduceAdd, Nat.succ_ne_self, Nat.zero_ne_one, Nat.one_ne_zero, reduceCtorEq, and_self]))
 | ((exact hli _ _ _ _ _ _))
 | ((exact hle _))
 | ((omega))
 | refine awp_seqK ?_
 | refine kt ?_
 | refine And.intro ?_ ?_
 | ((first | refine awp_stp rfl ?_ | refine Imp.le2 ?_) <;> try simp (maxSteps := 4000000) only [go_sem, seval, List.append_eq, List.cons_append, List.nil_append, postC, sll, hcl, hn, hsp, hq, hxe, hir])
 | intro _h
 | refine awp_block ?_
 | refine awp_scope ?_
 | refine cond_b ?_ ?_
 | (show heapOK _ _ = true; kernel_rfl)
 | (show heapOK2 _ _ = true; kernel_rfl)
 | (omega)))
        all_goals first | rfl | exact hli _ _ _ _ _ _ | exact hle _ | trace_state
    · subst hh1
      have hca := curR_all (l := reads) (x := xW words) (b := 6) (v := .osl (6 + reads.length) 0 0 (reads.getD reads.length []).length)
      have hml := moreR_length (reads := reads) (x := xW words)
      have pc := Post_c p (by omega)
      have rc := rows_c reads (by omega) (fun i hi => by have := t3 i hi; omega)
      simp only [hca]
      refine AWP.le2 (s' := ⟨mkT 158 [(1, sll reads), (3, slW words), (4, .ptr 0 0 0), (9, .ptr 4 0 0), (10, .osl 5 reads.length 0 reads.length), (11, .int .i64 reads.length)], some (.cells 46 1 0 (postC p)) :: none :: none :: some (.cells 3 1 1 (ints (p.errs ++ [e]))) :: some (.cells 51 1 0 [.osl 3 1 0 (p.errs.length + 1), .int .i64 p.gain, .int .i64 p.drop, .int .i64 p.fall, .int .i64 p.out, .int .i64 p.ahead]) :: some (.cells 22 1 reads.length (rowsC (moreR reads (xW words)))) :: [], []⟩) (by simp only [postC, sl, sll, slW]; simp (maxSteps := 4000000) only [go_sem, seval, List.append_eq, List.cons_append, List.nil_append, postC, sll]) ?_
      simp only [moreP, postC, sl, slSt] at l2
      simp only [slSt] at l1
      simp only [postC, sl, sll] at pc rc
      rw [hml] at l2
      have hel : (p.errs ++ [e]).length = p.errs.length + 1 := by simp
      rw [hel] at l2
      obtain ⟨mE, mE', mok, mle⟩ := mf
      rcases mE' with rfl | rfl
      · obtain ⟨rfl, hla, hlb⟩ := mok rfl
        have mle := mle rfl
        have qa : ((LA.length : Int) = reads.length) = True := eq_true (by omega)
        have qb : ((LB.length : Int) = reads.length) = True := eq_true (by omega)
        simp only [postC, sl, sll, slW]; simp (maxSteps := 4000000) only [go_sem, seval, List.append_eq, List.cons_append, List.nil_append, postC, sll]
        (repeat' (first
 | (refine awp_frz (c := .region 10 _ _) 3 rfl (by simp (maxSteps := 4000000) only [go_sem, seval, List.append_eq, List.cons_append, List.nil_append, postC, sll, qa, qb, decide_true, Bool.not_true]) (fun _ => rfl) ?_; simp only [frz, fzl, fz2, fz1, fz0, fzH, fzHs, fzO, fzB, List.map_cons, List.map_nil, if_true, if_false, reduceIte, Nat.reduceEqDiff, Nat.reduceAdd, Nat.succ_ne_self, Nat.zero_ne_one, Nat.one_ne_zero, reduceCtorEq, and_self])
 | (refine awp_frz (c := .region 10 _ _) 5 rfl (by simp (maxSteps := 4000000) only [go_sem, seval, List.append_eq, List.cons_append, List.nil_append, postC, sll, qa, qb, decide_true, Bool.not_true]) (fun _ => rfl) ?_; simp only [frz, fzl, fz2, fz1, fz0, fzH, fzHs, fzO, fzB, List.map_cons, List.map_nil, if_true, if_false, reduceIte, Nat.reduceEqDiff, Nat.reduceAdd, Nat.succ_ne_self, Nat.zero_ne_one, Nat.one_ne_zero, reduceCtorEq, and_self])
 | ((omega))
 | refine awp_seqK ?_
 | refine kt ?_
 | refine And.intro ?_ ?_
 | ((first | refine awp_stp rfl ?_ | refine Imp.le2 ?_ | refine callK_of (pc) ?_ | refine callK_of (rc) ?_ | refine callK_of (l1) ?_ | refine callK_of (l2) ?_) <;> try simp (maxSteps := 4000000) only [go_sem, seval, List.append_eq, List.cons_append, List.nil_append, postC, sll, qa, qb, decide_true, Bool.not_true])
 | intro _h
 | refine awp_block ?_
 | refine awp_scope ?_
 | refine cond_b ?_ ?_
 | (show heapOK _ _ = true; kernel_rfl)
 | (show heapOK2 _ _ = true; kernel_rfl)
 | (omega)))
        refine awp_loopN LA.length (fun h => ⟨mkT 158 [(1, sll reads), (12, .psl false LA.length (recs stC LA)), (14, .psl false LB.length (recs stC LB)), (16, .int .i64 h)], [], []⟩) (.le2 ?_) ?_
        · simp only [sll]; simp (maxSteps := 4000000) only [go_sem, seval, List.append_eq, List.cons_append, List.nil_append, postC, sll]
          all_goals trace_state
        · intro h hh
          rcases Nat.lt_or_eq_of_le hh with hh1 | hh1
          · obtain ⟨m1, m2, m3⟩ := mle h (by omega)
            have g1 : ((LB.getD h default).1 < (LA.getD h default).1) = False := eq_false (by omega)
            have g2 : ((LA.getD h default).2.1 < (LB.getD h default).2.1) = False := eq_false (by omega)
            have g3 : ((LA.getD h default).2.2 < (LB.getD h default).2.2) = False := eq_false (by omega)
            simp only [sll]; simp (maxSteps := 4000000) only [go_sem, seval, List.append_eq, List.cons_append, List.nil_append, postC, sll]
            (repeat' (first
 | ((omega))
 | ((exfalso; omega))
 | refine awp_seqK ?_
 | refine kt ?_
 | refine And.intro ?_ ?_
 | ((first | refine awp_stp rfl ?_ | refine awp_draw (by kernel_rfl) (by kernel_rfl) ?_ | refine Imp.le2 ?_) <;> try simp (maxSteps := 4000000) only [go_sem, seval, List.append_eq, List.cons_append, List.nil_append, postC, sll, nth_st0, nth_st1, nth_st2, g1, g2, g3, decide_false])
 | intro _h
 | refine awp_block ?_
 | refine awp_scope ?_
 | refine cond_b ?_ ?_
 | (show heapOK _ _ = true; kernel_rfl)
 | (show heapOK2 _ _ = true; kernel_rfl)
 | (omega)))
            all_goals first | rfl | exact ⟨rfl, rfl⟩ | trace_state
          · subst hh1
            simp only [sll]; simp (maxSteps := 4000000) only [go_sem, seval, List.append_eq, List.cons_append, List.nil_append, postC, sll]
            (repeat' (first
 | ((omega))
 | ((exfalso; omega))
 | refine awp_seqK ?_
 | refine kt ?_
 | refine And.intro ?_ ?_
 | ((first | refine awp_stp rfl ?_ | refine awp_draw (by kernel_rfl) (by kernel_rfl) ?_ | refine Imp.le2 ?_ | refine callK_of (hA) ?_) <;> try simp (maxSteps := 4000000) only [go_sem, seval, List.append_eq, List.cons_append, List.nil_append, postC, sll])
 | intro _h
 | refine awp_block ?_
 | refine awp_scope ?_
 | refine cond_b ?_ ?_
 | (show heapOK _ _ = true; kernel_rfl)
 | (show heapOK2 _ _ = true; kernel_rfl)
 | (omega)))
            all_goals trace_state
      · rcases mE with rfl | rfl
        · simp only [postC, sl, sll, slW]; simp (maxSteps := 4000000) only [go_sem, seval, List.append_eq, List.cons_append, List.nil_append, postC, sll]
          (repeat' (first
 | (refine awp_frz (c := .region 10 _ _) 3 rfl (by simp (maxSteps := 4000000) only [go_sem, seval, List.append_eq, List.cons_append, List.nil_append, postC, sll, decide_true, decide_false]) (fun _ => rfl) ?_; simp only [frz, fzl, fz2, fz1, fz0, fzH, fzHs, fzO, fzB, List.map_cons, List.map_nil, if_true, if_false, reduceIte, Nat.reduceEqDiff, Nat.reduceAdd, Nat.succ_ne_self, Nat.zero_ne_one, Nat.one_ne_zero, reduceCtorEq, and_self])
 | (refine awp_frz (c := .region 10 _ _) 5 rfl (by simp (maxSteps := 4000000) only [go_sem, seval, List.append_eq, List.cons_append, List.nil_append, postC, sll, decide_true, decide_false]) (fun _ => rfl) ?_; simp only [frz, fzl, fz2, fz1, fz0, fzH, fzHs, fzO, fzB, List.map_cons, List.map_nil, if_true, if_false, reduceIte, Nat.reduceEqDiff, Nat.reduceAdd, Nat.succ_ne_self, Nat.zero_ne_one, Nat.one_ne_zero, reduceCtorEq, and_self])
 | ((omega))
 | refine awp_seqK ?_
 | refine kt ?_
 | refine And.intro ?_ ?_
 | ((first | refine awp_stp rfl ?_ | refine Imp.le2 ?_ | refine callK_of (pc) ?_ | refine callK_of (rc) ?_ | refine callK_of (l1) ?_ | refine callK_of (l2) ?_ | refine callK_of (hA) ?_) <;> try simp (maxSteps := 4000000) only [go_sem, seval, List.append_eq, List.cons_append, List.nil_append, postC, sll, decide_true, decide_false])
 | intro _h
 | refine awp_block ?_
 | refine awp_scope ?_
 | refine cond_b ?_ ?_
 | (show heapOK _ _ = true; kernel_rfl)
 | (show heapOK2 _ _ = true; kernel_rfl)
 | (omega)))
          all_goals trace_state
        · simp only [postC, sl, sll, slW]; simp (maxSteps := 4000000) only [go_sem, seval, List.append_eq, List.cons_append, List.nil_append, postC, sll]
          (repeat' (first
 | (refine awp_frz (c := .region 10 _ _) 3 rfl (by simp (maxSteps := 4000000) only [go_sem, seval, List.append_eq, List.cons_append, List.nil_append, postC, sll, decide_true, decide_false]) (fun _ => rfl) ?_; simp only [frz, fzl, fz2, fz1, fz0, fzH, fzHs, fzO, fzB, List.map_cons, List.map_nil, if_true, if_false, reduceIte, Nat.reduceEqDiff, Nat.reduceAdd, Nat.succ_ne_self, Nat.zero_ne_one, Nat.one_ne_zero, reduceCtorEq, and_self])
 | (refine awp_frz (c := .region 10 _ _) 5 rfl (by simp (maxSteps := 4000000) only [go_sem, seval, List.append_eq, List.cons_append, List.nil_append, postC, sll, decide_true, decide_false]) (fun _ => rfl) ?_; simp only [frz, fzl, fz2, fz1, fz0, fzH, fzHs, fzO, fzB, List.map_cons, List.map_nil, if_true, if_false, reduceIte, Nat.reduceEqDiff, Nat.reduceAdd, Nat.succ_ne_self, Nat.zero_ne_one, Nat.one_ne_zero, reduceCtorEq, and_self])
 | ((omega))
 | refine awp_seqK ?_
 | refine kt ?_
 | refine And.intro ?_ ?_
 | ((first | refine awp_stp rfl ?_ | refine Imp.le2 ?_ | refine callK_of (pc) ?_ | refine callK_of (rc) ?_ | refine callK_of (l1) ?_ | refine callK_of (l2) ?_ | refine callK_of (hA) ?_) <;> try simp (maxSteps := 4000000) only [go_sem, seval, List.append_eq, List.cons_append, List.nil_append, postC, sll, decide_true, decide_false])
 | intro _h
 | refine awp_block ?_
 | refine awp_scope ?_
 | refine cond_b ?_ ?_
 | (show heapOK _ _ = true; kernel_rfl)
 | (show heapOK2 _ _ = true; kernel_rfl)
 | (omega)))
          all_goals trace_state
theorem alarmMore_c (p : Post) (reads : List (List Int)) (err : Int) (words : List Int) (ib : InB p reads) (he : 0 ≤ err ∧ err ≤ 65535) (hw : wordsOK words) : CallS Try.prog 4 [.agg (postC p), sll reads, .int .u16 err, slW words] (.bool true) := by
  have k1 := ready_c p reads ib
  have hA := awake_c
  have hbn := ib.e
  have hwn := hw.1
  cases o1 : readyB p reads with
  | false =>
    rw [o1] at k1
    simp only [postC, sl, sll, slW] at k1 ⊢
    (refine callS_of_awp (fun w args => Try.call4 ..) Try.func4 rfl (fun w0 m0 wz => ?_); simp only [Try.ntmps4, Try.results4, initT, junks, postC, sll, sl, List.toList_toArray, List.cons_append, List.nil_append, List.length_cons, List.length_nil, Nat.reduceAdd, Nat.reduceSub])
    (repeat' (first
 | refine awp_seqK ?_
 | refine kt ?_
 | refine And.intro ?_ ?_
 | ((first | refine awp_stp rfl ?_ | refine awp_draw (by kernel_rfl) (by kernel_rfl) ?_ | refine Imp.le2 ?_ | refine callK_of (k1) ?_ | refine callK_of (hA) ?_ | refine go_split (fun _h => ?_) (fun _h => ?_)) <;> try simp (maxSteps := 4000000) only [go_sem, seval, List.append_eq, List.cons_append, List.nil_append, postC, sll])
 | intro _h
 | refine awp_block ?_
 | refine awp_scope ?_
 | refine cond_b ?_ ?_
 | (show heapOK _ _ = true; kernel_rfl)
 | (show heapOK2 _ _ = true; kernel_rfl)
 | (omega)))
    all_goals trace_state
  | true =>
    by_cases c9 : p.errs.length ≤ 9
    · by_cases cw : 0 < words.length
      · exact more_main p reads err words ib he hw o1 c9 cw
      · have e9 : (9 < (p.errs.length : Int)) = False := eq_false (by omega)
        have eW : ((words.length : Int) = 0) = True := eq_true (by omega)
        rw [o1] at k1
        simp only [postC, sl, sll, slW] at k1 ⊢
        (refine callS_of_awp (fun w args => Try.call4 ..) Try.func4 rfl (fun w0 m0 wz => ?_); simp only [Try.ntmps4, Try.results4, initT, junks, postC, sll, sl, List.toList_toArray, List.cons_append, List.nil_append, List.length_cons, List.length_nil, Nat.reduceAdd, Nat.reduceSub])
        (repeat' (first
 | ((exfalso; omega))
 | refine awp_seqK ?_
 | refine kt ?_
 | refine And.intro ?_ ?_
 | ((first | refine awp_stp rfl ?_ | refine awp_draw (by kernel_rfl) (by kernel_rfl) ?_ | refine Imp.le2 ?_ | refine callK_of (k1) ?_ | refine callK_of (hA) ?_ | refine go_split (fun _h => ?_) (fun _h => ?_)) <;> try simp (maxSteps := 4000000) only [go_sem, seval, List.append_eq, List.cons_append, List.nil_append, postC, sll, e9, eW, decide_true, decide_false])
 | intro _h
 | refine awp_block ?_
 | refine awp_scope ?_
 | refine cond_b ?_ ?_
 | (show heapOK _ _ = true; kernel_rfl)
 | (show heapOK2 _ _ = true; kernel_rfl)
 | (omega)))
        all_goals trace_state
    · have e9 : (9 < (p.errs.length : Int)) = True := eq_true (by omega)
      rw [o1] at k1
      simp only [postC, sl, sll, slW] at k1 ⊢
      (refine callS_of_awp (fun w args => Try.call4 ..) Try.func4 rfl (fun w0 m0 wz => ?_); simp only [Try.ntmps4, Try.results4, initT, junks, postC, sll, sl, List.toList_toArray, List.cons_append, List.nil_append, List.length_cons, List.length_nil, Nat.reduceAdd, Nat.reduceSub])
      (repeat' (first
 | ((exfalso; omega))
 | refine awp_seqK ?_
 | refine kt ?_
 | refine And.intro ?_ ?_
 | ((first | refine awp_stp rfl ?_ | refine awp_draw (by kernel_rfl) (by kernel_rfl) ?_ | refine Imp.le2 ?_ | refine callK_of (k1) ?_ | refine callK_of (hA) ?_ | refine go_split (fun _h => ?_) (fun _h => ?_)) <;> try simp (maxSteps := 4000000) only [go_sem, seval, List.append_eq, List.cons_append, List.nil_append, postC, sll, e9, decide_true, decide_false])
 | intro _h
 | refine awp_block ?_
 | refine awp_scope ?_
 | refine cond_b ?_ ?_
 | (show heapOK _ _ = true; kernel_rfl)
 | (show heapOK2 _ _ = true; kernel_rfl)
 | (omega)))
      all_goals trace_state
end Go.Am
