/- Parts TwC, TwD, TwE, TnB, TnE of the proof, one behind the other. No statement is proved here. -/
import Derived.Test.YtghlpjfpfjpddaaK7
import Derived.Test.YtghlpjfpfjpddaaK5
import Derived.Test.YtghlpjfpfjpddaaK3
import Derived.Test.YtghlpjfpfjpddaaK6
set_option linter.unusedVariables false -- all
set_option linter.unusedSimpArgs false
/- Contracts of the away functions: the reference's Fewest, walked. -/
namespace Go.Am
open Go.RowKit Go.Proofs
attribute [local irreducible] AWP CallS Kt goK CallK stepK evOps SemF SemY Imp
set_option maxRecDepth 4000
set_option linter.unusedSimpArgs false
set_option linter.unusedVariables false
set_option maxHeartbeats 6400000
/-- A plan at a stage: so many homes are in it. -/
structure StaR (t : Town) (n : Nat) (P : List Bus) : Prop where
  len : P.length ≤ n
  one : ∀ j, j < P.length → OneP t (P.getD j default)
/-- The buses, of which the one at i is a list of its own yet. -/
def encX (i g L : Nat) (q : Nat × Bus) : List AV := [.int .i64 q.2.leave, .int .i64 q.2.hall, if q.1 = i then .osl 2 g 0 L else sl q.2.homes]
def idxL (P : List Bus) (k : Nat) : List (Nat × Bus) := tab k fun j => (j, P.getD j default)
def celX (P : List Bus) (i g L k : Nat) : List AV := recs (encX i g L) (idxL P k)
theorem encX_no {i g L j : Nat} {b : Bus} (h : j ≠ i) : encX i g L (j, b) = busC b := by simp only [encX, busC, if_neg h]
theorem idxL_length {P : List Bus} {k : Nat} : (idxL P k).length = k := tab_length
theorem idxL_succ {P : List Bus} {k : Nat} : idxL P (k + 1) = idxL P k ++ [(k, P.getD k default)] := by
  unfold idxL tab
  rw [List.range_succ, List.map_append]
  rfl
theorem celX_length {P : List Bus} {i g L k : Nat} : (celX P i g L k).length = k * 3 := by
  unfold celX
  rw [recs_length (sz := 3) (fun _ => rfl), idxL_length]
theorem celX_succ {P : List Bus} {i g L k : Nat} (h : k ≠ i) : celX P i g L k ++ busC (P.getD k default) = celX P i g L (k + 1) := by
  unfold celX
  rw [idxL_succ, recs_snoc, encX_no h]
theorem takeB_succ {P : List Bus} {k : Nat} (h : k < P.length) : recs busC (P.take k) ++ busC (P.getD k default) = recs busC (P.take (k + 1)) := by
  rw [take_snoc (d := default) h, recs_snoc]
theorem celX_le {P : List Bus} {i g L : Nat} : ∀ k, k ≤ i → k ≤ P.length → celX P i g L k = recs busC (P.take k)
  | 0, _, _ => rfl
  | k + 1, h, hk => by rw [← celX_succ (by omega), celX_le k (by omega) (by omega), takeB_succ (by omega)]
theorem celX_own {P : List Bus} {i g L : Nat} (h : i < P.length) : recs busC (P.take i) ++ [.int .i64 (P.getD i default).leave, .int .i64 (P.getD i default).hall, .osl 2 g 0 L] = celX P i g L (i + 1) := by
  rw [← celX_le (g := g) (L := L) i (Nat.le_refl _) (by omega)]
  unfold celX
  rw [idxL_succ, recs_snoc]
  simp only [encX, if_true]
theorem live_celX {P : List Bus} {i g L k : Nat} {p : Nat → Bool} (hp : p 2 = true) : (celX P i g L k).all (live2 p) = true := by
  rw [List.all_eq_true]
  intro y hy
  unfold celX at hy
  simp only [recs, List.mem_flatMap] at hy
  obtain ⟨q, _, hy⟩ := hy
  simp only [encX, List.mem_cons, List.not_mem_nil, or_false] at hy
  rcases hy with rfl | rfl | rfl
  · rfl
  · rfl
  · split
    · simp [live2, live1, live0, hp]
    · rfl
instance {l : List Int} : Still (ints l) := ⟨fun y hy => by
  simp only [ints, List.mem_map] at hy
  obtain ⟨n, _, rfl⟩ := hy
  rfl⟩
instance {l : List Bus} : Still (recs busC l) := ⟨fun y hy => by
  simp only [recs, List.mem_flatMap] at hy
  obtain ⟨h, _, hy⟩ := hy
  simp only [busC, sl, List.mem_cons, List.not_mem_nil, or_false] at hy
  rcases hy with rfl | rfl | rfl <;> rfl⟩
theorem fzl_app {f : AV → AV} : ∀ {l m : List AV}, fzl f (l ++ m) = fzl f l ++ fzl f m
  | [], m => rfl
  | x :: l, m => by simp only [List.cons_append, fzl, fzl_app]
theorem fz_take {P : List Bus} {k b g : Nat} {a c : Int} {n : Nat} {zs : List AV} (hz : True) : fzl (fz2 b g zs) (recs busC (P.take k) ++ [.int .i64 a, .int .i64 c, .osl b g 0 n]) = recs busC (P.take k) ++ [.int .i64 a, .int .i64 c, .psl false n zs] := by
  rw [fzl_app, fq_pure]
  simp [fzl, fz2, fz1, fz0]
theorem fz_celX {P : List Bus} {i g L : Nat} {zs : List AV} {b g' : Nat} (hb : b ≠ 2) : ∀ k, fzl (fz2 b g' zs) (celX P i g L k) = celX P i g L k
  | 0 => rfl
  | k + 1 => by
    have ih := fz_celX (P := P) (i := i) (g := g) (L := L) (zs := zs) (g' := g') hb k
    unfold celX at ih ⊢
    rw [idxL_succ, recs_snoc, fzl_app, ih]
    congr 1
    simp only [encX]
    split
    · simp [fzl, fz2, fz1, fz0, Ne.symm hb]
    · simp [fzl, fz2, fz1, fz0, sl]
theorem fz_next {P : List Bus} {i L k g b : Nat} (hb : b ≠ 2) {a c : Int} {n : Nat} {zs : List AV} : fzl (fz2 b 0 zs) (celX P i g L k ++ [.int .i64 a, .int .i64 c, .osl b 0 0 n]) = celX P i g L k ++ [.int .i64 a, .int .i64 c, .psl false n zs] := by
  rw [fzl_app, fz_celX hb]
  simp [fzl, fz2, fz1, fz0]
/-- The cells, of which the bus at i is looked at. -/
def midC (P : List Bus) (i : Nat) (v : List AV) : List AV := recs busC (P.take i) ++ (v ++ recs busC (P.drop (i + 1)))
theorem takeB_length {P : List Bus} {i : Nat} (hi : i ≤ P.length) : (recs busC (P.take i)).length = i * 3 := by
  rw [recs_length (sz := 3) (fun _ => rfl), List.length_take, Nat.min_eq_left hi]
theorem celX_gt {P : List Bus} {i g L : Nat} (hi : i < P.length) : ∀ d, i + 1 + d ≤ P.length → celX P i g L (i + 1 + d) = recs busC (P.take i) ++ ([.int .i64 (P.getD i default).leave, .int .i64 (P.getD i default).hall, .osl 2 g 0 L] ++ recs busC ((P.drop (i + 1)).take d))
  | 0, _ => by
    rw [Nat.add_zero, ← celX_own hi]
    simp [recs]
  | d + 1, h => by
    have hd : d < (P.drop (i + 1)).length := by rw [List.length_drop]; omega
    rw [← Nat.add_assoc, ← celX_succ (by omega), celX_gt hi d (by omega), take_snoc (d := default) hd, recs_snoc]
    have : (P.drop (i + 1)).getD d default = P.getD (i + 1 + d) default := by simp [List.getD_eq_getElem?_getD]
    rw [this]
    simp only [List.append_assoc]
theorem celX_mid {P : List Bus} {i g L : Nat} (hi : i < P.length) : celX P i g L P.length = midC P i [.int .i64 (P.getD i default).leave, .int .i64 (P.getD i default).hall, .osl 2 g 0 L] := by
  have := celX_gt (P := P) (g := g) (L := L) hi (P.length - (i + 1)) (by omega)
  rw [show i + 1 + (P.length - (i + 1)) = P.length by omega] at this
  have e : (P.drop (i + 1)).take (P.length - (i + 1)) = P.drop (i + 1) := List.take_of_length_le (by rw [List.length_drop]; exact Nat.le_refl _)
  rw [this, midC, e]
theorem mid_length {P : List Bus} {i : Nat} {x y z : AV} (hi : i < P.length) : (midC P i [x, y, z]).length = P.length * 3 := by
  unfold midC
  rw [List.length_append, takeB_length (by omega), List.length_append, recs_length (sz := 3) (fun _ => rfl), List.length_drop]
  simp only [List.length_cons, List.length_nil]
  omega
theorem mid_nth0 {P : List Bus} {i : Nat} {x y z : AV} (hi : i < P.length) {K : AV → Prop} : optK (nth (midC P i [x, y, z]) (i * 3)) K = K x := by
  have : nth (midC P i [x, y, z]) (i * 3) = some x := by
    rw [← nth_is]; unfold midC
    rw [List.getElem?_append_right (by rw [takeB_length (by omega)]; omega), takeB_length (by omega), Nat.sub_self]; rfl
  rw [this]; rfl
theorem mid_nth2 {P : List Bus} {i : Nat} {x y z : AV} (hi : i < P.length) {K : AV → Prop} : optK (nth (midC P i [x, y, z]) (i * 3 + 2)) K = K z := by
  have : nth (midC P i [x, y, z]) (i * 3 + 2) = some z := by
    rw [← nth_is]; unfold midC
    rw [List.getElem?_append_right (by rw [takeB_length (by omega)]; omega), takeB_length (by omega), Nat.add_sub_cancel_left]; rfl
  rw [this]; rfl
theorem mid_sp0 {P : List Bus} {i : Nat} {x y z v : AV} (hi : i < P.length) : splice (midC P i [x, y, z]) (i * 3) [v] = midC P i [v, y, z] := by
  have e := takeB_length (P := P) (i := i) (by omega)
  unfold splice midC
  generalize recs busC (P.take i) = A at *
  rw [← e, List.take_append_of_le_length (Nat.le_refl _), List.take_length, show A.length + [v].length = A.length + 1 from rfl, List.drop_length_add_append]
  simp
theorem mid_sp2 {P : List Bus} {i : Nat} {x y z v : AV} (hi : i < P.length) : splice (midC P i [x, y, z]) (i * 3 + 2) [v] = midC P i [x, y, v] := by
  have e := takeB_length (P := P) (i := i) (by omega)
  unfold splice midC
  generalize recs busC (P.take i) = A at *
  rw [← e, List.take_length_add_append, show A.length + 2 + [v].length = A.length + 3 from rfl, List.drop_length_add_append]
  simp
theorem set_split {α : Type} {l : List α} {i : Nat} {v : α} (h : i < l.length) : l.set i v = l.take i ++ v :: l.drop (i + 1) := by rw [List.set_eq_take_append_cons_drop, if_pos h]
theorem fz_mid {P : List Bus} {i : Nat} {a : Int} {zs : List Int} (hi : i < P.length) : fzl (fz2 2 1 (ints zs)) (midC P i [.int .i64 a, .int .i64 (P.getD i default).hall, .osl 2 1 0 zs.length]) = recs busC (P.set i ⟨a, (P.getD i default).hall, zs⟩) := by
  rw [set_split hi]
  unfold midC
  rw [fzl_app, fzl_app, fq_pure (ys := recs busC (P.take i)), fq_pure (ys := recs busC (P.drop (i + 1)))]
  have e : ∀ (l m : List Bus) (b : Bus), recs busC (l ++ b :: m) = recs busC l ++ (busC b ++ recs busC m) := fun l m b => by simp [recs]
  rw [e]
  simp [fzl, fz2, fz1, fz0, busC, sl]
theorem staR_sh {t : Town} {n : Nat} {P : List Bus} (hP : StaR t n P) (hn : n ≤ 8) (ht : TownOK t) : PlanS P := by
  have := hP.len
  refine ⟨by omega, fun b hb => ?_⟩
  obtain ⟨j, hj, rfl⟩ := mem_getD (d := default) hb
  have h1 := rise_le (hP.one j hj)
  have := ht.homes
  omega
theorem putB_len {t : Town} {P : List Bus} {n i k : Nat} : (putB t P n i k).length ≤ P.length + 1 := by
  unfold putB
  split <;> simp
theorem putB_sta {t : Town} {P : List Bus} {n i k : Nat} (hP : StaR t n P) (hi : i ≤ P.length) (h1 : OneP t ((putB t P n i k).getD i default)) : StaR t (n + 1) (putB t P n i k) := by
  refine ⟨by have := putB_len (t := t) (P := P) (n := n) (i := i) (k := k); have := hP.len; omega, fun j hj => ?_⟩
  by_cases e : j = i
  · subst e; exact h1
  · have : (putB t P n i k).getD j default = P.getD j default ∧ j < P.length := by
      unfold putB at hj ⊢
      split at hj
      · rename_i h
        rw [if_pos h]
        simp only [List.length_set] at hj
        simp only [List.getD_eq_getElem?_getD, List.getElem?_set, if_neg (Ne.symm e)]
        exact ⟨trivial, hj⟩
      · rename_i h
        rw [if_neg h]
        rw [List.length_append, List.length_singleton] at hj
        have hj2 : j < P.length := by omega
        simp only [List.getD_eq_getElem?_getD, List.getElem?_append_left hj2]
        exact ⟨trivial, hj2⟩
    rw [this.1]
    exact hP.one j this.2
theorem rFewest_leaf (t : Town) (ht : TownOK t) (n : Nat) (hm : n ≤ t.homes.length) (P : List Bus) (hP : StaR t n P) : CallS Try.prog 29 [.agg (townC t), .int .i64 n, .int .i64 n, slB P] (.int .i64 (fewR t n 0 n P)) := by
  have hln := ht.homes
  have hsh := staR_sh hP (by omega) ht
  have hr := rRightM_c t P n ht hsh hm
  have hpl := hsh.1
  unfold fewR
  cases hq : refM t P n <;> rw [hq] at hr
  · simp only [townC, slH, slL, sl, slB] at hr ⊢
    (refine callS_of_awp (fun w args => Try.call29 ..) Try.func29 rfl (fun w0 m0 wz => ?_); simp only [Try.ntmps29, Try.results29, initT, junks, homeC, hallC, slH, slL, townC, sl, List.toList_toArray, List.cons_append, List.nil_append, List.length_cons, List.length_nil, Nat.reduceAdd, Nat.reduceSub])
    (repeat' (first
 | ((exfalso; omega))
 | refine awp_seqK ?_
 | refine kt ?_
 | refine And.intro ?_ ?_
 | ((first | refine awp_stp rfl ?_ | refine awp_draw (by kernel_rfl) (by kernel_rfl) ?_ | refine Imp.le2 ?_ | refine callK_of (hr) ?_ | refine go_split (fun _h => ?_) (fun _h => ?_)) <;> try simp (maxSteps := 4000000) only [go_sem, seval])
 | intro _h
 | refine awp_block ?_
 | refine awp_scope ?_
 | refine cond_b ?_ ?_
 | (show heapOK _ _ = true; kernel_rfl)
 | (show heapOK2 _ _ = true; kernel_rfl)
 | (omega)))
    all_goals trace_state
  · simp only [townC, slH, slL, sl, slB, if_true] at hr ⊢
    (refine callS_of_awp (fun w args => Try.call29 ..) Try.func29 rfl (fun w0 m0 wz => ?_); simp only [Try.ntmps29, Try.results29, initT, junks, homeC, hallC, slH, slL, townC, sl, List.toList_toArray, List.cons_append, List.nil_append, List.length_cons, List.length_nil, Nat.reduceAdd, Nat.reduceSub])
    (repeat' (first
 | ((exfalso; omega))
 | refine awp_seqK ?_
 | refine kt ?_
 | refine And.intro ?_ ?_
 | ((first | refine awp_stp rfl ?_ | refine awp_draw (by kernel_rfl) (by kernel_rfl) ?_ | refine Imp.le2 ?_ | refine callK_of (hr) ?_ | refine go_split (fun _h => ?_) (fun _h => ?_)) <;> try simp (maxSteps := 4000000) only [go_sem, seval])
 | intro _h
 | refine awp_block ?_
 | refine awp_scope ?_
 | refine cond_b ?_ ?_
 | (show heapOK _ _ = true; kernel_rfl)
 | (show heapOK2 _ _ = true; kernel_rfl)
 | (omega)))
    all_goals trace_state
theorem rFewest_step (t : Town) (ht : TownOK t) (m n : Nat) (hm : m ≤ t.homes.length) (hnm : n < m) (f : List Bus → Int) (ih : ∀ Q : List Bus, StaR t (n + 1) Q → CallS Try.prog 29 [.agg (townC t), .int .i64 m, .int .i64 ((n + 1 : Nat) : Int), slB Q] (.int .i64 (f Q))) (P : List Bus) (hP : StaR t n P) : CallS Try.prog 29 [.agg (townC t), .int .i64 m, .int .i64 n, slB P] (.int .i64 (outR t f P n (P.length + 1))) := by
  have hln := ht.homes
  have hsh := staR_sh hP (by omega) ht
  have hpl := hP.len
  have hhl := ht.halls
  have hbp : ∀ (b : Bus) (y : AV), y ∈ busC b → cellPure y = true := fun b y hy => by
    simp only [busC, sl, List.mem_cons, List.not_mem_nil, or_false] at hy
    rcases hy with rfl | rfl | rfl <;> rfl
  have hwo := rWorstI_c t n ht (by omega)
  have hwb := worstN_bd ht (i := n) (by omega)
  have e1 : ((n : Int) = m) = False := eq_false (by omega)
  have hn1 : ((n : Int) + 1) = ((n + 1 : Nat) : Int) := by omega
  simp only [townC, slH, slL, sl, slB, Int.toNat_natCast] at hwo ih ⊢
  (refine callS_of_awp (fun w args => Try.call29 ..) Try.func29 rfl (fun w0 m0 wz => ?_); simp only [Try.ntmps29, Try.results29, initT, junks, homeC, hallC, slH, slL, townC, sl, List.toList_toArray, List.cons_append, List.nil_append, List.length_cons, List.length_nil, Nat.reduceAdd, Nat.reduceSub])
  (repeat' (first
 | refine awp_seqK ?_
 | refine kt ?_
 | refine And.intro ?_ ?_
 | ((first | refine awp_stp rfl ?_ | refine awp_draw (by kernel_rfl) (by kernel_rfl) ?_ | refine Imp.le2 ?_ | refine go_split (fun _h => ?_) (fun _h => ?_)) <;> try simp (maxSteps := 4000000) only [go_sem, seval, e1, decide_false])
 | intro _h
 | refine awp_block ?_
 | refine awp_scope ?_
 | refine cond_b ?_ ?_
 | (show heapOK _ _ = true; kernel_rfl)
 | (show heapOK2 _ _ = true; kernel_rfl)
 | (omega)))
  refine awp_loopN (P.length + 1) (fun i => ⟨mkT 136 [(1, .int .i64 m), (2, .int .i64 n), (3, slB P), (4, .ptr 0 0 0), (9, .int .i64 (outR t f P n i)), (10, .int .i64 i)], [some (.cells 27 1 0 (townC t))], []⟩) (.le2 ?_) ?_
  · simp only [townC, slH, slL, sl, slB, outR]; simp (maxSteps := 4000000) only [go_sem, seval]
    try (first | rfl | exact ⟨rfl, rfl⟩)
  · intro i hi
    rcases Nat.lt_or_eq_of_le hi with hi1 | hi1
    · have hoR : outR t f P n (i + 1) = rowR t f P n i t.halls.length (outR t f P n i) := rfl
      generalize outR t f P n i = b0 at *
      simp only [townC, slH, slL, sl, slB]; simp (maxSteps := 4000000) only [go_sem, seval]
      (repeat' (first
 | ((exfalso; omega))
 | refine awp_seqK ?_
 | refine kt ?_
 | refine And.intro ?_ ?_
 | ((first | refine awp_stp rfl ?_ | refine awp_draw (by kernel_rfl) (by kernel_rfl) ?_ | refine Imp.le2 ?_ | refine go_split (fun _h => ?_) (fun _h => ?_)) <;> try simp (maxSteps := 4000000) only [go_sem, seval])
 | intro _h
 | refine awp_block ?_
 | refine awp_scope ?_
 | refine cond_b ?_ ?_
 | (show heapOK _ _ = true; kernel_rfl)
 | (show heapOK2 _ _ = true; kernel_rfl)
 | (omega)))
      refine awp_loopN t.halls.length (fun h => ⟨mkT 136 [(1, .int .i64 m), (2, .int .i64 n), (3, slB P), (4, .ptr 0 0 0), (9, .int .i64 (rowR t f P n i h b0)), (10, .int .i64 i), (11, .int .i64 h)], [some (.cells 27 1 0 (townC t))], []⟩) (.le2 ?_) ?_
      · simp only [townC, slH, slL, sl, slB, rowR]; simp (maxSteps := 4000000) only [go_sem, seval]
        try (first | rfl | exact ⟨rfl, rfl⟩)
      · intro h hh
        rcases Nat.lt_or_eq_of_le hh with hh1 | hh1
        · simp only [townC, slH, slL, sl, slB]; simp (maxSteps := 4000000) only [go_sem, seval]
          (repeat' (first
 | ((exfalso; omega))
 | refine awp_seqK ?_
 | refine kt ?_
 | refine And.intro ?_ ?_
 | ((first | refine awp_stp rfl ?_ | refine Imp.le2 ?_ | refine go_split (fun _h => ?_) (fun _h => ?_)) <;> try simp (maxSteps := 4000000) only [go_sem, seval])
 | intro _h
 | refine awp_block ?_
 | refine awp_scope ?_
 | refine cond_b ?_ ?_
 | (show heapOK _ _ = true; kernel_rfl)
 | (show heapOK2 _ _ = true; kernel_rfl)
 | (omega)))
          (refine awp_adT 12 49 3 rfl ?_; simp only [adT, lset, hset, List.length_cons, List.length_nil, Nat.reduceAdd])
          by_cases hi2 : i < P.length
          · obtain ⟨L, hL⟩ : ∃ L, (P.getD i default).homes.length = L := ⟨_, rfl⟩
            refine awp_loopN P.length (fun k => ⟨mkT 136 [(1, .int .i64 m), (2, .int .i64 n), (3, slB P), (4, .ptr 0 0 0), (9, .int .i64 (rowR t f P n i h b0)), (10, .int .i64 i), (11, .int .i64 h), (12, .osl 1 k 0 k), (13, .int .i64 k)], some (.cells 27 1 0 (townC t)) :: some (.cells 49 3 k (celX P i 0 L k)) :: (if k ≤ i then [] else [some (.cells 3 1 0 (ints (P.getD i default).homes))]), []⟩) (.le2 ?_) ?_
            · simp only [townC, slH, slL, sl, slB, Nat.zero_le, if_true]; simp (maxSteps := 4000000) only [go_sem, seval]
              all_goals first | rfl | exact ⟨rfl, rfl⟩ | exact ⟨rfl, rfl, rfl⟩ | trace_state
            · intro k hk
              rcases Nat.lt_trichotomy k i with hki | hki | hki
              · have hk1 : k < P.length := by omega
                obtain ⟨b, hb2⟩ : ∃ b, P.getD k default = b := ⟨_, rfl⟩
                have hO := hP.one k hk1
                rw [hb2] at hO
                have hbl := rise_le hO
                have hb0 : 0 < b.homes.length := List.length_pos_iff.2 hO.1.some
                have eb0 : (b.homes.length = 0) = False := eq_false (by omega)
                have hkl := takeB_length (P := P) hk
                have hsu : recs busC (P.take k) ++ [.int .i64 b.leave, .int .i64 b.hall, .psl false b.homes.length (ints b.homes)] = recs busC (P.take (k + 1)) := by
                  rw [← takeB_succ hk1, hb2]; rfl
                have hfz := fun zs => fz_take (P := P) (k := k) (b := 2) (g := 0) (a := b.leave) (c := b.hall) (n := b.homes.length) (zs := zs) trivial
                simp only [if_pos (show k ≤ i by omega), if_pos (show k + 1 ≤ i by omega), celX_le k (show k ≤ i by omega) hk, celX_le (k + 1) (show k + 1 ≤ i by omega) (show k + 1 ≤ P.length by omega)]
                simp only [townC, slH, slL, sl, slB]; simp (maxSteps := 4000000) only [go_sem, seval]
                (repeat' (first
 | ((exfalso; omega))
 | refine awp_seqK ?_
 | refine kt ?_
 | refine And.intro ?_ ?_
 | ((first | refine awp_stp rfl ?_ | refine Imp.le2 ?_ | refine go_split (fun _h => ?_) (fun _h => ?_)) <;> try simp (maxSteps := 4000000) only [go_sem, seval, hb2])
 | intro _h
 | refine awp_block ?_
 | refine awp_scope ?_
 | refine cond_b ?_ ?_
 | (show heapOK _ _ = true; kernel_rfl)
 | (show heapOK2 _ _ = true; kernel_rfl)
 | (omega)))
                refine awp_drawsE [(19, some ⟨.osl 3 0 0 1, [], some (3, .cells 49 3 0 [.int .i64 b.leave, .int .i64 b.hall, .osl 2 0 0 b.homes.length])⟩, []), (0, some ⟨.osl 1 (k + 1) 0 (k + 1), [3], some (1, .cells 49 3 (k + 1) (recs busC (P.take k) ++ [.int .i64 b.leave, .int .i64 b.hall, .osl 2 0 0 b.homes.length]))⟩, [])] (by kernel_rfl) (by kernel_rfl) ?_
                simp (maxSteps := 4000000) only [go_sem, seval, hb2, eb0, se_own, se_op, se_nil, List.take_succ_cons, List.take_zero, List.drop_succ_cons, List.drop_zero]
                (repeat' (first
 | ((refine awp_frz (c := .region 15 _ _) 2 rfl (by simp (maxSteps := 4000000) only [go_sem, seval]) (fun _ => rfl) ?_; simp only [hseto, hset, lseto, lset, frz, hfz, hsu, fq_pure, fzB_c, fzB_m, fzB_d, fzB_l, fzO, fzH, fzHs, fzl, fz2, fz1, fz0, List.map_cons, List.map_nil, if_true, if_false, reduceIte, Nat.reduceEqDiff, Nat.reduceAdd, Nat.succ_ne_self, Nat.zero_ne_one, Nat.one_ne_zero, reduceCtorEq, and_self]))
 | ((refine ⟨rfl, sound_litE rfl rfl tslice28 tsz49 tzero49 rfl (by decide) (by decide) (by decide) (by decide) rfl rfl, ?_⟩))
 | ((refine ⟨rfl, sound_appoo rfl tslice28 tsz49 tbytes49 tzero49 rfl (by decide) rfl rfl hkl rfl rfl (Nat.le_refl _) (by decide) (by omega) (by omega) rfl, ?_⟩))
 | ((omega))
 | ((exfalso; omega))
 | refine awp_seqK ?_
 | refine kt ?_
 | refine And.intro ?_ ?_
 | ((first | refine awp_stp rfl ?_ | refine Imp.le2 ?_) <;> try simp (maxSteps := 4000000) only [go_sem, seval, hb2, eb0, se_own, se_op, se_nil, List.take_succ_cons, List.take_zero, List.drop_succ_cons, List.drop_zero])
 | intro _h
 | refine awp_block ?_
 | refine awp_scope ?_
 | refine cond_b ?_ ?_
 | (show heapOK _ _ = true; kernel_rfl)
 | (show heapOK2 _ _ = true; kernel_rfl)
 | (omega)))
                all_goals first | exact live_celX rfl | rfl | exact ⟨rfl, rfl⟩ | exact ⟨rfl, rfl, rfl⟩ | (simp (maxSteps := 4000000) only [go_sem, seval]; done) | (simp (maxSteps := 4000000) only [go_sem, seval]; exact live_celX rfl) | trace_state
              · subst hki
                have hk1 : k < P.length := by omega
                obtain ⟨b, hb2⟩ : ∃ b, P.getD k default = b := ⟨_, rfl⟩
                have hO := hP.one k hk1
                rw [hb2] at hO
                have hbl := rise_le hO
                have hb0 : 0 < b.homes.length := List.length_pos_iff.2 hO.1.some
                have eb0 : (b.homes.length = 0) = False := eq_false (by omega)
                have hkl := takeB_length (P := P) hk
                rw [hb2] at hL
                have hsu := celX_own (g := 0) (L := L) hk1
                rw [hb2] at hsu
                subst hL
                simp only [if_pos (Nat.le_refl k), if_neg (show ¬ k + 1 ≤ k by omega), celX_le k (Nat.le_refl k) hk]
                simp only [townC, slH, slL, sl, slB]; simp (maxSteps := 4000000) only [go_sem, seval]
                (repeat' (first
 | ((exfalso; omega))
 | refine awp_seqK ?_
 | refine kt ?_
 | refine And.intro ?_ ?_
 | ((first | refine awp_stp rfl ?_ | refine Imp.le2 ?_ | refine go_split (fun _h => ?_) (fun _h => ?_)) <;> try simp (maxSteps := 4000000) only [go_sem, seval, hb2])
 | intro _h
 | refine awp_block ?_
 | refine awp_scope ?_
 | refine cond_b ?_ ?_
 | (show heapOK _ _ = true; kernel_rfl)
 | (show heapOK2 _ _ = true; kernel_rfl)
 | (omega)))
                refine awp_drawsE [(19, some ⟨.osl 3 0 0 1, [], some (3, .cells 49 3 0 [.int .i64 b.leave, .int .i64 b.hall, .osl 2 0 0 b.homes.length])⟩, []), (0, some ⟨.osl 1 (k + 1) 0 (k + 1), [3], some (1, .cells 49 3 (k + 1) (recs busC (P.take k) ++ [.int .i64 b.leave, .int .i64 b.hall, .osl 2 0 0 b.homes.length]))⟩, [])] (by kernel_rfl) (by kernel_rfl) ?_
                simp (maxSteps := 4000000) only [go_sem, seval, hb2, eb0, se_own, se_op, se_nil, List.take_succ_cons, List.take_zero, List.drop_succ_cons, List.drop_zero]
                (repeat' (first
 | ((refine ⟨rfl, sound_litE rfl rfl tslice28 tsz49 tzero49 rfl (by decide) (by decide) (by decide) (by decide) rfl rfl, ?_⟩))
 | ((refine ⟨rfl, sound_appoo rfl tslice28 tsz49 tbytes49 tzero49 rfl (by decide) rfl rfl hkl rfl rfl (Nat.le_refl _) (by decide) (by omega) (by omega) rfl, ?_⟩))
 | ((omega))
 | ((exfalso; omega))
 | refine awp_seqK ?_
 | refine kt ?_
 | refine And.intro ?_ ?_
 | ((first | refine awp_stp rfl ?_ | refine Imp.le2 ?_) <;> try simp (maxSteps := 4000000) only [go_sem, seval, hsu, hb2, eb0, se_own, se_op, se_nil, List.take_succ_cons, List.take_zero, List.drop_succ_cons, List.drop_zero])
 | intro _h
 | refine awp_block ?_
 | refine awp_scope ?_
 | refine cond_b ?_ ?_
 | (show heapOK _ _ = true; kernel_rfl)
 | (show heapOK2 _ _ = true; kernel_rfl)
 | (omega)))
                all_goals first | exact live_celX rfl | rfl | exact ⟨rfl, rfl⟩ | exact ⟨rfl, rfl, rfl⟩ | (simp (maxSteps := 4000000) only [go_sem, seval]; done) | (simp (maxSteps := 4000000) only [go_sem, seval]; exact live_celX rfl) | trace_state
              · rcases Nat.lt_or_eq_of_le hk with hk1 | hk1
                · obtain ⟨b, hb2⟩ : ∃ b, P.getD k default = b := ⟨_, rfl⟩
                  have hO := hP.one k hk1
                  rw [hb2] at hO
                  have hbl := rise_le hO
                  have hb0 : 0 < b.homes.length := List.length_pos_iff.2 hO.1.some
                  have eb0 : (b.homes.length = 0) = False := eq_false (by omega)
                  have hkl := celX_length (P := P) (i := i) (g := 0) (L := L) (k := k)
                  have hsu : celX P i 0 L k ++ [.int .i64 b.leave, .int .i64 b.hall, .psl false b.homes.length (ints b.homes)] = celX P i 0 L (k + 1) := by
                    rw [← celX_succ (by omega), hb2]; rfl
                  have hfz := fun zs => fz_next (P := P) (i := i) (L := L) (k := k) (g := 0) (b := 3) (by decide) (a := b.leave) (c := b.hall) (n := b.homes.length) (zs := zs)
                  simp only [if_neg (show ¬ k ≤ i by omega), if_neg (show ¬ k + 1 ≤ i by omega)]
                  simp only [townC, slH, slL, sl, slB]; simp (maxSteps := 4000000) only [go_sem, seval]
                  (repeat' (first
 | ((exfalso; omega))
 | refine awp_seqK ?_
 | refine kt ?_
 | refine And.intro ?_ ?_
 | ((first | refine awp_stp rfl ?_ | refine Imp.le2 ?_ | refine go_split (fun _h => ?_) (fun _h => ?_)) <;> try simp (maxSteps := 4000000) only [go_sem, seval, hb2])
 | intro _h
 | refine awp_block ?_
 | refine awp_scope ?_
 | refine cond_b ?_ ?_
 | (show heapOK _ _ = true; kernel_rfl)
 | (show heapOK2 _ _ = true; kernel_rfl)
 | (omega)))
                  refine awp_drawsE [(19, some ⟨.osl 4 0 0 1, [], some (4, .cells 49 3 0 [.int .i64 b.leave, .int .i64 b.hall, .osl 3 0 0 b.homes.length])⟩, []), (0, some ⟨.osl 1 (k + 1) 0 (k + 1), [4], some (1, .cells 49 3 (k + 1) (celX P i 0 L k ++ [.int .i64 b.leave, .int .i64 b.hall, .osl 3 0 0 b.homes.length]))⟩, [])] (by kernel_rfl) (by kernel_rfl) ?_
                  simp (maxSteps := 4000000) only [go_sem, seval, hb2, eb0, se_own, se_op, se_nil, List.take_succ_cons, List.take_zero, List.drop_succ_cons, List.drop_zero]
                  (repeat' (first
 | ((refine awp_frz (c := .region 15 _ _) 3 rfl (by simp (maxSteps := 4000000) only [go_sem, seval]) (fun _ => rfl) ?_; simp only [hseto, hset, lseto, lset, frz, hfz, hsu, fq_pure, fzB_c, fzB_m, fzB_d, fzB_l, fzO, fzH, fzHs, fzl, fz2, fz1, fz0, List.map_cons, List.map_nil, if_true, if_false, reduceIte, Nat.reduceEqDiff, Nat.reduceAdd, Nat.succ_ne_self, Nat.zero_ne_one, Nat.one_ne_zero, reduceCtorEq, and_self]))
 | ((refine ⟨rfl, sound_litE rfl rfl tslice28 tsz49 tzero49 rfl (by decide) (by decide) (by decide) (by decide) rfl rfl, ?_⟩))
 | ((refine ⟨rfl, sound_appoo rfl tslice28 tsz49 tbytes49 tzero49 rfl (by decide) rfl rfl hkl rfl rfl (Nat.le_refl _) (by decide) (by omega) (by omega) rfl, ?_⟩))
 | ((omega))
 | ((exfalso; omega))
 | refine awp_seqK ?_
 | refine kt ?_
 | refine And.intro ?_ ?_
 | ((first | refine awp_stp rfl ?_ | refine Imp.le2 ?_) <;> try simp (maxSteps := 4000000) only [go_sem, seval, hb2, eb0, se_own, se_op, se_nil, List.take_succ_cons, List.take_zero, List.drop_succ_cons, List.drop_zero])
 | intro _h
 | refine awp_block ?_
 | refine awp_scope ?_
 | refine cond_b ?_ ?_
 | (show heapOK _ _ = true; kernel_rfl)
 | (show heapOK2 _ _ = true; kernel_rfl)
 | (omega)))
                  all_goals first | exact live_celX rfl | rfl | exact ⟨rfl, rfl⟩ | exact ⟨rfl, rfl, rfl⟩ | (simp (maxSteps := 4000000) only [go_sem, seval]; done) | (simp (maxSteps := 4000000) only [go_sem, seval]; exact live_celX rfl) | trace_state
                · subst hk1
                  simp only [if_neg (show ¬ P.length ≤ i by omega), celX_mid hi2]
                  obtain ⟨wv, hwv⟩ : ∃ wv, worstN t (t.homes.getD n default) = wv := ⟨_, rfl⟩
                  obtain ⟨bi, hbi⟩ : ∃ bi, P.getD i default = bi := ⟨_, rfl⟩
                  have hOi := hP.one i hi2
                  rw [hbi] at hOi
                  have hil := rise_le hOi
                  rw [hbi] at hL
                  obtain ⟨b', hb'⟩ : ∃ b' : Bus, b' = ⟨max bi.leave wv, bi.hall, bi.homes ++ [(n : Int)]⟩ := ⟨_, rfl⟩
                  have eQ : putB t P n i h = P.set i b' := by
                    unfold putB; rw [if_pos hi2, hwv, hbi, hb']
                  have hgd : (P.set i b').getD i default = b' := by simp [List.getD_eq_getElem?_getD, hi2]
                  have hQl : (P.set i b').length = P.length := by simp
                  have hfm : fzl (fz2 2 1 (ints bi.homes ++ [.int .i64 n])) (midC P i [.int .i64 (max bi.leave wv), .int .i64 bi.hall, .osl 2 1 0 (L + 1)]) = recs busC (P.set i b') := by
                    have := fz_mid (P := P) (i := i) (a := max bi.leave wv) (zs := bi.homes ++ [(n : Int)]) hi2
                    rw [hbi, ← hb'] at this
                    rw [← this]
                    simp only [ints, List.map_append, List.map_cons, List.map_nil, List.length_append, List.length_cons, List.length_nil, hL]
                  have hpi : pureL (ints bi.homes ++ [AV.int .i64 (n : Int)]) := fun y hy => by
                    rcases List.mem_append.1 hy with hy | hy
                    · simp only [ints, List.mem_map] at hy
                      obtain ⟨_, _, rfl⟩ := hy
                      rfl
                    · rw [List.mem_singleton] at hy
                      subst hy; rfl
                  have hone := one_c t b' ht (by rw [hb']; simp; omega)
                  have m0 := fun (x y z : AV) (K : AV → Prop) => mid_nth0 (x := x) (y := y) (z := z) hi2 (K := K)
                  have m2 := fun (x y z : AV) (K : AV → Prop) => mid_nth2 (x := x) (y := y) (z := z) hi2 (K := K)
                  have s0 := fun (x y z v : AV) => mid_sp0 (x := x) (y := y) (z := z) (v := v) hi2
                  have s2 := fun (x y z v : AV) => mid_sp2 (x := x) (y := y) (z := z) (v := v) hi2
                  have ml := fun (x y z : AV) => mid_length (x := x) (y := y) (z := z) hi2
                  have hst := fun hO => putB_sta (k := h) hP (Nat.le_of_lt hi2) hO
                  have hrw : rowR t f P n i (h + 1) b0 = if i < P.length ∧ (h : Int) ≠ (P.getD i default).hall then rowR t f P n i h b0 else tryR t f (putB t P n i h) i (rowR t f P n i h b0) := rfl
                  rw [hbi, eQ] at hrw
                  rw [eQ, hgd] at hst
                  rw [hwv] at hwo hwb
                  unfold tryR at hrw
                  rw [hgd] at hrw
                  have hfq := fun hO => ih (P.set i b') (hst hO)
                  rw [hQl] at hfq
                  clear ih hst hoR eQ
                  generalize rowR t f P n i (h + 1) b0 = r1 at *
                  generalize rowR t f P n i h b0 = r0 at *
                  generalize f (P.set i b') = fq at *
                  generalize hQ : P.set i b' = Q at *
                  have e7 : ((i : Int) < P.length) = True := eq_true (by omega)
                  simp only [busC, sl] at hone
                  by_cases hha : (h : Int) = bi.hall
                  · have e8 : ((h : Int) = bi.hall) = True := eq_true hha
                    rw [if_neg (fun h9 => h9.2 hha)] at hrw
                    simp only [townC, slH, slL, sl, slB]; simp (maxSteps := 4000000) only [go_sem, seval]
                    (repeat' (first
 | ((exfalso; omega))
 | ((omega))
 | refine awp_seqK ?_
 | refine kt ?_
 | refine And.intro ?_ ?_
 | ((first | refine awp_stp rfl ?_ | refine Imp.le2 ?_ | refine callK_of (hwo) ?_) <;> try simp (maxSteps := 4000000) only [go_sem, seval, e7, hbi, e8, decide_true, decide_false, Bool.not_true, m0, m2, s0, s2, ml])
 | intro _h
 | refine awp_block ?_
 | refine awp_scope ?_
 | refine cond_b ?_ ?_
 | (show heapOK _ _ = true; kernel_rfl)
 | (show heapOK2 _ _ = true; kernel_rfl)
 | (omega)))
                    refine awp_draw (by kernel_rfl) (by kernel_rfl) ?_
                    simp (maxSteps := 4000000) only [go_sem, seval, m0, m2, s0, s2, ml, hbi, e7]
                    (repeat' (first
 | ((refine awp_frz (c := .region 22 _ _) 2 rfl hpi (fun _ => rfl) ?_; simp only [hseto, hset, lseto, lset, frz, hfm, fq_pure, fzB_c, fzB_m, fzB_d, fzB_l, fzO, fzH, fzHs, fzl, fz2, fz1, fz0, List.map_cons, List.map_nil, if_true, if_false, reduceIte, Nat.reduceEqDiff, Nat.reduceAdd, Nat.succ_ne_self, Nat.zero_ne_one, Nat.one_ne_zero, reduceCtorEq, and_self]; refine awp_frz (c := .region 22 _ _) 1 rfl (recs_pure fun b => by simp [pureL, busC, sl, cellPure]) (fun _ => rfl) ?_; simp only [hseto, hset, lseto, lset, frz, fq_pure, fzB_c, fzB_m, fzB_d, fzB_l, fzO, fzH, fzHs, fzl, fz2, fz1, fz0, List.map_cons, List.map_nil, if_true, if_false, reduceIte, Nat.reduceEqDiff, Nat.reduceAdd, Nat.succ_ne_self, Nat.zero_ne_one, Nat.one_ne_zero, reduceCtorEq, and_self]))
 | ((exfalso; omega))
 | ((omega))
 | refine awp_seqK ?_
 | refine kt ?_
 | refine And.intro ?_ ?_
 | ((first | refine awp_stp rfl ?_ | refine Imp.le2 ?_ | refine callK_of (hwo) ?_) <;> try simp (maxSteps := 4000000) only [go_sem, seval, e7, hbi, m0, m2, s0, s2, ml])
 | intro _h
 | refine awp_block ?_
 | refine awp_scope ?_
 | refine cond_b ?_ ?_
 | (show heapOK _ _ = true; kernel_rfl)
 | (show heapOK2 _ _ = true; kernel_rfl)
 | (omega)))
                    by_cases hO : OneP t b'
                    · have hfq := hfq hO
                      rw [← one_yes hO] at hone
                      rw [if_pos hO] at hrw
                      by_cases c1 : 0 ≤ fq
                      · have f1 : (0 ≤ fq) = True := eq_true c1
                        by_cases c2 : r0 < 0
                        · have f2 : (r0 < 0) = True := eq_true c2
                          rw [if_pos ⟨c1, .inl c2⟩] at hrw
                          rw [hrw]
                          (repeat' (first
 | ((exact hbp _))
 | ((omega))
 | ((exfalso; omega))
 | refine awp_seqK ?_
 | refine kt ?_
 | refine And.intro ?_ ?_
 | ((first | refine awp_stp rfl ?_ | refine awp_draw (by kernel_rfl) (by kernel_rfl) ?_ | refine Imp.le2 ?_ | refine callK_of (hone) ?_ | refine callK_of (hfq) ?_) <;> try simp (maxSteps := 4000000) only [go_sem, seval, hgd, hQl, decide_true, decide_false, Bool.not_true, Bool.not_false, hn1, f1, f2])
 | intro _h
 | refine awp_block ?_
 | refine awp_scope ?_
 | refine cond_b ?_ ?_
 | (show heapOK _ _ = true; kernel_rfl)
 | (show heapOK2 _ _ = true; kernel_rfl)
 | (omega)))
                          all_goals first | rfl | exact ⟨rfl, rfl⟩ | exact ⟨rfl, rfl, rfl⟩ | (simp (maxSteps := 4000000) only [go_sem, seval]; done) | trace_state
                        · have f2 : (r0 < 0) = False := eq_false c2
                          by_cases c3 : fq < r0
                          · have f3 : (fq < r0) = True := eq_true c3
                            rw [if_pos ⟨c1, .inr c3⟩] at hrw
                            rw [hrw]
                            (repeat' (first
 | ((exact hbp _))
 | ((omega))
 | ((exfalso; omega))
 | refine awp_seqK ?_
 | refine kt ?_
 | refine And.intro ?_ ?_
 | ((first | refine awp_stp rfl ?_ | refine awp_draw (by kernel_rfl) (by kernel_rfl) ?_ | refine Imp.le2 ?_ | refine callK_of (hone) ?_ | refine callK_of (hfq) ?_) <;> try simp (maxSteps := 4000000) only [go_sem, seval, hgd, hQl, decide_true, decide_false, Bool.not_true, Bool.not_false, hn1, f1, f2, f3])
 | intro _h
 | refine awp_block ?_
 | refine awp_scope ?_
 | refine cond_b ?_ ?_
 | (show heapOK _ _ = true; kernel_rfl)
 | (show heapOK2 _ _ = true; kernel_rfl)
 | (omega)))
                            all_goals first | rfl | exact ⟨rfl, rfl⟩ | exact ⟨rfl, rfl, rfl⟩ | (simp (maxSteps := 4000000) only [go_sem, seval]; done) | trace_state
                          · have f3 : (fq < r0) = False := eq_false c3
                            rw [if_neg (fun h9 => h9.2.elim c2 c3)] at hrw
                            rw [hrw]
                            (repeat' (first
 | ((exact hbp _))
 | ((omega))
 | ((exfalso; omega))
 | refine awp_seqK ?_
 | refine kt ?_
 | refine And.intro ?_ ?_
 | ((first | refine awp_stp rfl ?_ | refine awp_draw (by kernel_rfl) (by kernel_rfl) ?_ | refine Imp.le2 ?_ | refine callK_of (hone) ?_ | refine callK_of (hfq) ?_) <;> try simp (maxSteps := 4000000) only [go_sem, seval, hgd, hQl, decide_true, decide_false, Bool.not_true, Bool.not_false, hn1, f1, f2, f3])
 | intro _h
 | refine awp_block ?_
 | refine awp_scope ?_
 | refine cond_b ?_ ?_
 | (show heapOK _ _ = true; kernel_rfl)
 | (show heapOK2 _ _ = true; kernel_rfl)
 | (omega)))
                            all_goals first | rfl | exact ⟨rfl, rfl⟩ | exact ⟨rfl, rfl, rfl⟩ | (simp (maxSteps := 4000000) only [go_sem, seval]; done) | trace_state
                      · have f1 : (0 ≤ fq) = False := eq_false c1
                        rw [if_neg (fun h9 => c1 h9.1)] at hrw
                        rw [hrw]
                        (repeat' (first
 | ((exact hbp _))
 | ((omega))
 | ((exfalso; omega))
 | refine awp_seqK ?_
 | refine kt ?_
 | refine And.intro ?_ ?_
 | ((first | refine awp_stp rfl ?_ | refine awp_draw (by kernel_rfl) (by kernel_rfl) ?_ | refine Imp.le2 ?_ | refine callK_of (hone) ?_ | refine callK_of (hfq) ?_) <;> try simp (maxSteps := 4000000) only [go_sem, seval, hgd, hQl, decide_true, decide_false, Bool.not_true, Bool.not_false, hn1, f1])
 | intro _h
 | refine awp_block ?_
 | refine awp_scope ?_
 | refine cond_b ?_ ?_
 | (show heapOK _ _ = true; kernel_rfl)
 | (show heapOK2 _ _ = true; kernel_rfl)
 | (omega)))
                        all_goals first | rfl | exact ⟨rfl, rfl⟩ | exact ⟨rfl, rfl, rfl⟩ | (simp (maxSteps := 4000000) only [go_sem, seval]; done) | trace_state
                    · rw [← one_no hO] at hone
                      rw [if_neg hO] at hrw
                      rw [hrw]
                      (repeat' (first
 | ((exact hbp _))
 | ((omega))
 | ((exfalso; omega))
 | refine awp_seqK ?_
 | refine kt ?_
 | refine And.intro ?_ ?_
 | ((first | refine awp_stp rfl ?_ | refine awp_draw (by kernel_rfl) (by kernel_rfl) ?_ | refine Imp.le2 ?_ | refine callK_of (hone) ?_) <;> try simp (maxSteps := 4000000) only [go_sem, seval, hgd, hQl, decide_true, decide_false, Bool.not_true, Bool.not_false])
 | intro _h
 | refine awp_block ?_
 | refine awp_scope ?_
 | refine cond_b ?_ ?_
 | (show heapOK _ _ = true; kernel_rfl)
 | (show heapOK2 _ _ = true; kernel_rfl)
 | (omega)))
                      all_goals first | rfl | exact ⟨rfl, rfl⟩ | exact ⟨rfl, rfl, rfl⟩ | (simp (maxSteps := 4000000) only [go_sem, seval]; done) | trace_state
                  · have e8 : ((h : Int) = bi.hall) = False := eq_false hha
                    rw [if_pos ⟨hi2, hha⟩] at hrw
                    rw [hrw]
                    simp only [townC, slH, slL, sl, slB]; simp (maxSteps := 4000000) only [go_sem, seval]
                    (repeat' (first
 | ((exfalso; omega))
 | ((omega))
 | refine awp_seqK ?_
 | refine kt ?_
 | refine And.intro ?_ ?_
 | ((first | refine awp_stp rfl ?_ | refine awp_draw (by kernel_rfl) (by kernel_rfl) ?_ | refine Imp.le2 ?_) <;> try simp (maxSteps := 4000000) only [go_sem, seval, e7, hbi, e8, decide_true, decide_false, Bool.not_false])
 | intro _h
 | refine awp_block ?_
 | refine awp_scope ?_
 | refine cond_b ?_ ?_
 | (show heapOK _ _ = true; kernel_rfl)
 | (show heapOK2 _ _ = true; kernel_rfl)
 | (omega)))
                    all_goals first | rfl | exact ⟨rfl, rfl⟩ | exact ⟨rfl, rfl, rfl⟩ | (simp (maxSteps := 4000000) only [go_sem, seval]; done) | trace_state
          · have ei : i = P.length := by omega
            subst ei
            refine awp_loopN P.length (fun k => ⟨mkT 136 [(1, .int .i64 m), (2, .int .i64 n), (3, slB P), (4, .ptr 0 0 0), (9, .int .i64 (rowR t f P n P.length h b0)), (10, .int .i64 P.length), (11, .int .i64 h), (12, .osl 1 k 0 k), (13, .int .i64 k)], [some (.cells 27 1 0 (townC t)), some (.cells 49 3 k (recs busC (P.take k)))], []⟩) (.le2 ?_) ?_
            · simp only [townC, slH, slL, sl, slB]; simp (maxSteps := 4000000) only [go_sem, seval]
              all_goals first | rfl | exact ⟨rfl, rfl⟩ | exact ⟨rfl, rfl, rfl⟩ | trace_state
            · intro k hk
              have hkl := takeB_length (P := P) hk
              rcases Nat.lt_or_eq_of_le hk with hk1 | hk1
              · obtain ⟨b, hb2⟩ : ∃ b, P.getD k default = b := ⟨_, rfl⟩
                have hO := hP.one k hk1
                rw [hb2] at hO
                have hbl := rise_le hO
                have hb0 : 0 < b.homes.length := List.length_pos_iff.2 hO.1.some
                have eb0 : (b.homes.length = 0) = False := eq_false (by omega)
                have hsu : recs busC (P.take k) ++ [.int .i64 b.leave, .int .i64 b.hall, .psl false b.homes.length (ints b.homes)] = recs busC (P.take (k + 1)) := by
                  rw [← takeB_succ hk1, hb2]; rfl
                have hfz := fun zs => fz_take (P := P) (k := k) (b := 2) (g := 0) (a := b.leave) (c := b.hall) (n := b.homes.length) (zs := zs) trivial
                simp only [townC, slH, slL, sl, slB]; simp (maxSteps := 4000000) only [go_sem, seval]
                (repeat' (first
 | ((exfalso; omega))
 | refine awp_seqK ?_
 | refine kt ?_
 | refine And.intro ?_ ?_
 | ((first | refine awp_stp rfl ?_ | refine Imp.le2 ?_ | refine go_split (fun _h => ?_) (fun _h => ?_)) <;> try simp (maxSteps := 4000000) only [go_sem, seval, hb2])
 | intro _h
 | refine awp_block ?_
 | refine awp_scope ?_
 | refine cond_b ?_ ?_
 | (show heapOK _ _ = true; kernel_rfl)
 | (show heapOK2 _ _ = true; kernel_rfl)
 | (omega)))
                refine awp_drawsE [(19, some ⟨.osl 3 0 0 1, [], some (3, .cells 49 3 0 [.int .i64 b.leave, .int .i64 b.hall, .osl 2 0 0 b.homes.length])⟩, []), (0, some ⟨.osl 1 (k + 1) 0 (k + 1), [3], some (1, .cells 49 3 (k + 1) (recs busC (P.take k) ++ [.int .i64 b.leave, .int .i64 b.hall, .osl 2 0 0 b.homes.length]))⟩, [])] (by kernel_rfl) (by kernel_rfl) ?_
                simp (maxSteps := 4000000) only [go_sem, seval, hb2, eb0, se_own, se_op, se_nil, List.take_succ_cons, List.take_zero, List.drop_succ_cons, List.drop_zero]
                (repeat' (first
 | ((refine awp_frz (c := .region 15 _ _) 2 rfl (by simp (maxSteps := 4000000) only [go_sem, seval]) (fun _ => rfl) ?_; simp only [hseto, hset, lseto, lset, frz, hfz, hsu, fq_pure, fzB_c, fzB_m, fzB_d, fzB_l, fzO, fzH, fzHs, fzl, fz2, fz1, fz0, List.map_cons, List.map_nil, if_true, if_false, reduceIte, Nat.reduceEqDiff, Nat.reduceAdd, Nat.succ_ne_self, Nat.zero_ne_one, Nat.one_ne_zero, reduceCtorEq, and_self]))
 | ((refine ⟨rfl, sound_litE rfl rfl tslice28 tsz49 tzero49 rfl (by decide) (by decide) (by decide) (by decide) rfl rfl, ?_⟩))
 | ((refine ⟨rfl, sound_appoo rfl tslice28 tsz49 tbytes49 tzero49 rfl (by decide) rfl rfl hkl rfl rfl (Nat.le_refl _) (by decide) (by omega) (by omega) rfl, ?_⟩))
 | ((omega))
 | ((exfalso; omega))
 | refine awp_seqK ?_
 | refine kt ?_
 | refine And.intro ?_ ?_
 | ((first | refine awp_stp rfl ?_ | refine Imp.le2 ?_) <;> try simp (maxSteps := 4000000) only [go_sem, seval, hb2, eb0, se_own, se_op, se_nil, List.take_succ_cons, List.take_zero, List.drop_succ_cons, List.drop_zero])
 | intro _h
 | refine awp_block ?_
 | refine awp_scope ?_
 | refine cond_b ?_ ?_
 | (show heapOK _ _ = true; kernel_rfl)
 | (show heapOK2 _ _ = true; kernel_rfl)
 | (omega)))
                all_goals first | rfl | (simp (maxSteps := 4000000) only [go_sem, seval]; done) | (simp (maxSteps := 4000000) only [go_sem, seval]; rfl) | trace_state
              · subst hk1
                have htl : P.take P.length = P := List.take_length
                obtain ⟨wv, hwv⟩ : ∃ wv, worstN t (t.homes.getD n default) = wv := ⟨_, rfl⟩
                have eQ : putB t P n P.length h = P ++ [⟨wv, h, [(n : Int)]⟩] := by
                  unfold putB; rw [if_neg (by omega), hwv]
                have hst := fun hO => putB_sta (k := h) hP (Nat.le_refl P.length) hO
                have hrw : rowR t f P n P.length (h + 1) b0 = tryR t f (putB t P n P.length h) P.length (rowR t f P n P.length h b0) := by
                  rw [rowR, if_neg (fun h9 => by omega)]
                rw [eQ] at hst hrw
                have hgd : (P ++ [(⟨wv, h, [(n : Int)]⟩ : Bus)]).getD P.length default = ⟨wv, h, [(n : Int)]⟩ := by simp [List.getD_eq_getElem?_getD]
                have hQl : (P ++ [(⟨wv, h, [(n : Int)]⟩ : Bus)]).length = P.length + 1 := by simp
                have hce : recs busC (P ++ [(⟨wv, h, [(n : Int)]⟩ : Bus)]) = recs busC P ++ [.int .i64 wv, .int .i64 h, .psl false 1 [.int .i64 n]] := by rw [recs_snoc]; rfl
                have hwk := weak_app (A := recs busC P) (B := [.int .i64 wv, .int .i64 h, .psl true 1 [.int .i64 n]]) (C := [.int .i64 wv, .int .i64 h, .psl false 1 [.int .i64 n]]) rfl (fun j h1 h2 => by
                  match j, h1 with
                  | 0, _ => rfl
                  | 1, _ => rfl
                  | 2, _ => exact .inr (.inl ⟨rfl, rfl⟩))
                rw [← hce] at hwk
                rw [hwv] at hwo hwb
                rw [hgd] at hst
                have hone := one_c t ⟨wv, h, [(n : Int)]⟩ ht (by simp)
                have hfq := fun hO => ih (P ++ [(⟨wv, h, [(n : Int)]⟩ : Bus)]) (hst hO)
                unfold tryR at hrw
                rw [hgd] at hrw
                rw [hQl] at hfq
                clear ih hst hce hoR eQ
                generalize rowR t f P n P.length (h + 1) b0 = r1 at *
                generalize rowR t f P n P.length h b0 = r0 at *
                generalize f (P ++ [(⟨wv, h, [(n : Int)]⟩ : Bus)]) = fq at *
                generalize hQ : P ++ [(⟨wv, h, [(n : Int)]⟩ : Bus)] = Q at *
                have e7 : ((P.length : Int) < P.length) = False := eq_false (by omega)
                simp only [busC, sl] at hone
                simp only [townC, slH, slL, sl, slB]; simp (maxSteps := 4000000) only [go_sem, seval]
                (repeat' (first
 | ((refine awp_weak (c := .region 22 _ _) 1 (ys := recs busC Q) rfl hwk.1 hwk.2 ?_; refine awp_frz (c := .region 22 _ _) 1 rfl (recs_pure fun b => by simp [pureL, busC, sl, cellPure]) (fun _ => rfl) ?_; simp only [hseto, hset, lseto, lset, frz, fq_pure, fzB_c, fzB_m, fzB_d, fzB_l, fzO, fzH, fzHs, fzl, fz2, fz1, fz0, List.map_cons, List.map_nil, if_true, if_false, reduceIte, Nat.reduceEqDiff, Nat.reduceAdd, Nat.succ_ne_self, Nat.zero_ne_one, Nat.one_ne_zero, reduceCtorEq, and_self]))
 | ((exfalso; omega))
 | refine awp_seqK ?_
 | refine kt ?_
 | refine And.intro ?_ ?_
 | ((first | refine awp_stp rfl ?_ | refine Imp.le2 ?_ | refine callK_of (hwo) ?_) <;> try simp (maxSteps := 4000000) only [go_sem, seval, htl, e7])
 | intro _h
 | refine awp_block ?_
 | refine awp_scope ?_
 | refine cond_b ?_ ?_
 | (show heapOK _ _ = true; kernel_rfl)
 | (show heapOK2 _ _ = true; kernel_rfl)
 | (omega)))
                by_cases hO : OneP t ⟨wv, h, [(n : Int)]⟩
                · have hfq := hfq hO
                  rw [← one_yes hO] at hone
                  rw [if_pos hO] at hrw
                  by_cases c1 : 0 ≤ fq
                  · have f1 : (0 ≤ fq) = True := eq_true c1
                    by_cases c2 : r0 < 0
                    · have f2 : (r0 < 0) = True := eq_true c2
                      rw [if_pos ⟨c1, .inl c2⟩] at hrw
                      rw [hrw]
                      (repeat' (first
 | ((exact hbp _))
 | ((omega))
 | ((exfalso; omega))
 | refine awp_seqK ?_
 | refine kt ?_
 | refine And.intro ?_ ?_
 | ((first | refine awp_stp rfl ?_ | refine awp_draw (by kernel_rfl) (by kernel_rfl) ?_ | refine Imp.le2 ?_ | refine callK_of (hone) ?_ | refine callK_of (hfq) ?_) <;> try simp (maxSteps := 4000000) only [go_sem, seval, hgd, hQl, decide_true, decide_false, Bool.not_true, Bool.not_false, hn1, f1, f2])
 | intro _h
 | refine awp_block ?_
 | refine awp_scope ?_
 | refine cond_b ?_ ?_
 | (show heapOK _ _ = true; kernel_rfl)
 | (show heapOK2 _ _ = true; kernel_rfl)
 | (omega)))
                      all_goals first | rfl | exact ⟨rfl, rfl⟩ | exact ⟨rfl, rfl, rfl⟩ | (simp (maxSteps := 4000000) only [go_sem, seval]; done) | trace_state
                    · have f2 : (r0 < 0) = False := eq_false c2
                      by_cases c3 : fq < r0
                      · have f3 : (fq < r0) = True := eq_true c3
                        rw [if_pos ⟨c1, .inr c3⟩] at hrw
                        rw [hrw]
                        (repeat' (first
 | ((exact hbp _))
 | ((omega))
 | ((exfalso; omega))
 | refine awp_seqK ?_
 | refine kt ?_
 | refine And.intro ?_ ?_
 | ((first | refine awp_stp rfl ?_ | refine awp_draw (by kernel_rfl) (by kernel_rfl) ?_ | refine Imp.le2 ?_ | refine callK_of (hone) ?_ | refine callK_of (hfq) ?_) <;> try simp (maxSteps := 4000000) only [go_sem, seval, hgd, hQl, decide_true, decide_false, Bool.not_true, Bool.not_false, hn1, f1, f2, f3])
 | intro _h
 | refine awp_block ?_
 | refine awp_scope ?_
 | refine cond_b ?_ ?_
 | (show heapOK _ _ = true; kernel_rfl)
 | (show heapOK2 _ _ = true; kernel_rfl)
 | (omega)))
                        all_goals first | rfl | exact ⟨rfl, rfl⟩ | exact ⟨rfl, rfl, rfl⟩ | (simp (maxSteps := 4000000) only [go_sem, seval]; done) | trace_state
                      · have f3 : (fq < r0) = False := eq_false c3
                        rw [if_neg (fun h9 => h9.2.elim c2 c3)] at hrw
                        rw [hrw]
                        (repeat' (first
 | ((exact hbp _))
 | ((omega))
 | ((exfalso; omega))
 | refine awp_seqK ?_
 | refine kt ?_
 | refine And.intro ?_ ?_
 | ((first | refine awp_stp rfl ?_ | refine awp_draw (by kernel_rfl) (by kernel_rfl) ?_ | refine Imp.le2 ?_ | refine callK_of (hone) ?_ | refine callK_of (hfq) ?_) <;> try simp (maxSteps := 4000000) only [go_sem, seval, hgd, hQl, decide_true, decide_false, Bool.not_true, Bool.not_false, hn1, f1, f2, f3])
 | intro _h
 | refine awp_block ?_
 | refine awp_scope ?_
 | refine cond_b ?_ ?_
 | (show heapOK _ _ = true; kernel_rfl)
 | (show heapOK2 _ _ = true; kernel_rfl)
 | (omega)))
                        all_goals first | rfl | exact ⟨rfl, rfl⟩ | exact ⟨rfl, rfl, rfl⟩ | (simp (maxSteps := 4000000) only [go_sem, seval]; done) | trace_state
                  · have f1 : (0 ≤ fq) = False := eq_false c1
                    rw [if_neg (fun h9 => c1 h9.1)] at hrw
                    rw [hrw]
                    (repeat' (first
 | ((exact hbp _))
 | ((omega))
 | ((exfalso; omega))
 | refine awp_seqK ?_
 | refine kt ?_
 | refine And.intro ?_ ?_
 | ((first | refine awp_stp rfl ?_ | refine awp_draw (by kernel_rfl) (by kernel_rfl) ?_ | refine Imp.le2 ?_ | refine callK_of (hone) ?_ | refine callK_of (hfq) ?_) <;> try simp (maxSteps := 4000000) only [go_sem, seval, hgd, hQl, decide_true, decide_false, Bool.not_true, Bool.not_false, hn1, f1])
 | intro _h
 | refine awp_block ?_
 | refine awp_scope ?_
 | refine cond_b ?_ ?_
 | (show heapOK _ _ = true; kernel_rfl)
 | (show heapOK2 _ _ = true; kernel_rfl)
 | (omega)))
                    all_goals first | rfl | exact ⟨rfl, rfl⟩ | exact ⟨rfl, rfl, rfl⟩ | (simp (maxSteps := 4000000) only [go_sem, seval]; done) | trace_state
                · rw [← one_no hO] at hone
                  rw [if_neg hO] at hrw
                  rw [hrw]
                  (repeat' (first
 | ((exact hbp _))
 | ((omega))
 | ((exfalso; omega))
 | refine awp_seqK ?_
 | refine kt ?_
 | refine And.intro ?_ ?_
 | ((first | refine awp_stp rfl ?_ | refine awp_draw (by kernel_rfl) (by kernel_rfl) ?_ | refine Imp.le2 ?_ | refine callK_of (hone) ?_) <;> try simp (maxSteps := 4000000) only [go_sem, seval, hgd, hQl, decide_true, decide_false, Bool.not_true, Bool.not_false])
 | intro _h
 | refine awp_block ?_
 | refine awp_scope ?_
 | refine cond_b ?_ ?_
 | (show heapOK _ _ = true; kernel_rfl)
 | (show heapOK2 _ _ = true; kernel_rfl)
 | (omega)))
                  all_goals first | rfl | exact ⟨rfl, rfl⟩ | exact ⟨rfl, rfl, rfl⟩ | (simp (maxSteps := 4000000) only [go_sem, seval]; done) | trace_state
        · subst hh1
          rw [← hoR]
          simp only [townC, slH, slL, sl, slB]; simp (maxSteps := 4000000) only [go_sem, seval]
          (repeat' (first
 | ((exfalso; omega))
 | refine awp_seqK ?_
 | refine kt ?_
 | refine And.intro ?_ ?_
 | ((first | refine awp_stp rfl ?_ | refine awp_draw (by kernel_rfl) (by kernel_rfl) ?_ | refine Imp.le2 ?_ | refine go_split (fun _h => ?_) (fun _h => ?_)) <;> try simp (maxSteps := 4000000) only [go_sem, seval])
 | intro _h
 | refine awp_block ?_
 | refine awp_scope ?_
 | refine cond_b ?_ ?_
 | (show heapOK _ _ = true; kernel_rfl)
 | (show heapOK2 _ _ = true; kernel_rfl)
 | (omega)))
          all_goals trace_state
    · subst hi1
      simp only [townC, slH, slL, sl, slB]; simp (maxSteps := 4000000) only [go_sem, seval]
      (repeat' (first
 | ((exfalso; omega))
 | refine awp_seqK ?_
 | refine kt ?_
 | refine And.intro ?_ ?_
 | ((first | refine awp_stp rfl ?_ | refine awp_draw (by kernel_rfl) (by kernel_rfl) ?_ | refine Imp.le2 ?_ | refine go_split (fun _h => ?_) (fun _h => ?_)) <;> try simp (maxSteps := 4000000) only [go_sem, seval])
 | intro _h
 | refine awp_block ?_
 | refine awp_scope ?_
 | refine cond_b ?_ ?_
 | (show heapOK _ _ = true; kernel_rfl)
 | (show heapOK2 _ _ = true; kernel_rfl)
 | (omega)))
      all_goals trace_state
theorem rFewest_c (t : Town) (ht : TownOK t) (m : Nat) (hm : m ≤ t.homes.length) : ∀ (d n : Nat), n + d = m → ∀ P : List Bus, StaR t n P → CallS Try.prog 29 [.agg (townC t), .int .i64 m, .int .i64 n, slB P] (.int .i64 (fewR t m d n P))
  | 0, n, e, P, hP => by
    have e0 : n = m := by omega
    subst e0
    exact rFewest_leaf t ht n hm P hP
  | d + 1, n, e, P, hP => rFewest_step t ht m n hm (by omega) (fewR t m d (n + 1)) (fun Q hQ => rFewest_c t ht m hm d (n + 1) (by omega) Q hQ) P hP
end Go.Am

/- Contracts of the away functions: Few; Back as a list of the caller's own. -/
namespace Go.Am
open Go.RowKit Go.Proofs
attribute [local irreducible] AWP CallS Kt goK CallK stepK evOps SemF SemY Imp
set_option maxRecDepth 4000
set_option linter.unusedSimpArgs false
set_option linter.unusedVariables false
set_option maxHeartbeats 3200000
def fewB (t : Town) : Bool := thinB t && (!decide (faultT t = 0) || decide (t.homes.length ≤ 4) || (decide (t.homes.length ≤ 5) && decide (t.halls.length ≤ 2)))
theorem few_c (t : Town) : CallS Try.prog 24 [.agg (townC t)] (.bool (fewB t)) := by
  have hth := thin_c t
  cases hR : thinB t with
  | false =>
    have e : fewB t = false := by simp [fewB, hR]
    rw [hR] at hth
    rw [e]
    simp only [townC, slH, slL] at hth ⊢
    (refine callS_of_awp (fun w args => Try.call24 ..) Try.func24 rfl (fun w0 m0 wz => ?_); simp only [Try.ntmps24, Try.results24, initT, junks, homeC, hallC, slH, slL, townC, sl, List.toList_toArray, List.cons_append, List.nil_append, List.length_cons, List.length_nil, Nat.reduceAdd, Nat.reduceSub])
    (repeat' (first
 | refine awp_seqK ?_
 | refine kt ?_
 | refine And.intro ?_ ?_
 | ((first | refine awp_stp rfl ?_ | refine awp_draw (by kernel_rfl) (by kernel_rfl) ?_ | refine Imp.le2 ?_ | refine callK_of (hth) ?_ | refine go_split (fun _h => ?_) (fun _h => ?_)) <;> try simp (maxSteps := 4000000) only [go_sem, seval])
 | intro _h
 | refine awp_block ?_
 | refine awp_scope ?_
 | refine cond_b ?_ ?_
 | (show heapOK _ _ = true; kernel_rfl)
 | (show heapOK2 _ _ = true; kernel_rfl)
 | (omega)))
    all_goals trace_state
  | true =>
    have hb := (thinB_ok hR).1
    have hfa := fault_c t hb
    have hF : ∀ b, (!decide (faultT t = 0) || decide (t.homes.length ≤ 4) || (decide (t.homes.length ≤ 5) && decide (t.halls.length ≤ 2))) = b → fewB t = b := fun b h => by simp only [fewB, hR, h, Bool.true_and]
    rw [hR] at hth
    by_cases c0 : faultT t = 0
    · rw [c0] at hfa
      by_cases c4 : t.homes.length ≤ 4
      · have f4 : ((t.homes.length : Int) ≤ 4) = True := eq_true (by omega)
        rw [hF true (by simp [c0, c4])]
        simp only [townC, slH, slL] at hth hfa ⊢
        (refine callS_of_awp (fun w args => Try.call24 ..) Try.func24 rfl (fun w0 m0 wz => ?_); simp only [Try.ntmps24, Try.results24, initT, junks, homeC, hallC, slH, slL, townC, sl, List.toList_toArray, List.cons_append, List.nil_append, List.length_cons, List.length_nil, Nat.reduceAdd, Nat.reduceSub])
        (repeat' (first
 | ((exfalso; omega))
 | refine awp_seqK ?_
 | refine kt ?_
 | refine And.intro ?_ ?_
 | ((first | refine awp_stp rfl ?_ | refine awp_draw (by kernel_rfl) (by kernel_rfl) ?_ | refine Imp.le2 ?_ | refine callK_of (hth) ?_ | refine callK_of (hfa) ?_ | refine go_split (fun _h => ?_) (fun _h => ?_)) <;> try simp (maxSteps := 4000000) only [go_sem, seval, f4, decide_true])
 | intro _h
 | refine awp_block ?_
 | refine awp_scope ?_
 | refine cond_b ?_ ?_
 | (show heapOK _ _ = true; kernel_rfl)
 | (show heapOK2 _ _ = true; kernel_rfl)
 | (omega)))
        all_goals trace_state
      · have f4 : ((t.homes.length : Int) ≤ 4) = False := eq_false (by omega)
        by_cases c5 : t.homes.length ≤ 5
        · have f5 : ((t.homes.length : Int) ≤ 5) = True := eq_true (by omega)
          by_cases c2 : t.halls.length ≤ 2
          · have f2 : ((t.halls.length : Int) ≤ 2) = True := eq_true (by omega)
            rw [hF true (by simp [c0, c4, c5, c2])]
            simp only [townC, slH, slL] at hth hfa ⊢
            (refine callS_of_awp (fun w args => Try.call24 ..) Try.func24 rfl (fun w0 m0 wz => ?_); simp only [Try.ntmps24, Try.results24, initT, junks, homeC, hallC, slH, slL, townC, sl, List.toList_toArray, List.cons_append, List.nil_append, List.length_cons, List.length_nil, Nat.reduceAdd, Nat.reduceSub])
            (repeat' (first
 | ((exfalso; omega))
 | refine awp_seqK ?_
 | refine kt ?_
 | refine And.intro ?_ ?_
 | ((first | refine awp_stp rfl ?_ | refine awp_draw (by kernel_rfl) (by kernel_rfl) ?_ | refine Imp.le2 ?_ | refine callK_of (hth) ?_ | refine callK_of (hfa) ?_ | refine go_split (fun _h => ?_) (fun _h => ?_)) <;> try simp (maxSteps := 4000000) only [go_sem, seval, f4, f5, f2, decide_true, decide_false])
 | intro _h
 | refine awp_block ?_
 | refine awp_scope ?_
 | refine cond_b ?_ ?_
 | (show heapOK _ _ = true; kernel_rfl)
 | (show heapOK2 _ _ = true; kernel_rfl)
 | (omega)))
            all_goals trace_state
          · have f2 : ((t.halls.length : Int) ≤ 2) = False := eq_false (by omega)
            rw [hF false (by simp [c0, c4, c5, c2])]
            simp only [townC, slH, slL] at hth hfa ⊢
            (refine callS_of_awp (fun w args => Try.call24 ..) Try.func24 rfl (fun w0 m0 wz => ?_); simp only [Try.ntmps24, Try.results24, initT, junks, homeC, hallC, slH, slL, townC, sl, List.toList_toArray, List.cons_append, List.nil_append, List.length_cons, List.length_nil, Nat.reduceAdd, Nat.reduceSub])
            (repeat' (first
 | ((exfalso; omega))
 | refine awp_seqK ?_
 | refine kt ?_
 | refine And.intro ?_ ?_
 | ((first | refine awp_stp rfl ?_ | refine awp_draw (by kernel_rfl) (by kernel_rfl) ?_ | refine Imp.le2 ?_ | refine callK_of (hth) ?_ | refine callK_of (hfa) ?_ | refine go_split (fun _h => ?_) (fun _h => ?_)) <;> try simp (maxSteps := 4000000) only [go_sem, seval, f4, f5, f2, decide_true, decide_false])
 | intro _h
 | refine awp_block ?_
 | refine awp_scope ?_
 | refine cond_b ?_ ?_
 | (show heapOK _ _ = true; kernel_rfl)
 | (show heapOK2 _ _ = true; kernel_rfl)
 | (omega)))
            all_goals trace_state
        · have f5 : ((t.homes.length : Int) ≤ 5) = False := eq_false (by omega)
          rw [hF false (by simp [c0, c4, c5])]
          simp only [townC, slH, slL] at hth hfa ⊢
          (refine callS_of_awp (fun w args => Try.call24 ..) Try.func24 rfl (fun w0 m0 wz => ?_); simp only [Try.ntmps24, Try.results24, initT, junks, homeC, hallC, slH, slL, townC, sl, List.toList_toArray, List.cons_append, List.nil_append, List.length_cons, List.length_nil, Nat.reduceAdd, Nat.reduceSub])
          (repeat' (first
 | ((exfalso; omega))
 | refine awp_seqK ?_
 | refine kt ?_
 | refine And.intro ?_ ?_
 | ((first | refine awp_stp rfl ?_ | refine awp_draw (by kernel_rfl) (by kernel_rfl) ?_ | refine Imp.le2 ?_ | refine callK_of (hth) ?_ | refine callK_of (hfa) ?_ | refine go_split (fun _h => ?_) (fun _h => ?_)) <;> try simp (maxSteps := 4000000) only [go_sem, seval, f4, f5, decide_true, decide_false])
 | intro _h
 | refine awp_block ?_
 | refine awp_scope ?_
 | refine cond_b ?_ ?_
 | (show heapOK _ _ = true; kernel_rfl)
 | (show heapOK2 _ _ = true; kernel_rfl)
 | (omega)))
          all_goals trace_state
    · have f0 : (faultT t = 0) = False := eq_false c0
      rw [hF true (by simp [c0])]
      simp only [townC, slH, slL] at hth hfa ⊢
      (refine callS_of_awp (fun w args => Try.call24 ..) Try.func24 rfl (fun w0 m0 wz => ?_); simp only [Try.ntmps24, Try.results24, initT, junks, homeC, hallC, slH, slL, townC, sl, List.toList_toArray, List.cons_append, List.nil_append, List.length_cons, List.length_nil, Nat.reduceAdd, Nat.reduceSub])
      (repeat' (first
 | ((exfalso; omega))
 | refine awp_seqK ?_
 | refine kt ?_
 | refine And.intro ?_ ?_
 | ((first | refine awp_stp rfl ?_ | refine awp_draw (by kernel_rfl) (by kernel_rfl) ?_ | refine Imp.le2 ?_ | refine callK_of (hth) ?_ | refine callK_of (hfa) ?_ | refine go_split (fun _h => ?_) (fun _h => ?_)) <;> try simp (maxSteps := 4000000) only [go_sem, seval, f0, decide_false, decide_true, Bool.not_false])
 | intro _h
 | refine awp_block ?_
 | refine awp_scope ?_
 | refine cond_b ?_ ?_
 | (show heapOK _ _ = true; kernel_rfl)
 | (show heapOK2 _ _ = true; kernel_rfl)
 | (omega)))
      all_goals trace_state
theorem back_o (l : List Bus) (hl : PlanS l) : SemF Try.prog 21 [slB l] [] (.osl 0 l.length 0 l.length) [some (.cells 49 3 l.length (recs busC l))] := by
  obtain ⟨hl1, hl2⟩ := hl
  simp only [slB]
  (refine semF_of_awp (ys := [.osl 0 l.length 0 l.length]) (fun w args => Try.call21 ..) Try.func21 rfl (fun w0 m0 wz => ?_); simp only [Try.ntmps21, Try.results21, initT, junks, homeC, hallC, slH, slL, townC, sl, List.toList_toArray, List.cons_append, List.nil_append, List.length_cons, List.length_nil, Nat.reduceAdd, Nat.reduceSub])
  (repeat' (first
 | refine awp_seqK ?_
 | refine kt ?_
 | refine And.intro ?_ ?_
 | ((first | refine awp_stp rfl ?_ | refine awp_draw (by kernel_rfl) (by kernel_rfl) ?_ | refine Imp.le2 ?_ | refine go_split (fun _h => ?_) (fun _h => ?_)) <;> try simp (maxSteps := 4000000) only [go_sem, seval])
 | intro _h
 | refine awp_block ?_
 | refine awp_scope ?_
 | refine cond_b ?_ ?_
 | (show heapOK _ _ = true; kernel_rfl)
 | (show heapOK2 _ _ = true; kernel_rfl)
 | (omega)))
  (refine awp_adT 3 49 3 rfl ?_; simp only [adT, lset, hset, List.length_cons, List.length_nil, Nat.reduceAdd])
  refine awp_loopN l.length (fun k => ⟨mkT 32 [(0, slB l), (3, .osl 0 k 0 k), (4, .int .i64 k)], [some (.cells 49 3 k (recs busC (l.take k)))], []⟩) (.le2 ?_) ?_
  · simp only [slB]; simp (maxSteps := 4000000) only [go_sem, seval]
    first | rfl | exact ⟨rfl, rfl⟩
  · intro k hk
    rcases Nat.lt_or_eq_of_le hk with hk1 | hk1
    · have hlt : (l.take k).length = k := by simp; omega
      have hsn := recs_take (enc := busC) (d := default) hk1
      have hli := list_c (l.getD k default).homes (hl2 _ (getD_mem hk1))
      simp only [busC, sl] at hsn hli
      simp only [slB]; simp (maxSteps := 4000000) only [go_sem, seval]
      (repeat' (first
 | ((omega))
 | refine awp_seqK ?_
 | refine kt ?_
 | refine And.intro ?_ ?_
 | ((first | refine awp_stp rfl ?_ | refine awp_draw (by kernel_rfl) (by kernel_rfl) ?_ | refine Imp.le2 ?_ | refine callK_of (hli) ?_ | refine go_split (fun _h => ?_) (fun _h => ?_)) <;> try simp (maxSteps := 4000000) only [go_sem, seval, hlt, hsn, busC])
 | intro _h
 | refine awp_block ?_
 | refine awp_scope ?_
 | refine cond_b ?_ ?_
 | (show heapOK _ _ = true; kernel_rfl)
 | (show heapOK2 _ _ = true; kernel_rfl)
 | (omega)))
      all_goals trace_state
    · subst hk1
      have hlt : l.take l.length = l := by simp
      simp only [slB]; simp (maxSteps := 4000000) only [go_sem, seval, hlt]
      (repeat' (first
 | ((exfalso; omega))
 | refine awp_seqK ?_
 | refine kt ?_
 | refine And.intro ?_ ?_
 | ((first | refine awp_stp rfl ?_ | refine awp_draw (by kernel_rfl) (by kernel_rfl) ?_ | refine Imp.le2 ?_ | refine go_split (fun _h => ?_) (fun _h => ?_)) <;> try simp (maxSteps := 4000000) only [go_sem, seval, hlt])
 | intro _h
 | refine awp_block ?_
 | refine awp_scope ?_
 | refine cond_b ?_ ?_
 | (show heapOK _ _ = true; kernel_rfl)
 | (show heapOK2 _ _ = true; kernel_rfl)
 | (omega)))
      all_goals trace_state
end Go.Am

/- Contracts of the away functions: the reference's Fails. -/
namespace Go.Am
open Go.RowKit Go.Proofs
attribute [local irreducible] AWP CallS Kt goK CallK stepK evOps SemF SemY Imp
set_option maxRecDepth 4000
set_option linter.unusedSimpArgs false
set_option linter.unusedVariables false
set_option maxHeartbeats 3200000
def rFailsN (t : Town) : Int := match failI t with | some i => i | none => -1
theorem rFew0_c (t : Town) (ht : TownOK t) (m : Nat) (hm : m ≤ t.homes.length) : CallS Try.prog 29 [.agg (townC t), .int .i64 m, .int .i64 0, .psl false 0 []] (.int .i64 (if fewN t m < 1000 then fewN t m else -1)) := by
  have h := rFewest_c t ht m hm m 0 (by omega) [] ⟨Nat.le_refl _, fun j hj => by simp at hj⟩
  rwa [fewR_eq ht hm] at h
theorem rFails_c (t : Town) (ht : TownOK t) : CallS Try.prog 27 [.agg (townC t)] (.int .i64 (rFailsN t)) := by
  have hln := ht.homes
  have hS : ∀ i : Nat, failI t = some i → rFailsN t = i := fun i h => by simp [rFailsN, h]
  have hN : failI t = none → rFailsN t = -1 := fun h => by simp [rFailsN, h]
  generalize rFailsN t = r at *
  simp only [townC, slH, slL]
  (refine callS_of_awp (fun w args => Try.call27 ..) Try.func27 rfl (fun w0 m0 wz => ?_); simp only [Try.ntmps27, Try.results27, initT, junks, homeC, hallC, slH, slL, townC, sl, List.toList_toArray, List.cons_append, List.nil_append, List.length_cons, List.length_nil, Nat.reduceAdd, Nat.reduceSub])
  (repeat' (first
 | refine awp_seqK ?_
 | refine kt ?_
 | refine And.intro ?_ ?_
 | ((first | refine awp_stp rfl ?_ | refine awp_draw (by kernel_rfl) (by kernel_rfl) ?_ | refine Imp.le2 ?_ | refine go_split (fun _h => ?_) (fun _h => ?_)) <;> try simp (maxSteps := 4000000) only [go_sem, seval])
 | intro _h
 | refine awp_block ?_
 | refine awp_scope ?_
 | refine cond_b ?_ ?_
 | (show heapOK _ _ = true; kernel_rfl)
 | (show heapOK2 _ _ = true; kernel_rfl)
 | (omega)))
  refine awp_loopJ (fun n : Nat => (1 ≤ n ∧ n ≤ t.homes.length + 1) ∧ ∀ j, j + 1 < n → fewN t (j + 1) < 1000) (fun n => ⟨mkT 17 [(1, .ptr 0 0 0), (3, .int .i64 n)], [some (.cells 27 1 0 (townC t))], []⟩) (fun n => t.homes.length + 1 - n) 1 ⟨⟨Nat.le_refl _, by omega⟩, fun j hj => by omega⟩ (.le2 ?_) ?_
  · simp only [townC, slH, slL]; simp (maxSteps := 4000000) only [go_sem, seval]
    all_goals first | rfl | exact ⟨rfl, rfl⟩ | trace_state
  · rintro n ⟨⟨h1, h2⟩, h3⟩
    by_cases hn : n ≤ t.homes.length
    · have hf := rFew0_c t ht n hn
      have hnn : 0 ≤ fewN t n := needV_bd.1
      have hnb : fewN t n ≤ 1000 := needV_bd.2
      by_cases c : fewN t n < 1000
      · have e1 : (fewN t n < 0) = False := eq_false (by omega)
        rw [if_pos c] at hf
        simp only [townC, slH, slL] at hf ⊢; simp (maxSteps := 4000000) only [go_sem, seval]
        (repeat' (first
 | ((exfalso; omega))
 | ((omega))
 | refine awp_seqK ?_
 | refine kt ?_
 | refine And.intro ?_ ?_
 | ((first | refine awp_stp rfl ?_ | refine awp_draw (by kernel_rfl) (by kernel_rfl) ?_ | refine Imp.le2 ?_ | refine callK_of (CallS.sub (hf) (by simp [subL, avSub])) ?_ | refine go_split (fun _h => ?_) (fun _h => ?_)) <;> try simp (maxSteps := 4000000) only [go_sem, seval, e1, decide_false])
 | intro _h
 | refine awp_block ?_
 | refine awp_scope ?_
 | refine cond_b ?_ ?_
 | (show heapOK _ _ = true; kernel_rfl)
 | (show heapOK2 _ _ = true; kernel_rfl)
 | (omega)))
        refine ⟨n + 1, ⟨⟨by omega, by omega⟩, fun j hj => ?_⟩, by omega, .le2 ?_⟩
        · by_cases e : j + 1 = n
          · rw [e]; exact c
          · exact h3 j (by omega)
        · simp (maxSteps := 4000000) only [go_sem, seval]
          all_goals first | rfl | exact ⟨rfl, rfl⟩ | trace_state
      · rw [if_neg c] at hf
        have hf1 : failI t = some (n - 1) := failI_some.2 ⟨by omega, by rw [show n - 1 + 1 = n by omega]; omega, fun j hj => h3 j (by omega)⟩
        have hr : r = (n : Int) - 1 := by rw [hS _ hf1]; omega
        subst hr
        simp only [townC, slH, slL] at hf ⊢; simp (maxSteps := 4000000) only [go_sem, seval]
        (repeat' (first
 | ((exfalso; omega))
 | ((omega))
 | refine awp_seqK ?_
 | refine kt ?_
 | refine And.intro ?_ ?_
 | ((first | refine awp_stp rfl ?_ | refine awp_draw (by kernel_rfl) (by kernel_rfl) ?_ | refine Imp.le2 ?_ | refine callK_of (CallS.sub (hf) (by simp [subL, avSub])) ?_ | refine go_split (fun _h => ?_) (fun _h => ?_)) <;> try simp (maxSteps := 4000000) only [go_sem, seval])
 | intro _h
 | refine awp_block ?_
 | refine awp_scope ?_
 | refine cond_b ?_ ?_
 | (show heapOK _ _ = true; kernel_rfl)
 | (show heapOK2 _ _ = true; kernel_rfl)
 | (omega)))
        all_goals trace_state
    · have hf1 : failI t = none := failI_none.2 fun j hj => h3 j (by omega)
      have hr := hN hf1
      subst hr
      simp only [townC, slH, slL]; simp (maxSteps := 4000000) only [go_sem, seval]
      (repeat' (first
 | ((exfalso; omega))
 | ((omega))
 | refine awp_seqK ?_
 | refine kt ?_
 | refine And.intro ?_ ?_
 | ((first | refine awp_stp rfl ?_ | refine awp_draw (by kernel_rfl) (by kernel_rfl) ?_ | refine Imp.le2 ?_ | refine go_split (fun _h => ?_) (fun _h => ?_)) <;> try simp (maxSteps := 4000000) only [go_sem, seval])
 | intro _h
 | refine awp_block ?_
 | refine awp_scope ?_
 | refine cond_b ?_ ?_
 | (show heapOK _ _ = true; kernel_rfl)
 | (show heapOK2 _ _ = true; kernel_rfl)
 | (omega)))
      all_goals trace_state
end Go.Am

/- A town that asks less: a plan that is right stays right. -/
namespace Go.Am
open Go.RowKit Go.Proofs
set_option linter.unusedSimpArgs false
set_option linter.unusedVariables false
structure Easier (t x : Town) : Prop where
  ok : TownOK x
  hl : x.homes.length = t.homes.length
  ll : x.halls.length = t.halls.length
  seats : t.seats ≤ x.seats
  home : ∀ i, i < t.homes.length → ((x.homes.getD i default).people = (t.homes.getD i default).people ∧ (x.homes.getD i default).pets = (t.homes.getD i default).pets) ∧ worstN x (x.homes.getD i default) ≤ worstN t (t.homes.getD i default) ∧ (t.homes.getD i default).gone ≤ (x.homes.getD i default).gone
  hall : ∀ i, i < t.halls.length → ((t.halls.getD i default).room ≤ (x.halls.getD i default).room ∧ (x.halls.getD i default).drive = (t.halls.getD i default).drive) ∧ ∀ a, andn a (t.halls.getD i default).pets = 0 → andn a (x.halls.getD i default).pets = 0
theorem Easier.refl {t : Town} (ht : TownOK t) : Easier t t := ⟨ht, rfl, rfl, Int.le_refl _, fun i hi => ⟨⟨rfl, rfl⟩, Int.le_refl _, Int.le_refl _⟩, fun i hi => ⟨⟨Int.le_refl _, rfl⟩, fun a h => h⟩⟩
section
variable {α : Type} {enc : α → List AV} {sz : Nat} {l : List α} {d : α}
theorem sp_recs (he : ∀ a, (enc a).length = sz) {i o : Nat} (hi : i < l.length) (ho : o < sz) {v : AV} {a' : α} (h : enc a' = splice (enc (l.getD i d)) o [v]) : splice (recs enc l) (i * sz + o) [v] = recs enc (isp l i a') := by
  have e0 : recs enc l = recs enc (l.take i) ++ recs enc (l.drop i) := by
    show l.flatMap enc = (l.take i).flatMap enc ++ (l.drop i).flatMap enc
    rw [← List.flatMap_append, List.take_append_drop]
  have e1 : recs enc (l.drop i) = enc (l.getD i d) ++ recs enc (l.drop (i + 1)) := by rw [← recs_drop he, recs_at (d := d) he hi]
  have e2 : (recs enc (l.take i)).length = i * sz := by rw [recs_length he, List.length_take, Nat.min_eq_left (by omega)]
  have e3 := he (l.getD i d)
  have e4 : recs enc (isp l i a') = recs enc (l.take i) ++ (enc a' ++ recs enc (l.drop (i + 1))) := by simp [recs, isp]
  rw [e4, e0, e1, h]
  simp only [splice]
  generalize recs enc (l.take i) = A at *
  generalize enc (l.getD i d) = E at *
  generalize recs enc (l.drop (i + 1)) = B at *
  rw [← e2, ← List.append_assoc, List.take_append_of_le_length (by rw [List.length_append]; omega), List.take_length_add_append, List.drop_append_of_le_length (by rw [List.length_append, List.length_singleton]; omega), show A.length + o + [v].length = A.length + (o + [v].length) by omega, List.drop_length_add_append]
  simp only [List.append_assoc]
end
end Go.Am

/- What the law AwayEasier leans on. -/
namespace Go.Am
open Go.RowKit Go.Proofs
set_option linter.unusedSimpArgs false
set_option linter.unusedVariables false
theorem tmod_bd {a b : Int} (h : 0 ≤ a) (hb : 0 < b) : 0 ≤ a.tmod b ∧ a.tmod b < b := ⟨Int.tmod_nonneg b h, Int.tmod_lt_of_pos a hb⟩
theorem at_mod {a : Int} {n : Nat} (h : 0 ≤ a) (hn : 0 < n) : ∃ q : Nat, q < n ∧ a.tmod (n : Int) = (q : Int) :=
  ⟨a.toNat % n, Nat.mod_lt _ hn, by
    conv => lhs; rw [show a = ((a.toNat : Nat) : Int) by omega]
    rfl⟩
theorem planL_sh2 {t : Town} (h0 : faultT t = 0) : PlanS (planL t) := by
  have ht := faultT_zero h0
  refine ⟨by have := planF_le (t := t) 256 (stBeg t t.homes.length t.halls.length); unfold planL; omega, fun b hb => ?_⟩
  have := planF_short ht 256 _ (stBeg_ok ht (Nat.le_refl _)) b hb
  omega
instance {l : List Home} : Still (recs homeC l) := ⟨fun y hy => by
  simp only [recs, List.mem_flatMap] at hy
  obtain ⟨h, _, hy⟩ := hy
  simp only [homeC, List.mem_cons, List.not_mem_nil, or_false] at hy
  rcases hy with rfl | rfl | rfl | rfl | rfl | rfl <;> rfl⟩
instance {l : List Hall} : Still (recs hallC l) := ⟨fun y hy => by
  simp only [recs, List.mem_flatMap] at hy
  obtain ⟨h, _, hy⟩ := hy
  simp only [hallC, List.mem_cons, List.not_mem_nil, or_false] at hy
  rcases hy with rfl | rfl | rfl <;> rfl⟩
end Go.Am
