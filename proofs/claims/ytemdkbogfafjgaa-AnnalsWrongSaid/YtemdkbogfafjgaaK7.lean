/- Parts UeE, UfF, UgF, UeD, UhF, UhE, UhG of the proof, one behind the other. No statement is proved here. -/
import Derived.Test.YtemdkbogfafjgaaK5
import Derived.Test.YtemdkbogfafjgaaK4
set_option linter.unusedVariables false -- all
set_option linter.unusedSimpArgs false
namespace Go.Am
open Go.RowKit Go.Proofs
attribute [local irreducible] AWP zO Kt goK CallK zT zS SemF SemY Imp
set_option maxRecDepth 4000
set_option linter.unusedSimpArgs false
set_option linter.unusedVariables false
set_option maxHeartbeats 1600000
def fiK (fd : Bool) (dy : List Int) : Nat → List Int → List Int
 | 0, l => l
 | k + 1, l => if fd = true then isp (fiK fd dy k l) k (min ((fiK fd dy k l).getD k 0) (dy.getD k 0)) else fiK fd dy k l ++ [dy.getD k 0]
def fiS (t : Ann) (v : Bool × List Int) (pl dy : List Int) : (Bool × List Int) × Bool := ((true, fiK v.1 dy t.reports.length v.2), true)
structure FiOK (t : Ann) (v : Bool × List Int) : Prop where
 on : v.1 = true → v.2.length = t.reports.length
 off : v.1 = false → v.2 = []
 bd : ∀ i, 0 ≤ v.2.getD i 0 ∧ v.2.getD i 0 ≤ 100000
theorem fiK_length {dy l : List Int} : ∀ {k : Nat}, k ≤ l.length → (fiK true dy k l).length = l.length
 | 0, _ => rfl
 | k + 1, h => by
   have ih := fiK_length (dy := dy) (l := l) (k := k) (by omega)
   simp only [fiK, if_true]
   rw [isp_length (by omega)]; exact ih
theorem fiK_len2 {dy : List Int} : ∀ {k : Nat}, (fiK false dy k []).length = k
 | 0 => rfl
 | k + 1 => by
   have ih := fiK_len2 (dy := dy) (k := k)
   simp [fiK, ih]
theorem fiK_get {dy l : List Int} {i : Nat} : ∀ {k : Nat}, k ≤ l.length → (fiK true dy k l).getD i 0 = if i < k then min (l.getD i 0) (dy.getD i 0) else l.getD i 0
 | 0, _ => by simp [fiK]
 | k + 1, h => by
   have ih := fiK_get (dy := dy) (l := l) (i := i) (k := k) (by omega)
   have ih2 := fiK_get (dy := dy) (l := l) (i := k) (k := k) (by omega)
   have hl := fiK_length (dy := dy) (l := l) (k := k) (by omega)
   simp only [fiK, if_true]
   rw [isp_getD (by omega), ih, ih2]
   by_cases e : i = k
   ·subst e; simp
   ·by_cases e2 : i < k
    ·simp [e, e2, show i < k + 1 by omega]
    ·simp [e, e2, show ¬ i < k + 1 by omega]
theorem fiK_off {dy : List Int} : ∀ {k : Nat}, k ≤ dy.length → fiK false dy k [] = dy.take k
 | 0, _ => by simp [fiK]
 | k + 1, h => by
   have ih := fiK_off (dy := dy) (k := k) (by omega)
   simp only [fiK, Bool.false_eq_true, if_false]
   rw [ih, List.take_succ_eq_append_getElem (by omega)]
   simp [List.getD_eq_getElem?_getD, show k < dy.length by omega]
theorem fi_ok (t : Ann) (ht : AnnOK t) : ∀ (v : Bool × List Int) (pl dy : List Int), FiOK t v → PDOK pl dy → FiOK t (fiS t v pl dy).1 := by
 rintro ⟨fd, l⟩ pl dy hv hd
 have hr := ht.reports
 have h2 := hd.ldy
 simp only [fiS]
 cases fd with
 | true =>
   have hl : l.length = t.reports.length := hv.on rfl
   refine ⟨fun _ => by simp only; rw [fiK_length (by omega)]; exact hl, fun h => (by cases h), fun i => ?_⟩
   simp only
   rw [fiK_get (by omega)]
   have h3 := hv.bd i
   have h4 := hd.dyb i
   simp only at h3
   split <;> omega
 | false =>
   have hl : l = [] := hv.off rfl
   subst hl
   refine ⟨fun _ => by simp only; rw [fiK_len2], fun h => (by cases h), fun i => ?_⟩
   simp only
   rw [fiK_off (by omega), List.getD_eq_getElem?_getD, List.getElem?_take]
   have h4 := hd.dyb i
   rw [List.getD_eq_getElem?_getD] at h4
   split
   ·exact h4
   ·simp
theorem ints_snoc {l : List Int} {x : Int} : zM l ++ [.int .i64 x] = zM (l ++ [x]) := by simp [zM]
theorem fi_c (t : Ann) (v : Bool × List Int) (pl dy : List Int) (K : List (Key × Bool)) (ht : AnnOK t) (hv : FiOK t v) (hd : PDOK pl dy) :
 SemF Try.prog 93 [.ptr 4 0 0, .ptr 0 0 0, .ptr 1 0 0, .ptr 2 0 0] [some (.cells 35 1 0 (zJ t)), some (.cells 4 1 0 [.bool v.1]), some (.cells 59 1 0 [.osl 3 v.2.length 0 v.2.length]), some (.cells 3 1 v.2.length (zM v.2)), some (.cells 115 1 0 (seG t 5 pl dy)), some (.map (kmC K))] (.bool (fiS t v pl dy).2)
  [some (.cells 35 1 0 (zJ t)), some (.cells 4 1 0 [.bool (fiS t v pl dy).1.1]), some (.cells 59 1 0 [.osl 3 (fiS t v pl dy).1.2.length 0 (fiS t v pl dy).1.2.length]), some (.cells 3 1 (fiS t v pl dy).1.2.length (zM (fiS t v pl dy).1.2)), some (.cells 115 1 0 (seG t 5 pl dy)), some (.map (kmC K))] := by
 have hr := ht.reports
 have h1 := hd.lpl
 have h2 := hd.ldy
 obtain ⟨fd, l⟩ := v
 simp only [fiS]
 cases fd with
 | true =>
   have hl : l.length = t.reports.length := hv.on rfl
   simp only [seG, zJ, slR, slC]
   (refine zK (ys := [.bool true]) (fun w args => Try.call93 ..) Try.func93 rfl (fun w0 m0 wz => ?_); simp only [Try.ntmps93, Try.results93, zP, zR, zV, zW, slR, slC, zJ, sl, List.toList_toArray, List.cons_append, List.nil_append, List.length_cons, List.length_nil, Nat.reduceAdd, Nat.reduceSub])
   (repeat' (first
 | refine zC ?_
 | refine kt ?_
 | refine And.intro ?_ ?_
 | ((first | refine awp_stp rfl ?_ | refine awp_draw (by kernel_rfl) (by kernel_rfl) ?_ | refine Imp.le2 ?_ | refine go_split (fun _h => ?_) (fun _h => ?_)) <;> try simp (maxSteps := 4000000) only [go_sem, seval])
 | intro _h
 | refine zA ?_
 | refine zB ?_
 | refine zF ?_ ?_
 | (show zE _ _ = true; kernel_rfl)
 | (show zD _ _ = true; kernel_rfl)
 | (omega)))
   refine zQ t.reports.length (fun i => ⟨mkT 40 [(0, .ptr 4 0 0), (1, .ptr 0 0 0), (2, .ptr 1 0 0), (3, .ptr 2 0 0), (5, .bool false), (9, .int .i64 t.reports.length), (10, .int .i64 i)],
    [some (.cells 35 1 0 (zJ t)), some (.cells 4 1 0 [.bool true]), some (.cells 59 1 0 [.osl 3 t.reports.length 0 t.reports.length]), some (.cells 3 1 t.reports.length (zM (fiK true dy i l))), some (.cells 115 1 0 (seG t 5 pl dy)), some (.map (kmC K))], []⟩) (.le2 ?_) ?_
   ·simp only [seG, zJ, slR, slC, fiK, hl]; simp (maxSteps := 4000000) only [go_sem, seval]
    all_goals trace_state
   ·intro i hi
    have hL := fiK_length (dy := dy) (l := l) (k := i) (by omega)
    rcases Nat.lt_or_eq_of_le hi with hi1 | hi1
    ·simp only [fiK, if_true]
     generalize fiK true dy i l = L at *
     have hn := fun K => show optK (nth (zM L) i) K = K (.int .i64 (L.getD i 0)) by rw [ints_nth (by omega)]; rfl
     have hy := fun x y z u K => se_dy (x := x) (y := y) (z := z) (u := u) (S := pl) (F := dy) (i := i) (K := K) h1 (by omega)
     simp only [seG, zJ, slR, slC]; simp (maxSteps := 4000000) only [go_sem, seval]
     (repeat' (first
 | ((exfalso; omega))
 | ((omega))
 | refine zC ?_
 | refine kt ?_
 | refine And.intro ?_ ?_
 | ((first | refine awp_stp rfl ?_ | refine awp_draw (by kernel_rfl) (by kernel_rfl) ?_ | refine Imp.le2 ?_ | refine callK_of (earliest_c _ _ _) ?_ | refine go_split (fun _h => ?_) (fun _h => ?_)) <;> try simp (maxSteps := 4000000) only [go_sem, seval, hn, hy, hL])
 | intro _h
 | refine zA ?_
 | refine zB ?_
 | refine zF ?_ ?_
 | (show zE _ _ = true; kernel_rfl)
 | (show zD _ _ = true; kernel_rfl)
 | (omega)))
     all_goals trace_state
    ·subst hi1
     generalize fiK true dy t.reports.length l = L at *
     rw [hl] at hL
     simp only [seG, zJ, slR, slC]; simp (maxSteps := 4000000) only [go_sem, seval]
     (repeat' (first
 | ((exfalso; omega))
 | ((omega))
 | refine zC ?_
 | refine kt ?_
 | refine And.intro ?_ ?_
 | ((first | refine awp_stp rfl ?_ | refine awp_draw (by kernel_rfl) (by kernel_rfl) ?_ | refine Imp.le2 ?_ | refine go_split (fun _h => ?_) (fun _h => ?_)) <;> try simp (maxSteps := 4000000) only [go_sem, seval, hL])
 | intro _h
 | refine zA ?_
 | refine zB ?_
 | refine zF ?_ ?_
 | (show zE _ _ = true; kernel_rfl)
 | (show zD _ _ = true; kernel_rfl)
 | (omega)))
     all_goals trace_state
 | false =>
   have hl : l = [] := hv.off rfl
   subst hl
   simp only [seG, zJ, slR, slC]
   (refine zK (ys := [.bool true]) (fun w args => Try.call93 ..) Try.func93 rfl (fun w0 m0 wz => ?_); simp only [Try.ntmps93, Try.results93, zP, zR, zV, zW, slR, slC, zJ, sl, List.toList_toArray, List.cons_append, List.nil_append, List.length_cons, List.length_nil, Nat.reduceAdd, Nat.reduceSub])
   (repeat' (first
 | refine zC ?_
 | refine kt ?_
 | refine And.intro ?_ ?_
 | ((first | refine awp_stp rfl ?_ | refine awp_draw (by kernel_rfl) (by kernel_rfl) ?_ | refine Imp.le2 ?_ | refine go_split (fun _h => ?_) (fun _h => ?_)) <;> try simp (maxSteps := 4000000) only [go_sem, seval])
 | intro _h
 | refine zA ?_
 | refine zB ?_
 | refine zF ?_ ?_
 | (show zE _ _ = true; kernel_rfl)
 | (show zD _ _ = true; kernel_rfl)
 | (omega)))
   refine zQ t.reports.length (fun i => ⟨mkT 40 [(0, .ptr 4 0 0), (1, .ptr 0 0 0), (2, .ptr 1 0 0), (3, .ptr 2 0 0), (5, .bool false), (9, .int .i64 t.reports.length), (10, .int .i64 i)],
    [some (.cells 35 1 0 (zJ t)), some (.cells 4 1 0 [.bool false]), some (.cells 59 1 0 [.osl 3 i 0 i]), some (.cells 3 1 i (zM (fiK false dy i []))), some (.cells 115 1 0 (seG t 5 pl dy)), some (.map (kmC K))], []⟩) (.le2 ?_) ?_
   ·simp only [seG, zJ, slR, slC, fiK]; simp (maxSteps := 4000000) only [go_sem, seval]
    all_goals trace_state
   ·intro i hi
    have hL := fiK_len2 (dy := dy) (k := i)
    rcases Nat.lt_or_eq_of_le hi with hi1 | hi1
    ·simp only [fiK, Bool.false_eq_true, if_false]
     generalize fiK false dy i [] = L at *
     obtain ⟨y, hye⟩ : ∃ y, dy.getD i 0 = y := ⟨_, rfl⟩
     have hn := fun K => show optK (nth (zM (L ++ [y])) i) K = K (.int .i64 y) by
      rw [ints_nth (by simp; omega), List.getD_eq_getElem?_getD, ← hL]; simp [optK]
     have hs : isp (L ++ [y]) i y = L ++ [y] := by
      rw [← hL]; simp [isp]
     have hy := fun x y z u K => se_dy (x := x) (y := y) (z := z) (u := u) (S := pl) (F := dy) (i := i) (K := K) h1 (by omega)
     rw [hye] at hy ⊢
     have hL2 : (L ++ [y]).length = i + 1 := by simp; omega
     simp only [seG, zJ, slR, slC]; simp (maxSteps := 4000000) only [go_sem, seval]
     (repeat' (first
 | ((exfalso; omega))
 | ((omega))
 | refine zC ?_
 | refine kt ?_
 | refine And.intro ?_ ?_
 | ((first | refine awp_stp rfl ?_ | refine awp_draw (by kernel_rfl) (by kernel_rfl) ?_ | refine Imp.le2 ?_ | refine callK_of (earliest_c _ _ _) ?_ | refine go_split (fun _h => ?_) (fun _h => ?_)) <;> try simp (maxSteps := 4000000) only [go_sem, seval, hy, hL, hL2, ints_snoc, hn, hs, Int.min_self])
 | intro _h
 | refine zA ?_
 | refine zB ?_
 | refine zF ?_ ?_
 | (show zE _ _ = true; kernel_rfl)
 | (show zD _ _ = true; kernel_rfl)
 | (omega)))
     all_goals trace_state
    ·subst hi1
     generalize fiK false dy t.reports.length [] = L at *
     simp only [seG, zJ, slR, slC]; simp (maxSteps := 4000000) only [go_sem, seval]
     (repeat' (first
 | ((exfalso; omega))
 | ((omega))
 | refine zC ?_
 | refine kt ?_
 | refine And.intro ?_ ?_
 | ((first | refine awp_stp rfl ?_ | refine awp_draw (by kernel_rfl) (by kernel_rfl) ?_ | refine Imp.le2 ?_ | refine go_split (fun _h => ?_) (fun _h => ?_)) <;> try simp (maxSteps := 4000000) only [go_sem, seval, hL])
 | intro _h
 | refine zA ?_
 | refine zB ?_
 | refine zF ?_ ?_
 | (show zE _ _ = true; kernel_rfl)
 | (show zD _ _ = true; kernel_rfl)
 | (omega)))
     all_goals trace_state
end Go.Am
namespace Go.Am
open Go.RowKit Go.Proofs
attribute [local irreducible] AWP zO Kt goK CallK zT zS SemF SemY Imp
set_option maxRecDepth 4000
set_option linter.unusedSimpArgs false
set_option linter.unusedVariables false
set_option maxHeartbeats 6400000
def heF (t : Ann)  (a : EA (Bool × List Int)) : List (Option ABlk) :=
 [some (.cells 35 1 0 (zJ t)), some (.cells 4 1 0 [.bool a.v.1]), some (.cells 59 1 0 [.osl 3 a.v.2.length 0 a.v.2.length]), some (.cells 3 1 a.v.2.length (zM a.v.2))] ++ [some (.cells 35 1 0 (zJ t)), some (.cells 105 1 0 [.fn (.func 93) [] [.ptr 0 0 0, .ptr 1 0 0, .ptr 2 0 0]]), some (.map (kmC a.K)), some (.cells 115 1 0 (seG t 6 a.pl a.dy)), some (.cells 99 1 0 [.ptr 7 0 0]), some (.cells 131 1 0 [.fn (.func 85) [.ptr 7 0 0] []]), some (.cells 132 1 0 [.fn (.func 86) [] [.ptr 5 0 0, .ptr 8 0 0, .ptr 4 0 0, .ptr 9 0 0, .ptr 10 0 0]])]
def ehF (t : Ann)  (s : Ste) (place : Int) (fd : Bool) (a : EA (Bool × List Int)) : List (Option ABlk) :=
 heF t  a ++ [some (.cells 136 1 0 (stC s)), some (.cells 3 1 0 [.int .i64 place]), some (.cells 4 1 0 [.bool fd]), some (.cells 4 1 0 [.bool false]), some (.cells 35 1 0 (zJ t)), some (.cells 136 1 0 (stC s))]
def etF : List AV := mkT 88 [(2, .ptr 5 0 0), (3, .ptr 8 0 0), (4, .ptr 4 0 0), (5, .ptr 9 0 0), (6, .ptr 10 0 0), (7, .ptr 11 0 0), (8, .ptr 12 0 0), (9, .ptr 13 0 0), (10, .ptr 14 0 0), (31, .fn (.func 107) [] [.ptr 16 0 0, .ptr 15 0 0])]
theorem eachF_c (t : Ann)  (ht : AnnOK t)  : ∀ (f : Nat) (s : Ste) (place : Int) (a : EA (Bool × List Int)), SteOK t s → s.rest < f → 0 ≤ place → place + s.rest ≤ 1000 → EAOK (FiOK t) a → 
 SemF Try.prog 86 [.agg (stC s), .int .i64 place, .ptr 5 0 0, .ptr 8 0 0, .ptr 4 0 0, .ptr 9 0 0, .ptr 10 0 0] (heF t  a) (.tup [.bool (eachM t (fiS t) f s place a).1.1, .bool (eachM t (fiS t) f s place a).1.2]) (heF t  (eachM t (fiS t) f s place a).2) := by
 intro f
 induction f with
 | zero => intro s place a _ h; omega
 | succ f ih =>
   intro s place a hs hf hp0 hp ha
   have hok := eachM_ok (step := (fiS t)) ht (fi_ok t ht) (f + 1) s place a hs hp0 hp ha
   have hr := ht.reports
   by_cases h0 : s.rest = 0
   ·have e : eachM t (fiS t) (f + 1) s place a = ((true, ((fiS t) a.v a.pl a.dy).2), { a with v := ((fiS t) a.v a.pl a.dy).1 }) := by simp only [eachM]; rw [if_pos h0]
    rw [e]
    have hv := fi_c t  a.v a.pl a.dy a.K ht  ha.1 ha.2
    have e0 : ((s.rest : Int) = 0) = True := eq_true (by omega)
    generalize (fiS t) a.v a.pl a.dy = R at *
    obtain ⟨v2, more⟩ := R
    simp only [heF, seG, stC, zJ, slR, slC, List.cons_append, List.nil_append] at hv ⊢
    (refine zK (ys := [.bool true, .bool more]) (fun w args => Try.call86 ..) Try.func86 rfl (fun w0 m0 wz => ?_); simp only [Try.ntmps86, Try.results86, zP, zR, zV, zW, slR, slC, zJ, sl, List.toList_toArray, List.cons_append, List.nil_append, List.length_cons, List.length_nil, Nat.reduceAdd, Nat.reduceSub])
    (repeat' (first
 | (refine zN 2 rfl ?_; simp (maxSteps := 4000000) only [go_sem, seval, List.take_succ_cons, List.take_zero, e0, decide_true]; (repeat refine And.intro (by omega) ?_); refine own_go (hv) [0, 1, 2, 3, 7, 6] rfl ?_ ?_ rfl ?_ <;> try simp (maxSteps := 4000000) only [go_sem, seval, Nat.lt_irrefl, e0, decide_true] <;> try decide)
 | refine zC ?_
 | refine kt ?_
 | refine And.intro ?_ ?_
 | ((first | refine awp_stp rfl ?_ | refine awp_draw (by kernel_rfl) (by kernel_rfl) ?_ | refine Imp.le2 ?_ | refine go_split (fun _h => ?_) (fun _h => ?_)) <;> try simp (maxSteps := 4000000) only [go_sem, seval, e0, decide_true])
 | intro _h
 | refine zA ?_
 | refine zB ?_
 | refine zF ?_ ?_
 | (show zE _ _ = true; kernel_rfl)
 | (show zD _ _ = true; kernel_rfl)
 | (omega)))
    all_goals trace_state
   ·have e0 : ((s.rest : Int) = 0) = False := eq_false (by omega)
    have h256 : s.rest < 256 := Nat.lt_of_lt_of_le hs.rest (show 2 ^ t.reports.length ≤ 2 ^ 8 from Nat.pow_le_pow_right (by omega) (by omega))
    have hst := stt_win hs.sl hs.fl
    have hsn := stt_len hs.sl hs.fl
    have hks : getS a.K s = gmGet a.K ⟨s, hs.sl, hs.fl⟩ := by unfold getS; rw [dif_pos ⟨hs.sl, hs.fl⟩]
    by_cases hlost : getS a.K s = some true
    ·have e : eachM t (fiS t) (f + 1) s place a = ((false, true), a) := by simp only [eachM]; rw [if_neg h0, if_pos hlost]
     rw [e]
     have hmg := fun z (f : AV → Bool → Prop) => mget_ks (z := z) (f := f) (hks ▸ hlost)
     simp only [keyV, stC] at hmg
     have hkey := fun (a d : Int) => keyS (a := a) (d := d) hs.sl hs.fl
     simp only [heF, seG, stC, zJ, slR, slC, List.cons_append, List.nil_append]
     (refine zK (ys := [.bool false, .bool true]) (fun w args => Try.call86 ..) Try.func86 rfl (fun w0 m0 wz => ?_); simp only [Try.ntmps86, Try.results86, zP, zR, zV, zW, slR, slC, zJ, sl, List.toList_toArray, List.cons_append, List.nil_append, List.length_cons, List.length_nil, Nat.reduceAdd, Nat.reduceSub])
     (repeat' (first
 | ((show zeroOK _ = true; rfl))
 | ((exact hkey _ _))
 | ((exact absurd ‹true = false› (by simp)))
 | refine zC ?_
 | refine kt ?_
 | refine And.intro ?_ ?_
 | ((first | refine awp_stp rfl ?_ | refine awp_draw3 (by kernel_rfl) (by kernel_rfl) ?_ | refine Imp.le2 ?_ | refine go_split (fun _h => ?_) (fun _h => ?_)) <;> try simp (maxSteps := 4000000) only [go_sem, seval, e0, decide_false, hmg, hst, hsn])
 | intro _h
 | refine zA ?_
 | refine zB ?_
 | refine zF ?_ ?_
 | (show heapOK3 _ _ _ = true; kernel_rfl)
 | (show zE _ _ = true; kernel_rfl)
 | (show zD _ _ = true; kernel_rfl)
 | (omega)))
     all_goals (exact absurd _h (by simp))
    ·obtain ⟨b, hmg⟩ : ∃ b : Bool, ∀ (f : AV → Bool → Prop), mgetK (kmC a.K) (keyV ⟨s, hs.sl, hs.fl⟩) (.bool false) f = f (.bool false) b := by
      rw [hks] at hlost
      cases hg : gmGet a.K ⟨s, hs.sl, hs.fl⟩ with
      | none => exact ⟨false, fun f => mget_kn hg⟩
      | some b =>
        cases b with
        | true => exact absurd hg hlost
        | false => exact ⟨true, fun f => mget_ks hg⟩
     have hnx := next_c t s
     have hkey := fun (a d : Int) => keyS (a := a) (d := d) hs.sl hs.fl
     have e : eachM t (fiS t) (f + 1) s place a = endM s (goE (oneM t (eachM t (fiS t) f) s place) (candN t s.rest s.rest) false a) := by simp only [eachM]; rw [if_neg h0, if_neg hlost]
     rw [e] at hok ⊢
     obtain ⟨⟨⟨fE, mE⟩, aE⟩, hE⟩ : ∃ r, goE (oneM t (eachM t (fiS t) f) s place) (candN t s.rest s.rest) false a = r := ⟨_, rfl⟩
     rw [hE] at hok ⊢
     simp only [keyV, stC] at hmg
     have hpE : PDOK aE.pl aE.dy := by
      unfold endM at hok
      split at hok
      ·exact hok.2
      ·exact hok.2
     clear e hok
     obtain ⟨st, pend, ex, hcase⟩ : ∃ (st : LoopState) (pend : Option Code) (ex : Exit), (mE = true ∧ st = .ready ∧ pend = none ∧ ex = .normal) ∨ (mE = false ∧ st = .done ∧ pend = some .ret ∧ ex = .ret) := by
      cases mE
      ·exact ⟨.done, some .ret, .ret, .inr ⟨rfl, rfl, rfl, rfl⟩⟩
      ·exact ⟨.ready, none, .normal, .inl ⟨rfl, rfl, rfl, rfl⟩⟩
     have e1 : (endM s ((fE, mE), aE)).1.1 = fE := by unfold endM; cases mE <;> rfl
     have e2 : (endM s ((fE, mE), aE)).1.2 = mE := by unfold endM; cases mE <;> rfl
     rw [e1, e2]
     simp only [heF, seG, stC, zJ, slR, slC, List.cons_append, List.nil_append] at hnx ⊢
     (refine zK (ys := [.bool fE, .bool mE]) (fun w args => Try.call86 ..) Try.func86 rfl (fun w0 m0 wz => ?_); simp only [Try.ntmps86, Try.results86, zP, zR, zV, zW, slR, slC, zJ, sl, List.toList_toArray, List.cons_append, List.nil_append, List.length_cons, List.length_nil, Nat.reduceAdd, Nat.reduceSub])
     (repeat' (first
 | ((show zeroOK _ = true; rfl))
 | ((exact hkey _ _))
 | (refine zN 2 rfl ?_; simp (maxSteps := 4000000) only [go_sem, seval, List.take_succ_cons, List.take_zero, e0, decide_false, hmg, hst, hsn]; (repeat refine And.intro (by omega) ?_); refine own_go (hnx) [] rfl ?_ ?_ ?_ ?_ <;> try simp (maxSteps := 4000000) only [go_sem, seval, Nat.lt_irrefl, e0, decide_false, hmg, hst, hsn] <;> try decide)
 | refine zC ?_
 | refine kt ?_
 | refine And.intro ?_ ?_
 | ((first | refine awp_stp rfl ?_ | refine awp_draw3 (by kernel_rfl) (by kernel_rfl) ?_ | refine Imp.le2 ?_ | refine go_split (fun _h => ?_) (fun _h => ?_)) <;> try simp (maxSteps := 4000000) only [go_sem, seval, e0, decide_false, hmg, hst, hsn])
 | intro _h
 | refine zA ?_
 | refine zB ?_
 | refine zF ?_ ?_
 | (show heapOK3 _ _ _ = true; kernel_rfl)
 | (show zE _ _ = true; kernel_rfl)
 | (show zD _ _ = true; kernel_rfl)
 | (omega)))
     try any_goals (exfalso; simp at _h; done)
     refine AWP.le2 (s' := ⟨etF, ehF t  s place false a, []⟩) (by simp only [etF, ehF, heF, seG, stC, zJ, slR, slC, List.cons_append, List.nil_append]; simp (maxSteps := 4000000) only [go_sem, seval]) ?_
     refine awp_rangeZ (gf := 107) (first := []) (caps := [.ptr 16 0 0, .ptr 15 0 0]) (by simp only [etF]; simp (maxSteps := 4000000) only [go_sem, seval]) 17 rfl ?_
     intro ca cb hca hcb
     refine ⟨.tup [], ehF t  s place fE aE ++ [some (.dfr true), some (.loop st pend 0 etF #[32] ca cb 17)], st, pend, ex, ?_, ?_, ?_, ?_, ?_⟩
     ·simp only [etF, ehF, heF, seG, stC, zJ, slR, slC, List.cons_append, List.nil_append]; simp (maxSteps := 4000000) only [go_sem, seval]
      (refine zK (ys := []) (fun w args => Try.call107 ..) Try.func107 rfl (fun w0 m0 wz => ?_); simp only [Try.ntmps107, Try.results107, zP, zR, zV, zW, slR, slC, zJ, sl, List.toList_toArray, List.cons_append, List.nil_append, List.length_cons, List.length_nil, Nat.reduceAdd, Nat.reduceSub])
      (repeat' (first
 | refine zC ?_
 | refine kt ?_
 | refine And.intro ?_ ?_
 | ((first | refine awp_stp rfl ?_ | refine awp_draw (by kernel_rfl) (by kernel_rfl) ?_ | refine Imp.le2 ?_ | refine go_split (fun _h => ?_) (fun _h => ?_)) <;> try simp (maxSteps := 4000000) only [go_sem, seval])
 | intro _h
 | refine zA ?_
 | refine zB ?_
 | refine zF ?_ ?_
 | (show zE _ _ = true; kernel_rfl)
 | (show zD _ _ = true; kernel_rfl)
 | (omega)))
      refine awp_loopJ (fun x : Nat × Bool × EA (Bool × List Int) => x.1 &&& s.rest = x.1 ∧ EAOK (FiOK t) x.2.2 ∧ goE (oneM t (eachM t (fiS t) f) s place) (candN t s.rest x.1) x.2.1 x.2.2 = ((fE, mE), aE))
       (fun x => ⟨mkT 54 [(0, .fn (.yield 18) [] []), (1, .ptr 16 0 0), (2, .ptr 15 0 0), (4, .int .u8 (x.1 : Nat))], ehF t  s place x.2.1 x.2.2 ++ [some (.dfr true), some (.loop .ready none 0 etF #[32] ca cb 17)], []⟩) (fun x => x.1) (s.rest, false, a) ⟨Nat.and_self _, ha, hE⟩ (.le2 ?_) ?_
      ·simp only [etF, ehF, heF, seG, stC, zJ, slR, slC, List.cons_append, List.nil_append]; simp (maxSteps := 4000000) only [go_sem, seval]
       try (first | rfl | exact ⟨rfl, rfl⟩)
      ·rintro ⟨x, fd, a1⟩ ⟨hx, ha1, hF⟩
       simp only at hx ha1 hF
       by_cases hx0 : x = 0
       ·subst hx0
        rw [candN_zero] at hF
        simp only [goE, Prod.mk.injEq] at hF
        obtain ⟨⟨h1, h2⟩, h3⟩ := hF
        subst h1 h2 h3
        rcases hcase with ⟨_, h2, h3, h4⟩ | ⟨h, _⟩
        ·subst h2 h3 h4
         simp only [etF, ehF, heF, seG, stC, zJ, slR, slC, List.cons_append, List.nil_append]; simp (maxSteps := 4000000) only [go_sem, seval]
         (repeat' (first
 | ((exfalso; omega))
 | refine zC ?_
 | refine kt ?_
 | refine And.intro ?_ ?_
 | ((first | refine awp_stp rfl ?_ | refine awp_draw (by kernel_rfl) (by kernel_rfl) ?_ | refine Imp.le2 ?_ | refine go_split (fun _h => ?_) (fun _h => ?_)) <;> try simp (maxSteps := 4000000) only [go_sem, seval])
 | intro _h
 | refine zA ?_
 | refine zB ?_
 | refine zF ?_ ?_
 | (show zE _ _ = true; kernel_rfl)
 | (show zD _ _ = true; kernel_rfl)
 | (omega)))
         all_goals trace_state
        ·exact absurd h (by simp)
       ·rw [candN_step hx0] at hF
        have hxr : x ≤ s.rest := by
         have : x &&& s.rest ≤ s.rest := Nat.and_le_right
         rw [hx] at this; exact this
        have hxn : x < 2 ^ t.reports.length := by have := hs.rest; omega
        have hx8 : x < 256 := by omega
        have htz := tz_in hx0 hxn hr.2
        have htc := tz_c x hx8
        have hso : (t.reports.getD (tz x) default).slope = slopeO t x := rfl
        have e5 : IntKind.u8.wrap ((x : Int) - 1) = ((x - 1 : Nat) : Int) := sub_nat hx8 hx0
        have e6 : u8and ((x - 1 : Nat) : Int) (s.rest : Nat) = (((x - 1) &&& s.rest : Nat) : Int) := u8and_nat (by omega) h256
        have hax : (x - 1) &&& s.rest ≤ x - 1 := Nat.and_le_left
        have hxx : ((x - 1) &&& s.rest) &&& s.rest = (x - 1) &&& s.rest := by rw [Nat.and_assoc, Nat.and_self]
        simp only [etF, ehF, heF, seG, stC, zJ, slR, slC, List.cons_append, List.nil_append]; simp (maxSteps := 4000000) only [go_sem, seval]
        (repeat' (first
 | ((exfalso; omega))
 | ((omega))
 | refine zC ?_
 | refine kt ?_
 | refine And.intro ?_ ?_
 | ((first | refine awp_stp rfl ?_ | refine awp_draw (by kernel_rfl) (by kernel_rfl) ?_ | refine Imp.le2 ?_ | refine callK_of (htc) ?_ | refine go_split (fun _h => ?_) (fun _h => ?_)) <;> try simp (maxSteps := 4000000) only [go_sem, seval, hso])
 | intro _h
 | refine zA ?_
 | refine zB ?_
 | refine zF ?_ ?_
 | (show zE _ _ = true; kernel_rfl)
 | (show zD _ _ = true; kernel_rfl)
 | (omega)))
        refine zQ t.reports.length (fun i => ⟨mkT 54 [(0, .fn (.yield 18) [] []), (1, .ptr 16 0 0), (2, .ptr 15 0 0), (4, .int .u8 (x : Nat)), (5, .int .i64 (slopeO t x)), (6, .bool (sameK t x i)), (26, slR t.reports), (27, .int .i64 t.reports.length), (28, .int .i64 i)], ehF t  s place fd a1 ++ [some (.dfr true), some (.loop .ready none 0 etF #[32] ca cb 17)], []⟩) (.le2 ?_) ?_
        ·simp only [etF, ehF, heF, seG, stC, zJ, slR, slC, List.cons_append, List.nil_append, sameK]; simp (maxSteps := 4000000) only [go_sem, seval]
         try (first | rfl | exact ⟨rfl, rfl⟩)
        ·intro i hi
         rcases Nat.lt_or_eq_of_le hi with hi1 | hi1
         ·have hin := inS_c x i hx8 (by omega)
          obtain ⟨q, hq⟩ : ∃ q, sameK t x i = q := ⟨_, rfl⟩
          obtain ⟨b, hb⟩ : ∃ b, x.testBit i = b := ⟨_, rfl⟩
          obtain ⟨z, hz⟩ : ∃ z, slopeO t x = z := ⟨_, rfl⟩
          have hss : sameK t x (i + 1) = (q && (!b || decide ((t.reports.getD i default).slope = z))) := by simp only [sameK, hq, hb, hz]
          rw [hss, hq, hz]
          rw [hb] at hin
          clear hss hq hz hb hF
          cases q
          ·simp only [etF, ehF, heF, seG, stC, zJ, slR, slC, List.cons_append, List.nil_append, Bool.false_and]; simp (maxSteps := 4000000) only [go_sem, seval]
           (repeat' (first
 | ((exfalso; omega))
 | ((omega))
 | refine zC ?_
 | refine kt ?_
 | refine And.intro ?_ ?_
 | ((first | refine awp_stp rfl ?_ | refine awp_draw (by kernel_rfl) (by kernel_rfl) ?_ | refine Imp.le2 ?_ | refine go_split (fun _h => ?_) (fun _h => ?_)) <;> try simp (maxSteps := 4000000) only [go_sem, seval])
 | intro _h
 | refine zA ?_
 | refine zB ?_
 | refine zF ?_ ?_
 | (show zE _ _ = true; kernel_rfl)
 | (show zD _ _ = true; kernel_rfl)
 | (omega)))
           all_goals trace_state
          ·cases b
           ·simp only [etF, ehF, heF, seG, stC, zJ, slR, slC, List.cons_append, List.nil_append, Bool.not_false, Bool.true_or, Bool.true_and]; simp (maxSteps := 4000000) only [go_sem, seval]
            (repeat' (first
 | ((exfalso; omega))
 | ((omega))
 | refine zC ?_
 | refine kt ?_
 | refine And.intro ?_ ?_
 | ((first | refine awp_stp rfl ?_ | refine awp_draw (by kernel_rfl) (by kernel_rfl) ?_ | refine Imp.le2 ?_ | refine callK_of (hin) ?_ | refine go_split (fun _h => ?_) (fun _h => ?_)) <;> try simp (maxSteps := 4000000) only [go_sem, seval])
 | intro _h
 | refine zA ?_
 | refine zB ?_
 | refine zF ?_ ?_
 | (show zE _ _ = true; kernel_rfl)
 | (show zD _ _ = true; kernel_rfl)
 | (omega)))
            all_goals trace_state
           ·by_cases hsl : (t.reports.getD i default).slope = z
            ·simp only [etF, ehF, heF, seG, stC, zJ, slR, slC, List.cons_append, List.nil_append, Bool.not_true, Bool.false_or, Bool.true_and, hsl, decide_true]; simp (maxSteps := 4000000) only [go_sem, seval]
             (repeat' (first
 | ((exfalso; omega))
 | ((omega))
 | refine zC ?_
 | refine kt ?_
 | refine And.intro ?_ ?_
 | ((first | refine awp_stp rfl ?_ | refine awp_draw (by kernel_rfl) (by kernel_rfl) ?_ | refine Imp.le2 ?_ | refine callK_of (hin) ?_ | refine go_split (fun _h => ?_) (fun _h => ?_)) <;> try simp (maxSteps := 4000000) only [go_sem, seval, hsl, decide_true])
 | intro _h
 | refine zA ?_
 | refine zB ?_
 | refine zF ?_ ?_
 | (show zE _ _ = true; kernel_rfl)
 | (show zD _ _ = true; kernel_rfl)
 | (omega)))
             all_goals trace_state
            ·simp only [etF, ehF, heF, seG, stC, zJ, slR, slC, List.cons_append, List.nil_append, Bool.not_true, Bool.false_or, Bool.true_and, hsl, decide_false]; simp (maxSteps := 4000000) only [go_sem, seval]
             (repeat' (first
 | ((exfalso; omega))
 | ((omega))
 | refine zC ?_
 | refine kt ?_
 | refine And.intro ?_ ?_
 | ((first | refine awp_stp rfl ?_ | refine awp_draw (by kernel_rfl) (by kernel_rfl) ?_ | refine Imp.le2 ?_ | refine callK_of (hin) ?_ | refine go_split (fun _h => ?_) (fun _h => ?_)) <;> try simp (maxSteps := 4000000) only [go_sem, seval, hsl, decide_false])
 | intro _h
 | refine zA ?_
 | refine zB ?_
 | refine zF ?_ ?_
 | (show zE _ _ = true; kernel_rfl)
 | (show zD _ _ = true; kernel_rfl)
 | (omega)))
             all_goals trace_state
         ·subst hi1
          cases hG : sameK t x t.reports.length with
          | false =>
            rw [hG, if_neg (by simp)] at hF
            simp only [etF, ehF, heF, seG, stC, zJ, slR, slC, List.cons_append, List.nil_append]; simp (maxSteps := 4000000) only [go_sem, seval]
            (repeat' (first
 | ((exfalso; omega))
 | ((omega))
 | refine zC ?_
 | refine kt ?_
 | refine And.intro ?_ ?_
 | ((first | refine awp_stp rfl ?_ | refine awp_draw (by kernel_rfl) (by kernel_rfl) ?_ | refine Imp.le2 ?_ | refine go_split (fun _h => ?_) (fun _h => ?_)) <;> try simp (maxSteps := 4000000) only [go_sem, seval, e5, e6])
 | intro _h
 | refine zA ?_
 | refine zB ?_
 | refine zF ?_ ?_
 | (show zE _ _ = true; kernel_rfl)
 | (show zD _ _ = true; kernel_rfl)
 | (omega)))
            refine ⟨((x - 1) &&& s.rest, fd, a1), ⟨hxx, ha1, hF⟩, by simp only; omega, .le2 ?_⟩
            simp only [etF, ehF, heF, seG, stC, zJ, slR, slC, List.cons_append, List.nil_append]; simp (maxSteps := 4000000) only [go_sem, seval]
            try (first | rfl | exact ⟨rfl, rfl⟩)
          | true =>
            rw [hG, if_pos rfl] at hF
            simp only [goE] at hF
            have hmay := may_c t s x a1.pl a1.dy a1.K ht hs hx0 hxn
            obtain ⟨hl1, hl2⟩ := mayS_len ht hs hx0 hxn
            have hst2 := stt_win hl1 hl2
            have hsn2 := stt_len hl1 hl2
            by_cases hm : (mayS t s x).2 = true
            ·obtain ⟨m1, m2, m3⟩ := mayS_ok ht hs hx0 hx hm
             have h1 : oneM t (eachM t (fiS t) f) s place x a1 = eachM t (fiS t) f (mayS t s x).1 (place + 1) (putE t x place (mayS t s x).1.day a1) := by unfold oneM; rw [if_pos hm]
             have hao : EAOK (FiOK t) (putE t x place (mayS t s x).1.day a1) := ⟨ha1.1, ha1.2.put hr.2 ⟨hp0, by omega⟩ m3⟩
             have hih := ih (mayS t s x).1 (place + 1) (putE t x place (mayS t s x).1.day a1) m1 (by omega) (by omega) (by omega) hao
             have hok1 := eachM_ok (step := (fiS t)) ht (fi_ok t ht) f (mayS t s x).1 (place + 1) (putE t x place (mayS t s x).1.day a1) m1 (by omega) (by omega) hao
             have hq1 := ha1.2.lpl
             have hq2 := ha1.2.ldy
             rw [h1] at hF
             rw [hm] at hmay
             clear h1 hao m1 hG
             generalize (mayS t s x).1 = to at *
             obtain ⟨⟨⟨he1, mo⟩, a2⟩, hr2⟩ : ∃ r, eachM t (fiS t) f to (place + 1) (putE t x place to.day a1) = r := ⟨_, rfl⟩
             rw [hr2] at hih hF hok1
             simp only [etF, ehF, heF, seG, stC, zJ, slR, slC, List.cons_append, List.nil_append, seC] at hmay
             simp only at hF hih hok1
             have hF0 := hF
             cases mo with
             | true =>
               rw [if_pos rfl] at hF
               simp only [etF, ehF, heF, seG, stC, zJ, slR, slC, List.cons_append, List.nil_append]; simp (maxSteps := 4000000) only [go_sem, seval]
               (repeat' (first
 | ((exfalso; omega))
 | ((omega))
 | ((refine zN (id := 10) 4 rfl ?_; simp (maxSteps := 4000000) only [go_sem, seval, List.take_succ_cons, List.take_zero]; refine callH_yield true (ehF t  s place (fd || he1) a2 ++ [some (.dfr true), some (.loop .ready none 0 etF #[32] ca cb 17)]) ?_ ?_ <;> simp only [etF, ehF, heF, seG, stC, zJ, slR, slC, List.cons_append, List.nil_append] <;> (try simp (maxSteps := 4000000) only [go_sem, seval])))
 | refine zC ?_
 | refine kt ?_
 | refine And.intro ?_ ?_
 | ((first | refine awp_stp rfl ?_ | refine awp_draw (by kernel_rfl) (by kernel_rfl) ?_ | refine Imp.le2 ?_ | refine go_split (fun _h => ?_) (fun _h => ?_)) <;> try simp (maxSteps := 4000000) only [go_sem, seval, e5, e6])
 | intro _h
 | refine zA ?_
 | refine zB ?_
 | refine zF ?_ ?_
 | (show zE _ _ = true; kernel_rfl)
 | (show zD _ _ = true; kernel_rfl)
 | (omega)))
               ·refine semY_of_awpZ rfl rfl ?_
                intro B w0 l m w
                refine awp_code hca ?_
                (repeat' (first
 | refine zC ?_
 | refine kt ?_
 | refine And.intro ?_ ?_
 | ((first | refine awp_stp rfl ?_ | refine awp_draw (by kernel_rfl) (by kernel_rfl) ?_ | refine Imp.le2 ?_ | refine go_split (fun _h => ?_) (fun _h => ?_)) <;> try simp (maxSteps := 4000000) only [go_sem, seval])
 | intro _h
 | refine zA ?_
 | refine zB ?_
 | refine zF ?_ ?_
 | (show zE _ _ = true; kernel_rfl)
 | (show zD _ _ = true; kernel_rfl)
 | (omega)))
                refine awp_code hcb ?_
                (repeat' (first
 | (refine zN 3 rfl ?_; simp (maxSteps := 4000000) only [go_sem, seval, List.take_succ_cons, List.take_zero, hst, hsn, hst2, hsn2]; (repeat refine And.intro (by omega) ?_); refine own_go (hmay) [7, 6] rfl ?_ ?_ ?_ ?_ <;> try simp (maxSteps := 4000000) only [go_sem, seval, Nat.lt_irrefl, hst, hsn, hst2, hsn2] <;> try decide)
 | refine zC ?_
 | refine kt ?_
 | refine And.intro ?_ ?_
 | ((first | refine awp_stp rfl ?_ | refine awp_draw (by kernel_rfl) (by kernel_rfl) ?_ | refine Imp.le2 ?_ | refine go_split (fun _h => ?_) (fun _h => ?_)) <;> try simp (maxSteps := 4000000) only [go_sem, seval, hst, hsn, hst2, hsn2])
 | intro _h
 | refine zA ?_
 | refine zB ?_
 | refine zF ?_ ?_
 | (show zE _ _ = true; kernel_rfl)
 | (show zD _ _ = true; kernel_rfl)
 | (omega)))
                refine zQ t.reports.length (fun j => ⟨mkT 88 [(2, .ptr 5 0 0), (3, .ptr 8 0 0), (4, .ptr 4 0 0), (5, .ptr 9 0 0), (6, .ptr 10 0 0), (7, .ptr 11 0 0), (8, .ptr 12 0 0), (9, .ptr 13 0 0), (10, .ptr 14 0 0), (11, .int .u8 (x : Nat)), (12, .ptr 19 0 0), (44, .int .i64 t.reports.length), (45, .int .i64 j)], ehF t  s place fd ⟨a1.v, wrM x place j a1.pl, wrM x to.day j a1.dy, a1.K⟩ ++ [some (.dfr true), some (.loop .busy none 0 etF #[32] ca cb 17), some (.cells 136 1 0 (stC to))], []⟩) (.le2 ?_) ?_
                ·simp only [etF, ehF, heF, seG, stC, zJ, slR, slC, List.cons_append, List.nil_append, wrM]; simp (maxSteps := 4000000) only [go_sem, seval]
                 try (first | rfl | exact ⟨rfl, rfl⟩)
                ·intro j hj
                 have hS1 := wrM_length (now := x) (x := place) (l := a1.pl) (k := j) (by rw [hq1]; omega)
                 have hF1 := wrM_length (now := x) (x := to.day) (l := a1.dy) (k := j) (by rw [hq2]; omega)
                 rw [hq1] at hS1
                 rw [hq2] at hF1
                 rcases Nat.lt_or_eq_of_le hj with hj1 | hj1
                 ·have hin := inS_c x j hx8 (by omega)
                  simp only [wrM]
                  generalize wrM x place j a1.pl = S1 at *
                  generalize wrM x to.day j a1.dy = F1 at *
                  have hss := fun x y z u v => ss_pl (x := x) (y := y) (z := z) (u := u) (S := S1) (F := F1) (i := j) (v := v) (by omega)
                  have hsd := fun x y z u v w => ss_dy (x := x) (y := y) (z := z) (u := u) (S := isp S1 j v) (F := F1) (i := j) (v := w) (by rw [isp_length (by omega)]; exact hS1) (by omega)
                  have hle1 := se_len hS1 hF1
                  have hle2 := fun v => se_len (S := isp S1 j v) (F := F1) (by rw [isp_length (by omega)]; exact hS1) hF1
                  generalize x.testBit j = b at *
                  cases b
                  ·simp only [etF, ehF, heF, seG, stC, zJ, slR, slC, List.cons_append, List.nil_append, Bool.false_eq_true, if_false]; simp (maxSteps := 4000000) only [go_sem, seval]
                   (repeat' (first
 | ((exfalso; omega))
 | ((omega))
 | refine zC ?_
 | refine kt ?_
 | refine And.intro ?_ ?_
 | ((first | refine awp_stp rfl ?_ | refine awp_draw (by kernel_rfl) (by kernel_rfl) ?_ | refine Imp.le2 ?_ | refine callK_of (hin) ?_ | refine go_split (fun _h => ?_) (fun _h => ?_)) <;> try simp (maxSteps := 4000000) only [go_sem, seval])
 | intro _h
 | refine zA ?_
 | refine zB ?_
 | refine zF ?_ ?_
 | (show zE _ _ = true; kernel_rfl)
 | (show zD _ _ = true; kernel_rfl)
 | (omega)))
                   all_goals trace_state
                  ·simp only [etF, ehF, heF, seG, stC, zJ, slR, slC, List.cons_append, List.nil_append, if_true]; simp (maxSteps := 4000000) only [go_sem, seval]
                   (repeat' (first
 | ((exfalso; omega))
 | ((omega))
 | refine zC ?_
 | refine kt ?_
 | refine And.intro ?_ ?_
 | ((first | refine awp_stp rfl ?_ | refine awp_draw3 (by kernel_rfl) (by kernel_rfl) ?_ | refine Imp.le2 ?_ | refine callK_of (hin) ?_ | refine go_split (fun _h => ?_) (fun _h => ?_)) <;> try simp (maxSteps := 4000000) only [go_sem, seval, hss, hsd, hle1, hle2])
 | intro _h
 | refine zA ?_
 | refine zB ?_
 | refine zF ?_ ?_
 | (show heapOK3 _ _ _ = true; kernel_rfl)
 | (show zE _ _ = true; kernel_rfl)
 | (show zD _ _ = true; kernel_rfl)
 | (omega)))
                   all_goals trace_state
                 ·subst hj1
                  simp only [putE] at hih
                  generalize wrM x place t.reports.length a1.pl = S1 at *
                  generalize wrM x to.day t.reports.length a1.dy = F1 at *
                  clear hF hF0
                  cases fd
                  all_goals
                   simp only [etF, ehF, heF, seG, stC, zJ, slR, slC, List.cons_append, List.nil_append, Bool.true_or, Bool.false_or] at hih ⊢
                   simp (maxSteps := 4000000) only [go_sem, seval]
                   (repeat' (first
 | (refine zN 4 rfl ?_; simp (maxSteps := 4000000) only [go_sem, seval, List.take_succ_cons, List.take_zero, hst2, hsn2]; (repeat refine And.intro (by omega) ?_); refine own_go (hih) [0, 1, 2, 3, 4, 5, 6, 7, 8, 9, 10] rfl ?_ ?_ ?_ ?_ <;> try simp (maxSteps := 4000000) only [go_sem, seval, Nat.lt_irrefl, hst2, hsn2] <;> try decide)
 | ((exfalso; omega))
 | ((omega))
 | refine zC ?_
 | refine kt ?_
 | refine And.intro ?_ ?_
 | ((first | refine awp_stp rfl ?_ | refine awp_draw (by kernel_rfl) (by kernel_rfl) ?_ | refine Imp.le2 ?_ | refine go_split (fun _h => ?_) (fun _h => ?_)) <;> try simp (maxSteps := 4000000) only [go_sem, seval, hst2, hsn2])
 | intro _h
 | refine zA ?_
 | refine zB ?_
 | refine zF ?_ ?_
 | (show zE _ _ = true; kernel_rfl)
 | (show zD _ _ = true; kernel_rfl)
 | (omega)))
                  all_goals first | (rw [_h]; done) | trace_state
               ·refine ⟨((x - 1) &&& s.rest, fd || he1, a2), ⟨hxx, hok1, hF⟩, by simp only; omega, .le2 ?_⟩
                simp only [etF, ehF, heF, seG, stC, zJ, slR, slC, List.cons_append, List.nil_append]; simp (maxSteps := 4000000) only [go_sem, seval]
                try (first | rfl | exact ⟨rfl, rfl⟩)
             | false =>
               rw [if_neg (by simp)] at hF
               simp only [Prod.mk.injEq] at hF
               obtain ⟨⟨g1, g2⟩, g3⟩ := hF
               rcases hcase with ⟨h, _⟩ | ⟨_, h2, h3, h4⟩
               ·rw [h] at g2; cases g2
               subst g1 g2 g3 h2 h3 h4
               have hF := hF0
               simp only [etF, ehF, heF, seG, stC, zJ, slR, slC, List.cons_append, List.nil_append]; simp (maxSteps := 4000000) only [go_sem, seval]
               (repeat' (first
 | ((exfalso; omega))
 | ((omega))
 | ((refine zN (id := 10) 4 rfl ?_; simp (maxSteps := 4000000) only [go_sem, seval, List.take_succ_cons, List.take_zero]; refine callH_yield false (ehF t  s place (fd || he1) a2 ++ [some (.dfr true), some (.loop .done (some .ret) 0 etF #[32] ca cb 17)]) ?_ ?_ <;> simp only [etF, ehF, heF, seG, stC, zJ, slR, slC, List.cons_append, List.nil_append] <;> (try simp (maxSteps := 4000000) only [go_sem, seval])))
 | refine zC ?_
 | refine kt ?_
 | refine And.intro ?_ ?_
 | ((first | refine awp_stp rfl ?_ | refine awp_draw (by kernel_rfl) (by kernel_rfl) ?_ | refine Imp.le2 ?_ | refine go_split (fun _h => ?_) (fun _h => ?_)) <;> try simp (maxSteps := 4000000) only [go_sem, seval, e5, e6])
 | intro _h
 | refine zA ?_
 | refine zB ?_
 | refine zF ?_ ?_
 | (show zE _ _ = true; kernel_rfl)
 | (show zD _ _ = true; kernel_rfl)
 | (omega)))
               ·refine semY_of_awpZ rfl rfl ?_
                intro B w0 l m w
                refine awp_code hca ?_
                (repeat' (first
 | refine zC ?_
 | refine kt ?_
 | refine And.intro ?_ ?_
 | ((first | refine awp_stp rfl ?_ | refine awp_draw (by kernel_rfl) (by kernel_rfl) ?_ | refine Imp.le2 ?_ | refine go_split (fun _h => ?_) (fun _h => ?_)) <;> try simp (maxSteps := 4000000) only [go_sem, seval])
 | intro _h
 | refine zA ?_
 | refine zB ?_
 | refine zF ?_ ?_
 | (show zE _ _ = true; kernel_rfl)
 | (show zD _ _ = true; kernel_rfl)
 | (omega)))
                refine awp_code hcb ?_
                (repeat' (first
 | (refine zN 3 rfl ?_; simp (maxSteps := 4000000) only [go_sem, seval, List.take_succ_cons, List.take_zero, hst, hsn, hst2, hsn2]; (repeat refine And.intro (by omega) ?_); refine own_go (hmay) [7, 6] rfl ?_ ?_ ?_ ?_ <;> try simp (maxSteps := 4000000) only [go_sem, seval, Nat.lt_irrefl, hst, hsn, hst2, hsn2] <;> try decide)
 | refine zC ?_
 | refine kt ?_
 | refine And.intro ?_ ?_
 | ((first | refine awp_stp rfl ?_ | refine awp_draw (by kernel_rfl) (by kernel_rfl) ?_ | refine Imp.le2 ?_ | refine go_split (fun _h => ?_) (fun _h => ?_)) <;> try simp (maxSteps := 4000000) only [go_sem, seval, hst, hsn, hst2, hsn2])
 | intro _h
 | refine zA ?_
 | refine zB ?_
 | refine zF ?_ ?_
 | (show zE _ _ = true; kernel_rfl)
 | (show zD _ _ = true; kernel_rfl)
 | (omega)))
                refine zQ t.reports.length (fun j => ⟨mkT 88 [(2, .ptr 5 0 0), (3, .ptr 8 0 0), (4, .ptr 4 0 0), (5, .ptr 9 0 0), (6, .ptr 10 0 0), (7, .ptr 11 0 0), (8, .ptr 12 0 0), (9, .ptr 13 0 0), (10, .ptr 14 0 0), (11, .int .u8 (x : Nat)), (12, .ptr 19 0 0), (44, .int .i64 t.reports.length), (45, .int .i64 j)], ehF t  s place fd ⟨a1.v, wrM x place j a1.pl, wrM x to.day j a1.dy, a1.K⟩ ++ [some (.dfr true), some (.loop .busy none 0 etF #[32] ca cb 17), some (.cells 136 1 0 (stC to))], []⟩) (.le2 ?_) ?_
                ·simp only [etF, ehF, heF, seG, stC, zJ, slR, slC, List.cons_append, List.nil_append, wrM]; simp (maxSteps := 4000000) only [go_sem, seval]
                 try (first | rfl | exact ⟨rfl, rfl⟩)
                ·intro j hj
                 have hS1 := wrM_length (now := x) (x := place) (l := a1.pl) (k := j) (by rw [hq1]; omega)
                 have hF1 := wrM_length (now := x) (x := to.day) (l := a1.dy) (k := j) (by rw [hq2]; omega)
                 rw [hq1] at hS1
                 rw [hq2] at hF1
                 rcases Nat.lt_or_eq_of_le hj with hj1 | hj1
                 ·have hin := inS_c x j hx8 (by omega)
                  simp only [wrM]
                  generalize wrM x place j a1.pl = S1 at *
                  generalize wrM x to.day j a1.dy = F1 at *
                  have hss := fun x y z u v => ss_pl (x := x) (y := y) (z := z) (u := u) (S := S1) (F := F1) (i := j) (v := v) (by omega)
                  have hsd := fun x y z u v w => ss_dy (x := x) (y := y) (z := z) (u := u) (S := isp S1 j v) (F := F1) (i := j) (v := w) (by rw [isp_length (by omega)]; exact hS1) (by omega)
                  have hle1 := se_len hS1 hF1
                  have hle2 := fun v => se_len (S := isp S1 j v) (F := F1) (by rw [isp_length (by omega)]; exact hS1) hF1
                  generalize x.testBit j = b at *
                  cases b
                  ·simp only [etF, ehF, heF, seG, stC, zJ, slR, slC, List.cons_append, List.nil_append, Bool.false_eq_true, if_false]; simp (maxSteps := 4000000) only [go_sem, seval]
                   (repeat' (first
 | ((exfalso; omega))
 | ((omega))
 | refine zC ?_
 | refine kt ?_
 | refine And.intro ?_ ?_
 | ((first | refine awp_stp rfl ?_ | refine awp_draw (by kernel_rfl) (by kernel_rfl) ?_ | refine Imp.le2 ?_ | refine callK_of (hin) ?_ | refine go_split (fun _h => ?_) (fun _h => ?_)) <;> try simp (maxSteps := 4000000) only [go_sem, seval])
 | intro _h
 | refine zA ?_
 | refine zB ?_
 | refine zF ?_ ?_
 | (show zE _ _ = true; kernel_rfl)
 | (show zD _ _ = true; kernel_rfl)
 | (omega)))
                   all_goals trace_state
                  ·simp only [etF, ehF, heF, seG, stC, zJ, slR, slC, List.cons_append, List.nil_append, if_true]; simp (maxSteps := 4000000) only [go_sem, seval]
                   (repeat' (first
 | ((exfalso; omega))
 | ((omega))
 | refine zC ?_
 | refine kt ?_
 | refine And.intro ?_ ?_
 | ((first | refine awp_stp rfl ?_ | refine awp_draw3 (by kernel_rfl) (by kernel_rfl) ?_ | refine Imp.le2 ?_ | refine callK_of (hin) ?_ | refine go_split (fun _h => ?_) (fun _h => ?_)) <;> try simp (maxSteps := 4000000) only [go_sem, seval, hss, hsd, hle1, hle2])
 | intro _h
 | refine zA ?_
 | refine zB ?_
 | refine zF ?_ ?_
 | (show heapOK3 _ _ _ = true; kernel_rfl)
 | (show zE _ _ = true; kernel_rfl)
 | (show zD _ _ = true; kernel_rfl)
 | (omega)))
                   all_goals trace_state
                 ·subst hj1
                  simp only [putE] at hih
                  generalize wrM x place t.reports.length a1.pl = S1 at *
                  generalize wrM x to.day t.reports.length a1.dy = F1 at *
                  clear hF hF0
                  cases fd
                  all_goals
                   simp only [etF, ehF, heF, seG, stC, zJ, slR, slC, List.cons_append, List.nil_append, Bool.true_or, Bool.false_or] at hih ⊢
                   simp (maxSteps := 4000000) only [go_sem, seval]
                   (repeat' (first
 | (refine zN 4 rfl ?_; simp (maxSteps := 4000000) only [go_sem, seval, List.take_succ_cons, List.take_zero, hst2, hsn2]; (repeat refine And.intro (by omega) ?_); refine own_go (hih) [0, 1, 2, 3, 4, 5, 6, 7, 8, 9, 10] rfl ?_ ?_ ?_ ?_ <;> try simp (maxSteps := 4000000) only [go_sem, seval, Nat.lt_irrefl, hst2, hsn2] <;> try decide)
 | ((exfalso; omega))
 | ((omega))
 | refine zC ?_
 | refine kt ?_
 | refine And.intro ?_ ?_
 | ((first | refine awp_stp rfl ?_ | refine awp_draw (by kernel_rfl) (by kernel_rfl) ?_ | refine Imp.le2 ?_ | refine go_split (fun _h => ?_) (fun _h => ?_)) <;> try simp (maxSteps := 4000000) only [go_sem, seval, hst2, hsn2])
 | intro _h
 | refine zA ?_
 | refine zB ?_
 | refine zF ?_ ?_
 | (show zE _ _ = true; kernel_rfl)
 | (show zD _ _ = true; kernel_rfl)
 | (omega)))
                  all_goals first | (rw [_h]; done) | trace_state
               all_goals trace_state
            ·have h1 : oneM t (eachM t (fiS t) f) s place x a1 = ((false, true), a1) := by unfold oneM; rw [if_neg hm]
             rw [h1] at hF
             simp only [if_true, Bool.or_false] at hF
             rw [Bool.not_eq_true] at hm
             rw [hm] at hmay
             generalize (mayS t s x).1 = to at *
             simp only [etF, ehF, heF, seG, stC, zJ, slR, slC, List.cons_append, List.nil_append, seC] at hmay ⊢
             simp (maxSteps := 4000000) only [go_sem, seval]
             (repeat' (first
 | ((exfalso; omega))
 | ((omega))
 | ((refine zN (id := 10) 4 rfl ?_; simp (maxSteps := 4000000) only [go_sem, seval, List.take_succ_cons, List.take_zero]; refine callH_yield true (ehF t  s place fd a1 ++ [some (.dfr true), some (.loop .ready none 0 etF #[32] ca cb 17)]) ?_ ?_ <;> simp only [etF, ehF, heF, seG, stC, zJ, slR, slC, List.cons_append, List.nil_append] <;> (try simp (maxSteps := 4000000) only [go_sem, seval])))
 | refine zC ?_
 | refine kt ?_
 | refine And.intro ?_ ?_
 | ((first | refine awp_stp rfl ?_ | refine awp_draw (by kernel_rfl) (by kernel_rfl) ?_ | refine Imp.le2 ?_ | refine go_split (fun _h => ?_) (fun _h => ?_)) <;> try simp (maxSteps := 4000000) only [go_sem, seval, e5, e6])
 | intro _h
 | refine zA ?_
 | refine zB ?_
 | refine zF ?_ ?_
 | (show zE _ _ = true; kernel_rfl)
 | (show zD _ _ = true; kernel_rfl)
 | (omega)))
             ·refine semY_of_awpZ rfl rfl ?_
              intro B w0 l m w
              refine awp_code hca ?_
              (repeat' (first
 | refine zC ?_
 | refine kt ?_
 | refine And.intro ?_ ?_
 | ((first | refine awp_stp rfl ?_ | refine awp_draw (by kernel_rfl) (by kernel_rfl) ?_ | refine Imp.le2 ?_ | refine go_split (fun _h => ?_) (fun _h => ?_)) <;> try simp (maxSteps := 4000000) only [go_sem, seval])
 | intro _h
 | refine zA ?_
 | refine zB ?_
 | refine zF ?_ ?_
 | (show zE _ _ = true; kernel_rfl)
 | (show zD _ _ = true; kernel_rfl)
 | (omega)))
              refine awp_code hcb ?_
              (repeat' (first
 | (refine zN 3 rfl ?_; simp (maxSteps := 4000000) only [go_sem, seval, List.take_succ_cons, List.take_zero, hst, hsn, hst2, hsn2]; (repeat refine And.intro (by omega) ?_); refine own_go (hmay) [7, 6] rfl ?_ ?_ ?_ ?_ <;> try simp (maxSteps := 4000000) only [go_sem, seval, Nat.lt_irrefl, hst, hsn, hst2, hsn2] <;> try decide)
 | refine zC ?_
 | refine kt ?_
 | refine And.intro ?_ ?_
 | ((first | refine awp_stp rfl ?_ | refine awp_draw (by kernel_rfl) (by kernel_rfl) ?_ | refine Imp.le2 ?_ | refine go_split (fun _h => ?_) (fun _h => ?_)) <;> try simp (maxSteps := 4000000) only [go_sem, seval, hst, hsn, hst2, hsn2])
 | intro _h
 | refine zA ?_
 | refine zB ?_
 | refine zF ?_ ?_
 | (show zE _ _ = true; kernel_rfl)
 | (show zD _ _ = true; kernel_rfl)
 | (omega)))
              all_goals trace_state
             ·refine ⟨((x - 1) &&& s.rest, fd, a1), ⟨hxx, ha1, hF⟩, by simp only; omega, .le2 ?_⟩
              simp only [etF, ehF, heF, seG, stC, zJ, slR, slC, List.cons_append, List.nil_append]; simp (maxSteps := 4000000) only [go_sem, seval]
              try (first | rfl | exact ⟨rfl, rfl⟩)
     ·rfl
     ·rcases hcase with ⟨_, h, _, _⟩ | ⟨_, h, _, _⟩ <;> (rw [h]; simp)
     ·rcases hcase with ⟨_, _, h1, h2⟩ | ⟨_, _, h1, h2⟩ <;> (rw [h1, h2]; rfl)
     ·rcases hcase with ⟨h1, h2, h3, h4⟩ | ⟨h1, h2, h3, h4⟩
      ·subst h1 h2 h3 h4
       have e3 : (endM s ((fE, true), aE)).2 = { aE with K := gmPut aE.K ⟨s, hs.sl, hs.fl⟩ (!fE) } := by
        unfold endM putS; rw [if_pos rfl, dif_pos ⟨hs.sl, hs.fl⟩]
       rw [e3]
       have hmu1 := fun (f : List (AV × AV) → Prop) => mup_km (m := aE.K) (k := ⟨s, hs.sl, hs.fl⟩) (v := true) (f := f)
       have hmu2 := fun (f : List (AV × AV) → Prop) => mup_km (m := aE.K) (k := ⟨s, hs.sl, hs.fl⟩) (v := false) (f := f)
       simp only [keyV, stC] at hmu1 hmu2
       cases fE
       all_goals
        simp only [Bool.not_true, Bool.not_false]
        simp only [etF, ehF, heF, seG, stC, zJ, slR, slC, List.cons_append, List.nil_append]; simp (maxSteps := 4000000) only [go_sem, seval]
        (repeat' (first
 | ((exact hkey _ _))
 | refine zC ?_
 | refine kt ?_
 | refine And.intro ?_ ?_
 | ((first | refine awp_stp rfl ?_ | refine awp_draw (by kernel_rfl) (by kernel_rfl) ?_ | refine Imp.le2 ?_ | refine go_split (fun _h => ?_) (fun _h => ?_)) <;> try simp (maxSteps := 4000000) only [go_sem, seval, hst, hsn, hmu1, hmu2])
 | intro _h
 | refine zA ?_
 | refine zB ?_
 | refine zF ?_ ?_
 | (show zE _ _ = true; kernel_rfl)
 | (show zD _ _ = true; kernel_rfl)
 | (omega)))
       all_goals trace_state
      ·subst h1 h2 h3 h4
       have e3 : (endM s ((fE, false), aE)).2 = aE := by
        unfold endM; rw [if_neg (by simp)]
       rw [e3]
       simp only [etF, ehF, heF, seG, stC, zJ, slR, slC, List.cons_append, List.nil_append]; simp (maxSteps := 4000000) only [go_sem, seval]
       (repeat' (first
 | refine zC ?_
 | refine kt ?_
 | refine And.intro ?_ ?_
 | ((first | refine awp_stp rfl ?_ | refine awp_draw (by kernel_rfl) (by kernel_rfl) ?_ | refine Imp.le2 ?_ | refine go_split (fun _h => ?_) (fun _h => ?_)) <;> try simp (maxSteps := 4000000) only [go_sem, seval])
 | intro _h
 | refine zA ?_
 | refine zB ?_
 | refine zF ?_ ?_
 | (show zE _ _ = true; kernel_rfl)
 | (show zD _ _ = true; kernel_rfl)
 | (omega)))
       all_goals trace_state
end Go.Am
namespace Go.Am
open Go.RowKit Go.Proofs
attribute [local irreducible] AWP zO Kt goK CallK zT zS SemF SemY Imp
set_option maxRecDepth 4000
set_option linter.unusedSimpArgs false
set_option linter.unusedVariables false
set_option maxHeartbeats 6400000
theorem allF_c (t : Ann)  (ht : AnnOK t)  (v : Bool × List Int) (hv : (FiOK t) v) : SemF Try.prog 51 [.agg (zJ t), .fn (.func 93) [] [.ptr 0 0 0, .ptr 1 0 0, .ptr 2 0 0]] [some (.cells 35 1 0 (zJ t)), some (.cells 4 1 0 [.bool v.1]), some (.cells 59 1 0 [.osl 3 v.2.length 0 v.2.length]), some (.cells 3 1 v.2.length (zM v.2))] (.tup []) [some (.cells 35 1 0 (zJ t)), some (.cells 4 1 0 [.bool (allM t (fiS t) v).2.v.1]), some (.cells 59 1 0 [.osl 3 (allM t (fiS t) v).2.v.2.length 0 (allM t (fiS t) v).2.v.2.length]), some (.cells 3 1 (allM t (fiS t) v).2.v.2.length (zM (allM t (fiS t) v).2.v.2))] := by
 have h128 : (begS t).rest < 128 := by
  show 2 ^ t.reports.length - 1 < 128
  have : 2 ^ t.reports.length ≤ 2 ^ 7 := Nat.pow_le_pow_right (by omega) ht.reports.2
  omega
 have hm := eachF_c t  ht  128 (begS t) 0 ⟨v, zer7, zer7, []⟩ (begS_ok ht) h128 (Int.le_refl _) (by omega) ⟨hv, zer_ok⟩
 have hbe := begin_c t ht.reports.2
 have hz : (zM zer7 ++ zM zer7) = [.int .i64 0, .int .i64 0, .int .i64 0, .int .i64 0, .int .i64 0, .int .i64 0, .int .i64 0, .int .i64 0, .int .i64 0, .int .i64 0, .int .i64 0, .int .i64 0, .int .i64 0, .int .i64 0] := rfl
 unfold allM
 generalize (eachM t (fiS t) 128 (begS t) 0 ⟨v, zer7, zer7, []⟩) = R at *
 obtain ⟨⟨f1, m1⟩, vE, plE, dyE, KE⟩ := R
 simp only [heF, seG, hz, kmC_nil2, zJ, slR, slC, List.cons_append, List.nil_append] at hm hbe ⊢
 generalize (begS t) = st at *
 simp only [stC] at hm hbe
 (refine zK (ys := []) (fun w args => Try.call51 ..) Try.func51 rfl (fun w0 m0 wz => ?_); simp only [Try.ntmps51, Try.results51, zP, zR, zV, zW, slR, slC, zJ, sl, List.toList_toArray, List.cons_append, List.nil_append, List.length_cons, List.length_nil, Nat.reduceAdd, Nat.reduceSub])
 (repeat' (first
 | refine zC ?_
 | refine kt ?_
 | refine And.intro ?_ ?_
 | ((first | refine awp_stp rfl ?_ | refine Imp.le2 ?_ | refine go_split (fun _h => ?_) (fun _h => ?_)) <;> try simp (maxSteps := 4000000) only [go_sem, seval])
 | intro _h
 | refine zA ?_
 | refine zB ?_
 | refine zF ?_ ?_
 | (show zE _ _ = true; kernel_rfl)
 | (show zD _ _ = true; kernel_rfl)
 | (omega)))
 ((repeat refine zC ?_); refine awp_draws [(3, [1, 2, 3, 6, 7])] (by kernel_rfl) (by kernel_rfl) ?_; simp (maxSteps := 4000000) only [go_sem, seval, sg_cons, sg_nil, List.take_succ_cons, List.take_zero, List.drop_succ_cons, List.drop_zero])
 (repeat' (first
 | refine zC ?_
 | refine kt ?_
 | refine And.intro ?_ ?_
 | ((first | refine awp_stp rfl ?_ | refine Imp.le2 ?_ | refine callK_of (hbe) ?_ | refine go_split (fun _h => ?_) (fun _h => ?_)) <;> try simp (maxSteps := 4000000) only [go_sem, seval])
 | intro _h
 | refine zA ?_
 | refine zB ?_
 | refine zF ?_ ?_
 | (show zE _ _ = true; kernel_rfl)
 | (show zD _ _ = true; kernel_rfl)
 | (omega)))
 (refine own_go (hm) [0, 1, 2, 3, 4, 5, 6, 7, 8, 9, 10] rfl (by simp (maxSteps := 4000000) only [go_sem, seval]) (by simp (maxSteps := 4000000) only [go_sem, seval, Nat.lt_irrefl] <;> decide) (by simp (maxSteps := 4000000) only [go_sem, seval]) ?_; simp (maxSteps := 4000000) only [go_sem, seval]; refine And.intro (frm_of (by repeat (first | exact rfl | exact ⟨_, rfl⟩ | refine And.intro ?_ ?_))) ?_; try simp (maxSteps := 4000000) only [go_sem, seval, sg_cons, sg_nil, List.take_succ_cons, List.take_zero, List.drop_succ_cons, List.drop_zero])
 (repeat' (first
 | refine zC ?_
 | refine kt ?_
 | refine And.intro ?_ ?_
 | ((first | refine awp_stp rfl ?_ | refine Imp.le2 ?_ | refine go_split (fun _h => ?_) (fun _h => ?_)) <;> try simp (maxSteps := 4000000) only [go_sem, seval])
 | intro _h
 | refine zA ?_
 | refine zB ?_
 | refine zF ?_ ?_
 | (show zE _ _ = true; kernel_rfl)
 | (show zD _ _ = true; kernel_rfl)
 | (omega)))
 all_goals trace_state
end Go.Am
namespace Go.Am
open Go.RowKit Go.Proofs
attribute [local irreducible] AWP zO Kt goK CallK zT zS SemF SemY Imp
set_option maxRecDepth 4000
set_option linter.unusedSimpArgs false
set_option linter.unusedVariables false
set_option maxHeartbeats 1600000
def mirR (r : Rpt) : Rpt := ⟨r.slope, 100000 - r.hi, 100000 - r.lo⟩
def mirC (c : Clm) : Clm := ⟨c.kind, c.b, c.a⟩
def mirA (t : Ann) : Ann := ⟨t.reports.map mirR, t.claims.map mirC, t.rest⟩
theorem recs_tm {α : Type} {enc : α → List AV} {g : α → α} {l : List α} {d : α} {k : Nat} (h : k < l.length) : recs enc ((l.take k).map g) ++ enc (g (l.getD k d)) = recs enc ((l.take (k + 1)).map g) := by
 have e : l.take (k + 1) = l.take k ++ [l.getD k d] := by
  rw [List.take_succ_eq_append_getElem h]; simp [List.getD_eq_getElem?_getD, h]
 rw [e]; simp [recs]
theorem mirrored_c (t : Ann) (ht : AnnOK t) : zO Try.prog 58 [.agg (zJ t)] (.agg (zJ (mirA t))) := by
 have hrp := ht.rpt
 have hr := ht.reports
 have hcl := ht.claims
 (refine zG (fun w args => Try.call58 ..) Try.func58 rfl (fun w0 m0 wz => ?_); simp only [Try.ntmps58, Try.results58, zP, zR, zV, zW, slR, slC, zJ, sl, List.toList_toArray, List.cons_append, List.nil_append, List.length_cons, List.length_nil, Nat.reduceAdd, Nat.reduceSub])
 (repeat' (first
 | refine zC ?_
 | refine kt ?_
 | refine And.intro ?_ ?_
 | ((first | refine awp_stp rfl ?_ | refine awp_draw (by kernel_rfl) (by kernel_rfl) ?_ | refine Imp.le2 ?_ | refine go_split (fun _h => ?_) (fun _h => ?_)) <;> try simp (maxSteps := 4000000) only [go_sem, seval])
 | intro _h
 | refine zA ?_
 | refine zB ?_
 | refine zF ?_ ?_
 | (show zE _ _ = true; kernel_rfl)
 | (show zD _ _ = true; kernel_rfl)
 | (omega)))
 refine awp_adH 2 0 58 3 rfl rfl ?_
 simp only [adH, hget, hset, lset, List.length_cons, List.length_nil, Nat.reduceAdd]
 refine awp_adH 2 1 73 3 rfl rfl ?_
 simp only [adH, hget, hset, lset, List.length_cons, List.length_nil, Nat.reduceAdd]
 refine zQ t.reports.length (fun k => ⟨mkT 56 [(1, .ptr 0 0 0), (2, .ptr 1 0 0), (3, .ptr 2 0 0), (12, slR t.reports), (13, .int .i64 t.reports.length), (14, .int .i64 k)], [some (.cells 35 1 0 (zJ t)), some (.cells 35 1 0 [.nils, .nils, .int .i64 0]), some (.cells 35 1 0 [.osl 3 k 0 k, .osl 4 0 0 0, .int .i64 t.rest]), some (.cells 58 3 k (recs zV ((t.reports.take k).map mirR))), some (.cells 73 3 0 [])], []⟩) (.le2 ?_) ?_
 ·simp only [zJ, slR, slC]; simp (maxSteps := 4000000) only [go_sem, seval]
  rfl
 ·intro k hk
  rcases Nat.lt_or_eq_of_le hk with hk1 | hk1
  ·have hlt : (t.reports.take k).length = k := by simp; omega
   have hsn := recs_tm (enc := zV) (g := mirR) (d := default) hk1
   have hrk := hrp k hk1
   simp only [zV, mirR] at hsn
   simp only [zJ, slR, slC, mirR]; simp (maxSteps := 4000000) only [go_sem, seval]
   (repeat' (first
 | ((omega))
 | refine zC ?_
 | refine kt ?_
 | refine And.intro ?_ ?_
 | ((first | refine awp_stp rfl ?_ | refine awp_draw (by kernel_rfl) (by kernel_rfl) ?_ | refine Imp.le2 ?_ | refine go_split (fun _h => ?_) (fun _h => ?_)) <;> try simp (maxSteps := 4000000) only [go_sem, seval, List.length_map, hlt, hsn])
 | intro _h
 | refine zA ?_
 | refine zB ?_
 | refine zF ?_ ?_
 | (show zE _ _ = true; kernel_rfl)
 | (show zD _ _ = true; kernel_rfl)
 | (omega)))
   all_goals trace_state
  ·subst hk1
   have hlt : (t.reports.take t.reports.length) = t.reports := by simp
   simp only [zJ, slR, slC]; simp (maxSteps := 4000000) only [go_sem, seval, hlt]
   (repeat' (first
 | ((exfalso; omega))
 | refine zC ?_
 | refine kt ?_
 | refine And.intro ?_ ?_
 | ((first | refine awp_stp rfl ?_ | refine awp_draw (by kernel_rfl) (by kernel_rfl) ?_ | refine Imp.le2 ?_ | refine go_split (fun _h => ?_) (fun _h => ?_)) <;> try simp (maxSteps := 4000000) only [go_sem, seval, hlt])
 | intro _h
 | refine zA ?_
 | refine zB ?_
 | refine zF ?_ ?_
 | (show zE _ _ = true; kernel_rfl)
 | (show zD _ _ = true; kernel_rfl)
 | (omega)))
   refine zQ t.claims.length (fun k => ⟨mkT 56 [(1, .ptr 0 0 0), (2, .ptr 1 0 0), (3, .ptr 2 0 0), (36, slC t.claims), (37, .int .i64 t.claims.length), (38, .int .i64 k)], [some (.cells 35 1 0 (zJ t)), some (.cells 35 1 0 [.nils, .nils, .int .i64 0]), some (.cells 35 1 0 [.osl 3 t.reports.length 0 t.reports.length, .osl 4 k 0 k, .int .i64 t.rest]), some (.cells 58 3 t.reports.length (recs zV (t.reports.map mirR))), some (.cells 73 3 k (recs zW ((t.claims.take k).map mirC)))], []⟩) (.le2 ?_) ?_
   ·simp only [zJ, slR, slC]; simp (maxSteps := 4000000) only [go_sem, seval]
    rfl
   ·intro k hk
    rcases Nat.lt_or_eq_of_le hk with hk1 | hk1
    ·have hlt : (t.claims.take k).length = k := by simp; omega
     have hsn := recs_tm (enc := zW) (g := mirC) (d := default) hk1
     simp only [zW, mirC] at hsn
     simp only [zJ, slR, slC, mirC]; simp (maxSteps := 4000000) only [go_sem, seval]
     (repeat' (first
 | ((omega))
 | refine zC ?_
 | refine kt ?_
 | refine And.intro ?_ ?_
 | ((first | refine awp_stp rfl ?_ | refine awp_draw (by kernel_rfl) (by kernel_rfl) ?_ | refine Imp.le2 ?_ | refine go_split (fun _h => ?_) (fun _h => ?_)) <;> try simp (maxSteps := 4000000) only [go_sem, seval, List.length_map, hlt, hsn])
 | intro _h
 | refine zA ?_
 | refine zB ?_
 | refine zF ?_ ?_
 | (show zE _ _ = true; kernel_rfl)
 | (show zD _ _ = true; kernel_rfl)
 | (omega)))
     all_goals trace_state
    ·subst hk1
     have hlt : (t.claims.take t.claims.length) = t.claims := by simp
     simp only [zJ, slR, slC]; simp (maxSteps := 4000000) only [go_sem, seval, hlt]
     (repeat' (first
 | ((exfalso; omega))
 | refine zC ?_
 | refine kt ?_
 | refine And.intro ?_ ?_
 | ((first | refine awp_stp rfl ?_ | refine awp_draw (by kernel_rfl) (by kernel_rfl) ?_ | refine Imp.le2 ?_ | refine go_split (fun _h => ?_) (fun _h => ?_)) <;> try simp (maxSteps := 4000000) only [go_sem, seval, hlt, mirA, List.length_map])
 | intro _h
 | refine zA ?_
 | refine zB ?_
 | refine zF ?_ ?_
 | (show zE _ _ = true; kernel_rfl)
 | (show zD _ _ = true; kernel_rfl)
 | (omega)))
     all_goals trace_state
end Go.Am
namespace Go.Am
open Go.RowKit Go.Proofs
attribute [local irreducible] AWP zO Kt goK CallK zT zS SemF SemY Imp
set_option maxRecDepth 4000
set_option linter.unusedSimpArgs false
set_option linter.unusedVariables false
set_option maxHeartbeats 1600000
def fiV (t : Ann) : Bool × List Int := (allM t (fiS t) (false, [])).2.v
theorem fi0_ok {t : Ann} : FiOK t (false, []) := ⟨fun h => (by cases h), fun _ => rfl, fun i => (by simp)⟩
theorem fiV_ok {t : Ann} (ht : AnnOK t) : FiOK t (fiV t) := by
 have : 2 ^ t.reports.length ≤ 2 ^ 7 := Nat.pow_le_pow_right (by omega) ht.reports.2
 exact (eachM_ok (step := fiS t) ht (fi_ok t ht) 128 (begS t) 0 ⟨(false, []), zer7, zer7, []⟩ (begS_ok ht) (Int.le_refl _) (by show (0 : Int) + ((2 ^ t.reports.length - 1 : Nat) : Int) ≤ 1000; omega) ⟨fi0_ok, zer_ok⟩).1
theorem first_c (t : Ann) (ht : AnnOK t) : zO Try.prog 57 [.agg (zJ t)] (.tup [.psl false (fiV t).2.length (zM (fiV t).2), .bool (fiV t).1]) := by
 have h := allF_c t ht (false, []) fi0_ok
 have e : (allM t (fiS t) (false, [])).2.v = fiV t := rfl
 rw [e] at h
 generalize fiV t = V at *
 obtain ⟨fd, L⟩ := V
 simp only [zJ, slR, slC, ints_nil, List.length_nil] at h ⊢
 (refine zG (fun w args => Try.call57 ..) Try.func57 rfl (fun w0 m0 wz => ?_); simp only [Try.ntmps57, Try.results57, zP, zR, zV, zW, slR, slC, zJ, sl, List.toList_toArray, List.cons_append, List.nil_append, List.length_cons, List.length_nil, Nat.reduceAdd, Nat.reduceSub])
 refine zC ?_
 refine awp_region ?_
 simp (maxSteps := 4000000) only [go_sem, seval]
 refine kt ?_
 refine awp_adH 1 0 3 1 rfl rfl ?_
 simp only [adH, hget, hset, lset, List.length_cons, List.length_nil, Nat.reduceAdd]
 (repeat' (first
 | (refine zN 2 rfl ?_; simp (maxSteps := 4000000) only [go_sem, seval, List.take_succ_cons, List.take_zero]; (repeat refine And.intro (by omega) ?_); refine own_go (h) [0, 2, 1, 3] rfl ?_ ?_ rfl ?_ <;> try simp (maxSteps := 4000000) only [go_sem, seval, Nat.lt_irrefl] <;> try decide)
 | (refine awp_frz (c := .region 2 _ _) 3 rfl (by simp (maxSteps := 4000000) only [go_sem, seval]) (fun _ => rfl) ?_; simp only [frz, fzl, fz2, fz1, fz0, fzH, fzHs, fzO, fzB, List.map_cons, List.map_nil, if_true, if_false, reduceIte, Nat.reduceEqDiff, Nat.reduceAdd, Nat.succ_ne_self, Nat.zero_ne_one, Nat.one_ne_zero, reduceCtorEq, and_self])
 | ((exfalso; omega))
 | refine zC ?_
 | refine kt ?_
 | refine And.intro ?_ ?_
 | ((first | refine awp_stp rfl ?_ | refine awp_draw (by kernel_rfl) (by kernel_rfl) ?_ | refine Imp.le2 ?_ | refine go_split (fun _h => ?_) (fun _h => ?_)) <;> try simp (maxSteps := 4000000) only [go_sem, seval])
 | intro _h
 | refine zA ?_
 | refine zB ?_
 | refine zF ?_ ?_
 | (show zE _ _ = true; kernel_rfl)
 | (show zD _ _ = true; kernel_rfl)
 | (omega)))
 all_goals trace_state
end Go.Am
namespace Go.Am
open Go.RowKit Go.Proofs
set_option maxRecDepth 4000
def valA : Ann := ⟨[⟨1, 100, 120⟩, ⟨1, 110, 200⟩, ⟨2, 90, 130⟩, ⟨1, 150, 160⟩], [⟨0, 2, 0⟩, ⟨2, 1, 0⟩], 30⟩
theorem fi_val : fiV valA = (true, [100, 130, 90, 150]) := by kernel_rfl
theorem fi_mir : fiV (mirA valA) = (true, [99880, 99800, 99881, 99840]) := by kernel_rfl
end Go.Am
namespace Go.Am
open Go.RowKit Go.Proofs
attribute [local irreducible] AWP zO Kt goK CallK zT zS SemF SemY Imp
set_option maxRecDepth 4000
set_option linter.unusedSimpArgs false
set_option linter.unusedVariables false
set_option maxHeartbeats 1600000
theorem mirA_ok {t : Ann} (ht : AnnOK t) : AnnOK (mirA t) := by
 have hr := ht.reports
 refine ⟨by simpa [mirA] using ht.reports, by simpa [mirA] using ht.claims, ht.rest, fun i hi => ?_, fun i hi => ?_⟩
 ·have hi' : i < t.reports.length := by simpa [mirA] using hi
  have h := ht.rpt i hi'
  have e : (mirA t).reports.getD i default = mirR (t.reports.getD i default) := by simp [mirA, List.getD_eq_getElem?_getD, hi']
  rw [e]
  simp only [mirR]
  omega
 ·have hi' : i < t.claims.length := by simpa [mirA] using hi
  have h := ht.clm i hi'
  have e : (mirA t).claims.getD i default = mirC (t.claims.getD i default) := by simp [mirA, List.getD_eq_getElem?_getD, hi']
  have e2 : (mirA t).reports.length = t.reports.length := by simp [mirA]
  rw [e, e2]
  simp only [mirC]
  omega
def rngC (p : Int × Int) : List AV := [.int .i64 p.1, .int .i64 p.2]
def slG (l : List (Int × Int)) : AV := .psl false l.length (recs rngC l)
theorem pl_G {l : List (Int × Int)} : pureL (recs rngC l) = True := eq_true (recs_pure fun s => by simp [pureL, rngC, zI])
theorem lv_G {l : List (Int × Int)} {p : Nat → Bool} : (recs rngC l).all (live2 p) = true := recs_live fun s => by simp [pureL, rngC, zI]
theorem len_G {l : List (Int × Int)} : (recs rngC l).length = l.length * 2 := recs_length fun _ => rfl
attribute [go_sem] pl_G lv_G len_G
instance {l : List (Int × Int)} : Still (recs rngC l) := ⟨fun y hy => by
 simp only [recs, List.mem_flatMap] at hy
 obtain ⟨h, _, hy⟩ := hy
 simp only [rngC, List.mem_cons, List.not_mem_nil, or_false] at hy
 rcases hy with rfl | rfl <;> rfl⟩
def dayF (L H : List Int) (i : Nat) : Int × Int := (L.getD i 0, 100000 - H.getD i 0)
def dayE (t : Ann) : Int := if faultA t = 0 then (if (fiV t).1 = true then 0 else 9) else faultA t
def dayV (t : Ann) : AV := if dayE t = 0 then slG (tab t.reports.length (dayF (fiV t).2 (fiV (mirA t)).2)) else .nils
theorem recs_tab {α : Type} {enc : α → List AV} {f : Nat → α} {k : Nat} : recs enc (tab k f) ++ enc (f k) = recs enc (tab (k + 1) f) := by
 simp [tab, recs, List.range_succ]
theorem Days_c (t : Ann) (hb : annOK t) (ht : faultA t = 0 → AnnOK t) (hm : faultA t = 0 → (fiV t).1 = true → (fiV (mirA t)).1 = true) : zO Try.prog 20 [.agg (zJ t)] (.tup [dayV t, .int .i64 (dayE t)]) := by
 have hch := check_c t hb
 unfold dayV dayE
 by_cases h0 : faultA t = 0
 ·have ht := ht h0
  have hm := hm h0
  have hok := fiV_ok ht
  have hok2 := fiV_ok (mirA_ok ht)
  have hf := first_c t ht
  have hf2 := first_c (mirA t) (mirA_ok ht)
  have hmi := mirrored_c t ht
  have hr := ht.reports
  rw [if_pos h0]
  rw [h0] at hch
  have hlen : (mirA t).reports.length = t.reports.length := by simp [mirA]
  generalize fiV t = V at *
  generalize fiV (mirA t) = W at *
  obtain ⟨fd, L⟩ := V
  obtain ⟨fe, H⟩ := W
  generalize mirA t = M at *
  cases fd with
  | false =>
    simp only [Bool.false_eq_true, if_false]
    rw [if_neg (by omega)]
    simp only [zJ, slR, slC] at hf hch ⊢
    (refine zG (fun w args => Try.call20 ..) Try.func20 rfl (fun w0 m0 wz => ?_); simp only [Try.ntmps20, Try.results20, zP, zR, zV, zW, slR, slC, zJ, sl, List.toList_toArray, List.cons_append, List.nil_append, List.length_cons, List.length_nil, Nat.reduceAdd, Nat.reduceSub])
    (repeat' (first
 | refine zC ?_
 | refine kt ?_
 | refine And.intro ?_ ?_
 | ((first | refine awp_stp rfl ?_ | refine awp_draw (by kernel_rfl) (by kernel_rfl) ?_ | refine Imp.le2 ?_ | refine callK_of (hch) ?_ | refine callK_of (hf) ?_ | refine go_split (fun _h => ?_) (fun _h => ?_)) <;> try simp (maxSteps := 4000000) only [go_sem, seval])
 | intro _h
 | refine zA ?_
 | refine zB ?_
 | refine zF ?_ ?_
 | (show zE _ _ = true; kernel_rfl)
 | (show zD _ _ = true; kernel_rfl)
 | (omega)))
    all_goals trace_state
  | true =>
    have hfe : fe = true := hm rfl
    subst hfe
    have hL : L.length = t.reports.length := hok.on rfl
    have hH : H.length = t.reports.length := (hok2.on rfl).trans hlen
    have hbH := hok2.bd
    simp only at hbH
    simp only [if_true, hL, hH] at hf hf2 ⊢
    simp only [zJ, slR, slC, slG] at hf hf2 hch hmi ⊢
    (refine zG (fun w args => Try.call20 ..) Try.func20 rfl (fun w0 m0 wz => ?_); simp only [Try.ntmps20, Try.results20, zP, zR, zV, zW, slR, slC, zJ, sl, List.toList_toArray, List.cons_append, List.nil_append, List.length_cons, List.length_nil, Nat.reduceAdd, Nat.reduceSub])
    (repeat' (first
 | refine zC ?_
 | refine kt ?_
 | refine And.intro ?_ ?_
 | ((first | refine awp_stp rfl ?_ | refine awp_draw (by kernel_rfl) (by kernel_rfl) ?_ | refine Imp.le2 ?_ | refine callK_of (hch) ?_ | refine callK_of (hf) ?_ | refine callK_of (hf2) ?_ | refine callK_of (hmi) ?_ | refine go_split (fun _h => ?_) (fun _h => ?_)) <;> try simp (maxSteps := 4000000) only [go_sem, seval])
 | intro _h
 | refine zA ?_
 | refine zB ?_
 | refine zF ?_ ?_
 | (show zE _ _ = true; kernel_rfl)
 | (show zD _ _ = true; kernel_rfl)
 | (omega)))
    (refine awp_adT 9 48 2 rfl ?_; simp only [adT, lset, hset, List.length_cons, List.length_nil, Nat.reduceAdd])
    obtain ⟨f, hfd⟩ : ∃ f, dayF L H = f := ⟨_, rfl⟩
    rw [hfd]
    refine zQ t.reports.length (fun k => ⟨mkT 49 [(1, .ptr 0 0 0), (5, .psl false t.reports.length (zM L)), (7, .psl false t.reports.length (zM H)), (9, .osl 1 k 0 k), (30, .int .i64 t.reports.length), (31, .int .i64 k)], [some (.cells 35 1 0 (zJ t)), some (.cells 48 2 k (recs rngC (tab k f)))], []⟩) (.le2 ?_) ?_
    ·simp only [zJ, slR, slC]; simp (maxSteps := 4000000) only [go_sem, seval]
     all_goals first | rfl | trace_state
    ·intro k hk
     rcases Nat.lt_or_eq_of_le hk with hk1 | hk1
     ·have hn1 := fun K => show optK (nth (zM L) k) K = K (.int .i64 (L.getD k 0)) by rw [ints_nth (by omega)]; rfl
      have hn2 := fun K => show optK (nth (zM H) k) K = K (.int .i64 (H.getD k 0)) by rw [ints_nth (by omega)]; rfl
      have hsn := recs_tab (enc := rngC) (f := f) (k := k)
      have hfk : f k = (L.getD k 0, 100000 - H.getD k 0) := by rw [← hfd]; rfl
      have hbk := hbH k
      rw [hfk] at hsn
      simp only [rngC] at hsn
      simp only [zJ, slR, slC]; simp (maxSteps := 4000000) only [go_sem, seval]
      (repeat' (first
 | ((omega))
 | ((exfalso; omega))
 | refine zC ?_
 | refine kt ?_
 | refine And.intro ?_ ?_
 | ((first | refine awp_stp rfl ?_ | refine awp_draw (by kernel_rfl) (by kernel_rfl) ?_ | refine Imp.le2 ?_ | refine go_split (fun _h => ?_) (fun _h => ?_)) <;> try simp (maxSteps := 4000000) only [go_sem, seval, hn1, hn2, hsn, tab_length])
 | intro _h
 | refine zA ?_
 | refine zB ?_
 | refine zF ?_ ?_
 | (show zE _ _ = true; kernel_rfl)
 | (show zD _ _ = true; kernel_rfl)
 | (omega)))
      all_goals trace_state
     ·subst hk1
      simp only [zJ, slR, slC]; simp (maxSteps := 4000000) only [go_sem, seval]
      (repeat' (first
 | (refine awp_frz (c := .region 14 _ _) 1 rfl (by simp (maxSteps := 4000000) only [go_sem, seval, tab_length]) (fun _ => rfl) ?_; simp only [frz, fzl, fz2, fz1, fz0, fzH, fzHs, fzO, fzB, List.map_cons, List.map_nil, if_true, if_false, reduceIte, Nat.reduceEqDiff, Nat.reduceAdd, Nat.succ_ne_self, Nat.zero_ne_one, Nat.one_ne_zero, reduceCtorEq, and_self])
 | ((exfalso; omega))
 | refine zC ?_
 | refine kt ?_
 | refine And.intro ?_ ?_
 | ((first | refine awp_stp rfl ?_ | refine awp_draw (by kernel_rfl) (by kernel_rfl) ?_ | refine Imp.le2 ?_ | refine go_split (fun _h => ?_) (fun _h => ?_)) <;> try simp (maxSteps := 4000000) only [go_sem, seval, tab_length])
 | intro _h
 | refine zA ?_
 | refine zB ?_
 | refine zF ?_ ?_
 | (show zE _ _ = true; kernel_rfl)
 | (show zD _ _ = true; kernel_rfl)
 | (omega)))
      all_goals trace_state
 ·rw [if_neg h0, if_neg h0]
  simp only [zJ, slR, slC] at hch ⊢
  (refine zG (fun w args => Try.call20 ..) Try.func20 rfl (fun w0 m0 wz => ?_); simp only [Try.ntmps20, Try.results20, zP, zR, zV, zW, slR, slC, zJ, sl, List.toList_toArray, List.cons_append, List.nil_append, List.length_cons, List.length_nil, Nat.reduceAdd, Nat.reduceSub])
  (repeat' (first
 | refine zC ?_
 | refine kt ?_
 | refine And.intro ?_ ?_
 | ((first | refine awp_stp rfl ?_ | refine awp_draw (by kernel_rfl) (by kernel_rfl) ?_ | refine Imp.le2 ?_ | refine callK_of (hch) ?_ | refine go_split (fun _h => ?_) (fun _h => ?_)) <;> try simp (maxSteps := 4000000) only [go_sem, seval])
 | intro _h
 | refine zA ?_
 | refine zB ?_
 | refine zF ?_ ?_
 | (show zE _ _ = true; kernel_rfl)
 | (show zD _ _ = true; kernel_rfl)
 | (omega)))
  all_goals first | (exfalso; simp at _h; omega) | trace_state
theorem valley_c : zO Try.prog 49 [] (.agg (zJ valA)) := by
 simp only [zJ, slR, slC, valA]
 (refine zG (fun w args => Try.call49 ..) Try.func49 rfl (fun w0 m0 wz => ?_); simp only [Try.ntmps49, Try.results49, zP, zR, zV, zW, slR, slC, zJ, sl, List.toList_toArray, List.cons_append, List.nil_append, List.length_cons, List.length_nil, Nat.reduceAdd, Nat.reduceSub])
 (repeat' (first
 | refine zC ?_
 | refine kt ?_
 | refine And.intro ?_ ?_
 | ((first | refine awp_stp rfl ?_ | refine awp_draw (by kernel_rfl) (by kernel_rfl) ?_ | refine Imp.le2 ?_ | refine callK_of (span_c _ _) ?_ | refine go_split (fun _h => ?_) (fun _h => ?_)) <;> try simp (maxSteps := 4000000) only [go_sem, seval])
 | intro _h
 | refine zA ?_
 | refine zB ?_
 | refine zF ?_ ?_
 | (show zE _ _ = true; kernel_rfl)
 | (show zD _ _ = true; kernel_rfl)
 | (omega)))
 all_goals rfl
end Go.Am
