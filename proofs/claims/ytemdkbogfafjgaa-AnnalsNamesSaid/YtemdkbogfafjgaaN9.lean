/- Parts UeJ, UfN, UgN, UhN, UcA, UcB, UcC, UcD, UdA, UlA, UlB, UlC, UlD of the proof, one behind the other. No statement is proved here. -/
import Derived.Test.YtemdkbogfafjgaaN6
import Derived.Test.YtemdkbogfafjgaaN3
import Derived.Test.YtemdkbogfafjgaaN7
import Derived.Test.YtemdkbogfafjgaaN4
import Derived.Test.YtemdkbogfafjgaaN5
set_option linter.unusedVariables false -- all
set_option linter.unusedSimpArgs false
namespace Go.Am
open Go.RowKit Go.Proofs
attribute [local irreducible] AWP zO Kt goK CallK zT zR SemF SemY Imp
set_option maxRecDepth 4000
set_option linter.unusedSimpArgs false
set_option linter.unusedVariables false
set_option maxHeartbeats 1600000
theorem se_win {x y z u : AV} {S F : List Int} {n : Nat} (hS : S.length = 7) : window (x :: y :: z :: u :: (zS S ++ zS F)) 11 n = zS (F.take n) := by
 simp only [window, List.drop_succ_cons]
 rw [List.drop_append_of_le_length (by rw [ints_length]; omega), show (7 : Nat) = (zS S).length by rw [ints_length, hS], List.drop_length, List.nil_append]
 simp [zS]
theorem clone_c (t : Ann) (pl dy : List Int) (K : List (Key × Bool)) (ht : AnnOK t) (hd : PDOK pl dy) :
 SemF Try.prog 79 [.osl 0 0 11 t.reports.length] [some (.cells 115 1 0 (seG t 1 pl dy)), some (.map (kmC K))] (.psl false t.reports.length (zS (dy.take t.reports.length))) [some (.cells 115 1 0 (seG t 1 pl dy)), some (.map (kmC K))] := by
 have hr := ht.reports
 have h1 := hd.lpl
 have h2 := hd.ldy
 have hle := se_len h1 h2
 generalize hn : t.reports.length = n at *
 simp only [seG, slR, slC, hn]
 (refine zH (ys := [.psl false n (zS (dy.take n))]) (fun w args => Try.call79 ..) Try.func79 rfl (fun w0 m0 wz => ?_); simp only [Try.ntmps79, Try.results79, zN, zP, zU, zV, slR, slC, zL, sl, List.toList_toArray, List.cons_append, List.nil_append, List.length_cons, List.length_nil, Nat.reduceAdd, Nat.reduceSub])
 obtain ⟨cs, hcs⟩ : ∃ cs, AV.psl false n (recs zU t.reports) :: AV.psl false t.claims.length (recs zV t.claims) :: AV.int .i64 t.rest :: AV.map 1 :: (zS pl ++ zS dy) = cs := ⟨_, rfl⟩
 have hw : window cs 11 (n * 1) = zS (dy.take n) := by rw [← hcs, Nat.mul_one]; exact se_win h1
 have hcl : cs.length = 18 := by rw [← hcs]; simp only [List.length_cons, hle]
 (repeat' (first
 | ((refine awp_opN (id := 1) 1 rfl ⟨.bool false, [0], none⟩ ?_; simp (maxSteps := 4000000) only [go_sem, seval, List.take_succ_cons, List.take_zero]; refine ⟨rfl, sound_nil rfl tslice59 rfl rfl rfl (by omega), ?_⟩))
 | ((refine awp_opN (id := 3) 2 rfl ⟨.osl 2 0 0 n, [0], some (2, .cells 3 1 0 (zS (dy.take n)))⟩ ?_; simp (maxSteps := 4000000) only [go_sem, seval, List.take_succ_cons, List.take_zero]; refine ⟨rfl, sound_appo rfl rfl tslice59 tsz3 tbytes3 tzero3 rfl (by omega) rfl rfl rfl (by rw [hcs, hcl]; omega) (by omega) (by omega) (by omega) (by rw [hcs]; exact hw), ?_⟩; simp only [hseto, hset]; refine kt ?_; refine awp_frzC 2 rfl (by simp (maxSteps := 4000000) only [go_sem, seval]) [some (.cells 115 1 0 (.psl false n (recs zU t.reports) :: .psl false t.claims.length (recs zV t.claims) :: .int .i64 t.rest :: .map 1 :: (zS pl ++ zS dy))), some (.map (kmC K))] rfl rfl rfl ?_; simp only [frz, fq_pure, fzB_c, fzB_km, fzB_im, fzO, fzH, fzHs, fzl, fz2, fz1, fz0, List.map_cons, List.map_nil, if_true, if_false, reduceIte, Nat.reduceEqDiff, Nat.reduceAdd, Nat.succ_ne_self, Nat.zero_ne_one, Nat.one_ne_zero, reduceCtorEq, and_self]))
 | refine zC ?_
 | refine kt ?_
 | refine And.intro ?_ ?_
 | ((first | refine awp_stp rfl ?_ | refine awp_draw (by kernel_rfl) (by kernel_rfl) ?_ | refine Imp.le2 ?_ | refine go_split (fun _h => ?_) (fun _h => ?_)) <;> try simp (maxSteps := 4000000) only [go_sem, seval])
 | intro _h
 | refine zA ?_
 | refine zB ?_
 | refine zF ?_ ?_
 | (show zE _ _ = true; kernel_rfl)
 | (show zD _ _ = true; kernel_rfl)
 | (omega)))
 all_goals trace_state
def chC (v : Bool × List Int × List Int) : List AV := if v.1 = true then [.psl false v.2.1.length (zS v.2.1), .psl false v.2.2.length (zS v.2.2)] else [.nils, .nils]
section
variable {v : Bool × List Int × List Int}
theorem ch_live {p : Nat → Bool} : (chC v).all (live2 p) = true := by unfold chC; split <;> rfl
theorem ch_ren {σ : Nat → Nat} : renL σ (chC v) = chC v := by unfold chC; split <;> simp [renL, ren]
theorem ch_refs {p : Nat → Prop} : refsL p (chC v) = True := by unfold chC; split <;> simp [refsL, refs]
attribute [go_sem] ch_live ch_ren ch_refs
end
def fnS (t : Ann) (v : Bool × List Int × List Int) (pl dy : List Int) : (Bool × List Int × List Int) × Bool := ((true, slN t pl, tab t.reports.length fun i => dy.getD i 0), false)
def fnOK (v : Bool × List Int × List Int) : Prop := True
theorem fn_ok (t : Ann) : ∀ (v : Bool × List Int × List Int) (pl dy : List Int), fnOK v → PDOK pl dy → fnOK (fnS t v pl dy).1 := fun _ _ _ _ _ => trivial
theorem fn_c (t : Ann) (v : Bool × List Int × List Int) (pl dy : List Int) (K : List (Key × Bool)) (ht : AnnOK t) (hv : fnOK v) (hd : PDOK pl dy) :
 SemF Try.prog 95 [.ptr 3 0 0, .ptr 0 0 0, .ptr 1 0 0, .ptr 2 0 0] [some (.cells 35 1 0 (zL t)), some (.cells 61 1 0 (chC v)), some (.cells 4 1 0 [.bool v.1]), some (.cells 115 1 0 (seG t 4 pl dy)), some (.map (kmC K))] (.bool (fnS t v pl dy).2)
  [some (.cells 35 1 0 (zL t)), some (.cells 61 1 0 (chC (fnS t v pl dy).1)), some (.cells 4 1 0 [.bool (fnS t v pl dy).1.1]), some (.cells 115 1 0 (seG t 4 pl dy)), some (.map (kmC K))] := by
 have hr := ht.reports
 have h1 := hd.lpl
 have h2 := hd.ldy
 have hle := se_len h1 h2
 have hsl := slides_c t pl dy K ht hd
 have hcl := clone_c t pl dy K ht hd
 have hln : (slN t pl).length = t.reports.length := slK_length
 have hld : (dy.take t.reports.length).length = t.reports.length := by rw [List.length_take]; omega
 have htk : (tab t.reports.length fun i => dy.getD i 0) = dy.take t.reports.length := by
  apply List.ext_getElem
  ·rw [hld, tab_length]
  ·intro i a b
   have hi : i < dy.length := by rw [hld] at b; omega
   simp [tab, List.getD_eq_getElem?_getD, hi]
 simp only [fnS]
 rw [htk]
 rw [show chC (true, slN t pl, dy.take t.reports.length) = [.psl false (slN t pl).length (zS (slN t pl)), .psl false (dy.take t.reports.length).length (zS (dy.take t.reports.length))] from rfl]
 simp only [sli, hln, hld] at hsl ⊢
 generalize slN t pl = S at *
 obtain ⟨c1, c2, hcc⟩ : ∃ c1 c2, chC v = [c1, c2] := by
  unfold chC; split
  ·exact ⟨_, _, rfl⟩
  ·exact ⟨_, _, rfl⟩
 have hc12 : (c1 = .nils ∧ c2 = .nils) ∨ (∃ a b, c1 = .psl false a.length (zS a) ∧ c2 = .psl false b.length (zS b)) := by
  unfold chC at hcc
  split at hcc
  ·simp only [List.cons.injEq, and_true] at hcc
   exact .inr ⟨v.2.1, v.2.2, hcc.1.symm, hcc.2.symm⟩
  ·simp only [List.cons.injEq, and_true] at hcc
   exact .inl ⟨hcc.1.symm, hcc.2.symm⟩
 rw [hcc]
 simp only [seG, slR, slC, zL] at hsl hcl ⊢
 rcases hc12 with ⟨rfl, rfl⟩ | ⟨a, b, rfl, rfl⟩
 all_goals
  (refine zH (ys := [.bool false]) (fun w args => Try.call95 ..) Try.func95 rfl (fun w0 m0 wz => ?_); simp only [Try.ntmps95, Try.results95, zN, zP, zU, zV, slR, slC, zL, sl, List.toList_toArray, List.cons_append, List.nil_append, List.length_cons, List.length_nil, Nat.reduceAdd, Nat.reduceSub])
  (repeat' (first
 | refine zC ?_
 | refine kt ?_
 | refine And.intro ?_ ?_
 | ((first | refine awp_stp rfl ?_ | refine Imp.le2 ?_ | refine go_split (fun _h => ?_) (fun _h => ?_)) <;> try simp (maxSteps := 4000000) only [go_sem, seval])
 | intro _h
 | refine zA ?_
 | refine zB ?_
 | refine zF ?_ ?_
 | (show zE _ _ = true; kernel_rfl)
 | (show zD _ _ = true; kernel_rfl)
 | (omega)))
  (repeat refine zC ?_)
  refine awp_drawsE [(1, none, []), (6, some ⟨.osl 3 0 11 t.reports.length, [3], none⟩, []), (0, none, []), (0, some ⟨.junk, [], some (1, .cells 61 1 0 [.nils, .nils])⟩, [])] (by kernel_rfl) (by kernel_rfl) ?_
  simp (maxSteps := 4000000) only [go_sem, seval, se_own, se_op, se_nil, List.take_succ_cons, List.take_zero, List.drop_succ_cons, List.drop_zero]
  (refine zQ (hsl) [3, 4] rfl (by simp (maxSteps := 4000000) only [go_sem, seval]) (by simp (maxSteps := 4000000) only [go_sem, seval, Nat.lt_irrefl] <;> decide) (by simp (maxSteps := 4000000) only [go_sem, seval]) ?_; simp (maxSteps := 4000000) only [go_sem, seval]; refine And.intro (frm_of (by repeat (first | exact rfl | exact ⟨_, rfl⟩ | refine And.intro ?_ ?_))) ?_; try simp (maxSteps := 4000000) only [go_sem, seval, sg_cons, sg_nil, List.take_succ_cons, List.take_zero, List.drop_succ_cons, List.drop_zero])
  try simp (maxSteps := 4000000) only [go_sem, seval, se_own, se_op, se_nil, List.take_succ_cons, List.take_zero, List.drop_succ_cons, List.drop_zero]
  refine ⟨rfl, sound_arr rfl tarr113 tsz3 rfl rfl (by simp only [List.length_cons, hle]; omega) rfl (by omega) (by simp only [maxLen]; omega), ?_⟩
  try simp (maxSteps := 4000000) only [go_sem, seval, se_own, se_op, se_nil, List.take_succ_cons, List.take_zero, List.drop_succ_cons, List.drop_zero]
  (refine zQ (hcl) [3, 4] rfl (by simp (maxSteps := 4000000) only [go_sem, seval]) (by simp (maxSteps := 4000000) only [go_sem, seval, Nat.lt_irrefl] <;> decide) (by simp (maxSteps := 4000000) only [go_sem, seval]) ?_; simp (maxSteps := 4000000) only [go_sem, seval]; refine And.intro (frm_of (by repeat (first | exact rfl | exact ⟨_, rfl⟩ | refine And.intro ?_ ?_))) ?_; try simp (maxSteps := 4000000) only [go_sem, seval, sg_cons, sg_nil, List.take_succ_cons, List.take_zero, List.drop_succ_cons, List.drop_zero])
  try simp (maxSteps := 4000000) only [go_sem, seval, se_own, se_op, se_nil, List.take_succ_cons, List.take_zero, List.drop_succ_cons, List.drop_zero]
  refine ⟨rfl, sound_storeC (us := [.slice none 0 0, .slice none 0 0]) rfl rfl rfl (by decide) tsz61 (by simp) rfl, ?_⟩
  simp only [hseto, hset]
  try simp (maxSteps := 4000000) only [go_sem, seval, se_own, se_op, se_nil, List.take_succ_cons, List.take_zero, List.drop_succ_cons, List.drop_zero]
  (repeat' (first
 | refine zC ?_
 | refine kt ?_
 | refine And.intro ?_ ?_
 | ((first | refine awp_stp rfl ?_ | refine Imp.le2 ?_ | refine go_split (fun _h => ?_) (fun _h => ?_)) <;> try simp (maxSteps := 4000000) only [go_sem, seval])
 | intro _h
 | refine zA ?_
 | refine zB ?_
 | refine zF ?_ ?_
 | (show zE _ _ = true; kernel_rfl)
 | (show zD _ _ = true; kernel_rfl)
 | (omega)))
  all_goals trace_state
end Go.Am
namespace Go.Am
open Go.RowKit Go.Proofs
attribute [local irreducible] AWP zO Kt goK CallK zT zR SemF SemY Imp
set_option maxRecDepth 4000
set_option linter.unusedSimpArgs false
set_option linter.unusedVariables false
set_option maxHeartbeats 6400000
def heN (t : Ann)  (a : EA (Bool × List Int × List Int)) : List (Option ABlk) :=
 [some (.cells 35 1 0 (zL t)), some (.cells 61 1 0 (chC a.v)), some (.cells 4 1 0 [.bool a.v.1])] ++ [some (.cells 35 1 0 (zL t)), some (.cells 105 1 0 [.fn (.func 95) [] [.ptr 0 0 0, .ptr 1 0 0, .ptr 2 0 0]]), some (.map (kmC a.K)), some (.cells 115 1 0 (seG t 5 a.pl a.dy)), some (.cells 99 1 0 [.ptr 6 0 0]), some (.cells 131 1 0 [.fn (.func 85) [.ptr 6 0 0] []]), some (.cells 132 1 0 [.fn (.func 86) [] [.ptr 4 0 0, .ptr 7 0 0, .ptr 3 0 0, .ptr 8 0 0, .ptr 9 0 0]])]
def ehN (t : Ann)  (s : Ste) (place : Int) (fd : Bool) (a : EA (Bool × List Int × List Int)) : List (Option ABlk) :=
 heN t  a ++ [some (.cells 136 1 0 (stC s)), some (.cells 3 1 0 [.int .i64 place]), some (.cells 4 1 0 [.bool fd]), some (.cells 4 1 0 [.bool false]), some (.cells 35 1 0 (zL t)), some (.cells 136 1 0 (stC s))]
def etN : List AV := mkT 88 [(2, .ptr 4 0 0), (3, .ptr 7 0 0), (4, .ptr 3 0 0), (5, .ptr 8 0 0), (6, .ptr 9 0 0), (7, .ptr 10 0 0), (8, .ptr 11 0 0), (9, .ptr 12 0 0), (10, .ptr 13 0 0), (31, .fn (.func 107) [] [.ptr 15 0 0, .ptr 14 0 0])]
theorem eachN_c (t : Ann)  (ht : AnnOK t)  : ∀ (f : Nat) (s : Ste) (place : Int) (a : EA (Bool × List Int × List Int)), SteOK t s → s.rest < f → 0 ≤ place → place + s.rest ≤ 1000 → EAOK fnOK a → 
 SemF Try.prog 86 [.agg (stC s), .int .i64 place, .ptr 4 0 0, .ptr 7 0 0, .ptr 3 0 0, .ptr 8 0 0, .ptr 9 0 0] (heN t  a) (.tup [.bool (eachM t (fnS t) f s place a).1.1, .bool (eachM t (fnS t) f s place a).1.2]) (heN t  (eachM t (fnS t) f s place a).2) := by
 intro f
 induction f with
 | zero => intro s place a _ h; omega
 | succ f ih =>
   intro s place a hs hf hp0 hp ha
   have hok := eachM_ok (step := (fnS t)) ht (fn_ok t ) (f + 1) s place a hs hp0 hp ha
   have hr := ht.reports
   by_cases h0 : s.rest = 0
   ·have e : eachM t (fnS t) (f + 1) s place a = ((true, ((fnS t) a.v a.pl a.dy).2), { a with v := ((fnS t) a.v a.pl a.dy).1 }) := by simp only [eachM]; rw [if_pos h0]
    rw [e]
    have hv := fn_c t  a.v a.pl a.dy a.K ht  ha.1 ha.2
    have e0 : ((s.rest : Int) = 0) = True := eq_true (by omega)
    generalize (fnS t) a.v a.pl a.dy = R at *
    obtain ⟨v2, more⟩ := R
    simp only [heN, seG, stC, zL, slR, slC, List.cons_append, List.nil_append] at hv ⊢
    (refine zH (ys := [.bool true, .bool more]) (fun w args => Try.call86 ..) Try.func86 rfl (fun w0 m0 wz => ?_); simp only [Try.ntmps86, Try.results86, zN, zP, zU, zV, slR, slC, zL, sl, List.toList_toArray, List.cons_append, List.nil_append, List.length_cons, List.length_nil, Nat.reduceAdd, Nat.reduceSub])
    (repeat' (first
 | (refine zJ 2 rfl ?_; simp (maxSteps := 4000000) only [go_sem, seval, List.take_succ_cons, List.take_zero, e0, decide_true]; (repeat refine And.intro (by omega) ?_); refine zQ (hv) [0, 1, 2, 6, 5] rfl ?_ ?_ rfl ?_ <;> try simp (maxSteps := 4000000) only [go_sem, seval, Nat.lt_irrefl, e0, decide_true] <;> try decide)
 | refine zC ?_
 | refine kt ?_
 | refine And.intro ?_ ?_
 | ((first | refine awp_stp rfl ?_ | refine awp_draw (by kernel_rfl) (by kernel_rfl) ?_ | refine Imp.le2 ?_ | refine go_split (fun _h => ?_) (fun _h => ?_)) <;> try simp (maxSteps := 4000000) only [go_sem, seval, e0, decide_true])
 | intro _h
 | refine zA ?_
 | refine zB ?_
 | refine zF ?_ ?_
 | (show zE _ _ = true; kernel_rfl)
 | (show zD _ _ = true; kernel_rfl)
 | (omega)))
    all_goals trace_state
   ·have e0 : ((s.rest : Int) = 0) = False := eq_false (by omega)
    have h256 : s.rest < 256 := Nat.lt_of_lt_of_le hs.rest (show 2 ^ t.reports.length ≤ 2 ^ 8 from Nat.pow_le_pow_right (by omega) (by omega))
    have hst := stt_win hs.sl hs.fl
    have hsn := stt_len hs.sl hs.fl
    have hks : getS a.K s = gmGet a.K ⟨s, hs.sl, hs.fl⟩ := by unfold getS; rw [dif_pos ⟨hs.sl, hs.fl⟩]
    by_cases hlost : getS a.K s = some true
    ·have e : eachM t (fnS t) (f + 1) s place a = ((false, true), a) := by simp only [eachM]; rw [if_neg h0, if_pos hlost]
     rw [e]
     have hmg := fun z (f : AV → Bool → Prop) => mget_ks (z := z) (f := f) (hks ▸ hlost)
     simp only [keyV, stC] at hmg
     have hkey := fun (a d : Int) => keyS (a := a) (d := d) hs.sl hs.fl
     simp only [heN, seG, stC, zL, slR, slC, List.cons_append, List.nil_append]
     (refine zH (ys := [.bool false, .bool true]) (fun w args => Try.call86 ..) Try.func86 rfl (fun w0 m0 wz => ?_); simp only [Try.ntmps86, Try.results86, zN, zP, zU, zV, slR, slC, zL, sl, List.toList_toArray, List.cons_append, List.nil_append, List.length_cons, List.length_nil, Nat.reduceAdd, Nat.reduceSub])
     (repeat' (first
 | ((show zeroOK _ = true; rfl))
 | ((exact hkey _ _))
 | ((exact absurd ‹true = false› (by simp)))
 | refine zC ?_
 | refine kt ?_
 | refine And.intro ?_ ?_
 | ((first | refine awp_stp rfl ?_ | refine awp_draw3 (by kernel_rfl) (by kernel_rfl) ?_ | refine Imp.le2 ?_ | refine go_split (fun _h => ?_) (fun _h => ?_)) <;> try simp (maxSteps := 4000000) only [go_sem, seval, e0, decide_false, hmg, hst, hsn])
 | intro _h
 | refine zA ?_
 | refine zB ?_
 | refine zF ?_ ?_
 | (show heapOK3 _ _ _ = true; kernel_rfl)
 | (show zE _ _ = true; kernel_rfl)
 | (show zD _ _ = true; kernel_rfl)
 | (omega)))
     all_goals (exact absurd _h (by simp))
    ·obtain ⟨b, hmg⟩ : ∃ b : Bool, ∀ (f : AV → Bool → Prop), mgetK (kmC a.K) (keyV ⟨s, hs.sl, hs.fl⟩) (.bool false) f = f (.bool false) b := by
      rw [hks] at hlost
      cases hg : gmGet a.K ⟨s, hs.sl, hs.fl⟩ with
      | none => exact ⟨false, fun f => mget_kn hg⟩
      | some b =>
        cases b with
        | true => exact absurd hg hlost
        | false => exact ⟨true, fun f => mget_ks hg⟩
     have hnx := next_c t s
     have hkey := fun (a d : Int) => keyS (a := a) (d := d) hs.sl hs.fl
     have e : eachM t (fnS t) (f + 1) s place a = endM s (goE (oneM t (eachM t (fnS t) f) s place) (candN t s.rest s.rest) false a) := by simp only [eachM]; rw [if_neg h0, if_neg hlost]
     rw [e] at hok ⊢
     obtain ⟨⟨⟨fE, mE⟩, aE⟩, hE⟩ : ∃ r, goE (oneM t (eachM t (fnS t) f) s place) (candN t s.rest s.rest) false a = r := ⟨_, rfl⟩
     rw [hE] at hok ⊢
     simp only [keyV, stC] at hmg
     have hpE : PDOK aE.pl aE.dy := by
      unfold endM at hok
      split at hok
      ·exact hok.2
      ·exact hok.2
     clear e hok
     obtain ⟨st, pend, ex, hcase⟩ : ∃ (st : LoopState) (pend : Option Code) (ex : Exit), (mE = true ∧ st = .ready ∧ pend = none ∧ ex = .normal) ∨ (mE = false ∧ st = .done ∧ pend = some .ret ∧ ex = .ret) := by
      cases mE
      ·exact ⟨.done, some .ret, .ret, .inr ⟨rfl, rfl, rfl, rfl⟩⟩
      ·exact ⟨.ready, none, .normal, .inl ⟨rfl, rfl, rfl, rfl⟩⟩
     have e1 : (endM s ((fE, mE), aE)).1.1 = fE := by unfold endM; cases mE <;> rfl
     have e2 : (endM s ((fE, mE), aE)).1.2 = mE := by unfold endM; cases mE <;> rfl
     rw [e1, e2]
     simp only [heN, seG, stC, zL, slR, slC, List.cons_append, List.nil_append] at hnx ⊢
     (refine zH (ys := [.bool fE, .bool mE]) (fun w args => Try.call86 ..) Try.func86 rfl (fun w0 m0 wz => ?_); simp only [Try.ntmps86, Try.results86, zN, zP, zU, zV, slR, slC, zL, sl, List.toList_toArray, List.cons_append, List.nil_append, List.length_cons, List.length_nil, Nat.reduceAdd, Nat.reduceSub])
     (repeat' (first
 | ((show zeroOK _ = true; rfl))
 | ((exact hkey _ _))
 | (refine zJ 2 rfl ?_; simp (maxSteps := 4000000) only [go_sem, seval, List.take_succ_cons, List.take_zero, e0, decide_false, hmg, hst, hsn]; (repeat refine And.intro (by omega) ?_); refine zQ (hnx) [] rfl ?_ ?_ ?_ ?_ <;> try simp (maxSteps := 4000000) only [go_sem, seval, Nat.lt_irrefl, e0, decide_false, hmg, hst, hsn] <;> try decide)
 | refine zC ?_
 | refine kt ?_
 | refine And.intro ?_ ?_
 | ((first | refine awp_stp rfl ?_ | refine awp_draw3 (by kernel_rfl) (by kernel_rfl) ?_ | refine Imp.le2 ?_ | refine go_split (fun _h => ?_) (fun _h => ?_)) <;> try simp (maxSteps := 4000000) only [go_sem, seval, e0, decide_false, hmg, hst, hsn])
 | intro _h
 | refine zA ?_
 | refine zB ?_
 | refine zF ?_ ?_
 | (show heapOK3 _ _ _ = true; kernel_rfl)
 | (show zE _ _ = true; kernel_rfl)
 | (show zD _ _ = true; kernel_rfl)
 | (omega)))
     try any_goals (exfalso; simp at _h; done)
     refine AWP.le2 (s' := ⟨etN, ehN t  s place false a, []⟩) (by simp only [etN, ehN, heN, seG, stC, zL, slR, slC, List.cons_append, List.nil_append]; simp (maxSteps := 4000000) only [go_sem, seval]) ?_
     refine awp_rangeZ (gf := 107) (first := []) (caps := [.ptr 15 0 0, .ptr 14 0 0]) (by simp only [etN]; simp (maxSteps := 4000000) only [go_sem, seval]) 16 rfl ?_
     intro ca cb hca hcb
     refine ⟨.tup [], ehN t  s place fE aE ++ [some (.dfr true), some (.loop st pend 0 etN #[32] ca cb 16)], st, pend, ex, ?_, ?_, ?_, ?_, ?_⟩
     ·simp only [etN, ehN, heN, seG, stC, zL, slR, slC, List.cons_append, List.nil_append]; simp (maxSteps := 4000000) only [go_sem, seval]
      (refine zH (ys := []) (fun w args => Try.call107 ..) Try.func107 rfl (fun w0 m0 wz => ?_); simp only [Try.ntmps107, Try.results107, zN, zP, zU, zV, slR, slC, zL, sl, List.toList_toArray, List.cons_append, List.nil_append, List.length_cons, List.length_nil, Nat.reduceAdd, Nat.reduceSub])
      (repeat' (first
 | refine zC ?_
 | refine kt ?_
 | refine And.intro ?_ ?_
 | ((first | refine awp_stp rfl ?_ | refine awp_draw (by kernel_rfl) (by kernel_rfl) ?_ | refine Imp.le2 ?_ | refine go_split (fun _h => ?_) (fun _h => ?_)) <;> try simp (maxSteps := 4000000) only [go_sem, seval])
 | intro _h
 | refine zA ?_
 | refine zB ?_
 | refine zF ?_ ?_
 | (show zE _ _ = true; kernel_rfl)
 | (show zD _ _ = true; kernel_rfl)
 | (omega)))
      refine awp_loopJ (fun x : Nat × Bool × EA (Bool × List Int × List Int) => x.1 &&& s.rest = x.1 ∧ EAOK fnOK x.2.2 ∧ goE (oneM t (eachM t (fnS t) f) s place) (candN t s.rest x.1) x.2.1 x.2.2 = ((fE, mE), aE))
       (fun x => ⟨mkT 54 [(0, .fn (.yield 17) [] []), (1, .ptr 15 0 0), (2, .ptr 14 0 0), (4, .int .u8 (x.1 : Nat))], ehN t  s place x.2.1 x.2.2 ++ [some (.dfr true), some (.loop .ready none 0 etN #[32] ca cb 16)], []⟩) (fun x => x.1) (s.rest, false, a) ⟨Nat.and_self _, ha, hE⟩ (.le2 ?_) ?_
      ·simp only [etN, ehN, heN, seG, stC, zL, slR, slC, List.cons_append, List.nil_append]; simp (maxSteps := 4000000) only [go_sem, seval]
       try (first | rfl | exact ⟨rfl, rfl⟩)
      ·rintro ⟨x, fd, a1⟩ ⟨hx, ha1, hF⟩
       simp only at hx ha1 hF
       by_cases hx0 : x = 0
       ·subst hx0
        rw [candN_zero] at hF
        simp only [goE, Prod.mk.injEq] at hF
        obtain ⟨⟨h1, h2⟩, h3⟩ := hF
        subst h1 h2 h3
        rcases hcase with ⟨_, h2, h3, h4⟩ | ⟨h, _⟩
        ·subst h2 h3 h4
         simp only [etN, ehN, heN, seG, stC, zL, slR, slC, List.cons_append, List.nil_append]; simp (maxSteps := 4000000) only [go_sem, seval]
         (repeat' (first
 | ((exfalso; omega))
 | refine zC ?_
 | refine kt ?_
 | refine And.intro ?_ ?_
 | ((first | refine awp_stp rfl ?_ | refine awp_draw (by kernel_rfl) (by kernel_rfl) ?_ | refine Imp.le2 ?_ | refine go_split (fun _h => ?_) (fun _h => ?_)) <;> try simp (maxSteps := 4000000) only [go_sem, seval])
 | intro _h
 | refine zA ?_
 | refine zB ?_
 | refine zF ?_ ?_
 | (show zE _ _ = true; kernel_rfl)
 | (show zD _ _ = true; kernel_rfl)
 | (omega)))
         all_goals trace_state
        ·exact absurd h (by simp)
       ·rw [candN_step hx0] at hF
        have hxr : x ≤ s.rest := by
         have : x &&& s.rest ≤ s.rest := Nat.and_le_right
         rw [hx] at this; exact this
        have hxn : x < 2 ^ t.reports.length := by have := hs.rest; omega
        have hx8 : x < 256 := by omega
        have htz := tz_in hx0 hxn hr.2
        have htc := tz_c x hx8
        have hso : (t.reports.getD (tz x) default).slope = slopeO t x := rfl
        have e5 : IntKind.u8.wrap ((x : Int) - 1) = ((x - 1 : Nat) : Int) := sub_nat hx8 hx0
        have e6 : u8and ((x - 1 : Nat) : Int) (s.rest : Nat) = (((x - 1) &&& s.rest : Nat) : Int) := u8and_nat (by omega) h256
        have hax : (x - 1) &&& s.rest ≤ x - 1 := Nat.and_le_left
        have hxx : ((x - 1) &&& s.rest) &&& s.rest = (x - 1) &&& s.rest := by rw [Nat.and_assoc, Nat.and_self]
        simp only [etN, ehN, heN, seG, stC, zL, slR, slC, List.cons_append, List.nil_append]; simp (maxSteps := 4000000) only [go_sem, seval]
        (repeat' (first
 | ((exfalso; omega))
 | ((omega))
 | refine zC ?_
 | refine kt ?_
 | refine And.intro ?_ ?_
 | ((first | refine awp_stp rfl ?_ | refine awp_draw (by kernel_rfl) (by kernel_rfl) ?_ | refine Imp.le2 ?_ | refine callK_of (htc) ?_ | refine go_split (fun _h => ?_) (fun _h => ?_)) <;> try simp (maxSteps := 4000000) only [go_sem, seval, hso])
 | intro _h
 | refine zA ?_
 | refine zB ?_
 | refine zF ?_ ?_
 | (show zE _ _ = true; kernel_rfl)
 | (show zD _ _ = true; kernel_rfl)
 | (omega)))
        refine awp_loopN t.reports.length (fun i => ⟨mkT 54 [(0, .fn (.yield 17) [] []), (1, .ptr 15 0 0), (2, .ptr 14 0 0), (4, .int .u8 (x : Nat)), (5, .int .i64 (slopeO t x)), (6, .bool (sameK t x i)), (26, slR t.reports), (27, .int .i64 t.reports.length), (28, .int .i64 i)], ehN t  s place fd a1 ++ [some (.dfr true), some (.loop .ready none 0 etN #[32] ca cb 16)], []⟩) (.le2 ?_) ?_
        ·simp only [etN, ehN, heN, seG, stC, zL, slR, slC, List.cons_append, List.nil_append, sameK]; simp (maxSteps := 4000000) only [go_sem, seval]
         try (first | rfl | exact ⟨rfl, rfl⟩)
        ·intro i hi
         rcases Nat.lt_or_eq_of_le hi with hi1 | hi1
         ·have hin := inS_c x i hx8 (by omega)
          obtain ⟨q, hq⟩ : ∃ q, sameK t x i = q := ⟨_, rfl⟩
          obtain ⟨b, hb⟩ : ∃ b, x.testBit i = b := ⟨_, rfl⟩
          obtain ⟨z, hz⟩ : ∃ z, slopeO t x = z := ⟨_, rfl⟩
          have hss : sameK t x (i + 1) = (q && (!b || decide ((t.reports.getD i default).slope = z))) := by simp only [sameK, hq, hb, hz]
          rw [hss, hq, hz]
          rw [hb] at hin
          clear hss hq hz hb hF
          cases q
          ·simp only [etN, ehN, heN, seG, stC, zL, slR, slC, List.cons_append, List.nil_append, Bool.false_and]; simp (maxSteps := 4000000) only [go_sem, seval]
           (repeat' (first
 | ((exfalso; omega))
 | ((omega))
 | refine zC ?_
 | refine kt ?_
 | refine And.intro ?_ ?_
 | ((first | refine awp_stp rfl ?_ | refine awp_draw (by kernel_rfl) (by kernel_rfl) ?_ | refine Imp.le2 ?_ | refine go_split (fun _h => ?_) (fun _h => ?_)) <;> try simp (maxSteps := 4000000) only [go_sem, seval])
 | intro _h
 | refine zA ?_
 | refine zB ?_
 | refine zF ?_ ?_
 | (show zE _ _ = true; kernel_rfl)
 | (show zD _ _ = true; kernel_rfl)
 | (omega)))
           all_goals trace_state
          ·cases b
           ·simp only [etN, ehN, heN, seG, stC, zL, slR, slC, List.cons_append, List.nil_append, Bool.not_false, Bool.true_or, Bool.true_and]; simp (maxSteps := 4000000) only [go_sem, seval]
            (repeat' (first
 | ((exfalso; omega))
 | ((omega))
 | refine zC ?_
 | refine kt ?_
 | refine And.intro ?_ ?_
 | ((first | refine awp_stp rfl ?_ | refine awp_draw (by kernel_rfl) (by kernel_rfl) ?_ | refine Imp.le2 ?_ | refine callK_of (hin) ?_ | refine go_split (fun _h => ?_) (fun _h => ?_)) <;> try simp (maxSteps := 4000000) only [go_sem, seval])
 | intro _h
 | refine zA ?_
 | refine zB ?_
 | refine zF ?_ ?_
 | (show zE _ _ = true; kernel_rfl)
 | (show zD _ _ = true; kernel_rfl)
 | (omega)))
            all_goals trace_state
           ·by_cases hsl : (t.reports.getD i default).slope = z
            ·simp only [etN, ehN, heN, seG, stC, zL, slR, slC, List.cons_append, List.nil_append, Bool.not_true, Bool.false_or, Bool.true_and, hsl, decide_true]; simp (maxSteps := 4000000) only [go_sem, seval]
             (repeat' (first
 | ((exfalso; omega))
 | ((omega))
 | refine zC ?_
 | refine kt ?_
 | refine And.intro ?_ ?_
 | ((first | refine awp_stp rfl ?_ | refine awp_draw (by kernel_rfl) (by kernel_rfl) ?_ | refine Imp.le2 ?_ | refine callK_of (hin) ?_ | refine go_split (fun _h => ?_) (fun _h => ?_)) <;> try simp (maxSteps := 4000000) only [go_sem, seval, hsl, decide_true])
 | intro _h
 | refine zA ?_
 | refine zB ?_
 | refine zF ?_ ?_
 | (show zE _ _ = true; kernel_rfl)
 | (show zD _ _ = true; kernel_rfl)
 | (omega)))
             all_goals trace_state
            ·simp only [etN, ehN, heN, seG, stC, zL, slR, slC, List.cons_append, List.nil_append, Bool.not_true, Bool.false_or, Bool.true_and, hsl, decide_false]; simp (maxSteps := 4000000) only [go_sem, seval]
             (repeat' (first
 | ((exfalso; omega))
 | ((omega))
 | refine zC ?_
 | refine kt ?_
 | refine And.intro ?_ ?_
 | ((first | refine awp_stp rfl ?_ | refine awp_draw (by kernel_rfl) (by kernel_rfl) ?_ | refine Imp.le2 ?_ | refine callK_of (hin) ?_ | refine go_split (fun _h => ?_) (fun _h => ?_)) <;> try simp (maxSteps := 4000000) only [go_sem, seval, hsl, decide_false])
 | intro _h
 | refine zA ?_
 | refine zB ?_
 | refine zF ?_ ?_
 | (show zE _ _ = true; kernel_rfl)
 | (show zD _ _ = true; kernel_rfl)
 | (omega)))
             all_goals trace_state
         ·subst hi1
          cases hG : sameK t x t.reports.length with
          | false =>
            rw [hG, if_neg (by simp)] at hF
            simp only [etN, ehN, heN, seG, stC, zL, slR, slC, List.cons_append, List.nil_append]; simp (maxSteps := 4000000) only [go_sem, seval]
            (repeat' (first
 | ((exfalso; omega))
 | ((omega))
 | refine zC ?_
 | refine kt ?_
 | refine And.intro ?_ ?_
 | ((first | refine awp_stp rfl ?_ | refine awp_draw (by kernel_rfl) (by kernel_rfl) ?_ | refine Imp.le2 ?_ | refine go_split (fun _h => ?_) (fun _h => ?_)) <;> try simp (maxSteps := 4000000) only [go_sem, seval, e5, e6])
 | intro _h
 | refine zA ?_
 | refine zB ?_
 | refine zF ?_ ?_
 | (show zE _ _ = true; kernel_rfl)
 | (show zD _ _ = true; kernel_rfl)
 | (omega)))
            refine ⟨((x - 1) &&& s.rest, fd, a1), ⟨hxx, ha1, hF⟩, by simp only; omega, .le2 ?_⟩
            simp only [etN, ehN, heN, seG, stC, zL, slR, slC, List.cons_append, List.nil_append]; simp (maxSteps := 4000000) only [go_sem, seval]
            try (first | rfl | exact ⟨rfl, rfl⟩)
          | true =>
            rw [hG, if_pos rfl] at hF
            simp only [goE] at hF
            have hmay := may_c t s x a1.pl a1.dy a1.K ht hs hx0 hxn
            obtain ⟨hl1, hl2⟩ := mayS_len ht hs hx0 hxn
            have hst2 := stt_win hl1 hl2
            have hsn2 := stt_len hl1 hl2
            by_cases hm : (mayS t s x).2 = true
            ·obtain ⟨m1, m2, m3⟩ := mayS_ok ht hs hx0 hx hm
             have h1 : oneM t (eachM t (fnS t) f) s place x a1 = eachM t (fnS t) f (mayS t s x).1 (place + 1) (putE t x place (mayS t s x).1.day a1) := by unfold oneM; rw [if_pos hm]
             have hao : EAOK fnOK (putE t x place (mayS t s x).1.day a1) := ⟨ha1.1, ha1.2.put hr.2 ⟨hp0, by omega⟩ m3⟩
             have hih := ih (mayS t s x).1 (place + 1) (putE t x place (mayS t s x).1.day a1) m1 (by omega) (by omega) (by omega) hao
             have hok1 := eachM_ok (step := (fnS t)) ht (fn_ok t ) f (mayS t s x).1 (place + 1) (putE t x place (mayS t s x).1.day a1) m1 (by omega) (by omega) hao
             have hq1 := ha1.2.lpl
             have hq2 := ha1.2.ldy
             rw [h1] at hF
             rw [hm] at hmay
             clear h1 hao m1 hG
             generalize (mayS t s x).1 = to at *
             obtain ⟨⟨⟨he1, mo⟩, a2⟩, hr2⟩ : ∃ r, eachM t (fnS t) f to (place + 1) (putE t x place to.day a1) = r := ⟨_, rfl⟩
             rw [hr2] at hih hF hok1
             simp only [etN, ehN, heN, seG, stC, zL, slR, slC, List.cons_append, List.nil_append, seC] at hmay
             simp only at hF hih hok1
             have hF0 := hF
             cases mo with
             | true =>
               rw [if_pos rfl] at hF
               simp only [etN, ehN, heN, seG, stC, zL, slR, slC, List.cons_append, List.nil_append]; simp (maxSteps := 4000000) only [go_sem, seval]
               (repeat' (first
 | ((exfalso; omega))
 | ((omega))
 | ((refine zJ (id := 10) 4 rfl ?_; simp (maxSteps := 4000000) only [go_sem, seval, List.take_succ_cons, List.take_zero]; refine callH_yield true (ehN t  s place (fd || he1) a2 ++ [some (.dfr true), some (.loop .ready none 0 etN #[32] ca cb 16)]) ?_ ?_ <;> simp only [etN, ehN, heN, seG, stC, zL, slR, slC, List.cons_append, List.nil_append] <;> (try simp (maxSteps := 4000000) only [go_sem, seval])))
 | refine zC ?_
 | refine kt ?_
 | refine And.intro ?_ ?_
 | ((first | refine awp_stp rfl ?_ | refine awp_draw (by kernel_rfl) (by kernel_rfl) ?_ | refine Imp.le2 ?_ | refine go_split (fun _h => ?_) (fun _h => ?_)) <;> try simp (maxSteps := 4000000) only [go_sem, seval, e5, e6])
 | intro _h
 | refine zA ?_
 | refine zB ?_
 | refine zF ?_ ?_
 | (show zE _ _ = true; kernel_rfl)
 | (show zD _ _ = true; kernel_rfl)
 | (omega)))
               ·refine semY_of_awpZ rfl rfl ?_
                intro B w0 l m w
                refine awp_code hca ?_
                (repeat' (first
 | refine zC ?_
 | refine kt ?_
 | refine And.intro ?_ ?_
 | ((first | refine awp_stp rfl ?_ | refine awp_draw (by kernel_rfl) (by kernel_rfl) ?_ | refine Imp.le2 ?_ | refine go_split (fun _h => ?_) (fun _h => ?_)) <;> try simp (maxSteps := 4000000) only [go_sem, seval])
 | intro _h
 | refine zA ?_
 | refine zB ?_
 | refine zF ?_ ?_
 | (show zE _ _ = true; kernel_rfl)
 | (show zD _ _ = true; kernel_rfl)
 | (omega)))
                refine awp_code hcb ?_
                (repeat' (first
 | (refine zJ 3 rfl ?_; simp (maxSteps := 4000000) only [go_sem, seval, List.take_succ_cons, List.take_zero, hst, hsn, hst2, hsn2]; (repeat refine And.intro (by omega) ?_); refine zQ (hmay) [6, 5] rfl ?_ ?_ ?_ ?_ <;> try simp (maxSteps := 4000000) only [go_sem, seval, Nat.lt_irrefl, hst, hsn, hst2, hsn2] <;> try decide)
 | refine zC ?_
 | refine kt ?_
 | refine And.intro ?_ ?_
 | ((first | refine awp_stp rfl ?_ | refine awp_draw (by kernel_rfl) (by kernel_rfl) ?_ | refine Imp.le2 ?_ | refine go_split (fun _h => ?_) (fun _h => ?_)) <;> try simp (maxSteps := 4000000) only [go_sem, seval, hst, hsn, hst2, hsn2])
 | intro _h
 | refine zA ?_
 | refine zB ?_
 | refine zF ?_ ?_
 | (show zE _ _ = true; kernel_rfl)
 | (show zD _ _ = true; kernel_rfl)
 | (omega)))
                refine awp_loopN t.reports.length (fun j => ⟨mkT 88 [(2, .ptr 4 0 0), (3, .ptr 7 0 0), (4, .ptr 3 0 0), (5, .ptr 8 0 0), (6, .ptr 9 0 0), (7, .ptr 10 0 0), (8, .ptr 11 0 0), (9, .ptr 12 0 0), (10, .ptr 13 0 0), (11, .int .u8 (x : Nat)), (12, .ptr 18 0 0), (44, .int .i64 t.reports.length), (45, .int .i64 j)], ehN t  s place fd ⟨a1.v, wrM x place j a1.pl, wrM x to.day j a1.dy, a1.K⟩ ++ [some (.dfr true), some (.loop .busy none 0 etN #[32] ca cb 16), some (.cells 136 1 0 (stC to))], []⟩) (.le2 ?_) ?_
                ·simp only [etN, ehN, heN, seG, stC, zL, slR, slC, List.cons_append, List.nil_append, wrM]; simp (maxSteps := 4000000) only [go_sem, seval]
                 try (first | rfl | exact ⟨rfl, rfl⟩)
                ·intro j hj
                 have hS1 := wrM_length (now := x) (x := place) (l := a1.pl) (k := j) (by rw [hq1]; omega)
                 have hF1 := wrM_length (now := x) (x := to.day) (l := a1.dy) (k := j) (by rw [hq2]; omega)
                 rw [hq1] at hS1
                 rw [hq2] at hF1
                 rcases Nat.lt_or_eq_of_le hj with hj1 | hj1
                 ·have hin := inS_c x j hx8 (by omega)
                  simp only [wrM]
                  generalize wrM x place j a1.pl = S1 at *
                  generalize wrM x to.day j a1.dy = F1 at *
                  have hss := fun x y z u v => ss_pl (x := x) (y := y) (z := z) (u := u) (S := S1) (F := F1) (i := j) (v := v) (by omega)
                  have hsd := fun x y z u v w => ss_dy (x := x) (y := y) (z := z) (u := u) (S := isp S1 j v) (F := F1) (i := j) (v := w) (by rw [isp_length (by omega)]; exact hS1) (by omega)
                  have hle1 := se_len hS1 hF1
                  have hle2 := fun v => se_len (S := isp S1 j v) (F := F1) (by rw [isp_length (by omega)]; exact hS1) hF1
                  generalize x.testBit j = b at *
                  cases b
                  ·simp only [etN, ehN, heN, seG, stC, zL, slR, slC, List.cons_append, List.nil_append, Bool.false_eq_true, if_false]; simp (maxSteps := 4000000) only [go_sem, seval]
                   (repeat' (first
 | ((exfalso; omega))
 | ((omega))
 | refine zC ?_
 | refine kt ?_
 | refine And.intro ?_ ?_
 | ((first | refine awp_stp rfl ?_ | refine awp_draw (by kernel_rfl) (by kernel_rfl) ?_ | refine Imp.le2 ?_ | refine callK_of (hin) ?_ | refine go_split (fun _h => ?_) (fun _h => ?_)) <;> try simp (maxSteps := 4000000) only [go_sem, seval])
 | intro _h
 | refine zA ?_
 | refine zB ?_
 | refine zF ?_ ?_
 | (show zE _ _ = true; kernel_rfl)
 | (show zD _ _ = true; kernel_rfl)
 | (omega)))
                   all_goals trace_state
                  ·simp only [etN, ehN, heN, seG, stC, zL, slR, slC, List.cons_append, List.nil_append, if_true]; simp (maxSteps := 4000000) only [go_sem, seval]
                   (repeat' (first
 | ((exfalso; omega))
 | ((omega))
 | refine zC ?_
 | refine kt ?_
 | refine And.intro ?_ ?_
 | ((first | refine awp_stp rfl ?_ | refine awp_draw3 (by kernel_rfl) (by kernel_rfl) ?_ | refine Imp.le2 ?_ | refine callK_of (hin) ?_ | refine go_split (fun _h => ?_) (fun _h => ?_)) <;> try simp (maxSteps := 4000000) only [go_sem, seval, hss, hsd, hle1, hle2])
 | intro _h
 | refine zA ?_
 | refine zB ?_
 | refine zF ?_ ?_
 | (show heapOK3 _ _ _ = true; kernel_rfl)
 | (show zE _ _ = true; kernel_rfl)
 | (show zD _ _ = true; kernel_rfl)
 | (omega)))
                   all_goals trace_state
                 ·subst hj1
                  simp only [putE] at hih
                  generalize wrM x place t.reports.length a1.pl = S1 at *
                  generalize wrM x to.day t.reports.length a1.dy = F1 at *
                  clear hF hF0
                  cases fd
                  all_goals
                   simp only [etN, ehN, heN, seG, stC, zL, slR, slC, List.cons_append, List.nil_append, Bool.true_or, Bool.false_or] at hih ⊢
                   simp (maxSteps := 4000000) only [go_sem, seval]
                   (repeat' (first
 | (refine zJ 4 rfl ?_; simp (maxSteps := 4000000) only [go_sem, seval, List.take_succ_cons, List.take_zero, hst2, hsn2]; (repeat refine And.intro (by omega) ?_); refine zQ (hih) [0, 1, 2, 3, 4, 5, 6, 7, 8, 9] rfl ?_ ?_ ?_ ?_ <;> try simp (maxSteps := 4000000) only [go_sem, seval, Nat.lt_irrefl, hst2, hsn2] <;> try decide)
 | ((exfalso; omega))
 | ((omega))
 | refine zC ?_
 | refine kt ?_
 | refine And.intro ?_ ?_
 | ((first | refine awp_stp rfl ?_ | refine awp_draw (by kernel_rfl) (by kernel_rfl) ?_ | refine Imp.le2 ?_ | refine go_split (fun _h => ?_) (fun _h => ?_)) <;> try simp (maxSteps := 4000000) only [go_sem, seval, hst2, hsn2])
 | intro _h
 | refine zA ?_
 | refine zB ?_
 | refine zF ?_ ?_
 | (show zE _ _ = true; kernel_rfl)
 | (show zD _ _ = true; kernel_rfl)
 | (omega)))
                  all_goals first | (rw [_h]; done) | trace_state
               ·refine ⟨((x - 1) &&& s.rest, fd || he1, a2), ⟨hxx, hok1, hF⟩, by simp only; omega, .le2 ?_⟩
                simp only [etN, ehN, heN, seG, stC, zL, slR, slC, List.cons_append, List.nil_append]; simp (maxSteps := 4000000) only [go_sem, seval]
                try (first | rfl | exact ⟨rfl, rfl⟩)
             | false =>
               rw [if_neg (by simp)] at hF
               simp only [Prod.mk.injEq] at hF
               obtain ⟨⟨g1, g2⟩, g3⟩ := hF
               rcases hcase with ⟨h, _⟩ | ⟨_, h2, h3, h4⟩
               ·rw [h] at g2; cases g2
               subst g1 g2 g3 h2 h3 h4
               have hF := hF0
               simp only [etN, ehN, heN, seG, stC, zL, slR, slC, List.cons_append, List.nil_append]; simp (maxSteps := 4000000) only [go_sem, seval]
               (repeat' (first
 | ((exfalso; omega))
 | ((omega))
 | ((refine zJ (id := 10) 4 rfl ?_; simp (maxSteps := 4000000) only [go_sem, seval, List.take_succ_cons, List.take_zero]; refine callH_yield false (ehN t  s place (fd || he1) a2 ++ [some (.dfr true), some (.loop .done (some .ret) 0 etN #[32] ca cb 16)]) ?_ ?_ <;> simp only [etN, ehN, heN, seG, stC, zL, slR, slC, List.cons_append, List.nil_append] <;> (try simp (maxSteps := 4000000) only [go_sem, seval])))
 | refine zC ?_
 | refine kt ?_
 | refine And.intro ?_ ?_
 | ((first | refine awp_stp rfl ?_ | refine awp_draw (by kernel_rfl) (by kernel_rfl) ?_ | refine Imp.le2 ?_ | refine go_split (fun _h => ?_) (fun _h => ?_)) <;> try simp (maxSteps := 4000000) only [go_sem, seval, e5, e6])
 | intro _h
 | refine zA ?_
 | refine zB ?_
 | refine zF ?_ ?_
 | (show zE _ _ = true; kernel_rfl)
 | (show zD _ _ = true; kernel_rfl)
 | (omega)))
               ·refine semY_of_awpZ rfl rfl ?_
                intro B w0 l m w
                refine awp_code hca ?_
                (repeat' (first
 | refine zC ?_
 | refine kt ?_
 | refine And.intro ?_ ?_
 | ((first | refine awp_stp rfl ?_ | refine awp_draw (by kernel_rfl) (by kernel_rfl) ?_ | refine Imp.le2 ?_ | refine go_split (fun _h => ?_) (fun _h => ?_)) <;> try simp (maxSteps := 4000000) only [go_sem, seval])
 | intro _h
 | refine zA ?_
 | refine zB ?_
 | refine zF ?_ ?_
 | (show zE _ _ = true; kernel_rfl)
 | (show zD _ _ = true; kernel_rfl)
 | (omega)))
                refine awp_code hcb ?_
                (repeat' (first
 | (refine zJ 3 rfl ?_; simp (maxSteps := 4000000) only [go_sem, seval, List.take_succ_cons, List.take_zero, hst, hsn, hst2, hsn2]; (repeat refine And.intro (by omega) ?_); refine zQ (hmay) [6, 5] rfl ?_ ?_ ?_ ?_ <;> try simp (maxSteps := 4000000) only [go_sem, seval, Nat.lt_irrefl, hst, hsn, hst2, hsn2] <;> try decide)
 | refine zC ?_
 | refine kt ?_
 | refine And.intro ?_ ?_
 | ((first | refine awp_stp rfl ?_ | refine awp_draw (by kernel_rfl) (by kernel_rfl) ?_ | refine Imp.le2 ?_ | refine go_split (fun _h => ?_) (fun _h => ?_)) <;> try simp (maxSteps := 4000000) only [go_sem, seval, hst, hsn, hst2, hsn2])
 | intro _h
 | refine zA ?_
 | refine zB ?_
 | refine zF ?_ ?_
 | (show zE _ _ = true; kernel_rfl)
 | (show zD _ _ = true; kernel_rfl)
 | (omega)))
                refine awp_loopN t.reports.length (fun j => ⟨mkT 88 [(2, .ptr 4 0 0), (3, .ptr 7 0 0), (4, .ptr 3 0 0), (5, .ptr 8 0 0), (6, .ptr 9 0 0), (7, .ptr 10 0 0), (8, .ptr 11 0 0), (9, .ptr 12 0 0), (10, .ptr 13 0 0), (11, .int .u8 (x : Nat)), (12, .ptr 18 0 0), (44, .int .i64 t.reports.length), (45, .int .i64 j)], ehN t  s place fd ⟨a1.v, wrM x place j a1.pl, wrM x to.day j a1.dy, a1.K⟩ ++ [some (.dfr true), some (.loop .busy none 0 etN #[32] ca cb 16), some (.cells 136 1 0 (stC to))], []⟩) (.le2 ?_) ?_
                ·simp only [etN, ehN, heN, seG, stC, zL, slR, slC, List.cons_append, List.nil_append, wrM]; simp (maxSteps := 4000000) only [go_sem, seval]
                 try (first | rfl | exact ⟨rfl, rfl⟩)
                ·intro j hj
                 have hS1 := wrM_length (now := x) (x := place) (l := a1.pl) (k := j) (by rw [hq1]; omega)
                 have hF1 := wrM_length (now := x) (x := to.day) (l := a1.dy) (k := j) (by rw [hq2]; omega)
                 rw [hq1] at hS1
                 rw [hq2] at hF1
                 rcases Nat.lt_or_eq_of_le hj with hj1 | hj1
                 ·have hin := inS_c x j hx8 (by omega)
                  simp only [wrM]
                  generalize wrM x place j a1.pl = S1 at *
                  generalize wrM x to.day j a1.dy = F1 at *
                  have hss := fun x y z u v => ss_pl (x := x) (y := y) (z := z) (u := u) (S := S1) (F := F1) (i := j) (v := v) (by omega)
                  have hsd := fun x y z u v w => ss_dy (x := x) (y := y) (z := z) (u := u) (S := isp S1 j v) (F := F1) (i := j) (v := w) (by rw [isp_length (by omega)]; exact hS1) (by omega)
                  have hle1 := se_len hS1 hF1
                  have hle2 := fun v => se_len (S := isp S1 j v) (F := F1) (by rw [isp_length (by omega)]; exact hS1) hF1
                  generalize x.testBit j = b at *
                  cases b
                  ·simp only [etN, ehN, heN, seG, stC, zL, slR, slC, List.cons_append, List.nil_append, Bool.false_eq_true, if_false]; simp (maxSteps := 4000000) only [go_sem, seval]
                   (repeat' (first
 | ((exfalso; omega))
 | ((omega))
 | refine zC ?_
 | refine kt ?_
 | refine And.intro ?_ ?_
 | ((first | refine awp_stp rfl ?_ | refine awp_draw (by kernel_rfl) (by kernel_rfl) ?_ | refine Imp.le2 ?_ | refine callK_of (hin) ?_ | refine go_split (fun _h => ?_) (fun _h => ?_)) <;> try simp (maxSteps := 4000000) only [go_sem, seval])
 | intro _h
 | refine zA ?_
 | refine zB ?_
 | refine zF ?_ ?_
 | (show zE _ _ = true; kernel_rfl)
 | (show zD _ _ = true; kernel_rfl)
 | (omega)))
                   all_goals trace_state
                  ·simp only [etN, ehN, heN, seG, stC, zL, slR, slC, List.cons_append, List.nil_append, if_true]; simp (maxSteps := 4000000) only [go_sem, seval]
                   (repeat' (first
 | ((exfalso; omega))
 | ((omega))
 | refine zC ?_
 | refine kt ?_
 | refine And.intro ?_ ?_
 | ((first | refine awp_stp rfl ?_ | refine awp_draw3 (by kernel_rfl) (by kernel_rfl) ?_ | refine Imp.le2 ?_ | refine callK_of (hin) ?_ | refine go_split (fun _h => ?_) (fun _h => ?_)) <;> try simp (maxSteps := 4000000) only [go_sem, seval, hss, hsd, hle1, hle2])
 | intro _h
 | refine zA ?_
 | refine zB ?_
 | refine zF ?_ ?_
 | (show heapOK3 _ _ _ = true; kernel_rfl)
 | (show zE _ _ = true; kernel_rfl)
 | (show zD _ _ = true; kernel_rfl)
 | (omega)))
                   all_goals trace_state
                 ·subst hj1
                  simp only [putE] at hih
                  generalize wrM x place t.reports.length a1.pl = S1 at *
                  generalize wrM x to.day t.reports.length a1.dy = F1 at *
                  clear hF hF0
                  cases fd
                  all_goals
                   simp only [etN, ehN, heN, seG, stC, zL, slR, slC, List.cons_append, List.nil_append, Bool.true_or, Bool.false_or] at hih ⊢
                   simp (maxSteps := 4000000) only [go_sem, seval]
                   (repeat' (first
 | (refine zJ 4 rfl ?_; simp (maxSteps := 4000000) only [go_sem, seval, List.take_succ_cons, List.take_zero, hst2, hsn2]; (repeat refine And.intro (by omega) ?_); refine zQ (hih) [0, 1, 2, 3, 4, 5, 6, 7, 8, 9] rfl ?_ ?_ ?_ ?_ <;> try simp (maxSteps := 4000000) only [go_sem, seval, Nat.lt_irrefl, hst2, hsn2] <;> try decide)
 | ((exfalso; omega))
 | ((omega))
 | refine zC ?_
 | refine kt ?_
 | refine And.intro ?_ ?_
 | ((first | refine awp_stp rfl ?_ | refine awp_draw (by kernel_rfl) (by kernel_rfl) ?_ | refine Imp.le2 ?_ | refine go_split (fun _h => ?_) (fun _h => ?_)) <;> try simp (maxSteps := 4000000) only [go_sem, seval, hst2, hsn2])
 | intro _h
 | refine zA ?_
 | refine zB ?_
 | refine zF ?_ ?_
 | (show zE _ _ = true; kernel_rfl)
 | (show zD _ _ = true; kernel_rfl)
 | (omega)))
                  all_goals first | (rw [_h]; done) | trace_state
               all_goals trace_state
            ·have h1 : oneM t (eachM t (fnS t) f) s place x a1 = ((false, true), a1) := by unfold oneM; rw [if_neg hm]
             rw [h1] at hF
             simp only [if_true, Bool.or_false] at hF
             rw [Bool.not_eq_true] at hm
             rw [hm] at hmay
             generalize (mayS t s x).1 = to at *
             simp only [etN, ehN, heN, seG, stC, zL, slR, slC, List.cons_append, List.nil_append, seC] at hmay ⊢
             simp (maxSteps := 4000000) only [go_sem, seval]
             (repeat' (first
 | ((exfalso; omega))
 | ((omega))
 | ((refine zJ (id := 10) 4 rfl ?_; simp (maxSteps := 4000000) only [go_sem, seval, List.take_succ_cons, List.take_zero]; refine callH_yield true (ehN t  s place fd a1 ++ [some (.dfr true), some (.loop .ready none 0 etN #[32] ca cb 16)]) ?_ ?_ <;> simp only [etN, ehN, heN, seG, stC, zL, slR, slC, List.cons_append, List.nil_append] <;> (try simp (maxSteps := 4000000) only [go_sem, seval])))
 | refine zC ?_
 | refine kt ?_
 | refine And.intro ?_ ?_
 | ((first | refine awp_stp rfl ?_ | refine awp_draw (by kernel_rfl) (by kernel_rfl) ?_ | refine Imp.le2 ?_ | refine go_split (fun _h => ?_) (fun _h => ?_)) <;> try simp (maxSteps := 4000000) only [go_sem, seval, e5, e6])
 | intro _h
 | refine zA ?_
 | refine zB ?_
 | refine zF ?_ ?_
 | (show zE _ _ = true; kernel_rfl)
 | (show zD _ _ = true; kernel_rfl)
 | (omega)))
             ·refine semY_of_awpZ rfl rfl ?_
              intro B w0 l m w
              refine awp_code hca ?_
              (repeat' (first
 | refine zC ?_
 | refine kt ?_
 | refine And.intro ?_ ?_
 | ((first | refine awp_stp rfl ?_ | refine awp_draw (by kernel_rfl) (by kernel_rfl) ?_ | refine Imp.le2 ?_ | refine go_split (fun _h => ?_) (fun _h => ?_)) <;> try simp (maxSteps := 4000000) only [go_sem, seval])
 | intro _h
 | refine zA ?_
 | refine zB ?_
 | refine zF ?_ ?_
 | (show zE _ _ = true; kernel_rfl)
 | (show zD _ _ = true; kernel_rfl)
 | (omega)))
              refine awp_code hcb ?_
              (repeat' (first
 | (refine zJ 3 rfl ?_; simp (maxSteps := 4000000) only [go_sem, seval, List.take_succ_cons, List.take_zero, hst, hsn, hst2, hsn2]; (repeat refine And.intro (by omega) ?_); refine zQ (hmay) [6, 5] rfl ?_ ?_ ?_ ?_ <;> try simp (maxSteps := 4000000) only [go_sem, seval, Nat.lt_irrefl, hst, hsn, hst2, hsn2] <;> try decide)
 | refine zC ?_
 | refine kt ?_
 | refine And.intro ?_ ?_
 | ((first | refine awp_stp rfl ?_ | refine awp_draw (by kernel_rfl) (by kernel_rfl) ?_ | refine Imp.le2 ?_ | refine go_split (fun _h => ?_) (fun _h => ?_)) <;> try simp (maxSteps := 4000000) only [go_sem, seval, hst, hsn, hst2, hsn2])
 | intro _h
 | refine zA ?_
 | refine zB ?_
 | refine zF ?_ ?_
 | (show zE _ _ = true; kernel_rfl)
 | (show zD _ _ = true; kernel_rfl)
 | (omega)))
              all_goals trace_state
             ·refine ⟨((x - 1) &&& s.rest, fd, a1), ⟨hxx, ha1, hF⟩, by simp only; omega, .le2 ?_⟩
              simp only [etN, ehN, heN, seG, stC, zL, slR, slC, List.cons_append, List.nil_append]; simp (maxSteps := 4000000) only [go_sem, seval]
              try (first | rfl | exact ⟨rfl, rfl⟩)
     ·rfl
     ·rcases hcase with ⟨_, h, _, _⟩ | ⟨_, h, _, _⟩ <;> (rw [h]; simp)
     ·rcases hcase with ⟨_, _, h1, h2⟩ | ⟨_, _, h1, h2⟩ <;> (rw [h1, h2]; rfl)
     ·rcases hcase with ⟨h1, h2, h3, h4⟩ | ⟨h1, h2, h3, h4⟩
      ·subst h1 h2 h3 h4
       have e3 : (endM s ((fE, true), aE)).2 = { aE with K := gmPut aE.K ⟨s, hs.sl, hs.fl⟩ (!fE) } := by
        unfold endM putS; rw [if_pos rfl, dif_pos ⟨hs.sl, hs.fl⟩]
       rw [e3]
       have hmu1 := fun (f : List (AV × AV) → Prop) => mup_km (m := aE.K) (k := ⟨s, hs.sl, hs.fl⟩) (v := true) (f := f)
       have hmu2 := fun (f : List (AV × AV) → Prop) => mup_km (m := aE.K) (k := ⟨s, hs.sl, hs.fl⟩) (v := false) (f := f)
       simp only [keyV, stC] at hmu1 hmu2
       cases fE
       all_goals
        simp only [Bool.not_true, Bool.not_false]
        simp only [etN, ehN, heN, seG, stC, zL, slR, slC, List.cons_append, List.nil_append]; simp (maxSteps := 4000000) only [go_sem, seval]
        (repeat' (first
 | ((exact hkey _ _))
 | refine zC ?_
 | refine kt ?_
 | refine And.intro ?_ ?_
 | ((first | refine awp_stp rfl ?_ | refine awp_draw (by kernel_rfl) (by kernel_rfl) ?_ | refine Imp.le2 ?_ | refine go_split (fun _h => ?_) (fun _h => ?_)) <;> try simp (maxSteps := 4000000) only [go_sem, seval, hst, hsn, hmu1, hmu2])
 | intro _h
 | refine zA ?_
 | refine zB ?_
 | refine zF ?_ ?_
 | (show zE _ _ = true; kernel_rfl)
 | (show zD _ _ = true; kernel_rfl)
 | (omega)))
       all_goals trace_state
      ·subst h1 h2 h3 h4
       have e3 : (endM s ((fE, false), aE)).2 = aE := by
        unfold endM; rw [if_neg (by simp)]
       rw [e3]
       simp only [etN, ehN, heN, seG, stC, zL, slR, slC, List.cons_append, List.nil_append]; simp (maxSteps := 4000000) only [go_sem, seval]
       (repeat' (first
 | refine zC ?_
 | refine kt ?_
 | refine And.intro ?_ ?_
 | ((first | refine awp_stp rfl ?_ | refine awp_draw (by kernel_rfl) (by kernel_rfl) ?_ | refine Imp.le2 ?_ | refine go_split (fun _h => ?_) (fun _h => ?_)) <;> try simp (maxSteps := 4000000) only [go_sem, seval])
 | intro _h
 | refine zA ?_
 | refine zB ?_
 | refine zF ?_ ?_
 | (show zE _ _ = true; kernel_rfl)
 | (show zD _ _ = true; kernel_rfl)
 | (omega)))
       all_goals trace_state
end Go.Am
namespace Go.Am
open Go.RowKit Go.Proofs
attribute [local irreducible] AWP zO Kt goK CallK zT zR SemF SemY Imp
set_option maxRecDepth 4000
set_option linter.unusedSimpArgs false
set_option linter.unusedVariables false
set_option maxHeartbeats 6400000
theorem allN_c (t : Ann)  (ht : AnnOK t)  (v : Bool × List Int × List Int) (hv : fnOK v) : SemF Try.prog 51 [.agg (zL t), .fn (.func 95) [] [.ptr 0 0 0, .ptr 1 0 0, .ptr 2 0 0]] [some (.cells 35 1 0 (zL t)), some (.cells 61 1 0 (chC v)), some (.cells 4 1 0 [.bool v.1])] (.tup []) [some (.cells 35 1 0 (zL t)), some (.cells 61 1 0 (chC (allM t (fnS t) v).2.v)), some (.cells 4 1 0 [.bool (allM t (fnS t) v).2.v.1])] := by
 have h128 : (begS t).rest < 128 := by
  show 2 ^ t.reports.length - 1 < 128
  have : 2 ^ t.reports.length ≤ 2 ^ 7 := Nat.pow_le_pow_right (by omega) ht.reports.2
  omega
 have hm := eachN_c t  ht  128 (begS t) 0 ⟨v, zer7, zer7, []⟩ (begS_ok ht) h128 (Int.le_refl _) (by omega) ⟨hv, zer_ok⟩
 have hbe := begin_c t ht.reports.2
 have hz : (zS zer7 ++ zS zer7) = [.int .i64 0, .int .i64 0, .int .i64 0, .int .i64 0, .int .i64 0, .int .i64 0, .int .i64 0, .int .i64 0, .int .i64 0, .int .i64 0, .int .i64 0, .int .i64 0, .int .i64 0, .int .i64 0] := rfl
 unfold allM
 generalize (eachM t (fnS t) 128 (begS t) 0 ⟨v, zer7, zer7, []⟩) = R at *
 obtain ⟨⟨f1, m1⟩, vE, plE, dyE, KE⟩ := R
 simp only [heN, seG, hz, kmC_nil2, zL, slR, slC, List.cons_append, List.nil_append] at hm hbe ⊢
 generalize (begS t) = st at *
 simp only [stC] at hm hbe
 (refine zH (ys := []) (fun w args => Try.call51 ..) Try.func51 rfl (fun w0 m0 wz => ?_); simp only [Try.ntmps51, Try.results51, zN, zP, zU, zV, slR, slC, zL, sl, List.toList_toArray, List.cons_append, List.nil_append, List.length_cons, List.length_nil, Nat.reduceAdd, Nat.reduceSub])
 (repeat' (first
 | refine zC ?_
 | refine kt ?_
 | refine And.intro ?_ ?_
 | ((first | refine awp_stp rfl ?_ | refine Imp.le2 ?_ | refine go_split (fun _h => ?_) (fun _h => ?_)) <;> try simp (maxSteps := 4000000) only [go_sem, seval])
 | intro _h
 | refine zA ?_
 | refine zB ?_
 | refine zF ?_ ?_
 | (show zE _ _ = true; kernel_rfl)
 | (show zD _ _ = true; kernel_rfl)
 | (omega)))
 ((repeat refine zC ?_); refine awp_draws [(3, [1, 2, 5, 6])] (by kernel_rfl) (by kernel_rfl) ?_; simp (maxSteps := 4000000) only [go_sem, seval, sg_cons, sg_nil, List.take_succ_cons, List.take_zero, List.drop_succ_cons, List.drop_zero])
 (repeat' (first
 | refine zC ?_
 | refine kt ?_
 | refine And.intro ?_ ?_
 | ((first | refine awp_stp rfl ?_ | refine Imp.le2 ?_ | refine callK_of (hbe) ?_ | refine go_split (fun _h => ?_) (fun _h => ?_)) <;> try simp (maxSteps := 4000000) only [go_sem, seval])
 | intro _h
 | refine zA ?_
 | refine zB ?_
 | refine zF ?_ ?_
 | (show zE _ _ = true; kernel_rfl)
 | (show zD _ _ = true; kernel_rfl)
 | (omega)))
 (refine zQ (hm) [0, 1, 2, 3, 4, 5, 6, 7, 8, 9] rfl (by simp (maxSteps := 4000000) only [go_sem, seval]) (by simp (maxSteps := 4000000) only [go_sem, seval, Nat.lt_irrefl] <;> decide) (by simp (maxSteps := 4000000) only [go_sem, seval]) ?_; simp (maxSteps := 4000000) only [go_sem, seval]; refine And.intro (frm_of (by repeat (first | exact rfl | exact ⟨_, rfl⟩ | refine And.intro ?_ ?_))) ?_; try simp (maxSteps := 4000000) only [go_sem, seval, sg_cons, sg_nil, List.take_succ_cons, List.take_zero, List.drop_succ_cons, List.drop_zero])
 (repeat' (first
 | refine zC ?_
 | refine kt ?_
 | refine And.intro ?_ ?_
 | ((first | refine awp_stp rfl ?_ | refine Imp.le2 ?_ | refine go_split (fun _h => ?_) (fun _h => ?_)) <;> try simp (maxSteps := 4000000) only [go_sem, seval])
 | intro _h
 | refine zA ?_
 | refine zB ?_
 | refine zF ?_ ?_
 | (show zE _ _ = true; kernel_rfl)
 | (show zD _ _ = true; kernel_rfl)
 | (omega)))
 all_goals trace_state
end Go.Am
namespace Go.Am
open Go.RowKit Go.Proofs
attribute [local irreducible] AWP zO Kt goK CallK zT zR SemF SemY Imp
set_option maxRecDepth 4000
set_option linter.unusedSimpArgs false
set_option linter.unusedVariables false
set_option maxHeartbeats 1600000
def fnV (t : Ann) : Bool × List Int × List Int := (allM t (fnS t) (false, [], [])).2.v
theorem find_c (t : Ann) (ht : AnnOK t) : zO Try.prog 65 [.agg (zL t)] (.tup [.agg (chC (fnV t)), .bool (fnV t).1]) := by
 have h := allN_c t ht (false, [], []) trivial
 have e : (allM t (fnS t) (false, [], [])).2.v = fnV t := rfl
 rw [e] at h
 generalize fnV t = V at *
 have e2 : chC (false, [], []) = [.nils, .nils] := rfl
 rw [e2] at h
 obtain ⟨b, S, D⟩ := V
 have e3 : chC (true, S, D) = [.psl false S.length (zS S), .psl false D.length (zS D)] := rfl
 have e4 : chC (false, S, D) = [.nils, .nils] := rfl
 cases b
 all_goals
  simp only [zL, slR, slC, e3, e4] at h ⊢
  (refine zG (fun w args => Try.call65 ..) Try.func65 rfl (fun w0 m0 wz => ?_); simp only [Try.ntmps65, Try.results65, zN, zP, zU, zV, slR, slC, zL, sl, List.toList_toArray, List.cons_append, List.nil_append, List.length_cons, List.length_nil, Nat.reduceAdd, Nat.reduceSub])
  (repeat' (first
 | (refine zJ 2 rfl ?_; simp (maxSteps := 4000000) only [go_sem, seval, List.take_succ_cons, List.take_zero]; (repeat refine And.intro (by omega) ?_); refine zQ (h) [0, 1, 2] rfl ?_ ?_ rfl ?_ <;> try simp (maxSteps := 4000000) only [go_sem, seval, Nat.lt_irrefl] <;> try decide)
 | ((exfalso; omega))
 | refine zC ?_
 | refine kt ?_
 | refine And.intro ?_ ?_
 | ((first | refine awp_stp rfl ?_ | refine awp_draw (by kernel_rfl) (by kernel_rfl) ?_ | refine Imp.le2 ?_ | refine go_split (fun _h => ?_) (fun _h => ?_)) <;> try simp (maxSteps := 4000000) only [go_sem, seval])
 | intro _h
 | refine zA ?_
 | refine zB ?_
 | refine zF ?_ ?_
 | (show zE _ _ = true; kernel_rfl)
 | (show zD _ _ = true; kernel_rfl)
 | (omega)))
  all_goals first | exact (rfl : AV.agg _ = AV.agg _) | (exfalso; simp at _h; done) | trace_state
end Go.Am
namespace Go.Am
open Go.RowKit Go.Proofs
attribute [local irreducible] AWP zO Kt goK CallK zT zR SemF SemY Imp
set_option maxRecDepth 4000
set_option linter.unusedSimpArgs false
set_option linter.unusedVariables false
set_option maxHeartbeats 1600000
theorem has_c2 (l : List Int) (n : Int) (hl : l.length ≤ 1000000) : zO Try.prog 70 [sl l, .int .i64 n] (.bool (decide (n ∈ l))) := by
 have hyes : ∀ i, i < l.length → l.getD i 0 = n → true = decide (n ∈ l) := fun i hi h => (decide_eq_true (by rw [← h]; exact getD_mem hi)).symm
 have hno : (∀ j, j < l.length → ¬ l.getD j 0 = n) → false = decide (n ∈ l) := fun h => (decide_eq_false (fun hm => by
  obtain ⟨i, hi, e⟩ := mem_getD (d := 0) hm
  exact h i hi e)).symm
 generalize decide (n ∈ l) = r at *
 (refine zG (fun w args => Try.call70 ..) Try.func70 rfl (fun w0 m0 wz => ?_); simp only [Try.ntmps70, Try.results70, zN, zP, zU, zV, slR, slC, zL, sl, List.toList_toArray, List.cons_append, List.nil_append, List.length_cons, List.length_nil, Nat.reduceAdd, Nat.reduceSub])
 (repeat' (first
 | refine zC ?_
 | refine kt ?_
 | refine And.intro ?_ ?_
 | ((first | refine awp_stp rfl ?_ | refine awp_draw (by kernel_rfl) (by kernel_rfl) ?_ | refine Imp.le2 ?_ | refine go_split (fun _h => ?_) (fun _h => ?_)) <;> try simp (maxSteps := 4000000) only [go_sem, seval])
 | intro _h
 | refine zA ?_
 | refine zB ?_
 | refine zF ?_ ?_
 | (show zE _ _ = true; kernel_rfl)
 | (show zD _ _ = true; kernel_rfl)
 | (omega)))
 refine awp_loopJ (fun i : Nat => i ≤ l.length ∧ ∀ j, j < i → ¬ l.getD j 0 = n) (fun i => ⟨mkT 18 [(0, sl l), (1, .int .i64 n), (5, .int .i64 i)], [], []⟩) (fun i => l.length - i) 0 ⟨Nat.zero_le _, fun j h => by omega⟩ (.le2 ?_) ?_
 ·simp (maxSteps := 4000000) only [go_sem, seval]
 ·rintro i ⟨hi, hj⟩
  simp (maxSteps := 4000000) only [go_sem, seval]
  (repeat' (first
 | refine zC ?_
 | refine kt ?_
 | refine And.intro ?_ ?_
 | ((first | refine awp_stp rfl ?_ | refine awp_draw (by kernel_rfl) (by kernel_rfl) ?_ | refine Imp.le2 ?_ | refine go_split (fun _h => ?_) (fun _h => ?_)) <;> try simp (maxSteps := 4000000) only [go_sem, seval])
 | intro _h
 | refine zA ?_
 | refine zB ?_
 | refine zF ?_ ?_
 | (show zE _ _ = true; kernel_rfl)
 | (show zD _ _ = true; kernel_rfl)
 | (omega)))
  all_goals first
   | (refine ⟨i + 1, ⟨by omega, fun j hji => ?_⟩, by omega, .le2 ?_⟩
      ·rcases Nat.lt_succ_iff_lt_or_eq.1 hji with h | rfl
       ·exact hj j h
       ·assumption
      ·simp (maxSteps := 4000000) only [go_sem, seval] <;> omega)
   | exact (hyes i (by omega) ‹_›).symm
   | exact hyes i (by omega) ‹_›
   | exact (hno (fun j h => hj j (by omega))).symm
   | exact hno (fun j h => hj j (by omega))
   | trace_state
theorem index_c (l : List Int) (n : Int) (hl : l.length ≤ 1000000) : zO Try.prog 112 [sl l, .int .i64 n] (.int .i64 (idxOf (fun x => decide (n = x)) l)) := by
 (refine zG (fun w args => Try.call112 ..) Try.func112 rfl (fun w0 m0 wz => ?_); simp only [Try.ntmps112, Try.results112, zN, zP, zU, zV, slR, slC, zL, sl, List.toList_toArray, List.cons_append, List.nil_append, List.length_cons, List.length_nil, Nat.reduceAdd, Nat.reduceSub])
 (repeat' (first
 | refine zC ?_
 | refine kt ?_
 | refine And.intro ?_ ?_
 | ((first | refine awp_stp rfl ?_ | refine awp_draw (by kernel_rfl) (by kernel_rfl) ?_ | refine Imp.le2 ?_ | refine go_split (fun _h => ?_) (fun _h => ?_)) <;> try simp (maxSteps := 4000000) only [go_sem, seval])
 | intro _h
 | refine zA ?_
 | refine zB ?_
 | refine zF ?_ ?_
 | (show zE _ _ = true; kernel_rfl)
 | (show zD _ _ = true; kernel_rfl)
 | (omega)))
 refine awp_loopJ (fun i : Nat => i ≤ l.length ∧ ∀ j, j < i → decide (n = l.getD j 0) = false) (fun i => ⟨mkT 19 [(0, sl l), (1, .int .i64 n), (6, sl l), (7, .int .i64 l.length), (8, .int .i64 i)], [], []⟩) (fun i => l.length - i) 0 ⟨Nat.zero_le _, fun j h => by omega⟩ (.le2 ?_) ?_
 ·simp (maxSteps := 4000000) only [go_sem, seval]
  all_goals trace_state
 ·rintro i ⟨hi, hj⟩
  simp (maxSteps := 4000000) only [go_sem, seval]
  (repeat' (first
 | refine zC ?_
 | refine kt ?_
 | refine And.intro ?_ ?_
 | ((first | refine awp_stp rfl ?_ | refine awp_draw (by kernel_rfl) (by kernel_rfl) ?_ | refine Imp.le2 ?_ | refine go_split (fun _h => ?_) (fun _h => ?_)) <;> try simp (maxSteps := 4000000) only [go_sem, seval])
 | intro _h
 | refine zA ?_
 | refine zB ?_
 | refine zF ?_ ?_
 | (show zE _ _ = true; kernel_rfl)
 | (show zD _ _ = true; kernel_rfl)
 | (omega)))
  ·exact idxOf_some (d := 0) (by omega) (decide_eq_true ‹_›) hj
  ·refine ⟨i + 1, ⟨by omega, fun j hji => ?_⟩, by omega, .le2 ?_⟩
   ·rcases Nat.lt_succ_iff_lt_or_eq.1 hji with h | h
    ·exact of_decide_eq_false (hj j h)
    ·rw [h]; assumption
   ·simp (maxSteps := 4000000) only [go_sem, seval]
    omega
  ·exact idxOf_none (d := 0) (fun j hjl => hj j (by omega))
theorem stats_c (t : Ann) (h : annOK t) : zO Try.prog 67 [.agg (zL t)] (.int .i64 ((t.reports.length : Int) + t.claims.length)) := by
 obtain ⟨h1, h2⟩ := h
 (refine zG (fun w args => Try.call67 ..) Try.func67 rfl (fun w0 m0 wz => ?_); simp only [Try.ntmps67, Try.results67, zN, zP, zU, zV, slR, slC, zL, sl, List.toList_toArray, List.cons_append, List.nil_append, List.length_cons, List.length_nil, Nat.reduceAdd, Nat.reduceSub])
 (repeat' (first
 | refine zC ?_
 | refine kt ?_
 | refine And.intro ?_ ?_
 | ((first | refine awp_stp rfl ?_ | refine awp_draw (by kernel_rfl) (by kernel_rfl) ?_ | refine Imp.le2 ?_ | refine go_split (fun _h => ?_) (fun _h => ?_)) <;> try simp (maxSteps := 4000000) only [go_sem, seval])
 | intro _h
 | refine zA ?_
 | refine zB ?_
 | refine zF ?_ ?_
 | (show zE _ _ = true; kernel_rfl)
 | (show zD _ _ = true; kernel_rfl)
 | (omega)))
def lisd (n : Int) (l : List Int) (i : Nat) : Prop := (0 ≤ l.getD i 0 ∧ l.getD i 0 ≤ n - 1) ∧ (0 < i → l.getD (i - 1) 0 < l.getD i 0)
instance (n : Int) (l : List Int) (i : Nat) : Decidable (lisd n l i) := inferInstanceAs (Decidable (_ ∧ _))
def Lis (n : Int) (l : List Int) : Prop := ∀ i, i < l.length → lisd n l i
instance (n : Int) (l : List Int) : Decidable (Lis n l) := inferInstanceAs (Decidable (∀ i, i < l.length → lisd n l i))
end Go.Am
namespace Go.Am
open Go.RowKit Go.Proofs
attribute [local irreducible] AWP zO Kt goK CallK zT zR SemF SemY Imp
set_option maxRecDepth 4000
set_option linter.unusedSimpArgs false
set_option linter.unusedVariables false
set_option maxHeartbeats 1600000
theorem contains_c (l : List Int) (n : Int) (hl : l.length ≤ 1000000) : zO Try.prog 98 [sl l, .int .i64 n] (.bool (decide (n ∈ l))) := by
 have h := index_c l n hl
 have e : decide (n ∈ l) = decide (0 ≤ idxOf (fun x => decide (n = x)) l) := by
  rw [idxOf_ge, Bool.eq_iff_iff, decide_eq_true_eq, List.any_eq_true]
  constructor
  ·intro hm; exact ⟨n, hm, by simp⟩
  ·rintro ⟨x, hx, he⟩
   rw [of_decide_eq_true he]; exact hx
 rw [e]
 simp only [sl] at h
 (refine zG (fun w args => Try.call98 ..) Try.func98 rfl (fun w0 m0 wz => ?_); simp only [Try.ntmps98, Try.results98, zN, zP, zU, zV, slR, slC, zL, sl, List.toList_toArray, List.cons_append, List.nil_append, List.length_cons, List.length_nil, Nat.reduceAdd, Nat.reduceSub])
 (repeat' (first
 | refine zC ?_
 | refine kt ?_
 | refine And.intro ?_ ?_
 | ((first | refine awp_stp rfl ?_ | refine awp_draw (by kernel_rfl) (by kernel_rfl) ?_ | refine Imp.le2 ?_ | refine callK_of (h) ?_ | refine go_split (fun _h => ?_) (fun _h => ?_)) <;> try simp (maxSteps := 4000000) only [go_sem, seval])
 | intro _h
 | refine zA ?_
 | refine zB ?_
 | refine zF ?_ ?_
 | (show zE _ _ = true; kernel_rfl)
 | (show zD _ _ = true; kernel_rfl)
 | (omega)))
def wRpt (l : List Int) (t : Ann) (i : Nat) : Rpt := if (i : Int) ∈ l then ⟨(t.reports.getD i default).slope, 0, 100000⟩ else t.reports.getD i default
def wClm (l : List Int) (t : Ann) : Nat → List Clm
 | 0 => []
 | k + 1 => if ((t.reports.length : Int) + k) ∈ l then wClm l t k else wClm l t k ++ [t.claims.getD k default]
def withA (t : Ann) (l : List Int) : Ann := ⟨tab t.reports.length (wRpt l t), wClm l t t.claims.length, t.rest⟩
theorem wClm_le {l : List Int} {t : Ann} : ∀ k, (wClm l t k).length ≤ k
 | 0 => by simp [wClm]
 | k + 1 => by
   have := wClm_le (l := l) (t := t) k
   simp only [wClm]
   split <;> simp <;> omega
theorem tab_succ {α : Type} {n : Nat} {f : Nat → α} : tab (n + 1) f = tab n f ++ [f n] := by simp [tab, List.range_succ]
theorem recs_one {α : Type} {enc : α → List AV} {l : List α} {x : α} : recs enc l ++ enc x = recs enc (l ++ [x]) := by simp [recs]
theorem without_c (t : Ann) (l : List Int) (ht : annOK t) (hl : l.length ≤ 1000000) : zO Try.prog 69 [.agg (zL t), sl l] (.agg (zL (withA t l))) := by
 obtain ⟨hb1, hb2⟩ := ht
 have hco := fun n => contains_c l n hl
 simp only [sl] at hco
 have htl : ∀ k, (tab k (wRpt l t)).length = k := fun k => tab_length
 (refine zG (fun w args => Try.call69 ..) Try.func69 rfl (fun w0 m0 wz => ?_); simp only [Try.ntmps69, Try.results69, zN, zP, zU, zV, slR, slC, zL, sl, List.toList_toArray, List.cons_append, List.nil_append, List.length_cons, List.length_nil, Nat.reduceAdd, Nat.reduceSub])
 (repeat' (first
 | refine zC ?_
 | refine kt ?_
 | refine And.intro ?_ ?_
 | ((first | refine awp_stp rfl ?_ | refine awp_draw (by kernel_rfl) (by kernel_rfl) ?_ | refine Imp.le2 ?_ | refine callK_of (always_c) ?_ | refine go_split (fun _h => ?_) (fun _h => ?_)) <;> try simp (maxSteps := 4000000) only [go_sem, seval])
 | intro _h
 | refine zA ?_
 | refine zB ?_
 | refine zF ?_ ?_
 | (show zE _ _ = true; kernel_rfl)
 | (show zD _ _ = true; kernel_rfl)
 | (omega)))
 refine awp_adH 2 0 58 3 rfl rfl ?_
 simp only [adH, hget, hset, lset, List.length_cons, List.length_nil, Nat.reduceAdd]
 refine awp_adH 2 1 73 3 rfl rfl ?_
 simp only [adH, hget, hset, lset, List.length_cons, List.length_nil, Nat.reduceAdd]
 refine awp_loopN t.reports.length (fun k => ⟨mkT 57 [(1, sl l), (2, .ptr 0 0 0), (4, .ptr 1 0 0), (5, .ptr 2 0 0), (14, slR t.reports), (15, .int .i64 t.reports.length), (16, .int .i64 k)], [some (.cells 35 1 0 (zL t)), some (.cells 35 1 0 [.nils, .nils, .int .i64 0]), some (.cells 35 1 0 [.osl 3 k 0 k, .osl 4 0 0 0, .int .i64 t.rest]), some (.cells 58 3 k (recs zU (tab k (wRpt l t)))), some (.cells 73 3 0 [])], []⟩) (.le2 ?_) ?_
 ·simp only [zL, slR, slC]; simp (maxSteps := 4000000) only [go_sem, seval]
  rfl
 ·intro k hk
  rcases Nat.lt_or_eq_of_le hk with hk1 | hk1
  ·have htk := htl k
   have hsn := recs_one (enc := zU) (l := tab k (wRpt l t)) (x := wRpt l t k)
   rw [← tab_succ] at hsn
   have htk1 := htl (k + 1)
   have hc := hco k
   by_cases hm : (k : Int) ∈ l
   ·rw [decide_eq_true hm] at hc
    have hw : wRpt l t k = ⟨(t.reports.getD k default).slope, 0, 100000⟩ := if_pos hm
    rw [hw] at hsn
    simp only [zU] at hsn
    generalize tab (k + 1) (wRpt l t) = W1 at *
    generalize tab k (wRpt l t) = W at *
    simp only [zL, slR, slC]; simp (maxSteps := 4000000) only [go_sem, seval]
    (repeat' (first
 | ((omega))
 | refine zC ?_
 | refine kt ?_
 | refine And.intro ?_ ?_
 | ((first | refine awp_stp rfl ?_ | refine awp_draw (by kernel_rfl) (by kernel_rfl) ?_ | refine Imp.le2 ?_ | refine callK_of (hc) ?_ | refine callK_of (always_c) ?_ | refine go_split (fun _h => ?_) (fun _h => ?_)) <;> try simp (maxSteps := 4000000) only [go_sem, seval, htk, hsn])
 | intro _h
 | refine zA ?_
 | refine zB ?_
 | refine zF ?_ ?_
 | (show zE _ _ = true; kernel_rfl)
 | (show zD _ _ = true; kernel_rfl)
 | (omega)))
    all_goals trace_state
   ·rw [decide_eq_false hm] at hc
    have hw : wRpt l t k = t.reports.getD k default := if_neg hm
    rw [hw] at hsn
    simp only [zU] at hsn
    generalize tab (k + 1) (wRpt l t) = W1 at *
    generalize tab k (wRpt l t) = W at *
    simp only [zL, slR, slC]; simp (maxSteps := 4000000) only [go_sem, seval]
    (repeat' (first
 | ((omega))
 | refine zC ?_
 | refine kt ?_
 | refine And.intro ?_ ?_
 | ((first | refine awp_stp rfl ?_ | refine awp_draw (by kernel_rfl) (by kernel_rfl) ?_ | refine Imp.le2 ?_ | refine callK_of (hc) ?_ | refine callK_of (always_c) ?_ | refine go_split (fun _h => ?_) (fun _h => ?_)) <;> try simp (maxSteps := 4000000) only [go_sem, seval, htk, hsn])
 | intro _h
 | refine zA ?_
 | refine zB ?_
 | refine zF ?_ ?_
 | (show zE _ _ = true; kernel_rfl)
 | (show zD _ _ = true; kernel_rfl)
 | (omega)))
    all_goals trace_state
  ·subst hk1
   have htk := htl t.reports.length
   simp only [withA]
   generalize tab t.reports.length (wRpt l t) = W at *
   simp only [zL, slR, slC]; simp (maxSteps := 4000000) only [go_sem, seval]
   (repeat' (first
 | ((exfalso; omega))
 | refine zC ?_
 | refine kt ?_
 | refine And.intro ?_ ?_
 | ((first | refine awp_stp rfl ?_ | refine awp_draw (by kernel_rfl) (by kernel_rfl) ?_ | refine Imp.le2 ?_ | refine go_split (fun _h => ?_) (fun _h => ?_)) <;> try simp (maxSteps := 4000000) only [go_sem, seval, htk])
 | intro _h
 | refine zA ?_
 | refine zB ?_
 | refine zF ?_ ?_
 | (show zE _ _ = true; kernel_rfl)
 | (show zD _ _ = true; kernel_rfl)
 | (omega)))
   refine awp_loopN t.claims.length (fun k => ⟨mkT 57 [(1, sl l), (2, .ptr 0 0 0), (4, .ptr 1 0 0), (5, .ptr 2 0 0), (34, slC t.claims), (35, .int .i64 t.claims.length), (36, .int .i64 k)], [some (.cells 35 1 0 (zL t)), some (.cells 35 1 0 [.nils, .nils, .int .i64 0]), some (.cells 35 1 0 [.osl 3 t.reports.length 0 t.reports.length, .osl 4 (wClm l t k).length 0 (wClm l t k).length, .int .i64 t.rest]), some (.cells 58 3 t.reports.length (recs zU W)), some (.cells 73 3 (wClm l t k).length (recs zV (wClm l t k)))], []⟩) (.le2 ?_) ?_
   ·simp only [zL, slR, slC, wClm]; simp (maxSteps := 4000000) only [go_sem, seval]
    all_goals first | rfl | exact ⟨rfl, rfl⟩ | trace_state
   ·intro k hk
    have hle := wClm_le (l := l) (t := t) k
    rcases Nat.lt_or_eq_of_le hk with hk1 | hk1
    ·have hc := hco ((t.reports.length : Int) + k)
     have hws : wClm l t (k + 1) = if ((t.reports.length : Int) + k) ∈ l then wClm l t k else wClm l t k ++ [t.claims.getD k default] := rfl
     rw [hws]
     clear hws
     by_cases hm : ((t.reports.length : Int) + k) ∈ l
     ·rw [if_pos hm]
      rw [decide_eq_true hm] at hc
      generalize wClm l t k = G at *
      simp only [zL, slR, slC]; simp (maxSteps := 4000000) only [go_sem, seval]
      (repeat' (first
 | ((exfalso; omega))
 | ((omega))
 | refine zC ?_
 | refine kt ?_
 | refine And.intro ?_ ?_
 | ((first | refine awp_stp rfl ?_ | refine awp_draw (by kernel_rfl) (by kernel_rfl) ?_ | refine Imp.le2 ?_ | refine callK_of (hc) ?_ | refine go_split (fun _h => ?_) (fun _h => ?_)) <;> try simp (maxSteps := 4000000) only [go_sem, seval])
 | intro _h
 | refine zA ?_
 | refine zB ?_
 | refine zF ?_ ?_
 | (show zE _ _ = true; kernel_rfl)
 | (show zD _ _ = true; kernel_rfl)
 | (omega)))
      all_goals first | rfl | exact ⟨rfl, rfl⟩ | trace_state
     ·rw [if_neg hm]
      rw [decide_eq_false hm] at hc
      have hsn := recs_one (enc := zV) (l := wClm l t k) (x := t.claims.getD k default)
      simp only [zV] at hsn
      generalize wClm l t k = G at *
      simp only [zL, slR, slC, List.length_append, List.length_singleton]; simp (maxSteps := 4000000) only [go_sem, seval, List.length_append, List.length_singleton]
      (repeat' (first
 | ((exfalso; omega))
 | ((omega))
 | refine zC ?_
 | refine kt ?_
 | refine And.intro ?_ ?_
 | ((first | refine awp_stp rfl ?_ | refine awp_draw (by kernel_rfl) (by kernel_rfl) ?_ | refine Imp.le2 ?_ | refine callK_of (hc) ?_ | refine go_split (fun _h => ?_) (fun _h => ?_)) <;> try simp (maxSteps := 4000000) only [go_sem, seval, hsn, List.length_append, List.length_singleton])
 | intro _h
 | refine zA ?_
 | refine zB ?_
 | refine zF ?_ ?_
 | (show zE _ _ = true; kernel_rfl)
 | (show zD _ _ = true; kernel_rfl)
 | (omega)))
      all_goals first | rfl | exact ⟨rfl, rfl⟩ | trace_state
    ·subst hk1
     generalize wClm l t t.claims.length = G at *
     simp only [zL, slR, slC]; simp (maxSteps := 4000000) only [go_sem, seval]
     (repeat' (first
 | ((exfalso; omega))
 | ((omega))
 | refine zC ?_
 | refine kt ?_
 | refine And.intro ?_ ?_
 | ((first | refine awp_stp rfl ?_ | refine awp_draw (by kernel_rfl) (by kernel_rfl) ?_ | refine Imp.le2 ?_ | refine go_split (fun _h => ?_) (fun _h => ?_)) <;> try simp (maxSteps := 4000000) only [go_sem, seval, htk])
 | intro _h
 | refine zA ?_
 | refine zB ?_
 | refine zF ?_ ?_
 | (show zE _ _ = true; kernel_rfl)
 | (show zD _ _ = true; kernel_rfl)
 | (omega)))
     all_goals trace_state
end Go.Am
namespace Go.Am
open Go.RowKit Go.Proofs
attribute [local irreducible] AWP zO Kt goK CallK zT zR SemF SemY Imp
set_option maxRecDepth 4000
set_option linter.unusedSimpArgs false
set_option linter.unusedVariables false
set_option maxHeartbeats 1600000
end Go.Am
namespace Go.Am
open Go.RowKit Go.Proofs
attribute [local irreducible] AWP zO Kt goK CallK zT zR SemF SemY Imp
set_option maxRecDepth 4000
set_option linter.unusedSimpArgs false
set_option linter.unusedVariables false
set_option maxHeartbeats 1600000
def runUp (n : Int) : Int → List Int → Nat × Int
 | v, [] => (0, v)
 | v, x :: xs => if v + 1 ≤ x ∧ x ≤ n - 1 then ((runUp n x xs).1 + 1, (runUp n x xs).2) else (0, x)
def nSt (t : Ann) : Int := (t.reports.length : Int) + t.claims.length
def L0 (v : Int) : Option ABlk := some (.cells 3 1 0 [.int .i64 v])
def A1 (t : Ann) : Option ABlk := some (.cells 35 1 0 (zL t))
def R2 : Option ABlk := some (.cells 119 1 0 [.fn (.func 66) [] [.ptr 0 0 0, .ptr 1 0 0]])
theorem rise_c (t : Ann) (v x : Int) (ht : annOK t) (hv : -1 ≤ v ∧ v ≤ 2000000) : SemF Try.prog 66 [.int .i64 x, .ptr 0 0 0, .ptr 1 0 0] [L0 v, A1 t] (.bool (decide (v + 1 ≤ x ∧ x ≤ nSt t - 1))) [L0 x, A1 t] := by
 have hs := stats_c t ht
 obtain ⟨h1, h2⟩ := ht
 unfold nSt
 simp only [L0, A1, zL, slR, slC] at hs ⊢
 (refine zH (ys := [.bool (decide (v + 1 ≤ x ∧ x ≤ (t.reports.length : Int) + t.claims.length - 1))]) (fun w args => Try.call66 ..) Try.func66 rfl (fun w0 m0 wz => ?_); simp only [Try.ntmps66, Try.results66, zN, zP, zU, zV, slR, slC, zL, sl, List.toList_toArray, List.cons_append, List.nil_append, List.length_cons, List.length_nil, Nat.reduceAdd, Nat.reduceSub])
 (repeat' (first
 | refine zC ?_
 | refine kt ?_
 | refine And.intro ?_ ?_
 | ((first | refine awp_stp rfl ?_ | refine awp_draw (by kernel_rfl) (by kernel_rfl) ?_ | refine Imp.le2 ?_ | refine callK_of (hs) ?_ | refine callK_of (within_c _ _ _) ?_ | refine go_split (fun _h => ?_) (fun _h => ?_)) <;> try simp (maxSteps := 4000000) only [go_sem, seval])
 | intro _h
 | refine zA ?_
 | refine zB ?_
 | refine zF ?_ ?_
 | (show zE _ _ = true; kernel_rfl)
 | (show zD _ _ = true; kernel_rfl)
 | (omega)))
 all_goals first | exact (decide_eq_true ‹_›).symm | exact (decide_eq_false ‹_›).symm | trace_state
theorem rise1_c (t : Ann) (v x : Int) (ht : annOK t) (hv : -1 ≤ v ∧ v ≤ 2000000) : SemF Try.prog 97 [.int .i64 x, .ptr 2 0 0] [L0 v, A1 t, R2] (.bool (!decide (v + 1 ≤ x ∧ x ≤ nSt t - 1))) [L0 x, A1 t, R2] := by
 have h1 := rise_c t v x ht hv
 simp only [L0, A1, R2, zL, slR, slC] at h1 ⊢
 generalize decide (v + 1 ≤ x ∧ x ≤ nSt t - 1) = q at *
 (refine zH (ys := [.bool (!q)]) (fun w args => Try.call97 ..) Try.func97 rfl (fun w0 m0 wz => ?_); simp only [Try.ntmps97, Try.results97, zN, zP, zU, zV, slR, slC, zL, sl, List.toList_toArray, List.cons_append, List.nil_append, List.length_cons, List.length_nil, Nat.reduceAdd, Nat.reduceSub])
 (repeat' (first
 | (refine zJ 2 rfl ?_; simp (maxSteps := 4000000) only [go_sem, seval, List.take_succ_cons, List.take_zero]; (repeat refine And.intro (by omega) ?_); refine zQ (h1) [0, 1] rfl ?_ ?_ rfl ?_ <;> try simp (maxSteps := 4000000) only [go_sem, seval, Nat.lt_irrefl] <;> try decide)
 | refine zC ?_
 | refine kt ?_
 | refine And.intro ?_ ?_
 | ((first | refine awp_stp rfl ?_ | refine awp_draw (by kernel_rfl) (by kernel_rfl) ?_ | refine Imp.le2 ?_ | refine go_split (fun _h => ?_) (fun _h => ?_)) <;> try simp (maxSteps := 4000000) only [go_sem, seval])
 | intro _h
 | refine zA ?_
 | refine zB ?_
 | refine zF ?_ ?_
 | (show zE _ _ = true; kernel_rfl)
 | (show zD _ _ = true; kernel_rfl)
 | (omega))) <;> simp [*]
theorem riseI_c (t : Ann) (v : Int) (l : List Int) (ht : annOK t) (hv : -1 ≤ v ∧ v ≤ 2000000) (hl : l.length ≤ 1000000) : SemF Try.prog 111 [sl l, .fn (.func 97) [] [.ptr 2 0 0]] [L0 v, A1 t, R2] (.int .i64 (if (runUp (nSt t) v l).1 = l.length then -1 else (runUp (nSt t) v l).1)) [L0 (runUp (nSt t) v l).2, A1 t, R2] := by
 have hq := fun v i hv => rise1_c t v (l.getD i 0) ht hv
 have hd : ∀ i, i < l.length → l.drop i = l.getD i 0 :: l.drop (i + 1) := fun i hi => by
  rw [List.drop_eq_getElem_cons hi]; simp [List.getD_eq_getElem?_getD, hi]
 obtain ⟨R, hR⟩ : ∃ R, runUp (nSt t) v l = R := ⟨_, rfl⟩
 rw [hR]
 simp only [L0, A1, R2, zL, slR, slC] at hq ⊢
 (refine zH (ys := [.int .i64 (if R.1 = l.length then -1 else R.1)]) (fun w args => Try.call111 ..) Try.func111 rfl (fun w0 m0 wz => ?_); simp only [Try.ntmps111, Try.results111, zN, zP, zU, zV, slR, slC, zL, sl, List.toList_toArray, List.cons_append, List.nil_append, List.length_cons, List.length_nil, Nat.reduceAdd, Nat.reduceSub])
 (repeat' (first
 | refine zC ?_
 | refine kt ?_
 | refine And.intro ?_ ?_
 | ((first | refine awp_stp rfl ?_ | refine awp_draw (by kernel_rfl) (by kernel_rfl) ?_ | refine Imp.le2 ?_ | refine go_split (fun _h => ?_) (fun _h => ?_)) <;> try simp (maxSteps := 4000000) only [go_sem, seval])
 | intro _h
 | refine zA ?_
 | refine zB ?_
 | refine zF ?_ ?_
 | (show zE _ _ = true; kernel_rfl)
 | (show zD _ _ = true; kernel_rfl)
 | (omega)))
 refine awp_loopJ (fun y : Nat × Int => y.1 ≤ l.length ∧ (-1 ≤ y.2 ∧ y.2 ≤ 2000000) ∧ R = (y.1 + (runUp (nSt t) y.2 (l.drop y.1)).1, (runUp (nSt t) y.2 (l.drop y.1)).2)) (fun y => ⟨mkT 19 [(0, sl l), (1, .fn (.func 97) [] [.ptr 2 0 0]), (6, sl l), (7, .int .i64 l.length), (8, .int .i64 y.1)], [L0 y.2, A1 t, R2], []⟩) (fun y => l.length - y.1) (0, v) ⟨Nat.zero_le _, hv, by simp [hR]⟩ (.le2 ?_) ?_
 ·simp only [L0, A1, R2, zL, slR, slC]; simp (maxSteps := 4000000) only [go_sem, seval]
  all_goals first | rfl | exact ⟨rfl, rfl⟩ | exact ⟨rfl, rfl, rfl⟩
 ·rintro ⟨i, v⟩ ⟨hi, hv, hj⟩
  clear hR
  simp only at hi hv hj
  rcases Nat.lt_or_eq_of_le hi with hi1 | hi1
  ·have hqi := hq v i hv
   rw [hd i hi1] at hj
   simp only [runUp] at hj
   obtain ⟨q, hqe⟩ : ∃ q, decide (v + 1 ≤ l.getD i 0 ∧ l.getD i 0 ≤ nSt t - 1) = q := ⟨_, rfl⟩
   have hn : nSt t ≤ 2000000 := by unfold nSt; have := ht.1; have := ht.2; omega
   rw [hqe] at hqi
   cases q with
   | true =>
     rw [if_pos (of_decide_eq_true hqe)] at hj
     simp only [L0, A1, R2, zL, slR, slC]; simp (maxSteps := 4000000) only [go_sem, seval]
     (repeat' (first
 | (refine zJ 5 rfl ?_; simp (maxSteps := 4000000) only [go_sem, seval, List.take_succ_cons, List.take_zero]; (repeat refine And.intro (by omega) ?_); refine zQ (hqi) [0, 1, 2] rfl ?_ ?_ rfl ?_ <;> try simp (maxSteps := 4000000) only [go_sem, seval, Nat.lt_irrefl] <;> try decide)
 | ((omega))
 | ((exfalso; omega))
 | refine zC ?_
 | refine kt ?_
 | refine And.intro ?_ ?_
 | ((first | refine awp_stp rfl ?_ | refine awp_draw (by kernel_rfl) (by kernel_rfl) ?_ | refine Imp.le2 ?_ | refine go_split (fun _h => ?_) (fun _h => ?_)) <;> try simp (maxSteps := 4000000) only [go_sem, seval])
 | intro _h
 | refine zA ?_
 | refine zB ?_
 | refine zF ?_ ?_
 | (show zE _ _ = true; kernel_rfl)
 | (show zD _ _ = true; kernel_rfl)
 | (omega)))
     refine ⟨(i + 1, l.getD i 0), ⟨by show i + 1 ≤ l.length; omega, ?_, ?_⟩, by show l.length - (i + 1) < l.length - i; omega, .le2 ?_⟩
     ·have := of_decide_eq_true hqe
      show -1 ≤ l.getD i 0 ∧ l.getD i 0 ≤ 2000000
      omega
     ·rw [hj]
      simp only [Prod.mk.injEq, and_true]
      omega
     ·simp (maxSteps := 4000000) only [go_sem, seval]
      all_goals first | rfl | exact ⟨rfl, rfl⟩ | trace_state
   | false =>
     rw [if_neg (of_decide_eq_false hqe)] at hj
     subst hj
     simp only [L0, A1, R2, zL, slR, slC]; simp (maxSteps := 4000000) only [go_sem, seval]
     (repeat' (first
 | (refine zJ 5 rfl ?_; simp (maxSteps := 4000000) only [go_sem, seval, List.take_succ_cons, List.take_zero]; (repeat refine And.intro (by omega) ?_); refine zQ (hqi) [0, 1, 2] rfl ?_ ?_ rfl ?_ <;> try simp (maxSteps := 4000000) only [go_sem, seval, Nat.lt_irrefl] <;> try decide)
 | ((omega))
 | ((exfalso; omega))
 | refine zC ?_
 | refine kt ?_
 | refine And.intro ?_ ?_
 | ((first | refine awp_stp rfl ?_ | refine awp_draw (by kernel_rfl) (by kernel_rfl) ?_ | refine Imp.le2 ?_ | refine go_split (fun _h => ?_) (fun _h => ?_)) <;> try simp (maxSteps := 4000000) only [go_sem, seval])
 | intro _h
 | refine zA ?_
 | refine zB ?_
 | refine zF ?_ ?_
 | (show zE _ _ = true; kernel_rfl)
 | (show zD _ _ = true; kernel_rfl)
 | (omega)))
     all_goals first | (rw [if_neg (by omega)]; rfl) | trace_state
  ·subst hi1
   simp only [List.drop_length, runUp] at hj
   subst hj
   simp only [L0, A1, R2, zL, slR, slC]; simp (maxSteps := 4000000) only [go_sem, seval]
   (repeat' (first
 | ((exfalso; omega))
 | refine zC ?_
 | refine kt ?_
 | refine And.intro ?_ ?_
 | ((first | refine awp_stp rfl ?_ | refine awp_draw (by kernel_rfl) (by kernel_rfl) ?_ | refine Imp.le2 ?_ | refine go_split (fun _h => ?_) (fun _h => ?_)) <;> try simp (maxSteps := 4000000) only [go_sem, seval])
 | intro _h
 | refine zA ?_
 | refine zB ?_
 | refine zF ?_ ?_
 | (show zE _ _ = true; kernel_rfl)
 | (show zD _ _ = true; kernel_rfl)
 | (omega)))
def risesB (t : Ann) (v : Int) (l : List Int) : Bool := decide ((runUp (nSt t) v l).1 = l.length)
theorem runUp_le {n : Int} : ∀ {l : List Int} {v : Int}, (runUp n v l).1 ≤ l.length
 | [], _ => Nat.le_refl _
 | x :: xs, v => by
   simp only [runUp]
   split
   ·have := runUp_le (n := n) (l := xs) (v := x); simp; omega
   ·simp
theorem riseH_c (t : Ann) (v : Int) (l : List Int) (ht : annOK t) (hv : -1 ≤ v ∧ v ≤ 2000000) (hl : l.length ≤ 1000000) : SemF Try.prog 96 [sl l, .fn (.func 97) [] [.ptr 2 0 0]] [L0 v, A1 t, R2] (.bool (!risesB t v l)) [L0 (runUp (nSt t) v l).2, A1 t, R2] := by
 have h := riseI_c t v l ht hv hl
 have hle := runUp_le (n := nSt t) (l := l) (v := v)
 have he : decide (0 ≤ (if (runUp (nSt t) v l).1 = l.length then (-1 : Int) else (runUp (nSt t) v l).1)) = !risesB t v l := by
  unfold risesB
  by_cases hc : (runUp (nSt t) v l).1 = l.length
  ·rw [if_pos hc, decide_eq_true hc]; rfl
  ·rw [if_neg hc, decide_eq_false hc]; simp
 rw [← he]
 clear he
 generalize (if (runUp (nSt t) v l).1 = l.length then (-1 : Int) else (runUp (nSt t) v l).1) = r at *
 simp only [L0, A1, R2, zL, slR, slC, sl] at h ⊢
 (refine zH (ys := [.bool (decide (0 ≤ r))]) (fun w args => Try.call96 ..) Try.func96 rfl (fun w0 m0 wz => ?_); simp only [Try.ntmps96, Try.results96, zN, zP, zU, zV, slR, slC, zL, sl, List.toList_toArray, List.cons_append, List.nil_append, List.length_cons, List.length_nil, Nat.reduceAdd, Nat.reduceSub])
 (repeat' (first
 | (refine zJ 2 rfl ?_; simp (maxSteps := 4000000) only [go_sem, seval, List.take_succ_cons, List.take_zero]; (repeat refine And.intro (by omega) ?_); refine zQ (h) [0, 1, 2] rfl ?_ ?_ rfl ?_ <;> try simp (maxSteps := 4000000) only [go_sem, seval, Nat.lt_irrefl] <;> try decide)
 | refine zC ?_
 | refine kt ?_
 | refine And.intro ?_ ?_
 | ((first | refine awp_stp rfl ?_ | refine awp_draw (by kernel_rfl) (by kernel_rfl) ?_ | refine Imp.le2 ?_ | refine go_split (fun _h => ?_) (fun _h => ?_)) <;> try simp (maxSteps := 4000000) only [go_sem, seval])
 | intro _h
 | refine zA ?_
 | refine zB ?_
 | refine zF ?_ ?_
 | (show zE _ _ = true; kernel_rfl)
 | (show zD _ _ = true; kernel_rfl)
 | (omega))) <;> simp [*]
theorem riseA_c (t : Ann) (v : Int) (l : List Int) (ht : annOK t) (hv : -1 ≤ v ∧ v ≤ 2000000) (hl : l.length ≤ 1000000) : SemF Try.prog 68 [sl l, .fn (.func 66) [] [.ptr 0 0 0, .ptr 1 0 0]] [L0 v, A1 t] (.bool (risesB t v l)) [L0 (runUp (nSt t) v l).2, A1 t] := by
 have h := riseH_c t v l ht hv hl
 generalize risesB t v l = r at *
 simp only [L0, A1, R2, zL, slR, slC, sl] at h ⊢
 (refine zH (ys := [.bool r]) (fun w args => Try.call68 ..) Try.func68 rfl (fun w0 m0 wz => ?_); simp only [Try.ntmps68, Try.results68, zN, zP, zU, zV, slR, slC, zL, sl, List.toList_toArray, List.cons_append, List.nil_append, List.length_cons, List.length_nil, Nat.reduceAdd, Nat.reduceSub])
 (repeat' (first
 | (refine zJ 2 rfl ?_; simp (maxSteps := 4000000) only [go_sem, seval, List.take_succ_cons, List.take_zero]; (repeat refine And.intro (by omega) ?_); refine zQ (h) [0, 1, 2] rfl ?_ ?_ rfl ?_ <;> try simp (maxSteps := 4000000) only [go_sem, seval, Nat.lt_irrefl] <;> try decide)
 | refine zC ?_
 | refine kt ?_
 | refine And.intro ?_ ?_
 | ((first | refine awp_stp rfl ?_ | refine awp_draw (by kernel_rfl) (by kernel_rfl) ?_ | refine Imp.le2 ?_ | refine go_split (fun _h => ?_) (fun _h => ?_)) <;> try simp (maxSteps := 4000000) only [go_sem, seval])
 | intro _h
 | refine zA ?_
 | refine zB ?_
 | refine zF ?_ ?_
 | (show zE _ _ = true; kernel_rfl)
 | (show zD _ _ = true; kernel_rfl)
 | (omega)))
 all_goals first | (rw [Bool.not_not] at _h; exact _h.symm) | trace_state
def wE (t : Ann) (l : List Int) : Int := if faultA t = 0 then (if risesB t (-1) l then 0 else 2) else faultA t
def zAnn : List AV := [.nils, .nils, .int .i64 0]
def wV (t : Ann) (l : List Int) : AV := if wE t l = 0 then .agg (zL (withA t l)) else .agg zAnn
theorem Without_c (t : Ann) (l : List Int) (ht : annOK t) (hl : l.length ≤ 1000000) : zO Try.prog 37 [.agg (zL t), sl l] (.tup [wV t l, .int .i64 (wE t l)]) := by
 have hch := check_c t ht
 have h := riseA_c t (-1) l ht (by omega) hl
 have hw := without_c t l ht hl
 unfold wV wE
 generalize (runUp (nSt t) (-1) l).2 = v2 at *
 by_cases h0 : faultA t = 0
 ·rw [if_pos h0]
  rw [h0] at hch
  obtain ⟨W, hW⟩ : ∃ W, withA t l = W := ⟨_, rfl⟩
  rw [hW] at hw ⊢
  cases hr : risesB t (-1) l with
  | true =>
    rw [hr] at h
    rw [if_pos rfl, if_pos rfl]
    simp only [L0, A1, zL, slR, slC, zAnn, sl] at h hch hw ⊢
    (refine zG (fun w args => Try.call37 ..) Try.func37 rfl (fun w0 m0 wz => ?_); simp only [Try.ntmps37, Try.results37, zN, zP, zU, zV, slR, slC, zL, sl, List.toList_toArray, List.cons_append, List.nil_append, List.length_cons, List.length_nil, Nat.reduceAdd, Nat.reduceSub])
    (repeat' (first
 | (refine zJ 2 rfl ?_; simp (maxSteps := 4000000) only [go_sem, seval, List.take_succ_cons, List.take_zero]; (repeat refine And.intro (by omega) ?_); refine zQ (h) [2, 0] rfl ?_ ?_ rfl ?_ <;> try simp (maxSteps := 4000000) only [go_sem, seval, Nat.lt_irrefl] <;> try decide)
 | refine zC ?_
 | refine kt ?_
 | refine And.intro ?_ ?_
 | ((first | refine awp_stp rfl ?_ | refine awp_draw (by kernel_rfl) (by kernel_rfl) ?_ | refine Imp.le2 ?_ | refine callK_of (hch) ?_ | refine callK_of (hw) ?_ | refine go_split (fun _h => ?_) (fun _h => ?_)) <;> try simp (maxSteps := 4000000) only [go_sem, seval])
 | intro _h
 | refine zA ?_
 | refine zB ?_
 | refine zF ?_ ?_
 | (show zE _ _ = true; kernel_rfl)
 | (show zD _ _ = true; kernel_rfl)
 | (omega)))
    all_goals first | exact (rfl : AV.agg _ = AV.agg _) |  (exfalso; simp at _h; done) | trace_state
  | false =>
    rw [hr] at h
    rw [if_neg (by simp), if_neg (by simp)]
    simp only [L0, A1, zL, slR, slC, zAnn, sl] at h hch hw ⊢
    (refine zG (fun w args => Try.call37 ..) Try.func37 rfl (fun w0 m0 wz => ?_); simp only [Try.ntmps37, Try.results37, zN, zP, zU, zV, slR, slC, zL, sl, List.toList_toArray, List.cons_append, List.nil_append, List.length_cons, List.length_nil, Nat.reduceAdd, Nat.reduceSub])
    (repeat' (first
 | (refine zJ 2 rfl ?_; simp (maxSteps := 4000000) only [go_sem, seval, List.take_succ_cons, List.take_zero]; (repeat refine And.intro (by omega) ?_); refine zQ (h) [2, 0] rfl ?_ ?_ rfl ?_ <;> try simp (maxSteps := 4000000) only [go_sem, seval, Nat.lt_irrefl] <;> try decide)
 | refine zC ?_
 | refine kt ?_
 | refine And.intro ?_ ?_
 | ((first | refine awp_stp rfl ?_ | refine awp_draw (by kernel_rfl) (by kernel_rfl) ?_ | refine Imp.le2 ?_ | refine callK_of (hch) ?_ | refine callK_of (hw) ?_ | refine go_split (fun _h => ?_) (fun _h => ?_)) <;> try simp (maxSteps := 4000000) only [go_sem, seval])
 | intro _h
 | refine zA ?_
 | refine zB ?_
 | refine zF ?_ ?_
 | (show zE _ _ = true; kernel_rfl)
 | (show zD _ _ = true; kernel_rfl)
 | (omega)))
    all_goals first | exact (rfl : AV.agg _ = AV.agg _) |  (exfalso; simp at _h; done) | trace_state
 ·rw [if_neg h0, if_neg h0]
  generalize faultA t = e at *
  simp only [L0, A1, zL, slR, slC, zAnn, sl] at h hch hw ⊢
  (refine zG (fun w args => Try.call37 ..) Try.func37 rfl (fun w0 m0 wz => ?_); simp only [Try.ntmps37, Try.results37, zN, zP, zU, zV, slR, slC, zL, sl, List.toList_toArray, List.cons_append, List.nil_append, List.length_cons, List.length_nil, Nat.reduceAdd, Nat.reduceSub])
  (repeat' (first
 | ((omega))
 | ((exfalso; omega))
 | refine zC ?_
 | refine kt ?_
 | refine And.intro ?_ ?_
 | ((first | refine awp_stp rfl ?_ | refine awp_draw (by kernel_rfl) (by kernel_rfl) ?_ | refine Imp.le2 ?_ | refine callK_of (hch) ?_ | refine go_split (fun _h => ?_) (fun _h => ?_)) <;> try simp (maxSteps := 4000000) only [go_sem, seval])
 | intro _h
 | refine zA ?_
 | refine zB ?_
 | refine zF ?_ ?_
 | (show zE _ _ = true; kernel_rfl)
 | (show zD _ _ = true; kernel_rfl)
 | (omega)))
  all_goals first | exact (rfl : AV.agg _ = AV.agg _) | exact AV.noConfusion ‹AV.agg _ = AV.junk› | trace_state
end Go.Am
namespace Go.Am
open Go.RowKit Go.Proofs
attribute [local irreducible] AWP zO Kt goK CallK zT zR SemF SemY Imp
set_option maxRecDepth 4000
set_option linter.unusedSimpArgs false
set_option linter.unusedVariables false
set_option maxHeartbeats 1600000
end Go.Am
namespace Go.Am
open Go.RowKit
set_option linter.unusedSimpArgs false
set_option linter.unusedVariables false
theorem semF_lend {P : Program} {f : FuncId} {ars : List AV} {t : TypeId} {sz g : Nat} {xs : List AV} {r : AV} (h : zO P f (fzl (fz2 0 g xs) ars) r) (hp : ∀ y ∈ xs, zK y = true) (hpu : ∀ x ∈ fzl (fz2 0 g xs) ars, pureA x = true)
 (hr : ∀ (ok ok' : Nat → Prop) (w : World) (v : Value), PRep ok w r v → PRep ok' w r v) :
 SemF P f ars [some (.cells t sz g xs)] r [some (.cells t sz g xs)] := by
 refine ⟨h.1, fun {B} w0 m w vs hg hlen hrep => ?_⟩
 have hz : ∀ c, hget [none] c = none := fun c => by cases c <;> rfl
 have z : FzH (hget [some (.cells t sz g xs)]) (hget [none]) 0 g xs := ⟨rfl, fun c hc => by
  cases c with
  | zero => exact absurd rfl hc
  | succ c => rfl⟩
 have hg1 := good_frz hg z rfl hp
 have hm1 : ∀ b, killM m (notb 0) b = none := fun b => by
  cases hb : killM m (notb 0) b with
  | none => rfl
  | some l =>
    obtain ⟨k, hk⟩ := hg1.supp b l hb
    rw [hz] at hk; cases hk
 have har : ∀ j (a : j < (fzl (fz2 0 g xs) ars).length) (b : j < vs.length), PRep (Ok (killM m (notb 0)) w) w (fzl (fz2 0 g xs) ars)[j] vs[j] := fun j a b => by
  have a' : j < ars.length := by rw [fzl_len] at a; exact a
  have h1 := rep_fz2 hg z rfl hp (hrep j a' b)
  rw [← fzl_get (fz2 0 g xs) ars j a] at h1
  exact pure_prep h1 (hpu _ (List.getElem_mem _))
 refine (h.2 w vs (Ok (killM m (notb 0)) w) (fun c hc => hc.1) (by rw [fzl_len]; exact hlen) har).mono ?_
 rintro e w' ⟨v, rfl, hv, hb⟩
 obtain ⟨g1, e1⟩ := hg1.garbage hb
 have hold : ∀ c, c < w.heap.size → w'.heap[c]? = w.heap[c]? := fun c hc => (e1.ok c ⟨hc, fun b l hl => by rw [hm1] at hl; cases hl⟩).1
 have only : ∀ b k, hget [some (ABlk.cells t sz g xs)] b = some k → k = .cells t sz g xs := fun b k hk => by
  cases b with
  | zero => exact (Option.some.inj hk).symm
  | succ b => cases hk
 have e2 : Ext (hget [some (.cells t sz g xs)]) m w (hget [some (.cells t sz g xs)]) m w' := by
  refine ⟨fun c hc => ⟨hold c hc.1, Nat.lt_of_lt_of_le hc.1 hb.size, hc.2⟩, fun b t' sz' g' ys hk => ⟨g', ys, hk, Nat.le_refl _, fun _ => rfl⟩, fun b es hk => ?_, fun b o hk => ?_, fun b st pend fn T ps asg body d hk => ?_⟩
  ·cases only b _ hk
  ·cases only b _ hk
  ·cases only b _ hk
 refine ⟨v, m, rfl, ⟨g1.below, hg.base, hg.inj, hg.supp, fun b k hk => ?_, fun b st pend fn T ps asg body d hk => ?_, fun c hc => ?_⟩, e2, .pure (hr _ _ _ _ hv)⟩
 ·exact (hg.blk b k hk).ext e2 rfl (fun l hl => hold _ (hg.lt hl)) (fun st pend fn T ps asg body d he => by subst he; cases only b _ hk)
 ·cases only b _ hk
 ·rcases hc with ⟨b, l, hl, he⟩ | hc
  ·exact hg.fresh c (.inl ⟨b, l, hl, he⟩)
  ·exact hg.fresh c (.inr (Nat.le_trans hb.size hc))
end Go.Am
namespace Go.Am
open Go.RowKit Go.Proofs
attribute [local irreducible] AWP zO Kt goK CallK zT zR SemF SemY Imp
set_option maxRecDepth 4000
set_option linter.unusedSimpArgs false
set_option linter.unusedVariables false
set_option maxHeartbeats 1600000
theorem contains_o (l : List Int) (n : Int) (g k : Nat) (hk : k = l.length) (hl : l.length ≤ 1000000) : SemF Try.prog 98 [.osl 0 g 0 k, .int .i64 n] [some (.cells 3 1 g (zS l))] (.bool (decide (n ∈ l))) [some (.cells 3 1 g (zS l))] := by
 subst hk
 have e : fzl (fz2 0 g (zS l)) [.osl 0 g 0 l.length, .int .i64 n] = [sl l, .int .i64 n] := by
  simp [fzl, fz2, fz1, fz0, sl]
 refine semF_lend ?_ ?_ ?_ ?_
 ·rw [e]; exact contains_c l n hl
 ·intro y hy
  simp only [zS, List.mem_map] at hy
  obtain ⟨n, _, rfl⟩ := hy
  rfl
 ·rw [e]
  intro x hx
  simp only [List.mem_cons, List.not_mem_nil, or_false] at hx
  rcases hx with rfl | rfl <;> rfl
 ·intro ok ok' w v p
  cases p
  exact .bool _
end Go.Am
namespace Go.Am
open Go.RowKit Go.Proofs
attribute [local irreducible] AWP zO Kt goK CallK zT zR SemF SemY Imp
set_option maxRecDepth 4000
set_option linter.unusedSimpArgs false
set_option linter.unusedVariables false
set_option maxHeartbeats 1600000
theorem clone_o (l : List Int) (g k : Nat) (hk : k = l.length) (h0 : 0 < k) (hl : l.length ≤ 1000000) :
 SemF Try.prog 79 [.osl 0 g 0 k] [some (.cells 3 1 g (zS l))] (.psl false k (zS l)) [some (.cells 3 1 g (zS l))] := by
 have hlen : (zS l).length = k := by rw [ints_length, hk]
 have hw : window (zS l) 0 (k * 1) = zS l := by rw [Nat.mul_one, ← hlen]; simp [window]
 have hpi : ∀ y ∈ zS l, zK y = true := fun y hy => by
  simp only [zS, List.mem_map] at hy
  obtain ⟨n, _, rfl⟩ := hy
  rfl
 (refine zH (ys := [.psl false k (zS l)]) (fun w args => Try.call79 ..) Try.func79 rfl (fun w0 m0 wz => ?_); simp only [Try.ntmps79, Try.results79, zN, zP, zU, zV, slR, slC, zL, sl, List.toList_toArray, List.cons_append, List.nil_append, List.length_cons, List.length_nil, Nat.reduceAdd, Nat.reduceSub])
 (repeat' (first
 | ((refine awp_opN (id := 1) 1 rfl ⟨.bool false, [0], none⟩ ?_; simp (maxSteps := 4000000) only [go_sem, seval, List.take_succ_cons, List.take_zero]; refine ⟨rfl, sound_nil rfl tslice59 rfl rfl rfl (by omega), ?_⟩))
 | ((refine awp_opN (id := 3) 2 rfl ⟨.osl 1 0 0 k, [0], some (1, .cells 3 1 0 (zS l))⟩ ?_; simp (maxSteps := 4000000) only [go_sem, seval, List.take_succ_cons, List.take_zero]; refine ⟨rfl, sound_appo rfl rfl tslice59 tsz3 tbytes3 tzero3 rfl (by omega) rfl rfl rfl (by rw [hlen]; omega) (by omega) (by omega) (by omega) hw, ?_⟩; simp only [hseto, hset]; refine kt ?_; refine awp_frzC 1 rfl (by simp (maxSteps := 4000000) only [go_sem, seval]) [some (.cells 3 1 g (zS l))] rfl rfl rfl ?_; simp only [frz, fq_pure, fzB_c, fzB_km, fzB_im, fzO, fzH, fzHs, fzl, fz2, fz1, fz0, List.map_cons, List.map_nil, if_true, if_false, reduceIte, Nat.reduceEqDiff, Nat.reduceAdd, Nat.succ_ne_self, Nat.zero_ne_one, Nat.one_ne_zero, reduceCtorEq, and_self]))
 | refine zC ?_
 | refine kt ?_
 | refine And.intro ?_ ?_
 | ((first | refine awp_stp rfl ?_ | refine awp_draw (by kernel_rfl) (by kernel_rfl) ?_ | refine Imp.le2 ?_ | refine go_split (fun _h => ?_) (fun _h => ?_)) <;> try simp (maxSteps := 4000000) only [go_sem, seval])
 | intro _h
 | refine zA ?_
 | refine zB ?_
 | refine zF ?_ ?_
 | (show zE _ _ = true; kernel_rfl)
 | (show zD _ _ = true; kernel_rfl)
 | (omega)))
 all_goals trace_state
end Go.Am
namespace Go.Am
open Go.RowKit Go.Proofs
attribute [local irreducible] AWP zO Kt goK CallK zT zR SemF SemY Imp
set_option maxRecDepth 4000
set_option linter.unusedSimpArgs false
set_option linter.unusedVariables false
set_option maxHeartbeats 1600000
theorem without_o (t : Ann) (l : List Int) (g k0 : Nat) (ht : annOK t) (hk0 : k0 = l.length) (hl : l.length ≤ 1000000) : SemF Try.prog 69 [.agg (zL t), .osl 0 g 0 k0] [some (.cells 3 1 g (zS l))] (.agg (zL (withA t l))) [some (.cells 3 1 g (zS l))] := by
 obtain ⟨hb1, hb2⟩ := ht
 have hco := fun n => contains_o l n g k0 hk0 hl
 have htl : ∀ k, (tab k (wRpt l t)).length = k := fun k => tab_length
 (refine zH (ys := [.agg (zL (withA t l))]) (fun w args => Try.call69 ..) Try.func69 rfl (fun w0 m0 wz => ?_); simp only [Try.ntmps69, Try.results69, zN, zP, zU, zV, slR, slC, zL, sl, List.toList_toArray, List.cons_append, List.nil_append, List.length_cons, List.length_nil, Nat.reduceAdd, Nat.reduceSub])
 (repeat' (first
 | refine zC ?_
 | refine kt ?_
 | refine And.intro ?_ ?_
 | ((first | refine awp_stp rfl ?_ | refine awp_draw (by kernel_rfl) (by kernel_rfl) ?_ | refine Imp.le2 ?_ | refine callK_of (always_c) ?_ | refine go_split (fun _h => ?_) (fun _h => ?_)) <;> try simp (maxSteps := 4000000) only [go_sem, seval])
 | intro _h
 | refine zA ?_
 | refine zB ?_
 | refine zF ?_ ?_
 | (show zE _ _ = true; kernel_rfl)
 | (show zD _ _ = true; kernel_rfl)
 | (omega)))
 refine awp_adH 3 0 58 3 rfl rfl ?_
 simp only [adH, hget, hset, lset, List.length_cons, List.length_nil, Nat.reduceAdd]
 refine awp_adH 3 1 73 3 rfl rfl ?_
 simp only [adH, hget, hset, lset, List.length_cons, List.length_nil, Nat.reduceAdd]
 refine awp_loopN t.reports.length (fun k => ⟨mkT 57 [(1, .osl 0 g 0 k0), (2, .ptr 1 0 0), (4, .ptr 2 0 0), (5, .ptr 3 0 0), (14, slR t.reports), (15, .int .i64 t.reports.length), (16, .int .i64 k)], [some (.cells 3 1 g (zS l)), some (.cells 35 1 0 (zL t)), some (.cells 35 1 0 [.nils, .nils, .int .i64 0]), some (.cells 35 1 0 [.osl 4 k 0 k, .osl 5 0 0 0, .int .i64 t.rest]), some (.cells 58 3 k (recs zU (tab k (wRpt l t)))), some (.cells 73 3 0 [])], []⟩) (.le2 ?_) ?_
 ·simp only [zL, slR, slC]; simp (maxSteps := 4000000) only [go_sem, seval]
  rfl
 ·intro k hk
  rcases Nat.lt_or_eq_of_le hk with hk1 | hk1
  ·have htk := htl k
   have hsn := recs_one (enc := zU) (l := tab k (wRpt l t)) (x := wRpt l t k)
   rw [← tab_succ] at hsn
   have htk1 := htl (k + 1)
   have hc := hco k
   by_cases hm : (k : Int) ∈ l
   ·rw [decide_eq_true hm] at hc
    have hw : wRpt l t k = ⟨(t.reports.getD k default).slope, 0, 100000⟩ := if_pos hm
    rw [hw] at hsn
    simp only [zU] at hsn
    generalize tab (k + 1) (wRpt l t) = W1 at *
    generalize tab k (wRpt l t) = W at *
    simp only [zL, slR, slC]; simp (maxSteps := 4000000) only [go_sem, seval]
    (repeat' (first
 | (refine zJ 2 rfl ?_; simp (maxSteps := 4000000) only [go_sem, seval, List.take_succ_cons, List.take_zero, htk, hsn]; (repeat refine And.intro (by omega) ?_); refine zQ (hc) [0] rfl ?_ ?_ rfl ?_ <;> try simp (maxSteps := 4000000) only [go_sem, seval, Nat.lt_irrefl, htk, hsn] <;> try decide)
 | ((omega))
 | refine zC ?_
 | refine kt ?_
 | refine And.intro ?_ ?_
 | ((first | refine awp_stp rfl ?_ | refine awp_draw (by kernel_rfl) (by kernel_rfl) ?_ | refine Imp.le2 ?_ | refine callK_of (always_c) ?_ | refine go_split (fun _h => ?_) (fun _h => ?_)) <;> try simp (maxSteps := 4000000) only [go_sem, seval, htk, hsn])
 | intro _h
 | refine zA ?_
 | refine zB ?_
 | refine zF ?_ ?_
 | (show zE _ _ = true; kernel_rfl)
 | (show zD _ _ = true; kernel_rfl)
 | (omega)))
    all_goals trace_state
   ·rw [decide_eq_false hm] at hc
    have hw : wRpt l t k = t.reports.getD k default := if_neg hm
    rw [hw] at hsn
    simp only [zU] at hsn
    generalize tab (k + 1) (wRpt l t) = W1 at *
    generalize tab k (wRpt l t) = W at *
    simp only [zL, slR, slC]; simp (maxSteps := 4000000) only [go_sem, seval]
    (repeat' (first
 | (refine zJ 2 rfl ?_; simp (maxSteps := 4000000) only [go_sem, seval, List.take_succ_cons, List.take_zero, htk, hsn]; (repeat refine And.intro (by omega) ?_); refine zQ (hc) [0] rfl ?_ ?_ rfl ?_ <;> try simp (maxSteps := 4000000) only [go_sem, seval, Nat.lt_irrefl, htk, hsn] <;> try decide)
 | ((omega))
 | refine zC ?_
 | refine kt ?_
 | refine And.intro ?_ ?_
 | ((first | refine awp_stp rfl ?_ | refine awp_draw (by kernel_rfl) (by kernel_rfl) ?_ | refine Imp.le2 ?_ | refine callK_of (always_c) ?_ | refine go_split (fun _h => ?_) (fun _h => ?_)) <;> try simp (maxSteps := 4000000) only [go_sem, seval, htk, hsn])
 | intro _h
 | refine zA ?_
 | refine zB ?_
 | refine zF ?_ ?_
 | (show zE _ _ = true; kernel_rfl)
 | (show zD _ _ = true; kernel_rfl)
 | (omega)))
    all_goals trace_state
  ·subst hk1
   have htk := htl t.reports.length
   simp only [withA]
   generalize tab t.reports.length (wRpt l t) = W at *
   simp only [zL, slR, slC]; simp (maxSteps := 4000000) only [go_sem, seval]
   (repeat' (first
 | ((exfalso; omega))
 | refine zC ?_
 | refine kt ?_
 | refine And.intro ?_ ?_
 | ((first | refine awp_stp rfl ?_ | refine awp_draw (by kernel_rfl) (by kernel_rfl) ?_ | refine Imp.le2 ?_ | refine go_split (fun _h => ?_) (fun _h => ?_)) <;> try simp (maxSteps := 4000000) only [go_sem, seval, htk])
 | intro _h
 | refine zA ?_
 | refine zB ?_
 | refine zF ?_ ?_
 | (show zE _ _ = true; kernel_rfl)
 | (show zD _ _ = true; kernel_rfl)
 | (omega)))
   refine awp_loopN t.claims.length (fun k => ⟨mkT 57 [(1, .osl 0 g 0 k0), (2, .ptr 1 0 0), (4, .ptr 2 0 0), (5, .ptr 3 0 0), (34, slC t.claims), (35, .int .i64 t.claims.length), (36, .int .i64 k)], [some (.cells 3 1 g (zS l)), some (.cells 35 1 0 (zL t)), some (.cells 35 1 0 [.nils, .nils, .int .i64 0]), some (.cells 35 1 0 [.osl 4 t.reports.length 0 t.reports.length, .osl 5 (wClm l t k).length 0 (wClm l t k).length, .int .i64 t.rest]), some (.cells 58 3 t.reports.length (recs zU W)), some (.cells 73 3 (wClm l t k).length (recs zV (wClm l t k)))], []⟩) (.le2 ?_) ?_
   ·simp only [zL, slR, slC, wClm]; simp (maxSteps := 4000000) only [go_sem, seval]
    all_goals first | rfl | exact ⟨rfl, rfl⟩ | trace_state
   ·intro k hk
    have hle := wClm_le (l := l) (t := t) k
    rcases Nat.lt_or_eq_of_le hk with hk1 | hk1
    ·have hc := hco ((t.reports.length : Int) + k)
     have hws : wClm l t (k + 1) = if ((t.reports.length : Int) + k) ∈ l then wClm l t k else wClm l t k ++ [t.claims.getD k default] := rfl
     rw [hws]
     clear hws
     by_cases hm : ((t.reports.length : Int) + k) ∈ l
     ·rw [if_pos hm]
      rw [decide_eq_true hm] at hc
      generalize wClm l t k = G at *
      simp only [zL, slR, slC]; simp (maxSteps := 4000000) only [go_sem, seval]
      (repeat' (first
 | (refine zJ 6 rfl ?_; simp (maxSteps := 4000000) only [go_sem, seval, List.take_succ_cons, List.take_zero]; (repeat refine And.intro (by omega) ?_); refine zQ (hc) [0] rfl ?_ ?_ rfl ?_ <;> try simp (maxSteps := 4000000) only [go_sem, seval, Nat.lt_irrefl] <;> try decide)
 | ((exfalso; omega))
 | ((omega))
 | refine zC ?_
 | refine kt ?_
 | refine And.intro ?_ ?_
 | ((first | refine awp_stp rfl ?_ | refine awp_draw (by kernel_rfl) (by kernel_rfl) ?_ | refine Imp.le2 ?_ | refine go_split (fun _h => ?_) (fun _h => ?_)) <;> try simp (maxSteps := 4000000) only [go_sem, seval])
 | intro _h
 | refine zA ?_
 | refine zB ?_
 | refine zF ?_ ?_
 | (show zE _ _ = true; kernel_rfl)
 | (show zD _ _ = true; kernel_rfl)
 | (omega)))
      all_goals first | rfl | exact ⟨rfl, rfl⟩ | trace_state
     ·rw [if_neg hm]
      rw [decide_eq_false hm] at hc
      have hsn := recs_one (enc := zV) (l := wClm l t k) (x := t.claims.getD k default)
      simp only [zV] at hsn
      generalize wClm l t k = G at *
      simp only [zL, slR, slC, List.length_append, List.length_singleton]; simp (maxSteps := 4000000) only [go_sem, seval, List.length_append, List.length_singleton]
      (repeat' (first
 | (refine zJ 6 rfl ?_; simp (maxSteps := 4000000) only [go_sem, seval, List.take_succ_cons, List.take_zero, hsn, List.length_append, List.length_singleton]; (repeat refine And.intro (by omega) ?_); refine zQ (hc) [0] rfl ?_ ?_ rfl ?_ <;> try simp (maxSteps := 4000000) only [go_sem, seval, Nat.lt_irrefl, hsn, List.length_append, List.length_singleton] <;> try decide)
 | ((exfalso; omega))
 | ((omega))
 | refine zC ?_
 | refine kt ?_
 | refine And.intro ?_ ?_
 | ((first | refine awp_stp rfl ?_ | refine awp_draw (by kernel_rfl) (by kernel_rfl) ?_ | refine Imp.le2 ?_ | refine go_split (fun _h => ?_) (fun _h => ?_)) <;> try simp (maxSteps := 4000000) only [go_sem, seval, hsn, List.length_append, List.length_singleton])
 | intro _h
 | refine zA ?_
 | refine zB ?_
 | refine zF ?_ ?_
 | (show zE _ _ = true; kernel_rfl)
 | (show zD _ _ = true; kernel_rfl)
 | (omega)))
      all_goals first | rfl | exact ⟨rfl, rfl⟩ | trace_state
    ·subst hk1
     generalize wClm l t t.claims.length = G at *
     simp only [zL, slR, slC]; simp (maxSteps := 4000000) only [go_sem, seval]
     refine awp_frzC 5 rfl (by simp (maxSteps := 4000000) only [go_sem, seval]) [some (.cells 3 1 g (zS l))] rfl rfl rfl ?_
     simp only [frz, fq_pure, fzB_c, fzB_km, fzB_im, fzO, fzH, fzHs, fzl, fz2, fz1, fz0, List.map_cons, List.map_nil, if_true, if_false, reduceIte, Nat.reduceEqDiff, Nat.reduceAdd, Nat.succ_ne_self, Nat.zero_ne_one, Nat.one_ne_zero, reduceCtorEq, and_self]
     refine awp_frzC 4 rfl (by simp (maxSteps := 4000000) only [go_sem, seval]) [some (.cells 3 1 g (zS l))] rfl rfl rfl ?_
     simp only [frz, fq_pure, fzB_c, fzB_km, fzB_im, fzO, fzH, fzHs, fzl, fz2, fz1, fz0, List.map_cons, List.map_nil, if_true, if_false, reduceIte, Nat.reduceEqDiff, Nat.reduceAdd, Nat.succ_ne_self, Nat.zero_ne_one, Nat.one_ne_zero, reduceCtorEq, and_self]
     (repeat' (first
 | ((exfalso; omega))
 | ((omega))
 | refine zC ?_
 | refine kt ?_
 | refine And.intro ?_ ?_
 | ((first | refine awp_stp rfl ?_ | refine awp_draw (by kernel_rfl) (by kernel_rfl) ?_ | refine Imp.le2 ?_ | refine go_split (fun _h => ?_) (fun _h => ?_)) <;> try simp (maxSteps := 4000000) only [go_sem, seval, htk])
 | intro _h
 | refine zA ?_
 | refine zB ?_
 | refine zF ?_ ?_
 | (show zE _ _ = true; kernel_rfl)
 | (show zD _ _ = true; kernel_rfl)
 | (omega)))
     all_goals trace_state
end Go.Am
