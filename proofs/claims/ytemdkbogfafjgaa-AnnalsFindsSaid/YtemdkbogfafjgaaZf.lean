/- Parts UeJ, UfN, UgN, UhN, UjN, UkM, UlN, VxJ of the proof, one behind the other. No statement is proved here. -/
import Derived.Test.YtemdkbogfafjgaaZ6
import Derived.Test.YtemdkbogfafjgaaZ8
import Derived.Test.YtemdkbogfafjgaaZ4
import Derived.Test.YtemdkbogfafjgaaZ9
import Derived.Test.YtemdkbogfafjgaaZb
set_option linter.unusedVariables false -- all
set_option linter.unusedSimpArgs false
namespace Go.Am
open Go.RowKit Go.Proofs
attribute [local irreducible] AWP zP Kt goK CallK stepK zQ SemF SemY Imp
set_option maxRecDepth 4000
set_option linter.unusedSimpArgs false
set_option linter.unusedVariables false
set_option maxHeartbeats 1600000
theorem se_win {x y z u : AV} {S F : List Int} {n : Nat} (hS : S.length = 7) : window (x :: y :: z :: u :: (zO S ++ zO F)) 11 n = zO (F.take n) := by
  simp only [window, List.drop_succ_cons]
  rw [List.drop_append_of_le_length (by rw [ints_length]; omega), show (7 : Nat) = (zO S).length by rw [ints_length, hS], List.drop_length, List.nil_append]
  simp [zO]
theorem clone_c (t : Ann) (pl dy : List Int) (K : List (Key × Bool)) (ht : AnnOK t) (hd : PDOK pl dy) :
    SemF Try.prog 79 [.osl 0 0 11 t.reports.length] [some (.cells 115 1 0 (seG t 1 pl dy)), some (.map (kmC K))] (.psl false t.reports.length (zO (dy.take t.reports.length))) [some (.cells 115 1 0 (seG t 1 pl dy)), some (.map (kmC K))] := by
  have hr := ht.reports
  have h1 := hd.lpl
  have h2 := hd.ldy
  have hle := se_len h1 h2
  generalize hn : t.reports.length = n at *
  simp only [seG, slR, slC, hn]
  (refine zJ (ys := [.psl false n (zO (dy.take n))]) (fun w args => Try.call79 ..) Try.func79 rfl (fun w0 m0 wz => ?_); simp only [Try.ntmps79, Try.results79, zM, zN, zR, zS, slR, slC, zI, sl, List.toList_toArray, List.cons_append, List.nil_append, List.length_cons, List.length_nil, Nat.reduceAdd, Nat.reduceSub])
  obtain ⟨cs, hcs⟩ : ∃ cs, AV.psl false n (zU zR t.reports) :: AV.psl false t.claims.length (zU zS t.claims) :: AV.int .i64 t.rest :: AV.map 1 :: (zO pl ++ zO dy) = cs := ⟨_, rfl⟩
  have hw : window cs 11 (n * 1) = zO (dy.take n) := by rw [← hcs, Nat.mul_one]; exact se_win h1
  have hcl : cs.length = 18 := by rw [← hcs]; simp only [List.length_cons, hle]
  (repeat' (first
 | ((refine awp_opN (id := 1) 1 rfl ⟨.bool false, [0], none⟩ ?_; simp (maxSteps := 4000000) only [go_sem, seval, List.take_succ_cons, List.take_zero]; refine ⟨rfl, sound_nil rfl tslice59 rfl rfl rfl (by omega), ?_⟩))
 | ((refine awp_opN (id := 3) 2 rfl ⟨.osl 2 0 0 n, [0], some (2, .cells 3 1 0 (zO (dy.take n)))⟩ ?_; simp (maxSteps := 4000000) only [go_sem, seval, List.take_succ_cons, List.take_zero]; refine ⟨rfl, sound_appo rfl rfl tslice59 tsz3 tbytes3 tzero3 rfl (by omega) rfl rfl rfl (by rw [hcs, hcl]; omega) (by omega) (by omega) (by omega) (by rw [hcs]; exact hw), ?_⟩; simp only [hseto, hset]; refine kt ?_; refine awp_frzC 2 rfl (by simp (maxSteps := 4000000) only [go_sem, seval]) [some (.cells 115 1 0 (.psl false n (zU zR t.reports) :: .psl false t.claims.length (zU zS t.claims) :: .int .i64 t.rest :: .map 1 :: (zO pl ++ zO dy))), some (.map (kmC K))] rfl rfl rfl ?_; simp only [frz, fq_pure, fzB_c, fzB_km, fzB_im, fzO, fzH, fzHs, fzl, fz2, fz1, fz0, List.map_cons, List.map_nil, if_true, if_false, reduceIte, Nat.reduceEqDiff, Nat.reduceAdd, Nat.succ_ne_self, Nat.zero_ne_one, Nat.one_ne_zero, reduceCtorEq, and_self]))
 | (refine zC ?_)
 | (refine kt ?_)
 | (refine And.intro ?_ ?_)
 | ((first | refine awp_region ?_ | refine awp_draw (by kernel_rfl) (by kernel_rfl) ?_ | refine Imp.le2 ?_ | refine awp_label ?_ | refine awp_skip ?_ | refine awp_exit ?_ | refine awp_cd ?_ | refine awp_ret ?_ | refine go_split (fun _h => ?_) (fun _h => ?_)) <;> try simp (maxSteps := 4000000) only [go_sem, seval])
 | (intro _h)
 | (refine zA ?_)
 | (refine zB ?_)
 | (refine cond_b (fun _h => ?_) (fun _h => ?_))
 | (show zE _ _ = true; kernel_rfl)
 | (show zD _ _ = true; kernel_rfl)
 | (omega)))
  all_goals trace_state
def chC (v : Bool × List Int × List Int) : List AV := if v.1 = true then [.psl false v.2.1.length (zO v.2.1), .psl false v.2.2.length (zO v.2.2)] else [.nils, .nils]
section
variable {v : Bool × List Int × List Int}
theorem ch_live {p : Nat → Bool} : (chC v).all (live2 p) = true := by unfold chC; split <;> rfl
theorem ch_ren {σ : Nat → Nat} : renL σ (chC v) = chC v := by unfold chC; split <;> simp [renL, ren]
theorem ch_refs {p : Nat → Prop} : refsL p (chC v) = True := by unfold chC; split <;> simp [refsL, refs]
attribute [go_sem] ch_live ch_ren ch_refs
end
def fnS (t : Ann) (v : Bool × List Int × List Int) (pl dy : List Int) : (Bool × List Int × List Int) × Bool := ((true, slN t pl, tab t.reports.length fun i => dy.getD i 0), false)
def fnOK (v : Bool × List Int × List Int) : Prop := True
theorem fn_ok (t : Ann) : ∀ (v : Bool × List Int × List Int) (pl dy : List Int), fnOK v → PDOK pl dy → fnOK (fnS t v pl dy).1 := fun _ _ _ _ _ => trivial
theorem fn_c (t : Ann) (v : Bool × List Int × List Int) (pl dy : List Int) (K : List (Key × Bool)) (ht : AnnOK t) (hv : fnOK v) (hd : PDOK pl dy) :
    SemF Try.prog 95 [.ptr 3 0 0, .ptr 0 0 0, .ptr 1 0 0, .ptr 2 0 0] [some (.cells 35 1 0 (zI t)), some (.cells 61 1 0 (chC v)), some (.cells 4 1 0 [.bool v.1]), some (.cells 115 1 0 (seG t 4 pl dy)), some (.map (kmC K))] (.bool (fnS t v pl dy).2)
      [some (.cells 35 1 0 (zI t)), some (.cells 61 1 0 (chC (fnS t v pl dy).1)), some (.cells 4 1 0 [.bool (fnS t v pl dy).1.1]), some (.cells 115 1 0 (seG t 4 pl dy)), some (.map (kmC K))] := by
  have hr := ht.reports
  have h1 := hd.lpl
  have h2 := hd.ldy
  have hle := se_len h1 h2
  have hsl := slides_c t pl dy K ht hd
  have hcl := clone_c t pl dy K ht hd
  have hln : (slN t pl).length = t.reports.length := slK_length
  have hld : (dy.take t.reports.length).length = t.reports.length := by rw [List.length_take]; omega
  have htk : (tab t.reports.length fun i => dy.getD i 0) = dy.take t.reports.length := by
    apply List.ext_getElem
    · rw [hld, tab_length]
    · intro i a b
      have hi : i < dy.length := by rw [hld] at b; omega
      simp [tab, List.getD_eq_getElem?_getD, hi]
  simp only [fnS]
  rw [htk]
  rw [show chC (true, slN t pl, dy.take t.reports.length) = [.psl false (slN t pl).length (zO (slN t pl)), .psl false (dy.take t.reports.length).length (zO (dy.take t.reports.length))] from rfl]
  simp only [sli, hln, hld] at hsl ⊢
  generalize slN t pl = S at *
  obtain ⟨c1, c2, hcc⟩ : ∃ c1 c2, chC v = [c1, c2] := by
    unfold chC; split
    · exact ⟨_, _, rfl⟩
    · exact ⟨_, _, rfl⟩
  have hc12 : (c1 = .nils ∧ c2 = .nils) ∨ (∃ a b, c1 = .psl false a.length (zO a) ∧ c2 = .psl false b.length (zO b)) := by
    unfold chC at hcc
    split at hcc
    · simp only [List.cons.injEq, and_true] at hcc
      exact .inr ⟨v.2.1, v.2.2, hcc.1.symm, hcc.2.symm⟩
    · simp only [List.cons.injEq, and_true] at hcc
      exact .inl ⟨hcc.1.symm, hcc.2.symm⟩
  rw [hcc]
  simp only [seG, slR, slC, zI] at hsl hcl ⊢
  rcases hc12 with ⟨rfl, rfl⟩ | ⟨a, b, rfl, rfl⟩
  all_goals
    (refine zJ (ys := [.bool false]) (fun w args => Try.call95 ..) Try.func95 rfl (fun w0 m0 wz => ?_); simp only [Try.ntmps95, Try.results95, zM, zN, zR, zS, slR, slC, zI, sl, List.toList_toArray, List.cons_append, List.nil_append, List.length_cons, List.length_nil, Nat.reduceAdd, Nat.reduceSub])
    (repeat' (first
 | (refine zC ?_)
 | (refine kt ?_)
 | (refine And.intro ?_ ?_)
 | ((first | refine awp_region ?_ | refine Imp.le2 ?_ | refine awp_label ?_ | refine awp_skip ?_ | refine awp_exit ?_ | refine awp_cd ?_ | refine awp_ret ?_ | refine go_split (fun _h => ?_) (fun _h => ?_)) <;> try simp (maxSteps := 4000000) only [go_sem, seval])
 | (intro _h)
 | (refine zA ?_)
 | (refine zB ?_)
 | (refine cond_b (fun _h => ?_) (fun _h => ?_))
 | (show zE _ _ = true; kernel_rfl)
 | (show zD _ _ = true; kernel_rfl)
 | (omega)))
    (repeat refine zC ?_)
    refine awp_drawsE [(1, none, []), (6, some ⟨.osl 3 0 11 t.reports.length, [3], none⟩, []), (0, none, []), (0, some ⟨.junk, [], some (1, .cells 61 1 0 [.nils, .nils])⟩, [])] (by kernel_rfl) (by kernel_rfl) ?_
    simp (maxSteps := 4000000) only [go_sem, seval, se_own, se_op, se_nil, List.take_succ_cons, List.take_zero, List.drop_succ_cons, List.drop_zero]
    (refine own_go (hsl) [3, 4] rfl (by simp (maxSteps := 4000000) only [go_sem, seval]) (by simp (maxSteps := 4000000) only [go_sem, seval, Nat.lt_irrefl] <;> decide) (by simp (maxSteps := 4000000) only [go_sem, seval]) ?_; simp (maxSteps := 4000000) only [go_sem, seval]; refine And.intro (frm_of (by repeat (first | exact rfl | exact ⟨_, rfl⟩ | refine And.intro ?_ ?_))) ?_; try simp (maxSteps := 4000000) only [go_sem, seval, sg_cons, sg_nil, List.take_succ_cons, List.take_zero, List.drop_succ_cons, List.drop_zero])
    try simp (maxSteps := 4000000) only [go_sem, seval, se_own, se_op, se_nil, List.take_succ_cons, List.take_zero, List.drop_succ_cons, List.drop_zero]
    refine ⟨rfl, sound_arr rfl tarr113 tsz3 rfl rfl (by simp only [List.length_cons, hle]; omega) rfl (by omega) (by simp only [maxLen]; omega), ?_⟩
    try simp (maxSteps := 4000000) only [go_sem, seval, se_own, se_op, se_nil, List.take_succ_cons, List.take_zero, List.drop_succ_cons, List.drop_zero]
    (refine own_go (hcl) [3, 4] rfl (by simp (maxSteps := 4000000) only [go_sem, seval]) (by simp (maxSteps := 4000000) only [go_sem, seval, Nat.lt_irrefl] <;> decide) (by simp (maxSteps := 4000000) only [go_sem, seval]) ?_; simp (maxSteps := 4000000) only [go_sem, seval]; refine And.intro (frm_of (by repeat (first | exact rfl | exact ⟨_, rfl⟩ | refine And.intro ?_ ?_))) ?_; try simp (maxSteps := 4000000) only [go_sem, seval, sg_cons, sg_nil, List.take_succ_cons, List.take_zero, List.drop_succ_cons, List.drop_zero])
    try simp (maxSteps := 4000000) only [go_sem, seval, se_own, se_op, se_nil, List.take_succ_cons, List.take_zero, List.drop_succ_cons, List.drop_zero]
    refine ⟨rfl, sound_storeC (us := [.slice none 0 0, .slice none 0 0]) rfl rfl rfl (by decide) tsz61 (by simp) rfl, ?_⟩
    simp only [hseto, hset]
    try simp (maxSteps := 4000000) only [go_sem, seval, se_own, se_op, se_nil, List.take_succ_cons, List.take_zero, List.drop_succ_cons, List.drop_zero]
    (repeat' (first
 | (refine zC ?_)
 | (refine kt ?_)
 | (refine And.intro ?_ ?_)
 | ((first | refine awp_region ?_ | refine Imp.le2 ?_ | refine awp_label ?_ | refine awp_skip ?_ | refine awp_exit ?_ | refine awp_cd ?_ | refine awp_ret ?_ | refine go_split (fun _h => ?_) (fun _h => ?_)) <;> try simp (maxSteps := 4000000) only [go_sem, seval])
 | (intro _h)
 | (refine zA ?_)
 | (refine zB ?_)
 | (refine cond_b (fun _h => ?_) (fun _h => ?_))
 | (show zE _ _ = true; kernel_rfl)
 | (show zD _ _ = true; kernel_rfl)
 | (omega)))
    all_goals trace_state
end Go.Am
namespace Go.Am
open Go.RowKit Go.Proofs
attribute [local irreducible] AWP zP Kt goK CallK stepK zQ SemF SemY Imp
set_option maxRecDepth 4000
set_option linter.unusedSimpArgs false
set_option linter.unusedVariables false
set_option maxHeartbeats 6400000
def heN (t : Ann)  (a : EA (Bool × List Int × List Int)) : List (Option ABlk) :=
  [some (.cells 35 1 0 (zI t)), some (.cells 61 1 0 (chC a.v)), some (.cells 4 1 0 [.bool a.v.1])] ++ [some (.cells 35 1 0 (zI t)), some (.cells 105 1 0 [.fn (.func 95) [] [.ptr 0 0 0, .ptr 1 0 0, .ptr 2 0 0]]), some (.map (kmC a.K)), some (.cells 115 1 0 (seG t 5 a.pl a.dy)), some (.cells 99 1 0 [.ptr 6 0 0]), some (.cells 131 1 0 [.fn (.func 85) [.ptr 6 0 0] []]), some (.cells 132 1 0 [.fn (.func 86) [] [.ptr 4 0 0, .ptr 7 0 0, .ptr 3 0 0, .ptr 8 0 0, .ptr 9 0 0]])]
def ehN (t : Ann)  (s : Ste) (place : Int) (fd : Bool) (a : EA (Bool × List Int × List Int)) : List (Option ABlk) :=
  heN t  a ++ [some (.cells 136 1 0 (stC s)), some (.cells 3 1 0 [.int .i64 place]), some (.cells 4 1 0 [.bool fd]), some (.cells 4 1 0 [.bool false]), some (.cells 35 1 0 (zI t)), some (.cells 136 1 0 (stC s))]
def etN : List AV := mkT 88 [(2, .ptr 4 0 0), (3, .ptr 7 0 0), (4, .ptr 3 0 0), (5, .ptr 8 0 0), (6, .ptr 9 0 0), (7, .ptr 10 0 0), (8, .ptr 11 0 0), (9, .ptr 12 0 0), (10, .ptr 13 0 0), (31, .fn (.func 107) [] [.ptr 15 0 0, .ptr 14 0 0])]
theorem eachN_c (t : Ann)  (ht : AnnOK t)  : ∀ (f : Nat) (s : Ste) (place : Int) (a : EA (Bool × List Int × List Int)), SteOK t s → s.rest < f → 0 ≤ place → place + s.rest ≤ 1000 → EAOK fnOK a → 
    SemF Try.prog 86 [.agg (stC s), .int .i64 place, .ptr 4 0 0, .ptr 7 0 0, .ptr 3 0 0, .ptr 8 0 0, .ptr 9 0 0] (heN t  a) (.tup [.bool (eachM t (fnS t) f s place a).1.1, .bool (eachM t (fnS t) f s place a).1.2]) (heN t  (eachM t (fnS t) f s place a).2) := by
  intro f
  induction f with
  | zero => intro s place a _ h; omega
  | succ f ih =>
    intro s place a hs hf hp0 hp ha
    have hok := eachM_ok (step := (fnS t)) ht (fn_ok t ) (f + 1) s place a hs hp0 hp ha
    have hr := ht.reports
    by_cases h0 : s.rest = 0
    · have e : eachM t (fnS t) (f + 1) s place a = ((true, ((fnS t) a.v a.pl a.dy).2), { a with v := ((fnS t) a.v a.pl a.dy).1 }) := by simp only [eachM]; rw [if_pos h0]
      rw [e]
      have hv := fn_c t  a.v a.pl a.dy a.K ht  ha.1 ha.2
      have e0 : ((s.rest : Int) = 0) = True := eq_true (by omega)
      generalize (fnS t) a.v a.pl a.dy = R at *
      obtain ⟨v2, more⟩ := R
      simp only [heN, seG, stC, zI, slR, slC, List.cons_append, List.nil_append] at hv ⊢
      (refine zJ (ys := [.bool true, .bool more]) (fun w args => Try.call86 ..) Try.func86 rfl (fun w0 m0 wz => ?_); simp only [Try.ntmps86, Try.results86, zM, zN, zR, zS, slR, slC, zI, sl, List.toList_toArray, List.cons_append, List.nil_append, List.length_cons, List.length_nil, Nat.reduceAdd, Nat.reduceSub])
      (repeat' (first
 | (refine zK 2 rfl ?_; simp (maxSteps := 4000000) only [go_sem, seval, List.take_succ_cons, List.take_zero, e0, decide_true]; (repeat refine And.intro (by omega) ?_); refine own_go (hv) [0, 1, 2, 6, 5] rfl ?_ ?_ rfl ?_ <;> try simp (maxSteps := 4000000) only [go_sem, seval, Nat.lt_irrefl, e0, decide_true] <;> try decide)
 | (refine zC ?_)
 | (refine kt ?_)
 | (refine And.intro ?_ ?_)
 | ((first | refine awp_region ?_ | refine awp_draw (by kernel_rfl) (by kernel_rfl) ?_ | refine Imp.le2 ?_ | refine awp_label ?_ | refine awp_skip ?_ | refine awp_exit ?_ | refine awp_cd ?_ | refine awp_ret ?_ | refine go_split (fun _h => ?_) (fun _h => ?_)) <;> try simp (maxSteps := 4000000) only [go_sem, seval, e0, decide_true])
 | (intro _h)
 | (refine zA ?_)
 | (refine zB ?_)
 | (refine cond_b (fun _h => ?_) (fun _h => ?_))
 | (show zE _ _ = true; kernel_rfl)
 | (show zD _ _ = true; kernel_rfl)
 | (omega)))
      all_goals trace_state
    · have e0 : ((s.rest : Int) = 0) = False := eq_false (by omega)
      have h256 : s.rest < 256 := Nat.lt_of_lt_of_le hs.rest (show 2 ^ t.reports.length ≤ 2 ^ 8 from Nat.pow_le_pow_right (by omega) (by omega))
      have hst := stt_win hs.sl hs.fl
      have hsn := stt_len hs.sl hs.fl
      have hks : getS a.K s = gmGet a.K ⟨s, hs.sl, hs.fl⟩ := by unfold getS; rw [dif_pos ⟨hs.sl, hs.fl⟩]
      by_cases hlost : getS a.K s = some true
      · have e : eachM t (fnS t) (f + 1) s place a = ((false, true), a) := by simp only [eachM]; rw [if_neg h0, if_pos hlost]
        rw [e]
        have hmg := fun z (f : AV → Bool → Prop) => mget_ks (z := z) (f := f) (hks ▸ hlost)
        simp only [keyV, stC] at hmg
        have hkey := fun (a d : Int) => keyS (a := a) (d := d) hs.sl hs.fl
        simp only [heN, seG, stC, zI, slR, slC, List.cons_append, List.nil_append]
        (refine zJ (ys := [.bool false, .bool true]) (fun w args => Try.call86 ..) Try.func86 rfl (fun w0 m0 wz => ?_); simp only [Try.ntmps86, Try.results86, zM, zN, zR, zS, slR, slC, zI, sl, List.toList_toArray, List.cons_append, List.nil_append, List.length_cons, List.length_nil, Nat.reduceAdd, Nat.reduceSub])
        (repeat' (first
 | ((show zeroOK _ = true; rfl))
 | ((exact hkey _ _))
 | ((exact absurd ‹true = false› (by simp)))
 | (refine zC ?_)
 | (refine kt ?_)
 | (refine And.intro ?_ ?_)
 | ((first | refine awp_region ?_ | refine awp_draw3 (by kernel_rfl) (by kernel_rfl) ?_ | refine Imp.le2 ?_ | refine awp_label ?_ | refine awp_skip ?_ | refine awp_exit ?_ | refine awp_cd ?_ | refine awp_ret ?_ | refine go_split (fun _h => ?_) (fun _h => ?_)) <;> try simp (maxSteps := 4000000) only [go_sem, seval, e0, decide_false, hmg, hst, hsn])
 | (intro _h)
 | (refine zA ?_)
 | (refine zB ?_)
 | (refine cond_b (fun _h => ?_) (fun _h => ?_))
 | (show heapOK3 _ _ _ = true; kernel_rfl)
 | (show zE _ _ = true; kernel_rfl)
 | (show zD _ _ = true; kernel_rfl)
 | (omega)))
        all_goals (exact absurd _h (by simp))
      · obtain ⟨b, hmg⟩ : ∃ b : Bool, ∀ (f : AV → Bool → Prop), mgetK (kmC a.K) (keyV ⟨s, hs.sl, hs.fl⟩) (.bool false) f = f (.bool false) b := by
          rw [hks] at hlost
          cases hg : gmGet a.K ⟨s, hs.sl, hs.fl⟩ with
          | none => exact ⟨false, fun f => mget_kn hg⟩
          | some b =>
            cases b with
            | true => exact absurd hg hlost
            | false => exact ⟨true, fun f => mget_ks hg⟩
        have hnx := next_c t s
        have hkey := fun (a d : Int) => keyS (a := a) (d := d) hs.sl hs.fl
        have e : eachM t (fnS t) (f + 1) s place a = endM s (goE (oneM t (eachM t (fnS t) f) s place) (candN t s.rest s.rest) false a) := by simp only [eachM]; rw [if_neg h0, if_neg hlost]
        rw [e] at hok ⊢
        obtain ⟨⟨⟨fE, mE⟩, aE⟩, hE⟩ : ∃ r, goE (oneM t (eachM t (fnS t) f) s place) (candN t s.rest s.rest) false a = r := ⟨_, rfl⟩
        rw [hE] at hok ⊢
        simp only [keyV, stC] at hmg
        have hpE : PDOK aE.pl aE.dy := by
          unfold endM at hok
          split at hok
          · exact hok.2
          · exact hok.2
        clear e hok
        obtain ⟨st, pend, ex, hcase⟩ : ∃ (st : LoopState) (pend : Option Code) (ex : Exit), (mE = true ∧ st = .ready ∧ pend = none ∧ ex = .normal) ∨ (mE = false ∧ st = .done ∧ pend = some .ret ∧ ex = .ret) := by
          cases mE
          · exact ⟨.done, some .ret, .ret, .inr ⟨rfl, rfl, rfl, rfl⟩⟩
          · exact ⟨.ready, none, .normal, .inl ⟨rfl, rfl, rfl, rfl⟩⟩
        have e1 : (endM s ((fE, mE), aE)).1.1 = fE := by unfold endM; cases mE <;> rfl
        have e2 : (endM s ((fE, mE), aE)).1.2 = mE := by unfold endM; cases mE <;> rfl
        rw [e1, e2]
        simp only [heN, seG, stC, zI, slR, slC, List.cons_append, List.nil_append] at hnx ⊢
        (refine zJ (ys := [.bool fE, .bool mE]) (fun w args => Try.call86 ..) Try.func86 rfl (fun w0 m0 wz => ?_); simp only [Try.ntmps86, Try.results86, zM, zN, zR, zS, slR, slC, zI, sl, List.toList_toArray, List.cons_append, List.nil_append, List.length_cons, List.length_nil, Nat.reduceAdd, Nat.reduceSub])
        (repeat' (first
 | ((show zeroOK _ = true; rfl))
 | ((exact hkey _ _))
 | (refine zK 2 rfl ?_; simp (maxSteps := 4000000) only [go_sem, seval, List.take_succ_cons, List.take_zero, e0, decide_false, hmg, hst, hsn]; (repeat refine And.intro (by omega) ?_); refine own_go (hnx) [] rfl ?_ ?_ ?_ ?_ <;> try simp (maxSteps := 4000000) only [go_sem, seval, Nat.lt_irrefl, e0, decide_false, hmg, hst, hsn] <;> try decide)
 | (refine zC ?_)
 | (refine kt ?_)
 | (refine And.intro ?_ ?_)
 | ((first | refine awp_region ?_ | refine awp_draw3 (by kernel_rfl) (by kernel_rfl) ?_ | refine Imp.le2 ?_ | refine awp_label ?_ | refine awp_skip ?_ | refine awp_exit ?_ | refine awp_cd ?_ | refine awp_ret ?_ | refine go_split (fun _h => ?_) (fun _h => ?_)) <;> try simp (maxSteps := 4000000) only [go_sem, seval, e0, decide_false, hmg, hst, hsn])
 | (intro _h)
 | (refine zA ?_)
 | (refine zB ?_)
 | (refine cond_b (fun _h => ?_) (fun _h => ?_))
 | (show heapOK3 _ _ _ = true; kernel_rfl)
 | (show zE _ _ = true; kernel_rfl)
 | (show zD _ _ = true; kernel_rfl)
 | (omega)))
        try any_goals (exfalso; simp at _h; done)
        refine AWP.le2 (s' := ⟨etN, ehN t  s place false a, []⟩) (by simp only [etN, ehN, heN, seG, stC, zI, slR, slC, List.cons_append, List.nil_append]; simp (maxSteps := 4000000) only [go_sem, seval]) ?_
        refine awp_rangeZ (gf := 107) (first := []) (caps := [.ptr 15 0 0, .ptr 14 0 0]) (by simp only [etN]; simp (maxSteps := 4000000) only [go_sem, seval]) 16 rfl ?_
        intro ca cb hca hcb
        refine ⟨.tup [], ehN t  s place fE aE ++ [some (.dfr true), some (.loop st pend 0 etN #[32] ca cb 16)], st, pend, ex, ?_, ?_, ?_, ?_, ?_⟩
        · simp only [etN, ehN, heN, seG, stC, zI, slR, slC, List.cons_append, List.nil_append]; simp (maxSteps := 4000000) only [go_sem, seval]
          (refine zJ (ys := []) (fun w args => Try.call107 ..) Try.func107 rfl (fun w0 m0 wz => ?_); simp only [Try.ntmps107, Try.results107, zM, zN, zR, zS, slR, slC, zI, sl, List.toList_toArray, List.cons_append, List.nil_append, List.length_cons, List.length_nil, Nat.reduceAdd, Nat.reduceSub])
          (repeat' (first
 | (refine zC ?_)
 | (refine kt ?_)
 | (refine And.intro ?_ ?_)
 | ((first | refine awp_region ?_ | refine awp_draw (by kernel_rfl) (by kernel_rfl) ?_ | refine Imp.le2 ?_ | refine awp_label ?_ | refine awp_skip ?_ | refine awp_exit ?_ | refine awp_cd ?_ | refine awp_ret ?_ | refine go_split (fun _h => ?_) (fun _h => ?_)) <;> try simp (maxSteps := 4000000) only [go_sem, seval])
 | (intro _h)
 | (refine zA ?_)
 | (refine zB ?_)
 | (refine cond_b (fun _h => ?_) (fun _h => ?_))
 | (show zE _ _ = true; kernel_rfl)
 | (show zD _ _ = true; kernel_rfl)
 | (omega)))
          refine awp_loopJ (fun x : Nat × Bool × EA (Bool × List Int × List Int) => x.1 &&& s.rest = x.1 ∧ EAOK fnOK x.2.2 ∧ goE (oneM t (eachM t (fnS t) f) s place) (candN t s.rest x.1) x.2.1 x.2.2 = ((fE, mE), aE))
            (fun x => ⟨mkT 54 [(0, .fn (.yield 17) [] []), (1, .ptr 15 0 0), (2, .ptr 14 0 0), (4, .int .u8 (x.1 : Nat))], ehN t  s place x.2.1 x.2.2 ++ [some (.dfr true), some (.loop .ready none 0 etN #[32] ca cb 16)], []⟩) (fun x => x.1) (s.rest, false, a) ⟨Nat.and_self _, ha, hE⟩ (.le2 ?_) ?_
          · simp only [etN, ehN, heN, seG, stC, zI, slR, slC, List.cons_append, List.nil_append]; simp (maxSteps := 4000000) only [go_sem, seval]
            try (first | rfl | exact ⟨rfl, rfl⟩)
          · rintro ⟨x, fd, a1⟩ ⟨hx, ha1, hF⟩
            simp only at hx ha1 hF
            by_cases hx0 : x = 0
            · subst hx0
              rw [candN_zero] at hF
              simp only [goE, Prod.mk.injEq] at hF
              obtain ⟨⟨h1, h2⟩, h3⟩ := hF
              subst h1 h2 h3
              rcases hcase with ⟨_, h2, h3, h4⟩ | ⟨h, _⟩
              · subst h2 h3 h4
                simp only [etN, ehN, heN, seG, stC, zI, slR, slC, List.cons_append, List.nil_append]; simp (maxSteps := 4000000) only [go_sem, seval]
                (repeat' (first
 | ((exfalso; omega))
 | (refine zC ?_)
 | (refine kt ?_)
 | (refine And.intro ?_ ?_)
 | ((first | refine awp_region ?_ | refine awp_draw (by kernel_rfl) (by kernel_rfl) ?_ | refine Imp.le2 ?_ | refine awp_label ?_ | refine awp_skip ?_ | refine awp_exit ?_ | refine awp_cd ?_ | refine awp_ret ?_ | refine go_split (fun _h => ?_) (fun _h => ?_)) <;> try simp (maxSteps := 4000000) only [go_sem, seval])
 | (intro _h)
 | (refine zA ?_)
 | (refine zB ?_)
 | (refine cond_b (fun _h => ?_) (fun _h => ?_))
 | (show zE _ _ = true; kernel_rfl)
 | (show zD _ _ = true; kernel_rfl)
 | (omega)))
                all_goals trace_state
              · exact absurd h (by simp)
            · rw [candN_step hx0] at hF
              have hxr : x ≤ s.rest := by
                have : x &&& s.rest ≤ s.rest := Nat.and_le_right
                rw [hx] at this; exact this
              have hxn : x < 2 ^ t.reports.length := by have := hs.rest; omega
              have hx8 : x < 256 := by omega
              have htz := tz_in hx0 hxn hr.2
              have htc := tz_c x hx8
              have hso : (t.reports.getD (tz x) default).slope = slopeO t x := rfl
              have e5 : IntKind.u8.wrap ((x : Int) - 1) = ((x - 1 : Nat) : Int) := sub_nat hx8 hx0
              have e6 : u8and ((x - 1 : Nat) : Int) (s.rest : Nat) = (((x - 1) &&& s.rest : Nat) : Int) := u8and_nat (by omega) h256
              have hax : (x - 1) &&& s.rest ≤ x - 1 := Nat.and_le_left
              have hxx : ((x - 1) &&& s.rest) &&& s.rest = (x - 1) &&& s.rest := by rw [Nat.and_assoc, Nat.and_self]
              simp only [etN, ehN, heN, seG, stC, zI, slR, slC, List.cons_append, List.nil_append]; simp (maxSteps := 4000000) only [go_sem, seval]
              (repeat' (first
 | ((exfalso; omega))
 | ((omega))
 | (refine zC ?_)
 | (refine kt ?_)
 | (refine And.intro ?_ ?_)
 | ((first | refine awp_region ?_ | refine awp_draw (by kernel_rfl) (by kernel_rfl) ?_ | refine Imp.le2 ?_ | refine awp_label ?_ | refine awp_skip ?_ | refine awp_exit ?_ | refine awp_cd ?_ | refine awp_ret ?_ | refine callK_of (htc) ?_ | refine go_split (fun _h => ?_) (fun _h => ?_)) <;> try simp (maxSteps := 4000000) only [go_sem, seval, hso])
 | (intro _h)
 | (refine zA ?_)
 | (refine zB ?_)
 | (refine cond_b (fun _h => ?_) (fun _h => ?_))
 | (show zE _ _ = true; kernel_rfl)
 | (show zD _ _ = true; kernel_rfl)
 | (omega)))
              refine awp_loopN t.reports.length (fun i => ⟨mkT 54 [(0, .fn (.yield 17) [] []), (1, .ptr 15 0 0), (2, .ptr 14 0 0), (4, .int .u8 (x : Nat)), (5, .int .i64 (slopeO t x)), (6, .bool (sameK t x i)), (26, slR t.reports), (27, .int .i64 t.reports.length), (28, .int .i64 i)], ehN t  s place fd a1 ++ [some (.dfr true), some (.loop .ready none 0 etN #[32] ca cb 16)], []⟩) (.le2 ?_) ?_
              · simp only [etN, ehN, heN, seG, stC, zI, slR, slC, List.cons_append, List.nil_append, sameK]; simp (maxSteps := 4000000) only [go_sem, seval]
                try (first | rfl | exact ⟨rfl, rfl⟩)
              · intro i hi
                rcases Nat.lt_or_eq_of_le hi with hi1 | hi1
                · have hin := inS_c x i hx8 (by omega)
                  obtain ⟨q, hq⟩ : ∃ q, sameK t x i = q := ⟨_, rfl⟩
                  obtain ⟨b, hb⟩ : ∃ b, x.testBit i = b := ⟨_, rfl⟩
                  obtain ⟨z, hz⟩ : ∃ z, slopeO t x = z := ⟨_, rfl⟩
                  have hss : sameK t x (i + 1) = (q && (!b || decide ((t.reports.getD i default).slope = z))) := by simp only [sameK, hq, hb, hz]
                  rw [hss, hq, hz]
                  rw [hb] at hin
                  clear hss hq hz hb hF
                  cases q
                  · simp only [etN, ehN, heN, seG, stC, zI, slR, slC, List.cons_append, List.nil_append, Bool.false_and]; simp (maxSteps := 4000000) only [go_sem, seval]
                    (repeat' (first
 | ((exfalso; omega))
 | ((omega))
 | (refine zC ?_)
 | (refine kt ?_)
 | (refine And.intro ?_ ?_)
 | ((first | refine awp_region ?_ | refine awp_draw (by kernel_rfl) (by kernel_rfl) ?_ | refine Imp.le2 ?_ | refine awp_label ?_ | refine awp_skip ?_ | refine awp_exit ?_ | refine awp_cd ?_ | refine awp_ret ?_ | refine go_split (fun _h => ?_) (fun _h => ?_)) <;> try simp (maxSteps := 4000000) only [go_sem, seval])
 | (intro _h)
 | (refine zA ?_)
 | (refine zB ?_)
 | (refine cond_b (fun _h => ?_) (fun _h => ?_))
 | (show zE _ _ = true; kernel_rfl)
 | (show zD _ _ = true; kernel_rfl)
 | (omega)))
                    all_goals trace_state
                  · cases b
                    · simp only [etN, ehN, heN, seG, stC, zI, slR, slC, List.cons_append, List.nil_append, Bool.not_false, Bool.true_or, Bool.true_and]; simp (maxSteps := 4000000) only [go_sem, seval]
                      (repeat' (first
 | ((exfalso; omega))
 | ((omega))
 | (refine zC ?_)
 | (refine kt ?_)
 | (refine And.intro ?_ ?_)
 | ((first | refine awp_region ?_ | refine awp_draw (by kernel_rfl) (by kernel_rfl) ?_ | refine Imp.le2 ?_ | refine awp_label ?_ | refine awp_skip ?_ | refine awp_exit ?_ | refine awp_cd ?_ | refine awp_ret ?_ | refine callK_of (hin) ?_ | refine go_split (fun _h => ?_) (fun _h => ?_)) <;> try simp (maxSteps := 4000000) only [go_sem, seval])
 | (intro _h)
 | (refine zA ?_)
 | (refine zB ?_)
 | (refine cond_b (fun _h => ?_) (fun _h => ?_))
 | (show zE _ _ = true; kernel_rfl)
 | (show zD _ _ = true; kernel_rfl)
 | (omega)))
                      all_goals trace_state
                    · by_cases hsl : (t.reports.getD i default).slope = z
                      · simp only [etN, ehN, heN, seG, stC, zI, slR, slC, List.cons_append, List.nil_append, Bool.not_true, Bool.false_or, Bool.true_and, hsl, decide_true]; simp (maxSteps := 4000000) only [go_sem, seval]
                        (repeat' (first
 | ((exfalso; omega))
 | ((omega))
 | (refine zC ?_)
 | (refine kt ?_)
 | (refine And.intro ?_ ?_)
 | ((first | refine awp_region ?_ | refine awp_draw (by kernel_rfl) (by kernel_rfl) ?_ | refine Imp.le2 ?_ | refine awp_label ?_ | refine awp_skip ?_ | refine awp_exit ?_ | refine awp_cd ?_ | refine awp_ret ?_ | refine callK_of (hin) ?_ | refine go_split (fun _h => ?_) (fun _h => ?_)) <;> try simp (maxSteps := 4000000) only [go_sem, seval, hsl, decide_true])
 | (intro _h)
 | (refine zA ?_)
 | (refine zB ?_)
 | (refine cond_b (fun _h => ?_) (fun _h => ?_))
 | (show zE _ _ = true; kernel_rfl)
 | (show zD _ _ = true; kernel_rfl)
 | (omega)))
                        all_goals trace_state
                      · simp only [etN, ehN, heN, seG, stC, zI, slR, slC, List.cons_append, List.nil_append, Bool.not_true, Bool.false_or, Bool.true_and, hsl, decide_false]; simp (maxSteps := 4000000) only [go_sem, seval]
                        (repeat' (first
 | ((exfalso; omega))
 | ((omega))
 | (refine zC ?_)
 | (refine kt ?_)
 | (refine And.intro ?_ ?_)
 | ((first | refine awp_region ?_ | refine awp_draw (by kernel_rfl) (by kernel_rfl) ?_ | refine Imp.le2 ?_ | refine awp_label ?_ | refine awp_skip ?_ | refine awp_exit ?_ | refine awp_cd ?_ | refine awp_ret ?_ | refine callK_of (hin) ?_ | refine go_split (fun _h => ?_) (fun _h => ?_)) <;> try simp (maxSteps := 4000000) only [go_sem, seval, hsl, decide_false])
 | (intro _h)
 | (refine zA ?_)
 | (refine zB ?_)
 | (refine cond_b (fun _h => ?_) (fun _h => ?_))
 | (show zE _ _ = true; kernel_rfl)
 | (show zD _ _ = true; kernel_rfl)
 | (omega)))
                        all_goals trace_state
                · subst hi1
                  cases hG : sameK t x t.reports.length with
                  | false =>
                    rw [hG, if_neg (by simp)] at hF
                    simp only [etN, ehN, heN, seG, stC, zI, slR, slC, List.cons_append, List.nil_append]; simp (maxSteps := 4000000) only [go_sem, seval]
                    (repeat' (first
 | ((exfalso; omega))
 | ((omega))
 | (refine zC ?_)
 | (refine kt ?_)
 | (refine And.intro ?_ ?_)
 | ((first | refine awp_region ?_ | refine awp_draw (by kernel_rfl) (by kernel_rfl) ?_ | refine Imp.le2 ?_ | refine awp_label ?_ | refine awp_skip ?_ | refine awp_exit ?_ | refine awp_cd ?_ | refine awp_ret ?_ | refine go_split (fun _h => ?_) (fun _h => ?_)) <;> try simp (maxSteps := 4000000) only [go_sem, seval, e5, e6])
 | (intro _h)
 | (refine zA ?_)
 | (refine zB ?_)
 | (refine cond_b (fun _h => ?_) (fun _h => ?_))
 | (show zE _ _ = true; kernel_rfl)
 | (show zD _ _ = true; kernel_rfl)
 | (omega)))
                    refine ⟨((x - 1) &&& s.rest, fd, a1), ⟨hxx, ha1, hF⟩, by simp only; omega, .le2 ?_⟩
                    simp only [etN, ehN, heN, seG, stC, zI, slR, slC, List.cons_append, List.nil_append]; simp (maxSteps := 4000000) only [go_sem, seval]
                    try (first | rfl | exact ⟨rfl, rfl⟩)
                  | true =>
                    rw [hG, if_pos rfl] at hF
                    simp only [goE] at hF
                    have hmay := may_c t s x a1.pl a1.dy a1.K ht hs hx0 hxn
                    obtain ⟨hl1, hl2⟩ := mayS_len ht hs hx0 hxn
                    have hst2 := stt_win hl1 hl2
                    have hsn2 := stt_len hl1 hl2
                    by_cases hm : (mayS t s x).2 = true
                    · obtain ⟨m1, m2, m3⟩ := mayS_ok ht hs hx0 hx hm
                      have h1 : oneM t (eachM t (fnS t) f) s place x a1 = eachM t (fnS t) f (mayS t s x).1 (place + 1) (putE t x place (mayS t s x).1.day a1) := by unfold oneM; rw [if_pos hm]
                      have hao : EAOK fnOK (putE t x place (mayS t s x).1.day a1) := ⟨ha1.1, ha1.2.put hr.2 ⟨hp0, by omega⟩ m3⟩
                      have hih := ih (mayS t s x).1 (place + 1) (putE t x place (mayS t s x).1.day a1) m1 (by omega) (by omega) (by omega) hao
                      have hok1 := eachM_ok (step := (fnS t)) ht (fn_ok t ) f (mayS t s x).1 (place + 1) (putE t x place (mayS t s x).1.day a1) m1 (by omega) (by omega) hao
                      have hq1 := ha1.2.lpl
                      have hq2 := ha1.2.ldy
                      rw [h1] at hF
                      rw [hm] at hmay
                      clear h1 hao m1 hG
                      generalize (mayS t s x).1 = to at *
                      obtain ⟨⟨⟨he1, mo⟩, a2⟩, hr2⟩ : ∃ r, eachM t (fnS t) f to (place + 1) (putE t x place to.day a1) = r := ⟨_, rfl⟩
                      rw [hr2] at hih hF hok1
                      simp only [etN, ehN, heN, seG, stC, zI, slR, slC, List.cons_append, List.nil_append, seC] at hmay
                      simp only at hF hih hok1
                      have hF0 := hF
                      cases mo with
                      | true =>
                        rw [if_pos rfl] at hF
                        simp only [etN, ehN, heN, seG, stC, zI, slR, slC, List.cons_append, List.nil_append]; simp (maxSteps := 4000000) only [go_sem, seval]
                        (repeat' (first
 | ((exfalso; omega))
 | ((omega))
 | ((refine zK (id := 10) 4 rfl ?_; simp (maxSteps := 4000000) only [go_sem, seval, List.take_succ_cons, List.take_zero]; refine callH_yield true (ehN t  s place (fd || he1) a2 ++ [some (.dfr true), some (.loop .ready none 0 etN #[32] ca cb 16)]) ?_ ?_ <;> simp only [etN, ehN, heN, seG, stC, zI, slR, slC, List.cons_append, List.nil_append] <;> (try simp (maxSteps := 4000000) only [go_sem, seval])))
 | (refine zC ?_)
 | (refine kt ?_)
 | (refine And.intro ?_ ?_)
 | ((first | refine awp_region ?_ | refine awp_draw (by kernel_rfl) (by kernel_rfl) ?_ | refine Imp.le2 ?_ | refine awp_label ?_ | refine awp_skip ?_ | refine awp_exit ?_ | refine awp_cd ?_ | refine awp_ret ?_ | refine go_split (fun _h => ?_) (fun _h => ?_)) <;> try simp (maxSteps := 4000000) only [go_sem, seval, e5, e6])
 | (intro _h)
 | (refine zA ?_)
 | (refine zB ?_)
 | (refine cond_b (fun _h => ?_) (fun _h => ?_))
 | (show zE _ _ = true; kernel_rfl)
 | (show zD _ _ = true; kernel_rfl)
 | (omega)))
                        · refine semY_of_awpZ rfl rfl ?_
                          intro B w0 l m w
                          refine awp_code hca ?_
                          (repeat' (first
 | (refine zC ?_)
 | (refine kt ?_)
 | (refine And.intro ?_ ?_)
 | ((first | refine awp_region ?_ | refine awp_draw (by kernel_rfl) (by kernel_rfl) ?_ | refine Imp.le2 ?_ | refine awp_label ?_ | refine awp_skip ?_ | refine awp_exit ?_ | refine awp_cd ?_ | refine awp_ret ?_ | refine go_split (fun _h => ?_) (fun _h => ?_)) <;> try simp (maxSteps := 4000000) only [go_sem, seval])
 | (intro _h)
 | (refine zA ?_)
 | (refine zB ?_)
 | (refine cond_b (fun _h => ?_) (fun _h => ?_))
 | (show zE _ _ = true; kernel_rfl)
 | (show zD _ _ = true; kernel_rfl)
 | (omega)))
                          refine awp_code hcb ?_
                          (repeat' (first
 | (refine zK 3 rfl ?_; simp (maxSteps := 4000000) only [go_sem, seval, List.take_succ_cons, List.take_zero, hst, hsn, hst2, hsn2]; (repeat refine And.intro (by omega) ?_); refine own_go (hmay) [6, 5] rfl ?_ ?_ ?_ ?_ <;> try simp (maxSteps := 4000000) only [go_sem, seval, Nat.lt_irrefl, hst, hsn, hst2, hsn2] <;> try decide)
 | (refine zC ?_)
 | (refine kt ?_)
 | (refine And.intro ?_ ?_)
 | ((first | refine awp_region ?_ | refine awp_draw (by kernel_rfl) (by kernel_rfl) ?_ | refine Imp.le2 ?_ | refine awp_label ?_ | refine awp_skip ?_ | refine awp_exit ?_ | refine awp_cd ?_ | refine awp_ret ?_ | refine go_split (fun _h => ?_) (fun _h => ?_)) <;> try simp (maxSteps := 4000000) only [go_sem, seval, hst, hsn, hst2, hsn2])
 | (intro _h)
 | (refine zA ?_)
 | (refine zB ?_)
 | (refine cond_b (fun _h => ?_) (fun _h => ?_))
 | (show zE _ _ = true; kernel_rfl)
 | (show zD _ _ = true; kernel_rfl)
 | (omega)))
                          refine awp_loopN t.reports.length (fun j => ⟨mkT 88 [(2, .ptr 4 0 0), (3, .ptr 7 0 0), (4, .ptr 3 0 0), (5, .ptr 8 0 0), (6, .ptr 9 0 0), (7, .ptr 10 0 0), (8, .ptr 11 0 0), (9, .ptr 12 0 0), (10, .ptr 13 0 0), (11, .int .u8 (x : Nat)), (12, .ptr 18 0 0), (44, .int .i64 t.reports.length), (45, .int .i64 j)], ehN t  s place fd ⟨a1.v, wrM x place j a1.pl, wrM x to.day j a1.dy, a1.K⟩ ++ [some (.dfr true), some (.loop .busy none 0 etN #[32] ca cb 16), some (.cells 136 1 0 (stC to))], []⟩) (.le2 ?_) ?_
                          · simp only [etN, ehN, heN, seG, stC, zI, slR, slC, List.cons_append, List.nil_append, wrM]; simp (maxSteps := 4000000) only [go_sem, seval]
                            try (first | rfl | exact ⟨rfl, rfl⟩)
                          · intro j hj
                            have hS1 := wrM_length (now := x) (x := place) (l := a1.pl) (k := j) (by rw [hq1]; omega)
                            have hF1 := wrM_length (now := x) (x := to.day) (l := a1.dy) (k := j) (by rw [hq2]; omega)
                            rw [hq1] at hS1
                            rw [hq2] at hF1
                            rcases Nat.lt_or_eq_of_le hj with hj1 | hj1
                            · have hin := inS_c x j hx8 (by omega)
                              simp only [wrM]
                              generalize wrM x place j a1.pl = S1 at *
                              generalize wrM x to.day j a1.dy = F1 at *
                              have hss := fun x y z u v => ss_pl (x := x) (y := y) (z := z) (u := u) (S := S1) (F := F1) (i := j) (v := v) (by omega)
                              have hsd := fun x y z u v w => ss_dy (x := x) (y := y) (z := z) (u := u) (S := isp S1 j v) (F := F1) (i := j) (v := w) (by rw [isp_length (by omega)]; exact hS1) (by omega)
                              have hle1 := se_len hS1 hF1
                              have hle2 := fun v => se_len (S := isp S1 j v) (F := F1) (by rw [isp_length (by omega)]; exact hS1) hF1
                              generalize x.testBit j = b at *
                              cases b
                              · simp only [etN, ehN, heN, seG, stC, zI, slR, slC, List.cons_append, List.nil_append, Bool.false_eq_true, if_false]; simp (maxSteps := 4000000) only [go_sem, seval]
                                (repeat' (first
 | ((exfalso; omega))
 | ((omega))
 | (refine zC ?_)
 | (refine kt ?_)
 | (refine And.intro ?_ ?_)
 | ((first | refine awp_region ?_ | refine awp_draw (by kernel_rfl) (by kernel_rfl) ?_ | refine Imp.le2 ?_ | refine awp_label ?_ | refine awp_skip ?_ | refine awp_exit ?_ | refine awp_cd ?_ | refine awp_ret ?_ | refine callK_of (hin) ?_ | refine go_split (fun _h => ?_) (fun _h => ?_)) <;> try simp (maxSteps := 4000000) only [go_sem, seval])
 | (intro _h)
 | (refine zA ?_)
 | (refine zB ?_)
 | (refine cond_b (fun _h => ?_) (fun _h => ?_))
 | (show zE _ _ = true; kernel_rfl)
 | (show zD _ _ = true; kernel_rfl)
 | (omega)))
                                all_goals trace_state
                              · simp only [etN, ehN, heN, seG, stC, zI, slR, slC, List.cons_append, List.nil_append, if_true]; simp (maxSteps := 4000000) only [go_sem, seval]
                                (repeat' (first
 | ((exfalso; omega))
 | ((omega))
 | (refine zC ?_)
 | (refine kt ?_)
 | (refine And.intro ?_ ?_)
 | ((first | refine awp_region ?_ | refine awp_draw3 (by kernel_rfl) (by kernel_rfl) ?_ | refine Imp.le2 ?_ | refine awp_label ?_ | refine awp_skip ?_ | refine awp_exit ?_ | refine awp_cd ?_ | refine awp_ret ?_ | refine callK_of (hin) ?_ | refine go_split (fun _h => ?_) (fun _h => ?_)) <;> try simp (maxSteps := 4000000) only [go_sem, seval, hss, hsd, hle1, hle2])
 | (intro _h)
 | (refine zA ?_)
 | (refine zB ?_)
 | (refine cond_b (fun _h => ?_) (fun _h => ?_))
 | (show heapOK3 _ _ _ = true; kernel_rfl)
 | (show zE _ _ = true; kernel_rfl)
 | (show zD _ _ = true; kernel_rfl)
 | (omega)))
                                all_goals trace_state
                            · subst hj1
                              simp only [putE] at hih
                              generalize wrM x place t.reports.length a1.pl = S1 at *
                              generalize wrM x to.day t.reports.length a1.dy = F1 at *
                              clear hF hF0
                              cases fd
                              all_goals
                                simp only [etN, ehN, heN, seG, stC, zI, slR, slC, List.cons_append, List.nil_append, Bool.true_or, Bool.false_or] at hih ⊢
                                simp (maxSteps := 4000000) only [go_sem, seval]
                                (repeat' (first
 | (refine zK 4 rfl ?_; simp (maxSteps := 4000000) only [go_sem, seval, List.take_succ_cons, List.take_zero, hst2, hsn2]; (repeat refine And.intro (by omega) ?_); refine own_go (hih) [0, 1, 2, 3, 4, 5, 6, 7, 8, 9] rfl ?_ ?_ ?_ ?_ <;> try simp (maxSteps := 4000000) only [go_sem, seval, Nat.lt_irrefl, hst2, hsn2] <;> try decide)
 | ((exfalso; omega))
 | ((omega))
 | (refine zC ?_)
 | (refine kt ?_)
 | (refine And.intro ?_ ?_)
 | ((first | refine awp_region ?_ | refine awp_draw (by kernel_rfl) (by kernel_rfl) ?_ | refine Imp.le2 ?_ | refine awp_label ?_ | refine awp_skip ?_ | refine awp_exit ?_ | refine awp_cd ?_ | refine awp_ret ?_ | refine go_split (fun _h => ?_) (fun _h => ?_)) <;> try simp (maxSteps := 4000000) only [go_sem, seval, hst2, hsn2])
 | (intro _h)
 | (refine zA ?_)
 | (refine zB ?_)
 | (refine cond_b (fun _h => ?_) (fun _h => ?_))
 | (show zE _ _ = true; kernel_rfl)
 | (show zD _ _ = true; kernel_rfl)
 | (omega)))
                              all_goals first | (rw [_h]; done) | trace_state
                        · refine ⟨((x - 1) &&& s.rest, fd || he1, a2), ⟨hxx, hok1, hF⟩, by simp only; omega, .le2 ?_⟩
                          simp only [etN, ehN, heN, seG, stC, zI, slR, slC, List.cons_append, List.nil_append]; simp (maxSteps := 4000000) only [go_sem, seval]
                          try (first | rfl | exact ⟨rfl, rfl⟩)
                      | false =>
                        rw [if_neg (by simp)] at hF
                        simp only [Prod.mk.injEq] at hF
                        obtain ⟨⟨g1, g2⟩, g3⟩ := hF
                        rcases hcase with ⟨h, _⟩ | ⟨_, h2, h3, h4⟩
                        · rw [h] at g2; cases g2
                        subst g1 g2 g3 h2 h3 h4
                        have hF := hF0
                        simp only [etN, ehN, heN, seG, stC, zI, slR, slC, List.cons_append, List.nil_append]; simp (maxSteps := 4000000) only [go_sem, seval]
                        (repeat' (first
 | ((exfalso; omega))
 | ((omega))
 | ((refine zK (id := 10) 4 rfl ?_; simp (maxSteps := 4000000) only [go_sem, seval, List.take_succ_cons, List.take_zero]; refine callH_yield false (ehN t  s place (fd || he1) a2 ++ [some (.dfr true), some (.loop .done (some .ret) 0 etN #[32] ca cb 16)]) ?_ ?_ <;> simp only [etN, ehN, heN, seG, stC, zI, slR, slC, List.cons_append, List.nil_append] <;> (try simp (maxSteps := 4000000) only [go_sem, seval])))
 | (refine zC ?_)
 | (refine kt ?_)
 | (refine And.intro ?_ ?_)
 | ((first | refine awp_region ?_ | refine awp_draw (by kernel_rfl) (by kernel_rfl) ?_ | refine Imp.le2 ?_ | refine awp_label ?_ | refine awp_skip ?_ | refine awp_exit ?_ | refine awp_cd ?_ | refine awp_ret ?_ | refine go_split (fun _h => ?_) (fun _h => ?_)) <;> try simp (maxSteps := 4000000) only [go_sem, seval, e5, e6])
 | (intro _h)
 | (refine zA ?_)
 | (refine zB ?_)
 | (refine cond_b (fun _h => ?_) (fun _h => ?_))
 | (show zE _ _ = true; kernel_rfl)
 | (show zD _ _ = true; kernel_rfl)
 | (omega)))
                        · refine semY_of_awpZ rfl rfl ?_
                          intro B w0 l m w
                          refine awp_code hca ?_
                          (repeat' (first
 | (refine zC ?_)
 | (refine kt ?_)
 | (refine And.intro ?_ ?_)
 | ((first | refine awp_region ?_ | refine awp_draw (by kernel_rfl) (by kernel_rfl) ?_ | refine Imp.le2 ?_ | refine awp_label ?_ | refine awp_skip ?_ | refine awp_exit ?_ | refine awp_cd ?_ | refine awp_ret ?_ | refine go_split (fun _h => ?_) (fun _h => ?_)) <;> try simp (maxSteps := 4000000) only [go_sem, seval])
 | (intro _h)
 | (refine zA ?_)
 | (refine zB ?_)
 | (refine cond_b (fun _h => ?_) (fun _h => ?_))
 | (show zE _ _ = true; kernel_rfl)
 | (show zD _ _ = true; kernel_rfl)
 | (omega)))
                          refine awp_code hcb ?_
                          (repeat' (first
 | (refine zK 3 rfl ?_; simp (maxSteps := 4000000) only [go_sem, seval, List.take_succ_cons, List.take_zero, hst, hsn, hst2, hsn2]; (repeat refine And.intro (by omega) ?_); refine own_go (hmay) [6, 5] rfl ?_ ?_ ?_ ?_ <;> try simp (maxSteps := 4000000) only [go_sem, seval, Nat.lt_irrefl, hst, hsn, hst2, hsn2] <;> try decide)
 | (refine zC ?_)
 | (refine kt ?_)
 | (refine And.intro ?_ ?_)
 | ((first | refine awp_region ?_ | refine awp_draw (by kernel_rfl) (by kernel_rfl) ?_ | refine Imp.le2 ?_ | refine awp_label ?_ | refine awp_skip ?_ | refine awp_exit ?_ | refine awp_cd ?_ | refine awp_ret ?_ | refine go_split (fun _h => ?_) (fun _h => ?_)) <;> try simp (maxSteps := 4000000) only [go_sem, seval, hst, hsn, hst2, hsn2])
 | (intro _h)
 | (refine zA ?_)
 | (refine zB ?_)
 | (refine cond_b (fun _h => ?_) (fun _h => ?_))
 | (show zE _ _ = true; kernel_rfl)
 | (show zD _ _ = true; kernel_rfl)
 | (omega)))
                          refine awp_loopN t.reports.length (fun j => ⟨mkT 88 [(2, .ptr 4 0 0), (3, .ptr 7 0 0), (4, .ptr 3 0 0), (5, .ptr 8 0 0), (6, .ptr 9 0 0), (7, .ptr 10 0 0), (8, .ptr 11 0 0), (9, .ptr 12 0 0), (10, .ptr 13 0 0), (11, .int .u8 (x : Nat)), (12, .ptr 18 0 0), (44, .int .i64 t.reports.length), (45, .int .i64 j)], ehN t  s place fd ⟨a1.v, wrM x place j a1.pl, wrM x to.day j a1.dy, a1.K⟩ ++ [some (.dfr true), some (.loop .busy none 0 etN #[32] ca cb 16), some (.cells 136 1 0 (stC to))], []⟩) (.le2 ?_) ?_
                          · simp only [etN, ehN, heN, seG, stC, zI, slR, slC, List.cons_append, List.nil_append, wrM]; simp (maxSteps := 4000000) only [go_sem, seval]
                            try (first | rfl | exact ⟨rfl, rfl⟩)
                          · intro j hj
                            have hS1 := wrM_length (now := x) (x := place) (l := a1.pl) (k := j) (by rw [hq1]; omega)
                            have hF1 := wrM_length (now := x) (x := to.day) (l := a1.dy) (k := j) (by rw [hq2]; omega)
                            rw [hq1] at hS1
                            rw [hq2] at hF1
                            rcases Nat.lt_or_eq_of_le hj with hj1 | hj1
                            · have hin := inS_c x j hx8 (by omega)
                              simp only [wrM]
                              generalize wrM x place j a1.pl = S1 at *
                              generalize wrM x to.day j a1.dy = F1 at *
                              have hss := fun x y z u v => ss_pl (x := x) (y := y) (z := z) (u := u) (S := S1) (F := F1) (i := j) (v := v) (by omega)
                              have hsd := fun x y z u v w => ss_dy (x := x) (y := y) (z := z) (u := u) (S := isp S1 j v) (F := F1) (i := j) (v := w) (by rw [isp_length (by omega)]; exact hS1) (by omega)
                              have hle1 := se_len hS1 hF1
                              have hle2 := fun v => se_len (S := isp S1 j v) (F := F1) (by rw [isp_length (by omega)]; exact hS1) hF1
                              generalize x.testBit j = b at *
                              cases b
                              · simp only [etN, ehN, heN, seG, stC, zI, slR, slC, List.cons_append, List.nil_append, Bool.false_eq_true, if_false]; simp (maxSteps := 4000000) only [go_sem, seval]
                                (repeat' (first
 | ((exfalso; omega))
 | ((omega))
 | (refine zC ?_)
 | (refine kt ?_)
 | (refine And.intro ?_ ?_)
 | ((first | refine awp_region ?_ | refine awp_draw (by kernel_rfl) (by kernel_rfl) ?_ | refine Imp.le2 ?_ | refine awp_label ?_ | refine awp_skip ?_ | refine awp_exit ?_ | refine awp_cd ?_ | refine awp_ret ?_ | refine callK_of (hin) ?_ | refine go_split (fun _h => ?_) (fun _h => ?_)) <;> try simp (maxSteps := 4000000) only [go_sem, seval])
 | (intro _h)
 | (refine zA ?_)
 | (refine zB ?_)
 | (refine cond_b (fun _h => ?_) (fun _h => ?_))
 | (show zE _ _ = true; kernel_rfl)
 | (show zD _ _ = true; kernel_rfl)
 | (omega)))
                                all_goals trace_state
                              · simp only [etN, ehN, heN, seG, stC, zI, slR, slC, List.cons_append, List.nil_append, if_true]; simp (maxSteps := 4000000) only [go_sem, seval]
                                (repeat' (first
 | ((exfalso; omega))
 | ((omega))
 | (refine zC ?_)
 | (refine kt ?_)
 | (refine And.intro ?_ ?_)
 | ((first | refine awp_region ?_ | refine awp_draw3 (by kernel_rfl) (by kernel_rfl) ?_ | refine Imp.le2 ?_ | refine awp_label ?_ | refine awp_skip ?_ | refine awp_exit ?_ | refine awp_cd ?_ | refine awp_ret ?_ | refine callK_of (hin) ?_ | refine go_split (fun _h => ?_) (fun _h => ?_)) <;> try simp (maxSteps := 4000000) only [go_sem, seval, hss, hsd, hle1, hle2])
 | (intro _h)
 | (refine zA ?_)
 | (refine zB ?_)
 | (refine cond_b (fun _h => ?_) (fun _h => ?_))
 | (show heapOK3 _ _ _ = true; kernel_rfl)
 | (show zE _ _ = true; kernel_rfl)
 | (show zD _ _ = true; kernel_rfl)
 | (omega)))
                                all_goals trace_state
                            · subst hj1
                              simp only [putE] at hih
                              generalize wrM x place t.reports.length a1.pl = S1 at *
                              generalize wrM x to.day t.reports.length a1.dy = F1 at *
                              clear hF hF0
                              cases fd
                              all_goals
                                simp only [etN, ehN, heN, seG, stC, zI, slR, slC, List.cons_append, List.nil_append, Bool.true_or, Bool.false_or] at hih ⊢
                                simp (maxSteps := 4000000) only [go_sem, seval]
                                (repeat' (first
 | (refine zK 4 rfl ?_; simp (maxSteps := 4000000) only [go_sem, seval, List.take_succ_cons, List.take_zero, hst2, hsn2]; (repeat refine And.intro (by omega) ?_); refine own_go (hih) [0, 1, 2, 3, 4, 5, 6, 7, 8, 9] rfl ?_ ?_ ?_ ?_ <;> try simp (maxSteps := 4000000) only [go_sem, seval, Nat.lt_irrefl, hst2, hsn2] <;> try decide)
 | ((exfalso; omega))
 | ((omega))
 | (refine zC ?_)
 | (refine kt ?_)
 | (refine And.intro ?_ ?_)
 | ((first | refine awp_region ?_ | refine awp_draw (by kernel_rfl) (by kernel_rfl) ?_ | refine Imp.le2 ?_ | refine awp_label ?_ | refine awp_skip ?_ | refine awp_exit ?_ | refine awp_cd ?_ | refine awp_ret ?_ | refine go_split (fun _h => ?_) (fun _h => ?_)) <;> try simp (maxSteps := 4000000) only [go_sem, seval, hst2, hsn2])
 | (intro _h)
 | (refine zA ?_)
 | (refine zB ?_)
 | (refine cond_b (fun _h => ?_) (fun _h => ?_))
 | (show zE _ _ = true; kernel_rfl)
 | (show zD _ _ = true; kernel_rfl)
 | (omega)))
                              all_goals first | (rw [_h]; done) | trace_state
                        all_goals trace_state
                    · have h1 : oneM t (eachM t (fnS t) f) s place x a1 = ((false, true), a1) := by unfold oneM; rw [if_neg hm]
                      rw [h1] at hF
                      simp only [if_true, Bool.or_false] at hF
                      rw [Bool.not_eq_true] at hm
                      rw [hm] at hmay
                      generalize (mayS t s x).1 = to at *
                      simp only [etN, ehN, heN, seG, stC, zI, slR, slC, List.cons_append, List.nil_append, seC] at hmay ⊢
                      simp (maxSteps := 4000000) only [go_sem, seval]
                      (repeat' (first
 | ((exfalso; omega))
 | ((omega))
 | ((refine zK (id := 10) 4 rfl ?_; simp (maxSteps := 4000000) only [go_sem, seval, List.take_succ_cons, List.take_zero]; refine callH_yield true (ehN t  s place fd a1 ++ [some (.dfr true), some (.loop .ready none 0 etN #[32] ca cb 16)]) ?_ ?_ <;> simp only [etN, ehN, heN, seG, stC, zI, slR, slC, List.cons_append, List.nil_append] <;> (try simp (maxSteps := 4000000) only [go_sem, seval])))
 | (refine zC ?_)
 | (refine kt ?_)
 | (refine And.intro ?_ ?_)
 | ((first | refine awp_region ?_ | refine awp_draw (by kernel_rfl) (by kernel_rfl) ?_ | refine Imp.le2 ?_ | refine awp_label ?_ | refine awp_skip ?_ | refine awp_exit ?_ | refine awp_cd ?_ | refine awp_ret ?_ | refine go_split (fun _h => ?_) (fun _h => ?_)) <;> try simp (maxSteps := 4000000) only [go_sem, seval, e5, e6])
 | (intro _h)
 | (refine zA ?_)
 | (refine zB ?_)
 | (refine cond_b (fun _h => ?_) (fun _h => ?_))
 | (show zE _ _ = true; kernel_rfl)
 | (show zD _ _ = true; kernel_rfl)
 | (omega)))
                      · refine semY_of_awpZ rfl rfl ?_
                        intro B w0 l m w
                        refine awp_code hca ?_
                        (repeat' (first
 | (refine zC ?_)
 | (refine kt ?_)
 | (refine And.intro ?_ ?_)
 | ((first | refine awp_region ?_ | refine awp_draw (by kernel_rfl) (by kernel_rfl) ?_ | refine Imp.le2 ?_ | refine awp_label ?_ | refine awp_skip ?_ | refine awp_exit ?_ | refine awp_cd ?_ | refine awp_ret ?_ | refine go_split (fun _h => ?_) (fun _h => ?_)) <;> try simp (maxSteps := 4000000) only [go_sem, seval])
 | (intro _h)
 | (refine zA ?_)
 | (refine zB ?_)
 | (refine cond_b (fun _h => ?_) (fun _h => ?_))
 | (show zE _ _ = true; kernel_rfl)
 | (show zD _ _ = true; kernel_rfl)
 | (omega)))
                        refine awp_code hcb ?_
                        (repeat' (first
 | (refine zK 3 rfl ?_; simp (maxSteps := 4000000) only [go_sem, seval, List.take_succ_cons, List.take_zero, hst, hsn, hst2, hsn2]; (repeat refine And.intro (by omega) ?_); refine own_go (hmay) [6, 5] rfl ?_ ?_ ?_ ?_ <;> try simp (maxSteps := 4000000) only [go_sem, seval, Nat.lt_irrefl, hst, hsn, hst2, hsn2] <;> try decide)
 | (refine zC ?_)
 | (refine kt ?_)
 | (refine And.intro ?_ ?_)
 | ((first | refine awp_region ?_ | refine awp_draw (by kernel_rfl) (by kernel_rfl) ?_ | refine Imp.le2 ?_ | refine awp_label ?_ | refine awp_skip ?_ | refine awp_exit ?_ | refine awp_cd ?_ | refine awp_ret ?_ | refine go_split (fun _h => ?_) (fun _h => ?_)) <;> try simp (maxSteps := 4000000) only [go_sem, seval, hst, hsn, hst2, hsn2])
 | (intro _h)
 | (refine zA ?_)
 | (refine zB ?_)
 | (refine cond_b (fun _h => ?_) (fun _h => ?_))
 | (show zE _ _ = true; kernel_rfl)
 | (show zD _ _ = true; kernel_rfl)
 | (omega)))
                        all_goals trace_state
                      · refine ⟨((x - 1) &&& s.rest, fd, a1), ⟨hxx, ha1, hF⟩, by simp only; omega, .le2 ?_⟩
                        simp only [etN, ehN, heN, seG, stC, zI, slR, slC, List.cons_append, List.nil_append]; simp (maxSteps := 4000000) only [go_sem, seval]
                        try (first | rfl | exact ⟨rfl, rfl⟩)
        · rfl
        · rcases hcase with ⟨_, h, _, _⟩ | ⟨_, h, _, _⟩ <;> (rw [h]; simp)
        · rcases hcase with ⟨_, _, h1, h2⟩ | ⟨_, _, h1, h2⟩ <;> (rw [h1, h2]; rfl)
        · rcases hcase with ⟨h1, h2, h3, h4⟩ | ⟨h1, h2, h3, h4⟩
          · subst h1 h2 h3 h4
            have e3 : (endM s ((fE, true), aE)).2 = { aE with K := gmPut aE.K ⟨s, hs.sl, hs.fl⟩ (!fE) } := by
              unfold endM putS; rw [if_pos rfl, dif_pos ⟨hs.sl, hs.fl⟩]
            rw [e3]
            have hmu1 := fun (f : List (AV × AV) → Prop) => mup_km (m := aE.K) (k := ⟨s, hs.sl, hs.fl⟩) (v := true) (f := f)
            have hmu2 := fun (f : List (AV × AV) → Prop) => mup_km (m := aE.K) (k := ⟨s, hs.sl, hs.fl⟩) (v := false) (f := f)
            simp only [keyV, stC] at hmu1 hmu2
            cases fE
            all_goals
              simp only [Bool.not_true, Bool.not_false]
              simp only [etN, ehN, heN, seG, stC, zI, slR, slC, List.cons_append, List.nil_append]; simp (maxSteps := 4000000) only [go_sem, seval]
              (repeat' (first
 | ((exact hkey _ _))
 | (refine zC ?_)
 | (refine kt ?_)
 | (refine And.intro ?_ ?_)
 | ((first | refine awp_region ?_ | refine awp_draw (by kernel_rfl) (by kernel_rfl) ?_ | refine Imp.le2 ?_ | refine awp_label ?_ | refine awp_skip ?_ | refine awp_exit ?_ | refine awp_cd ?_ | refine awp_ret ?_ | refine go_split (fun _h => ?_) (fun _h => ?_)) <;> try simp (maxSteps := 4000000) only [go_sem, seval, hst, hsn, hmu1, hmu2])
 | (intro _h)
 | (refine zA ?_)
 | (refine zB ?_)
 | (refine cond_b (fun _h => ?_) (fun _h => ?_))
 | (show zE _ _ = true; kernel_rfl)
 | (show zD _ _ = true; kernel_rfl)
 | (omega)))
            all_goals trace_state
          · subst h1 h2 h3 h4
            have e3 : (endM s ((fE, false), aE)).2 = aE := by
              unfold endM; rw [if_neg (by simp)]
            rw [e3]
            simp only [etN, ehN, heN, seG, stC, zI, slR, slC, List.cons_append, List.nil_append]; simp (maxSteps := 4000000) only [go_sem, seval]
            (repeat' (first
 | (refine zC ?_)
 | (refine kt ?_)
 | (refine And.intro ?_ ?_)
 | ((first | refine awp_region ?_ | refine awp_draw (by kernel_rfl) (by kernel_rfl) ?_ | refine Imp.le2 ?_ | refine awp_label ?_ | refine awp_skip ?_ | refine awp_exit ?_ | refine awp_cd ?_ | refine awp_ret ?_ | refine go_split (fun _h => ?_) (fun _h => ?_)) <;> try simp (maxSteps := 4000000) only [go_sem, seval])
 | (intro _h)
 | (refine zA ?_)
 | (refine zB ?_)
 | (refine cond_b (fun _h => ?_) (fun _h => ?_))
 | (show zE _ _ = true; kernel_rfl)
 | (show zD _ _ = true; kernel_rfl)
 | (omega)))
            all_goals trace_state
end Go.Am
namespace Go.Am
open Go.RowKit Go.Proofs
attribute [local irreducible] AWP zP Kt goK CallK stepK zQ SemF SemY Imp
set_option maxRecDepth 4000
set_option linter.unusedSimpArgs false
set_option linter.unusedVariables false
set_option maxHeartbeats 6400000
theorem allN_c (t : Ann)  (ht : AnnOK t)  (v : Bool × List Int × List Int) (hv : fnOK v) : SemF Try.prog 51 [.agg (zI t), .fn (.func 95) [] [.ptr 0 0 0, .ptr 1 0 0, .ptr 2 0 0]] [some (.cells 35 1 0 (zI t)), some (.cells 61 1 0 (chC v)), some (.cells 4 1 0 [.bool v.1])] (.tup []) [some (.cells 35 1 0 (zI t)), some (.cells 61 1 0 (chC (allM t (fnS t) v).2.v)), some (.cells 4 1 0 [.bool (allM t (fnS t) v).2.v.1])] := by
  have h128 : (begS t).rest < 128 := by
    show 2 ^ t.reports.length - 1 < 128
    have : 2 ^ t.reports.length ≤ 2 ^ 7 := Nat.pow_le_pow_right (by omega) ht.reports.2
    omega
  have hm := eachN_c t  ht  128 (begS t) 0 ⟨v, zer7, zer7, []⟩ (begS_ok ht) h128 (Int.le_refl _) (by omega) ⟨hv, zer_ok⟩
  have hbe := begin_c t ht.reports.2
  have hz : (zO zer7 ++ zO zer7) = [.int .i64 0, .int .i64 0, .int .i64 0, .int .i64 0, .int .i64 0, .int .i64 0, .int .i64 0, .int .i64 0, .int .i64 0, .int .i64 0, .int .i64 0, .int .i64 0, .int .i64 0, .int .i64 0] := rfl
  unfold allM
  generalize (eachM t (fnS t) 128 (begS t) 0 ⟨v, zer7, zer7, []⟩) = R at *
  obtain ⟨⟨f1, m1⟩, vE, plE, dyE, KE⟩ := R
  simp only [heN, seG, hz, kmC_nil2, zI, slR, slC, List.cons_append, List.nil_append] at hm hbe ⊢
  generalize (begS t) = st at *
  simp only [stC] at hm hbe
  (refine zJ (ys := []) (fun w args => Try.call51 ..) Try.func51 rfl (fun w0 m0 wz => ?_); simp only [Try.ntmps51, Try.results51, zM, zN, zR, zS, slR, slC, zI, sl, List.toList_toArray, List.cons_append, List.nil_append, List.length_cons, List.length_nil, Nat.reduceAdd, Nat.reduceSub])
  (repeat' (first
 | (refine zC ?_)
 | (refine kt ?_)
 | (refine And.intro ?_ ?_)
 | ((first | refine awp_region ?_ | refine Imp.le2 ?_ | refine awp_label ?_ | refine awp_skip ?_ | refine awp_exit ?_ | refine awp_cd ?_ | refine awp_ret ?_ | refine go_split (fun _h => ?_) (fun _h => ?_)) <;> try simp (maxSteps := 4000000) only [go_sem, seval])
 | (intro _h)
 | (refine zA ?_)
 | (refine zB ?_)
 | (refine cond_b (fun _h => ?_) (fun _h => ?_))
 | (show zE _ _ = true; kernel_rfl)
 | (show zD _ _ = true; kernel_rfl)
 | (omega)))
  ((repeat refine zC ?_); refine awp_draws [(3, [1, 2, 5, 6])] (by kernel_rfl) (by kernel_rfl) ?_; simp (maxSteps := 4000000) only [go_sem, seval, sg_cons, sg_nil, List.take_succ_cons, List.take_zero, List.drop_succ_cons, List.drop_zero])
  (repeat' (first
 | (refine zC ?_)
 | (refine kt ?_)
 | (refine And.intro ?_ ?_)
 | ((first | refine awp_region ?_ | refine Imp.le2 ?_ | refine awp_label ?_ | refine awp_skip ?_ | refine awp_exit ?_ | refine awp_cd ?_ | refine awp_ret ?_ | refine callK_of (hbe) ?_ | refine go_split (fun _h => ?_) (fun _h => ?_)) <;> try simp (maxSteps := 4000000) only [go_sem, seval])
 | (intro _h)
 | (refine zA ?_)
 | (refine zB ?_)
 | (refine cond_b (fun _h => ?_) (fun _h => ?_))
 | (show zE _ _ = true; kernel_rfl)
 | (show zD _ _ = true; kernel_rfl)
 | (omega)))
  (refine own_go (hm) [0, 1, 2, 3, 4, 5, 6, 7, 8, 9] rfl (by simp (maxSteps := 4000000) only [go_sem, seval]) (by simp (maxSteps := 4000000) only [go_sem, seval, Nat.lt_irrefl] <;> decide) (by simp (maxSteps := 4000000) only [go_sem, seval]) ?_; simp (maxSteps := 4000000) only [go_sem, seval]; refine And.intro (frm_of (by repeat (first | exact rfl | exact ⟨_, rfl⟩ | refine And.intro ?_ ?_))) ?_; try simp (maxSteps := 4000000) only [go_sem, seval, sg_cons, sg_nil, List.take_succ_cons, List.take_zero, List.drop_succ_cons, List.drop_zero])
  (repeat' (first
 | (refine zC ?_)
 | (refine kt ?_)
 | (refine And.intro ?_ ?_)
 | ((first | refine awp_region ?_ | refine Imp.le2 ?_ | refine awp_label ?_ | refine awp_skip ?_ | refine awp_exit ?_ | refine awp_cd ?_ | refine awp_ret ?_ | refine go_split (fun _h => ?_) (fun _h => ?_)) <;> try simp (maxSteps := 4000000) only [go_sem, seval])
 | (intro _h)
 | (refine zA ?_)
 | (refine zB ?_)
 | (refine cond_b (fun _h => ?_) (fun _h => ?_))
 | (show zE _ _ = true; kernel_rfl)
 | (show zD _ _ = true; kernel_rfl)
 | (omega)))
  all_goals trace_state
end Go.Am
namespace Go.Am
open Go.RowKit Go.Proofs
attribute [local irreducible] AWP zP Kt goK CallK stepK zQ SemF SemY Imp
set_option maxRecDepth 4000
set_option linter.unusedSimpArgs false
set_option linter.unusedVariables false
set_option maxHeartbeats 1600000
def fnV (t : Ann) : Bool × List Int × List Int := (allM t (fnS t) (false, [], [])).2.v
theorem fn_resp (t : Ann) : Resp t (fnS t) := fun v pl dy pl' dy' h1 h2 => by
  unfold fnS slN
  rw [slK_cong h1, tab_cg h2]
theorem fnV_spec {t : Ann} (ht : AnnOK t) : ((fnV t).1 = true ↔ ∃ C D, Chr t C D) := by
  have h := all_spec ht (fn_resp t) (false, [], [])
  have e : fnV t = (visL (gOf (fnS t)) ((runsA t).map (canon t)) (false, [], [])).1 := h
  rw [e]
  cases hr : runsA t with
  | nil =>
    constructor
    · intro h2; exact absurd h2 (by simp [visL])
    · rintro ⟨C, D, hc⟩
      obtain ⟨p, hp, _⟩ := chr_runs ht hc
      rw [hr] at hp; cases hp
  | cons p l =>
    constructor
    · intro _
      exact ⟨_, _, runs_chr ht (p := p) (by rw [hr]; simp)⟩
    · intro _
      rfl
theorem find_c (t : Ann) (ht : AnnOK t) : zP Try.prog 65 [.agg (zI t)] (.tup [.agg (chC (fnV t)), .bool (fnV t).1]) := by
  have h := allN_c t ht (false, [], []) trivial
  have e : (allM t (fnS t) (false, [], [])).2.v = fnV t := rfl
  rw [e] at h
  generalize fnV t = V at *
  have e2 : chC (false, [], []) = [.nils, .nils] := rfl
  rw [e2] at h
  obtain ⟨b, S, D⟩ := V
  have e3 : chC (true, S, D) = [.psl false S.length (zO S), .psl false D.length (zO D)] := rfl
  have e4 : chC (false, S, D) = [.nils, .nils] := rfl
  cases b
  all_goals
    simp only [zI, slR, slC, e3, e4] at h ⊢
    (refine zF (fun w args => Try.call65 ..) Try.func65 rfl (fun w0 m0 wz => ?_); simp only [Try.ntmps65, Try.results65, zM, zN, zR, zS, slR, slC, zI, sl, List.toList_toArray, List.cons_append, List.nil_append, List.length_cons, List.length_nil, Nat.reduceAdd, Nat.reduceSub])
    (repeat' (first
 | (refine zK 2 rfl ?_; simp (maxSteps := 4000000) only [go_sem, seval, List.take_succ_cons, List.take_zero]; (repeat refine And.intro (by omega) ?_); refine own_go (h) [0, 1, 2] rfl ?_ ?_ rfl ?_ <;> try simp (maxSteps := 4000000) only [go_sem, seval, Nat.lt_irrefl] <;> try decide)
 | ((exfalso; omega))
 | (refine zC ?_)
 | (refine kt ?_)
 | (refine And.intro ?_ ?_)
 | ((first | refine awp_region ?_ | refine awp_draw (by kernel_rfl) (by kernel_rfl) ?_ | refine Imp.le2 ?_ | refine awp_label ?_ | refine awp_skip ?_ | refine awp_exit ?_ | refine awp_cd ?_ | refine awp_ret ?_ | refine go_split (fun _h => ?_) (fun _h => ?_)) <;> try simp (maxSteps := 4000000) only [go_sem, seval])
 | (intro _h)
 | (refine zA ?_)
 | (refine zB ?_)
 | (refine cond_b (fun _h => ?_) (fun _h => ?_))
 | (show zE _ _ = true; kernel_rfl)
 | (show zD _ _ = true; kernel_rfl)
 | (omega)))
    all_goals first | exact (rfl : AV.agg _ = AV.agg _) | (exfalso; simp at _h; done) | trace_state
def findE (t : Ann) : Int := if faultA t = 0 then (if (fnV t).1 = true then 0 else 9) else faultA t
def findV (t : Ann) : List AV := if findE t = 0 then chC (fnV t) else [.nils, .nils]
theorem Find_c (t : Ann) (hb : annOK t) (ht : faultA t = 0 → AnnOK t) : zP Try.prog 31 [.agg (zI t)] (.tup [.agg (findV t), .int .i64 (findE t)]) := by
  have hch := check_c t hb
  unfold findV findE
  by_cases h0 : faultA t = 0
  · have ht := ht h0
    have hf := find_c t ht
    rw [if_pos h0]
    rw [h0] at hch
    generalize fnV t = V at *
    obtain ⟨b, S, D⟩ := V
    have e3 : chC (true, S, D) = [.psl false S.length (zO S), .psl false D.length (zO D)] := rfl
    have e4 : chC (false, S, D) = [.nils, .nils] := rfl
    cases b with
    | true =>
      simp only [if_true]
      simp only [zI, slR, slC, e3, e4] at hf hch ⊢
      (refine zF (fun w args => Try.call31 ..) Try.func31 rfl (fun w0 m0 wz => ?_); simp only [Try.ntmps31, Try.results31, zM, zN, zR, zS, slR, slC, zI, sl, List.toList_toArray, List.cons_append, List.nil_append, List.length_cons, List.length_nil, Nat.reduceAdd, Nat.reduceSub])
      (repeat' (first
 | (refine zC ?_)
 | (refine kt ?_)
 | (refine And.intro ?_ ?_)
 | ((first | refine awp_region ?_ | refine awp_draw (by kernel_rfl) (by kernel_rfl) ?_ | refine Imp.le2 ?_ | refine awp_label ?_ | refine awp_skip ?_ | refine awp_exit ?_ | refine awp_cd ?_ | refine awp_ret ?_ | refine callK_of (hch) ?_ | refine callK_of (hf) ?_ | refine go_split (fun _h => ?_) (fun _h => ?_)) <;> try simp (maxSteps := 4000000) only [go_sem, seval])
 | (intro _h)
 | (refine zA ?_)
 | (refine zB ?_)
 | (refine cond_b (fun _h => ?_) (fun _h => ?_))
 | (show zE _ _ = true; kernel_rfl)
 | (show zD _ _ = true; kernel_rfl)
 | (omega)))
      all_goals first | exact (rfl : AV.agg _ = AV.agg _) | (exfalso; simp at _h; done) | trace_state
    | false =>
      simp only [Bool.false_eq_true, if_false]
      rw [if_neg (by omega)]
      simp only [zI, slR, slC, e3, e4] at hf hch ⊢
      (refine zF (fun w args => Try.call31 ..) Try.func31 rfl (fun w0 m0 wz => ?_); simp only [Try.ntmps31, Try.results31, zM, zN, zR, zS, slR, slC, zI, sl, List.toList_toArray, List.cons_append, List.nil_append, List.length_cons, List.length_nil, Nat.reduceAdd, Nat.reduceSub])
      (repeat' (first
 | (refine zC ?_)
 | (refine kt ?_)
 | (refine And.intro ?_ ?_)
 | ((first | refine awp_region ?_ | refine awp_draw (by kernel_rfl) (by kernel_rfl) ?_ | refine Imp.le2 ?_ | refine awp_label ?_ | refine awp_skip ?_ | refine awp_exit ?_ | refine awp_cd ?_ | refine awp_ret ?_ | refine callK_of (hch) ?_ | refine callK_of (hf) ?_ | refine go_split (fun _h => ?_) (fun _h => ?_)) <;> try simp (maxSteps := 4000000) only [go_sem, seval])
 | (intro _h)
 | (refine zA ?_)
 | (refine zB ?_)
 | (refine cond_b (fun _h => ?_) (fun _h => ?_))
 | (show zE _ _ = true; kernel_rfl)
 | (show zD _ _ = true; kernel_rfl)
 | (omega)))
      all_goals first | exact (rfl : AV.agg _ = AV.agg _) | (exfalso; simp at _h; done) | trace_state
  · rw [if_neg h0, if_neg h0]
    simp only [zI, slR, slC] at hch ⊢
    (refine zF (fun w args => Try.call31 ..) Try.func31 rfl (fun w0 m0 wz => ?_); simp only [Try.ntmps31, Try.results31, zM, zN, zR, zS, slR, slC, zI, sl, List.toList_toArray, List.cons_append, List.nil_append, List.length_cons, List.length_nil, Nat.reduceAdd, Nat.reduceSub])
    (repeat' (first
 | (refine zC ?_)
 | (refine kt ?_)
 | (refine And.intro ?_ ?_)
 | ((first | refine awp_region ?_ | refine awp_draw (by kernel_rfl) (by kernel_rfl) ?_ | refine Imp.le2 ?_ | refine awp_label ?_ | refine awp_skip ?_ | refine awp_exit ?_ | refine awp_cd ?_ | refine awp_ret ?_ | refine callK_of (hch) ?_ | refine go_split (fun _h => ?_) (fun _h => ?_)) <;> try simp (maxSteps := 4000000) only [go_sem, seval])
 | (intro _h)
 | (refine zA ?_)
 | (refine zB ?_)
 | (refine cond_b (fun _h => ?_) (fun _h => ?_))
 | (show zE _ _ = true; kernel_rfl)
 | (show zD _ _ = true; kernel_rfl)
 | (omega)))
    all_goals first | exact (rfl : AV.agg _ = AV.agg _) | (exfalso; simp at _h; omega) | (exfalso; simp at _h; done) | trace_state
end Go.Am
namespace Go.Am
open Go.RowKit Go.Proofs
attribute [local irreducible] AWP zP Kt goK CallK stepK zQ SemF SemY Imp
set_option maxRecDepth 4000
set_option linter.unusedSimpArgs false
set_option linter.unusedVariables false
set_option maxHeartbeats 1600000
section
variable [Base] {P : Program} {w0 : World} {r : Option Nat} {o : Oper} {ρ : Operand → AV} {h : Nat → Option ABlk}
theorem sound_addw {t t' : TypeId} {x y : Operand} (ho : o.op = .binOp .add t x y t') {a b c : Int} (hx : ρ x = .int .i64 a) (hy : ρ y = .int .i64 b) (hc : IntKind.i64.wrap (a + b) = c) : OpOK P w0 r o ρ h ⟨.int .i64 c, [], none⟩ := by
  refine ok_pure (by simp [ho]) fun h' m w ac _ _ hop => ⟨.int .i64 c, ?_, .pure (.int _ _)⟩
  have h1 := hop x (by simp [ho, Op.operands]); rw [hx] at h1
  have h2 := hop y (by simp [ho, Op.operands]); rw [hy] at h2
  have hrun : ∀ w : World, (binOp BinOp.add t (.int .i64 a) (.int .i64 b)).run P w = .ok (.int .i64 c) w := fun w => by
    rw [← hc]
    first | (simp [binOp, Op.intArith]; done) | (simp [binOp, Op.intArith]; rfl)
  simp [execOp, ho, rep_int h1, rep_int h2, run_eqGuard_ints, hrun]
end
def nxW (v x : Int) : Int := if x = 9223372036854775807 then v else max v (x + 1)
def numU : Int → List Int → Nat × Int
  | v, [] => (0, v)
  | v, x :: xs => if 0 ≤ x ∧ x ≤ v then ((numU (nxW v x) xs).1 + 1, (numU (nxW v x) xs).2) else (0, nxW v x)
def N0 (v : Int) : Option ABlk := some (.cells 3 1 0 [.int .i64 v])
def N1 : Option ABlk := some (.cells 119 1 0 [.fn (.func 99) [] [.ptr 0 0 0]])
theorem numU_le : ∀ {l : List Int} {v : Int}, (numU v l).1 ≤ l.length
  | [], _ => Nat.le_refl _
  | x :: xs, v => by
    simp only [numU]
    split
    · have := numU_le (l := xs) (v := nxW v x); simp; omega
    · simp
theorem num1_c (v x : Int) (hv : 0 ≤ v ∧ v ≤ 2000000) (hx : x ≤ 9223372036854775807) (hx2 : -9223372036854775808 ≤ x) : SemF Try.prog 99 [.int .i64 x, .ptr 0 0 0] [N0 v] (.bool (decide (0 ≤ x ∧ x ≤ v))) [N0 (nxW v x)] := by
  unfold nxW
  by_cases hm : x = 9223372036854775807
  · rw [if_pos hm, decide_eq_false (by omega)]
    have hwc := within_c x 0 v
    rw [decide_eq_false (by omega)] at hwc
    have hmx : max v (-9223372036854775808) = v := by omega
    subst hm
    simp only [N0]
    (refine zJ (ys := [.bool false]) (fun w args => Try.call99 ..) Try.func99 rfl (fun w0 m0 wz => ?_); simp only [Try.ntmps99, Try.results99, zM, zN, zR, zS, slR, slC, zI, sl, List.toList_toArray, List.cons_append, List.nil_append, List.length_cons, List.length_nil, Nat.reduceAdd, Nat.reduceSub])
    (repeat' (first
 | ((refine awp_opN (id := 2) 2 rfl ⟨.int .i64 (-9223372036854775808), [], none⟩ ?_; simp (maxSteps := 4000000) only [go_sem, seval, List.take_succ_cons, List.take_zero]; refine ⟨rfl, sound_addw rfl rfl rfl (by rw [IntKind.wrap_i64]; decide), ?_⟩))
 | ((omega))
 | ((exfalso; omega))
 | (refine zC ?_)
 | (refine kt ?_)
 | (refine And.intro ?_ ?_)
 | ((first | refine awp_region ?_ | refine awp_draw (by kernel_rfl) (by kernel_rfl) ?_ | refine Imp.le2 ?_ | refine awp_label ?_ | refine awp_skip ?_ | refine awp_exit ?_ | refine awp_cd ?_ | refine awp_ret ?_ | refine callK_of (hwc) ?_ | refine callK_of (latest_c _ _ _) ?_ | refine go_split (fun _h => ?_) (fun _h => ?_)) <;> try simp (maxSteps := 4000000) only [go_sem, seval, hmx])
 | (intro _h)
 | (refine zA ?_)
 | (refine zB ?_)
 | (refine cond_b (fun _h => ?_) (fun _h => ?_))
 | (show zE _ _ = true; kernel_rfl)
 | (show zD _ _ = true; kernel_rfl)
 | (omega)))
    all_goals trace_state
  · rw [if_neg hm]
    simp only [N0]
    (refine zJ (ys := [.bool (decide (0 ≤ x ∧ x ≤ v))]) (fun w args => Try.call99 ..) Try.func99 rfl (fun w0 m0 wz => ?_); simp only [Try.ntmps99, Try.results99, zM, zN, zR, zS, slR, slC, zI, sl, List.toList_toArray, List.cons_append, List.nil_append, List.length_cons, List.length_nil, Nat.reduceAdd, Nat.reduceSub])
    (repeat' (first
 | ((omega))
 | ((exfalso; omega))
 | (refine zC ?_)
 | (refine kt ?_)
 | (refine And.intro ?_ ?_)
 | ((first | refine awp_region ?_ | refine awp_draw (by kernel_rfl) (by kernel_rfl) ?_ | refine Imp.le2 ?_ | refine awp_label ?_ | refine awp_skip ?_ | refine awp_exit ?_ | refine awp_cd ?_ | refine awp_ret ?_ | refine callK_of (within_c _ _ _) ?_ | refine callK_of (latest_c _ _ _) ?_ | refine go_split (fun _h => ?_) (fun _h => ?_)) <;> try simp (maxSteps := 4000000) only [go_sem, seval])
 | (intro _h)
 | (refine zA ?_)
 | (refine zB ?_)
 | (refine cond_b (fun _h => ?_) (fun _h => ?_))
 | (show zE _ _ = true; kernel_rfl)
 | (show zD _ _ = true; kernel_rfl)
 | (omega)))
    all_goals first | exact (decide_eq_true ‹_›).symm | exact (decide_eq_false ‹_›).symm | trace_state
theorem num2_c (v x : Int) (hv : 0 ≤ v ∧ v ≤ 2000000) (hx : x ≤ 9223372036854775807) (hx2 : -9223372036854775808 ≤ x) : SemF Try.prog 97 [.int .i64 x, .ptr 1 0 0] [N0 v, N1] (.bool (!decide (0 ≤ x ∧ x ≤ v))) [N0 (nxW v x), N1] := by
  have h1 := num1_c v x hv hx hx2
  simp only [N0, N1] at h1 ⊢
  generalize decide (0 ≤ x ∧ x ≤ v) = q at *
  (refine zJ (ys := [.bool (!q)]) (fun w args => Try.call97 ..) Try.func97 rfl (fun w0 m0 wz => ?_); simp only [Try.ntmps97, Try.results97, zM, zN, zR, zS, slR, slC, zI, sl, List.toList_toArray, List.cons_append, List.nil_append, List.length_cons, List.length_nil, Nat.reduceAdd, Nat.reduceSub])
  (repeat' (first
 | (refine zK 2 rfl ?_; simp (maxSteps := 4000000) only [go_sem, seval, List.take_succ_cons, List.take_zero]; (repeat refine And.intro (by omega) ?_); refine own_go (h1) [0] rfl ?_ ?_ rfl ?_ <;> try simp (maxSteps := 4000000) only [go_sem, seval, Nat.lt_irrefl] <;> try decide)
 | (refine zC ?_)
 | (refine kt ?_)
 | (refine And.intro ?_ ?_)
 | ((first | refine awp_region ?_ | refine awp_draw (by kernel_rfl) (by kernel_rfl) ?_ | refine Imp.le2 ?_ | refine awp_label ?_ | refine awp_skip ?_ | refine awp_exit ?_ | refine awp_cd ?_ | refine awp_ret ?_ | refine go_split (fun _h => ?_) (fun _h => ?_)) <;> try simp (maxSteps := 4000000) only [go_sem, seval])
 | (intro _h)
 | (refine zA ?_)
 | (refine zB ?_)
 | (refine cond_b (fun _h => ?_) (fun _h => ?_))
 | (show zE _ _ = true; kernel_rfl)
 | (show zD _ _ = true; kernel_rfl)
 | (omega))) <;> simp [*]
theorem numI_c (l : List Int) (hl : l.length ≤ 1000000) (hx : ∀ x ∈ l, -9223372036854775808 ≤ x ∧ x ≤ 9223372036854775807) : SemF Try.prog 111 [sl l, .fn (.func 97) [] [.ptr 1 0 0]] [N0 0, N1] (.int .i64 (if (numU 0 l).1 = l.length then -1 else (numU 0 l).1)) [N0 (numU 0 l).2, N1] := by
  have hq := fun v i hv (hi : i < l.length) => num2_c v (l.getD i 0) hv (hx _ (by rw [List.getD_eq_getElem?_getD, List.getElem?_eq_getElem hi]; exact List.getElem_mem hi)).2 (hx _ (by rw [List.getD_eq_getElem?_getD, List.getElem?_eq_getElem hi]; exact List.getElem_mem hi)).1
  have hd : ∀ i, i < l.length → l.drop i = l.getD i 0 :: l.drop (i + 1) := fun i hi => by
    rw [List.drop_eq_getElem_cons hi]; simp [List.getD_eq_getElem?_getD, hi]
  obtain ⟨R, hR⟩ : ∃ R, numU 0 l = R := ⟨_, rfl⟩
  rw [hR]
  simp only [N0, N1] at hq ⊢
  (refine zJ (ys := [.int .i64 (if R.1 = l.length then -1 else R.1)]) (fun w args => Try.call111 ..) Try.func111 rfl (fun w0 m0 wz => ?_); simp only [Try.ntmps111, Try.results111, zM, zN, zR, zS, slR, slC, zI, sl, List.toList_toArray, List.cons_append, List.nil_append, List.length_cons, List.length_nil, Nat.reduceAdd, Nat.reduceSub])
  (repeat' (first
 | (refine zC ?_)
 | (refine kt ?_)
 | (refine And.intro ?_ ?_)
 | ((first | refine awp_region ?_ | refine awp_draw (by kernel_rfl) (by kernel_rfl) ?_ | refine Imp.le2 ?_ | refine awp_label ?_ | refine awp_skip ?_ | refine awp_exit ?_ | refine awp_cd ?_ | refine awp_ret ?_ | refine go_split (fun _h => ?_) (fun _h => ?_)) <;> try simp (maxSteps := 4000000) only [go_sem, seval])
 | (intro _h)
 | (refine zA ?_)
 | (refine zB ?_)
 | (refine cond_b (fun _h => ?_) (fun _h => ?_))
 | (show zE _ _ = true; kernel_rfl)
 | (show zD _ _ = true; kernel_rfl)
 | (omega)))
  refine awp_loopJ (fun y : Nat × Int => y.1 ≤ l.length ∧ (0 ≤ y.2 ∧ y.2 ≤ y.1) ∧ R = (y.1 + (numU y.2 (l.drop y.1)).1, (numU y.2 (l.drop y.1)).2)) (fun y => ⟨mkT 19 [(0, sl l), (1, .fn (.func 97) [] [.ptr 1 0 0]), (6, sl l), (7, .int .i64 l.length), (8, .int .i64 y.1)], [N0 y.2, N1], []⟩) (fun y => l.length - y.1) (0, 0) ⟨Nat.zero_le _, by simp, by simp [hR]⟩ (.le2 ?_) ?_
  · simp only [N0, N1]; simp (maxSteps := 4000000) only [go_sem, seval]
    all_goals first | rfl | exact ⟨rfl, rfl⟩ | exact ⟨rfl, rfl, rfl⟩
  · rintro ⟨i, v⟩ ⟨hi, hv, hj⟩
    clear hR
    simp only at hi hv hj
    rcases Nat.lt_or_eq_of_le hi with hi1 | hi1
    · have hqi := hq v i (by omega) hi1
      rw [hd i hi1] at hj
      simp only [numU] at hj
      obtain ⟨q, hqe⟩ : ∃ q, decide (0 ≤ l.getD i 0 ∧ l.getD i 0 ≤ v) = q := ⟨_, rfl⟩
      rw [hqe] at hqi
      cases q with
      | true =>
        have hqt := of_decide_eq_true hqe
        rw [if_pos hqt] at hj
        simp only [N0, N1]; simp (maxSteps := 4000000) only [go_sem, seval]
        (repeat' (first
 | (refine zK 5 rfl ?_; simp (maxSteps := 4000000) only [go_sem, seval, List.take_succ_cons, List.take_zero]; (repeat refine And.intro (by omega) ?_); refine own_go (hqi) [0, 1] rfl ?_ ?_ rfl ?_ <;> try simp (maxSteps := 4000000) only [go_sem, seval, Nat.lt_irrefl] <;> try decide)
 | ((omega))
 | ((exfalso; omega))
 | (refine zC ?_)
 | (refine kt ?_)
 | (refine And.intro ?_ ?_)
 | ((first | refine awp_region ?_ | refine awp_draw (by kernel_rfl) (by kernel_rfl) ?_ | refine Imp.le2 ?_ | refine awp_label ?_ | refine awp_skip ?_ | refine awp_exit ?_ | refine awp_cd ?_ | refine awp_ret ?_ | refine go_split (fun _h => ?_) (fun _h => ?_)) <;> try simp (maxSteps := 4000000) only [go_sem, seval])
 | (intro _h)
 | (refine zA ?_)
 | (refine zB ?_)
 | (refine cond_b (fun _h => ?_) (fun _h => ?_))
 | (show zE _ _ = true; kernel_rfl)
 | (show zD _ _ = true; kernel_rfl)
 | (omega)))
        refine ⟨(i + 1, nxW v (l.getD i 0)), ⟨by show i + 1 ≤ l.length; omega, ?_, ?_⟩, by show l.length - (i + 1) < l.length - i; omega, .le2 ?_⟩
        · have hw : nxW v (l.getD i 0) = max v (l.getD i 0 + 1) := by unfold nxW; rw [if_neg (by omega)]
          show 0 ≤ nxW v (l.getD i 0) ∧ nxW v (l.getD i 0) ≤ ((i + 1 : Nat) : Int)
          rw [hw]; omega
        · rw [hj]
          simp only [Prod.mk.injEq, and_true]
          omega
        · simp (maxSteps := 4000000) only [go_sem, seval]
          all_goals first | rfl | exact ⟨rfl, rfl⟩ | trace_state
      | false =>
        rw [if_neg (of_decide_eq_false hqe)] at hj
        subst hj
        simp only [N0, N1]; simp (maxSteps := 4000000) only [go_sem, seval]
        (repeat' (first
 | (refine zK 5 rfl ?_; simp (maxSteps := 4000000) only [go_sem, seval, List.take_succ_cons, List.take_zero]; (repeat refine And.intro (by omega) ?_); refine own_go (hqi) [0, 1] rfl ?_ ?_ rfl ?_ <;> try simp (maxSteps := 4000000) only [go_sem, seval, Nat.lt_irrefl] <;> try decide)
 | ((omega))
 | ((exfalso; omega))
 | (refine zC ?_)
 | (refine kt ?_)
 | (refine And.intro ?_ ?_)
 | ((first | refine awp_region ?_ | refine awp_draw (by kernel_rfl) (by kernel_rfl) ?_ | refine Imp.le2 ?_ | refine awp_label ?_ | refine awp_skip ?_ | refine awp_exit ?_ | refine awp_cd ?_ | refine awp_ret ?_ | refine go_split (fun _h => ?_) (fun _h => ?_)) <;> try simp (maxSteps := 4000000) only [go_sem, seval])
 | (intro _h)
 | (refine zA ?_)
 | (refine zB ?_)
 | (refine cond_b (fun _h => ?_) (fun _h => ?_))
 | (show zE _ _ = true; kernel_rfl)
 | (show zD _ _ = true; kernel_rfl)
 | (omega)))
        all_goals first | (rw [if_neg (by omega)]; rfl) | trace_state
    · subst hi1
      simp only [List.drop_length, numU] at hj
      subst hj
      simp only [N0, N1]; simp (maxSteps := 4000000) only [go_sem, seval]
      (repeat' (first
 | ((exfalso; omega))
 | (refine zC ?_)
 | (refine kt ?_)
 | (refine And.intro ?_ ?_)
 | ((first | refine awp_region ?_ | refine awp_draw (by kernel_rfl) (by kernel_rfl) ?_ | refine Imp.le2 ?_ | refine awp_label ?_ | refine awp_skip ?_ | refine awp_exit ?_ | refine awp_cd ?_ | refine awp_ret ?_ | refine go_split (fun _h => ?_) (fun _h => ?_)) <;> try simp (maxSteps := 4000000) only [go_sem, seval])
 | (intro _h)
 | (refine zA ?_)
 | (refine zB ?_)
 | (refine cond_b (fun _h => ?_) (fun _h => ?_))
 | (show zE _ _ = true; kernel_rfl)
 | (show zD _ _ = true; kernel_rfl)
 | (omega)))
theorem numU_num {s : List Int} (hl : s.length ≤ 1000000) : ∀ (f i : Nat), s.length - i = f → i ≤ s.length → NumP s i → ((numU (nxK s i) (s.drop i)).1 = s.length - i ↔ NumP s s.length)
  | 0, i, hf, hi, hn => by
    have : i = s.length := by omega
    subst this
    simp [numU, hn]
  | f + 1, i, hf, hi, hn => by
    have hi1 : i < s.length := by omega
    have hd : s.drop i = s.getD i 0 :: s.drop (i + 1) := by
      rw [List.drop_eq_getElem_cons hi1]; simp [List.getD_eq_getElem?_getD, hi1]
    rw [hd]
    simp only [numU]
    by_cases hc : 0 ≤ s.getD i 0 ∧ s.getD i 0 ≤ nxK s i
    · rw [if_pos hc]
      have hn2 : NumP s (i + 1) := fun j hj => by
        by_cases e : j = i
        · subst e; exact hc
        · exact hn j (by omega)
      have hx : nxW (nxK s i) (s.getD i 0) = nxK s (i + 1) := by
        have hb := nxK_bd (s := s) i
        unfold nxW
        rw [if_neg (by omega)]
        simp only [nxK]; split <;> omega
      rw [hx, ← numU_num hl f (i + 1) (by omega) (by omega) hn2]
      simp only
      omega
    · rw [if_neg hc]
      simp only
      constructor
      · intro h; omega
      · intro h; exact absurd (h i hi1) hc
theorem numbered_c (l : List Int) (hl : l.length ≤ 1000000) (hx : ∀ x ∈ l, -9223372036854775808 ≤ x ∧ x ≤ 9223372036854775807) : zP Try.prog 71 [sl l] (.bool (numB l)) := by
  have h := numI_c l hl hx
  have hb : numB l = decide ((numU 0 l).1 = l.length) := by
    have := numU_num (s := l) hl l.length 0 rfl (Nat.zero_le _) (fun j hj => by omega)
    unfold numB
    simp only [nxK, List.drop_zero, Nat.sub_zero] at this
    by_cases hc : (numU 0 l).1 = l.length
    · rw [decide_eq_true hc, decide_eq_true (this.1 hc)]
    · rw [decide_eq_false hc, decide_eq_false (fun h => hc (this.2 h))]
  have hle := numU_le (l := l) (v := 0)
  have he : decide (0 ≤ (if (numU 0 l).1 = l.length then (-1 : Int) else (numU 0 l).1)) = !numB l := by
    rw [hb]
    by_cases hc : (numU 0 l).1 = l.length
    · rw [if_pos hc, decide_eq_true hc]; rfl
    · rw [if_neg hc, decide_eq_false hc]; simp
  generalize (if (numU 0 l).1 = l.length then (-1 : Int) else (numU 0 l).1) = r at *
  generalize (numU 0 l).2 = v2 at *
  generalize numB l = q at *
  clear hb hle
  have h2 : SemF Try.prog 96 [sl l, .fn (.func 97) [] [.ptr 1 0 0]] [N0 0, N1] (.bool (!q)) [N0 v2, N1] := by
    rw [← he]
    clear he
    simp only [N0, N1, sl] at h ⊢
    (refine zJ (ys := [.bool (decide (0 ≤ r))]) (fun w args => Try.call96 ..) Try.func96 rfl (fun w0 m0 wz => ?_); simp only [Try.ntmps96, Try.results96, zM, zN, zR, zS, slR, slC, zI, sl, List.toList_toArray, List.cons_append, List.nil_append, List.length_cons, List.length_nil, Nat.reduceAdd, Nat.reduceSub])
    (repeat' (first
 | (refine zK 2 rfl ?_; simp (maxSteps := 4000000) only [go_sem, seval, List.take_succ_cons, List.take_zero]; (repeat refine And.intro (by omega) ?_); refine own_go (h) [0, 1] rfl ?_ ?_ rfl ?_ <;> try simp (maxSteps := 4000000) only [go_sem, seval, Nat.lt_irrefl] <;> try decide)
 | (refine zC ?_)
 | (refine kt ?_)
 | (refine And.intro ?_ ?_)
 | ((first | refine awp_region ?_ | refine awp_draw (by kernel_rfl) (by kernel_rfl) ?_ | refine Imp.le2 ?_ | refine awp_label ?_ | refine awp_skip ?_ | refine awp_exit ?_ | refine awp_cd ?_ | refine awp_ret ?_ | refine go_split (fun _h => ?_) (fun _h => ?_)) <;> try simp (maxSteps := 4000000) only [go_sem, seval])
 | (intro _h)
 | (refine zA ?_)
 | (refine zB ?_)
 | (refine cond_b (fun _h => ?_) (fun _h => ?_))
 | (show zE _ _ = true; kernel_rfl)
 | (show zD _ _ = true; kernel_rfl)
 | (omega))) <;> simp [*]
  have h3 : SemF Try.prog 68 [sl l, .fn (.func 99) [] [.ptr 0 0 0]] [N0 0] (.bool q) [N0 v2] := by
    simp only [N0, N1, sl] at h2 ⊢
    (refine zJ (ys := [.bool q]) (fun w args => Try.call68 ..) Try.func68 rfl (fun w0 m0 wz => ?_); simp only [Try.ntmps68, Try.results68, zM, zN, zR, zS, slR, slC, zI, sl, List.toList_toArray, List.cons_append, List.nil_append, List.length_cons, List.length_nil, Nat.reduceAdd, Nat.reduceSub])
    (repeat' (first
 | (refine zK 2 rfl ?_; simp (maxSteps := 4000000) only [go_sem, seval, List.take_succ_cons, List.take_zero]; (repeat refine And.intro (by omega) ?_); refine own_go (h2) [0, 1] rfl ?_ ?_ rfl ?_ <;> try simp (maxSteps := 4000000) only [go_sem, seval, Nat.lt_irrefl] <;> try decide)
 | (refine zC ?_)
 | (refine kt ?_)
 | (refine And.intro ?_ ?_)
 | ((first | refine awp_region ?_ | refine awp_draw (by kernel_rfl) (by kernel_rfl) ?_ | refine Imp.le2 ?_ | refine awp_label ?_ | refine awp_skip ?_ | refine awp_exit ?_ | refine awp_cd ?_ | refine awp_ret ?_ | refine go_split (fun _h => ?_) (fun _h => ?_)) <;> try simp (maxSteps := 4000000) only [go_sem, seval])
 | (intro _h)
 | (refine zA ?_)
 | (refine zB ?_)
 | (refine cond_b (fun _h => ?_) (fun _h => ?_))
 | (show zE _ _ = true; kernel_rfl)
 | (show zD _ _ = true; kernel_rfl)
 | (omega)))
    all_goals first | (rw [Bool.not_not] at _h; exact _h.symm) | trace_state
  simp only [N0, sl] at h3 ⊢
  (refine zF (fun w args => Try.call71 ..) Try.func71 rfl (fun w0 m0 wz => ?_); simp only [Try.ntmps71, Try.results71, zM, zN, zR, zS, slR, slC, zI, sl, List.toList_toArray, List.cons_append, List.nil_append, List.length_cons, List.length_nil, Nat.reduceAdd, Nat.reduceSub])
  (repeat' (first
 | (refine zK 2 rfl ?_; simp (maxSteps := 4000000) only [go_sem, seval, List.take_succ_cons, List.take_zero]; (repeat refine And.intro (by omega) ?_); refine own_go (h3) [0] rfl ?_ ?_ rfl ?_ <;> try simp (maxSteps := 4000000) only [go_sem, seval, Nat.lt_irrefl] <;> try decide)
 | (refine zC ?_)
 | (refine kt ?_)
 | (refine And.intro ?_ ?_)
 | ((first | refine awp_region ?_ | refine awp_draw (by kernel_rfl) (by kernel_rfl) ?_ | refine Imp.le2 ?_ | refine awp_label ?_ | refine awp_skip ?_ | refine awp_exit ?_ | refine awp_cd ?_ | refine awp_ret ?_ | refine go_split (fun _h => ?_) (fun _h => ?_)) <;> try simp (maxSteps := 4000000) only [go_sem, seval])
 | (intro _h)
 | (refine zA ?_)
 | (refine zB ?_)
 | (refine cond_b (fun _h => ?_) (fun _h => ?_))
 | (show zE _ _ = true; kernel_rfl)
 | (show zD _ _ = true; kernel_rfl)
 | (omega)))
  all_goals first | (exact _h.symm) | trace_state
def hldB (C D : List Int) (c : Clm) : Bool := if c.kind = 0 then decide (D.getD c.a.toNat 0 < D.getD c.b.toNat 0) else if c.kind = 1 then decide (C.getD c.a.toNat 0 = C.getD c.b.toNat 0) else !decide (C.getD c.a.toNat 0 = C.getD c.b.toNat 0)
theorem hold_c (C D : List Int) (c : Clm) (hk : 0 ≤ c.kind ∧ c.kind ≤ 2) (ha : 0 ≤ c.a ∧ c.a < C.length) (hb : 0 ≤ c.b ∧ c.b < C.length) (hl : C.length = D.length) (hn : C.length ≤ 1000000) : zP Try.prog 76 [.agg [sl C, sl D], .agg (zS c)] (.bool (hldB C D c)) := by
  obtain ⟨k, a, b⟩ := c
  simp only at hk ha hb ⊢
  unfold hldB
  simp only
  obtain ⟨x, rfl⟩ := Int.eq_ofNat_of_zero_le ha.1
  obtain ⟨y, rfl⟩ := Int.eq_ofNat_of_zero_le hb.1
  simp only [Int.toNat_natCast]
  have n1 := fun K => show optK (nth (zO C) x) K = K (.int .i64 (C.getD x 0)) by rw [ints_nth (by omega)]; rfl
  have n2 := fun K => show optK (nth (zO C) y) K = K (.int .i64 (C.getD y 0)) by rw [ints_nth (by omega)]; rfl
  have n3 := fun K => show optK (nth (zO D) x) K = K (.int .i64 (D.getD x 0)) by rw [ints_nth (by omega)]; rfl
  have n4 := fun K => show optK (nth (zO D) y) K = K (.int .i64 (D.getD y 0)) by rw [ints_nth (by omega)]; rfl
  simp only [sl, zS]
  by_cases h0 : k = 0
  · rw [if_pos h0]
    subst h0
    (refine zF (fun w args => Try.call76 ..) Try.func76 rfl (fun w0 m0 wz => ?_); simp only [Try.ntmps76, Try.results76, zM, zN, zR, zS, slR, slC, zI, sl, List.toList_toArray, List.cons_append, List.nil_append, List.length_cons, List.length_nil, Nat.reduceAdd, Nat.reduceSub])
    (repeat' (first
 | ((omega))
 | ((exfalso; omega))
 | (refine zC ?_)
 | (refine kt ?_)
 | (refine And.intro ?_ ?_)
 | ((first | refine awp_region ?_ | refine awp_draw (by kernel_rfl) (by kernel_rfl) ?_ | refine Imp.le2 ?_ | refine awp_label ?_ | refine awp_skip ?_ | refine awp_exit ?_ | refine awp_cd ?_ | refine awp_ret ?_ | refine go_split (fun _h => ?_) (fun _h => ?_)) <;> try simp (maxSteps := 4000000) only [go_sem, seval, n1, n2, n3, n4])
 | (intro _h)
 | (refine zA ?_)
 | (refine zB ?_)
 | (refine cond_b (fun _h => ?_) (fun _h => ?_))
 | (show zE _ _ = true; kernel_rfl)
 | (show zD _ _ = true; kernel_rfl)
 | (omega)))
    all_goals first | exact (decide_eq_true ‹_›).symm | exact (decide_eq_false ‹_›).symm | trace_state
  · rw [if_neg h0]
    by_cases h1 : k = 1
    · rw [if_pos h1]
      subst h1
      (refine zF (fun w args => Try.call76 ..) Try.func76 rfl (fun w0 m0 wz => ?_); simp only [Try.ntmps76, Try.results76, zM, zN, zR, zS, slR, slC, zI, sl, List.toList_toArray, List.cons_append, List.nil_append, List.length_cons, List.length_nil, Nat.reduceAdd, Nat.reduceSub])
      (repeat' (first
 | ((omega))
 | ((exfalso; omega))
 | (refine zC ?_)
 | (refine kt ?_)
 | (refine And.intro ?_ ?_)
 | ((first | refine awp_region ?_ | refine awp_draw (by kernel_rfl) (by kernel_rfl) ?_ | refine Imp.le2 ?_ | refine awp_label ?_ | refine awp_skip ?_ | refine awp_exit ?_ | refine awp_cd ?_ | refine awp_ret ?_ | refine go_split (fun _h => ?_) (fun _h => ?_)) <;> try simp (maxSteps := 4000000) only [go_sem, seval, n1, n2, n3, n4])
 | (intro _h)
 | (refine zA ?_)
 | (refine zB ?_)
 | (refine cond_b (fun _h => ?_) (fun _h => ?_))
 | (show zE _ _ = true; kernel_rfl)
 | (show zD _ _ = true; kernel_rfl)
 | (omega)))
      all_goals first | exact (decide_eq_true ‹_›).symm | exact (decide_eq_false ‹_›).symm | trace_state
    · rw [if_neg h1]
      (refine zF (fun w args => Try.call76 ..) Try.func76 rfl (fun w0 m0 wz => ?_); simp only [Try.ntmps76, Try.results76, zM, zN, zR, zS, slR, slC, zI, sl, List.toList_toArray, List.cons_append, List.nil_append, List.length_cons, List.length_nil, Nat.reduceAdd, Nat.reduceSub])
      (repeat' (first
 | ((omega))
 | ((exfalso; omega))
 | (refine zC ?_)
 | (refine kt ?_)
 | (refine And.intro ?_ ?_)
 | ((first | refine awp_region ?_ | refine awp_draw (by kernel_rfl) (by kernel_rfl) ?_ | refine Imp.le2 ?_ | refine awp_label ?_ | refine awp_skip ?_ | refine awp_exit ?_ | refine awp_cd ?_ | refine awp_ret ?_ | refine go_split (fun _h => ?_) (fun _h => ?_)) <;> try simp (maxSteps := 4000000) only [go_sem, seval, n1, n2, n3, n4])
 | (intro _h)
 | (refine zA ?_)
 | (refine zB ?_)
 | (refine cond_b (fun _h => ?_) (fun _h => ?_))
 | (show zE _ _ = true; kernel_rfl)
 | (show zD _ _ = true; kernel_rfl)
 | (omega)))
      all_goals first | (rw [decide_eq_true (p := C.getD x 0 = C.getD y 0) ‹_›]; rfl) | (rw [decide_eq_false (p := C.getD x 0 = C.getD y 0) ‹_›]; rfl) | trace_state
def fnH (C D : List Int) : AV := .fn (.func 76) [.agg [sl C, sl D]] []
theorem holds_c (C D : List Int) (l : List Clm) (q : Clm → Bool) (hl : l.length ≤ 1000000) (hq : ∀ i, i < l.length → zP Try.prog 76 [.agg [sl C, sl D], .agg (zS (l.getD i default))] (.bool (q (l.getD i default)))) :
    SemF Try.prog 75 [slC l, fnH C D] [] (.bool (l.all q)) [] := by
  have hany : l.all q = !l.any (fun x => !q x) := by simp [List.all_eq_not_any_not]
  have h1 : ∀ i, i < l.length → SemF Try.prog 102 [.agg (zS (l.getD i default)), .ptr 0 0 0] [some (.cells 125 1 0 [fnH C D])] (.bool (!q (l.getD i default))) [some (.cells 125 1 0 [fnH C D])] := fun i hi => by
    have h := hq i hi
    simp only [fnH, sl, zS] at h ⊢
    generalize q (l.getD i default) = b at *
    (refine zJ (ys := [.bool (!b)]) (fun w args => Try.call102 ..) Try.func102 rfl (fun w0 m0 wz => ?_); simp only [Try.ntmps102, Try.results102, zM, zN, zR, zS, slR, slC, zI, sl, List.toList_toArray, List.cons_append, List.nil_append, List.length_cons, List.length_nil, Nat.reduceAdd, Nat.reduceSub])
    (repeat' (first
 | (refine zC ?_)
 | (refine kt ?_)
 | (refine And.intro ?_ ?_)
 | ((first | refine awp_region ?_ | refine awp_draw (by kernel_rfl) (by kernel_rfl) ?_ | refine Imp.le2 ?_ | refine awp_label ?_ | refine awp_skip ?_ | refine awp_exit ?_ | refine awp_cd ?_ | refine awp_ret ?_ | refine callK_of (h) ?_ | refine go_split (fun _h => ?_) (fun _h => ?_)) <;> try simp (maxSteps := 4000000) only [go_sem, seval])
 | (intro _h)
 | (refine zA ?_)
 | (refine zB ?_)
 | (refine cond_b (fun _h => ?_) (fun _h => ?_))
 | (show zE _ _ = true; kernel_rfl)
 | (show zD _ _ = true; kernel_rfl)
 | (omega))) <;> simp [*]
  have h2 : SemF Try.prog 113 [slC l, .fn (.func 102) [] [.ptr 0 0 0]] [some (.cells 125 1 0 [fnH C D])] (.int .i64 (idxOf (fun c => !q c) l)) [some (.cells 125 1 0 [fnH C D])] := by
    simp only [fnH, sl, slC, zS] at h1 ⊢
    (refine zJ (ys := [.int .i64 (idxOf (fun c => !q c) l)]) (fun w args => Try.call113 ..) Try.func113 rfl (fun w0 m0 wz => ?_); simp only [Try.ntmps113, Try.results113, zM, zN, zR, zS, slR, slC, zI, sl, List.toList_toArray, List.cons_append, List.nil_append, List.length_cons, List.length_nil, Nat.reduceAdd, Nat.reduceSub])
    (repeat' (first
 | (refine zC ?_)
 | (refine kt ?_)
 | (refine And.intro ?_ ?_)
 | ((first | refine awp_region ?_ | refine awp_draw (by kernel_rfl) (by kernel_rfl) ?_ | refine Imp.le2 ?_ | refine awp_label ?_ | refine awp_skip ?_ | refine awp_exit ?_ | refine awp_cd ?_ | refine awp_ret ?_ | refine go_split (fun _h => ?_) (fun _h => ?_)) <;> try simp (maxSteps := 4000000) only [go_sem, seval])
 | (intro _h)
 | (refine zA ?_)
 | (refine zB ?_)
 | (refine cond_b (fun _h => ?_) (fun _h => ?_))
 | (show zE _ _ = true; kernel_rfl)
 | (show zD _ _ = true; kernel_rfl)
 | (omega)))
    refine awp_loopJ (fun i : Nat => i ≤ l.length ∧ ∀ j, j < i → (!q (l.getD j default)) = false) (fun i => ⟨mkT 19 [(0, slC l), (1, .fn (.func 102) [] [.ptr 0 0 0]), (6, slC l), (7, .int .i64 l.length), (8, .int .i64 i)], [some (.cells 125 1 0 [.fn (.func 76) [.agg [.psl false C.length (zO C), .psl false D.length (zO D)]] []])], []⟩) (fun i => l.length - i) 0 ⟨Nat.zero_le _, by simp⟩ (.le2 ?_) ?_
    · simp only [slC]; simp (maxSteps := 4000000) only [go_sem, seval]
      all_goals first | rfl | exact ⟨rfl, rfl⟩ | exact ⟨rfl, rfl, rfl⟩ | trace_state
    · rintro i ⟨hi, hj⟩
      rcases Nat.lt_or_eq_of_le hi with hi1 | hi1
      · have hqi := h1 i hi1
        simp only [slC]; simp (maxSteps := 4000000) only [go_sem, seval]
        (repeat' (first
 | (refine zK 5 rfl ?_; simp (maxSteps := 4000000) only [go_sem, seval, List.take_succ_cons, List.take_zero]; (repeat refine And.intro (by omega) ?_); refine own_go (hqi) [0] rfl ?_ ?_ rfl ?_ <;> try simp (maxSteps := 4000000) only [go_sem, seval, Nat.lt_irrefl] <;> try decide)
 | (refine zC ?_)
 | (refine kt ?_)
 | (refine And.intro ?_ ?_)
 | ((first | refine awp_region ?_ | refine awp_draw (by kernel_rfl) (by kernel_rfl) ?_ | refine Imp.le2 ?_ | refine awp_label ?_ | refine awp_skip ?_ | refine awp_exit ?_ | refine awp_cd ?_ | refine awp_ret ?_ | refine go_split (fun _h => ?_) (fun _h => ?_)) <;> try simp (maxSteps := 4000000) only [go_sem, seval])
 | (intro _h)
 | (refine zA ?_)
 | (refine zB ?_)
 | (refine cond_b (fun _h => ?_) (fun _h => ?_))
 | (show zE _ _ = true; kernel_rfl)
 | (show zD _ _ = true; kernel_rfl)
 | (omega)))
        · exact idxOf_some (d := default) (by omega) ‹_› hj
        · refine ⟨i + 1, ⟨by omega, fun j hji => ?_⟩, by omega, .le2 ?_⟩
          · rcases Nat.lt_succ_iff_lt_or_eq.1 hji with h | rfl
            · exact hj j h
            · assumption
          · simp (maxSteps := 4000000) only [go_sem, seval]
            omega
      · subst hi1
        simp only [slC]; simp (maxSteps := 4000000) only [go_sem, seval]
        (repeat' (first
 | ((exfalso; omega))
 | (refine zC ?_)
 | (refine kt ?_)
 | (refine And.intro ?_ ?_)
 | ((first | refine awp_region ?_ | refine awp_draw (by kernel_rfl) (by kernel_rfl) ?_ | refine Imp.le2 ?_ | refine awp_label ?_ | refine awp_skip ?_ | refine awp_exit ?_ | refine awp_cd ?_ | refine awp_ret ?_ | refine go_split (fun _h => ?_) (fun _h => ?_)) <;> try simp (maxSteps := 4000000) only [go_sem, seval])
 | (intro _h)
 | (refine zA ?_)
 | (refine zB ?_)
 | (refine cond_b (fun _h => ?_) (fun _h => ?_))
 | (show zE _ _ = true; kernel_rfl)
 | (show zD _ _ = true; kernel_rfl)
 | (omega)))
        all_goals first | exact idxOf_none (d := default) (fun j hjl => hj j (by omega)) | trace_state
  have h3 : SemF Try.prog 101 [slC l, .fn (.func 102) [] [.ptr 0 0 0]] [some (.cells 125 1 0 [fnH C D])] (.bool (l.any fun c => !q c)) [some (.cells 125 1 0 [fnH C D])] := by
    rw [← idxOf_ge]
    simp only [fnH, sl, slC] at h2 ⊢
    (refine zJ (ys := [.bool (decide (0 ≤ idxOf (fun c => !q c) l))]) (fun w args => Try.call101 ..) Try.func101 rfl (fun w0 m0 wz => ?_); simp only [Try.ntmps101, Try.results101, zM, zN, zR, zS, slR, slC, zI, sl, List.toList_toArray, List.cons_append, List.nil_append, List.length_cons, List.length_nil, Nat.reduceAdd, Nat.reduceSub])
    (repeat' (first
 | (refine zK 2 rfl ?_; simp (maxSteps := 4000000) only [go_sem, seval, List.take_succ_cons, List.take_zero]; (repeat refine And.intro (by omega) ?_); refine own_go (h2) [0] rfl ?_ ?_ rfl ?_ <;> try simp (maxSteps := 4000000) only [go_sem, seval, Nat.lt_irrefl] <;> try decide)
 | (refine zC ?_)
 | (refine kt ?_)
 | (refine And.intro ?_ ?_)
 | ((first | refine awp_region ?_ | refine awp_draw (by kernel_rfl) (by kernel_rfl) ?_ | refine Imp.le2 ?_ | refine awp_label ?_ | refine awp_skip ?_ | refine awp_exit ?_ | refine awp_cd ?_ | refine awp_ret ?_ | refine go_split (fun _h => ?_) (fun _h => ?_)) <;> try simp (maxSteps := 4000000) only [go_sem, seval])
 | (intro _h)
 | (refine zA ?_)
 | (refine zB ?_)
 | (refine cond_b (fun _h => ?_) (fun _h => ?_))
 | (show zE _ _ = true; kernel_rfl)
 | (show zD _ _ = true; kernel_rfl)
 | (omega))) <;> simp [*]
  rw [hany]
  generalize (l.any fun c => !q c) = b at *
  simp only [fnH, sl, slC] at h3 ⊢
  (refine zJ (ys := [.bool (!b)]) (fun w args => Try.call75 ..) Try.func75 rfl (fun w0 m0 wz => ?_); simp only [Try.ntmps75, Try.results75, zM, zN, zR, zS, slR, slC, zI, sl, List.toList_toArray, List.cons_append, List.nil_append, List.length_cons, List.length_nil, Nat.reduceAdd, Nat.reduceSub])
  (repeat' (first
 | (refine zK 2 rfl ?_; simp (maxSteps := 4000000) only [go_sem, seval, List.take_succ_cons, List.take_zero]; (repeat refine And.intro (by omega) ?_); refine own_go (h3) [0] rfl ?_ ?_ rfl ?_ <;> try simp (maxSteps := 4000000) only [go_sem, seval, Nat.lt_irrefl] <;> try decide)
 | (refine zC ?_)
 | (refine kt ?_)
 | (refine And.intro ?_ ?_)
 | ((first | refine awp_region ?_ | refine awp_draw (by kernel_rfl) (by kernel_rfl) ?_ | refine Imp.le2 ?_ | refine awp_label ?_ | refine awp_skip ?_ | refine awp_exit ?_ | refine awp_cd ?_ | refine awp_ret ?_ | refine go_split (fun _h => ?_) (fun _h => ?_)) <;> try simp (maxSteps := 4000000) only [go_sem, seval])
 | (intro _h)
 | (refine zA ?_)
 | (refine zB ?_)
 | (refine cond_b (fun _h => ?_) (fun _h => ?_))
 | (show zE _ _ = true; kernel_rfl)
 | (show zD _ _ = true; kernel_rfl)
 | (omega))) <;> simp [*]
def inR (t : Ann) (D : List Int) (j : Nat) : Prop := (rp t j).lo ≤ D.getD j 0 ∧ D.getD j 0 ≤ (rp t j).hi
def badP (t : Ann) (C D : List Int) (j k : Nat) : Prop := (C.getD j 0 = C.getD k 0 ∧ ((rp t j).slope ≠ (rp t k).slope ∨ 0 < max (D.getD j 0 - D.getD k 0) (D.getD k 0 - D.getD j 0))) ∨ (C.getD j 0 ≠ C.getD k 0 ∧ (rp t j).slope = (rp t k).slope ∧ max (D.getD j 0 - D.getD k 0) (D.getD k 0 - D.getD j 0) < max t.rest 1)
def RgP (t : Ann) (C D : List Int) (i : Nat) : Prop := ∀ j, j < i → inR t D j ∧ ∀ k, k < j → ¬ badP t C D j k
structure RightP (t : Ann) (C D : List Int) : Prop where
  fault : faultA t = 0
  lc : C.length = t.reports.length
  ld : D.length = t.reports.length
  num : numB C = true
  rg : RgP t C D t.reports.length
  hold : t.claims.all (hldB C D) = true
open Classical in
noncomputable def proveB (t : Ann) (C D : List Int) : Bool := decide (RightP t C D)
open Classical in
theorem proveB_iff {t : Ann} {C D : List Int} : proveB t C D = true ↔ RightP t C D := by unfold proveB; exact decide_eq_true_iff
theorem prove_c (t : Ann) (C D : List Int) (hb : annOK t) (ht : faultA t = 0 → AnnOK t) (hC : C.length ≤ 1000000) (hD : D.length ≤ 1000000) (hx : ∀ x ∈ C, -9223372036854775808 ≤ x ∧ x ≤ 9223372036854775807) : zP Try.prog 43 [.agg (zI t), .agg [sl C, sl D]] (.bool (proveB t C D)) := by
  have hno : ¬ RightP t C D → false = proveB t C D := fun h => by
    have h1 : ¬ proveB t C D = true := fun h2 => h (proveB_iff.1 h2)
    simpa using h1
  have hyes : RightP t C D → true = proveB t C D := fun h => (proveB_iff.2 h).symm
  generalize proveB t C D = r at *
  have hch := check_c t hb
  have hnu := numbered_c C hC hx
  by_cases hA : faultA t = 0 ∧ C.length = t.reports.length ∧ D.length = t.reports.length ∧ numB C = true
  · obtain ⟨h0, h1, h2, h3⟩ := hA
    have hok := ht h0
    have hr := hok.reports
    have hap := apart_c t
    rw [h0] at hch
    rw [h3] at hnu
    have hno1 : ∀ j, j < t.reports.length → ¬ inR t D j → false = r := fun j hj h => hno fun hp => h (hp.rg j hj).1
    have hno2 : ∀ j k, j < t.reports.length → k < j → badP t C D j k → false = r := fun j k hj hk h => hno fun hp => (hp.rg j hj).2 k hk h
    have hall : RgP t C D t.reports.length → t.claims.all (hldB C D) = r := fun h => by
      cases hc : t.claims.all (hldB C D) with
      | true => exact hyes ⟨h0, h1, h2, h3, h, hc⟩
      | false => exact hno fun hp => by rw [hp.hold] at hc; cases hc
    have hho := holds_c C D t.claims (hldB C D) hb.2 (fun i hi => by
      have := hok.clm i hi
      exact hold_c C D _ this.1 (by rw [h1]; exact this.2.1) (by rw [h1]; exact this.2.2) (by omega) hC)
    clear hno hyes
    generalize t.claims.all (hldB C D) = cb at *
    simp only [zI, slR, slC, sl, fnH, h1, h2] at hch hnu hap hho ⊢
    (refine zF (fun w args => Try.call43 ..) Try.func43 rfl (fun w0 m0 wz => ?_); simp only [Try.ntmps43, Try.results43, zM, zN, zR, zS, slR, slC, zI, sl, List.toList_toArray, List.cons_append, List.nil_append, List.length_cons, List.length_nil, Nat.reduceAdd, Nat.reduceSub])
    (repeat' (first
 | ((omega))
 | ((exfalso; omega))
 | (refine zC ?_)
 | (refine kt ?_)
 | (refine And.intro ?_ ?_)
 | ((first | refine awp_region ?_ | refine awp_draw (by kernel_rfl) (by kernel_rfl) ?_ | refine Imp.le2 ?_ | refine awp_label ?_ | refine awp_skip ?_ | refine awp_exit ?_ | refine awp_cd ?_ | refine awp_ret ?_ | refine callK_of (hch) ?_ | refine callK_of (hnu) ?_ | refine go_split (fun _h => ?_) (fun _h => ?_)) <;> try simp (maxSteps := 4000000) only [go_sem, seval])
 | (intro _h)
 | (refine zA ?_)
 | (refine zB ?_)
 | (refine cond_b (fun _h => ?_) (fun _h => ?_))
 | (show zE _ _ = true; kernel_rfl)
 | (show zD _ _ = true; kernel_rfl)
 | (omega)))
    refine awp_loopJ (fun i : Nat => i ≤ t.reports.length ∧ RgP t C D i) (fun i => ⟨mkT 135 [(2, .ptr 0 0 0), (3, .ptr 1 0 0), (5, .int .i64 t.reports.length), (40, .psl false t.reports.length (zU zR t.reports)), (41, .int .i64 t.reports.length), (42, .int .i64 i)], [some (.cells 35 1 0 [.psl false t.reports.length (zU zR t.reports), .psl false t.claims.length (zU zS t.claims), .int .i64 t.rest]), some (.cells 61 1 0 [.psl false t.reports.length (zO C), .psl false t.reports.length (zO D)])], []⟩) (fun i => t.reports.length - i) 0 ⟨Nat.zero_le _, fun j hj => by omega⟩ (.le2 ?_) ?_
    · simp (maxSteps := 4000000) only [go_sem, seval]
      all_goals first | rfl | trace_state
    · rintro i ⟨hi, hI⟩
      rcases Nat.lt_or_eq_of_le hi with hi1 | hi1
      · have n1 := fun (k : Nat) (hk : k < t.reports.length) K => show optK (nth (zO C) k) K = K (.int .i64 (C.getD k 0)) by rw [ints_nth (by omega)]; rfl
        have n2 := fun (k : Nat) (hk : k < t.reports.length) K => show optK (nth (zO D) k) K = K (.int .i64 (D.getD k 0)) by rw [ints_nth (by omega)]; rfl
        have n2i := n2 i hi1
        have hwin : window (zU zR t.reports) 0 (i * 3) = zU zR (t.reports.take i) := by
          have e : zU zR t.reports = zU zR (t.reports.take i) ++ zU zR (t.reports.drop i) := by
            have : zU zR (t.reports.take i ++ t.reports.drop i) = zU zR (t.reports.take i) ++ zU zR (t.reports.drop i) := by simp only [zU, List.flatMap_append]
            rw [← this, List.take_append_drop]
          simp only [window, List.drop_zero]
          rw [e]
          apply List.take_left'
          rw [len_R, List.length_take, Nat.min_eq_left (Nat.le_of_lt hi1)]
        have hha := has_c (t.reports.getD i default).lo (t.reports.getD i default).hi (D.getD i 0)
        by_cases hin : inR t D i
        · have hin' : (t.reports.getD i default).lo ≤ D.getD i 0 ∧ D.getD i 0 ≤ (t.reports.getD i default).hi := hin
          rw [decide_eq_true hin'] at hha
          simp (maxSteps := 4000000) only [go_sem, seval]
          (repeat' (first
 | ((omega))
 | ((exfalso; omega))
 | (refine zC ?_)
 | (refine kt ?_)
 | (refine And.intro ?_ ?_)
 | ((first | refine awp_region ?_ | refine awp_draw (by kernel_rfl) (by kernel_rfl) ?_ | refine Imp.le2 ?_ | refine awp_label ?_ | refine awp_skip ?_ | refine awp_exit ?_ | refine awp_cd ?_ | refine awp_ret ?_ | refine callK_of (hha) ?_ | refine go_split (fun _h => ?_) (fun _h => ?_)) <;> try simp (maxSteps := 4000000) only [go_sem, seval, n2i, hwin])
 | (intro _h)
 | (refine zA ?_)
 | (refine zB ?_)
 | (refine cond_b (fun _h => ?_) (fun _h => ?_))
 | (show zE _ _ = true; kernel_rfl)
 | (show zD _ _ = true; kernel_rfl)
 | (omega)))
          have hbi := hok.rpt i hi1
          refine awp_loopJ (fun k : Nat => k ≤ i ∧ ∀ m, m < k → ¬ badP t C D i m) (fun k => ⟨mkT 135 [(2, .ptr 0 0 0), (3, .ptr 1 0 0), (5, .int .i64 t.reports.length), (6, .int .i64 i), (7, .ptr 2 0 0), (40, .psl false t.reports.length (zU zR t.reports)), (41, .int .i64 t.reports.length), (42, .int .i64 i), (59, .psl false i (zU zR (t.reports.take i))), (60, .int .i64 i), (61, .int .i64 k)], [some (.cells 35 1 0 [.psl false t.reports.length (zU zR t.reports), .psl false t.claims.length (zU zS t.claims), .int .i64 t.rest]), some (.cells 61 1 0 [.psl false t.reports.length (zO C), .psl false t.reports.length (zO D)]), some (.cells 58 1 0 [.int .i64 (t.reports.getD i default).slope, .int .i64 (t.reports.getD i default).lo, .int .i64 (t.reports.getD i default).hi])], []⟩) (fun k => i - k) 0 ⟨Nat.zero_le _, fun m hm => by omega⟩ (.le2 ?_) ?_
          · simp (maxSteps := 4000000) only [go_sem, seval]
            all_goals first | rfl | trace_state
          · rintro k ⟨hk, hK⟩
            rcases Nat.lt_or_eq_of_le hk with hk1 | hk1
            · have n1i := n1 i hi1
              have n1k := n1 k (by omega)
              have n2k := n2 k (by omega)
              have hik : (rp t k).lo ≤ D.getD k 0 ∧ D.getD k 0 ≤ (rp t k).hi := (hI k hk1).1
              have hbk : _ ∧ 0 ≤ (rp t k).lo ∧ _ ≤ _ ∧ (rp t k).hi ≤ 100000 := hok.rpt k (by omega)
              have hdk : 0 ≤ D.getD k 0 ∧ D.getD k 0 ≤ 100000 := by omega
              have hdi : 0 ≤ D.getD i 0 ∧ D.getD i 0 ≤ 100000 := by omega
              have htk : (t.reports.take i).getD k default = t.reports.getD k default := by
                simp only [List.getD_eq_getElem?_getD, List.getElem?_take, if_pos hk1]
              have hlt : (t.reports.take i).length = i := by rw [List.length_take]; omega
              have hbad : badP t C D i k ↔ (C.getD i 0 = C.getD k 0 ∧ ((t.reports.getD i default).slope ≠ (t.reports.getD k default).slope ∨ 0 < max (D.getD i 0 - D.getD k 0) (D.getD k 0 - D.getD i 0))) ∨ (C.getD i 0 ≠ C.getD k 0 ∧ (t.reports.getD i default).slope = (t.reports.getD k default).slope ∧ max (D.getD i 0 - D.getD k 0) (D.getD k 0 - D.getD i 0) < max t.rest 1) := Iff.rfl
              have hno := hno2 i k hi1 hk1
              have hstep : ¬ badP t C D i k → ∀ m, m < k + 1 → ¬ badP t C D i m := fun h m hm => by
                by_cases e : m = k
                · subst e; exact h
                · exact hK m (by omega)
              clear hik hbk hha hin hin' hK hall hno1 hno2
              simp (maxSteps := 4000000) only [go_sem, seval]
              (repeat' (first
 | ((omega))
 | ((exfalso; omega))
 | (refine zC ?_)
 | (refine kt ?_)
 | (refine And.intro ?_ ?_)
 | ((first | refine awp_region ?_ | refine awp_draw (by kernel_rfl) (by kernel_rfl) ?_ | refine Imp.le2 ?_ | refine awp_label ?_ | refine awp_skip ?_ | refine awp_exit ?_ | refine awp_cd ?_ | refine awp_ret ?_ | refine callK_of (hap) ?_ | refine callK_of (latest_c _ _ _) ?_ | refine go_split (fun _h => ?_) (fun _h => ?_)) <;> try simp (maxSteps := 4000000) only [go_sem, seval, n1i, n1k, n2i, n2k, htk, hlt])
 | (intro _h)
 | (refine zA ?_)
 | (refine zB ?_)
 | (refine cond_b (fun _h => ?_) (fun _h => ?_))
 | (show zE _ _ = true; kernel_rfl)
 | (show zD _ _ = true; kernel_rfl)
 | (omega)))
              all_goals first
                | exact hno (hbad.2 (by omega))
                | exact (hno (hbad.2 (by omega))).symm
                | (refine ⟨k + 1, ⟨by omega, hstep (fun h => by have := hbad.1 h; omega)⟩, by omega, .le2 ?_⟩
                   simp (maxSteps := 4000000) only [go_sem, seval]
                   all_goals first | rfl | trace_state)
                | trace_state
            · subst hk1
              simp (maxSteps := 4000000) only [go_sem, seval]
              (repeat' (first
 | ((omega))
 | ((exfalso; omega))
 | (refine zC ?_)
 | (refine kt ?_)
 | (refine And.intro ?_ ?_)
 | ((first | refine awp_region ?_ | refine awp_draw (by kernel_rfl) (by kernel_rfl) ?_ | refine Imp.le2 ?_ | refine awp_label ?_ | refine awp_skip ?_ | refine awp_exit ?_ | refine awp_cd ?_ | refine awp_ret ?_ | refine go_split (fun _h => ?_) (fun _h => ?_)) <;> try simp (maxSteps := 4000000) only [go_sem, seval])
 | (intro _h)
 | (refine zA ?_)
 | (refine zB ?_)
 | (refine cond_b (fun _h => ?_) (fun _h => ?_))
 | (show zE _ _ = true; kernel_rfl)
 | (show zD _ _ = true; kernel_rfl)
 | (omega)))
              all_goals first
                | (refine ⟨k + 1, ⟨by omega, fun j hj => ?_⟩, by omega, .le2 ?_⟩
                   · by_cases e : j = k
                     · subst e; exact ⟨hin, hK⟩
                     · exact hI j (by omega)
                   · simp (maxSteps := 4000000) only [go_sem, seval]
                     all_goals first | rfl | trace_state)
                | trace_state
        · have hno := hno1 i hi1 hin
          have hin' : ¬ ((t.reports.getD i default).lo ≤ D.getD i 0 ∧ D.getD i 0 ≤ (t.reports.getD i default).hi) := hin
          rw [decide_eq_false hin'] at hha
          simp (maxSteps := 4000000) only [go_sem, seval]
          (repeat' (first
 | ((exact hno))
 | ((exact hno.symm))
 | ((omega))
 | ((exfalso; omega))
 | (refine zC ?_)
 | (refine kt ?_)
 | (refine And.intro ?_ ?_)
 | ((first | refine awp_region ?_ | refine awp_draw (by kernel_rfl) (by kernel_rfl) ?_ | refine Imp.le2 ?_ | refine awp_label ?_ | refine awp_skip ?_ | refine awp_exit ?_ | refine awp_cd ?_ | refine awp_ret ?_ | refine callK_of (hha) ?_ | refine go_split (fun _h => ?_) (fun _h => ?_)) <;> try simp (maxSteps := 4000000) only [go_sem, seval, n2i, hwin])
 | (intro _h)
 | (refine zA ?_)
 | (refine zB ?_)
 | (refine cond_b (fun _h => ?_) (fun _h => ?_))
 | (show zE _ _ = true; kernel_rfl)
 | (show zD _ _ = true; kernel_rfl)
 | (omega)))
          all_goals trace_state
      · subst hi1
        have hall := hall hI
        subst hall
        simp (maxSteps := 4000000) only [go_sem, seval]
        (repeat' (first
 | (refine zK 4 rfl ?_; simp (maxSteps := 4000000) only [go_sem, seval, List.take_succ_cons, List.take_zero]; (repeat refine And.intro (by omega) ?_); refine own_go (hho) [] rfl ?_ ?_ rfl ?_ <;> try simp (maxSteps := 4000000) only [go_sem, seval, Nat.lt_irrefl] <;> try decide)
 | ((omega))
 | ((exfalso; omega))
 | (refine zC ?_)
 | (refine kt ?_)
 | (refine And.intro ?_ ?_)
 | ((first | refine awp_region ?_ | refine awp_draw (by kernel_rfl) (by kernel_rfl) ?_ | refine Imp.le2 ?_ | refine awp_label ?_ | refine awp_skip ?_ | refine awp_exit ?_ | refine awp_cd ?_ | refine awp_ret ?_ | refine go_split (fun _h => ?_) (fun _h => ?_)) <;> try simp (maxSteps := 4000000) only [go_sem, seval])
 | (intro _h)
 | (refine zA ?_)
 | (refine zB ?_)
 | (refine cond_b (fun _h => ?_) (fun _h => ?_))
 | (show zE _ _ = true; kernel_rfl)
 | (show zD _ _ = true; kernel_rfl)
 | (omega)))
        all_goals trace_state
  · have hno := hno fun hp => hA ⟨hp.fault, hp.lc, hp.ld, hp.num⟩
    clear ht
    generalize numB C = q at *
    generalize faultA t = e at *
    simp only [zI, slR, slC, sl] at hch hnu ⊢
    cases q
    all_goals
      simp only [and_true, Bool.false_eq_true, and_false, not_false_eq_true] at hA
      (refine zF (fun w args => Try.call43 ..) Try.func43 rfl (fun w0 m0 wz => ?_); simp only [Try.ntmps43, Try.results43, zM, zN, zR, zS, slR, slC, zI, sl, List.toList_toArray, List.cons_append, List.nil_append, List.length_cons, List.length_nil, Nat.reduceAdd, Nat.reduceSub])
      (repeat' (first
 | ((exact hno))
 | ((exact hno.symm))
 | ((omega))
 | ((exfalso; omega))
 | (refine zC ?_)
 | (refine kt ?_)
 | (refine And.intro ?_ ?_)
 | ((first | refine awp_region ?_ | refine awp_draw (by kernel_rfl) (by kernel_rfl) ?_ | refine Imp.le2 ?_ | refine awp_label ?_ | refine awp_skip ?_ | refine awp_exit ?_ | refine awp_cd ?_ | refine awp_ret ?_ | refine callK_of (hch) ?_ | refine callK_of (hnu) ?_ | refine go_split (fun _h => ?_) (fun _h => ?_)) <;> try simp (maxSteps := 4000000) only [go_sem, seval])
 | (intro _h)
 | (refine zA ?_)
 | (refine zB ?_)
 | (refine cond_b (fun _h => ?_) (fun _h => ?_))
 | (show zE _ _ = true; kernel_rfl)
 | (show zD _ _ = true; kernel_rfl)
 | (omega)))
      all_goals trace_state
end Go.Am
namespace Go.Am
open Go.RowKit Go.Proofs
attribute [local irreducible] AWP zP Kt goK CallK stepK zQ SemF SemY Imp
set_option maxRecDepth 4000
set_option linter.unusedSimpArgs false
set_option linter.unusedVariables false
set_option maxHeartbeats 6400000
theorem rightR_c (t : Ann) (C D : List Int) (h0 : faultA t = 0) (ht : AnnOK t) (hC : C.length ≤ 1000000) (hD : D.length ≤ 1000000) : zP Try.prog 45 [.agg (zI t), .agg [sl C, sl D]] (.bool (proveB t C D)) := by
  have hno : ¬ RightP t C D → false = proveB t C D := fun h => by
    have h1 : ¬ proveB t C D = true := fun h2 => h (proveB_iff.1 h2)
    simpa using h1
  have hyes : RightP t C D → true = proveB t C D := fun h => (proveB_iff.2 h).symm
  generalize proveB t C D = r at *
  have hr := ht.reports
  have hcl := ht.claims
  have hnu := numR_c C hC
  by_cases hA : C.length = t.reports.length ∧ D.length = t.reports.length ∧ numB C = true
  · obtain ⟨h1, h2, h3⟩ := hA
    have hap := rapart_c t
    rw [h3] at hnu
    have hno1 : ∀ j, j < t.reports.length → ¬ inR t D j → false = r := fun j hj h => hno fun hp => h (hp.rg j hj).1
    have hno2 : ∀ j k, j < t.reports.length → k < j → badP t C D j k → false = r := fun j k hj hk h => hno fun hp => (hp.rg j hj).2 k hk h
    have hno3 : ∀ j, j < t.claims.length → ¬ hldB C D (t.claims.getD j default) = true → false = r := fun j hj h => hno fun hp => h (List.all_eq_true.1 hp.hold _ (by rw [List.getD_eq_getElem?_getD, List.getElem?_eq_getElem hj]; exact List.getElem_mem hj))
    have hall : RgP t C D t.reports.length → (∀ j, j < t.claims.length → hldB C D (t.claims.getD j default) = true) → true = r := fun h hh => hyes ⟨h0, h1, h2, h3, h, by
      rw [List.all_eq_true]
      intro c hc
      obtain ⟨j, hj, rfl⟩ := List.mem_iff_getElem.1 hc
      have := hh j hj
      rw [List.getD_eq_getElem?_getD, List.getElem?_eq_getElem hj] at this
      exact this⟩
    have n1 := fun (k : Nat) (hk : k < t.reports.length) K => show optK (nth (zO C) k) K = K (.int .i64 (C.getD k 0)) by rw [ints_nth (by omega)]; rfl
    have n2 := fun (k : Nat) (hk : k < t.reports.length) K => show optK (nth (zO D) k) K = K (.int .i64 (D.getD k 0)) by rw [ints_nth (by omega)]; rfl
    clear hno hyes
    simp only [zI, slR, slC, sl, h1, h2] at hnu hap ⊢
    (refine zF (fun w args => Try.call45 ..) Try.func45 rfl (fun w0 m0 wz => ?_); simp only [Try.ntmps45, Try.results45, zM, zN, zR, zS, slR, slC, zI, sl, List.toList_toArray, List.cons_append, List.nil_append, List.length_cons, List.length_nil, Nat.reduceAdd, Nat.reduceSub])
    (repeat' (first
 | ((omega))
 | ((exfalso; omega))
 | (refine zC ?_)
 | (refine kt ?_)
 | (refine And.intro ?_ ?_)
 | ((first | refine awp_region ?_ | refine awp_draw (by kernel_rfl) (by kernel_rfl) ?_ | refine Imp.le2 ?_ | refine awp_label ?_ | refine awp_skip ?_ | refine awp_exit ?_ | refine awp_cd ?_ | refine awp_ret ?_ | refine callK_of (hnu) ?_ | refine go_split (fun _h => ?_) (fun _h => ?_)) <;> try simp (maxSteps := 4000000) only [go_sem, seval])
 | (intro _h)
 | (refine zA ?_)
 | (refine zB ?_)
 | (refine cond_b (fun _h => ?_) (fun _h => ?_))
 | (show zE _ _ = true; kernel_rfl)
 | (show zD _ _ = true; kernel_rfl)
 | (omega)))
    refine awp_loopJ (fun i : Nat => i ≤ t.reports.length ∧ RgP t C D i) (fun i => ⟨mkT 189 [(2, .ptr 0 0 0), (3, .ptr 1 0 0), (5, .int .i64 t.reports.length), (6, .int .i64 i)], [some (.cells 25 1 0 [.psl false t.reports.length (zU zR t.reports), .psl false t.claims.length (zU zS t.claims), .int .i64 t.rest]), some (.cells 85 1 0 [.psl false t.reports.length (zO C), .psl false t.reports.length (zO D)])], []⟩) (fun i => t.reports.length - i) 0 ⟨Nat.zero_le _, fun j hj => by omega⟩ (.le2 ?_) ?_
    · simp (maxSteps := 4000000) only [go_sem, seval]
      all_goals first | rfl | trace_state
    · rintro i ⟨hi, hI⟩
      rcases Nat.lt_or_eq_of_le hi with hi1 | hi1
      · have n2i := n2 i hi1
        have hha := in_c (D.getD i 0) (t.reports.getD i default).lo (t.reports.getD i default).hi
        by_cases hin : inR t D i
        · have hin' : (t.reports.getD i default).lo ≤ D.getD i 0 ∧ D.getD i 0 ≤ (t.reports.getD i default).hi := hin
          rw [decide_eq_true hin'] at hha
          simp (maxSteps := 4000000) only [go_sem, seval]
          (repeat' (first
 | ((omega))
 | ((exfalso; omega))
 | (refine zC ?_)
 | (refine kt ?_)
 | (refine And.intro ?_ ?_)
 | ((first | refine awp_region ?_ | refine awp_draw (by kernel_rfl) (by kernel_rfl) ?_ | refine Imp.le2 ?_ | refine awp_label ?_ | refine awp_skip ?_ | refine awp_exit ?_ | refine awp_cd ?_ | refine awp_ret ?_ | refine callK_of (hha) ?_ | refine go_split (fun _h => ?_) (fun _h => ?_)) <;> try simp (maxSteps := 4000000) only [go_sem, seval, n2i])
 | (intro _h)
 | (refine zA ?_)
 | (refine zB ?_)
 | (refine cond_b (fun _h => ?_) (fun _h => ?_))
 | (show zE _ _ = true; kernel_rfl)
 | (show zD _ _ = true; kernel_rfl)
 | (omega)))
          have hbi := ht.rpt i hi1
          refine awp_loopJ (fun k : Nat => k ≤ i ∧ ∀ m, m < k → ¬ badP t C D i m) (fun k => ⟨mkT 189 [(2, .ptr 0 0 0), (3, .ptr 1 0 0), (5, .int .i64 t.reports.length), (6, .int .i64 i), (7, .ptr 2 0 0), (8, .int .i64 k)], [some (.cells 25 1 0 [.psl false t.reports.length (zU zR t.reports), .psl false t.claims.length (zU zS t.claims), .int .i64 t.rest]), some (.cells 85 1 0 [.psl false t.reports.length (zO C), .psl false t.reports.length (zO D)]), some (.cells 76 1 0 [.int .i64 (t.reports.getD i default).slope, .int .i64 (t.reports.getD i default).lo, .int .i64 (t.reports.getD i default).hi])], []⟩) (fun k => i - k) 0 ⟨Nat.zero_le _, fun m hm => by omega⟩ (.le2 ?_) ?_
          · simp (maxSteps := 4000000) only [go_sem, seval]
            all_goals first | rfl | trace_state
          · rintro k ⟨hk, hK⟩
            rcases Nat.lt_or_eq_of_le hk with hk1 | hk1
            · have n1i := n1 i hi1
              have n1k := n1 k (by omega)
              have n2k := n2 k (by omega)
              have hik : (rp t k).lo ≤ D.getD k 0 ∧ D.getD k 0 ≤ (rp t k).hi := (hI k hk1).1
              have hbk : _ ∧ 0 ≤ (rp t k).lo ∧ _ ≤ _ ∧ (rp t k).hi ≤ 100000 := ht.rpt k (by omega)
              have hdk : 0 ≤ D.getD k 0 ∧ D.getD k 0 ≤ 100000 := by omega
              have hdi : 0 ≤ D.getD i 0 ∧ D.getD i 0 ≤ 100000 := by omega
              have hbad : badP t C D i k ↔ (C.getD i 0 = C.getD k 0 ∧ ((t.reports.getD i default).slope ≠ (t.reports.getD k default).slope ∨ 0 < max (D.getD i 0 - D.getD k 0) (D.getD k 0 - D.getD i 0))) ∨ (C.getD i 0 ≠ C.getD k 0 ∧ (t.reports.getD i default).slope = (t.reports.getD k default).slope ∧ max (D.getD i 0 - D.getD k 0) (D.getD k 0 - D.getD i 0) < max t.rest 1) := Iff.rfl
              have hno := hno2 i k hi1 hk1
              have hstep : ¬ badP t C D i k → ∀ m, m < k + 1 → ¬ badP t C D i m := fun h m hm => by
                by_cases e : m = k
                · subst e; exact h
                · exact hK m (by omega)
              clear hik hbk hha hin hin' hK hall hno1 hno2 hno3
              simp (maxSteps := 4000000) only [go_sem, seval]
              (repeat' (first
 | ((omega))
 | ((exfalso; omega))
 | (refine zC ?_)
 | (refine kt ?_)
 | (refine And.intro ?_ ?_)
 | ((first | refine awp_region ?_ | refine awp_draw (by kernel_rfl) (by kernel_rfl) ?_ | refine Imp.le2 ?_ | refine awp_label ?_ | refine awp_skip ?_ | refine awp_exit ?_ | refine awp_cd ?_ | refine awp_ret ?_ | refine callK_of (hap) ?_ | refine go_split (fun _h => ?_) (fun _h => ?_)) <;> try simp (maxSteps := 4000000) only [go_sem, seval, n1i, n1k, n2i, n2k])
 | (intro _h)
 | (refine zA ?_)
 | (refine zB ?_)
 | (refine cond_b (fun _h => ?_) (fun _h => ?_))
 | (show zE _ _ = true; kernel_rfl)
 | (show zD _ _ = true; kernel_rfl)
 | (omega)))
              all_goals first
                | exact hno (hbad.2 (by omega))
                | exact (hno (hbad.2 (by omega))).symm
                | (refine ⟨k + 1, ⟨by omega, hstep (fun h => by have := hbad.1 h; omega)⟩, by omega, .le2 ?_⟩
                   simp (maxSteps := 4000000) only [go_sem, seval]
                   all_goals first | rfl | trace_state)
                | trace_state
            · subst hk1
              simp (maxSteps := 4000000) only [go_sem, seval]
              (repeat' (first
 | ((omega))
 | ((exfalso; omega))
 | (refine zC ?_)
 | (refine kt ?_)
 | (refine And.intro ?_ ?_)
 | ((first | refine awp_region ?_ | refine awp_draw (by kernel_rfl) (by kernel_rfl) ?_ | refine Imp.le2 ?_ | refine awp_label ?_ | refine awp_skip ?_ | refine awp_exit ?_ | refine awp_cd ?_ | refine awp_ret ?_ | refine go_split (fun _h => ?_) (fun _h => ?_)) <;> try simp (maxSteps := 4000000) only [go_sem, seval])
 | (intro _h)
 | (refine zA ?_)
 | (refine zB ?_)
 | (refine cond_b (fun _h => ?_) (fun _h => ?_))
 | (show zE _ _ = true; kernel_rfl)
 | (show zD _ _ = true; kernel_rfl)
 | (omega)))
              all_goals first
                | (refine ⟨k + 1, ⟨by omega, fun j hj => ?_⟩, by omega, .le2 ?_⟩
                   · by_cases e : j = k
                     · subst e; exact ⟨hin, hK⟩
                     · exact hI j (by omega)
                   · simp (maxSteps := 4000000) only [go_sem, seval]
                     all_goals first | rfl | trace_state)
                | trace_state
        · have hno := hno1 i hi1 hin
          have hin' : ¬ ((t.reports.getD i default).lo ≤ D.getD i 0 ∧ D.getD i 0 ≤ (t.reports.getD i default).hi) := hin
          rw [decide_eq_false hin'] at hha
          simp (maxSteps := 4000000) only [go_sem, seval]
          (repeat' (first
 | ((exact hno))
 | ((exact hno.symm))
 | ((omega))
 | ((exfalso; omega))
 | (refine zC ?_)
 | (refine kt ?_)
 | (refine And.intro ?_ ?_)
 | ((first | refine awp_region ?_ | refine awp_draw (by kernel_rfl) (by kernel_rfl) ?_ | refine Imp.le2 ?_ | refine awp_label ?_ | refine awp_skip ?_ | refine awp_exit ?_ | refine awp_cd ?_ | refine awp_ret ?_ | refine callK_of (hha) ?_ | refine go_split (fun _h => ?_) (fun _h => ?_)) <;> try simp (maxSteps := 4000000) only [go_sem, seval, n2i])
 | (intro _h)
 | (refine zA ?_)
 | (refine zB ?_)
 | (refine cond_b (fun _h => ?_) (fun _h => ?_))
 | (show zE _ _ = true; kernel_rfl)
 | (show zD _ _ = true; kernel_rfl)
 | (omega)))
          all_goals trace_state
      · subst hi1
        have hall := hall hI
        clear hno1 hno2
        simp (maxSteps := 4000000) only [go_sem, seval]
        (repeat' (first
 | ((omega))
 | ((exfalso; omega))
 | (refine zC ?_)
 | (refine kt ?_)
 | (refine And.intro ?_ ?_)
 | ((first | refine awp_region ?_ | refine awp_draw (by kernel_rfl) (by kernel_rfl) ?_ | refine Imp.le2 ?_ | refine awp_label ?_ | refine awp_skip ?_ | refine awp_exit ?_ | refine awp_cd ?_ | refine awp_ret ?_ | refine go_split (fun _h => ?_) (fun _h => ?_)) <;> try simp (maxSteps := 4000000) only [go_sem, seval])
 | (intro _h)
 | (refine zA ?_)
 | (refine zB ?_)
 | (refine cond_b (fun _h => ?_) (fun _h => ?_))
 | (show zE _ _ = true; kernel_rfl)
 | (show zD _ _ = true; kernel_rfl)
 | (omega)))
        refine awp_loopJ (fun j : Nat => j ≤ t.claims.length ∧ ∀ q, q < j → hldB C D (t.claims.getD q default) = true) (fun j => ⟨mkT 189 [(2, .ptr 0 0 0), (3, .ptr 1 0 0), (12, .int .i64 j)], [some (.cells 25 1 0 [.psl false t.reports.length (zU zR t.reports), .psl false t.claims.length (zU zS t.claims), .int .i64 t.rest]), some (.cells 85 1 0 [.psl false t.reports.length (zO C), .psl false t.reports.length (zO D)])], []⟩) (fun j => t.claims.length - j) 0 ⟨Nat.zero_le _, fun j hj => by omega⟩ (.le2 ?_) ?_
        · simp (maxSteps := 4000000) only [go_sem, seval]
          all_goals first | rfl | trace_state
        · rintro j ⟨hj, hJ⟩
          rcases Nat.lt_or_eq_of_le hj with hj1 | hj1
          · have hno := hno3 j hj1
            have hc := ht.clm j hj1
            have hstep : hldB C D (t.claims.getD j default) = true → ∀ q, q < j + 1 → hldB C D (t.claims.getD q default) = true := fun h q hq => by
              by_cases e : q = j
              · subst e; exact h
              · exact hJ q (by omega)
            obtain ⟨kd, a, b, hcd⟩ : ∃ kd a b, t.claims.getD j default = ⟨kd, a, b⟩ := ⟨_, _, _, rfl⟩
            rw [hcd] at hc hno hstep
            simp only at hc
            obtain ⟨a, rfl⟩ := Int.eq_ofNat_of_zero_le hc.2.1.1
            obtain ⟨b, rfl⟩ := Int.eq_ofNat_of_zero_le hc.2.2.1
            have nCa := n1 a (by omega)
            have nCb := n1 b (by omega)
            have nDa := n2 a (by omega)
            have nDb := n2 b (by omega)
            have hB : hldB C D ⟨kd, (a : Int), (b : Int)⟩ = true ↔ (kd = 0 ∧ D.getD a 0 < D.getD b 0) ∨ (kd = 1 ∧ C.getD a 0 = C.getD b 0) ∨ (kd ≠ 0 ∧ kd ≠ 1 ∧ C.getD a 0 ≠ C.getD b 0) := by
              unfold hldB
              simp only [Int.toNat_natCast]
              by_cases k0 : kd = 0
              · rw [if_pos k0, decide_eq_true_eq]; omega
              · rw [if_neg k0]
                by_cases k1 : kd = 1
                · rw [if_pos k1, decide_eq_true_eq]; omega
                · rw [if_neg k1, Bool.not_eq_true', decide_eq_false_iff_not]; omega
            clear hJ hall hI n1 n2 hno3
            simp (maxSteps := 4000000) only [go_sem, seval]
            (repeat' (first
 | ((omega))
 | ((exfalso; omega))
 | (refine zC ?_)
 | (refine kt ?_)
 | (refine And.intro ?_ ?_)
 | ((first | refine awp_region ?_ | refine awp_draw (by kernel_rfl) (by kernel_rfl) ?_ | refine Imp.le2 ?_ | refine awp_label ?_ | refine awp_skip ?_ | refine awp_exit ?_ | refine awp_cd ?_ | refine awp_ret ?_ | refine go_split (fun _h => ?_) (fun _h => ?_)) <;> try simp (maxSteps := 4000000) only [go_sem, seval, hcd, nCa, nCb, nDa, nDb])
 | (intro _h)
 | (refine zA ?_)
 | (refine zB ?_)
 | (refine cond_b (fun _h => ?_) (fun _h => ?_))
 | (show zE _ _ = true; kernel_rfl)
 | (show zD _ _ = true; kernel_rfl)
 | (omega)))
            all_goals first
              | exact hno (fun h => by have := hB.1 h; omega)
              | exact (hno (fun h => by have := hB.1 h; omega)).symm
              | (refine ⟨j + 1, ⟨by omega, hstep (hB.2 (by omega))⟩, by omega, .le2 ?_⟩
                 simp (maxSteps := 4000000) only [go_sem, seval]
                 all_goals first | rfl | trace_state)
              | (exfalso; simp at _h; done)
              | trace_state
          · subst hj1
            have hall := hall hJ
            simp (maxSteps := 4000000) only [go_sem, seval]
            (repeat' (first
 | ((exact hall))
 | ((exact hall.symm))
 | ((omega))
 | ((exfalso; omega))
 | (refine zC ?_)
 | (refine kt ?_)
 | (refine And.intro ?_ ?_)
 | ((first | refine awp_region ?_ | refine awp_draw (by kernel_rfl) (by kernel_rfl) ?_ | refine Imp.le2 ?_ | refine awp_label ?_ | refine awp_skip ?_ | refine awp_exit ?_ | refine awp_cd ?_ | refine awp_ret ?_ | refine go_split (fun _h => ?_) (fun _h => ?_)) <;> try simp (maxSteps := 4000000) only [go_sem, seval])
 | (intro _h)
 | (refine zA ?_)
 | (refine zB ?_)
 | (refine cond_b (fun _h => ?_) (fun _h => ?_))
 | (show zE _ _ = true; kernel_rfl)
 | (show zD _ _ = true; kernel_rfl)
 | (omega)))
            all_goals trace_state
  · have hno := hno fun hp => hA ⟨hp.lc, hp.ld, hp.num⟩
    generalize numB C = q at *
    simp only [zI, slR, slC, sl] at hnu ⊢
    cases q
    all_goals
      simp only [and_true, Bool.false_eq_true, and_false, not_false_eq_true] at hA
      (refine zF (fun w args => Try.call45 ..) Try.func45 rfl (fun w0 m0 wz => ?_); simp only [Try.ntmps45, Try.results45, zM, zN, zR, zS, slR, slC, zI, sl, List.toList_toArray, List.cons_append, List.nil_append, List.length_cons, List.length_nil, Nat.reduceAdd, Nat.reduceSub])
      (repeat' (first
 | ((exact hno))
 | ((exact hno.symm))
 | ((omega))
 | ((exfalso; omega))
 | (refine zC ?_)
 | (refine kt ?_)
 | (refine And.intro ?_ ?_)
 | ((first | refine awp_region ?_ | refine awp_draw (by kernel_rfl) (by kernel_rfl) ?_ | refine Imp.le2 ?_ | refine awp_label ?_ | refine awp_skip ?_ | refine awp_exit ?_ | refine awp_cd ?_ | refine awp_ret ?_ | refine callK_of (hnu) ?_ | refine go_split (fun _h => ?_) (fun _h => ?_)) <;> try simp (maxSteps := 4000000) only [go_sem, seval])
 | (intro _h)
 | (refine zA ?_)
 | (refine zB ?_)
 | (refine cond_b (fun _h => ?_) (fun _h => ?_))
 | (show zE _ _ = true; kernel_rfl)
 | (show zD _ _ = true; kernel_rfl)
 | (omega)))
      all_goals trace_state
theorem chr_right {t : Ann} (ht : AnnOK t) (h0 : faultA t = 0) {C D : Nat → Int} (hc : Chr t C D) : RightP t (SL t.reports.length C) (tab t.reports.length D) := by
  have hd : ∀ i, i < t.reports.length → (tab t.reports.length D).getD i 0 = D i := fun i hi => tabD hi
  have hs : ∀ i k, i < t.reports.length → k < t.reports.length → ((SL t.reports.length C).getD i 0 = (SL t.reports.length C).getD k 0 ↔ C i = C k) := fun i k hi hk => SL_eq hi hk
  refine ⟨h0, SL_len, tab_length, SL_num, fun j hj => ⟨?_, fun k hk hb => ?_⟩, ?_⟩
  · unfold inR
    rw [hd j hj]; exact hc.day j hj
  · have hk2 : k < t.reports.length := by omega
    unfold badP at hb
    rw [hs j k hj hk2, hd j hj, hd k hk2] at hb
    rcases hb with ⟨h1, h2⟩ | ⟨h1, h2, h3⟩
    · have h4 := hc.same j k hj hk2 h1
      rcases h2 with h2 | h2
      · exact h2 h4.1
      · have := h4.2
        omega
    · have h4 := hc.gap j k hj hk2 (fun e => h1 ((hs j k hj hk2).2 e)) h2
      omega
  · rw [List.all_eq_true]
    intro c hcm
    obtain ⟨j, hj, rfl⟩ := List.mem_iff_getElem.1 hcm
    have e : cl t j = t.claims[j] := by unfold cl; rw [List.getD_eq_getElem?_getD, List.getElem?_eq_getElem hj]; rfl
    have h1 := hc.before j hj
    have h2 := hc.one j hj
    have h3 := hc.other j hj
    have hcj := ht.clm j hj
    have e2 : t.claims.getD j default = t.claims[j] := e
    rw [e] at h1 h2 h3
    rw [e2] at hcj
    have ha : t.claims[j].a.toNat < t.reports.length := by omega
    have hb : t.claims[j].b.toNat < t.reports.length := by omega
    unfold hldB
    rw [hd _ ha, hd _ hb]
    by_cases k0 : t.claims[j].kind = 0
    · rw [if_pos k0]; exact decide_eq_true (h1 k0)
    · rw [if_neg k0]
      by_cases k1 : t.claims[j].kind = 1
      · rw [if_pos k1]; exact decide_eq_true ((hs _ _ ha hb).2 (h2 k1))
      · rw [if_neg k1, decide_eq_false (fun e => h3 k0 k1 ((hs _ _ ha hb).1 e))]; rfl
theorem fn_right {t : Ann} (ht : AnnOK t) (h0 : faultA t = 0) (hv : (fnV t).1 = true) : RightP t (fnV t).2.1 (fnV t).2.2 := by
  have h := all_spec ht (fn_resp t) (false, [], [])
  have e : fnV t = (visL (gOf (fnS t)) ((runsA t).map (canon t)) (false, [], [])).1 := h
  cases hr : runsA t with
  | nil =>
    rw [e, hr] at hv
    exact absurd hv (by simp [visL])
  | cons p l =>
    have hc := runs_chr ht (p := p) (by rw [hr]; simp)
    have e2 : fnV t = (true, SL t.reports.length (placeOf 0 p), tab t.reports.length (dayOf p)) := by
      rw [e, hr]
      have hstep : (gOf (fnS t) (false, [], []) (canon t p)).2 = false := rfl
      simp only [List.map_cons, visL]
      rw [if_neg (by rw [hstep]; simp)]
      refine Prod.ext rfl (Prod.ext (slN_canon) ?_)
      exact tab_cg fun i hi => tabD hi
    rw [e2]
    exact chr_right ht h0 hc
end Go.Am
namespace Go.Am
open Go.RowKit Go.Proofs
attribute [local irreducible] AWP zP Kt goK CallK stepK zQ SemF SemY Imp
set_option maxRecDepth 4000
set_option linter.unusedSimpArgs false
set_option linter.unusedVariables false
set_option maxHeartbeats 6400000
theorem checkA_c (t : Ann) (hb : annOK t) : zP Try.prog 44 [.agg (zI t)] (.int .i64 (faultA t)) := by
  have hch := check_c t hb
  generalize faultA t = e at *
  simp only [zI, slR, slC] at hch ⊢
  (refine zF (fun w args => Try.call44 ..) Try.func44 rfl (fun w0 m0 wz => ?_); simp only [Try.ntmps44, Try.results44, zM, zN, zR, zS, slR, slC, zI, sl, List.toList_toArray, List.cons_append, List.nil_append, List.length_cons, List.length_nil, Nat.reduceAdd, Nat.reduceSub])
  (repeat' (first
 | (refine zC ?_)
 | (refine kt ?_)
 | (refine And.intro ?_ ?_)
 | ((first | refine awp_region ?_ | refine awp_draw (by kernel_rfl) (by kernel_rfl) ?_ | refine Imp.le2 ?_ | refine awp_label ?_ | refine awp_skip ?_ | refine awp_exit ?_ | refine awp_cd ?_ | refine awp_ret ?_ | refine callK_of (hch) ?_ | refine go_split (fun _h => ?_) (fun _h => ?_)) <;> try simp (maxSteps := 4000000) only [go_sem, seval])
 | (intro _h)
 | (refine zA ?_)
 | (refine zB ?_)
 | (refine cond_b (fun _h => ?_) (fun _h => ?_))
 | (show zE _ _ = true; kernel_rfl)
 | (show zD _ _ = true; kernel_rfl)
 | (omega)))
  all_goals trace_state
theorem findsLaw (hA : zP Try.prog 17 [] (.bool true)) (t : Ann) (hkd : ∀ c ∈ t.claims, 0 ≤ c.kind) (S D : List Int) (hS : ∀ x ∈ S, -9223372036854775808 ≤ x ∧ x ≤ 9223372036854775807) : zP Try.prog 12 [.agg (zI t), sl S, sl D] (.bool true) := by
  have hfe := few_c t
  cases hF : fewB t with
  | false =>
    rw [hF] at hfe
    simp only [zI, slR, slC, sl] at hfe ⊢
    (refine zF (fun w args => Try.call12 ..) Try.func12 rfl (fun w0 m0 wz => ?_); simp only [Try.ntmps12, Try.results12, zM, zN, zR, zS, slR, slC, zI, sl, List.toList_toArray, List.cons_append, List.nil_append, List.length_cons, List.length_nil, Nat.reduceAdd, Nat.reduceSub])
    (repeat' (first
 | (refine zC ?_)
 | (refine kt ?_)
 | (refine And.intro ?_ ?_)
 | ((first | refine awp_region ?_ | refine awp_draw (by kernel_rfl) (by kernel_rfl) ?_ | refine Imp.le2 ?_ | refine awp_label ?_ | refine awp_skip ?_ | refine awp_exit ?_ | refine awp_cd ?_ | refine awp_ret ?_ | refine callK_of (hfe) ?_ | refine callK_of (hA) ?_ | refine go_split (fun _h => ?_) (fun _h => ?_)) <;> try simp (maxSteps := 4000000) only [go_sem, seval])
 | (intro _h)
 | (refine zA ?_)
 | (refine zB ?_)
 | (refine cond_b (fun _h => ?_) (fun _h => ?_))
 | (show zE _ _ = true; kernel_rfl)
 | (show zD _ _ = true; kernel_rfl)
 | (omega)))
    all_goals trace_state
  | true =>
    rw [hF] at hfe
    obtain ⟨hb, hn4⟩ := few_ok hF
    by_cases hl : S.length ≤ 10 ∧ D.length ≤ 10
    · have han := annals_c t hb
      have hfa := fault_c t hb
      have hck := checkA_c t hb
      have hfi := Find_c t hb (fun h => faultA_ok hkd h)
      have hlS := list_c S (by omega)
      have hlD := list_c D (by omega)
      have hpr := prove_c t S D hb (fun h => faultA_ok hkd h) (by omega) (by omega) hS
      have f3 : findV t = if findE t = 0 then chC (fnV t) else [.nils, .nils] := rfl
      rw [f3] at hfi
      by_cases h0 : faultA t = 0
      · have ht := faultA_ok hkd h0
        have hrr := rightR_c t S D h0 ht (by omega) (by omega)
        have f1 : findE t = if (fnV t).1 = true then 0 else 9 := by unfold findE; rw [if_pos h0]
        obtain ⟨r1, r2, r3⟩ := runs_p0 ht
        have hfn : (fnV t).1 = (fiV t).1 := by rw [Bool.eq_iff_iff, fnV_spec ht, (fiV_spec ht).fd]
        rw [h0] at hfa hck
        rw [f1] at hfi
        generalize proveB t S D = pb at *
        cases hv : (fnV t).1 with
        | false =>
          rw [hv] at hfn hfi
          have hl0 := r3.2 hfn.symm
          simp only [Bool.false_eq_true, if_false] at hfi
          rw [if_neg (by omega)] at hfi
          generalize rsA t = rs at *
          simp only [zI, slR, slC, sl, Go.Am.slU, hl0] at hfe han hfa hck hfi hlS hlD hpr hrr r1 ⊢
          cases pb
          all_goals
            (refine zF (fun w args => Try.call12 ..) Try.func12 rfl (fun w0 m0 wz => ?_); simp only [Try.ntmps12, Try.results12, zM, zN, zR, zS, slR, slC, zI, sl, List.toList_toArray, List.cons_append, List.nil_append, List.length_cons, List.length_nil, Nat.reduceAdd, Nat.reduceSub])
            (repeat' (first
 | ((exact Try.underlying4))
 | ((omega))
 | ((exfalso; omega))
 | (refine zC ?_)
 | (refine kt ?_)
 | (refine And.intro ?_ ?_)
 | ((first | refine awp_region ?_ | refine awp_draw (by kernel_rfl) (by kernel_rfl) ?_ | refine Imp.le2 ?_ | refine awp_label ?_ | refine awp_skip ?_ | refine awp_exit ?_ | refine awp_cd ?_ | refine awp_ret ?_ | refine callK_of (hfe) ?_ | refine callK_of (han) ?_ | refine callK_of (hfa) ?_ | refine callK_of (hck) ?_ | refine callK_of (hfi) ?_ | refine callK_of (hlS) ?_ | refine callK_of (hlD) ?_ | refine callK_of (hpr) ?_ | refine callK_of (hrr) ?_ | refine callK_of (r1) ?_ | refine callK_of (hA) ?_ | refine go_split (fun _h => ?_) (fun _h => ?_)) <;> try simp (maxSteps := 4000000) only [go_sem, seval])
 | (intro _h)
 | (refine zA ?_)
 | (refine zB ?_)
 | (refine cond_b (fun _h => ?_) (fun _h => ?_))
 | (show zE _ _ = true; kernel_rfl)
 | (show zD _ _ = true; kernel_rfl)
 | (omega)))
            all_goals first | (exfalso; simp at _h; done) | (exfalso; revert _h; simp; done) | trace_state
        | true =>
          have hri := fn_right ht h0 hv
          rw [hv] at hfn hfi
          have hl0 : ¬ rsA t = [] := fun h9 => by rw [(rs_nil ht).1 h9] at hfn; cases hfn
          have hl1 : 0 < (rsA t).length := List.length_pos_iff.2 hl0
          have hr2 := rightR_c t (fnV t).2.1 (fnV t).2.2 h0 ht (by rw [hri.lc]; have := ht.reports; omega) (by rw [hri.ld]; have := ht.reports; omega)
          rw [proveB_iff.2 hri] at hr2
          simp only [if_true] at hfi
          generalize fnV t = V at *
          obtain ⟨b, S2, D2⟩ := V
          simp only at hv hr2
          subst hv
          have e3 : chC (true, S2, D2) = [.psl false S2.length (zO S2), .psl false D2.length (zO D2)] := rfl
          generalize rsA t = rs at *
          simp only [zI, slR, slC, sl, Go.Am.slU, e3] at hfe han hfa hck hfi hlS hlD hpr hrr hr2 r1 ⊢
          cases pb
          all_goals
            (refine zF (fun w args => Try.call12 ..) Try.func12 rfl (fun w0 m0 wz => ?_); simp only [Try.ntmps12, Try.results12, zM, zN, zR, zS, slR, slC, zI, sl, List.toList_toArray, List.cons_append, List.nil_append, List.length_cons, List.length_nil, Nat.reduceAdd, Nat.reduceSub])
            (repeat' (first
 | ((exact Try.underlying4))
 | ((omega))
 | ((exfalso; omega))
 | (refine zC ?_)
 | (refine kt ?_)
 | (refine And.intro ?_ ?_)
 | ((first | refine awp_region ?_ | refine awp_draw (by kernel_rfl) (by kernel_rfl) ?_ | refine Imp.le2 ?_ | refine awp_label ?_ | refine awp_skip ?_ | refine awp_exit ?_ | refine awp_cd ?_ | refine awp_ret ?_ | refine callK_of (hfe) ?_ | refine callK_of (han) ?_ | refine callK_of (hfa) ?_ | refine callK_of (hck) ?_ | refine callK_of (hfi) ?_ | refine callK_of (hlS) ?_ | refine callK_of (hlD) ?_ | refine callK_of (hpr) ?_ | refine callK_of (hrr) ?_ | refine callK_of (hr2) ?_ | refine callK_of (r1) ?_ | refine callK_of (hA) ?_ | refine go_split (fun _h => ?_) (fun _h => ?_)) <;> try simp (maxSteps := 4000000) only [go_sem, seval])
 | (intro _h)
 | (refine zA ?_)
 | (refine zB ?_)
 | (refine cond_b (fun _h => ?_) (fun _h => ?_))
 | (show zE _ _ = true; kernel_rfl)
 | (show zD _ _ = true; kernel_rfl)
 | (omega)))
            all_goals first | (exfalso; simp at _h; done) | (exfalso; revert _h; simp; done) | trace_state
      · have f1 : findE t = faultA t := by unfold findE; rw [if_neg h0]
        have hpf : proveB t S D = false := by
          cases hp : proveB t S D with
          | false => rfl
          | true => exact absurd (proveB_iff.1 hp).fault h0
        rw [f1, if_neg h0] at hfi
        rw [hpf] at hpr
        generalize faultA t = e at *
        simp only [zI, slR, slC, sl] at hfe han hfa hck hfi hlS hlD hpr ⊢
        (refine zF (fun w args => Try.call12 ..) Try.func12 rfl (fun w0 m0 wz => ?_); simp only [Try.ntmps12, Try.results12, zM, zN, zR, zS, slR, slC, zI, sl, List.toList_toArray, List.cons_append, List.nil_append, List.length_cons, List.length_nil, Nat.reduceAdd, Nat.reduceSub])
        (repeat' (first
 | ((exact Try.underlying4))
 | ((omega))
 | ((exfalso; omega))
 | (refine zC ?_)
 | (refine kt ?_)
 | (refine And.intro ?_ ?_)
 | ((first | refine awp_region ?_ | refine awp_draw (by kernel_rfl) (by kernel_rfl) ?_ | refine Imp.le2 ?_ | refine awp_label ?_ | refine awp_skip ?_ | refine awp_exit ?_ | refine awp_cd ?_ | refine awp_ret ?_ | refine callK_of (hfe) ?_ | refine callK_of (han) ?_ | refine callK_of (hfa) ?_ | refine callK_of (hck) ?_ | refine callK_of (hfi) ?_ | refine callK_of (hlS) ?_ | refine callK_of (hlD) ?_ | refine callK_of (hpr) ?_ | refine callK_of (hA) ?_ | refine go_split (fun _h => ?_) (fun _h => ?_)) <;> try simp (maxSteps := 4000000) only [go_sem, seval])
 | (intro _h)
 | (refine zA ?_)
 | (refine zB ?_)
 | (refine cond_b (fun _h => ?_) (fun _h => ?_))
 | (show zE _ _ = true; kernel_rfl)
 | (show zD _ _ = true; kernel_rfl)
 | (omega)))
        all_goals first | (exfalso; simp at _h; done) | (exfalso; revert _h; simp; done) | trace_state
    · simp only [zI, slR, slC, sl] at hfe ⊢
      (refine zF (fun w args => Try.call12 ..) Try.func12 rfl (fun w0 m0 wz => ?_); simp only [Try.ntmps12, Try.results12, zM, zN, zR, zS, slR, slC, zI, sl, List.toList_toArray, List.cons_append, List.nil_append, List.length_cons, List.length_nil, Nat.reduceAdd, Nat.reduceSub])
      (repeat' (first
 | ((omega))
 | ((exfalso; omega))
 | (refine zC ?_)
 | (refine kt ?_)
 | (refine And.intro ?_ ?_)
 | ((first | refine awp_region ?_ | refine awp_draw (by kernel_rfl) (by kernel_rfl) ?_ | refine Imp.le2 ?_ | refine awp_label ?_ | refine awp_skip ?_ | refine awp_exit ?_ | refine awp_cd ?_ | refine awp_ret ?_ | refine callK_of (hfe) ?_ | refine callK_of (hA) ?_ | refine go_split (fun _h => ?_) (fun _h => ?_)) <;> try simp (maxSteps := 4000000) only [go_sem, seval])
 | (intro _h)
 | (refine zA ?_)
 | (refine zB ?_)
 | (refine cond_b (fun _h => ?_) (fun _h => ?_))
 | (show zE _ _ = true; kernel_rfl)
 | (show zD _ _ = true; kernel_rfl)
 | (omega)))
      all_goals trace_state
end Go.Am
namespace Go.Am
open Go.RowKit Go.Proofs
theorem annalsFinds_c (t : Ann) (S D : List Int) (ht : AnnR t) (hS : okL S) : zP Try.prog 12 [.agg (zI t), sl S, sl D] (.bool true) :=
  findsLaw awake_c t (fun c hc => (ht.claims c hc).1.1) S D hS.2
end Go.Am
