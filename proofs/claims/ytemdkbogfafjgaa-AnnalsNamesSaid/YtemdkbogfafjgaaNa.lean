/- Parts UmB, UmD, UmE, UmF, UmG, UnA, UnB of the proof, one behind the other. No statement is proved here. -/
import Derived.Test.YtemdkbogfafjgaaN7
import Derived.Test.YtemdkbogfafjgaaN9
import Derived.Test.YtemdkbogfafjgaaN8
set_option linter.unusedVariables false -- all
set_option linter.unusedSimpArgs false
namespace Go.Am
open Go.RowKit Go.Proofs
set_option linter.unusedSimpArgs false
set_option linter.unusedVariables false
theorem wClm_mem {l : List Int} {t : Ann} {c : Clm} : ∀ {k : Nat}, k ≤ t.claims.length → c ∈ wClm l t k → c ∈ t.claims
 | 0, _, h => by simp [wClm] at h
 | k + 1, hk, h => by
   simp only [wClm] at h
   split at h
   ·exact wClm_mem (by omega) h
   ·rcases List.mem_append.1 h with h | h
    ·exact wClm_mem (by omega) h
    ·have e : c = t.claims.getD k default := by simpa using h
     rw [e, List.getD_eq_getElem?_getD, List.getElem?_eq_getElem (by omega)]
     exact List.getElem_mem _
theorem withA_reports {t : Ann} {l : List Int} : (withA t l).reports.length = t.reports.length := tab_length
theorem withA_rp {t : Ann} {l : List Int} {i : Nat} (hi : i < t.reports.length) : (withA t l).reports.getD i default = wRpt l t i := by
 simp only [withA]; exact tab_getD hi
theorem withA_good {t : Ann} {l : List Int} (ht : AnnOK t) : AnnOK (withA t l) := by
 have hmem : ∀ c ∈ (withA t l).claims, c ∈ t.claims := fun c hc => wClm_mem (Nat.le_refl _) hc
 refine ⟨by rw [withA_reports]; exact ht.reports, ?_, ht.rest, fun i hi => ?_, fun i hi => ?_⟩
 ·have := wClm_le (l := l) (t := t) t.claims.length
  have := ht.claims
  simp only [withA]; omega
 ·rw [withA_reports] at hi
  rw [withA_rp hi]
  have := ht.rpt i hi
  unfold wRpt
  split
  ·refine ⟨this.1, ?_, ?_, ?_⟩ <;> simp
  ·exact this
 ·have h1 : (withA t l).claims.getD i default ∈ (withA t l).claims := by
   rw [List.getD_eq_getElem?_getD, List.getElem?_eq_getElem hi]; exact List.getElem_mem hi
  obtain ⟨j, hj, e⟩ := List.mem_iff_getElem.1 (hmem _ h1)
  have := ht.clm j hj
  rw [List.getD_eq_getElem?_getD, List.getElem?_eq_getElem hj, Option.getD_some, e] at this
  rw [withA_reports]; exact this
def nStN (t : Ann) : Nat := t.reports.length + t.claims.length
def pW (t : Ann) (l : List Int) : Bool := (fnV (withA t l)).1
end Go.Am
namespace Go.Am
open Go.RowKit Go.Proofs
attribute [local irreducible] AWP zO Kt goK CallK zT zR SemF SemY Imp
set_option maxRecDepth 4000
set_option linter.unusedSimpArgs false
set_option linter.unusedVariables false
set_option maxHeartbeats 1600000
def outC : Option (List Int) → AV
 | none => .nils
 | some l => .psl false l.length (zS l)
def chB (t : Ann) (o : Option (List Int)) (b : Nat) : List (Option ABlk) :=
 [some (.cells 35 1 0 (zL t)), some (.cells 59 1 0 [outC o]), some (.cells 126 1 0 [.fn (.func 78) [] [.ptr b 0 0, .ptr (b + 1) 0 0, .ptr (b + 2) 0 0]])]
theorem outC_cases (o : Option (List Int)) : outC o = .nils ∨ ∃ l : List Int, outC o = .psl false l.length (zS l) := by
 cases o with
 | none => exact .inl rfl
 | some l => exact .inr ⟨l, rfl⟩
section
variable {o : Option (List Int)}
theorem oc_live {p : Nat → Bool} : live2 p (outC o) = true := by cases o <;> rfl
theorem oc_ren {σ : Nat → Nat} : ren σ (outC o) = outC o := by cases o <;> simp [outC, ren]
theorem oc_refs {p : Nat → Prop} : refs p (outC o) = True := by cases o <;> simp [outC, refs]
attribute [go_sem] oc_live oc_ren oc_refs
end
theorem choose_leaf (t : Ann) (ht : AnnOK t) (L : List Int) (a : Int) (o : Option (List Int)) (g : Nat) (h0 : 0 < L.length) (hL : L.length ≤ 100) :
 SemF Try.prog 78 [.osl 0 g 0 L.length, .int .i64 a, .int .i64 0, .ptr 1 0 0, .ptr 2 0 0, .ptr 3 0 0] (some (.cells 3 1 g (zS L)) :: chB t o 1) (.bool (pW t L)) (some (.cells 3 1 g (zS L)) :: chB t (some L) 1) := by
 have hk : annOK t := ⟨by have := ht.reports; omega, by have := ht.claims; omega⟩
 have hw := without_o t L g L.length hk rfl (by omega)
 have hf := find_c (withA t L) (withA_good ht)
 have hcl := clone_o L g L.length rfl h0 (by omega)
 unfold pW
 generalize fnV (withA t L) = V at *
 generalize withA t L = W at *
 obtain ⟨b, S, D⟩ := V
 have e3 : chC (true, S, D) = [.psl false S.length (zS S), .psl false D.length (zS D)] := rfl
 have e4 : chC (false, S, D) = [.nils, .nils] := rfl
 generalize hoc : outC o = oc at *
 have hoc2 := outC_cases o
 rw [hoc] at hoc2
 simp only [chB, hoc, outC]
 clear hoc
 rcases hoc2 with rfl | ⟨ol, rfl⟩
 all_goals cases b
 all_goals
  simp only [zL, slR, slC, e3, e4] at hf hw ⊢
  (refine zH (ys := [.bool _]) (fun w args => Try.call78 ..) Try.func78 rfl (fun w0 m0 wz => ?_); simp only [Try.ntmps78, Try.results78, zN, zP, zU, zV, slR, slC, zL, sl, List.toList_toArray, List.cons_append, List.nil_append, List.length_cons, List.length_nil, Nat.reduceAdd, Nat.reduceSub])
  (repeat' (first
 | (refine zJ 2 rfl ?_; simp (maxSteps := 4000000) only [go_sem, seval, List.take_succ_cons, List.take_zero]; (repeat refine And.intro (by omega) ?_); refine zQ (hw) [0] rfl ?_ ?_ rfl ?_ <;> try simp (maxSteps := 4000000) only [go_sem, seval, Nat.lt_irrefl] <;> try decide)
 | (refine zJ 1 rfl ?_; simp (maxSteps := 4000000) only [go_sem, seval, List.take_succ_cons, List.take_zero]; (repeat refine And.intro (by omega) ?_); refine zQ (hcl) [0] rfl ?_ ?_ rfl ?_ <;> try simp (maxSteps := 4000000) only [go_sem, seval, Nat.lt_irrefl] <;> try decide)
 | refine zC ?_
 | refine kt ?_
 | refine And.intro ?_ ?_
 | ((first | refine awp_stp rfl ?_ | refine awp_draw (by kernel_rfl) (by kernel_rfl) ?_ | refine Imp.le2 ?_ | refine callK_of (hf) ?_ | refine go_split (fun _h => ?_) (fun _h => ?_)) <;> try simp (maxSteps := 4000000) only [go_sem, seval])
 | intro _h
 | refine zA ?_
 | refine zB ?_
 | refine zF ?_ ?_
 | (show zE _ _ = true; kernel_rfl)
 | (show zD _ _ = true; kernel_rfl)
 | (omega)))
  all_goals trace_state
end Go.Am
namespace Go.Am
open Go.RowKit Go.Proofs
attribute [local irreducible] AWP zO Kt goK CallK zT zR SemF SemY Imp
set_option maxRecDepth 4000
set_option linter.unusedSimpArgs false
set_option linter.unusedVariables false
set_option maxHeartbeats 3200000
theorem choose_c (t : Ann) (ht : AnnOK t) : ∀ (m : Nat) (L : List Int) (a : Nat) (o : Option (List Int)) (g : Nat), 0 < L.length → L.length + m ≤ 100 → a ≤ nStN t →
 SemF Try.prog 78 [.osl 0 g 0 L.length, .int .i64 a, .int .i64 m, .ptr 1 0 0, .ptr 2 0 0, .ptr 3 0 0] (some (.cells 3 1 g (zS L)) :: chB t o 1) (.bool (chS (pW t) (nStN t) m L a o).1) (some (.cells 3 1 g (zS L)) :: chB t (chS (pW t) (nStN t) m L a o).2 1) := by
 intro m
 induction m with
 | zero => intro L a o g h0 hL ha; exact choose_leaf t ht L a o g h0 (by omega)
 | succ m ih =>
   intro L a o g h0 hL ha
   have hk : annOK t := ⟨by have := ht.reports; omega, by have := ht.claims; omega⟩
   have hst := stats_c t hk
   have hN : nStN t ≤ 100 := by unfold nStN; have := ht.reports; have := ht.claims; omega
   have hNe : (t.reports.length : Int) + t.claims.length = (nStN t : Int) := by unfold nStN; push_cast; rfl
   rw [hNe] at hst
   have hil : (zS L).length = L.length := ints_length
   have ht1 : (zS L).take (L.length * 1) = zS L := by rw [Nat.mul_one, ← hil, List.take_length]
   have hts : ∀ v : Int, (zS L).take (L.length * 1) ++ [AV.int .i64 v] = zS (L ++ [v]) := fun v => by rw [ht1, ints_append]; rfl
   have htk : ∀ v : Int, (zS (L ++ [v])).take L.length = zS L := fun v => by rw [ints_append, ← hil, List.take_left']; rfl
   simp only [chS]
   generalize hf : (fun (n : Nat) (o : Option (List Int)) => chS (pW t) (nStN t) m (L ++ [(n : Int)]) (n + 1) o) = f at *
   have hih : ∀ (n : Nat) (o : Option (List Int)) (g : Nat), n < nStN t → SemF Try.prog 78 [.osl 0 g 0 (L.length + 1), .int .i64 ((n : Int) + 1), .int .i64 m, .ptr 1 0 0, .ptr 2 0 0, .ptr 3 0 0] (some (.cells 3 1 g (zS (L ++ [(n : Int)]))) :: chB t o 1) (.bool (f n o).1) (some (.cells 3 1 g (zS (L ++ [(n : Int)]))) :: chB t (f n o).2 1) := fun n o g hn => by
    have h := ih (L ++ [(n : Int)]) (n + 1) o g (by simp) (by simp; omega) (by omega)
    subst hf
    simpa using h
   clear ih hf
   generalize nStN t = N at *
   obtain ⟨R, hR⟩ : ∃ R, tryS f (List.range' a (N - a)) o = R := ⟨_, rfl⟩
   rw [hR]
   generalize hkl : L.length = k at *
   rw [show ((m + 1 : Nat) : Int) = (m : Int) + 1 from rfl]
   simp only [chB, zL, slR, slC] at hih hst ⊢
   (refine zH (ys := [.bool R.1]) (fun w args => Try.call78 ..) Try.func78 rfl (fun w0 m0 wz => ?_); simp only [Try.ntmps78, Try.results78, zN, zP, zU, zV, slR, slC, zL, sl, List.toList_toArray, List.cons_append, List.nil_append, List.length_cons, List.length_nil, Nat.reduceAdd, Nat.reduceSub])
   refine awp_cap 0 (by simp) rfl rfl h0 ?_
   intro cap hc1 hc2
   simp only [lset]
   (repeat' (first
 | refine zC ?_
 | refine kt ?_
 | refine And.intro ?_ ?_
 | ((first | refine awp_stp rfl ?_ | refine awp_draw (by kernel_rfl) (by kernel_rfl) ?_ | refine Imp.le2 ?_ | refine go_split (fun _h => ?_) (fun _h => ?_)) <;> try simp (maxSteps := 4000000) only [go_sem, seval])
 | intro _h
 | refine zA ?_
 | refine zB ?_
 | refine zF ?_ ?_
 | (show zE _ _ = true; kernel_rfl)
 | (show zD _ _ = true; kernel_rfl)
 | (omega)))
   refine awp_loopJ (fun x : Nat × Option (List Int) => x.1 ≤ N ∧ tryS f (List.range' x.1 (N - x.1)) x.2 = R) (fun x => ⟨mkT 42 [(0, .oslc 0 g 0 k cap), (2, .int .i64 ((m : Int) + 1)), (3, .ptr 1 0 0), (4, .ptr 2 0 0), (5, .ptr 3 0 0), (12, .int .i64 x.1)], some (.cells 3 1 g (zS L)) :: chB t x.2 1, []⟩) (fun x => N - x.1) (a, o) ⟨ha, hR⟩ (.le2 ?_) ?_
   ·simp only [chB, zL, slR, slC]; simp (maxSteps := 4000000) only [go_sem, seval]
    all_goals first | rfl | exact ⟨rfl, rfl⟩ | trace_state
   ·rintro ⟨n, o⟩ ⟨hn, hj⟩
    clear hR
    simp only at hn hj
    rcases Nat.lt_or_eq_of_le hn with hn1 | hn1
    ·have hin := hih n o
     obtain ⟨d, hd⟩ : ∃ d, N - n = d + 1 := ⟨N - n - 1, by omega⟩
     have hd2 : N - (n + 1) = d := by omega
     rw [hd, List.range'_succ, ← hd2] at hj
     simp only [tryS] at hj
     obtain ⟨⟨b, o2⟩, hfo⟩ : ∃ r, f n o = r := ⟨_, rfl⟩
     rw [hfo] at hj hin
     simp only at hj hin
     have hts1 := hts n
     have htk1 := htk n
     simp only [chB, zL, slR, slC] at hin ⊢
     clear hfo
     have hfin : ∃ R2, R = (R2 : Bool × Option (List Int)) ∧ (b = true → R = (true, o2)) ∧ (b = false → tryS f (List.range' (n + 1) (N - (n + 1))) o2 = R) := by
      refine ⟨R, rfl, fun e => ?_, fun e => ?_⟩
      ·rw [if_pos e, e] at hj; exact hj.symm
      ·rw [if_neg (by rw [e]; simp)] at hj; exact hj
     obtain ⟨_, _, hbt, hbf⟩ := hfin
     clear hj
     by_cases hroom : k + 1 ≤ cap
     ·have hin0 := hin g hn1
      cases b
      all_goals
       try (have hR1 := hbt rfl; subst hR1)
       simp (maxSteps := 4000000) only [go_sem, seval]
       (repeat' (first
 | ((exfalso; omega))
 | refine zC ?_
 | refine kt ?_
 | refine And.intro ?_ ?_
 | ((first | refine awp_stp rfl ?_ | refine Imp.le2 ?_ | refine callK_of (hst) ?_ | refine go_split (fun _h => ?_) (fun _h => ?_)) <;> try simp (maxSteps := 4000000) only [go_sem, seval])
 | intro _h
 | refine zA ?_
 | refine zB ?_
 | refine zF ?_ ?_
 | (show zE _ _ = true; kernel_rfl)
 | (show zD _ _ = true; kernel_rfl)
 | (omega)))
       (repeat refine zC ?_)
       refine awp_drawsE [(4, some ⟨.osl 0 g 0 (k + 1), [0], some (0, .cells 3 1 g (zS (L ++ [(n : Int)])))⟩, []), (4, none, [2])] (by kernel_rfl) (by kernel_rfl) ?_
       simp (maxSteps := 4000000) only [go_sem, seval, se_own, se_op, se_nil, List.take_succ_cons, List.take_zero, List.drop_succ_cons, List.drop_zero]
       refine ⟨rfl, sound_appr (n := 1) (full := true) rfl tslice59 tsz3 (by omega) rfl rfl rfl rfl (by omega) (by omega) hroom hts1, ?_⟩
       simp only [hseto, hset]
       try simp (maxSteps := 4000000) only [go_sem, seval, se_own, se_op, se_nil, List.take_succ_cons, List.take_zero, List.drop_succ_cons, List.drop_zero]
       refine And.intro (by omega) (And.intro (by omega) ?_)
       rw [show (m : Int) + 1 - 1 = m by omega]
       (refine zQ (hin0) [0, 1, 2, 3] rfl (by simp (maxSteps := 4000000) only [go_sem, seval]) (by simp (maxSteps := 4000000) only [go_sem, seval, Nat.lt_irrefl] <;> decide) (by simp (maxSteps := 4000000) only [go_sem, seval]) ?_; simp (maxSteps := 4000000) only [go_sem, seval]; refine And.intro (frm_of (by repeat (first | exact rfl | exact ⟨_, rfl⟩ | refine And.intro ?_ ?_))) ?_; try simp (maxSteps := 4000000) only [go_sem, seval, sg_cons, sg_nil, List.take_succ_cons, List.take_zero, List.drop_succ_cons, List.drop_zero])
       try simp (maxSteps := 4000000) only [go_sem, seval, se_own, se_op, se_nil, List.take_succ_cons, List.take_zero, List.drop_succ_cons, List.drop_zero]
       refine And.intro (by kernel_rfl) ?_
       refine kt ?_
       refine awp_drop 0 k rfl ?_
       simp only [hset, htk1]
       (repeat' (first
 | ((exfalso; omega))
 | ((omega))
 | refine zC ?_
 | refine kt ?_
 | refine And.intro ?_ ?_
 | ((first | refine awp_stp rfl ?_ | refine Imp.le2 ?_ | refine go_split (fun _h => ?_) (fun _h => ?_)) <;> try simp (maxSteps := 4000000) only [go_sem, seval])
 | intro _h
 | refine zA ?_
 | refine zB ?_
 | refine zF ?_ ?_
 | (show zE _ _ = true; kernel_rfl)
 | (show zD _ _ = true; kernel_rfl)
 | (omega)))
       try (refine ⟨(n + 1, o2), ⟨by show n + 1 ≤ N; omega, hbf rfl⟩, by show N - (n + 1) < N - n; omega, .le2 ?_⟩; simp (maxSteps := 4000000) only [go_sem, seval])
       all_goals first | rfl | exact ⟨rfl, rfl⟩ | trace_state
     ·have hin0 := hin 0 hn1
      cases b
      all_goals
       try (have hR1 := hbt rfl; subst hR1)
       simp (maxSteps := 4000000) only [go_sem, seval]
       (repeat' (first
 | ((exfalso; omega))
 | refine zC ?_
 | refine kt ?_
 | refine And.intro ?_ ?_
 | ((first | refine awp_stp rfl ?_ | refine Imp.le2 ?_ | refine callK_of (hst) ?_ | refine go_split (fun _h => ?_) (fun _h => ?_)) <;> try simp (maxSteps := 4000000) only [go_sem, seval])
 | intro _h
 | refine zA ?_
 | refine zB ?_
 | refine zF ?_ ?_
 | (show zE _ _ = true; kernel_rfl)
 | (show zD _ _ = true; kernel_rfl)
 | (omega)))
       (repeat refine zC ?_)
       refine awp_drawsE [(4, some ⟨.osl 4 0 0 (k + 1), [0], some (4, .cells 3 1 0 (zS (L ++ [(n : Int)])))⟩, []), (4, none, [2])] (by kernel_rfl) (by kernel_rfl) ?_
       simp (maxSteps := 4000000) only [go_sem, seval, se_own, se_op, se_nil, List.take_succ_cons, List.take_zero, List.drop_succ_cons, List.drop_zero]
       refine ⟨rfl, sound_appf (n := 1) (full := true) rfl rfl tslice59 tsz3 tbytes3 tzero3 rfl (by omega) rfl rfl rfl rfl (by omega) (by omega) (by omega) (by omega) (by omega) hts1, ?_⟩
       simp only [hseto, hset]
       try simp (maxSteps := 4000000) only [go_sem, seval, se_own, se_op, se_nil, List.take_succ_cons, List.take_zero, List.drop_succ_cons, List.drop_zero]
       refine And.intro (by omega) (And.intro (by omega) ?_)
       rw [show (m : Int) + 1 - 1 = m by omega]
       (refine zQ (hin0) [4, 1, 2, 3] rfl (by simp (maxSteps := 4000000) only [go_sem, seval]) (by simp (maxSteps := 4000000) only [go_sem, seval, Nat.lt_irrefl] <;> decide) (by simp (maxSteps := 4000000) only [go_sem, seval]) ?_; simp (maxSteps := 4000000) only [go_sem, seval]; refine And.intro (frm_of (by repeat (first | exact rfl | exact ⟨_, rfl⟩ | refine And.intro ?_ ?_))) ?_; try simp (maxSteps := 4000000) only [go_sem, seval, sg_cons, sg_nil, List.take_succ_cons, List.take_zero, List.drop_succ_cons, List.drop_zero])
       try simp (maxSteps := 4000000) only [go_sem, seval, se_own, se_op, se_nil, List.take_succ_cons, List.take_zero, List.drop_succ_cons, List.drop_zero]
       refine And.intro (by kernel_rfl) ?_
       refine kt ?_
       (repeat' (first
 | ((exfalso; omega))
 | ((omega))
 | refine zC ?_
 | refine kt ?_
 | refine And.intro ?_ ?_
 | ((first | refine awp_stp rfl ?_ | refine Imp.le2 ?_ | refine go_split (fun _h => ?_) (fun _h => ?_)) <;> try simp (maxSteps := 4000000) only [go_sem, seval])
 | intro _h
 | refine zA ?_
 | refine zB ?_
 | refine zF ?_ ?_
 | (show zE _ _ = true; kernel_rfl)
 | (show zD _ _ = true; kernel_rfl)
 | (omega)))
       try (refine ⟨(n + 1, o2), ⟨by show n + 1 ≤ N; omega, hbf rfl⟩, by show N - (n + 1) < N - n; omega, .le2 ?_⟩; simp (maxSteps := 4000000) only [go_sem, seval])
       all_goals first | rfl | exact ⟨rfl, rfl⟩ | trace_state
    ·subst hn1
     rw [Nat.sub_self] at hj
     simp only [List.range'_zero, tryS] at hj
     subst hj
     simp only [chB, zL, slR, slC]; simp (maxSteps := 4000000) only [go_sem, seval]
     (repeat' (first
 | ((exfalso; omega))
 | ((omega))
 | refine zC ?_
 | refine kt ?_
 | refine And.intro ?_ ?_
 | ((first | refine awp_stp rfl ?_ | refine awp_draw (by kernel_rfl) (by kernel_rfl) ?_ | refine Imp.le2 ?_ | refine callK_of (hst) ?_ | refine go_split (fun _h => ?_) (fun _h => ?_)) <;> try simp (maxSteps := 4000000) only [go_sem, seval])
 | intro _h
 | refine zA ?_
 | refine zB ?_
 | refine zF ?_ ?_
 | (show zE _ _ = true; kernel_rfl)
 | (show zD _ _ = true; kernel_rfl)
 | (omega)))
     all_goals first | rfl | exact ⟨rfl, rfl⟩ | trace_state
end Go.Am
namespace Go.Am
open Go.RowKit Go.Proofs
attribute [local irreducible] AWP zO Kt goK CallK zT zR SemF SemY Imp
set_option maxRecDepth 4000
set_option linter.unusedSimpArgs false
set_option linter.unusedVariables false
set_option maxHeartbeats 3200000
theorem choose_n (t : Ann) (ht : AnnOK t) (m : Nat) (hm : m ≤ 99) (o : Option (List Int)) :
 SemF Try.prog 78 [.nils, .int .i64 0, .int .i64 ((m : Int) + 1), .ptr 0 0 0, .ptr 1 0 0, .ptr 2 0 0] (chB t o 0) (.bool (chS (pW t) (nStN t) (m + 1) [] 0 o).1) (chB t (chS (pW t) (nStN t) (m + 1) [] 0 o).2 0) := by
 have hk : annOK t := ⟨by have := ht.reports; omega, by have := ht.claims; omega⟩
 have hst := stats_c t hk
 have hN : nStN t ≤ 100 := by unfold nStN; have := ht.reports; have := ht.claims; omega
 have hNe : (t.reports.length : Int) + t.claims.length = (nStN t : Int) := by unfold nStN; push_cast; rfl
 rw [hNe] at hst
 simp only [chS]
 generalize hf : (fun (n : Nat) (o : Option (List Int)) => chS (pW t) (nStN t) m ([] ++ [(n : Int)]) (n + 1) o) = f at *
 have hih : ∀ (n : Nat) (o : Option (List Int)), n < nStN t → SemF Try.prog 78 [.osl 0 0 0 1, .int .i64 ((n : Int) + 1), .int .i64 m, .ptr 1 0 0, .ptr 2 0 0, .ptr 3 0 0] (some (.cells 3 1 0 [.int .i64 n]) :: chB t o 1) (.bool (f n o).1) (some (.cells 3 1 0 [.int .i64 n]) :: chB t (f n o).2 1) := fun n o hn => by
  have h := choose_c t ht m [(n : Int)] (n + 1) o 0 (by simp) (by simp; omega) (by omega)
  subst hf
  have e : zS [(n : Int)] = [.int .i64 n] := rfl
  rw [e] at h
  simpa using h
 clear hf
 generalize nStN t = N at *
 obtain ⟨R, hR⟩ : ∃ R, tryS f (List.range' 0 (N - 0)) o = R := ⟨_, rfl⟩
 rw [hR]
 simp only [chB, zL, slR, slC] at hih hst ⊢
 (refine zH (ys := [.bool R.1]) (fun w args => Try.call78 ..) Try.func78 rfl (fun w0 m0 wz => ?_); simp only [Try.ntmps78, Try.results78, zN, zP, zU, zV, slR, slC, zL, sl, List.toList_toArray, List.cons_append, List.nil_append, List.length_cons, List.length_nil, Nat.reduceAdd, Nat.reduceSub])
 (repeat' (first
 | refine zC ?_
 | refine kt ?_
 | refine And.intro ?_ ?_
 | ((first | refine awp_stp rfl ?_ | refine awp_draw (by kernel_rfl) (by kernel_rfl) ?_ | refine Imp.le2 ?_ | refine go_split (fun _h => ?_) (fun _h => ?_)) <;> try simp (maxSteps := 4000000) only [go_sem, seval])
 | intro _h
 | refine zA ?_
 | refine zB ?_
 | refine zF ?_ ?_
 | (show zE _ _ = true; kernel_rfl)
 | (show zD _ _ = true; kernel_rfl)
 | (omega)))
 refine awp_loopJ (fun x : Nat × Option (List Int) => x.1 ≤ N ∧ tryS f (List.range' x.1 (N - x.1)) x.2 = R) (fun x => ⟨mkT 42 [(0, .nils), (2, .int .i64 ((m : Int) + 1)), (3, .ptr 0 0 0), (4, .ptr 1 0 0), (5, .ptr 2 0 0), (12, .int .i64 x.1)], chB t x.2 0, []⟩) (fun x => N - x.1) (0, o) ⟨by omega, hR⟩ (.le2 ?_) ?_
 ·simp only [chB, zL, slR, slC]; simp (maxSteps := 4000000) only [go_sem, seval]
  all_goals first | rfl | exact ⟨rfl, rfl⟩ | trace_state
 ·rintro ⟨n, o⟩ ⟨hn, hj⟩
  clear hR
  simp only at hn hj
  rcases Nat.lt_or_eq_of_le hn with hn1 | hn1
  ·have hin := hih n o hn1
   obtain ⟨d, hd⟩ : ∃ d, N - n = d + 1 := ⟨N - n - 1, by omega⟩
   have hd2 : N - (n + 1) = d := by omega
   rw [hd, List.range'_succ, ← hd2] at hj
   simp only [tryS] at hj
   obtain ⟨⟨b, o2⟩, hfo⟩ : ∃ r, f n o = r := ⟨_, rfl⟩
   rw [hfo] at hj hin
   simp only at hj hin
   simp only [chB, zL, slR, slC] at hin ⊢
   clear hfo
   have hfin : (b = true → R = (true, o2)) ∧ (b = false → tryS f (List.range' (n + 1) (N - (n + 1))) o2 = R) := by
    refine ⟨fun e => ?_, fun e => ?_⟩
    ·rw [if_pos e, e] at hj; exact hj.symm
    ·rw [if_neg (by rw [e]; simp)] at hj; exact hj
   obtain ⟨hbt, hbf⟩ := hfin
   clear hj
   cases b
   all_goals
    try (have hR1 := hbt rfl; subst hR1)
    simp (maxSteps := 4000000) only [go_sem, seval]
    (repeat' (first
 | ((exfalso; omega))
 | refine zC ?_
 | refine kt ?_
 | refine And.intro ?_ ?_
 | ((first | refine awp_stp rfl ?_ | refine Imp.le2 ?_ | refine callK_of (hst) ?_ | refine go_split (fun _h => ?_) (fun _h => ?_)) <;> try simp (maxSteps := 4000000) only [go_sem, seval])
 | intro _h
 | refine zA ?_
 | refine zB ?_
 | refine zF ?_ ?_
 | (show zE _ _ = true; kernel_rfl)
 | (show zD _ _ = true; kernel_rfl)
 | (omega)))
    ((repeat refine zC ?_); refine awp_draws [(9, [1])] (by kernel_rfl) (by kernel_rfl) ?_; simp (maxSteps := 4000000) only [go_sem, seval, sg_cons, sg_nil, List.take_succ_cons, List.take_zero, List.drop_succ_cons, List.drop_zero])
    refine And.intro (by omega) (And.intro (by omega) ?_)
    rw [show (m : Int) + 1 - 1 = m by omega]
    (refine zQ (hin) [3, 0, 1, 2] rfl (by simp (maxSteps := 4000000) only [go_sem, seval]) (by simp (maxSteps := 4000000) only [go_sem, seval, Nat.lt_irrefl] <;> decide) (by simp (maxSteps := 4000000) only [go_sem, seval]) ?_; simp (maxSteps := 4000000) only [go_sem, seval]; refine And.intro (frm_of (by repeat (first | exact rfl | exact ⟨_, rfl⟩ | refine And.intro ?_ ?_))) ?_; try simp (maxSteps := 4000000) only [go_sem, seval, sg_cons, sg_nil, List.take_succ_cons, List.take_zero, List.drop_succ_cons, List.drop_zero])
    try simp (maxSteps := 4000000) only [go_sem, seval, se_own, se_op, se_nil, List.take_succ_cons, List.take_zero, List.drop_succ_cons, List.drop_zero]
    refine And.intro (by kernel_rfl) ?_
    refine kt ?_
    (repeat' (first
 | ((exfalso; omega))
 | ((omega))
 | refine zC ?_
 | refine kt ?_
 | refine And.intro ?_ ?_
 | ((first | refine awp_stp rfl ?_ | refine Imp.le2 ?_ | refine go_split (fun _h => ?_) (fun _h => ?_)) <;> try simp (maxSteps := 4000000) only [go_sem, seval])
 | intro _h
 | refine zA ?_
 | refine zB ?_
 | refine zF ?_ ?_
 | (show zE _ _ = true; kernel_rfl)
 | (show zD _ _ = true; kernel_rfl)
 | (omega)))
    try (refine ⟨(n + 1, o2), ⟨by show n + 1 ≤ N; omega, hbf rfl⟩, by show N - (n + 1) < N - n; omega, .le2 ?_⟩; simp (maxSteps := 4000000) only [go_sem, seval])
    all_goals first | rfl | exact ⟨rfl, rfl⟩ | trace_state
  ·subst hn1
   rw [Nat.sub_self] at hj
   simp only [List.range'_zero, tryS] at hj
   subst hj
   simp only [chB, zL, slR, slC]; simp (maxSteps := 4000000) only [go_sem, seval]
   (repeat' (first
 | ((exfalso; omega))
 | ((omega))
 | refine zC ?_
 | refine kt ?_
 | refine And.intro ?_ ?_
 | ((first | refine awp_stp rfl ?_ | refine awp_draw (by kernel_rfl) (by kernel_rfl) ?_ | refine Imp.le2 ?_ | refine callK_of (hst) ?_ | refine go_split (fun _h => ?_) (fun _h => ?_)) <;> try simp (maxSteps := 4000000) only [go_sem, seval])
 | intro _h
 | refine zA ?_
 | refine zB ?_
 | refine zF ?_ ?_
 | (show zE _ _ = true; kernel_rfl)
 | (show zD _ _ = true; kernel_rfl)
 | (omega)))
   all_goals first | rfl | exact ⟨rfl, rfl⟩ | trace_state
end Go.Am
namespace Go.Am
open Go.RowKit Go.Proofs
attribute [local irreducible] AWP zO Kt goK CallK zT zR SemF SemY Imp
set_option maxRecDepth 4000
set_option linter.unusedSimpArgs false
set_option linter.unusedVariables false
set_option maxHeartbeats 3200000
def wrE (t : Ann) : Int := if faultA t = 0 then (if (fnV t).1 = true then 7 else if 12 < nStN t then 3 else 0) else faultA t
theorem Wrong_err (t : Ann) (hb : annOK t) (ht : faultA t = 0 → AnnOK t) (he : wrE t ≠ 0) : zO Try.prog 47 [.agg (zL t)] (.tup [.nils, .int .i64 (wrE t)]) := by
 have hch := check_c t hb
 have hst := stats_c t hb
 have hNe : (t.reports.length : Int) + t.claims.length = (nStN t : Int) := by unfold nStN; push_cast; rfl
 rw [hNe] at hst
 unfold wrE at he ⊢
 by_cases h0 : faultA t = 0
 ·have ht := ht h0
  have hf := find_c t ht
  rw [if_pos h0] at he ⊢
  rw [h0] at hch
  generalize nStN t = N at *
  generalize fnV t = V at *
  obtain ⟨b, S, D⟩ := V
  have e3 : chC (true, S, D) = [.psl false S.length (zS S), .psl false D.length (zS D)] := rfl
  have e4 : chC (false, S, D) = [.nils, .nils] := rfl
  cases b with
  | true =>
    simp only [if_true] at he ⊢
    simp only [zL, slR, slC, e3, e4] at hf hch hst ⊢
    (refine zG (fun w args => Try.call47 ..) Try.func47 rfl (fun w0 m0 wz => ?_); simp only [Try.ntmps47, Try.results47, zN, zP, zU, zV, slR, slC, zL, sl, List.toList_toArray, List.cons_append, List.nil_append, List.length_cons, List.length_nil, Nat.reduceAdd, Nat.reduceSub])
    (repeat' (first
 | refine zC ?_
 | refine kt ?_
 | refine And.intro ?_ ?_
 | ((first | refine awp_stp rfl ?_ | refine awp_draw (by kernel_rfl) (by kernel_rfl) ?_ | refine Imp.le2 ?_ | refine callK_of (hch) ?_ | refine callK_of (hf) ?_ | refine go_split (fun _h => ?_) (fun _h => ?_)) <;> try simp (maxSteps := 4000000) only [go_sem, seval])
 | intro _h
 | refine zA ?_
 | refine zB ?_
 | refine zF ?_ ?_
 | (show zE _ _ = true; kernel_rfl)
 | (show zD _ _ = true; kernel_rfl)
 | (omega)))
    all_goals first | (exfalso; simp at _h; done) | trace_state
  | false =>
    simp only [Bool.false_eq_true, if_false] at he ⊢
    have hN : 12 < N := by
     apply Classical.byContradiction
     intro h; rw [if_neg h] at he; exact he rfl
    rw [if_pos hN]
    simp only [zL, slR, slC, e3, e4] at hf hch hst ⊢
    (refine zG (fun w args => Try.call47 ..) Try.func47 rfl (fun w0 m0 wz => ?_); simp only [Try.ntmps47, Try.results47, zN, zP, zU, zV, slR, slC, zL, sl, List.toList_toArray, List.cons_append, List.nil_append, List.length_cons, List.length_nil, Nat.reduceAdd, Nat.reduceSub])
    (repeat' (first
 | ((exfalso; omega))
 | refine zC ?_
 | refine kt ?_
 | refine And.intro ?_ ?_
 | ((first | refine awp_stp rfl ?_ | refine awp_draw (by kernel_rfl) (by kernel_rfl) ?_ | refine Imp.le2 ?_ | refine callK_of (hch) ?_ | refine callK_of (hf) ?_ | refine callK_of (hst) ?_ | refine go_split (fun _h => ?_) (fun _h => ?_)) <;> try simp (maxSteps := 4000000) only [go_sem, seval])
 | intro _h
 | refine zA ?_
 | refine zB ?_
 | refine zF ?_ ?_
 | (show zE _ _ = true; kernel_rfl)
 | (show zD _ _ = true; kernel_rfl)
 | (omega)))
    all_goals first | (exfalso; simp at _h; done) | trace_state
 ·rw [if_neg h0] at he ⊢
  simp only [zL, slR, slC] at hch ⊢
  (refine zG (fun w args => Try.call47 ..) Try.func47 rfl (fun w0 m0 wz => ?_); simp only [Try.ntmps47, Try.results47, zN, zP, zU, zV, slR, slC, zL, sl, List.toList_toArray, List.cons_append, List.nil_append, List.length_cons, List.length_nil, Nat.reduceAdd, Nat.reduceSub])
  (repeat' (first
 | refine zC ?_
 | refine kt ?_
 | refine And.intro ?_ ?_
 | ((first | refine awp_stp rfl ?_ | refine awp_draw (by kernel_rfl) (by kernel_rfl) ?_ | refine Imp.le2 ?_ | refine callK_of (hch) ?_ | refine go_split (fun _h => ?_) (fun _h => ?_)) <;> try simp (maxSteps := 4000000) only [go_sem, seval])
 | intro _h
 | refine zA ?_
 | refine zB ?_
 | refine zF ?_ ?_
 | (show zE _ _ = true; kernel_rfl)
 | (show zD _ _ = true; kernel_rfl)
 | (omega)))
  all_goals first | (exfalso; simp at _h; omega) | (exfalso; simp at _h; done) | trace_state
theorem Wrong_ok (t : Ann) (ht : AnnOK t) (h0 : faultA t = 0) (hv : (fnV t).1 = false) (hn : nStN t ≤ 12) {K : Nat} {l : List Int} (h1 : 1 ≤ K) (h2 : K ≤ nStN t) (hK : hitS (pW t) (nStN t) K = true) (hk : ∀ k, 1 ≤ k → k < K → hitS (pW t) (nStN t) k = false) (hl : keepS (pW t) (nStN t) K = some l) :
 zO Try.prog 47 [.agg (zL t)] (.tup [.psl false l.length (zS l), .int .i64 0]) := by
 have hb : annOK t := ⟨by have := ht.reports; omega, by have := ht.claims; omega⟩
 have hch := check_c t hb
 have hst := stats_c t hb
 have hf := find_c t ht
 have hNe : (t.reports.length : Int) + t.claims.length = (nStN t : Int) := by unfold nStN; push_cast; rfl
 rw [hNe] at hst
 have hcn := fun k (hk : k ≤ 99) o => choose_n t ht k hk o
 have hit : ∀ k, (chS (pW t) (nStN t) (k + 1) [] 0 (keepS (pW t) (nStN t) k)).1 = hitS (pW t) (nStN t) (k + 1) := fun k => rfl
 have kee : ∀ k, (chS (pW t) (nStN t) (k + 1) [] 0 (keepS (pW t) (nStN t) k)).2 = keepS (pW t) (nStN t) (k + 1) := fun k => rfl
 have k0 : keepS (pW t) (nStN t) 0 = none := rfl
 rw [h0] at hch
 generalize hitS (pW t) (nStN t) = HT at *
 have hcn2 := fun k (hk : k ≤ 99) => hcn k hk (keepS (pW t) (nStN t) k)
 simp only [hit, kee] at hcn2
 clear hcn hit kee
 generalize keepS (pW t) (nStN t) = KP at *
 generalize nStN t = N at *
 generalize fnV t = V at *
 obtain ⟨b, S, D⟩ := V
 simp only at hv
 subst hv
 have e4 : chC (false, S, D) = [.nils, .nils] := rfl
 have hlo : outC (some l) = .psl false l.length (zS l) := rfl
 simp only [zL, slR, slC, e4, chB] at hf hch hst hcn2 ⊢
 (refine zG (fun w args => Try.call47 ..) Try.func47 rfl (fun w0 m0 wz => ?_); simp only [Try.ntmps47, Try.results47, zN, zP, zU, zV, slR, slC, zL, sl, List.toList_toArray, List.cons_append, List.nil_append, List.length_cons, List.length_nil, Nat.reduceAdd, Nat.reduceSub])
 (repeat' (first
 | ((exfalso; omega))
 | refine zC ?_
 | refine kt ?_
 | refine And.intro ?_ ?_
 | ((first | refine awp_stp rfl ?_ | refine awp_draw (by kernel_rfl) (by kernel_rfl) ?_ | refine Imp.le2 ?_ | refine callK_of (hch) ?_ | refine callK_of (hf) ?_ | refine callK_of (hst) ?_ | refine go_split (fun _h => ?_) (fun _h => ?_)) <;> try simp (maxSteps := 4000000) only [go_sem, seval])
 | intro _h
 | refine zA ?_
 | refine zB ?_
 | refine zF ?_ ?_
 | (show zE _ _ = true; kernel_rfl)
 | (show zD _ _ = true; kernel_rfl)
 | (omega)))
 all_goals try (exfalso; simp at _h; done)
 refine awp_loopJ (fun x : Nat => x < K) (fun x => ⟨mkT 32 [(1, .ptr 0 0 0), (7, .ptr 2 0 0), (8, .ptr 3 0 0), (9, .int .i64 ((x : Int) + 1))], [some (.cells 35 1 0 (zL t)), none, some (.cells 59 1 0 [outC (KP x)]), some (.cells 126 1 0 [.fn (.func 78) [] [.ptr 0 0 0, .ptr 2 0 0, .ptr 3 0 0]])], []⟩) (fun x => K - x) 0 (by omega) (.le2 ?_) ?_
 ·simp only [zL, slR, slC, k0, outC]; simp (maxSteps := 4000000) only [go_sem, seval]
  all_goals first | rfl | exact ⟨rfl, rfl⟩ | trace_state
 ·intro x hx
  have hc := hcn2 x (by omega)
  by_cases hxK : x + 1 = K
  ·subst hxK
   rw [hK, hl, hlo] at hc
   simp only [zL, slR, slC]; simp (maxSteps := 4000000) only [go_sem, seval]
   (repeat' (first
 | (refine zJ 2 rfl ?_; simp (maxSteps := 4000000) only [go_sem, seval, List.take_succ_cons, List.take_zero]; (repeat refine And.intro (by omega) ?_); refine zQ (hc) [0, 2, 3] rfl ?_ ?_ rfl ?_ <;> try simp (maxSteps := 4000000) only [go_sem, seval, Nat.lt_irrefl] <;> try decide)
 | ((exfalso; omega))
 | refine zC ?_
 | refine kt ?_
 | refine And.intro ?_ ?_
 | ((first | refine awp_stp rfl ?_ | refine awp_draw (by kernel_rfl) (by kernel_rfl) ?_ | refine Imp.le2 ?_ | refine go_split (fun _h => ?_) (fun _h => ?_)) <;> try simp (maxSteps := 4000000) only [go_sem, seval])
 | intro _h
 | refine zA ?_
 | refine zB ?_
 | refine zF ?_ ?_
 | (show zE _ _ = true; kernel_rfl)
 | (show zD _ _ = true; kernel_rfl)
 | (omega)))
   all_goals trace_state
  ·have hk1 := hk (x + 1) (by omega) (by omega)
   rw [hk1] at hc
   simp only [zL, slR, slC]; simp (maxSteps := 4000000) only [go_sem, seval]
   (repeat' (first
 | (refine zJ 2 rfl ?_; simp (maxSteps := 4000000) only [go_sem, seval, List.take_succ_cons, List.take_zero]; (repeat refine And.intro (by omega) ?_); refine zQ (hc) [0, 2, 3] rfl ?_ ?_ rfl ?_ <;> try simp (maxSteps := 4000000) only [go_sem, seval, Nat.lt_irrefl] <;> try decide)
 | ((exfalso; omega))
 | ((omega))
 | refine zC ?_
 | refine kt ?_
 | refine And.intro ?_ ?_
 | ((first | refine awp_stp rfl ?_ | refine awp_draw (by kernel_rfl) (by kernel_rfl) ?_ | refine Imp.le2 ?_ | refine go_split (fun _h => ?_) (fun _h => ?_)) <;> try simp (maxSteps := 4000000) only [go_sem, seval])
 | intro _h
 | refine zA ?_
 | refine zB ?_
 | refine zF ?_ ?_
 | (show zE _ _ = true; kernel_rfl)
 | (show zD _ _ = true; kernel_rfl)
 | (omega)))
   refine ⟨x + 1, by omega, by omega, .le2 ?_⟩
   simp (maxSteps := 4000000) only [go_sem, seval]
   all_goals first | rfl | exact ⟨rfl, rfl⟩ | trace_state
end Go.Am
namespace Go.Am
open Go.RowKit Go.Proofs
set_option maxRecDepth 4000
def oddA : Ann := ⟨[⟨1, 100, 120⟩, ⟨1, 110, 200⟩, ⟨2, 90, 130⟩, ⟨1, 150, 160⟩], [⟨0, 2, 0⟩, ⟨2, 1, 0⟩, ⟨0, 3, 0⟩], 30⟩
def loudA : Ann := ⟨[⟨1, 100, 120⟩, ⟨1, 110, 200⟩, ⟨2, 90, 130⟩, ⟨1, 150, 160⟩], List.replicate 9 ⟨0, 3, 0⟩, 30⟩
def freeA : Ann := ⟨List.replicate 6 ⟨0, 0, 100⟩, [], 1⟩
def freeB : Ann := ⟨List.replicate 6 ⟨0, 0, 100⟩, [⟨1, 4, 5⟩], 1⟩
def badA : Ann := ⟨[⟨1, 100, 120⟩, ⟨1, 110, 200⟩, ⟨2, 90, 130⟩, ⟨1, 150, 160⟩], [⟨3, 2, 0⟩, ⟨2, 1, 0⟩], 30⟩
theorem su_13 : suV valA ⟨1, 3⟩ = (true, true) := by kernel_rfl
theorem su_03 : suV valA ⟨0, 3⟩ = (false, true) := by kernel_rfl
theorem su_02 : suV valA ⟨0, 2⟩ = (false, true) := by kernel_rfl
theorem fn_val : (fnV valA).1 = true := by kernel_rfl
theorem fn_odd : (fnV oddA).1 = false := by kernel_rfl
theorem fi_odd : (fiV oddA).1 = false := by kernel_rfl
theorem fn_loud : (fnV loudA).1 = false := by kernel_rfl
theorem hit_odd : hitS (pW oddA) 7 1 = true := by kernel_rfl
theorem keep_odd : keepS (pW oddA) 7 1 = some [0] := by kernel_rfl
end Go.Am
namespace Go.Am
open Go.RowKit Go.Proofs
set_option maxRecDepth 4000
theorem wa_freeA : (waV freeA).1.length = 101 := by kernel_rfl
theorem wa_freeB : (waV freeB).1.length = 52 := by kernel_rfl
end Go.Am
