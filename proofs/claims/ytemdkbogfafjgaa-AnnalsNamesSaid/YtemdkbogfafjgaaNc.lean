/- Parts UnC, UnD, UnE of the proof, one behind the other. No statement is proved here. -/
import Derived.Test.YtemdkbogfafjgaaNa
import Derived.Test.YtemdkbogfafjgaaNb
import Derived.Test.YtemdkbogfafjgaaN3
set_option linter.unusedVariables false -- all
set_option linter.unusedSimpArgs false
namespace Go.Am
open Go.RowKit Go.Proofs
attribute [local irreducible] AWP zO Kt goK CallK zT zR SemF SemY Imp
set_option maxRecDepth 4000
set_option linter.unusedSimpArgs false
set_option linter.unusedVariables false
set_option maxHeartbeats 1600000
def nmR : List AV := recs zU valA.reports
def nmC : List AV := [.int .u8 0, .int .i64 2, .int .i64 0, .int .u8 2, .int .i64 1, .int .i64 0]
def nmO : List AV := [.int .u8 0, .int .i64 2, .int .i64 0, .int .u8 2, .int .i64 1, .int .i64 0, .int .u8 0, .int .i64 3, .int .i64 0]
def nmB : List AV := [.int .u8 3, .int .i64 2, .int .i64 0, .int .u8 2, .int .i64 1, .int .i64 0]
theorem nmR_len : nmR.length = 12 := rfl
theorem nm_valley : zO Try.prog 49 [] (.agg [.psl true 4 nmR, .psl true 2 nmC, .int .i64 30]) := by
 simp only [nmR, nmC, zL, slR, slC, valA]
 (refine zG (fun w args => Try.call49 ..) Try.func49 rfl (fun w0 m0 wz => ?_); simp only [Try.ntmps49, Try.results49, zN, zP, zU, zV, slR, slC, zL, sl, List.toList_toArray, List.cons_append, List.nil_append, List.length_cons, List.length_nil, Nat.reduceAdd, Nat.reduceSub])
 (repeat' (first
 | refine zC ?_
 | refine kt ?_
 | refine And.intro ?_ ?_
 | ((first | refine awp_stp rfl ?_ | refine awp_draw (by kernel_rfl) (by kernel_rfl) ?_ | refine Imp.le2 ?_ | refine callK_of (span_c _ _) ?_ | refine go_split (fun _h => ?_) (fun _h => ?_)) <;> try simp (maxSteps := 4000000) only [go_sem, seval])
 | intro _h
 | refine zA ?_
 | refine zB ?_
 | refine zF ?_ ?_
 | (show zE _ _ = true; kernel_rfl)
 | (show zD _ _ = true; kernel_rfl)
 | (omega)))
 all_goals rfl
theorem nm_valley_o : SemF Try.prog 49 [] [] (.agg [.psl true 4 nmR, .osl 1 0 0 2, .int .i64 30]) [none, some (.cells 73 3 0 nmC)] := by
 simp only [nmR, nmC, zL, slR, slC, valA]
 (refine zH (ys := [.agg [.psl true 4 (recs zU [⟨1, 100, 120⟩, ⟨1, 110, 200⟩, ⟨2, 90, 130⟩, ⟨1, 150, 160⟩]), .osl 1 0 0 2, .int .i64 30]]) (fun w args => Try.call49 ..) Try.func49 rfl (fun w0 m0 wz => ?_); simp only [Try.ntmps49, Try.results49, zN, zP, zU, zV, slR, slC, zL, sl, List.toList_toArray, List.cons_append, List.nil_append, List.length_cons, List.length_nil, Nat.reduceAdd, Nat.reduceSub])
 (repeat' (first
 | (refine awp_regionL (id := 1) [false, false, false, false, false, false, false, false, false, false, false, true] ?_; simp (maxSteps := 4000000) only [go_sem, seval, eL_f, eL_t, eL_n, eL_f, eL_t, eL_n])
 | refine zC ?_
 | refine kt ?_
 | refine And.intro ?_ ?_
 | ((first | refine awp_stp rfl ?_ | refine awp_draw (by kernel_rfl) (by kernel_rfl) ?_ | refine Imp.le2 ?_ | refine callK_of (span_c _ _) ?_ | refine go_split (fun _h => ?_) (fun _h => ?_)) <;> try simp (maxSteps := 4000000) only [go_sem, seval, eL_f, eL_t, eL_n])
 | intro _h
 | refine zA ?_
 | refine zB ?_
 | refine zF ?_ ?_
 | (show zE _ _ = true; kernel_rfl)
 | (show zD _ _ = true; kernel_rfl)
 | (omega)))
 all_goals first | rfl | exact ⟨rfl, rfl⟩ | trace_state
theorem oddA_f : faultA oddA = 0 := by decide
theorem loudA_f : faultA loudA = 0 := by decide
theorem freeA_f : faultA freeA = 0 := by decide
theorem freeB_f : faultA freeB = 0 := by decide
theorem badA_f : faultA badA = 1 := by decide
def zeroA : Ann := ⟨[], [], 0⟩
def bigA : Ann := ⟨[], List.replicate 31 ⟨0, 0, 0⟩, 0⟩
theorem zeroA_f : faultA zeroA = 1 := by decide
theorem bigA_f : faultA bigA = 3 := by decide
theorem kd_ok {t : Ann} (h : t.claims.all (fun c => decide (0 ≤ c.kind)) = true) : ∀ c ∈ t.claims, 0 ≤ c.kind := fun c hc => of_decide_eq_true (List.all_eq_true.1 h c hc)
theorem oddA_ok : AnnOK oddA := faultA_ok (kd_ok (by decide)) oddA_f
theorem loudA_ok : AnnOK loudA := faultA_ok (kd_ok (by decide)) loudA_f
theorem freeA_ok : AnnOK freeA := faultA_ok (kd_ok (by decide)) freeA_f
theorem freeB_ok : AnnOK freeB := faultA_ok (kd_ok (by decide)) freeB_f
theorem nm_sure {R C : AV} {t : Ann} {a b v e : Int} (hR : avSub R (slR t.reports)) (hC : avSub C (slC t.claims)) (hb : annOK t) (ht : faultA t = 0 → AnnOK t) (hv : sureV t a b = v) (he : sureE t a b = e) :
 zO Try.prog 27 [.agg [R, C, .int .i64 t.rest], .int .i64 a, .int .i64 b] (.tup [.int .u8 v, .int .i64 e]) := by
 have h := Surely_c t a b hb ht
 rw [hv, he] at h
 refine h.subD ⟨.inr ⟨_, _, rfl, rfl, ?_⟩, .inl ⟨by simp [avSub], by simp⟩, .inl ⟨by simp [avSub], by simp⟩, trivial⟩
 exact ⟨hR, by simp [slR], hC, by simp [slC], by simp [avSub], by simp, trivial⟩
theorem nm_one {f : FuncId} {r R C : AV} {t : Ann} (hR : avSub R (slR t.reports)) (hC : avSub C (slC t.claims)) (h : zO Try.prog f [.agg (zL t)] r) : zO Try.prog f [.agg [R, C, .int .i64 t.rest]] r :=
 h.subD ⟨.inr ⟨_, _, rfl, rfl, hR, by simp [slR], hC, by simp [slC], by simp [avSub], by simp, trivial⟩, trivial⟩
theorem nm_check (t : Ann) (hb : annOK t) : zO Try.prog 44 [.agg (zL t)] (.int .i64 (faultA t)) := by
 have hch := check_c t hb
 generalize faultA t = e at *
 simp only [zL, slR, slC] at hch ⊢
 (refine zG (fun w args => Try.call44 ..) Try.func44 rfl (fun w0 m0 wz => ?_); simp only [Try.ntmps44, Try.results44, zN, zP, zU, zV, slR, slC, zL, sl, List.toList_toArray, List.cons_append, List.nil_append, List.length_cons, List.length_nil, Nat.reduceAdd, Nat.reduceSub])
 (repeat' (first
 | refine zC ?_
 | refine kt ?_
 | refine And.intro ?_ ?_
 | ((first | refine awp_stp rfl ?_ | refine awp_draw (by kernel_rfl) (by kernel_rfl) ?_ | refine Imp.le2 ?_ | refine callK_of (hch) ?_ | refine go_split (fun _h => ?_) (fun _h => ?_)) <;> try simp (maxSteps := 4000000) only [go_sem, seval])
 | intro _h
 | refine zA ?_
 | refine zB ?_
 | refine zF ?_ ?_
 | (show zE _ _ = true; kernel_rfl)
 | (show zD _ _ = true; kernel_rfl)
 | (omega)))
 all_goals trace_state
theorem nm_checkO : SemF Try.prog 44 [.agg [.nils, .osl 0 0 0 31, .int .i64 0]] [some (.cells 73 3 0 (recs zV (List.replicate 31 ⟨0, 0, 0⟩)))] (.int .i64 3) [some (.cells 73 3 0 (recs zV (List.replicate 31 ⟨0, 0, 0⟩)))] := by
 have h := nm_check bigA ⟨by decide, by decide⟩
 rw [bigA_f] at h
 have h2 := nm_one (R := .nils) (C := .psl false 31 (recs zV (List.replicate 31 ⟨0, 0, 0⟩))) (t := bigA) (by simp [avSub, slR, bigA, recs]) (by simp [avSub, slC, bigA]) h
 refine semF_lend ?_ ?_ ?_ ?_
 ·exact h2
 ·intro y hy
  simp only [recs, List.mem_flatMap] at hy
  obtain ⟨c, _, hy⟩ := hy
  simp only [zV, List.mem_cons, List.not_mem_nil, or_false] at hy
  rcases hy with rfl | rfl | rfl <;> rfl
 ·intro x hx
  simp only [fzl, fz2, fz1, fz0, List.mem_cons, List.not_mem_nil, or_false] at hx
  subst hx
  rfl
 ·intro ok ok' w v p
  cases p
  exact .int _ _
end Go.Am
namespace Go.Am
open Go.RowKit Go.Proofs
attribute [local irreducible] AWP zO Kt goK CallK zT zR SemF SemY Imp
set_option maxRecDepth 4000
set_option linter.unusedSimpArgs false
set_option linter.unusedVariables false
set_option maxHeartbeats 12800000
def nmL : List AV := recs zV (List.replicate 9 ⟨0, 3, 0⟩)
def nmF : List AV := recs zU (List.replicate 6 ⟨0, 0, 100⟩)
theorem nm_s13 : zO Try.prog 27 [.agg [.psl true 4 nmR, .psl true 2 nmC, .int .i64 30], .int .i64 1, .int .i64 3] (.tup [.int .u8 3, .int .i64 0]) :=
 nm_sure (t := valA) (.inr (.inl ⟨rfl, rfl⟩)) (.inr (.inl ⟨rfl, rfl⟩)) valA_b (fun _ => valA_ok) (by unfold sureV sureE; rw [valA_f, su_13]; rfl) (by unfold sureE; rw [valA_f, su_13]; rfl)
theorem nm_s03 : zO Try.prog 27 [.agg [.psl true 4 nmR, .psl true 2 nmC, .int .i64 30], .int .i64 0, .int .i64 3] (.tup [.int .u8 2, .int .i64 0]) :=
 nm_sure (t := valA) (.inr (.inl ⟨rfl, rfl⟩)) (.inr (.inl ⟨rfl, rfl⟩)) valA_b (fun _ => valA_ok) (by unfold sureV sureE; rw [valA_f, su_03]; rfl) (by unfold sureE; rw [valA_f, su_03]; rfl)
theorem nm_s02 : zO Try.prog 27 [.agg [.psl true 4 nmR, .psl true 2 nmC, .int .i64 30], .int .i64 0, .int .i64 2] (.tup [.int .u8 2, .int .i64 0]) :=
 nm_sure (t := valA) (.inr (.inl ⟨rfl, rfl⟩)) (.inr (.inl ⟨rfl, rfl⟩)) valA_b (fun _ => valA_ok) (by unfold sureV sureE; rw [valA_f, su_02]; rfl) (by unfold sureE; rw [valA_f, su_02]; rfl)
theorem nm_s22 : zO Try.prog 27 [.agg [.psl true 4 nmR, .psl true 2 nmC, .int .i64 30], .int .i64 2, .int .i64 2] (.tup [.int .u8 0, .int .i64 2]) :=
 nm_sure (t := valA) (.inr (.inl ⟨rfl, rfl⟩)) (.inr (.inl ⟨rfl, rfl⟩)) valA_b (fun _ => valA_ok) (by unfold sureV sureE; rw [valA_f]; rfl) (by unfold sureE; rw [valA_f]; rfl)
theorem nm_s40 : zO Try.prog 27 [.agg [.psl true 4 nmR, .psl false 3 nmO, .int .i64 30], .int .i64 4, .int .i64 0] (.tup [.int .u8 0, .int .i64 2]) :=
 nm_sure (t := oddA) (.inr (.inl ⟨rfl, rfl⟩)) (.inl rfl) ⟨by decide, by decide⟩ (fun _ => oddA_ok) (by unfold sureV sureE; rw [oddA_f]; rfl) (by unfold sureE; rw [oddA_f]; rfl)
theorem nm_wOdd : zO Try.prog 47 [.agg [.psl true 4 nmR, .psl false 3 nmO, .int .i64 30]] (.tup [.psl false 1 [.int .i64 0], .int .i64 0]) :=
 nm_one (t := oddA) (.inr (.inl ⟨rfl, rfl⟩)) (.inl rfl) (Wrong_ok oddA oddA_ok oddA_f fn_odd (by decide) (K := 1) (l := [0]) (by decide) (by decide) hit_odd (fun k h1 h2 => by omega) keep_odd)
theorem nm_wVal : zO Try.prog 47 [.agg [.psl true 4 nmR, .psl true 2 nmC, .int .i64 30]] (.tup [.nils, .int .i64 7]) := by
 have e : wrE valA = 7 := by unfold wrE; rw [if_pos valA_f, if_pos fn_val]
 have h := Wrong_err valA valA_b (fun _ => valA_ok) (by rw [e]; decide)
 rw [e] at h
 exact nm_one (t := valA) (.inr (.inl ⟨rfl, rfl⟩)) (.inr (.inl ⟨rfl, rfl⟩)) h
theorem nm_wLoud : zO Try.prog 47 [.agg [.psl true 4 nmR, .psl false 9 nmL, .int .i64 30]] (.tup [.nils, .int .i64 3]) := by
 have e : wrE loudA = 3 := by unfold wrE; rw [if_pos loudA_f, if_neg (by rw [fn_loud]; simp), if_pos (by decide)]
 have h := Wrong_err loudA ⟨by decide, by decide⟩ (fun _ => loudA_ok) (by rw [e]; decide)
 rw [e] at h
 exact nm_one (t := loudA) (.inr (.inl ⟨rfl, rfl⟩)) (.inl rfl) h
theorem nm_dOdd : zO Try.prog 20 [.agg [.psl true 4 nmR, .psl false 3 nmO, .int .i64 30]] (.tup [.nils, .int .i64 9]) := by
 have e : dayE oddA = 9 := by unfold dayE; rw [if_pos oddA_f, if_neg (by rw [fi_odd]; simp)]
 have e2 : dayV oddA = .nils := by unfold dayV; rw [e]; rfl
 have h := Days_c oddA ⟨by decide, by decide⟩ (fun _ => oddA_ok) (fun _ h => by rw [fi_odd] at h; cases h)
 rw [e, e2] at h
 exact nm_one (t := oddA) (.inr (.inl ⟨rfl, rfl⟩)) (.inl rfl) h
theorem nm_w11 : zO Try.prog 37 [.agg [.psl true 4 nmR, .psl true 2 nmC, .int .i64 30], .psl true 2 [.int .i64 1, .int .i64 1]] (.tup [.agg [.nils, .nils, .int .i64 0], .int .i64 2]) := by
 have e : wE valA [1, 1] = 2 := by unfold wE; rw [if_pos valA_f]; decide
 have h := Without_c valA [1, 1] valA_b (by decide)
 unfold wV at h
 rw [e] at h
 exact h.subD ⟨.inr ⟨_, _, rfl, rfl, .inr (.inl ⟨rfl, rfl⟩), by simp [slR], .inr (.inl ⟨rfl, rfl⟩), by simp [slC], by simp [avSub, valA], by simp, trivial⟩, .inl ⟨.inr (.inl ⟨rfl, rfl⟩), by simp [sl]⟩, trivial⟩
def nmW : List AV := [.int .i64 1, .int .i64 100, .int .i64 120, .int .i64 1, .int .i64 0, .int .i64 100000, .int .i64 2, .int .i64 90, .int .i64 130, .int .i64 1, .int .i64 150, .int .i64 160]
theorem nm_w14 : zO Try.prog 37 [.agg [.psl true 4 nmR, .psl true 2 nmC, .int .i64 30], .psl true 2 [.int .i64 1, .int .i64 4]] (.tup [.agg [.psl false 4 nmW, .psl false 1 [.int .u8 2, .int .i64 1, .int .i64 0], .int .i64 30], .int .i64 0]) := by
 have e : wE valA [1, 4] = 0 := by unfold wE; rw [if_pos valA_f]; decide
 have h := Without_c valA [1, 4] valA_b (by decide)
 unfold wV at h
 rw [if_pos e, e] at h
 have e2 : zL (withA valA [1, 4]) = [.psl false 4 nmW, .psl false 1 [.int .u8 2, .int .i64 1, .int .i64 0], .int .i64 30] := by rfl
 rw [e2] at h
 exact h.subD ⟨.inr ⟨_, _, rfl, rfl, .inr (.inl ⟨rfl, rfl⟩), by simp [slR], .inr (.inl ⟨rfl, rfl⟩), by simp [slC], by simp [avSub, valA], by simp, trivial⟩, .inl ⟨.inr (.inl ⟨rfl, rfl⟩), by simp [sl]⟩, trivial⟩
theorem nm_yA : zO Try.prog 18 [.agg [.psl false 6 nmF, .nils, .int .i64 1]] (.tup [.nils, .int .i64 3]) := by
 have e : wayE freeA = 3 := by unfold wayE; rw [if_pos freeA_f, wa_freeA]; decide
 have h := Ways_c freeA ⟨by decide, by decide⟩ (fun _ => freeA_ok)
 unfold wayV at h
 rw [e] at h
 exact nm_one (t := freeA) (.inl rfl) (by simp [avSub, slC, freeA, recs]) h
theorem nm_yB : ∃ X, zO Try.prog 18 [.agg [.psl false 6 nmF, .psl true 1 [.int .u8 1, .int .i64 4, .int .i64 5], .int .i64 1]] (.tup [.psl false 52 X, .int .i64 0]) := by
 have e : wayE freeB = 0 := by unfold wayE; rw [if_pos freeB_f, wa_freeB]; decide
 have h := Ways_c freeB ⟨by decide, by decide⟩ (fun _ => freeB_ok)
 unfold wayV at h
 rw [if_pos e, e] at h
 have e2 : slW (waV freeB).1 = .psl false 52 (rowsC (waV freeB).1) := by unfold slW; rw [wa_freeB]
 rw [e2] at h
 exact ⟨_, nm_one (t := freeB) (.inl rfl) (.inr (.inl ⟨rfl, rfl⟩)) h⟩
theorem nm_cBad : zO Try.prog 44 [.agg [.psl true 4 nmR, .psl false 2 nmB, .int .i64 30]] (.int .i64 1) := by
 have h := nm_check badA ⟨by decide, by decide⟩
 rw [badA_f] at h
 exact nm_one (t := badA) (.inr (.inl ⟨rfl, rfl⟩)) (.inl rfl) h
theorem nm_cZero : zO Try.prog 44 [.agg [.nils, .nils, .int .i64 0]] (.int .i64 1) := by
 have h := nm_check zeroA ⟨by decide, by decide⟩
 rw [zeroA_f] at h
 exact nm_one (t := zeroA) (by simp [avSub, slR, zeroA, recs]) (by simp [avSub, slC, zeroA, recs]) h
theorem nm_rgp : RgP valA [0, 1, 2, 1] [110, 155, 100, 155] 4 := by
 unfold RgP inR badP
 decide
theorem nm_rg : RightP valA [0, 1, 2, 1] [110, 155, 100, 155] := ⟨by decide, by decide, by decide, by decide, nm_rgp, by decide⟩
theorem nm_p1 : zO Try.prog 43 [.agg [.psl true 4 nmR, .psl true 2 nmC, .int .i64 30], .agg [.psl true 4 [.int .i64 0, .int .i64 1, .int .i64 2, .int .i64 1], .psl true 4 [.int .i64 110, .int .i64 155, .int .i64 100, .int .i64 155]]] (.bool true) := by
 have h := prove_c valA [0, 1, 2, 1] [110, 155, 100, 155] valA_b (fun _ => valA_ok) (by decide) (by decide) (by decide)
 rw [proveB_iff.2 nm_rg] at h
 exact h.subD ⟨.inr ⟨_, _, rfl, rfl, .inr (.inl ⟨rfl, rfl⟩), by simp [slR], .inr (.inl ⟨rfl, rfl⟩), by simp [slC], by simp [avSub, valA], by simp, trivial⟩, .inr ⟨_, _, rfl, rfl, .inr (.inl ⟨rfl, rfl⟩), by simp [sl], .inr (.inl ⟨rfl, rfl⟩), by simp [sl], trivial⟩, trivial⟩
theorem nm_p2 : zO Try.prog 43 [.agg [.psl true 4 nmR, .psl true 2 nmC, .int .i64 30], .agg [.psl true 4 [.int .i64 0, .int .i64 2, .int .i64 1, .int .i64 2], .psl true 4 [.int .i64 110, .int .i64 155, .int .i64 100, .int .i64 155]]] (.bool false) := by
 have h := prove_c valA [0, 2, 1, 2] [110, 155, 100, 155] valA_b (fun _ => valA_ok) (by decide) (by decide) (by decide)
 have e : proveB valA [0, 2, 1, 2] [110, 155, 100, 155] = false := by
  cases hp : proveB valA [0, 2, 1, 2] [110, 155, 100, 155] with
  | false => rfl
  | true => exact absurd (proveB_iff.1 hp).num (by decide)
 rw [e] at h
 exact h.subD ⟨.inr ⟨_, _, rfl, rfl, .inr (.inl ⟨rfl, rfl⟩), by simp [slR], .inr (.inl ⟨rfl, rfl⟩), by simp [slC], by simp [avSub, valA], by simp, trivial⟩, .inr ⟨_, _, rfl, rfl, .inr (.inl ⟨rfl, rfl⟩), by simp [sl], .inr (.inl ⟨rfl, rfl⟩), by simp [sl], trivial⟩, trivial⟩
theorem nm_i0 : zO Try.prog 35 [.psl false 1 [.int .i64 0], .psl true 1 [.int .i64 0]] (.bool true) := by
 have h := ints_c [0] [0] (by decide)
 exact h.subD ⟨.inl ⟨.inl rfl, by simp [sl]⟩, .inl ⟨.inr (.inl ⟨rfl, rfl⟩), by simp [sl]⟩, trivial⟩
end Go.Am
namespace Go.Am
open Go.RowKit Go.Proofs
attribute [local irreducible] AWP zO Kt goK CallK zT zR SemF SemY Imp
set_option maxRecDepth 4000
set_option linter.unusedSimpArgs false
set_option linter.unusedVariables false
set_option maxHeartbeats 25600000
theorem nmR_p : pureL nmR = True := eq_true (by unfold nmR valA; simp [pureL, recs, zU, zK])
theorem nmR_l {p : Nat → Bool} : nmR.all (live2 p) = true := by unfold nmR valA; rfl
theorem refs_clm {p : Nat → Prop} : ∀ l : List Clm, refsL p (recs zV l)
 | [] => by simp [recs, refsL]
 | c :: l => by
   have ih := refs_clm (p := p) l
   show refsL p (.int .u8 c.kind :: .int .i64 c.a :: .int .i64 c.b :: recs zV l)
   simp only [refsL, refs, true_and]
   exact ih
theorem ren_clm {σ : Nat → Nat} : ∀ l : List Clm, renL σ (recs zV l) = recs zV l
 | [] => by simp [recs, renL]
 | c :: l => by
   have ih := ren_clm (σ := σ) l
   show renL σ (.int .u8 c.kind :: .int .i64 c.a :: .int .i64 c.b :: recs zV l) = .int .u8 c.kind :: .int .i64 c.a :: .int .i64 c.b :: recs zV l
   simp only [renL, ren, ih]
def nmZ : List AV := recs zV (List.replicate 31 ⟨0, 0, 0⟩)
def nmZB : Option ABlk := some (.cells 73 3 0 nmZ)
theorem nm_hcc : ∀ k, nmZB = some k → (∃ t sz g xs, k = .cells t sz g xs) ∧ refsB (fun i => i = 0 ∧ nmZB.isSome = true) k := fun k h => by
 unfold nmZB at h
 cases h
 exact ⟨⟨_, _, _, _, rfl⟩, refs_clm _⟩
theorem nm_har : ∀ j (h : j < [AV.agg [.nils, .osl 0 0 0 31, .int .i64 0]].length), refs (fun i => i = 0 ∧ nmZB.isSome = true) [AV.agg [.nils, .osl 0 0 0 31, .int .i64 0]][j] := fun j h => by
 have : j = 0 := by
  have : j < 1 := h
  omega
 subst this
 simp [refs, refsL, nmZB]
theorem nm_hb : nmZB = nmZB.map (renB fun _ => 11) := by
 show some (ABlk.cells 73 3 0 nmZ) = some (ABlk.cells 73 3 0 (renL (fun _ => 11) nmZ))
 rw [show renL (fun _ => 11) nmZ = nmZ from ren_clm _]
theorem nm_hx : renL (fun _ => 11) nmZ = nmZ := ren_clm _
theorem nm_hc0 : ∀ i, hget [nmZB] i = if i = 0 then nmZB else none := fun i => by cases i <;> rfl
theorem nm_hc1 : ∀ i, hget [nmZB] i = if i = 0 then some (.cells 73 3 0 nmZ) else none := fun i => by cases i <;> rfl
theorem nm_chk : SemF Try.prog 44 [.agg [.nils, .osl 0 0 0 31, .int .i64 0]] [nmZB] (.int .i64 3) [nmZB] := nm_checkO
theorem names_c : zO Try.prog 15 [] (.bool true) := by
 have hA := awake_c
 have hv := nm_valley
 have h1 := nm_s13
 have h2 := nm_s03
 have h3 := nm_s02
 have h4 := nm_wOdd
 have h5 := nm_dOdd
 have h6 := nm_i0
 have h7 := nm_wVal
 have h8 := nm_s22
 have h9 := nm_s40
 have h10 := nm_w11
 have h11 := nm_w14
 have h12 := nm_wLoud
 have h13 := nm_yA
 obtain ⟨X, h14⟩ := nm_yB
 have hvo := nm_valley_o
 have h15 := nm_cBad
 have h16 := nm_cZero
 have h17 := nm_p1
 have h18 := nm_p2
 have hRp := nmR_p
 have hRl := fun p => nmR_l (p := p)
 have hRn := nmR_len
 generalize nmR = R at *
 (refine zG (fun w args => Try.call15 ..) Try.func15 rfl (fun w0 m0 wz => ?_); simp only [Try.ntmps15, Try.results15, zN, zP, zU, zV, slR, slC, zL, sl, List.toList_toArray, List.cons_append, List.nil_append, List.length_cons, List.length_nil, Nat.reduceAdd, Nat.reduceSub])
 (repeat' (first
 | (refine awp_frz (c := .region 6 _ _) 1 rfl (by simp (maxSteps := 4000000) only [go_sem, seval, nmC, hRn, hRp, hRl, List.cons_append, List.nil_append]) (fun _ => rfl) ?_; simp only [frz, fq_pure, fzB_c, fzB_m, fzB_d, fzB_l, fzO, fzH, fzHs, fzl, fz2, fz1, fz0, List.map_cons, List.map_nil, if_true, if_false, reduceIte, Nat.reduceEqDiff, Nat.reduceAdd, Nat.succ_ne_self, Nat.zero_ne_one, Nat.one_ne_zero, reduceCtorEq, and_self])
 | ((exact Try.underlying4))
 | ((omega))
 | ((exfalso; omega))
 | refine zC ?_
 | refine kt ?_
 | refine And.intro ?_ ?_
 | ((first | refine awp_stp rfl ?_ | refine Imp.le2 ?_ | refine callK_of (hv) ?_ | refine callK_of (h1) ?_ | refine callK_of (h2) ?_ | refine callK_of (h3) ?_ | refine callK_of (h4) ?_ | refine callK_of (h5) ?_ | refine callK_of (h6) ?_ | refine callK_of (h7) ?_ | refine callK_of (h8) ?_ | refine callK_of (h9) ?_ | refine callK_of (h10) ?_ | refine callK_of (h11) ?_ | refine go_split (fun _h => ?_) (fun _h => ?_)) <;> try simp (maxSteps := 4000000) only [go_sem, seval, nmC, hRn, hRp, hRl, List.cons_append, List.nil_append])
 | intro _h
 | refine zA ?_
 | refine zB ?_
 | refine zF ?_ ?_
 | (show zE _ _ = true; kernel_rfl)
 | (show zD _ _ = true; kernel_rfl)
 | (omega)))
 clear h1 h2 h3 h4 h5 h6 h7 h8 h9 h10 h11
 have hsn : ∀ k : Nat, recs zV (List.replicate k ⟨0, 3, 0⟩) ++ [.int .u8 0, .int .i64 3, .int .i64 0] = recs zV (List.replicate (k + 1) ⟨0, 3, 0⟩) := fun k => by
  rw [List.replicate_succ', ← recs_one]; rfl
 have hsm : ∀ k : Nat, recs zU (List.replicate k ⟨0, 0, 100⟩) ++ [.int .i64 0, .int .i64 0, .int .i64 100] = recs zU (List.replicate (k + 1) ⟨0, 0, 100⟩) := fun k => by
  rw [List.replicate_succ', ← recs_one]; rfl
 have hl1 : ∀ k : Nat, (recs zV (List.replicate k ⟨0, 3, 0⟩)).length = k * 3 := fun k => by rw [recs_length (sz := 3) (fun _ => rfl), List.length_replicate]
 have hl2 : ∀ k : Nat, (recs zU (List.replicate k ⟨0, 0, 100⟩)).length = k * 3 := fun k => by rw [recs_length (sz := 3) (fun _ => rfl), List.length_replicate]
 refine awp_loopN 9 (fun k => ⟨mkT 268 [(13, .int .i64 7), (15, .int .i64 2), (17, .int .i64 2), (19, .int .i64 2), (20, .ptr 3 0 0), (21, .int .i64 0), (22, .ptr 4 0 0), (23, .int .i64 k)], [none, none, none, some (.cells 35 1 0 [.psl false 4 nmW, .psl false 1 [.int .u8 2, .int .i64 1, .int .i64 0], .int .i64 30]), some (.cells 35 1 0 [.psl true 4 R, .osl 5 k 0 k, .int .i64 30]), some (.cells 73 3 k (recs zV (List.replicate k ⟨0, 3, 0⟩)))], []⟩) (.le2 ?_) ?_
 ·simp (maxSteps := 4000000) only [go_sem, seval]
  all_goals first | rfl | exact ⟨rfl, rfl⟩ | exact ⟨rfl, rfl, rfl⟩ | trace_state
 ·intro k hk
  rcases Nat.lt_or_eq_of_le hk with hk1 | hk1
  ·simp (maxSteps := 4000000) only [go_sem, seval]
   (repeat' (first
 | ((omega))
 | ((exfalso; omega))
 | refine zC ?_
 | refine kt ?_
 | refine And.intro ?_ ?_
 | ((first | refine awp_stp rfl ?_ | refine awp_draw (by kernel_rfl) (by kernel_rfl) ?_ | refine Imp.le2 ?_ | refine go_split (fun _h => ?_) (fun _h => ?_)) <;> try simp (maxSteps := 4000000) only [go_sem, seval, hsn, hl1, List.cons_append, List.nil_append])
 | intro _h
 | refine zA ?_
 | refine zB ?_
 | refine zF ?_ ?_
 | (show zE _ _ = true; kernel_rfl)
 | (show zD _ _ = true; kernel_rfl)
 | (omega)))
   all_goals first | rfl | exact ⟨rfl, rfl⟩ | trace_state
  ·subst hk1
   have e9 : recs zV (List.replicate 9 ⟨0, 3, 0⟩) = nmL := rfl
   rw [e9]
   have hLp : pureL nmL = True := by unfold nmL; exact eq_true (recs_pure fun s => by simp [pureL, zV, zK])
   generalize nmL = L9 at *
   simp (maxSteps := 4000000) only [go_sem, seval]
   (repeat' (first
 | (refine awp_frz (c := .region 21 _ _) 5 rfl (by simp (maxSteps := 4000000) only [go_sem, seval, hLp]) (fun _ => rfl) ?_; simp only [frz, fq_pure, fzB_c, fzB_m, fzB_d, fzB_l, fzO, fzH, fzHs, fzl, fz2, fz1, fz0, List.map_cons, List.map_nil, if_true, if_false, reduceIte, Nat.reduceEqDiff, Nat.reduceAdd, Nat.succ_ne_self, Nat.zero_ne_one, Nat.one_ne_zero, reduceCtorEq, and_self])
 | ((omega))
 | ((exfalso; omega))
 | refine zC ?_
 | refine kt ?_
 | refine And.intro ?_ ?_
 | ((first | refine awp_stp rfl ?_ | refine Imp.le2 ?_ | refine callK_of (h12) ?_ | refine go_split (fun _h => ?_) (fun _h => ?_)) <;> try simp (maxSteps := 4000000) only [go_sem, seval, hLp])
 | intro _h
 | refine zA ?_
 | refine zB ?_
 | refine zF ?_ ?_
 | (show zE _ _ = true; kernel_rfl)
 | (show zD _ _ = true; kernel_rfl)
 | (omega)))
   refine awp_adH 6 0 58 3 rfl rfl ?_
   simp only [adH, hget, hset, lset, List.length_cons, List.length_nil, Nat.reduceAdd]
   refine awp_loopN 6 (fun k => ⟨mkT 268 [(13, .int .i64 7), (15, .int .i64 2), (17, .int .i64 2), (19, .int .i64 2), (20, .ptr 3 0 0), (21, .int .i64 0), (25, .int .i64 3), (26, .ptr 6 0 0), (27, .int .i64 k)], [none, none, none, some (.cells 35 1 0 [.psl false 4 nmW, .psl false 1 [.int .u8 2, .int .i64 1, .int .i64 0], .int .i64 30]), none, none, some (.cells 35 1 0 [.osl 7 k 0 k, .nils, .int .i64 1]), some (.cells 58 3 k (recs zU (List.replicate k ⟨0, 0, 100⟩)))], []⟩) (.le2 ?_) ?_
   ·simp (maxSteps := 4000000) only [go_sem, seval]
    all_goals first | rfl | exact ⟨rfl, rfl⟩ | exact ⟨rfl, rfl, rfl⟩ | trace_state
   ·intro k hk
    rcases Nat.lt_or_eq_of_le hk with hk1 | hk1
    ·simp (maxSteps := 4000000) only [go_sem, seval]
     (repeat' (first
 | ((omega))
 | ((exfalso; omega))
 | refine zC ?_
 | refine kt ?_
 | refine And.intro ?_ ?_
 | ((first | refine awp_stp rfl ?_ | refine awp_draw (by kernel_rfl) (by kernel_rfl) ?_ | refine Imp.le2 ?_ | refine callK_of (span_c _ _) ?_ | refine go_split (fun _h => ?_) (fun _h => ?_)) <;> try simp (maxSteps := 4000000) only [go_sem, seval, hsm, hl2, List.cons_append, List.nil_append])
 | intro _h
 | refine zA ?_
 | refine zB ?_
 | refine zF ?_ ?_
 | (show zE _ _ = true; kernel_rfl)
 | (show zD _ _ = true; kernel_rfl)
 | (omega)))
     all_goals first | rfl | exact ⟨rfl, rfl⟩ | trace_state
    ·subst hk1
     have e6 : recs zU (List.replicate 6 ⟨0, 0, 100⟩) = nmF := rfl
     rw [e6]
     have hFp : pureL nmF = True := by unfold nmF; exact eq_true (recs_pure fun s => by simp [pureL, zU, zK])
     generalize nmF = F6 at *
     have hBp : nmB = [.int .u8 3, .int .i64 2, .int .i64 0, .int .u8 2, .int .i64 1, .int .i64 0] := rfl
     simp only [nmC] at hvo
     simp (maxSteps := 4000000) only [go_sem, seval]
     (repeat' (first
 | (refine awp_frz (c := .region 27 _ _) 7 rfl (by simp (maxSteps := 4000000) only [go_sem, seval, hFp]) (fun _ => rfl) ?_; simp only [frz, fq_pure, fzB_c, fzB_m, fzB_d, fzB_l, fzO, fzH, fzHs, fzl, fz2, fz1, fz0, List.map_cons, List.map_nil, if_true, if_false, reduceIte, Nat.reduceEqDiff, Nat.reduceAdd, Nat.succ_ne_self, Nat.zero_ne_one, Nat.one_ne_zero, reduceCtorEq, and_self])
 | (refine zJ (id := 30) 0 rfl ?_; simp (maxSteps := 4000000) only [go_sem, seval, List.take_succ_cons, List.take_zero, hFp])
 | (refine zQ (hvo) [] rfl ?_ ?_ rfl ?_ <;> try simp (maxSteps := 4000000) only [go_sem, seval, Nat.lt_irrefl, hFp] <;> try decide)
 | ((omega))
 | ((exfalso; omega))
 | refine zC ?_
 | refine kt ?_
 | refine And.intro ?_ ?_
 | ((first | refine awp_stp rfl ?_ | refine Imp.le2 ?_ | refine callK_of (h13) ?_ | refine callK_of (h14) ?_ | refine go_split (fun _h => ?_) (fun _h => ?_)) <;> try simp (maxSteps := 4000000) only [go_sem, seval, hFp])
 | intro _h
 | refine zA ?_
 | refine zB ?_
 | refine zF ?_ ?_
 | (show zE _ _ = true; kernel_rfl)
 | (show zD _ _ = true; kernel_rfl)
 | (omega)))
     (refine awp_frz 9 rfl (by simp (maxSteps := 4000000) only [go_sem, seval]) (fun _ => rfl) ?_; simp only [frz, fq_pure, fzB_c, fzB_m, fzB_d, fzB_l, fzO, fzH, fzHs, fzl, fz2, fz1, fz0, List.map_cons, List.map_nil, if_true, if_false, reduceIte, Nat.reduceEqDiff, Nat.reduceAdd, Nat.succ_ne_self, Nat.zero_ne_one, Nat.one_ne_zero, reduceCtorEq, and_self])
     (repeat refine zC ?_)
     refine awp_drawsE [(71, some ⟨.int .i64 3, [], some (11, .cells 73 3 0 nmZ)⟩, [])] (by kernel_rfl) (by kernel_rfl) ?_
     simp (maxSteps := 4000000) only [go_sem, seval, se_own, se_op, se_nil, List.take_succ_cons, List.take_zero, List.drop_succ_cons, List.drop_zero]
     (repeat' (first
 | ((exact absurd _h (by decide)))
 | ((refine ⟨rfl, sound_call1 rfl rfl 11 (ars := [.agg [.nils, .osl 0 0 0 31, .int .i64 0]]) rfl nm_chk nm_hc0 nm_hc1 nm_hcc nm_har nm_hb (by simp [ren]) nm_hx, ?_⟩))
 | ((exact eqOK 48))
 | ((exact tkb48))
 | ((show _ = _; exact tkb48))
 | ((exact eqOK 73))
 | ((exact tkb73))
 | ((show _ = _; exact tkb73))
 | ((exact Try.underlying4))
 | ((omega))
 | ((exfalso; omega))
 | refine zC ?_
 | refine kt ?_
 | refine And.intro ?_ ?_
 | ((first | refine awp_stp rfl ?_ | refine Imp.le2 ?_ | refine callK_of (h15) ?_ | refine callK_of (h16) ?_ | refine callK_of (h17) ?_ | refine callK_of (h18) ?_ | refine callK_of (span_c _ _) ?_ | refine callK_of (hv) ?_ | refine callK_of (hA) ?_ | refine go_split (fun _h => ?_) (fun _h => ?_)) <;> try simp (maxSteps := 4000000) only [go_sem, seval, eq_self, decide_true, Bool.and_true, nmW, hRp, hRl, hFp, se_own, se_op, se_nil, List.take_succ_cons, List.take_zero, List.drop_succ_cons, List.drop_zero])
 | intro _h
 | refine zA ?_
 | refine zB ?_
 | refine zF ?_ ?_
 | (show zE _ _ = true; kernel_rfl)
 | (show zD _ _ = true; kernel_rfl)
 | (omega)))
     all_goals trace_state
end Go.Am
