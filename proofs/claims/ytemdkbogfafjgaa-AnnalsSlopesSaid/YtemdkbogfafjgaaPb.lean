/- Parts UjA, VwB of the proof, one behind the other. No statement is proved here. -/
import Derived.Test.YtemdkbogfafjgaaPa
import Derived.Test.YtemdkbogfafjgaaP7
import Derived.Test.YtemdkbogfafjgaaP4
/- The law AnnalsSlopes, as a contract: it returns true, if awake does. -/
namespace Go.Am
open Go.RowKit Go.Proofs
attribute [local irreducible] AWP CallS Kt goK CallK stepK evOps SemF SemY Imp
set_option maxRecDepth 4000
set_option linter.unusedSimpArgs false
set_option linter.unusedVariables false
set_option maxHeartbeats 1600000

theorem faultA_ok {t : Ann} (hk : ∀ c ∈ t.claims, 0 ≤ c.kind) (h : faultA t = 0) : AnnOK t := by
  unfold faultA at h
  split at h
  · omega
  · rename_i h1
    split at h
    · omega
    · rename_i h2
      have hR : t.reports.all rptB = true := by
        cases hr : t.reports.all rptB with
        | true => rfl
        | false => exact absurd (.inr (.inl hr)) h2
      have hC : t.claims.all (clmB t) = true := by
        cases hr : t.claims.all (clmB t) with
        | true => rfl
        | false => exact absurd (.inr (.inr hr)) h2
      have h3 : ¬ (t.reports.length = 0 ∨ ¬ (0 ≤ t.rest ∧ t.rest ≤ 100000)) := fun h => h2 (.inl h)
      have h4 : 0 ≤ t.rest ∧ t.rest ≤ 100000 := Classical.not_not.1 fun h => h3 (.inr h)
      refine ⟨by omega, by omega, h4, fun i hi => ?_, fun j hj => ?_⟩
      · have h5 : rptB (t.reports.getD i default) = true := List.all_eq_true.1 hR _ (by rw [List.getD_eq_getElem?_getD, List.getElem?_eq_getElem hi]; exact List.getElem_mem hi)
        unfold rptB at h5
        have h6 := of_decide_eq_true h5
        omega
      · have hm : t.claims.getD j default ∈ t.claims := by rw [List.getD_eq_getElem?_getD, List.getElem?_eq_getElem hj]; exact List.getElem_mem hj
        have h5 : clmB t (t.claims.getD j default) = true := List.all_eq_true.1 hC _ hm
        have h6 := hk _ hm
        unfold clmB inxB at h5
        simp only [Bool.and_eq_true, decide_eq_true_eq] at h5
        omega
theorem rem_c {x : Int} {n : Nat} (hx : 0 ≤ x) : x.tmod n = ((x.toNat % n : Nat) : Int) := by
  obtain ⟨m, rfl⟩ := Int.eq_ofNat_of_zero_le hx
  rw [Int.toNat_natCast]
  rfl
/-- What is sure of two reports, and the days. -/
structure SlopeP (t : Ann) (i k : Nat) : Prop where
  fd : (fiV t).1 = ((suV t ⟨i, k⟩).1 || (suV t ⟨i, k⟩).2)
  ne : (rp t i).slope ≠ (rp t k).slope → (suV t ⟨i, k⟩).1 = false
  eq : (suV t ⟨i, k⟩).1 = true → (suV t ⟨i, k⟩).2 = false → (fiV t).2.getD i 0 = (fiV t).2.getD k 0 ∧ (fiV (mirA t)).2.getD i 0 = (fiV (mirA t)).2.getD k 0
theorem eq_of_first {t : Ann} {v : Bool × List Int} (h : FirstS t v) (hv : v.1 = true) {i k : Nat} (hi : i < t.reports.length) (hk : k < t.reports.length) (hs : ∀ C D, Chr t C D → C i = C k) : v.2.getD i 0 = v.2.getD k 0 := by
  obtain ⟨C, D, hc, he⟩ := h.ex hv i hi
  obtain ⟨C', D', hc', he'⟩ := h.ex hv k hk
  have h1 := (hc.same i k hi hk (hs _ _ hc)).2
  have h2 := (hc'.same i k hi hk (hs _ _ hc')).2
  have h3 := h.le _ _ hc k hk
  have h4 := h.le _ _ hc' i hi
  omega
theorem slope_p {t : Ann} (ht : AnnOK t) {i k : Nat} (hi : i < t.reports.length) (hk : k < t.reports.length) : SlopeP t i k := by
  have hs := suV_spec ht (p := ⟨i, k⟩) ⟨⟨by simp, by simpa using hi⟩, by simp, by simpa using hk⟩
  have hf := fiV_spec ht
  have hm := fiV_spec (mirA_ok ht)
  simp only [Int.toNat_natCast] at hs
  refine ⟨?_, fun hne => ?_, fun h1 h2 => ?_⟩
  · rw [Bool.eq_iff_iff, Bool.or_eq_true, hf.fd, hs.one, hs.other]
    constructor
    · rintro ⟨C, D, hc⟩
      by_cases e : C i = C k
      · exact .inl ⟨C, D, hc, e⟩
      · exact .inr ⟨C, D, hc, e⟩
    · rintro (⟨C, D, hc, _⟩ | ⟨C, D, hc, _⟩) <;> exact ⟨C, D, hc⟩
  · cases h : (suV t ⟨i, k⟩).1 with
    | false => rfl
    | true =>
      obtain ⟨C, D, hc, e⟩ := hs.one.1 h
      exact absurd (hc.same i k hi hk e).1 hne
  · have hsame : ∀ C D, Chr t C D → C i = C k := fun C D hc => Classical.byContradiction fun hne => by
      rw [hs.other.2 ⟨C, D, hc, hne⟩] at h2; cases h2
    obtain ⟨C, D, hc, _⟩ := hs.one.1 h1
    have hv : (fiV t).1 = true := hf.fd.2 ⟨C, D, hc⟩
    refine ⟨eq_of_first hf hv hi hk hsame, eq_of_first hm (hm.fd.2 ⟨_, _, chr_mir hc⟩) (by rw [mirA_len]; exact hi) (by rw [mirA_len]; exact hk) fun C' D' hc' => hsame _ _ (chr_mir2 hc')⟩
theorem slopesLaw (hA : CallS Try.prog 17 [] (.bool true)) (t : Ann) (hkd : ∀ c ∈ t.claims, 0 ≤ c.kind) (x y : Int) (hx : 0 ≤ x ∧ x ≤ 255) (hy : 0 ≤ y ∧ y ≤ 255) : CallS Try.prog 9 [.agg (annC t), .int .u8 x, .int .u8 y] (.bool true) := by
  have hre := ready_c t
  cases hR : readyB t with
  | false =>
    rw [hR] at hre
    simp only [annC, slR, slC] at hre ⊢
    (refine callS_of_awp (fun w args => Try.call9 ..) Try.func9 rfl (fun w0 m0 wz => ?_); simp only [Try.ntmps9, Try.results9, initT, junks, rptC, clmC, slR, slC, annC, sl, List.toList_toArray, List.cons_append, List.nil_append, List.length_cons, List.length_nil, Nat.reduceAdd, Nat.reduceSub])
    (repeat' (first
    | (refine awp_seqK ?_)
    | (refine kt ?_)
    | (refine And.intro ?_ ?_)
    | ((first | refine awp_region ?_ | refine awp_draw (by kernel_rfl) (by kernel_rfl) ?_ | refine Imp.le2 ?_ | refine awp_label ?_ | refine awp_skip ?_ | refine awp_exit ?_ | refine awp_cd ?_ | refine awp_ret ?_ | refine callK_of (hre) ?_ | refine callK_of (hA) ?_ | refine go_split (fun _h => ?_) (fun _h => ?_)) <;> try simp (maxSteps := 4000000) only [go_sem, seval])
    | (intro _h)
    | (refine awp_block ?_)
    | (refine awp_scope ?_)
    | (refine cond_b (fun _h => ?_) (fun _h => ?_))
    | (show heapOK _ _ = true; kernel_rfl)
    | (show heapOK2 _ _ = true; kernel_rfl)
    | (omega)))
    all_goals trace_state
  | true =>
    rw [hR] at hre
    have hb : annOK t := thinB_ok (by simp only [readyB, Bool.and_eq_true] at hR; exact hR.1)
    have h0 : faultA t = 0 := by simp only [readyB, Bool.and_eq_true, decide_eq_true_eq] at hR; exact hR.2
    have ht := faultA_ok hkd h0
    have hr := ht.reports
    have hx1 := rem_c (x := x) (n := t.reports.length) hx.1
    have hy1 := rem_c (x := y) (n := t.reports.length) hy.1
    have hi := Nat.mod_lt x.toNat (show 0 < t.reports.length by omega)
    have hk := Nat.mod_lt y.toNat (show 0 < t.reports.length by omega)
    generalize x.toNat % t.reports.length = i at *
    generalize y.toNat % t.reports.length = k at *
    by_cases hik : i = k
    · simp only [annC, slR, slC] at hre ⊢
      (refine callS_of_awp (fun w args => Try.call9 ..) Try.func9 rfl (fun w0 m0 wz => ?_); simp only [Try.ntmps9, Try.results9, initT, junks, rptC, clmC, slR, slC, annC, sl, List.toList_toArray, List.cons_append, List.nil_append, List.length_cons, List.length_nil, Nat.reduceAdd, Nat.reduceSub])
      (repeat' (first
    | ((omega))
    | ((exfalso; omega))
    | (refine awp_seqK ?_)
    | (refine kt ?_)
    | (refine And.intro ?_ ?_)
    | ((first | refine awp_region ?_ | refine awp_draw (by kernel_rfl) (by kernel_rfl) ?_ | refine Imp.le2 ?_ | refine awp_label ?_ | refine awp_skip ?_ | refine awp_exit ?_ | refine awp_cd ?_ | refine awp_ret ?_ | refine callK_of (hre) ?_ | refine callK_of (hA) ?_ | refine go_split (fun _h => ?_) (fun _h => ?_)) <;> try simp (maxSteps := 4000000) only [go_sem, seval, hx1, hy1])
    | (intro _h)
    | (refine awp_block ?_)
    | (refine awp_scope ?_)
    | (refine cond_b (fun _h => ?_) (fun _h => ?_))
    | (show heapOK _ _ = true; kernel_rfl)
    | (show heapOK2 _ _ = true; kernel_rfl)
    | (omega)))
      all_goals trace_state
    · have hsp := slope_p ht hi hk
      have han := annals_c t hb
      have hsu := Surely_c t i k hb (fun _ => ht)
      have hda := Days_c t hb (fun _ => ht) (fun _ h => fiV_mir ht (mirA_ok ht) h)
      have e1 : sureE t i k = if suV t ⟨i, k⟩ = (false, false) then 9 else 0 := by
        unfold sureE; rw [if_pos h0, if_pos ⟨⟨by omega, by omega⟩, ⟨by omega, by omega⟩, by omega⟩]
      have e2 : dayE t = if (fiV t).1 = true then 0 else 9 := by unfold dayE; rw [if_pos h0]
      have e3 : sureV t i k = if sureE t i k = 0 then (if (suV t ⟨i, k⟩).1 = true then (if (suV t ⟨i, k⟩).2 = true then 3 else 1) else 2) else 0 := rfl
      have e4 : dayV t = if dayE t = 0 then slG (tab t.reports.length (dayF (fiV t).2 (fiV (mirA t)).2)) else .nils := rfl
      have htb := fun (j : Nat) (hj : j < t.reports.length) => show (tab t.reports.length (dayF (fiV t).2 (fiV (mirA t)).2)).getD j default = ((fiV t).2.getD j 0, 100000 - (fiV (mirA t)).2.getD j 0) by
        simp [tab, dayF, List.getD_eq_getElem?_getD, hj]
      have ht1 := htb i hi
      have ht2 := htb k hk
      clear htb
      rw [e3, e1] at hsu
      rw [e4, e2] at hda
      clear e1 e2 e3 e4
      obtain ⟨p1, p2, p3⟩ := hsp
      generalize suV t ⟨i, k⟩ = V at *
      generalize fiV t = F at *
      generalize fiV (mirA t) = G at *
      have hte : V.1 = true → V.2 = false → (tab t.reports.length (dayF F.2 G.2)).getD k default = (tab t.reports.length (dayF F.2 G.2)).getD i default := fun h1 h2 => by
        rw [ht1, ht2, (p3 h1 h2).1, (p3 h1 h2).2]
      have hla : (tab t.reports.length (dayF F.2 G.2)).length = t.reports.length := tab_length
      generalize tab t.reports.length (dayF F.2 G.2) = T at *
      clear ht1 ht2 p3
      obtain ⟨x1, y1⟩ := V
      obtain ⟨f1, L⟩ := F
      simp only at p1 p2 hte hsu hda
      subst p1
      have hslo : (rp t i).slope = (t.reports.getD i default).slope := rfl
      have hslo2 : (rp t k).slope = (t.reports.getD k default).slope := rfl
      rw [hslo, hslo2] at p2
      clear hslo hslo2
      cases x1 <;> cases y1
      · simp only [Prod.mk.injEq, and_self, if_true, Bool.or_false, Bool.false_eq_true, if_false] at hsu hda
        rw [if_neg (by omega)] at hsu hda
        simp only [annC, slR, slC] at hre han hsu hda ⊢
        (refine callS_of_awp (fun w args => Try.call9 ..) Try.func9 rfl (fun w0 m0 wz => ?_); simp only [Try.ntmps9, Try.results9, initT, junks, rptC, clmC, slR, slC, annC, sl, List.toList_toArray, List.cons_append, List.nil_append, List.length_cons, List.length_nil, Nat.reduceAdd, Nat.reduceSub])
        (repeat' (first
    | ((omega))
    | ((exfalso; omega))
    | (refine awp_seqK ?_)
    | (refine kt ?_)
    | (refine And.intro ?_ ?_)
    | ((first | refine awp_region ?_ | refine awp_draw (by kernel_rfl) (by kernel_rfl) ?_ | refine Imp.le2 ?_ | refine awp_label ?_ | refine awp_skip ?_ | refine awp_exit ?_ | refine awp_cd ?_ | refine awp_ret ?_ | refine callK_of (hre) ?_ | refine callK_of (hA) ?_ | refine callK_of (han) ?_ | refine callK_of (hsu) ?_ | refine callK_of (hda) ?_ | refine go_split (fun _h => ?_) (fun _h => ?_)) <;> try simp (maxSteps := 4000000) only [go_sem, seval, hx1, hy1])
    | (intro _h)
    | (refine awp_block ?_)
    | (refine awp_scope ?_)
    | (refine cond_b (fun _h => ?_) (fun _h => ?_))
    | (show heapOK _ _ = true; kernel_rfl)
    | (show heapOK2 _ _ = true; kernel_rfl)
    | (omega)))
        all_goals trace_state
      · simp only [Prod.mk.injEq, reduceCtorEq, false_and, and_false, if_true, if_false, Bool.or_true, Bool.false_eq_true] at hsu hda
        simp only [annC, slR, slC, slG, hla] at hre han hsu hda ⊢
        (refine callS_of_awp (fun w args => Try.call9 ..) Try.func9 rfl (fun w0 m0 wz => ?_); simp only [Try.ntmps9, Try.results9, initT, junks, rptC, clmC, slR, slC, annC, sl, List.toList_toArray, List.cons_append, List.nil_append, List.length_cons, List.length_nil, Nat.reduceAdd, Nat.reduceSub])
        (repeat' (first
    | ((exact eqOK 48))
    | ((exact tkb48))
    | ((show _ = _; exact tkb48))
    | ((omega))
    | ((exfalso; omega))
    | (refine awp_seqK ?_)
    | (refine kt ?_)
    | (refine And.intro ?_ ?_)
    | ((first | refine awp_region ?_ | refine awp_draw (by kernel_rfl) (by kernel_rfl) ?_ | refine Imp.le2 ?_ | refine awp_label ?_ | refine awp_skip ?_ | refine awp_exit ?_ | refine awp_cd ?_ | refine awp_ret ?_ | refine callK_of (hre) ?_ | refine callK_of (hA) ?_ | refine callK_of (han) ?_ | refine callK_of (hsu) ?_ | refine callK_of (hda) ?_ | refine go_split (fun _h => ?_) (fun _h => ?_)) <;> try simp (maxSteps := 4000000) only [go_sem, seval, hx1, hy1, hla])
    | (intro _h)
    | (refine awp_block ?_)
    | (refine awp_scope ?_)
    | (refine cond_b (fun _h => ?_) (fun _h => ?_))
    | (show heapOK _ _ = true; kernel_rfl)
    | (show heapOK2 _ _ = true; kernel_rfl)
    | (omega)))
        all_goals trace_state
      · simp only [Prod.mk.injEq, reduceCtorEq, false_and, and_false, if_true, if_false, Bool.or_true, Bool.true_or, Bool.false_eq_true] at hsu hda
        simp only [annC, slR, slC, slG, hla] at hre han hsu hda ⊢
        have hsl : (t.reports.getD i default).slope = (t.reports.getD k default).slope := Classical.byContradiction fun h => by have := p2 h; cases this
        have hte := hte rfl rfl
        (refine callS_of_awp (fun w args => Try.call9 ..) Try.func9 rfl (fun w0 m0 wz => ?_); simp only [Try.ntmps9, Try.results9, initT, junks, rptC, clmC, slR, slC, annC, sl, List.toList_toArray, List.cons_append, List.nil_append, List.length_cons, List.length_nil, Nat.reduceAdd, Nat.reduceSub])
        (repeat' (first
    | ((exact eqOK 48))
    | ((exact tkb48))
    | ((show _ = _; exact tkb48))
    | ((omega))
    | ((exfalso; omega))
    | (refine awp_seqK ?_)
    | (refine kt ?_)
    | (refine And.intro ?_ ?_)
    | ((first | refine awp_region ?_ | refine awp_draw (by kernel_rfl) (by kernel_rfl) ?_ | refine Imp.le2 ?_ | refine awp_label ?_ | refine awp_skip ?_ | refine awp_exit ?_ | refine awp_cd ?_ | refine awp_ret ?_ | refine callK_of (hre) ?_ | refine callK_of (hA) ?_ | refine callK_of (han) ?_ | refine callK_of (hsu) ?_ | refine callK_of (hda) ?_ | refine go_split (fun _h => ?_) (fun _h => ?_)) <;> try simp (maxSteps := 4000000) only [go_sem, seval, hx1, hy1, hla, hsl, hte])
    | (intro _h)
    | (refine awp_block ?_)
    | (refine awp_scope ?_)
    | (refine cond_b (fun _h => ?_) (fun _h => ?_))
    | (show heapOK _ _ = true; kernel_rfl)
    | (show heapOK2 _ _ = true; kernel_rfl)
    | (omega)))
        all_goals first | (exfalso; simp at _h; done) | trace_state
      · simp only [Prod.mk.injEq, reduceCtorEq, false_and, and_false, if_true, if_false, Bool.or_true, Bool.false_eq_true] at hsu hda
        simp only [annC, slR, slC, slG, hla] at hre han hsu hda ⊢
        have hsl : (t.reports.getD i default).slope = (t.reports.getD k default).slope := Classical.byContradiction fun h => by have := p2 h; cases this
        (refine callS_of_awp (fun w args => Try.call9 ..) Try.func9 rfl (fun w0 m0 wz => ?_); simp only [Try.ntmps9, Try.results9, initT, junks, rptC, clmC, slR, slC, annC, sl, List.toList_toArray, List.cons_append, List.nil_append, List.length_cons, List.length_nil, Nat.reduceAdd, Nat.reduceSub])
        (repeat' (first
    | ((exact eqOK 48))
    | ((exact tkb48))
    | ((show _ = _; exact tkb48))
    | ((omega))
    | ((exfalso; omega))
    | (refine awp_seqK ?_)
    | (refine kt ?_)
    | (refine And.intro ?_ ?_)
    | ((first | refine awp_region ?_ | refine awp_draw (by kernel_rfl) (by kernel_rfl) ?_ | refine Imp.le2 ?_ | refine awp_label ?_ | refine awp_skip ?_ | refine awp_exit ?_ | refine awp_cd ?_ | refine awp_ret ?_ | refine callK_of (hre) ?_ | refine callK_of (hA) ?_ | refine callK_of (han) ?_ | refine callK_of (hsu) ?_ | refine callK_of (hda) ?_ | refine go_split (fun _h => ?_) (fun _h => ?_)) <;> try simp (maxSteps := 4000000) only [go_sem, seval, hx1, hy1, hla, hsl])
    | (intro _h)
    | (refine awp_block ?_)
    | (refine awp_scope ?_)
    | (refine cond_b (fun _h => ?_) (fun _h => ?_))
    | (show heapOK _ _ = true; kernel_rfl)
    | (show heapOK2 _ _ = true; kernel_rfl)
    | (omega)))
        all_goals trace_state
end Go.Am

/- The law AnnalsSlopes, as a contract: it returns true. -/
namespace Go.Am
open Go.RowKit Go.Proofs
theorem annalsSlopes_c (t : Ann) (x y : Int) (ht : AnnR t) (hx : okI .u8 x) (hy : okI .u8 y) : CallS Try.prog 9 [.agg (annC t), .int .u8 x, .int .u8 y] (.bool true) :=
  slopesLaw awake_c t (fun c hc => (ht.claims c hc).1.1) x y (okI_u8 hx) (okI_u8 hy)
end Go.Am
