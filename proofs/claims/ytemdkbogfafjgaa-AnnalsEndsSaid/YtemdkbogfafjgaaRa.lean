/- Parts UjB, UjC, UjD, VwC of the proof, one behind the other. No statement is proved here. -/
import Derived.Test.YtemdkbogfafjgaaR9
import Derived.Test.YtemdkbogfafjgaaR8
import Derived.Test.YtemdkbogfafjgaaR5
import Derived.Test.YtemdkbogfafjgaaR7
import Derived.Test.YtemdkbogfafjgaaR4
/- Plain words for the law AnnalsEnds: a report whose When is one day. -/
namespace Go.Am
open Go.RowKit Go.Proofs
set_option linter.unusedSimpArgs false
set_option linter.unusedVariables false

def setW (t : Ann) (k : Nat) (x : Int) : Ann := ⟨isp t.reports k ⟨(t.reports.getD k default).slope, x, x⟩, t.claims, t.rest⟩
theorem setW_len {t : Ann} {k : Nat} {x : Int} (h : k < t.reports.length) : (setW t k x).reports.length = t.reports.length := isp_length h
theorem isp_getR {l : List Rpt} {k i : Nat} {v : Rpt} (h : k < l.length) : (isp l k v).getD i default = if i = k then v else l.getD i default := by
  simp only [isp, List.getD_eq_getElem?_getD]
  have h1 : (l.take k).length = k := by rw [List.length_take]; omega
  rcases Nat.lt_trichotomy i k with h2 | h2 | h2
  · rw [if_neg (by omega), List.getElem?_append_left (by omega), List.getElem?_take, if_pos h2]
  · subst h2
    rw [if_pos rfl, List.getElem?_append_right (by omega), h1, Nat.sub_self]; rfl
  · rw [if_neg (by omega), List.getElem?_append_right (by omega), h1]
    obtain ⟨d, rfl⟩ := Nat.exists_eq_add_of_lt h2
    rw [show k + d + 1 - k = d + 1 by omega, List.getElem?_cons_succ, List.getElem?_drop, show k + 1 + d = k + d + 1 by omega]
theorem setW_rp {t : Ann} {k i : Nat} {x : Int} (h : k < t.reports.length) : rp (setW t k x) i = if i = k then ⟨(rp t k).slope, x, x⟩ else rp t i := isp_getR h
theorem isp_all {l : List Rpt} {k : Nat} {v : Rpt} {q : Rpt → Bool} (h : l.all q = true) (hv : q v = true) : (isp l k v).all q = true := by
  rw [List.all_eq_true] at h ⊢
  intro y hy
  simp only [isp, List.mem_append, List.mem_cons] at hy
  rcases hy with hy | rfl | hy
  · exact h y (List.mem_of_mem_take hy)
  · exact hv
  · exact h y (List.mem_of_mem_drop hy)
theorem setW_fault {t : Ann} {k : Nat} {x : Int} (hk : k < t.reports.length) (h : faultA t = 0) (hx : 0 ≤ x ∧ x ≤ 100000) : faultA (setW t k x) = 0 := by
  have hl := setW_len (x := x) hk
  unfold faultA at h ⊢
  have hcl : (setW t k x).claims = t.claims := rfl
  have hre : (setW t k x).rest = t.rest := rfl
  rw [hl, hcl, hre]
  split at h
  · omega
  · rename_i h1
    rw [if_neg h1]
    split at h
    · omega
    · rename_i h2
      have hR : t.reports.all rptB = true := by
        cases hr : t.reports.all rptB with
        | true => rfl
        | false => exact absurd (.inr (.inl hr)) h2
      have hC : t.claims.all (clmB t) = true := by
        cases hr : t.claims.all (clmB t) with
        | true => rfl
        | false => exact absurd (.inr (.inr hr)) h2
      have h3 : ¬ (t.reports.length = 0 ∨ ¬ (0 ≤ t.rest ∧ t.rest ≤ 100000)) := fun h => h2 (.inl h)
      have hs : rptB (t.reports.getD k default) = true := List.all_eq_true.1 hR _ (by rw [List.getD_eq_getElem?_getD, List.getElem?_eq_getElem hk]; exact List.getElem_mem hk)
      have hv : rptB ⟨(t.reports.getD k default).slope, x, x⟩ = true := by
        unfold rptB at hs ⊢
        simp only [decide_eq_true_eq] at hs ⊢
        exact ⟨hs.1, Int.le_refl _, hx, hx⟩
      have hR2 : (setW t k x).reports.all rptB = true := isp_all hR hv
      have hC2 : t.claims.all (clmB (setW t k x)) = true := by
        have e : clmB (setW t k x) = clmB t := by
          funext c
          unfold clmB inxB
          rw [hl]
        rw [e]; exact hC
      rw [if_neg]
      rintro (h4 | h4 | h4)
      · exact h3 h4
      · rw [hR2] at h4; cases h4
      · rw [hC2] at h4; cases h4
theorem setW_chr {t : Ann} {k : Nat} {x : Int} (hk : k < t.reports.length) (hx : (rp t k).lo ≤ x ∧ x ≤ (rp t k).hi) {C D : Nat → Int} : Chr (setW t k x) C D ↔ Chr t C D ∧ D k = x := by
  have hl := setW_len (x := x) hk
  have hslope : ∀ i, (rp (setW t k x) i).slope = (rp t i).slope := fun i => by
    rw [setW_rp hk]; split
    · rename_i e; rw [e]
    · rfl
  constructor
  · intro h
    have hDk := h.day k (by rw [hl]; exact hk)
    rw [setW_rp hk, if_pos rfl] at hDk
    simp only at hDk
    refine ⟨⟨fun i hi => ?_, fun i j hi hj he => ?_, fun i j hi hj hne he => ?_, h.before, h.one, h.other⟩, by omega⟩
    · by_cases e : i = k
      · subst e; omega
      · have := h.day i (by rw [hl]; exact hi)
        rw [setW_rp hk, if_neg e] at this; exact this
    · have := h.same i j (by rw [hl]; exact hi) (by rw [hl]; exact hj) he
      rw [hslope, hslope] at this; exact this
    · exact h.gap i j (by rw [hl]; exact hi) (by rw [hl]; exact hj) hne (by rw [hslope, hslope]; exact he)
  · rintro ⟨h, hD⟩
    refine ⟨fun i hi => ?_, fun i j hi hj he => ?_, fun i j hi hj hne he => ?_, h.before, h.one, h.other⟩
    · rw [hl] at hi
      rw [setW_rp hk]
      split
      · rename_i e; subst e; simp only; omega
      · exact h.day i hi
    · rw [hl] at hi hj
      rw [hslope, hslope]; exact h.same i j hi hj he
    · rw [hl] at hi hj
      rw [hslope, hslope] at he; exact h.gap i j hi hj hne he
/-- What Find says of such annals. -/
theorem setW_find {t : Ann} (hkd : ∀ c ∈ t.claims, 0 ≤ c.kind) (h0 : faultA t = 0) {k : Nat} {x : Int} (hk : k < t.reports.length) (hx : (rp t k).lo ≤ x ∧ x ≤ (rp t k).hi) : findE (setW t k x) = 0 ∨ findE (setW t k x) = 9 ∧ ∀ C D, Chr t C D → D k ≠ x := by
  have ht := faultA_ok hkd h0
  have h1 : _ ∧ 0 ≤ (rp t k).lo ∧ (rp t k).lo ≤ (rp t k).hi ∧ (rp t k).hi ≤ 100000 := ht.rpt k hk
  have hf := setW_fault (x := x) hk h0 (by omega)
  have hok : AnnOK (setW t k x) := faultA_ok hkd hf
  have hs := fnV_spec hok
  unfold findE
  rw [if_pos hf]
  by_cases h : (fnV (setW t k x)).1 = true
  · rw [if_pos h]; exact .inl rfl
  · rw [if_neg h]
    exact .inr ⟨rfl, fun C D hc he => h (hs.2 ⟨C, D, (setW_chr hk hx).2 ⟨hc, he⟩⟩)⟩
structure EndP (t : Ann) (k : Nat) (L H : Int) : Prop where
  le : L ≤ 100000 - H
  in0 : (rp t k).lo ≤ L ∧ L ≤ (rp t k).hi
  in1 : (rp t k).lo ≤ 100000 - H ∧ 100000 - H ≤ (rp t k).hi
  e0 : findE (setW t k L) = 0
  e1 : findE (setW t k (100000 - H)) = 0
  e2 : (rp t k).lo ≤ L - 1 ∧ L - 1 ≤ (rp t k).hi → findE (setW t k (L - 1)) = 9
  e3 : (rp t k).lo ≤ 100000 - H + 1 ∧ 100000 - H + 1 ≤ (rp t k).hi → findE (setW t k (100000 - H + 1)) = 9
theorem end_p {t : Ann} (hkd : ∀ c ∈ t.claims, 0 ≤ c.kind) (h0 : faultA t = 0) (hv : (fiV t).1 = true) {k : Nat} (hk : k < t.reports.length) : EndP t k ((fiV t).2.getD k 0) ((fiV (mirA t)).2.getD k 0) := by
  have ht := faultA_ok hkd h0
  have hf := fiV_spec ht
  have hm := fiV_spec (mirA_ok ht)
  have hvm := fiV_mir ht (mirA_ok ht) hv
  obtain ⟨C, D, hc, he⟩ := hf.ex hv k hk
  obtain ⟨C', D', hc', he'⟩ := hm.ex hvm k (by rw [mirA_len]; exact hk)
  have hc2 := chr_mir2 hc'
  have hin0 := hc.day k hk
  have hin1 := hc2.day k hk
  try simp only at hin1
  have hle := hf.le _ _ hc2 k hk
  try simp only at hle
  have ok : ∀ x C D, Chr t C D → D k = x → findE (setW t k x) = 0 := fun x C D hcd hx => by
    rcases setW_find hkd h0 hk (x := x) (by rw [← hx]; exact hcd.day k hk) with h | ⟨_, h⟩
    · exact h
    · exact absurd hx (h C D hcd)
  have no : ∀ x, (rp t k).lo ≤ x ∧ x ≤ (rp t k).hi → (∀ C D, Chr t C D → D k ≠ x) → findE (setW t k x) = 9 := fun x hx hn => by
    have hs := fnV_spec (t := setW t k x)
    have h1 : _ ∧ 0 ≤ (rp t k).lo ∧ (rp t k).lo ≤ (rp t k).hi ∧ (rp t k).hi ≤ 100000 := ht.rpt k hk
    have hfl := setW_fault (x := x) hk h0 (by omega)
    have hok : AnnOK (setW t k x) := faultA_ok hkd hfl
    unfold findE
    rw [if_pos hfl, if_neg]
    intro h
    obtain ⟨C, D, hcd⟩ := (hs hok).1 h
    obtain ⟨h2, h3⟩ := (setW_chr hk hx).1 hcd
    exact hn C D h2 h3
  rw [← he'] at hin1 hle
  refine ⟨hle, by omega, by omega, ok _ _ _ hc he.symm, ok _ _ _ hc2 (by omega), fun hx => no _ hx fun C D hcd h => ?_, fun hx => no _ hx fun C D hcd h => ?_⟩
  · have := hf.le _ _ hcd k hk; omega
  · have := hm.le _ _ (chr_mir hcd) k (by rw [mirA_len]; exact hk)
    omega
end Go.Am

/- Contracts of the annals functions: annals whose reports the caller may change; a report whose When is one day. -/
namespace Go.Am
open Go.RowKit Go.Proofs
attribute [local irreducible] AWP CallS Kt goK CallK stepK evOps SemF SemY Imp
set_option maxRecDepth 4000
set_option linter.unusedSimpArgs false
set_option linter.unusedVariables false
set_option maxHeartbeats 1600000

theorem annals_o (t : Ann) (hb : annOK t) : SemF Try.prog 19 [.agg (annC t)] [] (.agg [.osl 3 t.reports.length 0 t.reports.length, slC t.claims, .int .i64 t.rest]) [none, none, none, some (.cells 58 3 t.reports.length (recs rptC t.reports))] := by
  obtain ⟨hb1, hb2⟩ := hb
  (refine semF_of_awp (ys := [.agg [.osl 3 t.reports.length 0 t.reports.length, slC t.claims, .int .i64 t.rest]]) (fun w args => Try.call19 ..) Try.func19 rfl (fun w0 m0 wz => ?_); simp only [Try.ntmps19, Try.results19, initT, junks, rptC, clmC, slR, slC, annC, sl, List.toList_toArray, List.cons_append, List.nil_append, List.length_cons, List.length_nil, Nat.reduceAdd, Nat.reduceSub])
  (repeat' (first
    | (refine awp_seqK ?_)
    | (refine kt ?_)
    | (refine And.intro ?_ ?_)
    | ((first | refine awp_region ?_ | refine awp_draw (by kernel_rfl) (by kernel_rfl) ?_ | refine Imp.le2 ?_ | refine awp_label ?_ | refine awp_skip ?_ | refine awp_exit ?_ | refine awp_cd ?_ | refine awp_ret ?_ | refine go_split (fun _h => ?_) (fun _h => ?_)) <;> try simp (maxSteps := 4000000) only [go_sem, seval])
    | (intro _h)
    | (refine awp_block ?_)
    | (refine awp_scope ?_)
    | (refine cond_b (fun _h => ?_) (fun _h => ?_))
    | (show heapOK _ _ = true; kernel_rfl)
    | (show heapOK2 _ _ = true; kernel_rfl)
    | (omega)))
  refine awp_adH 2 0 58 3 rfl rfl ?_
  simp only [adH, hget, hset, lset, List.length_cons, List.length_nil, Nat.reduceAdd]
  refine awp_adH 2 1 73 3 rfl rfl ?_
  simp only [adH, hget, hset, lset, List.length_cons, List.length_nil, Nat.reduceAdd]
  refine awp_loopN t.reports.length (fun k => ⟨mkT 69 [(1, .ptr 0 0 0), (2, .ptr 1 0 0), (3, .ptr 2 0 0), (4, .int .i64 k)], [some (.cells 25 1 0 (annC t)), some (.cells 35 1 0 [.nils, .nils, .int .i64 0]), some (.cells 35 1 0 [.osl 3 k 0 k, .osl 4 0 0 0, .int .i64 t.rest]), some (.cells 58 3 k (recs rptC (t.reports.take k))), some (.cells 73 3 0 [])], []⟩) (.le2 ?_) ?_
  · simp only [annC, slR, slC]; simp (maxSteps := 4000000) only [go_sem, seval]
    rfl
  · intro k hk
    rcases Nat.lt_or_eq_of_le hk with hk1 | hk1
    · have hlt : (t.reports.take k).length = k := by simp; omega
      have hsn := recs_take (enc := rptC) (d := default) hk1
      simp only [rptC] at hsn
      simp only [annC, slR, slC]; simp (maxSteps := 4000000) only [go_sem, seval]
      (repeat' (first
    | ((omega))
    | (refine awp_seqK ?_)
    | (refine kt ?_)
    | (refine And.intro ?_ ?_)
    | ((first | refine awp_region ?_ | refine awp_draw (by kernel_rfl) (by kernel_rfl) ?_ | refine Imp.le2 ?_ | refine awp_label ?_ | refine awp_skip ?_ | refine awp_exit ?_ | refine awp_cd ?_ | refine awp_ret ?_ | refine go_split (fun _h => ?_) (fun _h => ?_)) <;> try simp (maxSteps := 4000000) only [go_sem, seval, hlt, hsn])
    | (intro _h)
    | (refine awp_block ?_)
    | (refine awp_scope ?_)
    | (refine cond_b (fun _h => ?_) (fun _h => ?_))
    | (show heapOK _ _ = true; kernel_rfl)
    | (show heapOK2 _ _ = true; kernel_rfl)
    | (omega)))
      all_goals trace_state
    · subst hk1
      have hlt : (t.reports.take t.reports.length) = t.reports := by simp
      simp only [annC, slR, slC]; simp (maxSteps := 4000000) only [go_sem, seval, hlt]
      (repeat' (first
    | ((exfalso; omega))
    | (refine awp_seqK ?_)
    | (refine kt ?_)
    | (refine And.intro ?_ ?_)
    | ((first | refine awp_region ?_ | refine awp_draw (by kernel_rfl) (by kernel_rfl) ?_ | refine Imp.le2 ?_ | refine awp_label ?_ | refine awp_skip ?_ | refine awp_exit ?_ | refine awp_cd ?_ | refine awp_ret ?_ | refine go_split (fun _h => ?_) (fun _h => ?_)) <;> try simp (maxSteps := 4000000) only [go_sem, seval, hlt])
    | (intro _h)
    | (refine awp_block ?_)
    | (refine awp_scope ?_)
    | (refine cond_b (fun _h => ?_) (fun _h => ?_))
    | (show heapOK _ _ = true; kernel_rfl)
    | (show heapOK2 _ _ = true; kernel_rfl)
    | (omega)))
      refine awp_loopN t.claims.length (fun k => ⟨mkT 69 [(1, .ptr 0 0 0), (2, .ptr 1 0 0), (3, .ptr 2 0 0), (6, .int .i64 k)], [some (.cells 25 1 0 (annC t)), some (.cells 35 1 0 [.nils, .nils, .int .i64 0]), some (.cells 35 1 0 [.osl 3 t.reports.length 0 t.reports.length, .osl 4 k 0 k, .int .i64 t.rest]), some (.cells 58 3 t.reports.length (recs rptC t.reports)), some (.cells 73 3 k (recs clmC (t.claims.take k)))], []⟩) (.le2 ?_) ?_
      · simp only [annC, slR, slC]; simp (maxSteps := 4000000) only [go_sem, seval]
        rfl
      · intro k hk
        rcases Nat.lt_or_eq_of_le hk with hk1 | hk1
        · have hlt : (t.claims.take k).length = k := by simp; omega
          have hsn := recs_take (enc := clmC) (d := default) hk1
          simp only [clmC] at hsn
          simp only [annC, slR, slC]; simp (maxSteps := 4000000) only [go_sem, seval]
          (repeat' (first
    | ((omega))
    | (refine awp_seqK ?_)
    | (refine kt ?_)
    | (refine And.intro ?_ ?_)
    | ((first | refine awp_region ?_ | refine awp_draw (by kernel_rfl) (by kernel_rfl) ?_ | refine Imp.le2 ?_ | refine awp_label ?_ | refine awp_skip ?_ | refine awp_exit ?_ | refine awp_cd ?_ | refine awp_ret ?_ | refine go_split (fun _h => ?_) (fun _h => ?_)) <;> try simp (maxSteps := 4000000) only [go_sem, seval, hlt, hsn])
    | (intro _h)
    | (refine awp_block ?_)
    | (refine awp_scope ?_)
    | (refine cond_b (fun _h => ?_) (fun _h => ?_))
    | (show heapOK _ _ = true; kernel_rfl)
    | (show heapOK2 _ _ = true; kernel_rfl)
    | (omega)))
          all_goals trace_state
        · subst hk1
          have hlt : (t.claims.take t.claims.length) = t.claims := by simp
          simp only [annC, slR, slC]; simp (maxSteps := 4000000) only [go_sem, seval, hlt]
          (repeat' (first
    | (refine awp_frz (c := .region 11 _ _) 4 rfl (by simp (maxSteps := 4000000) only [go_sem, seval, hlt]) (fun _ => rfl) ?_; simp only [frz, fq_pure, fzB_c, fzB_m, fzB_d, fzB_l, fzO, fzH, fzHs, fzl, fz2, fz1, fz0, List.map_cons, List.map_nil, if_true, if_false, reduceIte, Nat.reduceEqDiff, Nat.reduceAdd, Nat.succ_ne_self, Nat.zero_ne_one, Nat.one_ne_zero, reduceCtorEq, and_self])
    | ((exfalso; omega))
    | (refine awp_seqK ?_)
    | (refine kt ?_)
    | (refine And.intro ?_ ?_)
    | ((first | refine awp_region ?_ | refine awp_draw (by kernel_rfl) (by kernel_rfl) ?_ | refine Imp.le2 ?_ | refine awp_label ?_ | refine awp_skip ?_ | refine awp_exit ?_ | refine awp_cd ?_ | refine awp_ret ?_ | refine go_split (fun _h => ?_) (fun _h => ?_)) <;> try simp (maxSteps := 4000000) only [go_sem, seval, hlt])
    | (intro _h)
    | (refine awp_block ?_)
    | (refine awp_scope ?_)
    | (refine cond_b (fun _h => ?_) (fun _h => ?_))
    | (show heapOK _ _ = true; kernel_rfl)
    | (show heapOK2 _ _ = true; kernel_rfl)
    | (omega)))
          all_goals trace_state
theorem sp_when {l : List Rpt} {k : Nat} {a b : Int} (h : k < l.length) : splice (recs rptC l) (k * 3 + 1) [.int .i64 a, .int .i64 b] = recs rptC (isp l k ⟨(l.getD k default).slope, a, b⟩) := by
  have e : l = l.take k ++ l.getD k default :: l.drop (k + 1) := by
    have h1 : l.getD k default = l[k] := by simp [List.getD_eq_getElem?_getD, h]
    rw [h1, ← List.drop_eq_getElem_cons h, List.take_append_drop]
  have hr : ∀ x y : List Rpt, recs rptC (x ++ y) = recs rptC x ++ recs rptC y := fun x y => by simp [recs]
  have hc : ∀ (x : Rpt) (y : List Rpt), recs rptC (x :: y) = .int .i64 x.slope :: .int .i64 x.lo :: .int .i64 x.hi :: recs rptC y := fun x y => by simp [recs, rptC]
  have hl : (recs rptC (l.take k)).length = k * 3 := by rw [len_R, List.length_take, Nat.min_eq_left (by omega)]
  have e2 : recs rptC l = recs rptC (l.take k) ++ (.int .i64 (l.getD k default).slope :: .int .i64 (l.getD k default).lo :: .int .i64 (l.getD k default).hi :: recs rptC (l.drop (k + 1))) := by
    conv => lhs; rw [e, hr, hc]
  rw [e2]
  simp only [splice, isp, hr, hc, List.length_cons, List.length_nil]
  rw [← hl, List.take_length_add_append, show (recs rptC (l.take k)).length + 1 + (0 + 1 + 1) = (recs rptC (l.take k)).length + 3 by omega, List.drop_length_add_append]
  simp
end Go.Am

/- The law AnnalsEnds, as a contract: it returns true, if awake does. -/
namespace Go.Am
open Go.RowKit Go.Proofs
attribute [local irreducible] AWP CallS Kt goK CallK stepK evOps SemF SemY Imp
set_option maxRecDepth 4000
set_option linter.unusedSimpArgs false
set_option linter.unusedVariables false
set_option maxHeartbeats 3200000

theorem nth_G0 {l : List (Int × Int)} {i : Nat} {K : AV → Prop} : optK (nth (recs rngC l) (i * 2)) K = (i < l.length ∧ K (.int .i64 (l.getD i default).1)) := nth_recs (sz := 2) (o := 0) (fun _ => rfl) (by omega)
theorem nth_G1 {l : List (Int × Int)} {i : Nat} {K : AV → Prop} : optK (nth (recs rngC l) (i * 2 + 1)) K = (i < l.length ∧ K (.int .i64 (l.getD i default).2)) := nth_recs (sz := 2) (o := 1) (fun _ => rfl) (by omega)
theorem ren_R {σ : Nat → Nat} : ∀ {l : List Rpt}, renL σ (recs rptC l) = recs rptC l
  | [] => rfl
  | x :: l => by
    have ih := ren_R (σ := σ) (l := l)
    have hc : recs rptC (x :: l) = .int .i64 x.slope :: .int .i64 x.lo :: .int .i64 x.hi :: recs rptC l := by simp [recs, rptC]
    rw [hc]
    simp only [renL, ih, ren]
theorem refs_R {p : Nat → Prop} : ∀ {l : List Rpt}, refsL p (recs rptC l) = True
  | [] => rfl
  | x :: l => by
    have ih := refs_R (p := p) (l := l)
    have hc : recs rptC (x :: l) = .int .i64 x.slope :: .int .i64 x.lo :: .int .i64 x.hi :: recs rptC l := by simp [recs, rptC]
    rw [hc]
    simp only [refsL, ih, refs, and_true]
attribute [go_sem] nth_G0 nth_G1 ren_R refs_R
theorem endsLaw (hA : CallS Try.prog 17 [] (.bool true)) (t : Ann) (hkd : ∀ c ∈ t.claims, 0 ≤ c.kind) (y : Int) (hy : 0 ≤ y ∧ y ≤ 255) : CallS Try.prog 5 [.agg (annC t), .int .u8 y] (.bool true) := by
  have hre := ready_c t
  cases hR : readyB t with
  | false =>
    rw [hR] at hre
    simp only [annC, slR, slC] at hre ⊢
    (refine callS_of_awp (fun w args => Try.call5 ..) Try.func5 rfl (fun w0 m0 wz => ?_); simp only [Try.ntmps5, Try.results5, initT, junks, rptC, clmC, slR, slC, annC, sl, List.toList_toArray, List.cons_append, List.nil_append, List.length_cons, List.length_nil, Nat.reduceAdd, Nat.reduceSub])
    (repeat' (first
    | (refine awp_seqK ?_)
    | (refine kt ?_)
    | (refine And.intro ?_ ?_)
    | ((first | refine awp_region ?_ | refine awp_draw (by kernel_rfl) (by kernel_rfl) ?_ | refine Imp.le2 ?_ | refine awp_label ?_ | refine awp_skip ?_ | refine awp_exit ?_ | refine awp_cd ?_ | refine awp_ret ?_ | refine callK_of (hre) ?_ | refine callK_of (hA) ?_ | refine go_split (fun _h => ?_) (fun _h => ?_)) <;> try simp (maxSteps := 4000000) only [go_sem, seval])
    | (intro _h)
    | (refine awp_block ?_)
    | (refine awp_scope ?_)
    | (refine cond_b (fun _h => ?_) (fun _h => ?_))
    | (show heapOK _ _ = true; kernel_rfl)
    | (show heapOK2 _ _ = true; kernel_rfl)
    | (omega)))
    all_goals trace_state
  | true =>
    rw [hR] at hre
    have hb : annOK t := thinB_ok (by simp only [readyB, Bool.and_eq_true] at hR; exact hR.1)
    have h0 : faultA t = 0 := by simp only [readyB, Bool.and_eq_true, decide_eq_true_eq] at hR; exact hR.2
    have ht := faultA_ok hkd h0
    have hr := ht.reports
    have han := annals_c t hb
    have hao := annals_o t hb
    have hda := Days_c t hb (fun _ => ht) (fun _ h => fiV_mir ht (mirA_ok ht) h)
    have e2 : dayE t = if (fiV t).1 = true then 0 else 9 := by unfold dayE; rw [if_pos h0]
    have e4 : dayV t = if dayE t = 0 then slG (tab t.reports.length (dayF (fiV t).2 (fiV (mirA t)).2)) else .nils := rfl
    rw [e4, e2] at hda
    clear e2 e4
    cases hF : (fiV t).1 with
    | false =>
      rw [hF] at hda
      simp only [Bool.false_eq_true, if_false] at hda
      rw [if_neg (by omega)] at hda
      simp only [annC, slR, slC] at hre han hda ⊢
      (refine callS_of_awp (fun w args => Try.call5 ..) Try.func5 rfl (fun w0 m0 wz => ?_); simp only [Try.ntmps5, Try.results5, initT, junks, rptC, clmC, slR, slC, annC, sl, List.toList_toArray, List.cons_append, List.nil_append, List.length_cons, List.length_nil, Nat.reduceAdd, Nat.reduceSub])
      (repeat' (first
    | (refine awp_seqK ?_)
    | (refine kt ?_)
    | (refine And.intro ?_ ?_)
    | ((first | refine awp_region ?_ | refine awp_draw (by kernel_rfl) (by kernel_rfl) ?_ | refine Imp.le2 ?_ | refine awp_label ?_ | refine awp_skip ?_ | refine awp_exit ?_ | refine awp_cd ?_ | refine awp_ret ?_ | refine callK_of (hre) ?_ | refine callK_of (hA) ?_ | refine callK_of (han) ?_ | refine callK_of (hda) ?_ | refine go_split (fun _h => ?_) (fun _h => ?_)) <;> try simp (maxSteps := 4000000) only [go_sem, seval])
    | (intro _h)
    | (refine awp_block ?_)
    | (refine awp_scope ?_)
    | (refine cond_b (fun _h => ?_) (fun _h => ?_))
    | (show heapOK _ _ = true; kernel_rfl)
    | (show heapOK2 _ _ = true; kernel_rfl)
    | (omega)))
      all_goals trace_state
    | true =>
      rw [hF] at hda
      simp only [if_true] at hda
      have hx1 := rem_c (x := y) (n := t.reports.length) hy.1
      have hk := Nat.mod_lt y.toNat (show 0 < t.reports.length by omega)
      generalize y.toNat % t.reports.length = k at *
      have hE := end_p hkd h0 hF hk
      have htb : (tab t.reports.length (dayF (fiV t).2 (fiV (mirA t)).2)).getD k default = ((fiV t).2.getD k 0, 100000 - (fiV (mirA t)).2.getD k 0) := by
        simp [tab, dayF, List.getD_eq_getElem?_getD, hk]
      have hla : (tab t.reports.length (dayF (fiV t).2 (fiV (mirA t)).2)).length = t.reports.length := tab_length
      generalize tab t.reports.length (dayF (fiV t).2 (fiV (mirA t)).2) = T at *
      generalize (fiV t).2.getD k 0 = lo at *
      obtain ⟨up, hup⟩ : ∃ up, 100000 - (fiV (mirA t)).2.getD k 0 = up := ⟨_, rfl⟩
      rw [hup] at htb
      obtain ⟨q1, q2, q3, q4, q5, q6, q7⟩ := hE
      rw [hup] at q1 q3 q5 q7
      have hb1 : 0 ≤ (rp t k).lo ∧ (rp t k).hi ≤ 100000 := ⟨(ht.rpt k hk).2.1, (ht.rpt k hk).2.2.2⟩
      have hlo : (t.reports.getD k default).lo = (rp t k).lo := rfl
      have hhi : (t.reports.getD k default).hi = (rp t k).hi := rfl
      have hT1 : (T.getD k default).1 = lo := by rw [htb]
      have hT2 : (T.getD k default).2 = up := by rw [htb]
      have hfi : ∀ x, (rp t k).lo ≤ x → x ≤ (rp t k).hi → ∃ v1 v2, CallS Try.prog 31 [.agg [.psl false t.reports.length (recs rptC (isp t.reports k ⟨(t.reports.getD k default).slope, x, x⟩)), .psl false t.claims.length (recs clmC t.claims), .int .i64 t.rest]] (.tup [.agg [v1, v2], .int .i64 (findE (setW t k x))]) := fun x hx1 hx2 => by
        have hf0 := setW_fault (x := x) hk h0 (by omega)
        have hbw : annOK (setW t k x) := ⟨by rw [setW_len hk]; exact hb.1, hb.2⟩
        have h := Find_c (setW t k x) hbw (fun _ => faultA_ok hkd hf0)
        have e : annC (setW t k x) = [.psl false t.reports.length (recs rptC (isp t.reports k ⟨(t.reports.getD k default).slope, x, x⟩)), .psl false t.claims.length (recs clmC t.claims), .int .i64 t.rest] := by
          show [AV.psl false (isp t.reports k _).length _, _, _] = _
          rw [isp_length hk]; rfl
        rw [e] at h
        obtain ⟨v1, v2, hv⟩ : ∃ v1 v2, findV (setW t k x) = [v1, v2] := by
          unfold findV chC
          split
          · split
            · exact ⟨_, _, rfl⟩
            · exact ⟨_, _, rfl⟩
          · exact ⟨_, _, rfl⟩
        rw [hv] at h
        exact ⟨v1, v2, h⟩
      have hspw := fun (a b : Int) => sp_when (l := t.reports) (a := a) (b := b) hk
      clear htb hup
      simp only [annC, slR, slC, slG, hla] at hre han hda hao ⊢
      (refine callS_of_awp (fun w args => Try.call5 ..) Try.func5 rfl (fun w0 m0 wz => ?_); simp only [Try.ntmps5, Try.results5, initT, junks, rptC, clmC, slR, slC, annC, sl, List.toList_toArray, List.cons_append, List.nil_append, List.length_cons, List.length_nil, Nat.reduceAdd, Nat.reduceSub])
      (repeat' (first
    | ((omega))
    | ((exfalso; omega))
    | (refine awp_seqK ?_)
    | (refine kt ?_)
    | (refine And.intro ?_ ?_)
    | ((first | refine awp_region ?_ | refine awp_draw (by kernel_rfl) (by kernel_rfl) ?_ | refine Imp.le2 ?_ | refine awp_label ?_ | refine awp_skip ?_ | refine awp_exit ?_ | refine awp_cd ?_ | refine awp_ret ?_ | refine callK_of (hre) ?_ | refine callK_of (hA) ?_ | refine callK_of (han) ?_ | refine callK_of (hda) ?_ | refine go_split (fun _h => ?_) (fun _h => ?_)) <;> try simp (maxSteps := 4000000) only [go_sem, seval, hx1, hla, hT1, hT2])
    | (intro _h)
    | (refine awp_block ?_)
    | (refine awp_scope ?_)
    | (refine cond_b (fun _h => ?_) (fun _h => ?_))
    | (show heapOK _ _ = true; kernel_rfl)
    | (show heapOK2 _ _ = true; kernel_rfl)
    | (omega)))
      refine awp_loopN 4 (fun i => ⟨mkT 136 [(2, .ptr 0 0 0), (7, .int .i64 k), (8, .ptr 1 0 0), (9, .int .i64 i)], [some (.cells 25 1 0 [.psl false t.reports.length (recs rptC t.reports), .psl false t.claims.length (recs clmC t.claims), .int .i64 t.rest]), some (.cells 56 1 0 [.int .i64 lo, .int .i64 up, .int .i64 (lo - 1), .int .i64 (up + 1)])], []⟩) (.le2 ?_) ?_
      · simp (maxSteps := 4000000) only [go_sem, seval]
        all_goals first | rfl | exact ⟨rfl, rfl⟩ | trace_state
      · intro i hi
        have hcs : i = 0 ∨ i = 1 ∨ i = 2 ∨ i = 3 ∨ i = 4 := by omega
        rcases hcs with rfl | rfl | rfl | rfl | rfl
        · obtain ⟨v1, v2, hf⟩ := hfi (lo) q2.1 q2.2
          rw [q4] at hf
          have hic := in_c (lo) (rp t k).lo (rp t k).hi
          rw [decide_eq_true q2] at hic
          simp (maxSteps := 4000000) only [go_sem, seval]
          (repeat' (first
    | (refine awp_ownN 1 rfl ?_; simp (maxSteps := 4000000) only [go_sem, seval, List.take_succ_cons, List.take_zero, hlo, hhi, hspw]; (repeat refine And.intro (by omega) ?_); refine own_go (hao) [] rfl ?_ ?_ rfl ?_ <;> try simp (maxSteps := 4000000) only [go_sem, seval, Nat.lt_irrefl, hlo, hhi, hspw] <;> try decide)
    | (refine awp_frz (c := .region 18 _ _) 5 rfl (by simp (maxSteps := 4000000) only [go_sem, seval, hlo, hhi, hspw]) (fun _ => rfl) ?_; simp only [frz, fq_pure, fzB_c, fzB_m, fzB_d, fzB_l, fzO, fzH, fzHs, fzl, fz2, fz1, fz0, List.map_cons, List.map_nil, if_true, if_false, reduceIte, Nat.reduceEqDiff, Nat.reduceAdd, Nat.succ_ne_self, Nat.zero_ne_one, Nat.one_ne_zero, reduceCtorEq, and_self])
    | ((exact Try.underlying4))
    | ((omega))
    | ((exfalso; omega))
    | (refine awp_seqK ?_)
    | (refine kt ?_)
    | (refine And.intro ?_ ?_)
    | ((first | refine awp_region ?_ | refine awp_draw (by kernel_rfl) (by kernel_rfl) ?_ | refine Imp.le2 ?_ | refine awp_label ?_ | refine awp_skip ?_ | refine awp_exit ?_ | refine awp_cd ?_ | refine awp_ret ?_ | refine callK_of (hic) ?_ | refine callK_of (span_c _ _) ?_ | refine callK_of (hf) ?_ | refine go_split (fun _h => ?_) (fun _h => ?_)) <;> try simp (maxSteps := 4000000) only [go_sem, seval, hlo, hhi, hspw])
    | (intro _h)
    | (refine awp_block ?_)
    | (refine awp_scope ?_)
    | (refine cond_b (fun _h => ?_) (fun _h => ?_))
    | (show heapOK _ _ = true; kernel_rfl)
    | (show heapOK2 _ _ = true; kernel_rfl)
    | (omega)))
          all_goals first | (exfalso; simp at _h; done) | trace_state
        · obtain ⟨v1, v2, hf⟩ := hfi (up) q3.1 q3.2
          rw [q5] at hf
          have hic := in_c (up) (rp t k).lo (rp t k).hi
          rw [decide_eq_true q3] at hic
          simp (maxSteps := 4000000) only [go_sem, seval]
          (repeat' (first
    | (refine awp_ownN 1 rfl ?_; simp (maxSteps := 4000000) only [go_sem, seval, List.take_succ_cons, List.take_zero, hlo, hhi, hspw]; (repeat refine And.intro (by omega) ?_); refine own_go (hao) [] rfl ?_ ?_ rfl ?_ <;> try simp (maxSteps := 4000000) only [go_sem, seval, Nat.lt_irrefl, hlo, hhi, hspw] <;> try decide)
    | (refine awp_frz (c := .region 18 _ _) 5 rfl (by simp (maxSteps := 4000000) only [go_sem, seval, hlo, hhi, hspw]) (fun _ => rfl) ?_; simp only [frz, fq_pure, fzB_c, fzB_m, fzB_d, fzB_l, fzO, fzH, fzHs, fzl, fz2, fz1, fz0, List.map_cons, List.map_nil, if_true, if_false, reduceIte, Nat.reduceEqDiff, Nat.reduceAdd, Nat.succ_ne_self, Nat.zero_ne_one, Nat.one_ne_zero, reduceCtorEq, and_self])
    | ((exact Try.underlying4))
    | ((omega))
    | ((exfalso; omega))
    | (refine awp_seqK ?_)
    | (refine kt ?_)
    | (refine And.intro ?_ ?_)
    | ((first | refine awp_region ?_ | refine awp_draw (by kernel_rfl) (by kernel_rfl) ?_ | refine Imp.le2 ?_ | refine awp_label ?_ | refine awp_skip ?_ | refine awp_exit ?_ | refine awp_cd ?_ | refine awp_ret ?_ | refine callK_of (hic) ?_ | refine callK_of (span_c _ _) ?_ | refine callK_of (hf) ?_ | refine go_split (fun _h => ?_) (fun _h => ?_)) <;> try simp (maxSteps := 4000000) only [go_sem, seval, hlo, hhi, hspw])
    | (intro _h)
    | (refine awp_block ?_)
    | (refine awp_scope ?_)
    | (refine cond_b (fun _h => ?_) (fun _h => ?_))
    | (show heapOK _ _ = true; kernel_rfl)
    | (show heapOK2 _ _ = true; kernel_rfl)
    | (omega)))
          all_goals first | (exfalso; simp at _h; done) | trace_state
        · by_cases hin : (rp t k).lo ≤ lo - 1 ∧ lo - 1 ≤ (rp t k).hi
          · obtain ⟨v1, v2, hf⟩ := hfi (lo - 1) hin.1 hin.2
            rw [q6 hin] at hf
            have hic := in_c (lo - 1) (rp t k).lo (rp t k).hi
            rw [decide_eq_true hin] at hic
            simp (maxSteps := 4000000) only [go_sem, seval]
            (repeat' (first
    | (refine awp_ownN 1 rfl ?_; simp (maxSteps := 4000000) only [go_sem, seval, List.take_succ_cons, List.take_zero, hlo, hhi, hspw]; (repeat refine And.intro (by omega) ?_); refine own_go (hao) [] rfl ?_ ?_ rfl ?_ <;> try simp (maxSteps := 4000000) only [go_sem, seval, Nat.lt_irrefl, hlo, hhi, hspw] <;> try decide)
    | (refine awp_frz (c := .region 18 _ _) 5 rfl (by simp (maxSteps := 4000000) only [go_sem, seval, hlo, hhi, hspw]) (fun _ => rfl) ?_; simp only [frz, fq_pure, fzB_c, fzB_m, fzB_d, fzB_l, fzO, fzH, fzHs, fzl, fz2, fz1, fz0, List.map_cons, List.map_nil, if_true, if_false, reduceIte, Nat.reduceEqDiff, Nat.reduceAdd, Nat.succ_ne_self, Nat.zero_ne_one, Nat.one_ne_zero, reduceCtorEq, and_self])
    | ((exact Try.underlying4))
    | ((omega))
    | ((exfalso; omega))
    | (refine awp_seqK ?_)
    | (refine kt ?_)
    | (refine And.intro ?_ ?_)
    | ((first | refine awp_region ?_ | refine awp_draw (by kernel_rfl) (by kernel_rfl) ?_ | refine Imp.le2 ?_ | refine awp_label ?_ | refine awp_skip ?_ | refine awp_exit ?_ | refine awp_cd ?_ | refine awp_ret ?_ | refine callK_of (hic) ?_ | refine callK_of (span_c _ _) ?_ | refine callK_of (hf) ?_ | refine go_split (fun _h => ?_) (fun _h => ?_)) <;> try simp (maxSteps := 4000000) only [go_sem, seval, hlo, hhi, hspw])
    | (intro _h)
    | (refine awp_block ?_)
    | (refine awp_scope ?_)
    | (refine cond_b (fun _h => ?_) (fun _h => ?_))
    | (show heapOK _ _ = true; kernel_rfl)
    | (show heapOK2 _ _ = true; kernel_rfl)
    | (omega)))
            all_goals first | (exfalso; simp at _h; done) | trace_state
          · have hic := in_c (lo - 1) (rp t k).lo (rp t k).hi
            rw [decide_eq_false hin] at hic
            simp (maxSteps := 4000000) only [go_sem, seval]
            (repeat' (first
    | (refine awp_ownN 1 rfl ?_; simp (maxSteps := 4000000) only [go_sem, seval, List.take_succ_cons, List.take_zero, hlo, hhi, hspw]; (repeat refine And.intro (by omega) ?_); refine own_go (hao) [] rfl ?_ ?_ rfl ?_ <;> try simp (maxSteps := 4000000) only [go_sem, seval, Nat.lt_irrefl, hlo, hhi, hspw] <;> try decide)
    | (refine awp_frz (c := .region 18 _ _) 5 rfl (by simp (maxSteps := 4000000) only [go_sem, seval, hlo, hhi, hspw]) (fun _ => rfl) ?_; simp only [frz, fq_pure, fzB_c, fzB_m, fzB_d, fzB_l, fzO, fzH, fzHs, fzl, fz2, fz1, fz0, List.map_cons, List.map_nil, if_true, if_false, reduceIte, Nat.reduceEqDiff, Nat.reduceAdd, Nat.succ_ne_self, Nat.zero_ne_one, Nat.one_ne_zero, reduceCtorEq, and_self])
    | ((exact Try.underlying4))
    | ((omega))
    | ((exfalso; omega))
    | (refine awp_seqK ?_)
    | (refine kt ?_)
    | (refine And.intro ?_ ?_)
    | ((first | refine awp_region ?_ | refine awp_draw (by kernel_rfl) (by kernel_rfl) ?_ | refine Imp.le2 ?_ | refine awp_label ?_ | refine awp_skip ?_ | refine awp_exit ?_ | refine awp_cd ?_ | refine awp_ret ?_ | refine callK_of (hic) ?_ | refine callK_of (span_c _ _) ?_ | refine go_split (fun _h => ?_) (fun _h => ?_)) <;> try simp (maxSteps := 4000000) only [go_sem, seval, hlo, hhi, hspw])
    | (intro _h)
    | (refine awp_block ?_)
    | (refine awp_scope ?_)
    | (refine cond_b (fun _h => ?_) (fun _h => ?_))
    | (show heapOK _ _ = true; kernel_rfl)
    | (show heapOK2 _ _ = true; kernel_rfl)
    | (omega)))
            all_goals first | (exfalso; simp at _h; done) | trace_state
        · by_cases hin : (rp t k).lo ≤ up + 1 ∧ up + 1 ≤ (rp t k).hi
          · obtain ⟨v1, v2, hf⟩ := hfi (up + 1) hin.1 hin.2
            rw [q7 hin] at hf
            have hic := in_c (up + 1) (rp t k).lo (rp t k).hi
            rw [decide_eq_true hin] at hic
            simp (maxSteps := 4000000) only [go_sem, seval]
            (repeat' (first
    | (refine awp_ownN 1 rfl ?_; simp (maxSteps := 4000000) only [go_sem, seval, List.take_succ_cons, List.take_zero, hlo, hhi, hspw]; (repeat refine And.intro (by omega) ?_); refine own_go (hao) [] rfl ?_ ?_ rfl ?_ <;> try simp (maxSteps := 4000000) only [go_sem, seval, Nat.lt_irrefl, hlo, hhi, hspw] <;> try decide)
    | (refine awp_frz (c := .region 18 _ _) 5 rfl (by simp (maxSteps := 4000000) only [go_sem, seval, hlo, hhi, hspw]) (fun _ => rfl) ?_; simp only [frz, fq_pure, fzB_c, fzB_m, fzB_d, fzB_l, fzO, fzH, fzHs, fzl, fz2, fz1, fz0, List.map_cons, List.map_nil, if_true, if_false, reduceIte, Nat.reduceEqDiff, Nat.reduceAdd, Nat.succ_ne_self, Nat.zero_ne_one, Nat.one_ne_zero, reduceCtorEq, and_self])
    | ((exact Try.underlying4))
    | ((omega))
    | ((exfalso; omega))
    | (refine awp_seqK ?_)
    | (refine kt ?_)
    | (refine And.intro ?_ ?_)
    | ((first | refine awp_region ?_ | refine awp_draw (by kernel_rfl) (by kernel_rfl) ?_ | refine Imp.le2 ?_ | refine awp_label ?_ | refine awp_skip ?_ | refine awp_exit ?_ | refine awp_cd ?_ | refine awp_ret ?_ | refine callK_of (hic) ?_ | refine callK_of (span_c _ _) ?_ | refine callK_of (hf) ?_ | refine go_split (fun _h => ?_) (fun _h => ?_)) <;> try simp (maxSteps := 4000000) only [go_sem, seval, hlo, hhi, hspw])
    | (intro _h)
    | (refine awp_block ?_)
    | (refine awp_scope ?_)
    | (refine cond_b (fun _h => ?_) (fun _h => ?_))
    | (show heapOK _ _ = true; kernel_rfl)
    | (show heapOK2 _ _ = true; kernel_rfl)
    | (omega)))
            all_goals first | (exfalso; simp at _h; done) | trace_state
          · have hic := in_c (up + 1) (rp t k).lo (rp t k).hi
            rw [decide_eq_false hin] at hic
            simp (maxSteps := 4000000) only [go_sem, seval]
            (repeat' (first
    | (refine awp_ownN 1 rfl ?_; simp (maxSteps := 4000000) only [go_sem, seval, List.take_succ_cons, List.take_zero, hlo, hhi, hspw]; (repeat refine And.intro (by omega) ?_); refine own_go (hao) [] rfl ?_ ?_ rfl ?_ <;> try simp (maxSteps := 4000000) only [go_sem, seval, Nat.lt_irrefl, hlo, hhi, hspw] <;> try decide)
    | (refine awp_frz (c := .region 18 _ _) 5 rfl (by simp (maxSteps := 4000000) only [go_sem, seval, hlo, hhi, hspw]) (fun _ => rfl) ?_; simp only [frz, fq_pure, fzB_c, fzB_m, fzB_d, fzB_l, fzO, fzH, fzHs, fzl, fz2, fz1, fz0, List.map_cons, List.map_nil, if_true, if_false, reduceIte, Nat.reduceEqDiff, Nat.reduceAdd, Nat.succ_ne_self, Nat.zero_ne_one, Nat.one_ne_zero, reduceCtorEq, and_self])
    | ((exact Try.underlying4))
    | ((omega))
    | ((exfalso; omega))
    | (refine awp_seqK ?_)
    | (refine kt ?_)
    | (refine And.intro ?_ ?_)
    | ((first | refine awp_region ?_ | refine awp_draw (by kernel_rfl) (by kernel_rfl) ?_ | refine Imp.le2 ?_ | refine awp_label ?_ | refine awp_skip ?_ | refine awp_exit ?_ | refine awp_cd ?_ | refine awp_ret ?_ | refine callK_of (hic) ?_ | refine callK_of (span_c _ _) ?_ | refine go_split (fun _h => ?_) (fun _h => ?_)) <;> try simp (maxSteps := 4000000) only [go_sem, seval, hlo, hhi, hspw])
    | (intro _h)
    | (refine awp_block ?_)
    | (refine awp_scope ?_)
    | (refine cond_b (fun _h => ?_) (fun _h => ?_))
    | (show heapOK _ _ = true; kernel_rfl)
    | (show heapOK2 _ _ = true; kernel_rfl)
    | (omega)))
            all_goals first | (exfalso; simp at _h; done) | trace_state
        · simp (maxSteps := 4000000) only [go_sem, seval]
          (repeat' (first
    | ((omega))
    | ((exfalso; omega))
    | (refine awp_seqK ?_)
    | (refine kt ?_)
    | (refine And.intro ?_ ?_)
    | ((first | refine awp_region ?_ | refine awp_draw (by kernel_rfl) (by kernel_rfl) ?_ | refine Imp.le2 ?_ | refine awp_label ?_ | refine awp_skip ?_ | refine awp_exit ?_ | refine awp_cd ?_ | refine awp_ret ?_ | refine callK_of (hA) ?_ | refine go_split (fun _h => ?_) (fun _h => ?_)) <;> try simp (maxSteps := 4000000) only [go_sem, seval])
    | (intro _h)
    | (refine awp_block ?_)
    | (refine awp_scope ?_)
    | (refine cond_b (fun _h => ?_) (fun _h => ?_))
    | (show heapOK _ _ = true; kernel_rfl)
    | (show heapOK2 _ _ = true; kernel_rfl)
    | (omega)))
          all_goals first | (exfalso; simp at _h; done) | trace_state
end Go.Am

/- The law AnnalsEnds, as a contract: it returns true. -/
namespace Go.Am
open Go.RowKit Go.Proofs
theorem annalsEnds_c (t : Ann) (x : Int) (ht : AnnR t) (hx : okI .u8 x) : CallS Try.prog 5 [.agg (annC t), .int .u8 x] (.bool true) :=
  endsLaw awake_c t (fun c hc => (ht.claims c hc).1.1) x (okI_u8 hx)
end Go.Am
