/- Parts UjG, UjH, VwE of the proof, one behind the other. No statement is proved here. -/
import Derived.Test.YtemdkbogfafjgaaS9
import Derived.Test.YtemdkbogfafjgaaS8
import Derived.Test.YtemdkbogfafjgaaS6
import Derived.Test.YtemdkbogfafjgaaT4
/- Contracts of the annals functions: annals whose claims the caller may change; plain words for the law AnnalsOrder. -/
namespace Go.Am
open Go.RowKit Go.Proofs
attribute [local irreducible] AWP CallS Kt goK CallK stepK evOps SemF SemY Imp
set_option maxRecDepth 4000
set_option linter.unusedSimpArgs false
set_option linter.unusedVariables false
set_option maxHeartbeats 1600000

theorem annals_oc (t : Ann) (hb : annOK t) : SemF Try.prog 19 [.agg (annC t)] [] (.agg [slR t.reports, .osl 4 t.claims.length 0 t.claims.length, .int .i64 t.rest]) [none, none, none, none, some (.cells 73 3 t.claims.length (recs clmC t.claims))] := by
  obtain ⟨hb1, hb2⟩ := hb
  (refine semF_of_awp (ys := [.agg [slR t.reports, .osl 4 t.claims.length 0 t.claims.length, .int .i64 t.rest]]) (fun w args => Try.call19 ..) Try.func19 rfl (fun w0 m0 wz => ?_); simp only [Try.ntmps19, Try.results19, initT, junks, rptC, clmC, slR, slC, annC, sl, List.toList_toArray, List.cons_append, List.nil_append, List.length_cons, List.length_nil, Nat.reduceAdd, Nat.reduceSub])
  (repeat' (first
    | (refine awp_seqK ?_)
    | (refine kt ?_)
    | (refine And.intro ?_ ?_)
    | ((first | refine awp_region ?_ | refine awp_draw (by kernel_rfl) (by kernel_rfl) ?_ | refine Imp.le2 ?_ | refine awp_label ?_ | refine awp_skip ?_ | refine awp_exit ?_ | refine awp_cd ?_ | refine awp_ret ?_ | refine go_split (fun _h => ?_) (fun _h => ?_)) <;> try simp (maxSteps := 4000000) only [go_sem, seval])
    | (intro _h)
    | (refine awp_block ?_)
    | (refine awp_scope ?_)
    | (refine cond_b (fun _h => ?_) (fun _h => ?_))
    | (show heapOK _ _ = true; kernel_rfl)
    | (show heapOK2 _ _ = true; kernel_rfl)
    | (omega)))
  refine awp_adH 2 0 58 3 rfl rfl ?_
  simp only [adH, hget, hset, lset, List.length_cons, List.length_nil, Nat.reduceAdd]
  refine awp_adH 2 1 73 3 rfl rfl ?_
  simp only [adH, hget, hset, lset, List.length_cons, List.length_nil, Nat.reduceAdd]
  refine awp_loopN t.reports.length (fun k => ⟨mkT 69 [(1, .ptr 0 0 0), (2, .ptr 1 0 0), (3, .ptr 2 0 0), (4, .int .i64 k)], [some (.cells 25 1 0 (annC t)), some (.cells 35 1 0 [.nils, .nils, .int .i64 0]), some (.cells 35 1 0 [.osl 3 k 0 k, .osl 4 0 0 0, .int .i64 t.rest]), some (.cells 58 3 k (recs rptC (t.reports.take k))), some (.cells 73 3 0 [])], []⟩) (.le2 ?_) ?_
  · simp only [annC, slR, slC]; simp (maxSteps := 4000000) only [go_sem, seval]
    rfl
  · intro k hk
    rcases Nat.lt_or_eq_of_le hk with hk1 | hk1
    · have hlt : (t.reports.take k).length = k := by simp; omega
      have hsn := recs_take (enc := rptC) (d := default) hk1
      simp only [rptC] at hsn
      simp only [annC, slR, slC]; simp (maxSteps := 4000000) only [go_sem, seval]
      (repeat' (first
    | ((omega))
    | (refine awp_seqK ?_)
    | (refine kt ?_)
    | (refine And.intro ?_ ?_)
    | ((first | refine awp_region ?_ | refine awp_draw (by kernel_rfl) (by kernel_rfl) ?_ | refine Imp.le2 ?_ | refine awp_label ?_ | refine awp_skip ?_ | refine awp_exit ?_ | refine awp_cd ?_ | refine awp_ret ?_ | refine go_split (fun _h => ?_) (fun _h => ?_)) <;> try simp (maxSteps := 4000000) only [go_sem, seval, hlt, hsn])
    | (intro _h)
    | (refine awp_block ?_)
    | (refine awp_scope ?_)
    | (refine cond_b (fun _h => ?_) (fun _h => ?_))
    | (show heapOK _ _ = true; kernel_rfl)
    | (show heapOK2 _ _ = true; kernel_rfl)
    | (omega)))
      all_goals trace_state
    · subst hk1
      have hlt : (t.reports.take t.reports.length) = t.reports := by simp
      simp only [annC, slR, slC]; simp (maxSteps := 4000000) only [go_sem, seval, hlt]
      (repeat' (first
    | ((exfalso; omega))
    | (refine awp_seqK ?_)
    | (refine kt ?_)
    | (refine And.intro ?_ ?_)
    | ((first | refine awp_region ?_ | refine awp_draw (by kernel_rfl) (by kernel_rfl) ?_ | refine Imp.le2 ?_ | refine awp_label ?_ | refine awp_skip ?_ | refine awp_exit ?_ | refine awp_cd ?_ | refine awp_ret ?_ | refine go_split (fun _h => ?_) (fun _h => ?_)) <;> try simp (maxSteps := 4000000) only [go_sem, seval, hlt])
    | (intro _h)
    | (refine awp_block ?_)
    | (refine awp_scope ?_)
    | (refine cond_b (fun _h => ?_) (fun _h => ?_))
    | (show heapOK _ _ = true; kernel_rfl)
    | (show heapOK2 _ _ = true; kernel_rfl)
    | (omega)))
      refine awp_loopN t.claims.length (fun k => ⟨mkT 69 [(1, .ptr 0 0 0), (2, .ptr 1 0 0), (3, .ptr 2 0 0), (6, .int .i64 k)], [some (.cells 25 1 0 (annC t)), some (.cells 35 1 0 [.nils, .nils, .int .i64 0]), some (.cells 35 1 0 [.osl 3 t.reports.length 0 t.reports.length, .osl 4 k 0 k, .int .i64 t.rest]), some (.cells 58 3 t.reports.length (recs rptC t.reports)), some (.cells 73 3 k (recs clmC (t.claims.take k)))], []⟩) (.le2 ?_) ?_
      · simp only [annC, slR, slC]; simp (maxSteps := 4000000) only [go_sem, seval]
        rfl
      · intro k hk
        rcases Nat.lt_or_eq_of_le hk with hk1 | hk1
        · have hlt : (t.claims.take k).length = k := by simp; omega
          have hsn := recs_take (enc := clmC) (d := default) hk1
          simp only [clmC] at hsn
          simp only [annC, slR, slC]; simp (maxSteps := 4000000) only [go_sem, seval]
          (repeat' (first
    | ((omega))
    | (refine awp_seqK ?_)
    | (refine kt ?_)
    | (refine And.intro ?_ ?_)
    | ((first | refine awp_region ?_ | refine awp_draw (by kernel_rfl) (by kernel_rfl) ?_ | refine Imp.le2 ?_ | refine awp_label ?_ | refine awp_skip ?_ | refine awp_exit ?_ | refine awp_cd ?_ | refine awp_ret ?_ | refine go_split (fun _h => ?_) (fun _h => ?_)) <;> try simp (maxSteps := 4000000) only [go_sem, seval, hlt, hsn])
    | (intro _h)
    | (refine awp_block ?_)
    | (refine awp_scope ?_)
    | (refine cond_b (fun _h => ?_) (fun _h => ?_))
    | (show heapOK _ _ = true; kernel_rfl)
    | (show heapOK2 _ _ = true; kernel_rfl)
    | (omega)))
          all_goals trace_state
        · subst hk1
          have hlt : (t.claims.take t.claims.length) = t.claims := by simp
          simp only [annC, slR, slC]; simp (maxSteps := 4000000) only [go_sem, seval, hlt]
          (repeat' (first
    | (refine awp_frz (c := .region 11 _ _) 3 rfl (by simp (maxSteps := 4000000) only [go_sem, seval, hlt]) (fun _ => rfl) ?_; simp only [frz, fq_pure, fzB_c, fzB_m, fzB_d, fzB_l, fzO, fzH, fzHs, fzl, fz2, fz1, fz0, List.map_cons, List.map_nil, if_true, if_false, reduceIte, Nat.reduceEqDiff, Nat.reduceAdd, Nat.succ_ne_self, Nat.zero_ne_one, Nat.one_ne_zero, reduceCtorEq, and_self])
    | ((exfalso; omega))
    | (refine awp_seqK ?_)
    | (refine kt ?_)
    | (refine And.intro ?_ ?_)
    | ((first | refine awp_region ?_ | refine awp_draw (by kernel_rfl) (by kernel_rfl) ?_ | refine Imp.le2 ?_ | refine awp_label ?_ | refine awp_skip ?_ | refine awp_exit ?_ | refine awp_cd ?_ | refine awp_ret ?_ | refine go_split (fun _h => ?_) (fun _h => ?_)) <;> try simp (maxSteps := 4000000) only [go_sem, seval, hlt])
    | (intro _h)
    | (refine awp_block ?_)
    | (refine awp_scope ?_)
    | (refine cond_b (fun _h => ?_) (fun _h => ?_))
    | (show heapOK _ _ = true; kernel_rfl)
    | (show heapOK2 _ _ = true; kernel_rfl)
    | (omega)))
          all_goals trace_state
def ispC (l : List Clm) (k : Nat) (v : Clm) : List Clm := l.take k ++ v :: l.drop (k + 1)
theorem ispC_length {l : List Clm} {k : Nat} {v : Clm} (h : k < l.length) : (ispC l k v).length = l.length := by
  simp only [ispC, List.length_append, List.length_take, List.length_cons, List.length_drop]; omega
theorem sp_ab {l : List Clm} {k : Nat} {a b : Int} (h : k < l.length) : splice (splice (recs clmC l) (k * 3 + 1) [.int .i64 a]) (k * 3 + 2) [.int .i64 b] = recs clmC (ispC l k ⟨(l.getD k default).kind, a, b⟩) := by
  have e : l = l.take k ++ l.getD k default :: l.drop (k + 1) := by
    have h1 : l.getD k default = l[k] := by simp [List.getD_eq_getElem?_getD, h]
    rw [h1, ← List.drop_eq_getElem_cons h, List.take_append_drop]
  have hr : ∀ x y : List Clm, recs clmC (x ++ y) = recs clmC x ++ recs clmC y := fun x y => by simp [recs]
  have hc : ∀ (x : Clm) (y : List Clm), recs clmC (x :: y) = .int .u8 x.kind :: .int .i64 x.a :: .int .i64 x.b :: recs clmC y := fun x y => by simp [recs, clmC]
  have hl : (recs clmC (l.take k)).length = k * 3 := by rw [len_C, List.length_take, Nat.min_eq_left (by omega)]
  have e2 : recs clmC l = recs clmC (l.take k) ++ (.int .u8 (l.getD k default).kind :: .int .i64 (l.getD k default).a :: .int .i64 (l.getD k default).b :: recs clmC (l.drop (k + 1))) := by
    conv => lhs; rw [e, hr, hc]
  rw [e2]
  simp only [splice, ispC, hr, hc, List.length_cons, List.length_nil]
  rw [← hl, List.take_length_add_append, show (recs clmC (l.take k)).length + 1 + (0 + 1) = (recs clmC (l.take k)).length + 2 by omega, List.drop_length_add_append]
  simp only [List.take_succ_cons, List.take_zero, List.drop_succ_cons, List.drop_zero, List.append_assoc, List.cons_append, List.nil_append]
  rw [List.take_length_add_append, show (recs clmC (l.take k)).length + 2 + (0 + 1) = (recs clmC (l.take k)).length + 3 by omega, List.drop_length_add_append]
  simp
/-- Claims of which the first j are turned. -/
def rotK (n k j : Nat) (l : List Clm) : List Clm := (l.take j).map (rotC n k) ++ l.drop j
theorem rotK_get {n k j : Nat} {l : List Clm} (h : j < l.length) : (rotK n k j l).getD j default = l.getD j default := by
  simp only [rotK, List.getD_eq_getElem?_getD]
  rw [List.getElem?_append_right (by simp; omega)]
  simp only [List.length_map, List.length_take, Nat.min_eq_left (Nat.le_of_lt h), Nat.sub_self, List.getElem?_drop, Nat.add_zero]
theorem rotK_len {n k j : Nat} {l : List Clm} (h : j ≤ l.length) : (rotK n k j l).length = l.length := by
  simp only [rotK, List.length_append, List.length_map, List.length_take, List.length_drop]; omega
theorem rotK_next {n k j : Nat} {l : List Clm} (h : j < l.length) : ispC (rotK n k j l) j (rotC n k (l.getD j default)) = rotK n k (j + 1) l := by
  have hl : ((l.take j).map (rotC n k)).length = j := by simp; omega
  have e : l.drop j = l[j] :: l.drop (j + 1) := List.drop_eq_getElem_cons h
  have e2 : l.getD j default = l[j] := by simp [List.getD_eq_getElem?_getD, h]
  have e3 : (l.take j).map (rotC n k) ++ rotC n k l[j] :: l.drop (j + 1) = (l.take (j + 1)).map (rotC n k) ++ l.drop (j + 1) := by
    rw [List.take_succ_eq_append_getElem h, List.map_append, List.append_assoc]; rfl
  simp only [ispC, rotK, e2]
  rw [← e3]
  congr 1
  · rw [List.take_append_of_le_length (by omega), List.take_of_length_le (by omega)]
  · congr 1
    rw [List.drop_append, hl, List.drop_of_length_le (by omega), show j + 1 - j = 1 by omega, List.drop_drop]; simp [Nat.add_comm]
theorem rotK_all {n k : Nat} {l : List Clm} : rotK n k l.length l = l.map (rotC n k) := by simp [rotK]
theorem rotK_0 {n k : Nat} {l : List Clm} : rotK n k 0 l = l := by simp [rotK]
theorem rotA_fault {t : Ann} {k : Nat} (h : faultA t = 0) (ht : AnnOK t) (hk : k < t.reports.length) : faultA (rotA t k) = 0 := by
  have hl := rotA_len hk
  have hcl : (rotA t k).claims.length = t.claims.length := by simp [rotA]
  have hn : 0 < t.reports.length := by omega
  unfold faultA at h ⊢
  rw [hl, hcl]
  have hre : (rotA t k).rest = t.rest := rfl
  rw [hre]
  split at h
  · omega
  · rename_i h1
    rw [if_neg h1]
    split at h
    · omega
    · rename_i h2
      have hR : t.reports.all rptB = true := by
        cases hr : t.reports.all rptB with
        | true => rfl
        | false => exact absurd (.inr (.inl hr)) h2
      have hC : t.claims.all (clmB t) = true := by
        cases hr : t.claims.all (clmB t) with
        | true => rfl
        | false => exact absurd (.inr (.inr hr)) h2
      have h3 : ¬ (t.reports.length = 0 ∨ ¬ (0 ≤ t.rest ∧ t.rest ≤ 100000)) := fun h => h2 (.inl h)
      have hR2 : (rotA t k).reports.all rptB = true := by
        have e : (rotA t k).reports = t.reports.drop k ++ t.reports.take k := rfl
        rw [e, List.all_eq_true]
        rw [List.all_eq_true] at hR
        intro x hx
        rcases List.mem_append.1 hx with hx | hx
        · exact hR x (List.mem_of_mem_drop hx)
        · exact hR x (List.mem_of_mem_take hx)
      have hC2 : (rotA t k).claims.all (clmB (rotA t k)) = true := by
        have e : (rotA t k).claims = t.claims.map (rotC t.reports.length k) := rfl
        rw [e, List.all_map, List.all_eq_true]
        rw [List.all_eq_true] at hC
        intro c hc
        have h5 := hC c hc
        unfold clmB inxB at h5
        simp only [Bool.and_eq_true, decide_eq_true_eq] at h5
        simp only [Function.comp]
        unfold clmB inxB
        simp only [Bool.and_eq_true, decide_eq_true_eq, hl]
        simp only [rotC]
        rw [rot_n (by omega) hk, rot_n (by omega) hk]
        have h6 := Nat.mod_lt (c.a.toNat + (t.reports.length - k)) hn
        have h7 := Nat.mod_lt (c.b.toNat + (t.reports.length - k)) hn
        refine ⟨h5.1, by omega, by omega, fun he => h5.2.2.2 ?_⟩
        have h8 : (c.a.toNat + (t.reports.length - k)) % t.reports.length = (c.b.toNat + (t.reports.length - k)) % t.reports.length := by omega
        have h9 := (rot_rt hk (i := c.a.toNat) (by omega)).2
        have h10 := (rot_rt hk (i := c.b.toNat) (by omega)).2
        rw [h8, h10] at h9
        omega
      rw [if_neg]
      rintro (h4 | h4 | h4)
      · exact h3 h4
      · rw [hR2] at h4; cases h4
      · rw [hC2] at h4; cases h4
/-- What Days, Ways and Surely say of annals in another order. -/
structure OrderP (t u : Ann) (σ : Nat → Nat) (i k : Nat) : Prop where
  fd : (fiV u).1 = (fiV t).1
  low : (fiV t).1 = true → ∀ j, j < t.reports.length → (fiV u).2.getD (σ j) 0 = (fiV t).2.getD j 0
  high : (fiV t).1 = true → ∀ j, j < t.reports.length → (fiV (mirA u)).2.getD (σ j) 0 = (fiV (mirA t)).2.getD j 0
  wayE : wayE u = wayE t
  ways : Go.Am.wayE t = 0 → (waV u).1.length = (waV t).1.length
  su : suV u ⟨(σ i : Nat), (σ k : Nat)⟩ = suV t ⟨i, k⟩
theorem order_p {t : Ann} (h0 : faultA t = 0) (ht : AnnOK t) {r : Nat} (hr : r < t.reports.length) {i k : Nat} (hi : i < t.reports.length) (hk : k < t.reports.length) : OrderP t (rotA t r) (fun j => (j + (t.reports.length - r)) % t.reports.length) i k := by
  have hu := rotA_ok ht hr
  have hw := rotA_wid ht hr
  have hv := rotA_wid2 ht hr
  have hl := rotA_len hr
  have hf := rotA_fault h0 ht hr
  have hσ : ∀ j, j < t.reports.length → ((j + (t.reports.length - r)) % t.reports.length + r) % t.reports.length = j := fun j hj => (rot_rt hr hj).2
  have hlt : ∀ j, (j + (t.reports.length - r)) % t.reports.length < (rotA t r).reports.length := fun j => by rw [hl]; exact Nat.mod_lt _ (by omega)
  have bool2 : ∀ {a b : Bool}, (a = true → b = true) → (b = true → a = true) → a = b := fun {a b} h1 h2 => by
    cases a <;> cases b <;> simp_all
  have hfd : (fiV (rotA t r)).1 = (fiV t).1 := bool2 (hw.fd ht hu) (hv.fd hu ht)
  have hlen : ((waV (rotA t r)).1.length ≤ 100 ∨ (waV t).1.length ≤ 100) → (waV (rotA t r)).1.length = (waV t).1.length := fun h => by
    rcases h with h | h
    · have h1 := hv.ways hu ht h
      have h2 := hw.ways ht hu (by omega)
      omega
    · have h2 := hw.ways ht hu h
      have h1 := hv.ways hu ht (by omega)
      omega
  refine ⟨hfd, fun hv1 j hj => ?_, fun hv1 j hj => ?_, ?_, fun he => ?_, ?_⟩
  · have h1 := hw.low ht hu (by rw [hfd]; exact hv1) hj
    have h2 := hv.low hu ht hv1 (hlt j)
    try simp only at h2
    rw [hσ j hj] at h2
    omega
  · have h1 := hw.high ht hu (by rw [hfd]; exact hv1) hj
    have h2 := hv.high hu ht hv1 (hlt j)
    try simp only at h2
    rw [hσ j hj] at h2
    omega
  · unfold Go.Am.wayE
    rw [if_pos h0, if_pos hf]
    by_cases h1 : (waV (rotA t r)).1.length ≤ 100 ∨ (waV t).1.length ≤ 100
    · rw [hlen h1]
    · have g1 : 100 < (waV (rotA t r)).1.length := by omega
      have g2 : 100 < (waV t).1.length := by omega
      have g3 : ¬ (waV (rotA t r)).1.length = 0 := by omega
      have g4 : ¬ (waV t).1.length = 0 := by omega
      rw [if_neg g3, if_neg g4, if_pos g1, if_pos g2]
  · apply hlen
    unfold Go.Am.wayE at he
    rw [if_pos h0] at he
    split at he
    · omega
    · split at he
      · omega
      · omega
  · have h1 := hw.one ht hu hi hk
    have h2 := hw.other ht hu hi hk
    have h3 := hv.one hu ht (hlt i) (hlt k)
    have h4 := hv.other hu ht (hlt i) (hlt k)
    simp only [hσ i hi, hσ k hk] at h3 h4
    exact Prod.ext (bool2 h1 h3) (bool2 h2 h4)
end Go.Am

/- The law AnnalsOrder, as a contract: it returns true, if awake does. -/
namespace Go.Am
open Go.RowKit Go.Proofs
attribute [local irreducible] AWP CallS Kt goK CallK stepK evOps SemF SemY Imp
set_option maxRecDepth 4000
set_option linter.unusedSimpArgs false
set_option linter.unusedVariables false
set_option maxHeartbeats 3200000

theorem nth_G0 {l : List (Int × Int)} {i : Nat} {K : AV → Prop} : optK (nth (recs rngC l) (i * 2)) K = (i < l.length ∧ K (.int .i64 (l.getD i default).1)) := nth_recs (sz := 2) (o := 0) (fun _ => rfl) (by omega)
theorem nth_G1 {l : List (Int × Int)} {i : Nat} {K : AV → Prop} : optK (nth (recs rngC l) (i * 2 + 1)) K = (i < l.length ∧ K (.int .i64 (l.getD i default).2)) := nth_recs (sz := 2) (o := 1) (fun _ => rfl) (by omega)
theorem ren_Cl {σ : Nat → Nat} : ∀ {l : List Clm}, renL σ (recs clmC l) = recs clmC l
  | [] => rfl
  | x :: l => by
    have ih := ren_Cl (σ := σ) (l := l)
    have hc : recs clmC (x :: l) = .int .u8 x.kind :: .int .i64 x.a :: .int .i64 x.b :: recs clmC l := by simp [recs, clmC]
    rw [hc]
    simp only [renL, ih, ren]
theorem refs_Cl {p : Nat → Prop} : ∀ {l : List Clm}, refsL p (recs clmC l) = True
  | [] => rfl
  | x :: l => by
    have ih := refs_Cl (p := p) (l := l)
    have hc : recs clmC (x :: l) = .int .u8 x.kind :: .int .i64 x.a :: .int .i64 x.b :: recs clmC l := by simp [recs, clmC]
    rw [hc]
    simp only [refsL, ih, refs, and_true]
attribute [go_sem] nth_G0 nth_G1 ren_Cl refs_Cl
theorem win_R1 {l : List Rpt} {r : Nat} : window (recs rptC l) (r * 3) ((l.length - r) * 3) = recs rptC (l.drop r) := by
  simp only [window]
  rw [recs_drop (enc := rptC) (sz := 3) (fun _ => rfl), List.take_of_length_le]
  rw [len_R, List.length_drop]; exact Nat.le_refl _
theorem win_R2 {l : List Rpt} {r : Nat} (h : r ≤ l.length) : window (recs rptC l) 0 (r * 3) = recs rptC (l.take r) := by
  have e : recs rptC l = recs rptC (l.take r) ++ recs rptC (l.drop r) := by
    have : recs rptC (l.take r ++ l.drop r) = recs rptC (l.take r) ++ recs rptC (l.drop r) := by simp only [recs, List.flatMap_append]
    rw [← this, List.take_append_drop]
  simp only [window, List.drop_zero]
  rw [e]
  apply List.take_left'
  rw [len_R, List.length_take, Nat.min_eq_left h]
theorem recs_R2 {l : List Rpt} {r : Nat} : recs rptC (l.drop r) ++ recs rptC (l.take r) = recs rptC (l.drop r ++ l.take r) := by simp [recs]
theorem sp_len {xs ys : List AV} {o : Nat} (h : o + ys.length ≤ xs.length) : (splice xs o ys).length = xs.length := by
  simp only [splice, List.length_append, List.length_take, List.length_drop]; omega
theorem rot_c {t : Ann} {r : Nat} (hr : r < t.reports.length) : annC (rotA t r) = [.psl false t.reports.length (recs rptC (t.reports.drop r ++ t.reports.take r)), .psl false t.claims.length (recs clmC (t.claims.map (rotC t.reports.length r))), .int .i64 t.rest] := by
  have h1 : (t.reports.drop r ++ t.reports.take r).length = t.reports.length := rotA_len hr
  simp only [annC, slR, slC, rotA]
  rw [h1, List.length_map]
theorem orderLaw (hA : CallS Try.prog 17 [] (.bool true)) (t : Ann) (hkd : ∀ c ∈ t.claims, 0 ≤ c.kind) (z x y : Int) (hz : 0 ≤ z ∧ z ≤ 255) (hx : 0 ≤ x ∧ x ≤ 255) (hy : 0 ≤ y ∧ y ≤ 255) : CallS Try.prog 8 [.agg (annC t), .int .u8 z, .int .u8 x, .int .u8 y] (.bool true) := by
  have hre := ready_c t
  cases hR : readyB t with
  | false =>
    rw [hR] at hre
    simp only [annC, slR, slC] at hre ⊢
    (refine callS_of_awp (fun w args => Try.call8 ..) Try.func8 rfl (fun w0 m0 wz => ?_); simp only [Try.ntmps8, Try.results8, initT, junks, rptC, clmC, slR, slC, annC, sl, List.toList_toArray, List.cons_append, List.nil_append, List.length_cons, List.length_nil, Nat.reduceAdd, Nat.reduceSub])
    (repeat' (first
    | (refine awp_seqK ?_)
    | (refine kt ?_)
    | (refine And.intro ?_ ?_)
    | ((first | refine awp_region ?_ | refine awp_draw (by kernel_rfl) (by kernel_rfl) ?_ | refine Imp.le2 ?_ | refine awp_label ?_ | refine awp_skip ?_ | refine awp_exit ?_ | refine awp_cd ?_ | refine awp_ret ?_ | refine callK_of (hre) ?_ | refine callK_of (hA) ?_ | refine go_split (fun _h => ?_) (fun _h => ?_)) <;> try simp (maxSteps := 4000000) only [go_sem, seval])
    | (intro _h)
    | (refine awp_block ?_)
    | (refine awp_scope ?_)
    | (refine cond_b (fun _h => ?_) (fun _h => ?_))
    | (show heapOK _ _ = true; kernel_rfl)
    | (show heapOK2 _ _ = true; kernel_rfl)
    | (omega)))
    all_goals trace_state
  | true =>
    rw [hR] at hre
    have hb : annOK t := thinB_ok (by simp only [readyB, Bool.and_eq_true] at hR; exact hR.1)
    have h0 : faultA t = 0 := by simp only [readyB, Bool.and_eq_true, decide_eq_true_eq] at hR; exact hR.2
    have ht := faultA_ok hkd h0
    have hr := ht.reports
    have hcl := ht.claims
    have hz1 := rem_c (x := z) (n := t.reports.length) hz.1
    have hx1 := rem_c (x := x) (n := t.reports.length) hx.1
    have hy1 := rem_c (x := y) (n := t.reports.length) hy.1
    have hr0 := Nat.mod_lt z.toNat (show 0 < t.reports.length by omega)
    have hi := Nat.mod_lt x.toNat (show 0 < t.reports.length by omega)
    have hk := Nat.mod_lt y.toNat (show 0 < t.reports.length by omega)
    generalize z.toNat % t.reports.length = r at *
    generalize x.toNat % t.reports.length = i at *
    generalize y.toNat % t.reports.length = k at *
    have hao := annals_oc t hb
    simp only [annC, slR, slC] at hre hao ⊢
    (refine callS_of_awp (fun w args => Try.call8 ..) Try.func8 rfl (fun w0 m0 wz => ?_); simp only [Try.ntmps8, Try.results8, initT, junks, rptC, clmC, slR, slC, annC, sl, List.toList_toArray, List.cons_append, List.nil_append, List.length_cons, List.length_nil, Nat.reduceAdd, Nat.reduceSub])
    (repeat' (first
    | (refine awp_ownN 1 rfl ?_; simp (maxSteps := 4000000) only [go_sem, seval, List.take_succ_cons, List.take_zero, hz1]; (repeat refine And.intro (by omega) ?_); refine own_go (hao) [] rfl ?_ ?_ rfl ?_ <;> try simp (maxSteps := 4000000) only [go_sem, seval, Nat.lt_irrefl, hz1] <;> try decide)
    | ((omega))
    | ((exfalso; omega))
    | (refine awp_seqK ?_)
    | (refine kt ?_)
    | (refine And.intro ?_ ?_)
    | ((first | refine awp_region ?_ | refine Imp.le2 ?_ | refine awp_label ?_ | refine awp_skip ?_ | refine awp_exit ?_ | refine awp_cd ?_ | refine awp_ret ?_ | refine callK_of (hre) ?_ | refine go_split (fun _h => ?_) (fun _h => ?_)) <;> try simp (maxSteps := 4000000) only [go_sem, seval, hz1])
    | (intro _h)
    | (refine awp_block ?_)
    | (refine awp_scope ?_)
    | (refine cond_b (fun _h => ?_) (fun _h => ?_))
    | (show heapOK _ _ = true; kernel_rfl)
    | (show heapOK2 _ _ = true; kernel_rfl)
    | (omega)))
    have hr2 : ((t.reports.length : Int) - (r : Int)).toNat = t.reports.length - r := by omega
    have hw1 := win_R1 (l := t.reports) (r := r)
    have hw2 := win_R2 (l := t.reports) (r := r) (by omega)
    have hw3 := recs_R2 (l := t.reports) (r := r)
    have hd1 : (t.reports.drop r).length = t.reports.length - r := List.length_drop
    have hd2 : (t.reports.take r).length = r := by rw [List.length_take]; omega
    have hd3 : t.reports.length - r + r = t.reports.length := by omega
    refine awp_mid ⟨mkT 219 [(2, .int .u8 x), (3, .int .u8 y), (4, .ptr 0 0 0), (9, .int .i64 t.reports.length), (10, .int .i64 r), (11, .ptr 6 0 0)], [some (.cells 25 1 0 [.psl false t.reports.length (recs rptC t.reports), .psl false t.claims.length (recs clmC t.claims), .int .i64 t.rest]), none, none, none, none, some (.cells 73 3 t.claims.length (recs clmC t.claims)), some (.cells 35 1 0 [.psl false t.reports.length (recs rptC (t.reports.drop r ++ t.reports.take r)), .osl 5 t.claims.length 0 t.claims.length, .int .i64 t.rest])], []⟩ ?_ ?_
    · (repeat' (first
    | ((omega))
    | ((exfalso; omega))
    | (refine awp_seqK ?_)
    | (refine kt ?_)
    | (refine And.intro ?_ ?_)
    | ((first | refine awp_region ?_ | refine awp_draw (by kernel_rfl) (by kernel_rfl) ?_ | refine awp_label ?_ | refine awp_skip ?_ | refine awp_exit ?_ | refine awp_cd ?_ | refine awp_ret ?_ | refine go_split (fun _h => ?_) (fun _h => ?_)) <;> try simp (maxSteps := 4000000) only [go_sem, seval, hr2, hw1, hw2, hw3, hd1, hd2, hd3])
    | (intro _h)
    | (refine awp_block ?_)
    | (refine awp_scope ?_)
    | (refine cond_b (fun _h => ?_) (fun _h => ?_))
    | (show heapOK _ _ = true; kernel_rfl)
    | (show heapOK2 _ _ = true; kernel_rfl)
    | (omega)))
      (refine Imp.trans (Imp.frz 7 rfl ?_ (fun _ => rfl)) (.le2 ?_); (focus (simp (maxSteps := 4000000) only [go_sem, seval])); simp only [frz, fzl, fz2, fz1, fz0, fzH, fzHs, fzO, fzB, List.map_cons, List.map_nil, if_true, if_false, reduceIte, Nat.reduceEqDiff, Nat.reduceAdd, Nat.succ_ne_self, Nat.zero_ne_one, Nat.one_ne_zero, reduceCtorEq, and_self]; simp (maxSteps := 4000000) only [go_sem, seval])
      all_goals first | exact fq_pure | trace_state
    · clear hw1 hw2 hw3 hr2 hd1 hd2 hd3 hre hao
      (repeat' (first
    | ((omega))
    | ((exfalso; omega))
    | (refine awp_seqK ?_)
    | (refine kt ?_)
    | (refine And.intro ?_ ?_)
    | ((first | refine awp_region ?_ | refine awp_draw (by kernel_rfl) (by kernel_rfl) ?_ | refine Imp.le2 ?_ | refine awp_label ?_ | refine awp_skip ?_ | refine awp_exit ?_ | refine awp_cd ?_ | refine awp_ret ?_ | refine go_split (fun _h => ?_) (fun _h => ?_)) <;> try simp (maxSteps := 4000000) only [go_sem, seval])
    | (intro _h)
    | (refine awp_block ?_)
    | (refine awp_scope ?_)
    | (refine cond_b (fun _h => ?_) (fun _h => ?_))
    | (show heapOK _ _ = true; kernel_rfl)
    | (show heapOK2 _ _ = true; kernel_rfl)
    | (omega)))
      refine awp_loopN t.claims.length (fun j => ⟨mkT 219 [(2, .int .u8 x), (3, .int .u8 y), (4, .ptr 0 0 0), (9, .int .i64 t.reports.length), (10, .int .i64 r), (11, .ptr 6 0 0), (12, .int .i64 j)], [some (.cells 25 1 0 [.psl false t.reports.length (recs rptC t.reports), .psl false t.claims.length (recs clmC t.claims), .int .i64 t.rest]), none, none, none, none, some (.cells 73 3 t.claims.length (recs clmC (rotK t.reports.length r j t.claims))), some (.cells 35 1 0 [.psl false t.reports.length (recs rptC (t.reports.drop r ++ t.reports.take r)), .osl 5 t.claims.length 0 t.claims.length, .int .i64 t.rest])], []⟩) (.le2 ?_) ?_
      · rw [rotK_0]
        simp (maxSteps := 4000000) only [go_sem, seval]
        all_goals first | rfl | trace_state
      · intro j hj
        rcases Nat.lt_or_eq_of_le hj with hj1 | hj1
        · have hg := rotK_get (n := t.reports.length) (k := r) hj1
          have hl := rotK_len (n := t.reports.length) (k := r) (Nat.le_of_lt hj1)
          have hc := ht.clm j hj1
          have hnx := rotK_next (n := t.reports.length) (k := r) hj1
          have hsp := sp_ab (l := rotK t.reports.length r j t.claims) (k := j) (a := ((t.claims.getD j default).a + t.reports.length - r).tmod t.reports.length) (b := ((t.claims.getD j default).b + t.reports.length - r).tmod t.reports.length) (by omega)
          rw [hg] at hsp
          have hsl : (splice (recs clmC (rotK t.reports.length r j t.claims)) (j * 3 + 1) [.int .i64 (((t.claims.getD j default).a + t.reports.length - r).tmod t.reports.length)]).length = t.claims.length * 3 := by
            rw [sp_len (by rw [len_C, hl]; simp only [List.length_cons, List.length_nil]; omega), len_C, hl]
          have hsp2 : _ = recs clmC (rotK t.reports.length r (j + 1) t.claims) := hsp.trans (by rw [← hnx]; rfl)
          simp (maxSteps := 4000000) only [go_sem, seval]
          (repeat' (first
    | ((omega))
    | ((exfalso; omega))
    | (refine awp_seqK ?_)
    | (refine kt ?_)
    | (refine And.intro ?_ ?_)
    | ((first | refine awp_region ?_ | refine awp_draw (by kernel_rfl) (by kernel_rfl) ?_ | refine Imp.le2 ?_ | refine awp_label ?_ | refine awp_skip ?_ | refine awp_exit ?_ | refine awp_cd ?_ | refine awp_ret ?_ | refine go_split (fun _h => ?_) (fun _h => ?_)) <;> try simp (maxSteps := 4000000) only [go_sem, seval, hg, hl, hsl, hsp2])
    | (intro _h)
    | (refine awp_block ?_)
    | (refine awp_scope ?_)
    | (refine cond_b (fun _h => ?_) (fun _h => ?_))
    | (show heapOK _ _ = true; kernel_rfl)
    | (show heapOK2 _ _ = true; kernel_rfl)
    | (omega)))
          all_goals trace_state
        · subst hj1
          rw [rotK_all]
          have hO := order_p h0 ht hr0 hi hk
          have hu := rotA_ok ht hr0
          have hf0 := rotA_fault h0 ht hr0
          have hln := rotA_len hr0
          have hbu : annOK (rotA t r) := ⟨by rw [hln]; exact hb.1, by simp only [rotA, List.length_map]; exact hb.2⟩
          have han := annals_c t hb
          have hda := Days_c t hb (fun _ => ht) (fun _ h => fiV_mir ht (mirA_ok ht) h)
          have hdb := Days_c (rotA t r) hbu (fun _ => hu) (fun _ h => fiV_mir hu (mirA_ok hu) h)
          have hwa := Ways_c t hb (fun _ => ht)
          have hwb := Ways_c (rotA t r) hbu (fun _ => hu)
          have hsa := Surely_c t i k hb (fun _ => ht)
          have hri := rot_n (a := (i : Int)) (n := t.reports.length) (k := r) (by omega) hr0
          have hrk := rot_n (a := (k : Int)) (n := t.reports.length) (k := r) (by omega) hr0
          simp only [Int.toNat_natCast] at hri hrk
          have hsb := Surely_c (rotA t r) (((i + (t.reports.length - r)) % t.reports.length : Nat) : Int) (((k + (t.reports.length - r)) % t.reports.length : Nat) : Int) hbu (fun _ => hu)
          have e1 : dayE t = if (fiV t).1 = true then 0 else 9 := by unfold dayE; rw [if_pos h0]
          have e2 : dayE (rotA t r) = if (fiV t).1 = true then 0 else 9 := by unfold dayE; rw [if_pos hf0, hO.fd]
          have e3 : dayV t = if dayE t = 0 then slG (tab t.reports.length (dayF (fiV t).2 (fiV (mirA t)).2)) else .nils := rfl
          have e4 : dayV (rotA t r) = if dayE (rotA t r) = 0 then slG (tab (rotA t r).reports.length (dayF (fiV (rotA t r)).2 (fiV (mirA (rotA t r))).2)) else .nils := rfl
          rw [hln] at e4
          have w2 := hO.wayE
          have w3 : wayV t = if wayE t = 0 then slW (waV t).1 else .nils := rfl
          have w4 : wayV (rotA t r) = if wayE t = 0 then slW (waV (rotA t r)).1 else .nils := by rw [← w2]; rfl
          have h1 := Nat.mod_lt (i + (t.reports.length - r)) (show 0 < t.reports.length by omega)
          have h2 := Nat.mod_lt (k + (t.reports.length - r)) (show 0 < t.reports.length by omega)
          have h3 : (i + (t.reports.length - r)) % t.reports.length = (k + (t.reports.length - r)) % t.reports.length ↔ i = k := by
            constructor
            · intro h
              have h9 := (rot_rt hr0 hi).2
              rw [h, (rot_rt hr0 hk).2] at h9
              exact h9.symm
            · intro h; rw [h]
          have u1 : sureE (rotA t r) (((i + (t.reports.length - r)) % t.reports.length : Nat) : Int) (((k + (t.reports.length - r)) % t.reports.length : Nat) : Int) = sureE t i k := by
            unfold sureE
            rw [if_pos hf0, if_pos h0, hO.su, hln]
            by_cases hik : i = k
            · rw [h3.2 hik, if_neg (fun h => h.2.2 rfl), if_neg (fun h => h.2.2 (by rw [hik]))]
            · have c0 : ¬ (i + (t.reports.length - r)) % t.reports.length = (k + (t.reports.length - r)) % t.reports.length := fun e => hik (h3.1 e)
              generalize (i + (t.reports.length - r)) % t.reports.length = si at *
              generalize (k + (t.reports.length - r)) % t.reports.length = sk at *
              have c1 : ((0 : Int) ≤ i ∧ (i : Int) < t.reports.length) ∧ ((0 : Int) ≤ k ∧ (k : Int) < t.reports.length) ∧ (i : Int) ≠ k := by omega
              have c2 : ((0 : Int) ≤ si ∧ (si : Int) < t.reports.length) ∧ ((0 : Int) ≤ sk ∧ (sk : Int) < t.reports.length) ∧ (si : Int) ≠ sk := by omega
              rw [if_pos c1, if_pos c2]
          have u2 : sureV (rotA t r) (((i + (t.reports.length - r)) % t.reports.length : Nat) : Int) (((k + (t.reports.length - r)) % t.reports.length : Nat) : Int) = sureV t i k := by
            unfold sureV
            rw [u1, hO.su]
          rw [u1, u2] at hsb
          rw [w3] at hwa
          rw [w4, w2] at hwb
          rw [e3, e1] at hda
          rw [e4, e2] at hdb
          rw [rot_c hr0] at hdb hwb hsb
          have hti : ∀ j : Nat, ((j : Int) + t.reports.length - r).tmod t.reports.length = (((j + (t.reports.length - r)) % t.reports.length : Nat) : Int) := fun j => by
            have := rot_n (a := (j : Int)) (n := t.reports.length) (k := r) (by omega) hr0
            simpa using this
          clear e1 e2 e3 e4 w2 w3 w4 u1 u2 h3
          generalize sureE t i k = E1 at *
          generalize sureV t i k = V1 at *
          have hlw := hO.ways
          generalize wayE t = WE at *
          generalize (waV t).1 = L at *
          generalize (waV (rotA t r)).1 = M at *
          have htb1 := fun (j : Nat) (hj : j < t.reports.length) => show (tab t.reports.length (dayF (fiV t).2 (fiV (mirA t)).2)).getD j default = ((fiV t).2.getD j 0, 100000 - (fiV (mirA t)).2.getD j 0) by
            simp [tab, dayF, List.getD_eq_getElem?_getD, hj]
          have htb2 := fun (j : Nat) (hj : j < t.reports.length) => show (tab t.reports.length (dayF (fiV (rotA t r)).2 (fiV (mirA (rotA t r))).2)).getD j default = ((fiV (rotA t r)).2.getD j 0, 100000 - (fiV (mirA (rotA t r))).2.getD j 0) by
            simp [tab, dayF, List.getD_eq_getElem?_getD, hj]
          have hab : (fiV t).1 = true → ∀ j, j < t.reports.length → (tab t.reports.length (dayF (fiV (rotA t r)).2 (fiV (mirA (rotA t r))).2)).getD ((j + (t.reports.length - r)) % t.reports.length) default = (tab t.reports.length (dayF (fiV t).2 (fiV (mirA t)).2)).getD j default := fun hv j hj => by
            rw [htb1 j hj, htb2 _ (Nat.mod_lt _ (by omega)), hO.low hv j hj, hO.high hv j hj]
          have hla : (tab t.reports.length (dayF (fiV t).2 (fiV (mirA t)).2)).length = t.reports.length := tab_length
          have hlb : (tab t.reports.length (dayF (fiV (rotA t r)).2 (fiV (mirA (rotA t r))).2)).length = t.reports.length := tab_length
          clear htb1 htb2 hO
          generalize tab t.reports.length (dayF (fiV t).2 (fiV (mirA t)).2) = T1 at *
          generalize tab t.reports.length (dayF (fiV (rotA t r)).2 (fiV (mirA (rotA t r))).2) = T2 at *
          generalize (fiV t).1 = F at *
          have htk : (i = k → ∃ c, Kt Try.prog w0 none (Ctx.of [] m0 wz) c (fun _ _ => True) ⟨[], [], []⟩) ∨ True := .inr trivial
          clear htk
          by_cases hW : WE = 0
          · subst hW
            have hlw := hlw rfl
            simp only [if_true] at hwa hwb
            cases F with
            | false =>
              simp only [Bool.false_eq_true, if_false] at hda hdb
              rw [if_neg (by omega)] at hda hdb
              simp only [annC, slR, slC, slG, slW, hla, hlb, hlw] at han hda hdb hwa hwb hsa hsb ⊢
              simp (maxSteps := 4000000) only [go_sem, seval]
              (repeat' (first
    | (refine awp_frz (c := .region 11 _ _) 5 rfl (by simp (maxSteps := 4000000) only [go_sem, seval, hlw]) (fun _ => rfl) ?_; simp only [frz, fzl, fz2, fz1, fz0, fzH, fzHs, fzO, fzB, List.map_cons, List.map_nil, if_true, if_false, reduceIte, Nat.reduceEqDiff, Nat.reduceAdd, Nat.succ_ne_self, Nat.zero_ne_one, Nat.one_ne_zero, reduceCtorEq, and_self])
    | ((omega))
    | ((exfalso; omega))
    | (refine awp_seqK ?_)
    | (refine kt ?_)
    | (refine And.intro ?_ ?_)
    | ((first | refine awp_region ?_ | refine awp_draw (by kernel_rfl) (by kernel_rfl) ?_ | refine Imp.le2 ?_ | refine awp_label ?_ | refine awp_skip ?_ | refine awp_exit ?_ | refine awp_cd ?_ | refine awp_ret ?_ | refine callK_of (han) ?_ | refine callK_of (hwa) ?_ | refine callK_of (hwb) ?_ | refine callK_of (hda) ?_ | refine callK_of (hdb) ?_ | refine go_split (fun _h => ?_) (fun _h => ?_)) <;> try simp (maxSteps := 4000000) only [go_sem, seval, hlw])
    | (intro _h)
    | (refine awp_block ?_)
    | (refine awp_scope ?_)
    | (refine cond_b (fun _h => ?_) (fun _h => ?_))
    | (show heapOK _ _ = true; kernel_rfl)
    | (show heapOK2 _ _ = true; kernel_rfl)
    | (omega)))
              (refine awp_rounds 1 ?_; rw [ar_s])
              (repeat' (first
    | ((omega))
    | ((exfalso; omega))
    | (refine awp_seqK ?_)
    | (refine kt ?_)
    | (refine And.intro ?_ ?_)
    | ((first | refine awp_region ?_ | refine awp_draw (by kernel_rfl) (by kernel_rfl) ?_ | refine Imp.le2 ?_ | refine awp_label ?_ | refine awp_skip ?_ | refine awp_exit ?_ | refine awp_cd ?_ | refine awp_ret ?_ | refine callK_of (hA) ?_ | refine callK_of (han) ?_ | refine callK_of (hsa) ?_ | refine callK_of (hsb) ?_ | refine go_split (fun _h => ?_) (fun _h => ?_)) <;> try simp (maxSteps := 4000000) only [go_sem, seval, hx1, hy1, hti])
    | (intro _h)
    | (refine awp_block ?_)
    | (refine awp_scope ?_)
    | (refine cond_b (fun _h => ?_) (fun _h => ?_))
    | (show heapOK _ _ = true; kernel_rfl)
    | (show heapOK2 _ _ = true; kernel_rfl)
    | (omega)))
              all_goals trace_state
            | true =>
              have hab := hab rfl
              simp only [if_true] at hda hdb
              simp only [annC, slR, slC, slG, slW, hla, hlb, hlw] at han hda hdb hwa hwb hsa hsb ⊢
              simp (maxSteps := 4000000) only [go_sem, seval]
              (repeat' (first
    | (refine awp_frz (c := .region 11 _ _) 5 rfl (by simp (maxSteps := 4000000) only [go_sem, seval, hlw]) (fun _ => rfl) ?_; simp only [frz, fzl, fz2, fz1, fz0, fzH, fzHs, fzO, fzB, List.map_cons, List.map_nil, if_true, if_false, reduceIte, Nat.reduceEqDiff, Nat.reduceAdd, Nat.succ_ne_self, Nat.zero_ne_one, Nat.one_ne_zero, reduceCtorEq, and_self])
    | ((omega))
    | ((exfalso; omega))
    | (refine awp_seqK ?_)
    | (refine kt ?_)
    | (refine And.intro ?_ ?_)
    | ((first | refine awp_region ?_ | refine awp_draw (by kernel_rfl) (by kernel_rfl) ?_ | refine Imp.le2 ?_ | refine awp_label ?_ | refine awp_skip ?_ | refine awp_exit ?_ | refine awp_cd ?_ | refine awp_ret ?_ | refine callK_of (han) ?_ | refine callK_of (hwa) ?_ | refine callK_of (hwb) ?_ | refine callK_of (hda) ?_ | refine callK_of (hdb) ?_ | refine go_split (fun _h => ?_) (fun _h => ?_)) <;> try simp (maxSteps := 4000000) only [go_sem, seval, hlw])
    | (intro _h)
    | (refine awp_block ?_)
    | (refine awp_scope ?_)
    | (refine cond_b (fun _h => ?_) (fun _h => ?_))
    | (show heapOK _ _ = true; kernel_rfl)
    | (show heapOK2 _ _ = true; kernel_rfl)
    | (omega)))
              refine awp_loopN t.reports.length (fun j => ⟨mkT 219 [(2, .int .u8 x), (3, .int .u8 y), (4, .ptr 0 0 0), (9, .int .i64 t.reports.length), (10, .int .i64 r), (11, .ptr 6 0 0), (17, .psl false t.reports.length (recs rngC T1)), (19, .psl false t.reports.length (recs rngC T2)), (21, .int .i64 j)], [some (.cells 25 1 0 [.psl false t.reports.length (recs rptC t.reports), .psl false t.claims.length (recs clmC t.claims), .int .i64 t.rest]), none, none, none, none, none, some (.cells 35 1 0 [.psl false t.reports.length (recs rptC (t.reports.drop r ++ t.reports.take r)), .psl false t.claims.length (recs clmC (t.claims.map (rotC t.reports.length r))), .int .i64 t.rest])], []⟩) (.le2 ?_) ?_
              · simp (maxSteps := 4000000) only [go_sem, seval]
                all_goals first | rfl | trace_state
              · intro j hj
                rcases Nat.lt_or_eq_of_le hj with hj1 | hj1
                · have ha1 := hab j hj1
                  have hmj := Nat.mod_lt (j + (t.reports.length - r)) (show 0 < t.reports.length by omega)
                  simp (maxSteps := 4000000) only [go_sem, seval]
                  (repeat' (first
    | ((exact eqOK 48))
    | ((exact tkb48))
    | ((show _ = _; exact tkb48))
    | ((omega))
    | ((exfalso; omega))
    | (refine awp_seqK ?_)
    | (refine kt ?_)
    | (refine And.intro ?_ ?_)
    | ((first | refine awp_region ?_ | refine awp_draw (by kernel_rfl) (by kernel_rfl) ?_ | refine Imp.le2 ?_ | refine awp_label ?_ | refine awp_skip ?_ | refine awp_exit ?_ | refine awp_cd ?_ | refine awp_ret ?_ | refine go_split (fun _h => ?_) (fun _h => ?_)) <;> try simp (maxSteps := 4000000) only [go_sem, seval, hla, hlb, hti, ha1])
    | (intro _h)
    | (refine awp_block ?_)
    | (refine awp_scope ?_)
    | (refine cond_b (fun _h => ?_) (fun _h => ?_))
    | (show heapOK _ _ = true; kernel_rfl)
    | (show heapOK2 _ _ = true; kernel_rfl)
    | (omega)))
                  all_goals first | (exfalso; simp at _h; done) | trace_state
                · subst hj1
                  simp (maxSteps := 4000000) only [go_sem, seval]
                  (repeat' (first
    | ((omega))
    | ((exfalso; omega))
    | (refine awp_seqK ?_)
    | (refine kt ?_)
    | (refine And.intro ?_ ?_)
    | ((first | refine awp_region ?_ | refine awp_draw (by kernel_rfl) (by kernel_rfl) ?_ | refine Imp.le2 ?_ | refine awp_label ?_ | refine awp_skip ?_ | refine awp_exit ?_ | refine awp_cd ?_ | refine awp_ret ?_ | refine callK_of (hA) ?_ | refine callK_of (han) ?_ | refine callK_of (hsa) ?_ | refine callK_of (hsb) ?_ | refine go_split (fun _h => ?_) (fun _h => ?_)) <;> try simp (maxSteps := 4000000) only [go_sem, seval, hx1, hy1, hti])
    | (intro _h)
    | (refine awp_block ?_)
    | (refine awp_scope ?_)
    | (refine cond_b (fun _h => ?_) (fun _h => ?_))
    | (show heapOK _ _ = true; kernel_rfl)
    | (show heapOK2 _ _ = true; kernel_rfl)
    | (omega)))
                  all_goals trace_state
          · rw [if_neg hW] at hwa hwb
            cases F with
            | false =>
              simp only [Bool.false_eq_true, if_false] at hda hdb
              rw [if_neg (by omega)] at hda hdb
              simp only [annC, slR, slC, slG, hla, hlb] at han hda hdb hwa hwb hsa hsb ⊢
              simp (maxSteps := 4000000) only [go_sem, seval]
              (repeat' (first
    | (refine awp_frz (c := .region 11 _ _) 5 rfl (by simp (maxSteps := 4000000) only [go_sem, seval]) (fun _ => rfl) ?_; simp only [frz, fzl, fz2, fz1, fz0, fzH, fzHs, fzO, fzB, List.map_cons, List.map_nil, if_true, if_false, reduceIte, Nat.reduceEqDiff, Nat.reduceAdd, Nat.succ_ne_self, Nat.zero_ne_one, Nat.one_ne_zero, reduceCtorEq, and_self])
    | ((omega))
    | ((exfalso; omega))
    | (refine awp_seqK ?_)
    | (refine kt ?_)
    | (refine And.intro ?_ ?_)
    | ((first | refine awp_region ?_ | refine awp_draw (by kernel_rfl) (by kernel_rfl) ?_ | refine Imp.le2 ?_ | refine awp_label ?_ | refine awp_skip ?_ | refine awp_exit ?_ | refine awp_cd ?_ | refine awp_ret ?_ | refine callK_of (han) ?_ | refine callK_of (hwa) ?_ | refine callK_of (hwb) ?_ | refine callK_of (hda) ?_ | refine callK_of (hdb) ?_ | refine go_split (fun _h => ?_) (fun _h => ?_)) <;> try simp (maxSteps := 4000000) only [go_sem, seval])
    | (intro _h)
    | (refine awp_block ?_)
    | (refine awp_scope ?_)
    | (refine cond_b (fun _h => ?_) (fun _h => ?_))
    | (show heapOK _ _ = true; kernel_rfl)
    | (show heapOK2 _ _ = true; kernel_rfl)
    | (omega)))
              (refine awp_rounds 1 ?_; rw [ar_s])
              (repeat' (first
    | ((omega))
    | ((exfalso; omega))
    | (refine awp_seqK ?_)
    | (refine kt ?_)
    | (refine And.intro ?_ ?_)
    | ((first | refine awp_region ?_ | refine awp_draw (by kernel_rfl) (by kernel_rfl) ?_ | refine Imp.le2 ?_ | refine awp_label ?_ | refine awp_skip ?_ | refine awp_exit ?_ | refine awp_cd ?_ | refine awp_ret ?_ | refine callK_of (hA) ?_ | refine callK_of (han) ?_ | refine callK_of (hsa) ?_ | refine callK_of (hsb) ?_ | refine go_split (fun _h => ?_) (fun _h => ?_)) <;> try simp (maxSteps := 4000000) only [go_sem, seval, hx1, hy1, hti])
    | (intro _h)
    | (refine awp_block ?_)
    | (refine awp_scope ?_)
    | (refine cond_b (fun _h => ?_) (fun _h => ?_))
    | (show heapOK _ _ = true; kernel_rfl)
    | (show heapOK2 _ _ = true; kernel_rfl)
    | (omega)))
              all_goals trace_state
            | true =>
              have hab := hab rfl
              simp only [if_true] at hda hdb
              simp only [annC, slR, slC, slG, hla, hlb] at han hda hdb hwa hwb hsa hsb ⊢
              simp (maxSteps := 4000000) only [go_sem, seval]
              (repeat' (first
    | (refine awp_frz (c := .region 11 _ _) 5 rfl (by simp (maxSteps := 4000000) only [go_sem, seval]) (fun _ => rfl) ?_; simp only [frz, fzl, fz2, fz1, fz0, fzH, fzHs, fzO, fzB, List.map_cons, List.map_nil, if_true, if_false, reduceIte, Nat.reduceEqDiff, Nat.reduceAdd, Nat.succ_ne_self, Nat.zero_ne_one, Nat.one_ne_zero, reduceCtorEq, and_self])
    | ((omega))
    | ((exfalso; omega))
    | (refine awp_seqK ?_)
    | (refine kt ?_)
    | (refine And.intro ?_ ?_)
    | ((first | refine awp_region ?_ | refine awp_draw (by kernel_rfl) (by kernel_rfl) ?_ | refine Imp.le2 ?_ | refine awp_label ?_ | refine awp_skip ?_ | refine awp_exit ?_ | refine awp_cd ?_ | refine awp_ret ?_ | refine callK_of (han) ?_ | refine callK_of (hwa) ?_ | refine callK_of (hwb) ?_ | refine callK_of (hda) ?_ | refine callK_of (hdb) ?_ | refine go_split (fun _h => ?_) (fun _h => ?_)) <;> try simp (maxSteps := 4000000) only [go_sem, seval])
    | (intro _h)
    | (refine awp_block ?_)
    | (refine awp_scope ?_)
    | (refine cond_b (fun _h => ?_) (fun _h => ?_))
    | (show heapOK _ _ = true; kernel_rfl)
    | (show heapOK2 _ _ = true; kernel_rfl)
    | (omega)))
              refine awp_loopN t.reports.length (fun j => ⟨mkT 219 [(2, .int .u8 x), (3, .int .u8 y), (4, .ptr 0 0 0), (9, .int .i64 t.reports.length), (10, .int .i64 r), (11, .ptr 6 0 0), (17, .psl false t.reports.length (recs rngC T1)), (19, .psl false t.reports.length (recs rngC T2)), (21, .int .i64 j)], [some (.cells 25 1 0 [.psl false t.reports.length (recs rptC t.reports), .psl false t.claims.length (recs clmC t.claims), .int .i64 t.rest]), none, none, none, none, none, some (.cells 35 1 0 [.psl false t.reports.length (recs rptC (t.reports.drop r ++ t.reports.take r)), .psl false t.claims.length (recs clmC (t.claims.map (rotC t.reports.length r))), .int .i64 t.rest])], []⟩) (.le2 ?_) ?_
              · simp (maxSteps := 4000000) only [go_sem, seval]
                all_goals first | rfl | trace_state
              · intro j hj
                rcases Nat.lt_or_eq_of_le hj with hj1 | hj1
                · have ha1 := hab j hj1
                  have hmj := Nat.mod_lt (j + (t.reports.length - r)) (show 0 < t.reports.length by omega)
                  simp (maxSteps := 4000000) only [go_sem, seval]
                  (repeat' (first
    | ((exact eqOK 48))
    | ((exact tkb48))
    | ((show _ = _; exact tkb48))
    | ((omega))
    | ((exfalso; omega))
    | (refine awp_seqK ?_)
    | (refine kt ?_)
    | (refine And.intro ?_ ?_)
    | ((first | refine awp_region ?_ | refine awp_draw (by kernel_rfl) (by kernel_rfl) ?_ | refine Imp.le2 ?_ | refine awp_label ?_ | refine awp_skip ?_ | refine awp_exit ?_ | refine awp_cd ?_ | refine awp_ret ?_ | refine go_split (fun _h => ?_) (fun _h => ?_)) <;> try simp (maxSteps := 4000000) only [go_sem, seval, hla, hlb, hti, ha1])
    | (intro _h)
    | (refine awp_block ?_)
    | (refine awp_scope ?_)
    | (refine cond_b (fun _h => ?_) (fun _h => ?_))
    | (show heapOK _ _ = true; kernel_rfl)
    | (show heapOK2 _ _ = true; kernel_rfl)
    | (omega)))
                  all_goals first | (exfalso; simp at _h; done) | trace_state
                · subst hj1
                  simp (maxSteps := 4000000) only [go_sem, seval]
                  (repeat' (first
    | ((omega))
    | ((exfalso; omega))
    | (refine awp_seqK ?_)
    | (refine kt ?_)
    | (refine And.intro ?_ ?_)
    | ((first | refine awp_region ?_ | refine awp_draw (by kernel_rfl) (by kernel_rfl) ?_ | refine Imp.le2 ?_ | refine awp_label ?_ | refine awp_skip ?_ | refine awp_exit ?_ | refine awp_cd ?_ | refine awp_ret ?_ | refine callK_of (hA) ?_ | refine callK_of (han) ?_ | refine callK_of (hsa) ?_ | refine callK_of (hsb) ?_ | refine go_split (fun _h => ?_) (fun _h => ?_)) <;> try simp (maxSteps := 4000000) only [go_sem, seval, hx1, hy1, hti])
    | (intro _h)
    | (refine awp_block ?_)
    | (refine awp_scope ?_)
    | (refine cond_b (fun _h => ?_) (fun _h => ?_))
    | (show heapOK _ _ = true; kernel_rfl)
    | (show heapOK2 _ _ = true; kernel_rfl)
    | (omega)))
                  all_goals trace_state
end Go.Am

/- The law AnnalsOrder, as a contract: it returns true. -/
namespace Go.Am
open Go.RowKit Go.Proofs
theorem annalsOrder_c (t : Ann) (z x y : Int) (ht : AnnR t) (hz : okI .u8 z) (hx : okI .u8 x) (hy : okI .u8 y) : CallS Try.prog 8 [.agg (annC t), .int .u8 z, .int .u8 x, .int .u8 y] (.bool true) :=
  orderLaw awake_c t (fun c hc => (ht.claims c hc).1.1) z x y (okI_u8 hz) (okI_u8 hx) (okI_u8 hy)
end Go.Am
