/- Parts TjG, TlD of the proof, one behind the other. No statement is proved here. -/
import Derived.Test.YtghlpjfpfjpddaaDb
import Derived.Test.YtghlpjfpfjpddaaD6
import Derived.Test.YtghlpjfpfjpddaaD8
/- Plain words: when people are at home again. No program is in sight. -/
namespace Go.Am
set_option linter.unusedSimpArgs false
set_option linter.unusedVariables false

theorem outB_at {t : Town} {b : Bus} {safe : Int} {out : List Int} {n : Nat} (ho : out.length = n) (hl : ∀ x ∈ b.homes, 0 ≤ x ∧ x < n) : ∀ k, k ≤ b.homes.length → ∀ h, h < n → (outB t b safe out k).getD h 0 = if (h : Int) ∈ b.homes.take k then safe + (t.halls.getD b.hall.toNat default).drive + (t.homes.getD h default).walk else out.getD h 0
  | 0, _, h, hh => by simp [outB]
  | k + 1, hk, h, hh => by
    have ih := outB_at (t := t) (safe := safe) ho hl k (by omega) h hh
    have hol := outB_length (t := t) (safe := safe) ho hl k (by omega)
    have hx := hl _ (getD_mem (d := 0) (i := k) (by omega))
    simp only [outB]
    rw [isp_getD (by omega), take_snoc (d := 0) (by omega)]
    by_cases e : h = (b.homes.getD k 0).toNat
    · rw [if_pos e, if_pos (List.mem_append.2 (.inr (by rw [List.mem_singleton, e]; omega))), ← e]
    · rw [if_neg e, ih]
      by_cases e2 : (h : Int) ∈ b.homes.take k
      · rw [if_pos e2, if_pos (List.mem_append.2 (.inl e2))]
      · rw [if_neg e2, if_neg]
        rw [List.mem_append, List.mem_singleton]
        rintro (h1 | h1)
        · exact e2 h1
        · exact e (by omega)
/-- People of a bus are at home again when all of its homes are safe. -/
theorem rOut_at {t : Town} {P : List Bus} {opens : List Int} (hG : ∀ j, j < P.length → BusG t (P.getD j default)) (honce : ∀ j j', j < j' → j' < P.length → ∀ x ∈ (P.getD j default).homes, x ∉ (P.getD j' default).homes) :
    ∀ k, k ≤ P.length → ∀ j, j < k → ∀ h, h < t.homes.length → (h : Int) ∈ (P.getD j default).homes → (rOut t P opens k).getD h 0 = safeL opens (P.getD j default).homes (P.getD j default).homes.length + (t.halls.getD (P.getD j default).hall.toNat default).drive + (t.homes.getD h default).walk
  | 0, _, j, hj, _, _, _ => by omega
  | k + 1, hk, j, hj, h, hh, hm => by
    have hl := rOut_length (opens := opens) hG k (by omega)
    have hb := (hG k (by omega)).homes
    simp only [rOut]
    rw [outB_at hl hb _ (Nat.le_refl _) h hh, List.take_length]
    rcases Nat.lt_succ_iff_lt_or_eq.1 hj with hj1 | rfl
    · rw [if_neg (honce j k hj1 (by omega) _ hm)]
      exact rOut_at hG honce k (by omega) j hj1 h hh hm
    · rw [if_pos hm]
theorem safeL_ge {opens l : List Int} : ∀ {k j : Nat}, j < k → opens.getD (l.getD j 0).toNat 0 ≤ safeL opens l k
  | 0, _, h => by omega
  | k + 1, j, h => by
    simp only [safeL]
    rcases Nat.lt_succ_iff_lt_or_eq.1 h with h | rfl
    · have := safeL_ge (opens := opens) (l := l) h; omega
    · omega
theorem safeL_mono {o o' l : List Int} (h : ∀ j, j < l.length → o.getD (l.getD j 0).toNat 0 ≤ o'.getD (l.getD j 0).toNat 0) : ∀ {k : Nat}, k ≤ l.length → safeL o l k ≤ safeL o' l k
  | 0, _ => Int.le_refl _
  | k + 1, hk => by
    have h1 := safeL_mono h (k := k) (by omega)
    have h2 := h k (by omega)
    simp only [safeL]; omega
/-- What a right plan says of returns. -/
structure BackOK (t : Town) (P : List Bus) (opens : List Int) (out : List Int) : Prop where
  len : out.length = t.homes.length
  ge : ∀ h, h < t.homes.length → opens.getD h 0 + (t.homes.getD h default).walk ≤ out.getD h 0
  bus : ∀ j, j < P.length → ∃ c, ∀ x ∈ (P.getD j default).homes, out.getD x.toNat 0 = c + (t.homes.getD x.toNat default).walk
theorem back_ok {t : Town} {P : List Bus} {opens : List Int} (ht : TownOK t) (h : rightB t P = true) : BackOK t P opens (rOut t P opens P.length) ∧ ∀ opens' : List Int, (∀ h, h < t.homes.length → opens.getD h 0 ≤ opens'.getD h 0) → ∀ h, h < t.homes.length → (rOut t P opens P.length).getD h 0 ≤ (rOut t P opens' P.length).getD h 0 := by
  obtain ⟨S, hS, h8, hroom, hall⟩ := rightB_some h
  have R := runI ht _ S hS
  obtain ⟨l1, l2, l3⟩ := runN_length ht _ S hS
  have hG : ∀ j, j < P.length → BusG t (P.getD j default) := fun j hj => (R.bus j hj).1
  have hmk : ∀ h, h < t.homes.length → ∃ j, j < P.length ∧ (h : Int) ∈ (P.getD j default).homes := fun h hh => by
    refine (R.mark h hh).1 ?_
    rw [List.any_eq_false] at hall
    have := hall _ (getD_mem (d := false) (i := h) (by omega))
    simpa using this
  have hat := fun (o : List Int) => rOut_at (opens := o) hG R.once P.length (Nat.le_refl _)
  refine ⟨⟨rOut_length hG _ (Nat.le_refl _), fun h hh => ?_, fun j hj => ?_⟩, fun o' ho h hh => ?_⟩
  · obtain ⟨j, hj, hm⟩ := hmk h hh
    rw [hat opens j hj h hh hm]
    obtain ⟨i, hi, e⟩ := mem_getD (d := 0) hm
    have h1 := safeL_ge (opens := opens) (l := (P.getD j default).homes) hi
    rw [e, Int.toNat_natCast] at h1
    have h2 := (hG j hj).hall
    have h3 := (ht.hall (P.getD j default).hall.toNat (by omega)).drive
    omega
  · refine ⟨safeL opens (P.getD j default).homes (P.getD j default).homes.length + (t.halls.getD (P.getD j default).hall.toNat default).drive, fun x hx => ?_⟩
    have h1 := (hG j hj).homes x hx
    exact hat opens j hj x.toNat (by omega) (by rw [show ((x.toNat : Nat) : Int) = x by omega]; exact hx)
  · obtain ⟨j, hj, hm⟩ := hmk h hh
    rw [hat opens j hj h hh hm, hat o' j hj h hh hm]
    have h1 := safeL_mono (o := opens) (o' := o') (l := (P.getD j default).homes) (fun i hi => by
      have := (hG j hj).homes _ (getD_mem (d := 0) hi)
      exact ho _ (by omega)) (k := (P.getD j default).homes.length) (Nat.le_refl _)
    omega
theorem back_bd {t : Town} {P : List Bus} {opens : List Int} (ht : TownOK t) (h : rightB t P = true) (ho : Opn t opens) : ∀ h, h < t.homes.length → 0 ≤ (rOut t P opens P.length).getD h 0 ∧ (rOut t P opens P.length).getD h 0 ≤ 1002000 := by
  obtain ⟨S, hS, h8, hroom, hall⟩ := rightB_some h
  have R := runI ht _ S hS
  obtain ⟨l1, l2, l3⟩ := runN_length ht _ S hS
  have hG : ∀ j, j < P.length → BusG t (P.getD j default) := fun j hj => (R.bus j hj).1
  intro h hh
  have hmk : ∃ j, j < P.length ∧ (h : Int) ∈ (P.getD j default).homes := by
    refine (R.mark h hh).1 ?_
    rw [List.any_eq_false] at hall
    have := hall _ (getD_mem (d := false) (i := h) (by omega))
    simpa using this
  obtain ⟨j, hj, hm⟩ := hmk
  rw [rOut_at (opens := opens) hG R.once P.length (Nat.le_refl _) j hj h hh hm]
  have h1 := safeL_bd ho (hG j hj).homes _ (Nat.le_refl _)
  have h2 := (hG j hj).hall
  have h3 := (ht.hall (P.getD j default).hall.toNat (by omega)).drive
  have h4 := (ht.home h hh).walk
  omega
end Go.Am

/- The law AwayBack, as a contract: it returns true. -/
namespace Go.Am
open Go.RowKit Go.Proofs
attribute [local irreducible] AWP CallS Kt goK CallK stepK evOps SemF SemY Imp
set_option maxRecDepth 4000
set_option linter.unusedSimpArgs false
set_option linter.unusedVariables false
set_option maxHeartbeats 3200000

theorem listO_c (l : List Int) (hl : l.length ≤ 1000000) : SemF Try.prog 32 [sl l] [] (.osl 0 0 0 l.length) [some (.cells 3 1 0 (ints l))] := by
  (refine semF_of_awp (ys := [.osl 0 0 0 l.length]) (fun w args => Try.call32 ..) Try.func32 rfl (fun w0 m0 wz => ?_); simp only [Try.ntmps32, Try.results32, initT, junks, homeC, hallC, slH, slL, townC, sl, List.toList_toArray, List.cons_append, List.nil_append, List.length_cons, List.length_nil, Nat.reduceAdd, Nat.reduceSub])
  (repeat' (first
    | (refine awp_seqK ?_)
    | (refine kt ?_)
    | (refine And.intro ?_ ?_)
    | ((first | refine awp_region ?_ | refine awp_draw (by kernel_rfl) (by kernel_rfl) ?_ | refine Imp.le2 ?_ | refine awp_label ?_ | refine awp_skip ?_ | refine awp_exit ?_ | refine awp_cd ?_ | refine awp_ret ?_ | refine go_split (fun _h => ?_) (fun _h => ?_)) <;> try simp (maxSteps := 4000000) only [go_sem, seval])
    | (intro _h)
    | (refine awp_block ?_)
    | (refine awp_scope ?_)
    | (refine cond_b (fun _h => ?_) (fun _h => ?_))
    | (show heapOK _ _ = true; kernel_rfl)
    | (show heapOK2 _ _ = true; kernel_rfl)
    | (omega)))
theorem awayBack_c (t : Town) (words : List Int) (at0 by0 : Int) (hw : WordsOK words) (ha : 0 ≤ at0 ∧ at0 ≤ 255) (hy : 0 ≤ by0 ∧ by0 ≤ 65535) : CallS Try.prog 9 [.agg (townC t), slU words, .int .u8 at0, .int .u16 by0] (.bool true) := by
  have hre := ready_c t
  have hA := awake_c
  cases hR : readyB t with
  | false =>
    rw [hR] at hre
    simp only [slB, townC, slH, slL, slU] at hre ⊢
    (refine callS_of_awp (fun w args => Try.call9 ..) Try.func9 rfl (fun w0 m0 wz => ?_); simp only [Try.ntmps9, Try.results9, initT, junks, homeC, hallC, slH, slL, townC, sl, List.toList_toArray, List.cons_append, List.nil_append, List.length_cons, List.length_nil, Nat.reduceAdd, Nat.reduceSub])
    (repeat' (first
    | (refine awp_seqK ?_)
    | (refine kt ?_)
    | (refine And.intro ?_ ?_)
    | ((first | refine awp_region ?_ | refine awp_draw (by kernel_rfl) (by kernel_rfl) ?_ | refine Imp.le2 ?_ | refine awp_label ?_ | refine awp_skip ?_ | refine awp_exit ?_ | refine awp_cd ?_ | refine awp_ret ?_ | refine callK_of (hre) ?_ | refine callK_of (hA) ?_ | refine go_split (fun _h => ?_) (fun _h => ?_)) <;> try simp (maxSteps := 4000000) only [go_sem, seval])
    | (intro _h)
    | (refine awp_block ?_)
    | (refine awp_scope ?_)
    | (refine cond_b (fun _h => ?_) (fun _h => ?_))
    | (show heapOK _ _ = true; kernel_rfl)
    | (show heapOK2 _ _ = true; kernel_rfl)
    | (omega)))
  | true =>
    rw [hR] at hre
    obtain ⟨hb, h0⟩ := readyB_ok hR
    have ht := faultT_zero h0
    obtain ⟨hln1, hln2⟩ := ht.homes
    have hto := Town_c t hb
    have hpl := Plan_c t hb
    have hwl := hw.1
    by_cases hw0 : words.length = 0
    · have e0 : ((words.length : Int) = 0) = True := eq_true (by omega)
      simp only [slB, townC, slH, slL, slU] at hre ⊢
      (refine callS_of_awp (fun w args => Try.call9 ..) Try.func9 rfl (fun w0 m0 wz => ?_); simp only [Try.ntmps9, Try.results9, initT, junks, homeC, hallC, slH, slL, townC, sl, List.toList_toArray, List.cons_append, List.nil_append, List.length_cons, List.length_nil, Nat.reduceAdd, Nat.reduceSub])
      (repeat' (first
    | (refine awp_seqK ?_)
    | (refine kt ?_)
    | (refine And.intro ?_ ?_)
    | ((first | refine awp_region ?_ | refine awp_draw (by kernel_rfl) (by kernel_rfl) ?_ | refine Imp.le2 ?_ | refine awp_label ?_ | refine awp_skip ?_ | refine awp_exit ?_ | refine awp_cd ?_ | refine awp_ret ?_ | refine callK_of (hre) ?_ | refine callK_of (hA) ?_ | refine go_split (fun _h => ?_) (fun _h => ?_)) <;> try simp (maxSteps := 4000000) only [go_sem, seval, e0, decide_true])
    | (intro _h)
    | (refine awp_block ?_)
    | (refine awp_scope ?_)
    | (refine cond_b (fun _h => ?_) (fun _h => ?_))
    | (show heapOK _ _ = true; kernel_rfl)
    | (show heapOK2 _ _ = true; kernel_rfl)
    | (omega)))
    · have e0 : ((words.length : Int) = 0) = False := eq_false (by omega)
      by_cases hE : planE t = 0
      · have hPL := planL_short h0
        have hbk := back_c (planL t) hPL
        have hpt := planTo_c (planL t) hPL
        have hrp := (plan_right h0 hE).1
        simp only [planV, hE, if_true] at hpl
        generalize planL t = P at *
        obtain ⟨A, hAe⟩ : ∃ A, A = tab t.homes.length (fun i => words.getD (i % words.length) 0) := ⟨_, rfl⟩
        have hAl : A.length = t.homes.length := by rw [hAe]; exact tab_length
        have hAg : ∀ i, i < t.homes.length → A.getD i 0 = words.getD (i % words.length) 0 := fun i hi => by rw [hAe, tab_getD hi]
        have hAb : ∀ i, i < t.homes.length → 0 ≤ A.getD i 0 ∧ A.getD i 0 ≤ 65535 := fun i hi => by
          rw [hAg i hi]; exact hw.at (Nat.mod_lt _ (by omega))
        obtain ⟨q, hq⟩ : ∃ q : Nat, q = at0.toNat % t.homes.length := ⟨_, rfl⟩
        have hqn : q < t.homes.length := by rw [hq]; exact Nat.mod_lt _ (by omega)
        have hqe : at0.tmod (t.homes.length : Int) = (q : Int) := by
          rw [hq, show at0 = ((at0.toNat : Nat) : Int) by omega]; exact tmod_nat
        obtain ⟨B, hBe⟩ : ∃ B, B = isp A q (A.getD q 0 + by0) := ⟨_, rfl⟩
        have hBl : B.length = t.homes.length := by rw [hBe, isp_length (by omega), hAl]
        have hBg : ∀ i, B.getD i 0 = if i = q then A.getD q 0 + by0 else A.getD i 0 := fun i => by rw [hBe, isp_getD (by omega)]
        have hAO : Opn t A := ⟨hAl, fun x hx => by obtain ⟨i, hi, rfl⟩ := mem_getD (d := 0) hx; have := hAb i (by omega); omega⟩
        have hBO : Opn t B := ⟨hBl, fun x hx => by
          obtain ⟨i, hi, rfl⟩ := mem_getD (d := 0) hx
          have h1 := hAb i (by omega)
          have h2 := hAb q hqn
          rw [hBg i]; split <;> omega⟩
        have r1 := Return_c t P A hb hPL (by omega)
        have r2 := Return_c t P B hb hPL (by omega)
        have f1 : retE t P A = 0 := by simp [retE, h0, hrp, hAO]
        have f2 : retE t P B = 0 := by simp [retE, h0, hrp, hBO]
        simp only [retV, f1, if_true] at r1
        simp only [retV, f2, if_true] at r2
        obtain ⟨bA, bM⟩ := back_ok (opens := A) ht hrp
        have bB := (back_ok (opens := B) ht hrp).1
        have bdA := back_bd (opens := A) ht hrp hAO
        have bM2 := bM B (fun h hh => by rw [hBg h]; split <;> (try omega); rename_i e; subst e; omega)
        have bAl := bA.len
        have bBl := bB.len
        have bAge := bA.ge
        have bAb := bA.bus
        obtain ⟨S, hSr, h8, _, _⟩ := rightB_some hrp
        have hG := (runI ht _ S hSr).bus
        generalize rOut t P A P.length = RA at *
        generalize rOut t P B P.length = RB at *
        have hli := list_c A (by omega)
        have hlo := listO_c A (by omega)
        have hst : ∀ k, k < t.homes.length → ints (tab k fun i => words.getD (i % words.length) 0) ++ [.int .i64 (words.getD (k % words.length) 0)] = ints (tab (k + 1) fun i => words.getD (i % words.length) 0) := fun k hk => by rw [tab_succ]; simp [ints_append, ints_cons, ints_nil]
        simp only [slB, townC, slH, slL, slU, sl, hAl, hBl, bAl, bBl] at hre hto hpl hbk hpt r1 r2 hli hlo ⊢
        (refine callS_of_awp (fun w args => Try.call9 ..) Try.func9 rfl (fun w0 m0 wz => ?_); simp only [Try.ntmps9, Try.results9, initT, junks, homeC, hallC, slH, slL, townC, sl, List.toList_toArray, List.cons_append, List.nil_append, List.length_cons, List.length_nil, Nat.reduceAdd, Nat.reduceSub])
        (repeat' (first
    | (refine awp_seqK ?_)
    | (refine kt ?_)
    | (refine And.intro ?_ ?_)
    | ((first | refine awp_region ?_ | refine awp_draw (by kernel_rfl) (by kernel_rfl) ?_ | refine Imp.le2 ?_ | refine awp_label ?_ | refine awp_skip ?_ | refine awp_exit ?_ | refine awp_cd ?_ | refine awp_ret ?_ | refine callK_of (hre) ?_ | refine callK_of (hto) ?_ | refine callK_of (hpl) ?_ | refine callK_of (hA) ?_ | refine go_split (fun _h => ?_) (fun _h => ?_)) <;> try simp (maxSteps := 4000000) only [go_sem, seval, e0, decide_false])
    | (intro _h)
    | (refine awp_block ?_)
    | (refine awp_scope ?_)
    | (refine cond_b (fun _h => ?_) (fun _h => ?_))
    | (show heapOK _ _ = true; kernel_rfl)
    | (show heapOK2 _ _ = true; kernel_rfl)
    | (omega)))
        (refine awp_adT 11 3 1 rfl ?_; simp only [adT, lset, hset, List.length_cons, List.length_nil, Nat.reduceAdd])
        refine awp_loopN t.homes.length (fun k => ⟨mkT 225 [(2, .int .u8 at0), (3, .int .u16 by0), (1, slU words), (4, .ptr 0 0 0), (9, slB P), (11, .osl 1 k 0 k), (12, .int .i64 k)], [some (.cells 27 1 0 (townC t)), some (.cells 3 1 k (ints (tab k fun i => words.getD (i % words.length) 0)))], []⟩) (.le2 ?_) ?_
        · simp only [townC, slH, slL, slB, sl, slU]; simp (maxSteps := 4000000) only [go_sem, seval]
          try (first | rfl | exact ⟨rfl, rfl⟩)
        · intro k hk
          have htl : (tab k fun i => words.getD (i % words.length) 0).length = k := tab_length
          rcases Nat.lt_or_eq_of_le hk with hk1 | hk1
          · have hml : k % words.length < words.length := Nat.mod_lt _ (by omega)
            have h1 := hw.at hml
            have em : ((k : Int)).tmod (words.length : Int) = ((k % words.length : Nat) : Int) := tmod_nat
            have hs := hst k hk1
            simp only [townC, slH, slL, slB, sl, slU]; simp (maxSteps := 4000000) only [go_sem, seval]
            (repeat' (first
    | ((exfalso; omega))
    | ((omega))
    | (refine awp_seqK ?_)
    | (refine kt ?_)
    | (refine And.intro ?_ ?_)
    | ((first | refine awp_region ?_ | refine awp_draw (by kernel_rfl) (by kernel_rfl) ?_ | refine Imp.le2 ?_ | refine awp_label ?_ | refine awp_skip ?_ | refine awp_exit ?_ | refine awp_cd ?_ | refine awp_ret ?_ | refine go_split (fun _h => ?_) (fun _h => ?_)) <;> try simp (maxSteps := 4000000) only [go_sem, seval, em, htl, hs])
    | (intro _h)
    | (refine awp_block ?_)
    | (refine awp_scope ?_)
    | (refine cond_b (fun _h => ?_) (fun _h => ?_))
    | (show heapOK _ _ = true; kernel_rfl)
    | (show heapOK2 _ _ = true; kernel_rfl)
    | (omega)))
            all_goals trace_state
          · subst hk1
            rw [← hAe]
            have hqA : A.getD q 0 = A.getD q 0 := rfl
            have hAbq := hAb q hqn
            have hBe2 : isp A q (A.getD q 0 + by0) = B := hBe.symm
            simp only [townC, slH, slL, slB, sl, slU]; simp (maxSteps := 4000000) only [go_sem, seval]
            (repeat' (first
    | (refine awp_frz (c := .region 11 _ _) 1 rfl (by simp (maxSteps := 4000000) only [go_sem, seval, hAl, hBl, bAl, bBl, hqe, hBe2]) (fun _ => rfl) ?_; simp only [frz, fzl, fz2, fz1, fz0, fzH, fzHs, fzO, fzB, List.map_cons, List.map_nil, if_true, if_false, reduceIte, Nat.reduceEqDiff, Nat.reduceAdd, Nat.succ_ne_self, Nat.zero_ne_one, Nat.one_ne_zero, reduceCtorEq, and_self])
    | (refine awp_frz (c := .region 14 _ _) 2 rfl (by simp (maxSteps := 4000000) only [go_sem, seval, hAl, hBl, bAl, bBl, hqe, hBe2]) (fun _ => rfl) ?_; simp only [frz, fzl, fz2, fz1, fz0, fzH, fzHs, fzO, fzB, List.map_cons, List.map_nil, if_true, if_false, reduceIte, Nat.reduceEqDiff, Nat.reduceAdd, Nat.succ_ne_self, Nat.zero_ne_one, Nat.one_ne_zero, reduceCtorEq, and_self])
    | (refine awp_ownN (id := 12) 1 rfl ?_; simp (maxSteps := 4000000) only [go_sem, seval, List.take_succ_cons, List.take_zero, hAl, hBl, bAl, bBl, hqe, hBe2])
    | (refine own_go (hlo) [] rfl ?_ ?_ rfl ?_ <;> try simp (maxSteps := 4000000) only [go_sem, seval, Nat.lt_irrefl, hAl, hBl, bAl, bBl, hqe, hBe2] <;> try decide)
    | ((exfalso; omega))
    | ((omega))
    | (refine awp_seqK ?_)
    | (refine kt ?_)
    | (refine And.intro ?_ ?_)
    | ((first | refine awp_region ?_ | refine awp_draw (by kernel_rfl) (by kernel_rfl) ?_ | refine Imp.le2 ?_ | refine awp_label ?_ | refine awp_skip ?_ | refine awp_exit ?_ | refine awp_cd ?_ | refine awp_ret ?_ | refine callK_of (hto) ?_ | refine callK_of (hbk) ?_ | refine callK_of (hpt) ?_ | refine callK_of (hli) ?_ | refine callK_of (r1) ?_ | refine callK_of (r2) ?_ | refine go_split (fun _h => ?_) (fun _h => ?_)) <;> try simp (maxSteps := 4000000) only [go_sem, seval, hAl, hBl, bAl, bBl, hqe, hBe2])
    | (intro _h)
    | (refine awp_block ?_)
    | (refine awp_scope ?_)
    | (refine cond_b (fun _h => ?_) (fun _h => ?_))
    | (show heapOK _ _ = true; kernel_rfl)
    | (show heapOK2 _ _ = true; kernel_rfl)
    | (omega)))
            refine awp_loopN t.homes.length (fun h => ⟨mkT 225 [(4, .ptr 0 0 0), (9, slB P), (11, .psl false t.homes.length (ints A)), (13, .psl false t.homes.length (ints RA)), (16, .psl false t.homes.length (ints RB)), (18, .int .i64 h)], [some (.cells 27 1 0 (townC t))], []⟩) (.le2 ?_) ?_
            · simp only [townC, slH, slL, slB, sl, slU]; simp (maxSteps := 4000000) only [go_sem, seval]
              try (first | rfl | exact ⟨rfl, rfl⟩)
            · intro h hh
              rcases Nat.lt_or_eq_of_le hh with hh1 | hh1
              · have z1 := bAge h hh1
                have z2 := bM2 h hh1
                have z3 := hAb h hh1
                have z4 := (ht.home h hh1).walk
                have e1 : (RA.getD h 0 < A.getD h 0 + (t.homes.getD h default).walk) = False := eq_false (by omega)
                have e2 : (RB.getD h 0 < RA.getD h 0) = False := eq_false (by omega)
                simp only [townC, slH, slL, slB, sl, slU]; simp (maxSteps := 4000000) only [go_sem, seval]
                (repeat' (first
    | ((exfalso; omega))
    | ((omega))
    | (refine awp_seqK ?_)
    | (refine kt ?_)
    | (refine And.intro ?_ ?_)
    | ((first | refine awp_region ?_ | refine awp_draw (by kernel_rfl) (by kernel_rfl) ?_ | refine Imp.le2 ?_ | refine awp_label ?_ | refine awp_skip ?_ | refine awp_exit ?_ | refine awp_cd ?_ | refine awp_ret ?_ | refine go_split (fun _h => ?_) (fun _h => ?_)) <;> try simp (maxSteps := 4000000) only [go_sem, seval, e1, e2, hAl, bAl, bBl, decide_false])
    | (intro _h)
    | (refine awp_block ?_)
    | (refine awp_scope ?_)
    | (refine cond_b (fun _h => ?_) (fun _h => ?_))
    | (show heapOK _ _ = true; kernel_rfl)
    | (show heapOK2 _ _ = true; kernel_rfl)
    | (omega)))
                all_goals trace_state
              · subst hh1
                simp only [townC, slH, slL, slB, sl, slU]; simp (maxSteps := 4000000) only [go_sem, seval]
                (repeat' (first
    | ((exfalso; omega))
    | (refine awp_seqK ?_)
    | (refine kt ?_)
    | (refine And.intro ?_ ?_)
    | ((first | refine awp_region ?_ | refine awp_draw (by kernel_rfl) (by kernel_rfl) ?_ | refine Imp.le2 ?_ | refine awp_label ?_ | refine awp_skip ?_ | refine awp_exit ?_ | refine awp_cd ?_ | refine awp_ret ?_ | refine go_split (fun _h => ?_) (fun _h => ?_)) <;> try simp (maxSteps := 4000000) only [go_sem, seval])
    | (intro _h)
    | (refine awp_block ?_)
    | (refine awp_scope ?_)
    | (refine cond_b (fun _h => ?_) (fun _h => ?_))
    | (show heapOK _ _ = true; kernel_rfl)
    | (show heapOK2 _ _ = true; kernel_rfl)
    | (omega)))
                refine awp_loopN P.length (fun i => ⟨mkT 225 [(4, .ptr 0 0 0), (9, slB P), (13, .psl false t.homes.length (ints RA)), (19, .int .i64 i)], [some (.cells 27 1 0 (townC t))], []⟩) (.le2 ?_) ?_
                · simp only [townC, slH, slL, slB, sl, slU]; simp (maxSteps := 4000000) only [go_sem, seval]
                  try (first | rfl | exact ⟨rfl, rfl⟩)
                · intro i hi
                  rcases Nat.lt_or_eq_of_le hi with hi1 | hi1
                  · obtain ⟨hGi, hnd⟩ := hG i hi1
                    obtain ⟨c, hc⟩ := bAb i hi1
                    obtain ⟨b, hb2⟩ : ∃ b, P.getD i default = b := ⟨_, rfl⟩
                    rw [hb2] at hGi hc hnd
                    have hbm := hGi.homes
                    have hbl := nodup_le _ _ hnd hbm
                    have hne := List.length_pos_iff.2 hGi.some
                    simp only [townC, slH, slL, slB, sl, slU]; simp (maxSteps := 4000000) only [go_sem, seval]
                    (repeat' (first
    | ((exfalso; omega))
    | (refine awp_seqK ?_)
    | (refine kt ?_)
    | (refine And.intro ?_ ?_)
    | ((first | refine awp_region ?_ | refine awp_draw (by kernel_rfl) (by kernel_rfl) ?_ | refine Imp.le2 ?_ | refine awp_label ?_ | refine awp_skip ?_ | refine awp_exit ?_ | refine awp_cd ?_ | refine awp_ret ?_ | refine go_split (fun _h => ?_) (fun _h => ?_)) <;> try simp (maxSteps := 4000000) only [go_sem, seval])
    | (intro _h)
    | (refine awp_block ?_)
    | (refine awp_scope ?_)
    | (refine cond_b (fun _h => ?_) (fun _h => ?_))
    | (show heapOK _ _ = true; kernel_rfl)
    | (show heapOK2 _ _ = true; kernel_rfl)
    | (omega)))
                    refine awp_loopN (b.homes.length - 1) (fun k => ⟨mkT 225 [(4, .ptr 0 0 0), (9, slB P), (13, .psl false t.homes.length (ints RA)), (19, .int .i64 i), (20, .int .i64 ((k : Int) + 1))], [some (.cells 27 1 0 (townC t))], []⟩) (.le2 ?_) ?_
                    · simp only [townC, slH, slL, slB, sl, slU]; simp (maxSteps := 4000000) only [go_sem, seval]
                      try (first | rfl | exact ⟨rfl, rfl⟩)
                    · intro k hk
                      rcases Nat.lt_or_eq_of_le hk with hk1 | hk1
                      · have hx1 := hbm _ (getD_mem (d := 0) (i := k) (by omega))
                        have hx2 := hbm _ (getD_mem (d := 0) (i := k + 1) (by omega))
                        have c1 := hc _ (getD_mem (d := 0) (i := k) (by omega))
                        have c2 := hc _ (getD_mem (d := 0) (i := k + 1) (by omega))
                        have d1 := bdA (b.homes.getD k 0).toNat (by omega)
                        have d2 := bdA (b.homes.getD (k + 1) 0).toNat (by omega)
                        have w1 := (ht.home (b.homes.getD k 0).toNat (by omega)).walk
                        have w2 := (ht.home (b.homes.getD (k + 1) 0).toNat (by omega)).walk
                        have ek : (k : Int) + 1 - 1 = k := by omega
                        have ek2 : ((k : Int) + 1).toNat = k + 1 := by omega
                        have ek3 : (k : Int).toNat = k := by omega
                        have eI1 : (0 ≤ b.homes.getD k 0 ∧ b.homes.getD k 0 ≤ (t.homes.length : Int) - 1) = True := eq_true (by omega)
                        have eI2 : (0 ≤ b.homes.getD (k + 1) 0 ∧ b.homes.getD (k + 1) 0 ≤ (t.homes.length : Int) - 1) = True := eq_true (by omega)
                        have eE : (RA.getD (b.homes.getD k 0).toNat 0 - (t.homes.getD (b.homes.getD k 0).toNat default).walk = RA.getD (b.homes.getD (k + 1) 0).toNat 0 - (t.homes.getD (b.homes.getD (k + 1) 0).toNat default).walk) = True := eq_true (by omega)
                        simp only [townC, slH, slL, slB, sl, slU]; simp (maxSteps := 4000000) only [go_sem, seval]
                        (repeat' (first
    | ((exfalso; omega))
    | ((omega))
    | (refine awp_seqK ?_)
    | (refine kt ?_)
    | (refine And.intro ?_ ?_)
    | ((first | refine awp_region ?_ | refine awp_draw (by kernel_rfl) (by kernel_rfl) ?_ | refine Imp.le2 ?_ | refine awp_label ?_ | refine awp_skip ?_ | refine awp_exit ?_ | refine awp_cd ?_ | refine awp_ret ?_ | refine callK_of (in_c _ _ _) ?_ | refine go_split (fun _h => ?_) (fun _h => ?_)) <;> try simp (maxSteps := 4000000) only [go_sem, seval, hb2, sl, ek, ek2, ek3, eI1, eI2, eE, bAl, decide_true, Bool.not_true])
    | (intro _h)
    | (refine awp_block ?_)
    | (refine awp_scope ?_)
    | (refine cond_b (fun _h => ?_) (fun _h => ?_))
    | (show heapOK _ _ = true; kernel_rfl)
    | (show heapOK2 _ _ = true; kernel_rfl)
    | (omega)))
                        all_goals trace_state
                      · simp only [townC, slH, slL, slB, sl, slU]; simp (maxSteps := 4000000) only [go_sem, seval]
                        (repeat' (first
    | ((exfalso; omega))
    | ((omega))
    | (refine awp_seqK ?_)
    | (refine kt ?_)
    | (refine And.intro ?_ ?_)
    | ((first | refine awp_region ?_ | refine awp_draw (by kernel_rfl) (by kernel_rfl) ?_ | refine Imp.le2 ?_ | refine awp_label ?_ | refine awp_skip ?_ | refine awp_exit ?_ | refine awp_cd ?_ | refine awp_ret ?_ | refine go_split (fun _h => ?_) (fun _h => ?_)) <;> try simp (maxSteps := 4000000) only [go_sem, seval, hb2, sl])
    | (intro _h)
    | (refine awp_block ?_)
    | (refine awp_scope ?_)
    | (refine cond_b (fun _h => ?_) (fun _h => ?_))
    | (show heapOK _ _ = true; kernel_rfl)
    | (show heapOK2 _ _ = true; kernel_rfl)
    | (omega)))
                        all_goals trace_state
                  · subst hi1
                    simp only [townC, slH, slL, slB, sl, slU]; simp (maxSteps := 4000000) only [go_sem, seval]
                    (repeat' (first
    | ((exfalso; omega))
    | (refine awp_seqK ?_)
    | (refine kt ?_)
    | (refine And.intro ?_ ?_)
    | ((first | refine awp_region ?_ | refine awp_draw (by kernel_rfl) (by kernel_rfl) ?_ | refine Imp.le2 ?_ | refine awp_label ?_ | refine awp_skip ?_ | refine awp_exit ?_ | refine awp_cd ?_ | refine awp_ret ?_ | refine callK_of (hA) ?_ | refine go_split (fun _h => ?_) (fun _h => ?_)) <;> try simp (maxSteps := 4000000) only [go_sem, seval])
    | (intro _h)
    | (refine awp_block ?_)
    | (refine awp_scope ?_)
    | (refine cond_b (fun _h => ?_) (fun _h => ?_))
    | (show heapOK _ _ = true; kernel_rfl)
    | (show heapOK2 _ _ = true; kernel_rfl)
    | (omega)))
                    all_goals trace_state
      · have hE2 : planE t = 9 := by
          rw [planE_few h0] at hE ⊢
          split at hE
          · rename_i h; rw [if_pos h]
          · exact absurd rfl hE
        have e4 : planV t = .nils := by simp [planV, hE2]
        rw [hE2, e4] at hpl
        simp only [slB, townC, slH, slL, slU, sl] at hre hto hpl ⊢
        (refine callS_of_awp (fun w args => Try.call9 ..) Try.func9 rfl (fun w0 m0 wz => ?_); simp only [Try.ntmps9, Try.results9, initT, junks, homeC, hallC, slH, slL, townC, sl, List.toList_toArray, List.cons_append, List.nil_append, List.length_cons, List.length_nil, Nat.reduceAdd, Nat.reduceSub])
        (repeat' (first
    | ((exfalso; omega))
    | (refine awp_seqK ?_)
    | (refine kt ?_)
    | (refine And.intro ?_ ?_)
    | ((first | refine awp_region ?_ | refine awp_draw (by kernel_rfl) (by kernel_rfl) ?_ | refine Imp.le2 ?_ | refine awp_label ?_ | refine awp_skip ?_ | refine awp_exit ?_ | refine awp_cd ?_ | refine awp_ret ?_ | refine callK_of (hre) ?_ | refine callK_of (hto) ?_ | refine callK_of (hpl) ?_ | refine callK_of (hA) ?_ | refine go_split (fun _h => ?_) (fun _h => ?_)) <;> try simp (maxSteps := 4000000) only [go_sem, seval, e0, decide_false])
    | (intro _h)
    | (refine awp_block ?_)
    | (refine awp_scope ?_)
    | (refine cond_b (fun _h => ?_) (fun _h => ?_))
    | (show heapOK _ _ = true; kernel_rfl)
    | (show heapOK2 _ _ = true; kernel_rfl)
    | (omega)))
        all_goals trace_state
end Go.Am
