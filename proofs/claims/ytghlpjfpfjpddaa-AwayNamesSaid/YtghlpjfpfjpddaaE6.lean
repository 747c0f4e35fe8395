/- Parts TiA, TiB, TjA, TjB, TjC, TjD, TjE, TkA, TkB of the proof, one behind the other. No statement is proved here. -/
import Derived.Test.YtghlpjfpfjpddaaE2
import Derived.Test.YtghlpjfpfjpddaaE3
import Derived.Test.YtghlpjfpfjpddaaN4
/- Contracts of the away functions: whether a plan is right. -/
namespace Go.Am
open Go.RowKit Go.Proofs
attribute [local irreducible] AWP CallS Kt goK CallK stepK evOps SemF SemY Imp
set_option maxRecDepth 4000
set_option linter.unusedSimpArgs false
set_option linter.unusedVariables false
set_option maxHeartbeats 3200000

theorem eqB {K : AV → Prop} {x y : Bool} : binK Try.prog .eql 4 (.bool x) (.bool y) K = K (.bool (decide (x = y))) := by
  have h : Try.prog.underlying 4 = some .bool := Try.underlying4
  simp only [binK, h, true_and]
  congr 2
attribute [go_sem high] eqB
theorem ld_B48 {l : List Bus} {i : Nat} {K : AV → Prop} : loadK Try.prog 48 (recs busC l) (i * 3) K = (i < l.length ∧ K (.agg (busC (l.getD i default)))) := ld_recs tagg48 tsz48 (fun _ => rfl) (by omega)
theorem ld_B49 {l : List Bus} {i : Nat} {K : AV → Prop} : loadK Try.prog 49 (recs busC l) (i * 3) K = (i < l.length ∧ K (.agg (busC (l.getD i default)))) := ld_recs tagg49 tsz49 (fun _ => rfl) (by omega)
attribute [go_sem ↓] ld_B48 ld_B49

theorem rl_bools {σ : Nat → Nat} {l : List Bool} : renL σ (bools l) = bools l := by
  rw [renL_map, bools, List.map_map]
  exact List.map_congr_left fun a _ => rfl
theorem rfl_bools {p : Nat → Prop} : ∀ {l : List Bool}, refsL p (bools l) = True
  | [] => by simp [bools, refsL]
  | b :: l => by
    have := rfl_bools (p := p) (l := l)
    simp only [bools] at this
    simp [bools, refsL, refs, this]
attribute [go_sem] rl_bools rfl_bools
theorem idxF_c (l : List Bool) (g : Nat) (hl : l.length ≤ 1000000) : SemF Try.prog 101 [.osl 0 g 0 l.length, .bool false] [some (.cells 4 1 g (bools l))] (.int .i64 (idxOf (fun x => !x) l)) [some (.cells 4 1 g (bools l))] := by
  (refine semF_of_awp (ys := [.int .i64 (idxOf (fun x => !x) l)]) (fun w args => Try.call101 ..) Try.func101 rfl (fun w0 m0 wz => ?_); simp only [Try.ntmps101, Try.results101, initT, junks, homeC, hallC, slH, slL, townC, sl, List.toList_toArray, List.cons_append, List.nil_append, List.length_cons, List.length_nil, Nat.reduceAdd, Nat.reduceSub])
  (repeat' (first
    | (refine awp_seqK ?_)
    | (refine kt ?_)
    | (refine And.intro ?_ ?_)
    | ((first | refine awp_region ?_ | refine awp_draw (by kernel_rfl) (by kernel_rfl) ?_ | refine Imp.le2 ?_ | refine awp_label ?_ | refine awp_skip ?_ | refine awp_exit ?_ | refine awp_cd ?_ | refine awp_ret ?_ | refine go_split (fun _h => ?_) (fun _h => ?_)) <;> try simp (maxSteps := 4000000) only [go_sem, seval])
    | (intro _h)
    | (refine awp_block ?_)
    | (refine awp_scope ?_)
    | (refine cond_b (fun _h => ?_) (fun _h => ?_))
    | (show heapOK _ _ = true; kernel_rfl)
    | (show heapOK2 _ _ = true; kernel_rfl)
    | (omega)))
  refine awp_loopJ (fun i : Nat => i ≤ l.length ∧ ∀ j, j < i → (!l.getD j false) = false) (fun i => ⟨mkT 19 [(0, .osl 0 g 0 l.length), (1, .bool false), (6, .osl 0 g 0 l.length), (7, .int .i64 l.length), (8, .int .i64 i)], [some (.cells 4 1 g (bools l))], []⟩) (fun i => l.length - i) 0 ⟨Nat.zero_le _, by simp⟩ (.le2 ?_) ?_
  · simp (maxSteps := 4000000) only [go_sem, seval]
  · rintro i ⟨hi, hj⟩
    rcases Nat.lt_or_eq_of_le hi with hi1 | hi1
    · cases hb : l.getD i false
      · simp (maxSteps := 4000000) only [go_sem, seval]
        (repeat' (first
    | ((exfalso; omega))
    | ((omega))
    | (refine awp_seqK ?_)
    | (refine kt ?_)
    | (refine And.intro ?_ ?_)
    | ((first | refine awp_region ?_ | refine awp_draw (by kernel_rfl) (by kernel_rfl) ?_ | refine Imp.le2 ?_ | refine awp_label ?_ | refine awp_skip ?_ | refine awp_exit ?_ | refine awp_cd ?_ | refine awp_ret ?_ | refine go_split (fun _h => ?_) (fun _h => ?_)) <;> try simp (maxSteps := 4000000) only [go_sem, seval, hb, Bool.false_eq_true, decide_true, decide_false])
    | (intro _h)
    | (refine awp_block ?_)
    | (refine awp_scope ?_)
    | (refine cond_b (fun _h => ?_) (fun _h => ?_))
    | (show heapOK _ _ = true; kernel_rfl)
    | (show heapOK2 _ _ = true; kernel_rfl)
    | (omega)))
        all_goals first
          | exact idxOf_some (d := false) hi1 (by rw [hb]; rfl) hj
          | trace_state
      · simp (maxSteps := 4000000) only [go_sem, seval]
        (repeat' (first
    | ((exfalso; omega))
    | ((omega))
    | (refine awp_seqK ?_)
    | (refine kt ?_)
    | (refine And.intro ?_ ?_)
    | ((first | refine awp_region ?_ | refine awp_draw (by kernel_rfl) (by kernel_rfl) ?_ | refine Imp.le2 ?_ | refine awp_label ?_ | refine awp_skip ?_ | refine awp_exit ?_ | refine awp_cd ?_ | refine awp_ret ?_ | refine go_split (fun _h => ?_) (fun _h => ?_)) <;> try simp (maxSteps := 4000000) only [go_sem, seval, hb, Bool.false_eq_true, decide_true, decide_false])
    | (intro _h)
    | (refine awp_block ?_)
    | (refine awp_scope ?_)
    | (refine cond_b (fun _h => ?_) (fun _h => ?_))
    | (show heapOK _ _ = true; kernel_rfl)
    | (show heapOK2 _ _ = true; kernel_rfl)
    | (omega)))
        all_goals first
          | (refine ⟨i + 1, ⟨by omega, fun j hji => ?_⟩, by omega, .le2 ?_⟩
             · rcases Nat.lt_succ_iff_lt_or_eq.1 hji with h | rfl
               · exact hj j h
               · rw [hb]; rfl
             · simp (maxSteps := 4000000) only [go_sem, seval]
               try omega)
          | trace_state
    · simp (maxSteps := 4000000) only [go_sem, seval]
      (repeat' (first
    | ((exfalso; omega))
    | ((omega))
    | (refine awp_seqK ?_)
    | (refine kt ?_)
    | (refine And.intro ?_ ?_)
    | ((first | refine awp_region ?_ | refine awp_draw (by kernel_rfl) (by kernel_rfl) ?_ | refine Imp.le2 ?_ | refine awp_label ?_ | refine awp_skip ?_ | refine awp_exit ?_ | refine awp_cd ?_ | refine awp_ret ?_ | refine go_split (fun _h => ?_) (fun _h => ?_)) <;> try simp (maxSteps := 4000000) only [go_sem, seval])
    | (intro _h)
    | (refine awp_block ?_)
    | (refine awp_scope ?_)
    | (refine cond_b (fun _h => ?_) (fun _h => ?_))
    | (show heapOK _ _ = true; kernel_rfl)
    | (show heapOK2 _ _ = true; kernel_rfl)
    | (omega)))
      all_goals first
        | exact idxOf_none (d := false) (fun j hjl => hj j (by omega))
        | trace_state
theorem contF_c (l : List Bool) (g : Nat) (hl : l.length ≤ 1000000) : SemF Try.prog 80 [.osl 0 g 0 l.length, .bool false] [some (.cells 4 1 g (bools l))] (.bool (l.any fun x => !x)) [some (.cells 4 1 g (bools l))] := by
  have h := idxF_c l g hl
  rw [← idxOf_ge]
  (refine semF_of_awp (ys := [.bool (decide (0 ≤ idxOf (fun x => !x) l))]) (fun w args => Try.call80 ..) Try.func80 rfl (fun w0 m0 wz => ?_); simp only [Try.ntmps80, Try.results80, initT, junks, homeC, hallC, slH, slL, townC, sl, List.toList_toArray, List.cons_append, List.nil_append, List.length_cons, List.length_nil, Nat.reduceAdd, Nat.reduceSub])
  (repeat' (first
    | (refine awp_ownN 2 rfl ?_; simp (maxSteps := 4000000) only [go_sem, seval, List.take_succ_cons, List.take_zero]; (repeat refine And.intro (by omega) ?_); refine own_go (h) [0] rfl ?_ ?_ rfl ?_ <;> try simp (maxSteps := 4000000) only [go_sem, seval, Nat.lt_irrefl] <;> try decide)
    | (refine awp_seqK ?_)
    | (refine kt ?_)
    | (refine And.intro ?_ ?_)
    | ((first | refine awp_region ?_ | refine awp_draw (by kernel_rfl) (by kernel_rfl) ?_ | refine Imp.le2 ?_ | refine awp_label ?_ | refine awp_skip ?_ | refine awp_exit ?_ | refine awp_cd ?_ | refine awp_ret ?_ | refine go_split (fun _h => ?_) (fun _h => ?_)) <;> try simp (maxSteps := 4000000) only [go_sem, seval])
    | (intro _h)
    | (refine awp_block ?_)
    | (refine awp_scope ?_)
    | (refine cond_b (fun _h => ?_) (fun _h => ?_))
    | (show heapOK _ _ = true; kernel_rfl)
    | (show heapOK2 _ _ = true; kernel_rfl)
    | (omega)))
  all_goals first
    | exact (decide_eq_true ‹_›).symm
    | exact (decide_eq_false ‹_›).symm

/-- What is looked at of a bus alone. -/
structure BusG (t : Town) (b : Bus) : Prop where
  leave : 0 ≤ b.leave ∧ b.leave ≤ 10000
  hall : 0 ≤ b.hall ∧ b.hall ≤ t.halls.length - 1
  some : b.homes ≠ []
  homes : ∀ x ∈ b.homes, 0 ≤ x ∧ x < t.homes.length
  may : mayB t b = true
def markN (l : List Int) (I : List Bool) : Nat → Option (List Bool)
  | 0 => some I
  | k + 1 => match markN l I k with
    | none => none
    | some J => if J.getD (l.getD k 0).toNat false = true ∨ (0 < k ∧ l.getD k 0 ≤ l.getD (k - 1) 0) then none else some (isp J (l.getD k 0).toNat true)
open Classical in
noncomputable def busN (t : Town) (b : Bus) (S : List Bool × List Int) : Option (List Bool × List Int) :=
  if BusG t b then (match markN b.homes S.1 b.homes.length with
    | none => none
    | some J => some (J, isp S.2 b.hall.toNat (S.2.getD b.hall.toNat 0 + ppl t b.homes))) else none
noncomputable def runN (t : Town) (plan : List Bus) : Nat → Option (List Bool × List Int)
  | 0 => some (tab t.homes.length fun _ => false, tab t.halls.length fun _ => 0)
  | k + 1 => match runN t plan k with
    | none => none
    | some S => busN t (plan.getD k default) S
open Classical in
noncomputable def rightB (t : Town) (plan : List Bus) : Bool := match runN t plan plan.length with
  | none => false
  | some S => decide (plan.length ≤ 8 ∧ (∀ i, i < t.halls.length → S.2.getD i 0 ≤ (t.halls.getD i default).room)) && !(S.1.any fun x => !x)
theorem markN_length {l : List Int} {I J : List Bool} {n : Nat} (hI : I.length = n) (hl : ∀ x ∈ l, 0 ≤ x ∧ x < n) : ∀ k, k ≤ l.length → markN l I k = some J → J.length = n
  | 0, _, h => by simp only [markN, Option.some.injEq] at h; rw [← h]; exact hI
  | k + 1, hk, h => by
    simp only [markN] at h
    split at h
    · cases h
    · rename_i J' hJ'
      split at h
      · cases h
      · simp only [Option.some.injEq] at h
        have h1 := markN_length hI hl k (by omega) hJ'
        have h2 := hl _ (getD_mem (d := 0) (i := k) (by omega))
        rw [← h, isp_length (by omega), h1]
theorem runN_length {t : Town} {plan : List Bus} (ht : TownOK t) : ∀ k S, runN t plan k = some S → S.1.length = t.homes.length ∧ S.2.length = t.halls.length ∧ ∀ i, i < t.halls.length → 0 ≤ S.2.getD i 0 ∧ S.2.getD i 0 ≤ 200 * k
  | 0, S, h => by
    simp only [runN, Option.some.injEq] at h
    rw [← h]
    refine ⟨tab_length, tab_length, fun i hi => ?_⟩
    simp only [tab_getD hi]; omega
  | k + 1, S, h => by
    simp only [runN] at h
    split at h
    · cases h
    · rename_i S' hS'
      obtain ⟨h1, h2, h3⟩ := runN_length ht k S' hS'
      unfold busN at h
      split at h
      · rename_i hG
        split at h
        · cases h
        · rename_i J hJ
          simp only [Option.some.injEq] at h
          rw [← h]
          have hl := markN_length h1 hG.homes _ (Nat.le_refl _) hJ
          have hh := hG.hall
          have hm := hG.may
          simp only [mayB, Bool.and_eq_true, decide_eq_true_eq] at hm
          have hs := ht.seats
          have hp := pplL_bd ht hG.homes _ (Nat.le_refl _)
          have hpp : 0 ≤ ppl t (plan.getD k default).homes := hp.1
          refine ⟨hl, by rw [isp_length (by omega), h2], fun i hi => ?_⟩
          rw [isp_getD (by omega)]
          have h4 := h3 i hi
          have h5 := h3 (plan.getD k default).hall.toNat (by omega)
          split <;> omega
      · cases h
end Go.Am

/- Contracts of the away functions: whether a plan is right, walked. -/
namespace Go.Am
open Go.RowKit Go.Proofs
attribute [local irreducible] AWP CallS Kt goK CallK stepK evOps SemF SemY Imp
set_option maxRecDepth 4000
set_option linter.unusedSimpArgs false
set_option linter.unusedVariables false
set_option maxHeartbeats 3200000

theorem go_keep {P : Program} {all : Array Oper} {d : Option Tmp} {os : List Oper} {T : List AV} {H : List (Option ABlk)} {D : List Nat} {tr : List E} {K : St → List E → Prop} (b : Bool) {rd : List Nat}
    (h : evOps P all os ⟨lseto T d (.bool b), H, D⟩ (tr ++ [⟨.bool b, rd, none⟩]) K) : goK P all d os T H D tr K (.bool b) rd := by
  cases b
  · rw [go_false]; exact h
  · rw [go_true]; exact h
def rgH (t : Town) (K : Kmap) (I : List Bool) (R : List Int) : List (Option ABlk) := [plB t 1, some (.map (kmC K)), some (.cells 4 1 0 (bools I)), some (.cells 3 1 0 (ints R))]
theorem markN_none {l : List Int} {I : List Bool} {k : Nat} (h : markN l I k = none) : ∀ d, markN l I (k + d) = none
  | 0 => h
  | d + 1 => by rw [← Nat.add_assoc]; simp only [markN, markN_none h d]
theorem runN_none {t : Town} {plan : List Bus} {k : Nat} (h : runN t plan k = none) : ∀ d, runN t plan (k + d) = none
  | 0 => h
  | d + 1 => by rw [← Nat.add_assoc]; simp only [runN, runN_none h d]
def outJ (t : Town) (plan : List Bus) (g : Bool × List Bool × List Int) : Prop :=
  match runN t plan plan.length with
  | some S => g = (decide ((plan.length : Int) ≤ 8), S)
  | none => g.1 = false
theorem outJ_none {t : Town} {plan : List Bus} {I : List Bool} {R : List Int} (h : runN t plan plan.length = none) : outJ t plan (false, I, R) := by
  unfold outJ; rw [h]
def okR (t : Town) (R : List Int) (k : Nat) : Prop := ∀ i, i < k → R.getD i 0 ≤ (t.halls.getD i default).room
instance (t : Town) (R : List Int) (k : Nat) : Decidable (okR t R k) := inferInstanceAs (Decidable (∀ i, i < k → R.getD i 0 ≤ (t.halls.getD i default).room))
theorem right_out {t : Town} {plan : List Bus} {fine : Bool} {I : List Bool} {R : List Int} (h : outJ t plan (fine, I, R)) : rightB t plan = ((fine && decide (okR t R t.halls.length)) && !(I.any fun x => !x)) := by
  unfold outJ at h
  unfold rightB
  split at h
  · rename_i S hS
    rw [hS]
    simp only [Prod.mk.injEq] at h
    obtain ⟨rfl, rfl⟩ := h
    simp only [okR]
    congr 1
    rw [Bool.eq_iff_iff]
    simp only [Bool.and_eq_true, decide_eq_true_eq]
    constructor
    · rintro ⟨a, b⟩; exact ⟨by omega, decide_eq_true b⟩
    · rintro ⟨a, b⟩; exact ⟨by omega, of_decide_eq_true b⟩
  · rename_i hS
    rw [hS]
    simp only at h
    rw [h]; simp
theorem right_c (t : Town) (plan : List Bus) (K : Kmap) (ht : TownOK t) (hn : plan.length ≤ 1000000) (hh : ∀ b ∈ plan, b.homes.length ≤ 1000000) :
    SemF Try.prog 55 [.ptr 0 0 0, slB plan] [plB t 1, some (.map (kmC K))] (.bool (rightB t plan)) [plB t 1, some (.map (kmC K))] := by
  have hln := ht.homes
  have hhl := ht.halls
  simp only [plB, planC, busC, sl, slB, townC, slH, slL]
  obtain ⟨f0, hf0⟩ : ∃ f0, decide ((plan.length : Int) ≤ 8) = f0 := ⟨_, rfl⟩
  (refine semF_of_awp (ys := [.bool (rightB t plan)]) (fun w args => Try.call55 ..) Try.func55 rfl (fun w0 m0 wz => ?_); simp only [Try.ntmps55, Try.results55, initT, junks, homeC, hallC, slH, slL, townC, sl, List.toList_toArray, List.cons_append, List.nil_append, List.length_cons, List.length_nil, Nat.reduceAdd, Nat.reduceSub])
  (repeat' (first
    | ((refine go_keep f0 ?_; simp (maxSteps := 4000000) only [go_sem, seval]))
    | (refine awp_seqK ?_)
    | (refine kt ?_)
    | (refine And.intro ?_ ?_)
    | ((first | refine awp_region ?_ | refine awp_draw (by kernel_rfl) (by kernel_rfl) ?_ | refine Imp.le2 ?_ | refine awp_label ?_ | refine awp_skip ?_ | refine awp_exit ?_ | refine awp_cd ?_ | refine awp_ret ?_ | refine go_split (fun _h => ?_) (fun _h => ?_)) <;> try simp (maxSteps := 4000000) only [go_sem, seval, ↓rep_bools, ↓rep_ints, hf0])
    | (intro _h)
    | (refine awp_block ?_)
    | (refine awp_scope ?_)
    | (refine cond_b (fun _h => ?_) (fun _h => ?_))
    | (show heapOK _ _ = true; kernel_rfl)
    | (show heapOK2 _ _ = true; kernel_rfl)
    | (omega)))
  refine awp_cut 0 (γ := Bool × List Bool × List Int) (fun g => g.2.1.length = t.homes.length ∧ g.2.2.length = t.halls.length ∧ outJ t plan g) (fun g => ⟨mkT 146 [(0, .ptr 0 0 0), (5, .osl 2 0 0 t.homes.length), (6, .osl 3 0 0 t.halls.length), (7, .bool g.1)], rgH t K g.2.1 g.2.2, []⟩) ?_ ?_
  · refine awp_loopJ (fun x : Nat × List Bool × List Int => x.1 ≤ plan.length ∧ runN t plan x.1 = some x.2) (fun x => ⟨mkT 146 [(0, .ptr 0 0 0), (1, slB plan), (5, .osl 2 0 0 t.homes.length), (6, .osl 3 0 0 t.halls.length), (7, .bool f0), (31, slB plan), (32, .int .i64 plan.length), (33, .int .i64 x.1)], rgH t K x.2.1 x.2.2, []⟩) (fun x => plan.length - x.1) (0, tab t.homes.length (fun _ => false), tab t.halls.length (fun _ => 0)) ⟨Nat.zero_le _, rfl⟩ (.le2 ?_) ?_
    · simp only [rgH, plB, planC, busC, sl, slB, townC, slH, slL]; simp (maxSteps := 4000000) only [go_sem, seval]
      try (first | rfl | exact ⟨rfl, rfl⟩)
    · rintro ⟨k, I, R⟩ ⟨hk, hS⟩
      simp only at hk hS
      obtain ⟨hI, hR, hRb⟩ := runN_length ht k _ hS
      simp only at hI hR hRb
      rcases Nat.lt_or_eq_of_le hk with hk1 | hk1
      · have hnx : runN t plan (k + 1) = busN t (plan.getD k default) (I, R) := by simp only [runN, hS]
        have hno : busN t (plan.getD k default) (I, R) = none → ∀ J R', outJ t plan (false, J, R') := fun h J R' => by
          refine outJ_none ?_
          have := runN_none (hnx.trans h) (plan.length - (k + 1))
          rwa [show k + 1 + (plan.length - (k + 1)) = plan.length by omega] at this
        have hbl := hh _ (getD_mem (d := default) hk1)
        have hal := allB_home t (plan.getD k default).homes (fun x => decide (0 ≤ x ∧ x < t.homes.length)) hbl (fun i hi => home_c t _ (by omega))
        have hst : ∀ J, busN t (plan.getD k default) (I, R) = some J → runN t plan (k + 1) = some J := fun J h => hnx.trans h
        have hBG : BusG t (plan.getD k default) → busN t (plan.getD k default) (I, R) = (match markN (plan.getD k default).homes I (plan.getD k default).homes.length with
          | none => none
          | some J => some (J, isp R (plan.getD k default).hall.toNat (R.getD (plan.getD k default).hall.toNat 0 + ppl t (plan.getD k default).homes))) := fun h => by unfold busN; rw [if_pos h]; try rfl
        have hBN : ¬ BusG t (plan.getD k default) → busN t (plan.getD k default) (I, R) = none := fun h => by unfold busN; rw [if_neg h]
        clear hnx
        have e01 : ((0 : Nat) = 1) = False := eq_false (by decide)
        have e03 : ((0 : Nat) = 3) = False := eq_false (by decide)
        have e02 : ((0 : Nat) = 2) = False := eq_false (by decide)
        have e20 : ((2 : Nat) = 0) = False := eq_false (by decide)
        obtain ⟨b, hb⟩ : ∃ b, plan.getD k default = b := ⟨_, rfl⟩
        rw [hb] at hno hbl hal hst hBG hBN
        have hbad : ¬ BusG t b → ∀ J R', outJ t plan (false, J, R') := fun h => hno (hBN h)
        simp only [plB, planC, busC, sl, slB, townC, slH, slL] at hal
        by_cases c1 : 0 ≤ b.leave ∧ b.leave ≤ 10000
        · have e1 : (0 ≤ b.leave ∧ b.leave ≤ 10000) = True := eq_true c1
          by_cases c2 : 0 ≤ b.hall ∧ b.hall ≤ t.halls.length - 1
          · have e2 : (0 ≤ b.hall ∧ b.hall ≤ (t.halls.length : Int) - 1) = True := eq_true c2
            by_cases c3 : b.homes = []
            · have e3 : ((b.homes.length : Int) = 0) = True := eq_true (by rw [c3]; rfl)
              have hfail := hbad (fun h => h.some c3) I R
              simp only [rgH, plB, planC, busC, sl, slB, townC, slH, slL]; simp (maxSteps := 4000000) only [go_sem, seval]
              (repeat' (first
    | ((exfalso; omega))
    | (refine awp_seqK ?_)
    | (refine kt ?_)
    | (refine And.intro ?_ ?_)
    | ((first | refine awp_region ?_ | refine awp_draw (by kernel_rfl) (by kernel_rfl) ?_ | refine Imp.le2 ?_ | refine awp_label ?_ | refine awp_skip ?_ | refine awp_exit ?_ | refine awp_cd ?_ | refine awp_ret ?_ | refine callK_of (within_c _ _ _) ?_ | refine go_split (fun _h => ?_) (fun _h => ?_)) <;> try simp (maxSteps := 4000000) only [go_sem, seval, hb, busC, e1, e2, e3, decide_true, Bool.not_true, Bool.not_false])
    | (intro _h)
    | (refine awp_block ?_)
    | (refine awp_scope ?_)
    | (refine cond_b (fun _h => ?_) (fun _h => ?_))
    | (show heapOK _ _ = true; kernel_rfl)
    | (show heapOK2 _ _ = true; kernel_rfl)
    | (omega)))
              refine ⟨(false, I, R), ⟨hI, hR, hfail⟩, .le2 ?_⟩
              simp only [rgH, plB, planC, busC, sl, slB, townC, slH, slL]; simp (maxSteps := 4000000) only [go_sem, seval]
              try (first | rfl | exact ⟨rfl, rfl⟩)
            · have e3 : ((b.homes.length : Int) = 0) = False := eq_false (fun h => c3 (List.eq_nil_of_length_eq_zero (by omega)))
              cases c4 : (b.homes.all fun x => decide (0 ≤ x ∧ x < (t.homes.length : Int))) with
              | false =>
                have hfail := hbad (fun h => by
                  have : (b.homes.all fun x => decide (0 ≤ x ∧ x < (t.homes.length : Int))) = true := List.all_eq_true.2 fun x hx => decide_eq_true (h.homes x hx)
                  rw [c4] at this; cases this) I R
                rw [c4] at hal
                simp only [rgH, plB, planC, busC, sl, slB, townC, slH, slL]; simp (maxSteps := 4000000) only [go_sem, seval]
                (repeat' (first
    | ((exfalso; omega))
    | (refine awp_seqK ?_)
    | (refine kt ?_)
    | (refine And.intro ?_ ?_)
    | ((first | refine awp_region ?_ | refine Imp.le2 ?_ | refine awp_label ?_ | refine awp_skip ?_ | refine awp_exit ?_ | refine awp_cd ?_ | refine awp_ret ?_ | refine callK_of (within_c _ _ _) ?_ | refine go_split (fun _h => ?_) (fun _h => ?_)) <;> try simp (maxSteps := 4000000) only [go_sem, seval, hb, busC, e1, e2, e3, e01, if_false, decide_true, decide_false, Bool.not_true, Bool.not_false])
    | (intro _h)
    | (refine awp_block ?_)
    | (refine awp_scope ?_)
    | (refine cond_b (fun _h => ?_) (fun _h => ?_))
    | (show heapOK _ _ = true; kernel_rfl)
    | (show heapOK2 _ _ = true; kernel_rfl)
    | (omega)))
                ((repeat refine awp_seqK ?_); refine awp_draws [(31, []), (5, [])] (by kernel_rfl) (by kernel_rfl) ?_; simp (maxSteps := 4000000) only [go_sem, seval, sg_cons, sg_nil, List.take_succ_cons, List.take_zero, List.drop_succ_cons, List.drop_zero])
                (repeat' (first
    | ((exfalso; omega))
    | (refine awp_seqK ?_)
    | (refine kt ?_)
    | (refine And.intro ?_ ?_)
    | ((first | refine awp_region ?_ | refine Imp.le2 ?_ | refine awp_label ?_ | refine awp_skip ?_ | refine awp_exit ?_ | refine awp_cd ?_ | refine awp_ret ?_ | refine callK_of (within_c _ _ _) ?_ | refine go_split (fun _h => ?_) (fun _h => ?_)) <;> try simp (maxSteps := 4000000) only [go_sem, seval, hb, busC, e1, e2, e3, e01, if_false, decide_true, decide_false, Bool.not_true, Bool.not_false])
    | (intro _h)
    | (refine awp_block ?_)
    | (refine awp_scope ?_)
    | (refine cond_b (fun _h => ?_) (fun _h => ?_))
    | (show heapOK _ _ = true; kernel_rfl)
    | (show heapOK2 _ _ = true; kernel_rfl)
    | (omega)))
                (refine own_go (hal) [] rfl (by simp (maxSteps := 4000000) only [go_sem, seval]) (by simp (maxSteps := 4000000) only [go_sem, seval, Nat.lt_irrefl] <;> decide) rfl ?_; simp (maxSteps := 4000000) only [go_sem, seval]; refine And.intro (frm_of (by repeat (first | exact rfl | exact ⟨_, rfl⟩ | refine And.intro ?_ ?_))) ?_; try simp (maxSteps := 4000000) only [go_sem, seval, sg_cons, sg_nil, List.take_succ_cons, List.take_zero, List.drop_succ_cons, List.drop_zero])
                (repeat' (first
    | ((exfalso; omega))
    | (refine awp_seqK ?_)
    | (refine kt ?_)
    | (refine And.intro ?_ ?_)
    | ((first | refine awp_region ?_ | refine Imp.le2 ?_ | refine awp_label ?_ | refine awp_skip ?_ | refine awp_exit ?_ | refine awp_cd ?_ | refine awp_ret ?_ | refine callK_of (within_c _ _ _) ?_ | refine go_split (fun _h => ?_) (fun _h => ?_)) <;> try simp (maxSteps := 4000000) only [go_sem, seval, hb, busC, e1, e2, e3, e01, if_false, decide_true, decide_false, Bool.not_true, Bool.not_false])
    | (intro _h)
    | (refine awp_block ?_)
    | (refine awp_scope ?_)
    | (refine cond_b (fun _h => ?_) (fun _h => ?_))
    | (show heapOK _ _ = true; kernel_rfl)
    | (show heapOK2 _ _ = true; kernel_rfl)
    | (omega)))
                refine ⟨(false, I, R), ⟨hI, hR, hfail⟩, .le2 ?_⟩
                simp only [rgH, plB, planC, busC, sl, slB, townC, slH, slL]; simp (maxSteps := 4000000) only [go_sem, seval]
                try (first | rfl | exact ⟨rfl, rfl⟩)
              | true =>
                have c4' : ∀ x ∈ b.homes, 0 ≤ x ∧ x < t.homes.length := fun x hx => of_decide_eq_true (List.all_eq_true.1 c4 x hx)
                rw [c4] at hal
                have hbI : BusIn t b := ⟨c4', by omega, c1, hbl⟩
                have hma := may_c t b K ht hbI
                have hpe := people_c t b K ht c4' hbl
                simp only [plB, planC, busC, sl, slB, townC, slH, slL] at hma hpe
                cases c5 : mayB t b with
                | false =>
                  have hfail := hbad (fun h => by have := h.may; rw [c5] at this; cases this) I R
                  rw [c5] at hma
                  simp only [rgH, plB, planC, busC, sl, slB, townC, slH, slL]; simp (maxSteps := 4000000) only [go_sem, seval]
                  (repeat' (first
    | ((exfalso; omega))
    | (refine awp_seqK ?_)
    | (refine kt ?_)
    | (refine And.intro ?_ ?_)
    | ((first | refine awp_region ?_ | refine Imp.le2 ?_ | refine awp_label ?_ | refine awp_skip ?_ | refine awp_exit ?_ | refine awp_cd ?_ | refine awp_ret ?_ | refine callK_of (within_c _ _ _) ?_ | refine go_split (fun _h => ?_) (fun _h => ?_)) <;> try simp (maxSteps := 4000000) only [go_sem, seval, hb, busC, e1, e2, e3, e01, if_false, decide_true, decide_false, Bool.not_true, Bool.not_false])
    | (intro _h)
    | (refine awp_block ?_)
    | (refine awp_scope ?_)
    | (refine cond_b (fun _h => ?_) (fun _h => ?_))
    | (show heapOK _ _ = true; kernel_rfl)
    | (show heapOK2 _ _ = true; kernel_rfl)
    | (omega)))
                  ((repeat refine awp_seqK ?_); refine awp_draws [(31, []), (5, [])] (by kernel_rfl) (by kernel_rfl) ?_; simp (maxSteps := 4000000) only [go_sem, seval, sg_cons, sg_nil, List.take_succ_cons, List.take_zero, List.drop_succ_cons, List.drop_zero])
                  (repeat' (first
    | ((exfalso; omega))
    | (refine awp_seqK ?_)
    | (refine kt ?_)
    | (refine And.intro ?_ ?_)
    | ((first | refine awp_region ?_ | refine Imp.le2 ?_ | refine awp_label ?_ | refine awp_skip ?_ | refine awp_exit ?_ | refine awp_cd ?_ | refine awp_ret ?_ | refine callK_of (within_c _ _ _) ?_ | refine go_split (fun _h => ?_) (fun _h => ?_)) <;> try simp (maxSteps := 4000000) only [go_sem, seval, hb, busC, e1, e2, e3, e01, if_false, decide_true, decide_false, Bool.not_true, Bool.not_false])
    | (intro _h)
    | (refine awp_block ?_)
    | (refine awp_scope ?_)
    | (refine cond_b (fun _h => ?_) (fun _h => ?_))
    | (show heapOK _ _ = true; kernel_rfl)
    | (show heapOK2 _ _ = true; kernel_rfl)
    | (omega)))
                  (refine own_go (hal) [] rfl (by simp (maxSteps := 4000000) only [go_sem, seval]) (by simp (maxSteps := 4000000) only [go_sem, seval, Nat.lt_irrefl] <;> decide) rfl ?_; simp (maxSteps := 4000000) only [go_sem, seval]; refine And.intro (frm_of (by repeat (first | exact rfl | exact ⟨_, rfl⟩ | refine And.intro ?_ ?_))) ?_; try simp (maxSteps := 4000000) only [go_sem, seval, sg_cons, sg_nil, List.take_succ_cons, List.take_zero, List.drop_succ_cons, List.drop_zero])
                  (repeat' (first
    | ((exfalso; omega))
    | (refine awp_seqK ?_)
    | (refine kt ?_)
    | (refine And.intro ?_ ?_)
    | ((first | refine awp_region ?_ | refine Imp.le2 ?_ | refine awp_label ?_ | refine awp_skip ?_ | refine awp_exit ?_ | refine awp_cd ?_ | refine awp_ret ?_ | refine callK_of (within_c _ _ _) ?_ | refine go_split (fun _h => ?_) (fun _h => ?_)) <;> try simp (maxSteps := 4000000) only [go_sem, seval, hb, busC, e1, e2, e3, e01, if_false, decide_true, decide_false, Bool.not_true, Bool.not_false])
    | (intro _h)
    | (refine awp_block ?_)
    | (refine awp_scope ?_)
    | (refine cond_b (fun _h => ?_) (fun _h => ?_))
    | (show heapOK _ _ = true; kernel_rfl)
    | (show heapOK2 _ _ = true; kernel_rfl)
    | (omega)))
                  (refine own_go (hma) [0, 1] rfl (by simp (maxSteps := 4000000) only [go_sem, seval]) (by simp (maxSteps := 4000000) only [go_sem, seval, Nat.lt_irrefl] <;> decide) rfl ?_; simp (maxSteps := 4000000) only [go_sem, seval]; refine And.intro (frm_of (by repeat (first | exact rfl | exact ⟨_, rfl⟩ | refine And.intro ?_ ?_))) ?_; try simp (maxSteps := 4000000) only [go_sem, seval, sg_cons, sg_nil, List.take_succ_cons, List.take_zero, List.drop_succ_cons, List.drop_zero])
                  (repeat' (first
    | ((exfalso; omega))
    | (refine awp_seqK ?_)
    | (refine kt ?_)
    | (refine And.intro ?_ ?_)
    | ((first | refine awp_region ?_ | refine Imp.le2 ?_ | refine awp_label ?_ | refine awp_skip ?_ | refine awp_exit ?_ | refine awp_cd ?_ | refine awp_ret ?_ | refine callK_of (within_c _ _ _) ?_ | refine go_split (fun _h => ?_) (fun _h => ?_)) <;> try simp (maxSteps := 4000000) only [go_sem, seval, hb, busC, e1, e2, e3, e01, if_false, decide_true, decide_false, Bool.not_true, Bool.not_false])
    | (intro _h)
    | (refine awp_block ?_)
    | (refine awp_scope ?_)
    | (refine cond_b (fun _h => ?_) (fun _h => ?_))
    | (show heapOK _ _ = true; kernel_rfl)
    | (show heapOK2 _ _ = true; kernel_rfl)
    | (omega)))
                  refine ⟨(false, I, R), ⟨hI, hR, hfail⟩, .le2 ?_⟩
                  simp only [rgH, plB, planC, busC, sl, slB, townC, slH, slL]; simp (maxSteps := 4000000) only [go_sem, seval]
                  try (first | rfl | exact ⟨rfl, rfl⟩)
                | true =>
                  have hG : BusG t b := ⟨c1, c2, c3, c4', c5⟩
                  rw [c5] at hma
                  have hB2 := hBG hG
                  simp only [rgH, plB, planC, busC, sl, slB, townC, slH, slL]; simp (maxSteps := 4000000) only [go_sem, seval]
                  (repeat' (first
    | ((exfalso; omega))
    | (refine awp_seqK ?_)
    | (refine kt ?_)
    | (refine And.intro ?_ ?_)
    | ((first | refine awp_region ?_ | refine Imp.le2 ?_ | refine awp_label ?_ | refine awp_skip ?_ | refine awp_exit ?_ | refine awp_cd ?_ | refine awp_ret ?_ | refine callK_of (within_c _ _ _) ?_ | refine go_split (fun _h => ?_) (fun _h => ?_)) <;> try simp (maxSteps := 4000000) only [go_sem, seval, hb, busC, e1, e2, e3, e01, if_false, decide_true, decide_false, Bool.not_true, Bool.not_false])
    | (intro _h)
    | (refine awp_block ?_)
    | (refine awp_scope ?_)
    | (refine cond_b (fun _h => ?_) (fun _h => ?_))
    | (show heapOK _ _ = true; kernel_rfl)
    | (show heapOK2 _ _ = true; kernel_rfl)
    | (omega)))
                  ((repeat refine awp_seqK ?_); refine awp_draws [(31, []), (5, [])] (by kernel_rfl) (by kernel_rfl) ?_; simp (maxSteps := 4000000) only [go_sem, seval, sg_cons, sg_nil, List.take_succ_cons, List.take_zero, List.drop_succ_cons, List.drop_zero])
                  (repeat' (first
    | ((exfalso; omega))
    | (refine awp_seqK ?_)
    | (refine kt ?_)
    | (refine And.intro ?_ ?_)
    | ((first | refine awp_region ?_ | refine Imp.le2 ?_ | refine awp_label ?_ | refine awp_skip ?_ | refine awp_exit ?_ | refine awp_cd ?_ | refine awp_ret ?_ | refine callK_of (within_c _ _ _) ?_ | refine go_split (fun _h => ?_) (fun _h => ?_)) <;> try simp (maxSteps := 4000000) only [go_sem, seval, hb, busC, e1, e2, e3, e01, if_false, decide_true, decide_false, Bool.not_true, Bool.not_false])
    | (intro _h)
    | (refine awp_block ?_)
    | (refine awp_scope ?_)
    | (refine cond_b (fun _h => ?_) (fun _h => ?_))
    | (show heapOK _ _ = true; kernel_rfl)
    | (show heapOK2 _ _ = true; kernel_rfl)
    | (omega)))
                  (refine own_go (hal) [] rfl (by simp (maxSteps := 4000000) only [go_sem, seval]) (by simp (maxSteps := 4000000) only [go_sem, seval, Nat.lt_irrefl] <;> decide) rfl ?_; simp (maxSteps := 4000000) only [go_sem, seval]; refine And.intro (frm_of (by repeat (first | exact rfl | exact ⟨_, rfl⟩ | refine And.intro ?_ ?_))) ?_; try simp (maxSteps := 4000000) only [go_sem, seval, sg_cons, sg_nil, List.take_succ_cons, List.take_zero, List.drop_succ_cons, List.drop_zero])
                  (repeat' (first
    | ((exfalso; omega))
    | (refine awp_seqK ?_)
    | (refine kt ?_)
    | (refine And.intro ?_ ?_)
    | ((first | refine awp_region ?_ | refine Imp.le2 ?_ | refine awp_label ?_ | refine awp_skip ?_ | refine awp_exit ?_ | refine awp_cd ?_ | refine awp_ret ?_ | refine callK_of (within_c _ _ _) ?_ | refine go_split (fun _h => ?_) (fun _h => ?_)) <;> try simp (maxSteps := 4000000) only [go_sem, seval, hb, busC, e1, e2, e3, e01, if_false, decide_true, decide_false, Bool.not_true, Bool.not_false])
    | (intro _h)
    | (refine awp_block ?_)
    | (refine awp_scope ?_)
    | (refine cond_b (fun _h => ?_) (fun _h => ?_))
    | (show heapOK _ _ = true; kernel_rfl)
    | (show heapOK2 _ _ = true; kernel_rfl)
    | (omega)))
                  (refine own_go (hma) [0, 1] rfl (by simp (maxSteps := 4000000) only [go_sem, seval]) (by simp (maxSteps := 4000000) only [go_sem, seval, Nat.lt_irrefl] <;> decide) rfl ?_; simp (maxSteps := 4000000) only [go_sem, seval]; refine And.intro (frm_of (by repeat (first | exact rfl | exact ⟨_, rfl⟩ | refine And.intro ?_ ?_))) ?_; try simp (maxSteps := 4000000) only [go_sem, seval, sg_cons, sg_nil, List.take_succ_cons, List.take_zero, List.drop_succ_cons, List.drop_zero])
                  (repeat' (first
    | ((exfalso; omega))
    | (refine awp_seqK ?_)
    | (refine kt ?_)
    | (refine And.intro ?_ ?_)
    | ((first | refine awp_region ?_ | refine awp_draw (by kernel_rfl) (by kernel_rfl) ?_ | refine Imp.le2 ?_ | refine awp_label ?_ | refine awp_skip ?_ | refine awp_exit ?_ | refine awp_cd ?_ | refine awp_ret ?_ | refine callK_of (within_c _ _ _) ?_ | refine go_split (fun _h => ?_) (fun _h => ?_)) <;> try simp (maxSteps := 4000000) only [go_sem, seval, hb, busC, e1, e2, e3, e01, if_false, decide_true, decide_false, Bool.not_true, Bool.not_false])
    | (intro _h)
    | (refine awp_block ?_)
    | (refine awp_scope ?_)
    | (refine cond_b (fun _h => ?_) (fun _h => ?_))
    | (show heapOK _ _ = true; kernel_rfl)
    | (show heapOK2 _ _ = true; kernel_rfl)
    | (omega)))
                  refine awp_loopJ (fun x : Nat × List Bool => x.1 ≤ b.homes.length ∧ markN b.homes I x.1 = some x.2) (fun x => ⟨mkT 146 [(0, .ptr 0 0 0), (1, slB plan), (5, .osl 2 0 0 t.homes.length), (6, .osl 3 0 0 t.halls.length), (7, .bool f0), (9, .ptr 4 0 0), (31, slB plan), (32, .int .i64 plan.length), (33, .int .i64 k), (78, sl b.homes), (79, .int .i64 b.homes.length), (80, .int .i64 x.1)], rgH t K x.2 R ++ [some (.cells 48 1 0 (busC b))], []⟩) (fun x => b.homes.length - x.1) (0, I) ⟨Nat.zero_le _, rfl⟩ (.le2 ?_) ?_
                  · simp only [rgH, plB, planC, busC, sl, slB, townC, slH, slL]; simp (maxSteps := 4000000) only [go_sem, seval]
                    try (first | rfl | exact ⟨rfl, rfl⟩)
                  · rintro ⟨j, J⟩ ⟨hj, hM⟩
                    simp only at hj hM
                    have hJl := markN_length hI c4' j hj hM
                    rcases Nat.lt_or_eq_of_le hj with hj1 | hj1
                    · have hx := c4' _ (getD_mem (d := 0) hj1)
                      have hMn : markN b.homes I (j + 1) = if J.getD (b.homes.getD j 0).toNat false = true ∨ (0 < j ∧ b.homes.getD j 0 ≤ b.homes.getD (j - 1) 0) then none else some (isp J (b.homes.getD j 0).toNat true) := by simp only [markN, hM]
                      have hno2 : markN b.homes I (j + 1) = none → ∀ J' R', outJ t plan (false, J', R') := fun h => hno (by
                        rw [hB2]
                        have := markN_none h (b.homes.length - (j + 1))
                        rw [show j + 1 + (b.homes.length - (j + 1)) = b.homes.length by omega] at this
                        rw [this])
                      have ej : ((j : Int) - 1).toNat = j - 1 := by omega
                      cases hv : J.getD (b.homes.getD j 0).toNat false with
                      | true =>
                        have hfail := hno2 (by rw [hMn, if_pos (.inl hv)]) J R
                        simp only [rgH, plB, planC, busC, sl, slB, townC, slH, slL]; simp (maxSteps := 4000000) only [go_sem, seval]
                        (repeat' (first
    | ((exfalso; omega))
    | (refine awp_seqK ?_)
    | (refine kt ?_)
    | (refine And.intro ?_ ?_)
    | ((first | refine awp_region ?_ | refine awp_draw (by kernel_rfl) (by kernel_rfl) ?_ | refine Imp.le2 ?_ | refine awp_label ?_ | refine awp_skip ?_ | refine awp_exit ?_ | refine awp_cd ?_ | refine awp_ret ?_ | refine go_split (fun _h => ?_) (fun _h => ?_)) <;> try simp (maxSteps := 4000000) only [go_sem, seval, hv, hJl, e02, e03, if_false])
    | (intro _h)
    | (refine awp_block ?_)
    | (refine awp_scope ?_)
    | (refine cond_b (fun _h => ?_) (fun _h => ?_))
    | (show heapOK _ _ = true; kernel_rfl)
    | (show heapOK2 _ _ = true; kernel_rfl)
    | (omega)))
                        refine ⟨(false, J, R), ⟨hJl, hR, hfail⟩, .le2 ?_⟩
                        simp only [rgH, plB, planC, busC, sl, slB, townC, slH, slL]; simp (maxSteps := 4000000) only [go_sem, seval]
                        try (first | rfl | exact ⟨rfl, rfl⟩)
                      | false =>
                        by_cases hp : 0 < j ∧ b.homes.getD j 0 ≤ b.homes.getD (j - 1) 0
                        · have hfail := hno2 (by rw [hMn, if_pos (.inr hp)]) J R
                          have e5 : (0 < (j : Int)) = True := eq_true (by omega)
                          have e6 : (b.homes.getD j 0 ≤ b.homes.getD (j - 1) 0) = True := eq_true hp.2
                          simp only [rgH, plB, planC, busC, sl, slB, townC, slH, slL]; simp (maxSteps := 4000000) only [go_sem, seval]
                          (repeat' (first
    | ((exfalso; omega))
    | (refine awp_seqK ?_)
    | (refine kt ?_)
    | (refine And.intro ?_ ?_)
    | ((first | refine awp_region ?_ | refine awp_draw (by kernel_rfl) (by kernel_rfl) ?_ | refine Imp.le2 ?_ | refine awp_label ?_ | refine awp_skip ?_ | refine awp_exit ?_ | refine awp_cd ?_ | refine awp_ret ?_ | refine go_split (fun _h => ?_) (fun _h => ?_)) <;> try simp (maxSteps := 4000000) only [go_sem, seval, hv, hJl, e5, e6, ej, decide_true, e02, e03, if_false])
    | (intro _h)
    | (refine awp_block ?_)
    | (refine awp_scope ?_)
    | (refine cond_b (fun _h => ?_) (fun _h => ?_))
    | (show heapOK _ _ = true; kernel_rfl)
    | (show heapOK2 _ _ = true; kernel_rfl)
    | (omega)))
                          refine ⟨(false, J, R), ⟨hJl, hR, hfail⟩, .le2 ?_⟩
                          simp only [rgH, plB, planC, busC, sl, slB, townC, slH, slL]; simp (maxSteps := 4000000) only [go_sem, seval]
                          try (first | rfl | exact ⟨rfl, rfl⟩)
                        · rw [hv, if_neg (by rintro (h | h); exact absurd h (by simp); exact hp h)] at hMn
                          by_cases hj0 : j = 0
                          · subst hj0
                            have e5 : (0 < (0 : Int)) = False := eq_false (by omega)
                            simp only [rgH, plB, planC, busC, sl, slB, townC, slH, slL]; simp (maxSteps := 4000000) only [go_sem, seval]
                            (repeat' (first
    | ((exfalso; omega))
    | (refine awp_seqK ?_)
    | (refine kt ?_)
    | (refine And.intro ?_ ?_)
    | ((first | refine awp_region ?_ | refine awp_draw (by kernel_rfl) (by kernel_rfl) ?_ | refine Imp.le2 ?_ | refine awp_label ?_ | refine awp_skip ?_ | refine awp_exit ?_ | refine awp_cd ?_ | refine awp_ret ?_ | refine go_split (fun _h => ?_) (fun _h => ?_)) <;> try simp (maxSteps := 4000000) only [go_sem, seval, hv, hJl, e5, decide_false])
    | (intro _h)
    | (refine awp_block ?_)
    | (refine awp_scope ?_)
    | (refine cond_b (fun _h => ?_) (fun _h => ?_))
    | (show heapOK _ _ = true; kernel_rfl)
    | (show heapOK2 _ _ = true; kernel_rfl)
    | (omega)))
                            refine ⟨(1, isp J (b.homes.getD 0 0).toNat true), ⟨by simp only; omega, hMn⟩, by simp only; omega, .le2 ?_⟩
                            simp only [rgH, plB, planC, busC, sl, slB, townC, slH, slL]; simp (maxSteps := 4000000) only [go_sem, seval]
                            try (first | rfl | exact ⟨rfl, rfl⟩)
                          · have e5 : (0 < (j : Int)) = True := eq_true (by omega)
                            have e6 : (b.homes.getD j 0 ≤ b.homes.getD (j - 1) 0) = False := eq_false (fun h => hp ⟨by omega, h⟩)
                            simp only [rgH, plB, planC, busC, sl, slB, townC, slH, slL]; simp (maxSteps := 4000000) only [go_sem, seval]
                            (repeat' (first
    | ((exfalso; omega))
    | (refine awp_seqK ?_)
    | (refine kt ?_)
    | (refine And.intro ?_ ?_)
    | ((first | refine awp_region ?_ | refine awp_draw (by kernel_rfl) (by kernel_rfl) ?_ | refine Imp.le2 ?_ | refine awp_label ?_ | refine awp_skip ?_ | refine awp_exit ?_ | refine awp_cd ?_ | refine awp_ret ?_ | refine go_split (fun _h => ?_) (fun _h => ?_)) <;> try simp (maxSteps := 4000000) only [go_sem, seval, hv, hJl, e5, e6, ej, decide_true, decide_false])
    | (intro _h)
    | (refine awp_block ?_)
    | (refine awp_scope ?_)
    | (refine cond_b (fun _h => ?_) (fun _h => ?_))
    | (show heapOK _ _ = true; kernel_rfl)
    | (show heapOK2 _ _ = true; kernel_rfl)
    | (omega)))
                            refine ⟨(j + 1, isp J (b.homes.getD j 0).toNat true), ⟨by simp only; omega, hMn⟩, by simp only; omega, .le2 ?_⟩
                            simp only [rgH, plB, planC, busC, sl, slB, townC, slH, slL]; simp (maxSteps := 4000000) only [go_sem, seval]
                            try (first | rfl | exact ⟨rfl, rfl⟩)
                    · subst hj1
                      rw [hM] at hB2
                      simp only at hB2
                      have hrk := hRb b.hall.toNat (by omega)
                      have hpb := pplL_bd ht c4' _ (Nat.le_refl _)
                      have hpb2 : 0 ≤ ppl t b.homes ∧ ppl t b.homes ≤ 200 * b.homes.length := hpb
                      simp only [rgH, plB, planC, busC, sl, slB, townC, slH, slL]; simp (maxSteps := 4000000) only [go_sem, seval]
                      (repeat' (first
    | ((exfalso; omega))
    | (refine awp_seqK ?_)
    | (refine kt ?_)
    | (refine And.intro ?_ ?_)
    | ((first | refine awp_region ?_ | refine Imp.le2 ?_ | refine awp_label ?_ | refine awp_skip ?_ | refine awp_exit ?_ | refine awp_cd ?_ | refine awp_ret ?_ | refine go_split (fun _h => ?_) (fun _h => ?_)) <;> try simp (maxSteps := 4000000) only [go_sem, seval, e20, if_false])
    | (intro _h)
    | (refine awp_block ?_)
    | (refine awp_scope ?_)
    | (refine cond_b (fun _h => ?_) (fun _h => ?_))
    | (show heapOK _ _ = true; kernel_rfl)
    | (show heapOK2 _ _ = true; kernel_rfl)
    | (omega)))
                      ((repeat refine awp_seqK ?_); refine awp_draws [(7, [])] (by kernel_rfl) (by kernel_rfl) ?_; simp (maxSteps := 4000000) only [go_sem, seval, sg_cons, sg_nil, List.take_succ_cons, List.take_zero, List.drop_succ_cons, List.drop_zero])
                      (repeat' (first
    | ((exfalso; omega))
    | (refine awp_seqK ?_)
    | (refine kt ?_)
    | (refine And.intro ?_ ?_)
    | ((first | refine awp_region ?_ | refine Imp.le2 ?_ | refine awp_label ?_ | refine awp_skip ?_ | refine awp_exit ?_ | refine awp_cd ?_ | refine awp_ret ?_ | refine go_split (fun _h => ?_) (fun _h => ?_)) <;> try simp (maxSteps := 4000000) only [go_sem, seval, hR])
    | (intro _h)
    | (refine awp_block ?_)
    | (refine awp_scope ?_)
    | (refine cond_b (fun _h => ?_) (fun _h => ?_))
    | (show heapOK _ _ = true; kernel_rfl)
    | (show heapOK2 _ _ = true; kernel_rfl)
    | (omega)))
                      (refine own_go (hpe) [0, 1] rfl (by simp (maxSteps := 4000000) only [go_sem, seval]) (by simp (maxSteps := 4000000) only [go_sem, seval, Nat.lt_irrefl] <;> decide) rfl ?_; simp (maxSteps := 4000000) only [go_sem, seval]; refine And.intro (frm_of (by repeat (first | exact rfl | exact ⟨_, rfl⟩ | refine And.intro ?_ ?_))) ?_; try simp (maxSteps := 4000000) only [go_sem, seval, sg_cons, sg_nil, List.take_succ_cons, List.take_zero, List.drop_succ_cons, List.drop_zero])
                      (repeat' (first
    | ((exfalso; omega))
    | ((omega))
    | (refine awp_seqK ?_)
    | (refine kt ?_)
    | (refine And.intro ?_ ?_)
    | ((first | refine awp_region ?_ | refine awp_draw (by kernel_rfl) (by kernel_rfl) ?_ | refine Imp.le2 ?_ | refine awp_label ?_ | refine awp_skip ?_ | refine awp_exit ?_ | refine awp_cd ?_ | refine awp_ret ?_ | refine go_split (fun _h => ?_) (fun _h => ?_)) <;> try simp (maxSteps := 4000000) only [go_sem, seval, hR])
    | (intro _h)
    | (refine awp_block ?_)
    | (refine awp_scope ?_)
    | (refine cond_b (fun _h => ?_) (fun _h => ?_))
    | (show heapOK _ _ = true; kernel_rfl)
    | (show heapOK2 _ _ = true; kernel_rfl)
    | (omega)))
                      refine ⟨(k + 1, J, isp R b.hall.toNat (R.getD b.hall.toNat 0 + ppl t b.homes)), ⟨by simp only; omega, hst _ hB2⟩, by simp only; omega, .le2 ?_⟩
                      simp only [rgH, plB, planC, busC, sl, slB, townC, slH, slL]; simp (maxSteps := 4000000) only [go_sem, seval]
                      try (first | rfl | exact ⟨rfl, rfl⟩)
          · have e2 : (0 ≤ b.hall ∧ b.hall ≤ (t.halls.length : Int) - 1) = False := eq_false c2
            have hfail := hbad (fun h => c2 h.hall) I R
            simp only [rgH, plB, planC, busC, sl, slB, townC, slH, slL]; simp (maxSteps := 4000000) only [go_sem, seval]
            (repeat' (first
    | ((exfalso; omega))
    | (refine awp_seqK ?_)
    | (refine kt ?_)
    | (refine And.intro ?_ ?_)
    | ((first | refine awp_region ?_ | refine awp_draw (by kernel_rfl) (by kernel_rfl) ?_ | refine Imp.le2 ?_ | refine awp_label ?_ | refine awp_skip ?_ | refine awp_exit ?_ | refine awp_cd ?_ | refine awp_ret ?_ | refine callK_of (within_c _ _ _) ?_ | refine go_split (fun _h => ?_) (fun _h => ?_)) <;> try simp (maxSteps := 4000000) only [go_sem, seval, hb, busC, e1, e2, decide_true, decide_false, Bool.not_true, Bool.not_false])
    | (intro _h)
    | (refine awp_block ?_)
    | (refine awp_scope ?_)
    | (refine cond_b (fun _h => ?_) (fun _h => ?_))
    | (show heapOK _ _ = true; kernel_rfl)
    | (show heapOK2 _ _ = true; kernel_rfl)
    | (omega)))
            refine ⟨(false, I, R), ⟨hI, hR, hfail⟩, .le2 ?_⟩
            simp only [rgH, plB, planC, busC, sl, slB, townC, slH, slL]; simp (maxSteps := 4000000) only [go_sem, seval]
            try (first | rfl | exact ⟨rfl, rfl⟩)
        · have e1 : (0 ≤ b.leave ∧ b.leave ≤ 10000) = False := eq_false c1
          have hfail := hbad (fun h => c1 h.leave) I R
          simp only [rgH, plB, planC, busC, sl, slB, townC, slH, slL]; simp (maxSteps := 4000000) only [go_sem, seval]
          (repeat' (first
    | ((exfalso; omega))
    | (refine awp_seqK ?_)
    | (refine kt ?_)
    | (refine And.intro ?_ ?_)
    | ((first | refine awp_region ?_ | refine awp_draw (by kernel_rfl) (by kernel_rfl) ?_ | refine Imp.le2 ?_ | refine awp_label ?_ | refine awp_skip ?_ | refine awp_exit ?_ | refine awp_cd ?_ | refine awp_ret ?_ | refine callK_of (within_c _ _ _) ?_ | refine go_split (fun _h => ?_) (fun _h => ?_)) <;> try simp (maxSteps := 4000000) only [go_sem, seval, hb, busC, e1, decide_false, Bool.not_false])
    | (intro _h)
    | (refine awp_block ?_)
    | (refine awp_scope ?_)
    | (refine cond_b (fun _h => ?_) (fun _h => ?_))
    | (show heapOK _ _ = true; kernel_rfl)
    | (show heapOK2 _ _ = true; kernel_rfl)
    | (omega)))
          refine ⟨(false, I, R), ⟨hI, hR, hfail⟩, .le2 ?_⟩
          simp only [rgH, plB, planC, busC, sl, slB, townC, slH, slL]; simp (maxSteps := 4000000) only [go_sem, seval]
          try (first | rfl | exact ⟨rfl, rfl⟩)
      · subst hk1
        have hend : outJ t plan (f0, I, R) := by unfold outJ; rw [hS]; simp only [hf0]
        simp only [rgH, plB, planC, busC, sl, slB, townC, slH, slL]; simp (maxSteps := 4000000) only [go_sem, seval]
        (repeat' (first
    | ((exfalso; omega))
    | (refine awp_seqK ?_)
    | (refine kt ?_)
    | (refine And.intro ?_ ?_)
    | ((first | refine awp_region ?_ | refine awp_draw (by kernel_rfl) (by kernel_rfl) ?_ | refine Imp.le2 ?_ | refine awp_label ?_ | refine awp_skip ?_ | refine awp_exit ?_ | refine awp_cd ?_ | refine awp_ret ?_ | refine go_split (fun _h => ?_) (fun _h => ?_)) <;> try simp (maxSteps := 4000000) only [go_sem, seval])
    | (intro _h)
    | (refine awp_block ?_)
    | (refine awp_scope ?_)
    | (refine cond_b (fun _h => ?_) (fun _h => ?_))
    | (show heapOK _ _ = true; kernel_rfl)
    | (show heapOK2 _ _ = true; kernel_rfl)
    | (omega)))
        refine ⟨(f0, I, R), ⟨hI, hR, hend⟩, .le2 ?_⟩
        simp only [rgH, plB, planC, busC, sl, slB, townC, slH, slL]; simp (maxSteps := 4000000) only [go_sem, seval]
        try (first | rfl | exact ⟨rfl, rfl⟩)
  · rintro ⟨fine, I, R⟩ ⟨hI, hR, hJ⟩ s' hs'
    simp only at hI hR
    simp (maxSteps := 4000000) only [go_sem, seval]
    refine kt_imp hs' ?_
    refine kt ?_
    rw [right_out hJ]
    have hcf := contF_c I 0 (by omega)
    rw [hI] at hcf
    clear hJ hs'
    simp only [plB, planC, busC, sl, slB, townC, slH, slL, rgH]
    simp (maxSteps := 4000000) only [go_sem, seval]
    (repeat' (first
    | (refine awp_seqK ?_)
    | (refine kt ?_)
    | (refine And.intro ?_ ?_)
    | ((first | refine awp_region ?_ | refine awp_draw (by kernel_rfl) (by kernel_rfl) ?_ | refine Imp.le2 ?_ | refine awp_label ?_ | refine awp_skip ?_ | refine awp_exit ?_ | refine awp_cd ?_ | refine awp_ret ?_ | refine go_split (fun _h => ?_) (fun _h => ?_)) <;> try simp (maxSteps := 4000000) only [go_sem, seval])
    | (intro _h)
    | (refine awp_block ?_)
    | (refine awp_scope ?_)
    | (refine cond_b (fun _h => ?_) (fun _h => ?_))
    | (show heapOK _ _ = true; kernel_rfl)
    | (show heapOK2 _ _ = true; kernel_rfl)
    | (omega)))
    refine awp_loopN t.halls.length (fun j => ⟨mkT 146 [(0, .ptr 0 0 0), (5, .osl 2 0 0 t.homes.length), (6, .osl 3 0 0 t.halls.length), (7, .bool (fine && decide (okR t R j))), (118, .osl 3 0 0 t.halls.length), (119, .int .i64 t.halls.length), (120, .int .i64 j)], rgH t K I R, []⟩) (.le2 ?_) ?_
    · have e0 : decide (okR t R 0) = true := decide_eq_true (fun i hi => by omega)
      simp only [plB, planC, busC, sl, slB, townC, slH, slL, rgH, e0, Bool.and_true]; simp (maxSteps := 4000000) only [go_sem, seval]
      try (first | rfl | exact ⟨rfl, rfl⟩)
    · intro j hj
      rcases Nat.lt_or_eq_of_le hj with hj1 | hj1
      · have hs1 : decide (okR t R (j + 1)) = (decide (okR t R j) && decide (R.getD j 0 ≤ (t.halls.getD j default).room)) := by
          rw [Bool.eq_iff_iff, Bool.and_eq_true, decide_eq_true_eq, decide_eq_true_eq, decide_eq_true_eq]
          constructor
          · intro h; exact ⟨fun i hi => h i (by omega), h j (by omega)⟩
          · rintro ⟨h1, h2⟩ i hi
            rcases Nat.lt_succ_iff_lt_or_eq.1 hi with h | rfl
            · exact h1 i h
            · exact h2
        rw [hs1]
        generalize decide (okR t R j) = c at *
        cases fine <;> cases c
        all_goals
          simp only [plB, planC, busC, sl, slB, townC, slH, slL, rgH, Bool.true_and, Bool.false_and, Bool.and_true, Bool.and_false]; simp (maxSteps := 4000000) only [go_sem, seval]
          (repeat' (first
    | ((exfalso; omega))
    | ((omega))
    | (refine awp_seqK ?_)
    | (refine kt ?_)
    | (refine And.intro ?_ ?_)
    | ((first | refine awp_region ?_ | refine awp_draw (by kernel_rfl) (by kernel_rfl) ?_ | refine Imp.le2 ?_ | refine awp_label ?_ | refine awp_skip ?_ | refine awp_exit ?_ | refine awp_cd ?_ | refine awp_ret ?_ | refine go_split (fun _h => ?_) (fun _h => ?_)) <;> try simp (maxSteps := 4000000) only [go_sem, seval, hR])
    | (intro _h)
    | (refine awp_block ?_)
    | (refine awp_scope ?_)
    | (refine cond_b (fun _h => ?_) (fun _h => ?_))
    | (show heapOK _ _ = true; kernel_rfl)
    | (show heapOK2 _ _ = true; kernel_rfl)
    | (omega)))
          all_goals first | exact (decide_eq_true ‹_›).symm | exact (decide_eq_false ‹_›).symm | rfl | trace_state
      · subst hj1
        generalize (fine && decide (okR t R t.halls.length)) = c at *
        generalize (I.any fun x => !x) = a at *
        cases c
        · simp only [plB, planC, busC, sl, slB, townC, slH, slL, rgH]; simp (maxSteps := 4000000) only [go_sem, seval]
          (repeat' (first
    | ((exfalso; omega))
    | (refine awp_seqK ?_)
    | (refine kt ?_)
    | (refine And.intro ?_ ?_)
    | ((first | refine awp_region ?_ | refine awp_draw (by kernel_rfl) (by kernel_rfl) ?_ | refine Imp.le2 ?_ | refine awp_label ?_ | refine awp_skip ?_ | refine awp_exit ?_ | refine awp_cd ?_ | refine awp_ret ?_ | refine go_split (fun _h => ?_) (fun _h => ?_)) <;> try simp (maxSteps := 4000000) only [go_sem, seval, hR])
    | (intro _h)
    | (refine awp_block ?_)
    | (refine awp_scope ?_)
    | (refine cond_b (fun _h => ?_) (fun _h => ?_))
    | (show heapOK _ _ = true; kernel_rfl)
    | (show heapOK2 _ _ = true; kernel_rfl)
    | (omega)))
          all_goals simp
        · simp only [plB, planC, busC, sl, slB, townC, slH, slL, rgH]; simp (maxSteps := 4000000) only [go_sem, seval]
          (repeat' (first
    | ((exfalso; omega))
    | (refine awp_ownN (id := 23) 3 rfl ?_; simp (maxSteps := 4000000) only [go_sem, seval, List.take_succ_cons, List.take_zero, hR])
    | (refine own_go (hcf) [2] rfl ?_ ?_ rfl ?_ <;> try simp (maxSteps := 4000000) only [go_sem, seval, Nat.lt_irrefl, hR] <;> try decide)
    | (refine awp_seqK ?_)
    | (refine kt ?_)
    | (refine And.intro ?_ ?_)
    | ((first | refine awp_region ?_ | refine awp_draw (by kernel_rfl) (by kernel_rfl) ?_ | refine Imp.le2 ?_ | refine awp_label ?_ | refine awp_skip ?_ | refine awp_exit ?_ | refine awp_cd ?_ | refine awp_ret ?_ | refine go_split (fun _h => ?_) (fun _h => ?_)) <;> try simp (maxSteps := 4000000) only [go_sem, seval, hR])
    | (intro _h)
    | (refine awp_block ?_)
    | (refine awp_scope ?_)
    | (refine cond_b (fun _h => ?_) (fun _h => ?_))
    | (show heapOK _ _ = true; kernel_rfl)
    | (show heapOK2 _ _ = true; kernel_rfl)
    | (omega)))
          all_goals first | (simp only [*, Bool.true_and]; done) | trace_state
end Go.Am

/- Plain words: sums; a plan as a share of the homes among buses; what the fewest buses are. No program is in sight. -/
namespace Go.Am
set_option linter.unusedSimpArgs false
set_option linter.unusedVariables false

def sumN (f : Nat → Int) : Nat → Int
  | 0 => 0
  | k + 1 => sumN f k + f k
theorem sumN_congr {f g : Nat → Int} : ∀ {k : Nat}, (∀ h, h < k → f h = g h) → sumN f k = sumN g k
  | 0, _ => rfl
  | k + 1, h => by simp only [sumN]; rw [sumN_congr (fun i hi => h i (by omega)), h k (by omega)]
theorem sumN_le {f g : Nat → Int} : ∀ {k : Nat}, (∀ h, h < k → f h ≤ g h) → sumN f k ≤ sumN g k
  | 0, _ => by simp [sumN]
  | k + 1, h => by
    have h1 := sumN_le (k := k) (fun i hi => h i (by omega))
    have h2 := h k (by omega)
    simp only [sumN]; omega
theorem sumN_nonneg {f : Nat → Int} : ∀ {k : Nat}, (∀ h, h < k → 0 ≤ f h) → 0 ≤ sumN f k
  | 0, _ => by simp [sumN]
  | k + 1, h => by
    have h1 := sumN_nonneg (k := k) (fun i hi => h i (by omega))
    have h2 := h k (by omega)
    simp only [sumN]; omega
theorem sumN_add {f g : Nat → Int} : ∀ {k : Nat}, sumN (fun h => f h + g h) k = sumN f k + sumN g k
  | 0 => rfl
  | k + 1 => by simp only [sumN]; rw [sumN_add]; omega
theorem sumN_zero : ∀ {k : Nat}, sumN (fun _ => 0) k = 0
  | 0 => rfl
  | k + 1 => by simp only [sumN, sumN_zero]; omega
theorem sumN_swap {F : Nat → Nat → Int} : ∀ {n k : Nat}, sumN (fun h => sumN (fun j => F h j) k) n = sumN (fun j => sumN (fun h => F h j) n) k
  | 0, k => by simp only [sumN]; exact sumN_zero.symm
  | n + 1, k => by
    have := sumN_swap (F := F) (n := n) (k := k)
    simp only [sumN, this]
    rw [← sumN_add]
theorem sumN_pick {a : Nat} {c : Int} : ∀ {k : Nat}, sumN (fun j => if j = a then c else 0) k = if a < k then c else 0
  | 0 => by simp [sumN]
  | k + 1 => by
    simp only [sumN, sumN_pick]
    by_cases h : k = a
    · subst h; simp
    · by_cases h2 : a < k
      · simp [h, h2, show a < k + 1 by omega]
      · simp [h, h2, show ¬ a < k + 1 by omega]
def peo (t : Town) (h : Nat) : Int := (t.homes.getD h default).people
theorem pplL_cons {t : Town} {x : Int} {l : List Int} : ∀ k, pplL t (x :: l) (k + 1) = peo t x.toNat + pplL t l k
  | 0 => by simp [pplL, peo]
  | k + 1 => by
    rw [pplL, pplL_cons k]
    simp only [pplL, List.getD_cons_succ]
    omega
theorem ppl_cons {t : Town} {x : Int} {l : List Int} : ppl t (x :: l) = peo t x.toNat + ppl t l := pplL_cons _
theorem ppl_nil {t : Town} : ppl t [] = 0 := rfl
/-- The people of a list of different homes. -/
theorem ppl_sum {t : Town} : ∀ {l : List Int}, l.Nodup → (∀ x ∈ l, 0 ≤ x ∧ x < 8) → ppl t l = sumN (fun h => if (h : Int) ∈ l then peo t h else 0) 8
  | [], _, _ => by simp only [ppl_nil, List.not_mem_nil, if_false]; exact sumN_zero.symm
  | x :: l, hn, hb => by
    obtain ⟨h1, h2⟩ := List.nodup_cons.1 hn
    have hx := hb x (by simp)
    rw [ppl_cons, ppl_sum h2 (fun y hy => hb y (by simp [hy]))]
    have e : sumN (fun h => if (h : Int) ∈ x :: l then peo t h else 0) 8 = sumN (fun h => (if h = x.toNat then peo t x.toNat else 0) + (if (h : Int) ∈ l then peo t h else 0)) 8 := by
      refine sumN_congr fun h hh => ?_
      by_cases e1 : h = x.toNat
      · subst e1
        have e2 : ((x.toNat : Nat) : Int) = x := by omega
        rw [e2, if_pos (List.mem_cons_self ..), if_pos rfl, if_neg h1]; omega
      · have e2 : (h : Int) ≠ x := by omega
        rw [if_neg e1]
        by_cases e3 : (h : Int) ∈ l
        · rw [if_pos (List.mem_cons_of_mem _ e3), if_pos e3]; omega
        · rw [if_neg (by rw [List.mem_cons]; rintro (h | h); exact e2 h; exact e3 h), if_neg e3]; omega
    rw [e, sumN_add, sumN_pick, if_pos (by omega)]
theorem lst_nodup {m : Nat} : (lst m).Nodup := (lstN_rise 8).imp (fun h => by omega)
theorem ppl_lst {t : Town} {m : Nat} : ppl t (lst m) = sumN (fun h => if m.testBit h = true then peo t h else 0) 8 := by
  rw [ppl_sum lst_nodup (fun x hx => by have := lst_mem.1 hx; omega)]
  refine sumN_congr fun h hh => ?_
  by_cases e : m.testBit h = true
  · rw [if_pos e, if_pos (lst_mem.2 ⟨by omega, by omega, by simpa using e⟩)]
  · rw [if_neg e, if_neg (fun hm => e (by simpa using (lst_mem.1 hm).2.2))]
theorem leaveL_ge {t : Town} {l : List Int} : ∀ {k j : Nat}, j < k → (worstL t).getD (l.getD j 0).toNat 0 ≤ leaveL t l k
  | 0, j, h => by omega
  | k + 1, j, h => by
    simp only [leaveL]
    rcases Nat.lt_succ_iff_lt_or_eq.1 h with h | rfl
    · have := leaveL_ge (t := t) (l := l) h; omega
    · omega
theorem leaveL_le {t : Town} {l : List Int} {L : Int} (h0 : 0 ≤ L) : ∀ {k : Nat}, (∀ j, j < k → (worstL t).getD (l.getD j 0).toNat 0 ≤ L) → leaveL t l k ≤ L
  | 0, _ => h0
  | k + 1, h => by
    have h1 := leaveL_le (k := k) h0 (fun j hj => h j (by omega))
    have h2 := h k (by omega)
    simp only [leaveL]; omega
theorem leave_ge {t : Town} {l : List Int} {x : Int} (h : x ∈ l) : (worstL t).getD x.toNat 0 ≤ leaveL t l l.length := by
  obtain ⟨j, hj, rfl⟩ := mem_getD (d := 0) h
  exact leaveL_ge hj
theorem leave_le {t : Town} {l : List Int} {L : Int} (h0 : 0 ≤ L) (h : ∀ x ∈ l, (worstL t).getD x.toNat 0 ≤ L) : leaveL t l l.length ≤ L := leaveL_le h0 (fun j hj => h _ (getD_mem hj))

/-! ### Sets of homes, told by a test -/
def mkN (q : Nat → Bool) : Nat → Nat
  | 0 => 0
  | k + 1 => mkN q k ||| (if q k = true then 2 ^ k else 0)
theorem mkN_bit {q : Nat → Bool} {h : Nat} : ∀ {k : Nat}, (mkN q k).testBit h = (decide (h < k) && q h)
  | 0 => by simp [mkN]
  | k + 1 => by
    simp only [mkN, Nat.testBit_or, mkN_bit]
    by_cases e : h = k
    · subst e
      cases hq : q h
      · simp
      · simp [Nat.testBit_two_pow_self]
    · cases hq : q k
      · by_cases h2 : h < k
        · simp [h2, show h < k + 1 by omega]
        · simp [h2, show ¬ h < k + 1 by omega]
      · by_cases h2 : h < k
        · simp [h2, show h < k + 1 by omega, Nat.testBit_two_pow, Ne.symm e]
        · simp [h2, show ¬ h < k + 1 by omega, Nat.testBit_two_pow, Ne.symm e]
theorem bit_lt {m h : Nat} (hm : m < 256) (hb : m.testBit h = true) : h < 8 := by
  by_cases h8 : h < 8
  · exact h8
  · rw [Nat.testBit_lt_two_pow (Nat.lt_of_lt_of_le hm (show 2 ^ 8 ≤ 2 ^ h from Nat.pow_le_pow_right (by omega) (by omega)))] at hb
    cases hb
theorem bit_ext {a b : Nat} (ha : a < 256) (hb : b < 256) (h : ∀ i, i < 8 → a.testBit i = b.testBit i) : a = b := by
  refine Nat.eq_of_testBit_eq fun i => ?_
  by_cases h8 : i < 8
  · exact h i h8
  · cases e1 : a.testBit i
    · cases e2 : b.testBit i
      · rfl
      · exact absurd (bit_lt hb e2) h8
    · exact absurd (bit_lt ha e1) h8
theorem low_one {m i j : Nat} (hm : m < 256) (hi : (lowB m).testBit i = true) (hj : (lowB m).testBit j = true) : i = j := by
  have h := byteb (p := fun m => (List.range 8).all fun i => (List.range 8).all fun j => !(lowB m).testBit i || !(lowB m).testBit j || Nat.beq i j) (by kernel_rfl) hm
  have hl := lowB_lt hm
  have h1 := List.all_eq_true.1 h i (by simpa using bit_lt hl hi)
  have h2 := List.all_eq_true.1 h1 j (by simpa using bit_lt hl hj)
  rw [hi, hj] at h2
  exact Nat.eq_of_beq_eq_true (by simpa using h2)
theorem low_ex {m : Nat} (hm : m < 256) (h0 : m ≠ 0) : ∃ i, i < 8 ∧ (lowB m).testBit i = true ∧ m.testBit i = true := by
  obtain ⟨i, hi⟩ := Nat.exists_testBit_of_ne_zero (low_pos hm h0)
  refine ⟨i, bit_lt (lowB_lt hm) hi, hi, ?_⟩
  have := low_and hm
  rw [← this, Nat.testBit_and, Bool.and_eq_true] at hi
  exact hi.2
theorem and_sub_bit {a b i : Nat} (h : a &&& b = a) (hi : a.testBit i = true) : b.testBit i = true := by
  rw [← h, Nat.testBit_and, Bool.and_eq_true] at hi; exact hi.2

/-- The homes of a test share buses of some names, with halls and rooms as they should be. -/
structure FeasA (t : Town) (p : Nat → Bool) (r : Nat → Int) (L : List Nat) (a g : Nat → Nat) : Prop where
  lab : ∀ h, h < 8 → p h = true → h < t.homes.length ∧ a h ∈ L ∧ g (a h) < t.halls.length
  pet : ∀ h, h < 8 → p h = true → andn (t.homes.getD h default).pets (t.halls.getD (g (a h)) default).pets = 0
  tim : ∀ h h', h < 8 → h' < 8 → p h = true → p h' = true → a h = a h' → worstN t (t.homes.getD h' default) + (t.halls.getD (g (a h)) default).drive ≤ (t.homes.getD h default).gone
  sea : ∀ j ∈ L, sumN (fun h => if p h = true ∧ a h = j then peo t h else 0) 8 ≤ t.seats
  roo : ∀ i, i < t.halls.length → sumN (fun h => if p h = true ∧ g (a h) = i then peo t h else 0) 8 ≤ r i
def Feas (t : Town) (p : Nat → Bool) (r : Nat → Int) (L : List Nat) : Prop := ∃ a g, FeasA t p r L a g
theorem toSt_room {t : Town} {s : Sta} {m i j : Nat} (hi : i < 3) (hj : j < 3) : (toSt t s m i).room j = if j = i then s.room i - ppl t (lst m) else s.room j := by
  rcases (by omega : i = 0 ∨ i = 1 ∨ i = 2) with rfl | rfl | rfl <;> rcases (by omega : j = 0 ∨ j = 1 ∨ j = 2) with rfl | rfl | rfl <;> simp [toSt, Sta.room]
theorem foldV_le1 {g : Sta → Int} : ∀ (l : List (Bus × Sta)) (a : Int), foldV g l a ≤ a
  | [], a => by simp [foldV]
  | p :: l, a => by
    simp only [foldV]
    have := foldV_le1 (g := g) l (min a (1 + g p.2))
    omega
theorem foldV_le2 {g : Sta → Int} {p : Bus × Sta} : ∀ (l : List (Bus × Sta)) (a : Int), p ∈ l → foldV g l a ≤ 1 + g p.2
  | [], a, h => by simp at h
  | q :: l, a, h => by
    simp only [foldV]
    rcases List.mem_cons.1 h with rfl | h
    · have := foldV_le1 (g := g) l (min a (1 + g p.2)); omega
    · exact foldV_le2 l _ h
/-- What a bus of a set needs. -/
theorem may_iff {t : Town} {M i : Nat} (ht : TownOK t) (hM : M < 2 ^ t.homes.length) (h0 : M ≠ 0) : mayB t (mkBus t M i) = true ↔ ppl t (lst M) ≤ t.seats ∧ (∀ h, M.testBit h = true → andn (t.homes.getD h default).pets (t.halls.getD i default).pets = 0) ∧
    (∀ h h', M.testBit h = true → M.testBit h' = true → worstN t (t.homes.getD h' default) + (t.halls.getD i default).drive ≤ (t.homes.getD h default).gone) := by
  have hln := ht.homes
  have hM8 : M < 256 := Nat.lt_of_lt_of_le hM (show 2 ^ t.homes.length ≤ 2 ^ 8 from Nat.pow_le_pow_right (by omega) (by omega))
  have hin := lst_in hM hln.2
  have hmem : ∀ h, M.testBit h = true → (h : Int) ∈ lst M ∧ h < t.homes.length := fun h hb => by
    have h8 := bit_lt hM8 hb
    have : (h : Int) ∈ lst M := lst_mem.2 ⟨by omega, by omega, by simpa using hb⟩
    exact ⟨this, by have := hin _ this; omega⟩
  simp only [mayB, Bool.and_eq_true, decide_eq_true_eq, List.all_eq_true, sheB, timB]
  show (ppl t (lst M) ≤ t.seats ∧ (∀ x ∈ lst M, andn (t.homes.getD x.toNat default).pets (t.halls.getD ((i : Nat) : Int).toNat default).pets = 0)) ∧ (∀ x ∈ lst M, (worstL t).getD x.toNat 0 ≤ leaveL t (lst M) (lst M).length ∧ leaveL t (lst M) (lst M).length + (t.halls.getD ((i : Nat) : Int).toNat default).drive ≤ (t.homes.getD x.toNat default).gone) ↔ _
  rw [Int.toNat_natCast]
  constructor
  · rintro ⟨⟨h1, h2⟩, h3⟩
    refine ⟨h1, fun h hb => ?_, fun h h' hb hb' => ?_⟩
    · have := h2 _ (hmem h hb).1
      simpa using this
    · obtain ⟨m1, l1⟩ := hmem h hb
      obtain ⟨m2, l2⟩ := hmem h' hb'
      have h4 := (h3 _ m1).2
      have h5 := leave_ge (t := t) m2
      have h6 := worst_at (t := t) (x := (h' : Int)) (by omega)
      simp only [Int.toNat_natCast] at h4 h5 h6
      omega
  · rintro ⟨h1, h2, h3⟩
    refine ⟨⟨h1, fun x hx => ?_⟩, fun x hx => ⟨leave_ge hx, ?_⟩⟩
    · exact h2 _ (lst_mem.1 hx).2.2
    · have hb := (lst_mem.1 hx).2.2
      have hx1 := hin x hx
      have hle : leaveL t (lst M) (lst M).length ≤ (t.homes.getD x.toNat default).gone - (t.halls.getD i default).drive := by
        have h5 := h3 _ _ hb hb
        have h6 := (worstN_bd ht (i := x.toNat) (by omega)).1
        refine leave_le (by omega) (fun y hy => ?_)
        have h7 := h3 _ _ hb (lst_mem.1 hy).2.2
        rw [worst_at (hin y hy)]
        omega
      omega
end Go.Am

/- Plain words: the fewest buses of a state are the least number of buses that its homes can share. No program is in sight. -/
namespace Go.Am
set_option linter.unusedSimpArgs false
set_option linter.unusedVariables false

theorem peo_nonneg {t : Town} (ht : TownOK t) {h : Nat} (hh : h < t.homes.length) : 0 ≤ peo t h := by
  have := (ht.home h hh).people; unfold peo; omega
theorem rest_bit {t : Town} {s : Sta} (hs : StOK t s) (ht : TownOK t) {h : Nat} (hb : s.rest.testBit h = true) : h < t.homes.length := by
  by_cases e : h < t.homes.length
  · exact e
  · rw [Nat.testBit_lt_two_pow (Nat.lt_of_lt_of_le hs.rest (Nat.pow_le_pow_right (by omega) (by omega)))] at hb
    cases hb
/-- A share has as many buses as are needed, or more. -/
theorem need_le {t : Town} (ht : TownOK t) : ∀ (n : Nat) (s : Sta), s.rest = n → StOK t s → ∀ L : List Nat, Feas t s.rest.testBit s.room L → needV t s ≤ L.length := by
  intro n
  induction n using Nat.strongRecOn with
  | ind n ih =>
    intro s hn hs L hF
    have hr := hs.lt ht
    rw [needV_eq hr]
    by_cases h0 : s.rest = 0
    · rw [if_pos h0]; omega
    · rw [if_neg h0]
      obtain ⟨a, g, F⟩ := hF
      obtain ⟨h0', h8, hlow, hrb⟩ := low_ex hr h0
      obtain ⟨hl1, hl2, hl3⟩ := F.lab h0' h8 hrb
      have hhl := ht.halls
      have hln := ht.homes
      -- the bus of the first home
      let x := mkN (fun h => s.rest.testBit h && (!(lowB s.rest).testBit h && decide (a h = a h0'))) 8
      have hxb : ∀ i, x.testBit i = (decide (i < 8) && (s.rest.testBit i && (!(lowB s.rest).testBit i && decide (a i = a h0')))) := fun i => mkN_bit
      have hlowlt := lowB_lt hr
      have holt : othB s.rest < 256 := ndiff_lt hr
      have hxlt : x < 256 := Nat.lt_of_le_of_lt (Nat.le_refl _) (Nat.lt_pow_two_of_testBit x (n := 8) (fun i hi => by rw [hxb, decide_eq_false (by omega)]; rfl))
      have hx : x &&& othB s.rest = x := by
        refine bit_ext (Nat.lt_of_le_of_lt Nat.and_le_left hxlt) hxlt fun i hi => ?_
        rw [Nat.testBit_and, hxb]
        unfold othB
        rw [ndiff_bit hi]
        cases s.rest.testBit i <;> cases (lowB s.rest).testBit i <;> simp
      have hMb : ∀ i, i < 8 → (lowB s.rest ||| x).testBit i = (s.rest.testBit i && decide (a i = a h0')) := fun i hi => by
        rw [Nat.testBit_or, hxb]
        cases e1 : (lowB s.rest).testBit i
        · simp [hi]
        · have e2 := low_one hr e1 hlow
          subst e2
          simp [hrb]
      have hMlt : (lowB s.rest ||| x) < 2 ^ t.homes.length := by
        have := sub_le (mask_sub hr hx); have := hs.rest; omega
      have hM0 : lowB s.rest ||| x ≠ 0 := by
        intro e
        have := hMb h0' h8
        rw [e, hrb] at this
        simp at this
      have hM8 : lowB s.rest ||| x < 256 := Nat.or_lt_two_pow (n := 8) hlowlt hxlt
      have hp : ppl t (lst (lowB s.rest ||| x)) = sumN (fun h => if s.rest.testBit h = true ∧ a h = a h0' then peo t h else 0) 8 := by
        rw [ppl_lst]
        refine sumN_congr fun i hi => ?_
        rw [hMb i hi]
        by_cases e1 : s.rest.testBit i = true ∧ a i = a h0'
        · rw [if_pos e1, if_pos (by rw [e1.1]; simp [e1.2])]
        · rw [if_neg e1, if_neg (by intro h; apply e1; simpa using h)]
      have hfit : fitsB t s (lowB s.rest ||| x) (g (a h0')) = true := by
        simp only [fitsB, Bool.and_eq_true, decide_eq_true_eq]
        refine ⟨?_, (may_iff ht hMlt hM0).2 ⟨?_, fun h hb => ?_, fun h h' hb hb' => ?_⟩⟩
        · rw [hp]
          refine Int.le_trans (sumN_le fun i hi => ?_) (F.roo _ hl3)
          by_cases e1 : s.rest.testBit i = true ∧ a i = a h0'
          · rw [if_pos e1, if_pos ⟨e1.1, by rw [e1.2]⟩]; omega
          · rw [if_neg e1]
            split
            · rename_i e2; exact peo_nonneg ht (F.lab i hi e2.1).1
            · omega
        · rw [hp]; exact F.sea _ hl2
        · have h9 := bit_lt hM8 hb
          rw [hMb h h9, Bool.and_eq_true, decide_eq_true_eq] at hb
          have := F.pet h h9 hb.1
          rwa [hb.2] at this
        · have h9 := bit_lt hM8 hb
          have h9' := bit_lt hM8 hb'
          rw [hMb h h9, Bool.and_eq_true, decide_eq_true_eq] at hb
          rw [hMb h' h9', Bool.and_eq_true, decide_eq_true_eq] at hb'
          have := F.tim h h' h9 h9' hb.1 hb'.1 (by rw [hb.2, hb'.2])
          rwa [hb.2] at this
      have hmem : (mkBus t (lowB s.rest ||| x) (g (a h0')), toSt t s (lowB s.rest ||| x) (g (a h0'))) ∈ nextL t s := (nextL_mem hr).2 ⟨x, _, hx, hl3, hfit, rfl⟩
      have hto := toSt_ok ht hs h0 hx hl3 hfit
      have hlt := nextL_rest hr h0 hmem
      have h1 := foldV_le2 (g := needV t) (nextL t s) 1000 hmem
      have hrest : ∀ i, i < 8 → (toSt t s (lowB s.rest ||| x) (g (a h0'))).rest.testBit i = (s.rest.testBit i && !decide (a i = a h0')) := fun i hi => by
        show (ndiff s.rest (lowB s.rest ||| x)).testBit i = _
        rw [ndiff_bit hi, hMb i hi]
        cases s.rest.testBit i <;> simp
      have hF2 : Feas t (toSt t s (lowB s.rest ||| x) (g (a h0'))).rest.testBit (toSt t s (lowB s.rest ||| x) (g (a h0'))).room (L.erase (a h0')) := by
        have hor : ∀ i, i < 8 → (toSt t s (lowB s.rest ||| x) (g (a h0'))).rest.testBit i = true → s.rest.testBit i = true ∧ a i ≠ a h0' := fun i hi h => by
          rw [hrest i hi] at h; simpa using h
        refine ⟨a, g, ⟨fun h hh hb => ?_, fun h hh hb => F.pet h hh (hor h hh hb).1, fun h h' hh hh' hb hb' e => F.tim h h' hh hh' (hor h hh hb).1 (hor h' hh' hb').1 e, fun j hj => ?_, fun i hi => ?_⟩⟩
        · obtain ⟨b1, b2⟩ := hor h hh hb
          obtain ⟨c1, c2, c3⟩ := F.lab h hh b1
          exact ⟨c1, (List.mem_erase_of_ne b2).2 c2, c3⟩
        · refine Int.le_trans (sumN_le fun i hi => ?_) (F.sea j (List.mem_of_mem_erase hj))
          by_cases e1 : (toSt t s (lowB s.rest ||| x) (g (a h0'))).rest.testBit i = true ∧ a i = j
          · rw [if_pos e1, if_pos ⟨(hor i hi e1.1).1, e1.2⟩]; omega
          · rw [if_neg e1]
            split
            · rename_i e2; exact peo_nonneg ht (F.lab i hi e2.1).1
            · omega
        · rw [toSt_room (by omega) (by omega)]
          have hr0 := F.roo i hi
          by_cases e : i = g (a h0')
          · rw [if_pos e, hp]
            have e2 : sumN (fun h => if s.rest.testBit h = true ∧ g (a h) = i then peo t h else 0) 8 = sumN (fun h => (if s.rest.testBit h = true ∧ a h = a h0' then peo t h else 0) + (if (toSt t s (lowB s.rest ||| x) (g (a h0'))).rest.testBit h = true ∧ g (a h) = i then peo t h else 0)) 8 := by
              refine sumN_congr fun h hh => ?_
              rw [hrest h hh]
              cases hb : s.rest.testBit h
              · simp
              · by_cases e3 : a h = a h0'
                · simp [e3, e]
                · by_cases e4 : g (a h) = i
                  · simp [e3, e4]
                  · simp [e3, e4]
            rw [e2, sumN_add] at hr0
            rw [e] at hr0 ⊢
            omega
          · rw [if_neg e]
            refine Int.le_trans (sumN_le fun h hh => ?_) hr0
            by_cases e1 : (toSt t s (lowB s.rest ||| x) (g (a h0'))).rest.testBit h = true ∧ g (a h) = i
            · rw [if_pos e1, if_pos ⟨(hor h hh e1.1).1, e1.2⟩]; omega
            · rw [if_neg e1]
              split
              · rename_i e2; exact peo_nonneg ht (F.lab h hh e2.1).1
              · omega
      have h2 := ih _ (by rw [← hn]; exact hlt) _ rfl hto _ hF2
      have h3 := List.length_erase_of_mem hl2
      have h4 : 0 < L.length := List.length_pos_of_mem hl2
      simp only at h1
      omega
/-- If fewer than 1000 buses are needed, so many can be shared. -/
theorem need_feas {t : Town} (ht : TownOK t) : ∀ (n : Nat) (s : Sta), s.rest = n → StOK t s → needV t s < 1000 → Feas t s.rest.testBit s.room (List.range (needV t s).toNat) := by
  intro n
  induction n using Nat.strongRecOn with
  | ind n ih =>
    intro s hn hs hlt
    have hr := hs.lt ht
    have hhl := ht.halls
    by_cases h0 : s.rest = 0
    · refine ⟨fun _ => 0, fun _ => 0, ⟨fun h _ hb => ?_, fun h _ hb => ?_, fun h h' _ _ hb => ?_, fun j hj => ?_, fun i hi => ?_⟩⟩
      · rw [h0, Nat.zero_testBit] at hb; cases hb
      · rw [h0, Nat.zero_testBit] at hb; cases hb
      · rw [h0, Nat.zero_testBit] at hb; cases hb
      · have e : sumN (fun h => if s.rest.testBit h = true ∧ 0 = j then peo t h else 0) 8 = 0 := by
          rw [h0]; simp only [Nat.zero_testBit, Bool.false_eq_true, false_and, if_false]; exact sumN_zero
        rw [e]; have := ht.seats; omega
      · have e : sumN (fun h => if s.rest.testBit h = true ∧ 0 = i then peo t h else 0) 8 = 0 := by
          rw [h0]; simp only [Nat.zero_testBit, Bool.false_eq_true, false_and, if_false]; exact sumN_zero
        rw [e]; exact (hs.room i).1
    · obtain ⟨p, hp1, hp2, hp3⟩ := find_some hr h0 hlt
      obtain ⟨x, i, hx, hi, hf, rfl⟩ := (nextL_mem hr).1 hp2
      have hto := toSt_ok ht hs h0 hx hi hf
      have hlt2 := nextL_rest hr h0 hp2
      simp only at hp3 hlt2
      have hMlt : (lowB s.rest ||| x) < 2 ^ t.homes.length := by
        have := sub_le (mask_sub hr hx); have := hs.rest; omega
      have hMr := mask_sub hr hx
      have hM0 : lowB s.rest ||| x ≠ 0 := by
        intro e
        have h1 := low_pos hr h0
        have h2 : lowB s.rest ≤ lowB s.rest ||| x := Nat.left_le_or
        omega
      generalize hM : lowB s.rest ||| x = M at *
      have hM8 : M < 256 := by have := sub_le hMr; omega
      have hb1 := needV_bd (t := t) (s := toSt t s M i)
      obtain ⟨a', g', F⟩ := ih _ (by rw [← hn]; exact hlt2) _ rfl hto (by omega)
      obtain ⟨k, hk⟩ : ∃ k : Nat, needV t (toSt t s M i) = k := ⟨(needV t (toSt t s M i)).toNat, by omega⟩
      rw [hk, Int.toNat_natCast] at F
      have hk1 : (needV t s).toNat = k + 1 := by omega
      rw [hk1]
      have hrest : ∀ h, h < 8 → (toSt t s M i).rest.testBit h = (s.rest.testBit h && !M.testBit h) := fun h hh => ndiff_bit hh
      simp only [fitsB, Bool.and_eq_true, decide_eq_true_eq] at hf
      obtain ⟨hf1, hf2⟩ := hf
      obtain ⟨m1, m2, m3⟩ := (may_iff ht hMlt hM0).1 hf2
      have hMs : ∀ h, M.testBit h = true → s.rest.testBit h = true := fun h hb => and_sub_bit hMr hb
      have hp := ppl_lst (t := t) (m := M)
      have hak : ∀ h, h < 8 → s.rest.testBit h = true → M.testBit h = false → (toSt t s M i).rest.testBit h = true ∧ a' h < k := fun h hh hb hm => by
        have h1 : (toSt t s M i).rest.testBit h = true := by rw [hrest h hh, hb, hm]; rfl
        exact ⟨h1, List.mem_range.1 (F.lab h hh h1).2.1⟩
      refine ⟨fun h => if M.testBit h = true then k else a' h, fun j => if j = k then i else g' j, ⟨fun h hh hb => ?_, fun h hh hb => ?_, fun h h' hh hh' hb hb' e => ?_, fun j hj => ?_, fun j hj => ?_⟩⟩
      · cases hm : M.testBit h
        · obtain ⟨b1, b2⟩ := hak h hh hb hm
          have b3 := F.lab h hh b1
          simp only [Bool.false_eq_true, if_false]
          rw [if_neg (by omega)]
          exact ⟨b3.1, List.mem_range.2 (by omega), b3.2.2⟩
        · simp only [if_true]
          exact ⟨rest_bit hs ht hb, List.mem_range.2 (by omega), hi⟩
      · cases hm : M.testBit h
        · obtain ⟨b1, b2⟩ := hak h hh hb hm
          simp only [Bool.false_eq_true, if_false]
          rw [if_neg (by omega)]
          exact F.pet h hh b1
        · simp only [if_true]
          exact m2 h hm
      · cases hm : M.testBit h
        · obtain ⟨b1, b2⟩ := hak h hh hb hm
          simp only [hm, Bool.false_eq_true, if_false] at e ⊢
          rw [if_neg (by omega)]
          cases hm' : M.testBit h'
          · obtain ⟨b1', b2'⟩ := hak h' hh' hb' hm'
            simp only [hm', Bool.false_eq_true, if_false] at e
            exact F.tim h h' hh hh' b1 b1' e
          · simp only [hm', if_true] at e
            omega
        · simp only [hm, if_true] at e ⊢
          cases hm' : M.testBit h'
          · obtain ⟨b1', b2'⟩ := hak h' hh' hb' hm'
            simp only [hm', Bool.false_eq_true, if_false] at e
            omega
          · exact m3 h h' hm hm'
      · have hj' := List.mem_range.1 hj
        by_cases e : j = k
        · subst e
          have e1 : sumN (fun h => if s.rest.testBit h = true ∧ (if M.testBit h = true then j else a' h) = j then peo t h else 0) 8 = sumN (fun h => if M.testBit h = true then peo t h else 0) 8 := by
            refine sumN_congr fun h hh => ?_
            cases hm : M.testBit h
            · by_cases hb : s.rest.testBit h = true
              · have := (hak h hh hb hm).2
                rw [if_neg (by rintro ⟨_, h3⟩; simp at h3; omega)]; simp
              · rw [if_neg (by rintro ⟨h3, _⟩; exact hb h3)]; simp
            · rw [if_pos ⟨hMs h hm, by simp⟩]; simp
          rw [e1, ← hp]; exact m1
        · have e1 : sumN (fun h => if s.rest.testBit h = true ∧ (if M.testBit h = true then k else a' h) = j then peo t h else 0) 8 = sumN (fun h => if (toSt t s M i).rest.testBit h = true ∧ a' h = j then peo t h else 0) 8 := by
            refine sumN_congr fun h hh => ?_
            rw [hrest h hh]
            cases hm : M.testBit h
            · cases s.rest.testBit h <;> simp
            · have : ¬ k = j := fun h => e h.symm
              simp [this]
          rw [e1]; exact F.sea j (List.mem_range.2 (by omega))
      · have hrj := F.roo j hj
        rw [toSt_room (by omega) (by omega)] at hrj
        have e1 : sumN (fun h => if s.rest.testBit h = true ∧ (if (if M.testBit h = true then k else a' h) = k then i else g' (if M.testBit h = true then k else a' h)) = j then peo t h else 0) 8 = sumN (fun h => (if M.testBit h = true ∧ i = j then peo t h else 0) + (if (toSt t s M i).rest.testBit h = true ∧ g' (a' h) = j then peo t h else 0)) 8 := by
          refine sumN_congr fun h hh => ?_
          rw [hrest h hh]
          cases hm : M.testBit h
          · cases hb : s.rest.testBit h
            · simp
            · have := (hak h hh hb hm).2
              have e2 : ¬ a' h = k := by omega
              simp [e2]
          · have := hMs h hm
            by_cases e3 : i = j
            · simp [this, e3]
            · simp [this, e3]
        rw [e1, sumN_add]
        by_cases e : j = i
        · subst e
          simp only [and_true]
          rw [← hp]
          simp only [if_true] at hrj
          omega
        · rw [if_neg e] at hrj
          have e2 : sumN (fun h => if M.testBit h = true ∧ i = j then peo t h else 0) 8 = 0 := by
            simp only [Ne.symm e, and_false, if_false]; exact sumN_zero
          rw [e2]; omega
end Go.Am

/- Plain words: right plans are shares of the homes among buses; the program's plan is right, and has the fewest buses. No program is in sight. -/
namespace Go.Am
set_option linter.unusedSimpArgs false
set_option linter.unusedVariables false

theorem getD_take {α : Type} {l : List α} {d : α} {k j : Nat} (h : j < k) : (l.take k).getD j d = l.getD j d := by
  simp [List.getD_eq_getElem?_getD, List.getElem?_take, h]
/-- What the marks of a bus say. -/
theorem mark_some {l : List Int} {I : List Bool} {n : Nat} (hI : I.length = n) (hl : ∀ x ∈ l, 0 ≤ x ∧ x < n) : ∀ (k : Nat) (J : List Bool), k ≤ l.length → markN l I k = some J →
    (l.take k).Nodup ∧ (∀ x ∈ l.take k, I.getD x.toNat false = false) ∧ ∀ h, h < n → J.getD h false = (I.getD h false || decide ((h : Int) ∈ l.take k))
  | 0, J, _, h => by
    simp only [markN, Option.some.injEq] at h
    subst h
    simp
  | k + 1, J, hk, h => by
    simp only [markN] at h
    split at h
    · cases h
    · rename_i J' hJ'
      split at h
      · cases h
      · rename_i hc
        simp only [Option.some.injEq] at h
        obtain ⟨h1, h2, h3⟩ := mark_some hI hl k J' (by omega) hJ'
        have hx := hl _ (getD_mem (d := 0) (i := k) (by omega))
        have hJl := markN_length hI hl k (by omega) hJ'
        have hc1 : J'.getD (l.getD k 0).toNat false = false := by
          cases e : J'.getD (l.getD k 0).toNat false
          · rfl
          · exact absurd (.inl e) hc
        have h4 := h3 (l.getD k 0).toNat (by omega)
        rw [hc1, show (((l.getD k 0).toNat : Nat) : Int) = l.getD k 0 by omega] at h4
        have h5 := h4.symm
        simp only [Bool.or_eq_false_iff, decide_eq_false_iff_not] at h5
        rw [take_snoc (d := 0) (by omega)]
        refine ⟨?_, fun x hx2 => ?_, fun h' hh => ?_⟩
        · rw [List.nodup_append]
          refine ⟨h1, by simp, fun a ha b hb => ?_⟩
          simp only [List.mem_singleton] at hb
          rintro rfl
          rw [hb] at ha
          exact h5.2 ha
        · rcases List.mem_append.1 hx2 with hx2 | hx2
          · exact h2 x hx2
          · simp only [List.mem_singleton] at hx2
            rw [hx2]; exact h5.1
        · rw [← h, isp_getD (by omega), h3 h' hh]
          by_cases e : h' = (l.getD k 0).toNat
          · rw [if_pos e]
            have : (h' : Int) ∈ l.take k ++ [l.getD k 0] := List.mem_append.2 (.inr (by rw [List.mem_singleton, e]; omega))
            rw [decide_eq_true this]; simp
          · rw [if_neg e]
            have : ((h' : Int) ∈ l.take k ++ [l.getD k 0]) ↔ (h' : Int) ∈ l.take k := by
              rw [List.mem_append, List.mem_singleton]
              constructor
              · rintro (h6 | h6)
                · exact h6
                · exact absurd (show h' = (l.getD k 0).toNat by omega) e
              · exact .inl
            rw [decide_eq_decide.2 this]
/-- Rising homes without marks can be marked. -/
theorem mark_ok {l : List Int} {I : List Bool} {n : Nat} (hI : I.length = n) (hl : ∀ x ∈ l, 0 ≤ x ∧ x < n) (hr : l.Pairwise (· < ·)) (hf : ∀ x ∈ l, I.getD x.toNat false = false) : ∀ (k : Nat), k ≤ l.length → ∃ J, markN l I k = some J
  | 0, _ => ⟨I, rfl⟩
  | k + 1, hk => by
    obtain ⟨J, hJ⟩ := mark_ok hI hl hr hf k (by omega)
    obtain ⟨h1, h2, h3⟩ := mark_some hI hl k J (by omega) hJ
    have hx := hl _ (getD_mem (d := 0) (i := k) (by omega))
    simp only [markN, hJ]
    have hlt : ∀ j, j < k → l.getD j 0 < l.getD k 0 := fun j hj => by
      have := List.pairwise_iff_getElem.1 hr j k (by omega) (by omega) hj
      simpa [List.getD_eq_getElem?_getD, show j < l.length by omega, show k < l.length by omega] using this
    have hc : ¬ (J.getD (l.getD k 0).toNat false = true ∨ (0 < k ∧ l.getD k 0 ≤ l.getD (k - 1) 0)) := by
      rintro (h4 | ⟨h4, h5⟩)
      · rw [h3 _ (by omega), hf _ (getD_mem (by omega))] at h4
        simp only [Bool.false_or, decide_eq_true_eq] at h4
        obtain ⟨j, hj, e⟩ := mem_getD (d := 0) h4
        have hj2 : j < k := by simp at hj; omega
        rw [getD_take hj2] at e
        have := hlt j hj2
        omega
      · have := hlt (k - 1) (by omega); omega
    rw [if_neg hc]
    exact ⟨_, rfl⟩
/-- What is known of the first buses of a plan that are right so far. -/
structure RunI (t : Town) (plan : List Bus) (k : Nat) (S : List Bool × List Int) : Prop where
  bus : ∀ j, j < k → BusG t (plan.getD j default) ∧ (plan.getD j default).homes.Nodup
  mark : ∀ h, h < t.homes.length → (S.1.getD h false = true ↔ ∃ j, j < k ∧ (h : Int) ∈ (plan.getD j default).homes)
  once : ∀ j j', j < j' → j' < k → ∀ x ∈ (plan.getD j default).homes, x ∉ (plan.getD j' default).homes
  room : ∀ i, i < t.halls.length → S.2.getD i 0 = sumN (fun j => if (plan.getD j default).hall.toNat = i then ppl t (plan.getD j default).homes else 0) k
theorem runI {t : Town} {plan : List Bus} (ht : TownOK t) : ∀ (k : Nat) (S : List Bool × List Int), runN t plan k = some S → RunI t plan k S
  | 0, S, h => by
    simp only [runN, Option.some.injEq] at h
    subst h
    refine ⟨fun j hj => by omega, fun h hh => ?_, fun j j' _ hj => by omega, fun i hi => ?_⟩
    · simp only [tab_getD hh]; simp
    · simp only [tab_getD hi, sumN]
  | k + 1, S, h => by
    have hl := runN_length (plan := plan) ht (k + 1) S h
    simp only [runN] at h
    split at h
    · cases h
    · rename_i S' hS'
      have ih := runI ht k S' hS'
      obtain ⟨l1, l2, l3⟩ := runN_length ht k S' hS'
      unfold busN at h
      split at h
      · rename_i hG
        split at h
        · cases h
        · rename_i J hJ
          simp only [Option.some.injEq] at h
          subst h
          obtain ⟨m1, m2, m3⟩ := mark_some l1 hG.homes _ J (Nat.le_refl _) hJ
          rw [List.take_length] at m1 m2 m3
          have hh := hG.hall
          refine ⟨fun j hj => ?_, fun h hh => ?_, fun j j' hjj hj' x hx hx' => ?_, fun i hi => ?_⟩
          · rcases Nat.lt_succ_iff_lt_or_eq.1 hj with hj | rfl
            · exact ih.bus j hj
            · exact ⟨hG, m1⟩
          · simp only
            rw [m3 h hh, Bool.or_eq_true, ih.mark h hh, decide_eq_true_eq]
            constructor
            · rintro (⟨j, h1, h2⟩ | h1)
              · exact ⟨j, by omega, h2⟩
              · exact ⟨k, by omega, h1⟩
            · rintro ⟨j, h1, h2⟩
              rcases Nat.lt_succ_iff_lt_or_eq.1 h1 with h1 | rfl
              · exact .inl ⟨j, h1, h2⟩
              · exact .inr h2
          · rcases Nat.lt_succ_iff_lt_or_eq.1 hj' with hj' | rfl
            · exact ih.once j j' hjj hj' x hx hx'
            · have h1 := m2 x hx'
              have h2 := hG.homes x hx'
              have h3 := (ih.mark x.toNat (by omega)).2 ⟨j, hjj, by rw [show ((x.toNat : Nat) : Int) = x by omega]; exact hx⟩
              rw [h1] at h3; cases h3
          · simp only [sumN]
            rw [isp_getD (by omega), ih.room i hi]
            by_cases e : i = (plan.getD k default).hall.toNat
            · rw [if_pos e, if_pos e.symm, ih.room _ (by omega), ← e]
            · rw [if_neg e, if_neg (Ne.symm e)]; omega
      · cases h
theorem rightB_some {t : Town} {plan : List Bus} (h : rightB t plan = true) : ∃ S, runN t plan plan.length = some S ∧ plan.length ≤ 8 ∧ (∀ i, i < t.halls.length → S.2.getD i 0 ≤ (t.halls.getD i default).room) ∧ S.1.any (fun x => !x) = false := by
  unfold rightB at h
  split at h
  · cases h
  · rename_i S hS
    simp only [Bool.and_eq_true, decide_eq_true_eq, Bool.not_eq_true'] at h
    exact ⟨S, hS, h.1.1, h.1.2, h.2⟩
/-- A right plan is a share of all homes. -/
theorem right_feas {t : Town} {plan : List Bus} (ht : TownOK t) (h : rightB t plan = true) : Feas t (fun h => decide (h < t.homes.length)) (fun i => (t.halls.getD i default).room) (List.range plan.length) := by
  obtain ⟨S, hS, h8, hroom, hall⟩ := rightB_some h
  have R := runI ht _ S hS
  obtain ⟨l1, l2, l3⟩ := runN_length ht _ S hS
  have hln := ht.homes
  have hmk : ∀ h, h < t.homes.length → ∃ j, j < plan.length ∧ (h : Int) ∈ (plan.getD j default).homes := fun h hh => by
    refine (R.mark h hh).1 ?_
    rw [List.any_eq_false] at hall
    have := hall _ (getD_mem (d := false) (i := h) (by omega))
    simpa using this
  have hch : ∃ a : Nat → Nat, ∀ h, h < t.homes.length → a h < plan.length ∧ (h : Int) ∈ (plan.getD (a h) default).homes := by
    refine ⟨fun h => if hh : h < t.homes.length then (hmk h hh).choose else 0, fun h hh => ?_⟩
    simp only [hh, dif_pos]
    exact (hmk h hh).choose_spec
  obtain ⟨a, ha⟩ := hch
  have hun : ∀ h j, h < t.homes.length → j < plan.length → (h : Int) ∈ (plan.getD j default).homes → a h = j := fun h j hh hj hm => by
    obtain ⟨a1, a2⟩ := ha h hh
    rcases Nat.lt_trichotomy (a h) j with h1 | h1 | h1
    · exact absurd hm (R.once _ _ h1 hj _ a2)
    · exact h1
    · exact absurd a2 (R.once _ _ h1 a1 _ hm)
  have hmay : ∀ j, j < plan.length → ppl t (plan.getD j default).homes ≤ t.seats ∧ (∀ x ∈ (plan.getD j default).homes, sheB t (plan.getD j default) x = true) ∧ (∀ x ∈ (plan.getD j default).homes, timB t (plan.getD j default) x = true) := fun j hj => by
    have := (R.bus j hj).1.may
    simp only [mayB, Bool.and_eq_true, decide_eq_true_eq, List.all_eq_true] at this
    exact ⟨this.1.1, this.1.2, this.2⟩
  have hsum : ∀ j, j < plan.length → sumN (fun h => if decide (h < t.homes.length) = true ∧ a h = j then peo t h else 0) 8 = ppl t (plan.getD j default).homes := fun j hj => by
    obtain ⟨b1, b2⟩ := R.bus j hj
    rw [ppl_sum b2 (fun x hx => by have := b1.homes x hx; omega)]
    refine sumN_congr fun h hh => ?_
    by_cases e : (h : Int) ∈ (plan.getD j default).homes
    · have := b1.homes _ e
      rw [if_pos e, if_pos ⟨decide_eq_true (by omega), hun h j (by omega) hj e⟩]
    · rw [if_neg e, if_neg]
      rintro ⟨e1, e2⟩
      have := (ha h (of_decide_eq_true e1)).2
      rw [e2] at this
      exact e this
  refine ⟨a, fun j => (plan.getD j default).hall.toNat, ⟨fun h hh hb => ?_, fun h hh hb => ?_, fun h h' hh hh' hb hb' e => ?_, fun j hj => ?_, fun i hi => ?_⟩⟩
  · have h1 := of_decide_eq_true hb
    have h2 := ha h h1
    have h3 := (R.bus _ h2.1).1.hall
    exact ⟨h1, List.mem_range.2 h2.1, by omega⟩
  · have h2 := ha h (of_decide_eq_true hb)
    have := (hmay _ h2.1).2.1 _ h2.2
    simp only [sheB, decide_eq_true_eq, Int.toNat_natCast] at this
    exact this
  · have h1 := of_decide_eq_true hb
    have h1' := of_decide_eq_true hb'
    have h2 := ha h h1
    have h2' := ha h' h1'
    rw [← e] at h2'
    have h3 := (hmay _ h2.1).2.2 _ h2.2
    have h3' := (hmay _ h2.1).2.2 _ h2'.2
    simp only [timB, decide_eq_true_eq, Int.toNat_natCast] at h3 h3'
    have h4 := worst_at (t := t) (x := (h' : Int)) (by omega)
    simp only [Int.toNat_natCast] at h4
    omega
  · rw [hsum j (List.mem_range.1 hj)]
    exact (hmay j (List.mem_range.1 hj)).1
  · have h1 := hroom i hi
    rw [R.room i hi] at h1
    refine Int.le_trans (Int.le_of_eq ?_) h1
    have e1 : sumN (fun h => if decide (h < t.homes.length) = true ∧ (plan.getD (a h) default).hall.toNat = i then peo t h else 0) 8 = sumN (fun h => sumN (fun j => if (plan.getD j default).hall.toNat = i then (if decide (h < t.homes.length) = true ∧ a h = j then peo t h else 0) else 0) plan.length) 8 := by
      refine sumN_congr fun h hh => ?_
      by_cases e : h < t.homes.length
      · have h2 := ha h e
        have e2 : sumN (fun j => if (plan.getD j default).hall.toNat = i then (if decide (h < t.homes.length) = true ∧ a h = j then peo t h else 0) else 0) plan.length = sumN (fun j => if j = a h then (if (plan.getD (a h) default).hall.toNat = i then peo t h else 0) else 0) plan.length := by
          refine sumN_congr fun j hj => ?_
          by_cases e3 : j = a h
          · subst e3; simp [e]
          · have : ¬ a h = j := Ne.symm e3
            simp [e3, this]
        rw [e2, sumN_pick, if_pos h2.1]
        simp [e]
      · have e2 : sumN (fun j => if (plan.getD j default).hall.toNat = i then (if decide (h < t.homes.length) = true ∧ a h = j then peo t h else 0) else 0) plan.length = 0 := by
          have : ∀ j, j < plan.length → (if (plan.getD j default).hall.toNat = i then (if decide (h < t.homes.length) = true ∧ a h = j then peo t h else 0) else 0) = (0 : Int) := fun j _ => by simp [e]
          rw [sumN_congr (g := fun _ => 0) this, sumN_zero]
        rw [e2]; simp [e]
    rw [e1, sumN_swap]
    refine sumN_congr fun j hj => ?_
    by_cases e : (plan.getD j default).hall.toNat = i
    · simp only [e, if_true]; exact hsum j hj
    · simp only [e, if_false]; exact sumN_zero
end Go.Am

/- Plain words: the program's plan is right, and has the fewest buses. No program is in sight. -/
namespace Go.Am
set_option linter.unusedSimpArgs false
set_option linter.unusedVariables false

theorem planF_length {t : Town} (ht : TownOK t) : ∀ (f : Nat) (s : Sta), StOK t s → s.rest < f → needV t s < 1000 → ((planF t f s).length : Int) = needV t s
  | 0, s, _, h, _ => by omega
  | f + 1, s, hs, hf, hn => by
    have hr := hs.lt ht
    simp only [planF]
    by_cases h0 : s.rest = 0
    · rw [if_pos h0, needV_eq hr, if_pos h0]; rfl
    · rw [if_neg h0]
      obtain ⟨p, hp1, hp2, hp3⟩ := find_some hr h0 hn
      rw [hp1]
      have hlt := nextL_rest hr h0 hp2
      have hps : StOK t p.2 := by
        obtain ⟨x, j, h1, h2, h3, h4⟩ := (nextL_mem hr).1 hp2
        rw [h4]; exact toSt_ok ht hs h0 h1 h2 h3
      have hb := needV_bd (t := t) (s := p.2)
      have ih := planF_length ht f p.2 hps (by omega) (by omega)
      simp only [List.length_cons]
      omega
def cntB (m : Nat) : Int := sumN (fun h => if m.testBit h = true then 1 else 0) 8
theorem cntB_le {m : Nat} : cntB m ≤ 8 := by
  have : cntB m ≤ sumN (fun _ => 1) 8 := sumN_le fun h _ => by split <;> omega
  simpa [sumN] using this
theorem planF_le8 {t : Town} (ht : TownOK t) : ∀ (f : Nat) (s : Sta), StOK t s → ((planF t f s).length : Int) ≤ cntB s.rest
  | 0, s, _ => by
    simp only [planF, List.length_nil]
    exact sumN_nonneg fun h _ => by split <;> omega
  | f + 1, s, hs => by
    have hr := hs.lt ht
    simp only [planF]
    by_cases h0 : s.rest = 0
    · rw [if_pos h0]; exact sumN_nonneg fun h _ => by split <;> omega
    · rw [if_neg h0]
      split
      · rename_i p hp
        have hp2 := List.mem_of_find?_eq_some hp
        obtain ⟨x, j, h1, h2, h3, h4⟩ := (nextL_mem hr).1 hp2
        have hps : StOK t p.2 := by rw [h4]; exact toSt_ok ht hs h0 h1 h2 h3
        have ih := planF_le8 ht f p.2 hps
        obtain ⟨i, hi, hlow, hrb⟩ := low_ex hr h0
        have hcnt : cntB p.2.rest + 1 ≤ cntB s.rest := by
          have e : cntB p.2.rest + 1 = sumN (fun h => (if p.2.rest.testBit h = true then 1 else 0) + (if h = i then 1 else 0)) 8 := by
            rw [sumN_add, sumN_pick, if_pos hi]; rfl
          rw [e]
          refine sumN_le fun h hh => ?_
          have hb : p.2.rest.testBit h = (s.rest.testBit h && !(lowB s.rest ||| x).testBit h) := by rw [h4]; exact ndiff_bit hh
          rw [hb, Nat.testBit_or]
          by_cases e1 : h = i
          · subst e1; rw [hlow, hrb]; simp
          · cases s.rest.testBit h <;> cases (lowB s.rest).testBit h <;> cases x.testBit h <;> simp [e1]
        simp only [List.length_cons]
        omega
      · exact sumN_nonneg fun h _ => by split <;> omega
/-- Buses one after the other. -/
noncomputable def runL (t : Town) : List Bus → List Bool × List Int → Option (List Bool × List Int)
  | [], S => some S
  | b :: l, S => match busN t b S with
    | none => none
    | some S' => runL t l S'
theorem runL_snoc {t : Town} {b : Bus} : ∀ {l : List Bus} {S : List Bool × List Int}, runL t (l ++ [b]) S = match runL t l S with | none => none | some S' => busN t b S'
  | [], S => by
    simp only [List.nil_append, runL]
    cases busN t b S <;> rfl
  | c :: l, S => by
    simp only [List.cons_append, runL]
    cases busN t c S with
    | none => rfl
    | some S' => exact runL_snoc
theorem runN_runL {t : Town} {plan : List Bus} : ∀ k, k ≤ plan.length → runN t plan k = runL t (plan.take k) (tab t.homes.length (fun _ => false), tab t.halls.length (fun _ => 0))
  | 0, _ => by simp [runN, runL]
  | k + 1, h => by
    simp only [runN]
    rw [runN_runL k (by omega), take_snoc (d := default) (by omega), runL_snoc]
    try (cases runL t (plan.take k) (tab t.homes.length (fun _ => false), tab t.halls.length (fun _ => 0)) <;> rfl)
theorem tab_ext {α : Type} {l l' : List α} {d : α} (h : l.length = l'.length) (h2 : ∀ i, i < l.length → l.getD i d = l'.getD i d) : l = l' := by
  apply List.ext_getElem h
  intro i a b
  have := h2 i a
  simpa [List.getD_eq_getElem?_getD, a, b] using this
/-- The program's plan can be run. -/
theorem planF_run {t : Town} (ht : TownOK t) : ∀ (f : Nat) (s : Sta) (I : List Bool) (R : List Int), StOK t s → s.rest < f → needV t s < 1000 → I.length = t.homes.length → R.length = t.halls.length →
    (∀ h, h < t.homes.length → I.getD h false = !s.rest.testBit h) → (∀ i, i < t.halls.length → R.getD i 0 + s.room i = (t.halls.getD i default).room) →
    ∃ S, runL t (planF t f s) (I, R) = some S ∧ (S.1.any fun x => !x) = false ∧ ∀ i, i < t.halls.length → S.2.getD i 0 ≤ (t.halls.getD i default).room
  | 0, s, _, _, _, h, _, _, _, _, _ => by omega
  | f + 1, s, I, R, hs, hf, hn, hI, hR, hIb, hRb => by
    have hr := hs.lt ht
    have hln := ht.homes
    have hhl := ht.halls
    simp only [planF]
    by_cases h0 : s.rest = 0
    · rw [if_pos h0]
      refine ⟨(I, R), rfl, ?_, fun i hi => ?_⟩
      · rw [List.any_eq_false]
        intro x hx
        have hx' : x ∈ I := hx
        obtain ⟨h, hh, rfl⟩ := mem_getD (d := false) hx'
        rw [hIb h (by omega), h0, Nat.zero_testBit]; simp
      · have h1 := hRb i hi
        have h2 := (hs.room i).1
        simp only; omega
    · rw [if_neg h0]
      obtain ⟨p, hp1, hp2, hp3⟩ := find_some hr h0 hn
      rw [hp1]
      obtain ⟨x, i, hx, hi, hfit, rfl⟩ := (nextL_mem hr).1 hp2
      have hto := toSt_ok ht hs h0 hx hi hfit
      have hlt := nextL_rest hr h0 hp2
      have hb := needV_bd (t := t) (s := toSt t s (lowB s.rest ||| x) i)
      simp only at hp3 hlt ⊢
      have hMr := mask_sub hr hx
      have hMlt : (lowB s.rest ||| x) < 2 ^ t.homes.length := by
        have := sub_le hMr; have := hs.rest; omega
      have hM0 : lowB s.rest ||| x ≠ 0 := by
        intro e
        have h1 := low_pos hr h0
        have h2 : lowB s.rest ≤ lowB s.rest ||| x := Nat.left_le_or
        omega
      generalize hM : lowB s.rest ||| x = M at *
      have hM8 : M < 256 := by have := sub_le hMr; omega
      have hin := lst_in hMlt hln.2
      have hrest : ∀ h, h < 8 → (toSt t s M i).rest.testBit h = (s.rest.testBit h && !M.testBit h) := fun h hh => ndiff_bit hh
      simp only [fitsB, Bool.and_eq_true, decide_eq_true_eq] at hfit
      obtain ⟨hf1, hf2⟩ := hfit
      have hne : lst M ≠ [] := by
        obtain ⟨j, hj⟩ := Nat.exists_testBit_of_ne_zero hM0
        have h8 := bit_lt hM8 hj
        intro e
        have : (j : Int) ∈ lst M := lst_mem.2 ⟨by omega, by omega, by simpa using hj⟩
        rw [e] at this; simp at this
      have hlv := leaveL_bd ht hin (lst M).length (Nat.le_refl _)
      have hG : BusG t (mkBus t M i) := ⟨by show 0 ≤ leaveL t (lst M) (lst M).length ∧ leaveL t (lst M) (lst M).length ≤ 10000; omega, by show 0 ≤ ((i : Nat) : Int) ∧ ((i : Nat) : Int) ≤ t.halls.length - 1; omega, hne, hin, hf2⟩
      have hIf : ∀ y ∈ lst M, I.getD y.toNat false = false := fun y hy => by
        have h1 := hin y hy
        rw [hIb y.toNat (by omega), and_sub_bit hMr (lst_mem.1 hy).2.2]; rfl
      obtain ⟨J, hJ⟩ := mark_ok hI hin (lstN_rise 8) hIf (lst M).length (Nat.le_refl _)
      obtain ⟨m1, m2, m3⟩ := mark_some hI hin _ J (Nat.le_refl _) hJ
      rw [List.take_length] at m3
      have hJl := markN_length hI hin _ (Nat.le_refl _) hJ
      have hbus : busN t (mkBus t M i) (I, R) = some (J, isp R i (R.getD i 0 + ppl t (lst M))) := by
        unfold busN
        rw [if_pos hG]
        show (match markN (lst M) I (lst M).length with | none => none | some J => some (J, isp R ((i : Nat) : Int).toNat (R.getD ((i : Nat) : Int).toNat 0 + ppl t (lst M)))) = _
        rw [hJ, Int.toNat_natCast]
      simp only [runL, hbus]
      refine planF_run ht f _ J _ hto (by omega) (by omega) hJl (by rw [isp_length (by omega), hR]) (fun h hh => ?_) (fun j hj => ?_)
      · rw [m3 h hh, hIb h hh, hrest h (by omega)]
        have e : ((h : Int) ∈ lst M) ↔ M.testBit h = true := by
          rw [lst_mem]
          constructor
          · rintro ⟨_, _, h3⟩; simpa using h3
          · intro h3; exact ⟨by omega, by omega, by simpa using h3⟩
        have e3 : decide ((h : Int) ∈ lst M) = M.testBit h := by rw [Bool.eq_iff_iff, decide_eq_true_eq]; exact e
        rw [e3]
        cases s.rest.testBit h <;> cases M.testBit h <;> rfl
      · rw [isp_getD (by omega), toSt_room (by omega) (by omega)]
        have h1 := hRb j hj
        by_cases e : j = i
        · subst e; simp only [if_true]; omega
        · rw [if_neg e, if_neg e]; exact h1
theorem beg_bit {t : Town} {n h : Nat} : (stBeg t n t.halls.length).rest.testBit h = decide (h < n) := Nat.testBit_two_pow_sub_one n h
theorem beg_room {t : Town} (ht : TownOK t) {n i : Nat} (hi : i < t.halls.length) : (stBeg t n t.halls.length).room i = (t.halls.getD i default).room := by
  have hhl := ht.halls
  rcases (by omega : i = 0 ∨ i = 1 ∨ i = 2) with rfl | rfl | rfl
  · simp [stBeg, Sta.room, hi]
  · simp [stBeg, Sta.room, hi]
  · simp [stBeg, Sta.room, hi]
/-- The fewest buses of the first homes. -/
def fewN (t : Town) (n : Nat) : Int := needV t (stBeg t n t.halls.length)
theorem few_feas {t : Town} (ht : TownOK t) {n : Nat} (hn : n ≤ t.homes.length) (h : fewN t n < 1000) : Feas t (fun h => decide (h < n)) (fun i => (t.halls.getD i default).room) (List.range (fewN t n).toNat) := by
  obtain ⟨a, g, F⟩ := need_feas ht _ _ rfl (stBeg_ok ht hn) h
  have e : ∀ h, (stBeg t n t.halls.length).rest.testBit h = decide (h < n) := fun h => beg_bit
  refine ⟨a, g, ⟨fun h hh hb => F.lab h hh (by rw [e]; exact hb), fun h hh hb => F.pet h hh (by rw [e]; exact hb), fun h h' hh hh' hb hb' => F.tim h h' hh hh' (by rw [e]; exact hb) (by rw [e]; exact hb'), fun j hj => ?_, fun i hi => ?_⟩⟩
  · have := F.sea j hj
    simp only [e] at this
    exact this
  · have := F.roo i hi
    simp only [e] at this
    rw [beg_room ht hi] at this
    exact this
theorem feas_few {t : Town} (ht : TownOK t) {n : Nat} (hn : n ≤ t.homes.length) {L : List Nat} (h : Feas t (fun h => decide (h < n)) (fun i => (t.halls.getD i default).room) L) : fewN t n ≤ L.length := by
  obtain ⟨a, g, F⟩ := h
  have e : ∀ h, (stBeg t n t.halls.length).rest.testBit h = decide (h < n) := fun h => beg_bit
  refine need_le ht _ _ rfl (stBeg_ok ht hn) L ⟨a, g, ⟨fun h hh hb => F.lab h hh (by rw [e] at hb; exact hb), fun h hh hb => F.pet h hh (by rw [e] at hb; exact hb), fun h h' hh hh' hb hb' => F.tim h h' hh hh' (by rw [e] at hb; exact hb) (by rw [e] at hb'; exact hb'), fun j hj => ?_, fun i hi => ?_⟩⟩
  · have := F.sea j hj
    simp only [e]
    exact this
  · have := F.roo i hi
    simp only [e]
    rw [beg_room ht hi]
    exact this
theorem planE_few {t : Town} (h0 : faultT t = 0) : planE t = if 1000 ≤ fewN t t.homes.length then 9 else 0 := by
  unfold planE fewN; rw [if_neg (by rw [h0]; simp)]
/-- THE PROGRAM's PLAN IS RIGHT. -/
theorem plan_right {t : Town} (h0 : faultT t = 0) (h : planE t = 0) : rightB t (planL t) = true ∧ ((planL t).length : Int) = fewN t t.homes.length := by
  have ht := faultT_zero h0
  have hln := ht.homes
  have hlt : fewN t t.homes.length < 1000 := by
    rw [planE_few h0] at h
    split at h
    · omega
    · omega
  have hs := stBeg_ok ht (Nat.le_refl t.homes.length)
  have hlen := planF_length ht 256 _ hs (hs.lt ht) hlt
  have h8 := planF_le8 ht 256 _ hs
  have hc := cntB_le (m := (stBeg t t.homes.length t.halls.length).rest)
  obtain ⟨S, hS, hall, hroom⟩ := planF_run ht 256 _ (tab t.homes.length fun _ => false) (tab t.halls.length fun _ => 0) hs (hs.lt ht) hlt tab_length tab_length
    (fun h hh => by rw [tab_getD hh, beg_bit, decide_eq_true hh]; rfl) (fun i hi => by rw [tab_getD hi, beg_room ht hi]; omega)
  refine ⟨?_, hlen⟩
  have hrun := runN_runL (t := t) (plan := planL t) (planL t).length (Nat.le_refl _)
  rw [List.take_length] at hrun
  have hS' : runN t (planL t) (planL t).length = some S := hrun.trans hS
  unfold rightB
  rw [hS']
  simp only [hall, Bool.not_false, Bool.and_true, decide_eq_true_eq]
  refine ⟨?_, hroom⟩
  show (planF t 256 (stBeg t t.homes.length t.halls.length)).length ≤ 8
  omega
/-- No right plan has fewer buses. -/
theorem plan_few {t : Town} {plan : List Bus} (h0 : faultT t = 0) (h : rightB t plan = true) : fewN t t.homes.length ≤ plan.length ∧ planE t = 0 := by
  have ht := faultT_zero h0
  have h1 := feas_few ht (Nat.le_refl _) (right_feas ht h)
  rw [List.length_range] at h1
  obtain ⟨S, _, h8, _⟩ := rightB_some h
  refine ⟨h1, ?_⟩
  rw [planE_few h0, if_neg (by omega)]
end Go.Am

/- Plain words: what can be shared stays so with more room, less time, fewer homes. No program is in sight. -/
namespace Go.Am
set_option linter.unusedSimpArgs false
set_option linter.unusedVariables false

theorem Feas.mono {t t' : Town} {p p' : Nat → Bool} {r r' : Nat → Int} {L : List Nat} (hF : Feas t p r L) (hp : ∀ h, h < 8 → p' h = true → p h = true ∧ h < t'.homes.length) (hn : t.halls.length = t'.halls.length)
    (hpet : ∀ h i, h < 8 → p' h = true → i < t.halls.length → andn (t.homes.getD h default).pets (t.halls.getD i default).pets = 0 → andn (t'.homes.getD h default).pets (t'.halls.getD i default).pets = 0)
    (htim : ∀ h h' i, p' h = true → p' h' = true → h < 8 → h' < 8 → i < t.halls.length → worstN t (t.homes.getD h' default) + (t.halls.getD i default).drive ≤ (t.homes.getD h default).gone → worstN t' (t'.homes.getD h' default) + (t'.halls.getD i default).drive ≤ (t'.homes.getD h default).gone)
    (hpeo : ∀ h, h < 8 → p h = true → 0 ≤ peo t h ∧ peo t' h = peo t h) (hsea : t.seats ≤ t'.seats) (hroo : ∀ i, i < t.halls.length → r i ≤ r' i) : Feas t' p' r' L := by
  obtain ⟨a, g, F⟩ := hF
  refine ⟨a, g, ⟨fun h hh hb => ?_, fun h hh hb => ?_, fun h h' hh hh' hb hb' e => ?_, fun j hj => ?_, fun i hi => ?_⟩⟩
  · obtain ⟨h1, h2⟩ := hp h hh hb
    have := F.lab h hh h1
    exact ⟨h2, this.2.1, by rw [← hn]; exact this.2.2⟩
  · obtain ⟨h1, h2⟩ := hp h hh hb
    exact hpet h _ hh hb (F.lab h hh h1).2.2 (F.pet h hh h1)
  · obtain ⟨h1, h2⟩ := hp h hh hb
    obtain ⟨h1', h2'⟩ := hp h' hh' hb'
    exact htim h h' _ hb hb' hh hh' (F.lab h hh h1).2.2 (F.tim h h' hh hh' h1 h1' e)
  · refine Int.le_trans (Int.le_trans (sumN_le fun h hh => ?_) (F.sea j hj)) hsea
    by_cases e : p' h = true ∧ a h = j
    · obtain ⟨h1, h2⟩ := hp h hh e.1
      rw [if_pos e, if_pos ⟨h1, e.2⟩, (hpeo h hh h1).2]; exact Int.le_refl _
    · rw [if_neg e]
      split
      · rename_i e2; exact (hpeo h hh e2.1).1
      · exact Int.le_refl _
  · refine Int.le_trans (Int.le_trans (sumN_le fun h hh => ?_) (F.roo i (by omega))) (hroo i (by omega))
    by_cases e : p' h = true ∧ g (a h) = i
    · obtain ⟨h1, h2⟩ := hp h hh e.1
      rw [if_pos e, if_pos ⟨h1, e.2⟩, (hpeo h hh h1).2]; exact Int.le_refl _
    · rw [if_neg e]
      split
      · rename_i e2; exact (hpeo h hh e2.1).1
      · exact Int.le_refl _
theorem homeB_of {h : Home} (o : HomeOK h) : homeB h = true := decide_eq_true ⟨o.people, o.prep, o.walk, o.gone⟩
theorem hallB_of {h : Hall} (o : HallOK h) : hallB h = true := decide_eq_true ⟨o.room, o.drive⟩
theorem townOK_fault {t : Town} (h : TownOK t) : faultT t = 0 := by
  have h1 := h.homes
  have h2 := h.halls
  have e1 : t.homes.all homeB = true := by
    rw [List.all_eq_true]; intro x hx; obtain ⟨i, hi, rfl⟩ := mem_getD (d := default) hx; exact homeB_of (h.home i hi)
  have e2 : t.halls.all hallB = true := by
    rw [List.all_eq_true]; intro x hx; obtain ⟨i, hi, rfl⟩ := mem_getD (d := default) hx; exact hallB_of (h.hall i hi)
  unfold faultT
  rw [if_neg (by omega), if_neg]
  rintro ((h3 | h3) | h3 | h3 | h3)
  · omega
  · exact h3 h.seats
  · exact h3 h.call
  · rw [e1] at h3; cases h3
  · rw [e2] at h3; cases h3
/-- The fewest buses of fewer homes are not more. -/
theorem few_mono {t : Town} (ht : TownOK t) {n m : Nat} (h1 : n ≤ m) (h2 : m ≤ t.homes.length) (h : fewN t m < 1000) : fewN t n < 1000 := by
  have hF := few_feas ht h2 h
  have h8 := ht.homes
  have h3 := feas_few ht (n := n) (by omega) (hF.mono (t' := t) (p' := fun h => decide (h < n)) (fun h hh hb => ⟨decide_eq_true (by have := of_decide_eq_true hb; omega), by have := of_decide_eq_true hb; omega⟩) rfl (fun _ _ _ _ _ h => h) (fun _ _ _ _ _ _ _ _ h => h) (fun h hh hb => ⟨peo_nonneg ht (by have := of_decide_eq_true hb; omega), rfl⟩) (Int.le_refl _) (fun _ _ => Int.le_refl _))
  have h4 := needV_bd (t := t) (s := stBeg t m t.halls.length)
  rw [List.length_range] at h3
  unfold fewN at *
  omega
/-- The town of the first homes alone. -/
def some0 (t : Town) (n : Nat) : Town := { t with homes := t.homes.take n }
theorem some_home {t : Town} {n h : Nat} (hh : h < n) : (some0 t n).homes.getD h default = t.homes.getD h default := by
  simp [some0, List.getD_eq_getElem?_getD, List.getElem?_take, hh]
theorem some_ok {t : Town} (ht : TownOK t) {n : Nat} (h1 : 1 ≤ n) (h2 : n ≤ t.homes.length) : TownOK (some0 t n) := by
  have hl : (some0 t n).homes.length = n := by simp [some0]; omega
  have := ht.homes
  refine ⟨by omega, ht.halls, ht.seats, ht.call, fun i hi => ?_, ht.hall⟩
  rw [some_home (by omega)]
  exact ht.home i (by omega)
theorem some_few {t : Town} (ht : TownOK t) {n : Nat} (h1 : 1 ≤ n) (h2 : n ≤ t.homes.length) (h : fewN t n < 1000) : planE (some0 t n) = 0 := by
  have hl : (some0 t n).homes.length = n := by simp [some0]; omega
  have hok := some_ok ht h1 h2
  have hF := few_feas ht h2 h
  have hc := ht.call
  have hln := ht.homes
  have h3 := feas_few hok (n := n) (by omega) (hF.mono (t' := some0 t n) (p' := fun h => decide (h < n)) (fun h hh hb => ⟨hb, by have := of_decide_eq_true hb; omega⟩) rfl
    (fun h i hh hb hi e => by rw [some_home (of_decide_eq_true hb)]; exact e)
    (fun h h' i hb hb' _ _ hi e => by
      rw [some_home (of_decide_eq_true hb), some_home (of_decide_eq_true hb')]
      have : worstN (some0 t n) (t.homes.getD h' default) ≤ worstN t (t.homes.getD h' default) := by
        unfold worstN
        rw [hl]
        have : (n : Int) * t.chi ≤ t.homes.length * t.chi := Int.mul_le_mul_of_nonneg_right (by omega) (by omega)
        show (n : Int) * t.chi + _ + _ ≤ _
        omega
      have e2 : ((some0 t n).halls.getD i default).drive = (t.halls.getD i default).drive := rfl
      rw [e2]
      omega)
    (fun h hh hb => ⟨peo_nonneg ht (by have := of_decide_eq_true hb; omega), by unfold peo; rw [some_home (of_decide_eq_true hb)]⟩) (Int.le_refl _) (fun _ _ => Int.le_refl _))
  have h4 := needV_bd (t := t) (s := stBeg t n t.halls.length)
  rw [List.length_range] at h3
  have h5 : fewN (some0 t n) (some0 t n).homes.length < 1000 := by
    rw [hl]
    unfold fewN at h h3 ⊢
    omega
  rw [planE_few (townOK_fault hok), if_neg (by omega)]
end Go.Am

/- Contracts of the away functions: a plan that is handed in; plans for the program and for the reference. -/
namespace Go.Am
open Go.RowKit Go.Proofs
attribute [local irreducible] AWP CallS Kt goK CallK stepK evOps SemF SemY Imp
set_option maxRecDepth 4000
set_option linter.unusedSimpArgs false
set_option linter.unusedVariables false
set_option maxHeartbeats 3200000

theorem nth_B0 {l : List Bus} {i : Nat} {K : AV → Prop} : optK (nth (recs busC l) (i * 3)) K = (i < l.length ∧ K (.int .i64 (l.getD i default).leave)) := nth_recs (sz := 3) (o := 0) (fun _ => rfl) (by omega)
theorem nth_B1 {l : List Bus} {i : Nat} {K : AV → Prop} : optK (nth (recs busC l) (i * 3 + 1)) K = (i < l.length ∧ K (.int .i64 (l.getD i default).hall)) := nth_recs (sz := 3) (o := 1) (fun _ => rfl) (by omega)
theorem nth_B2 {l : List Bus} {i : Nat} {K : AV → Prop} : optK (nth (recs busC l) (i * 3 + 2)) K = (i < l.length ∧ K (sl (l.getD i default).homes)) := nth_recs (sz := 3) (o := 2) (fun _ => rfl) (by omega)
attribute [go_sem] nth_B0 nth_B1 nth_B2
/-- A plan that is not too long to be looked at. -/
def PlanS (plan : List Bus) : Prop := plan.length ≤ 1000000 ∧ ∀ b ∈ plan, b.homes.length ≤ 1000000
theorem planTo_c (l : List Bus) (hl : PlanS l) : CallS Try.prog 20 [slB l] (slB l) := by
  obtain ⟨hl1, hl2⟩ := hl
  simp only [slB]
  (refine callS_of_awp (fun w args => Try.call20 ..) Try.func20 rfl (fun w0 m0 wz => ?_); simp only [Try.ntmps20, Try.results20, initT, junks, homeC, hallC, slH, slL, townC, sl, List.toList_toArray, List.cons_append, List.nil_append, List.length_cons, List.length_nil, Nat.reduceAdd, Nat.reduceSub])
  (repeat' (first
    | (refine awp_seqK ?_)
    | (refine kt ?_)
    | (refine And.intro ?_ ?_)
    | ((first | refine awp_region ?_ | refine awp_draw (by kernel_rfl) (by kernel_rfl) ?_ | refine Imp.le2 ?_ | refine awp_label ?_ | refine awp_skip ?_ | refine awp_exit ?_ | refine awp_cd ?_ | refine awp_ret ?_ | refine go_split (fun _h => ?_) (fun _h => ?_)) <;> try simp (maxSteps := 4000000) only [go_sem, seval])
    | (intro _h)
    | (refine awp_block ?_)
    | (refine awp_scope ?_)
    | (refine cond_b (fun _h => ?_) (fun _h => ?_))
    | (show heapOK _ _ = true; kernel_rfl)
    | (show heapOK2 _ _ = true; kernel_rfl)
    | (omega)))
  (refine awp_adT 3 48 3 rfl ?_; simp only [adT, lset, hset, List.length_cons, List.length_nil, Nat.reduceAdd])
  refine awp_loopN l.length (fun k => ⟨mkT 32 [(0, slB l), (3, .osl 0 k 0 k), (4, .int .i64 k)], [some (.cells 48 3 k (recs busC (l.take k)))], []⟩) (.le2 ?_) ?_
  · simp only [slB]; simp (maxSteps := 4000000) only [go_sem, seval]
    first | rfl | exact ⟨rfl, rfl⟩
  · intro k hk
    rcases Nat.lt_or_eq_of_le hk with hk1 | hk1
    · have hlt : (l.take k).length = k := by simp; omega
      have hsn := recs_take (enc := busC) (d := default) hk1
      have hli := list_c (l.getD k default).homes (hl2 _ (getD_mem hk1))
      simp only [busC, sl] at hsn hli
      simp only [slB]; simp (maxSteps := 4000000) only [go_sem, seval]
      (repeat' (first
    | ((omega))
    | (refine awp_seqK ?_)
    | (refine kt ?_)
    | (refine And.intro ?_ ?_)
    | ((first | refine awp_region ?_ | refine awp_draw (by kernel_rfl) (by kernel_rfl) ?_ | refine Imp.le2 ?_ | refine awp_label ?_ | refine awp_skip ?_ | refine awp_exit ?_ | refine awp_cd ?_ | refine awp_ret ?_ | refine callK_of (hli) ?_ | refine go_split (fun _h => ?_) (fun _h => ?_)) <;> try simp (maxSteps := 4000000) only [go_sem, seval, hlt, hsn, busC])
    | (intro _h)
    | (refine awp_block ?_)
    | (refine awp_scope ?_)
    | (refine cond_b (fun _h => ?_) (fun _h => ?_))
    | (show heapOK _ _ = true; kernel_rfl)
    | (show heapOK2 _ _ = true; kernel_rfl)
    | (omega)))
      all_goals trace_state
    · subst hk1
      have hlt : l.take l.length = l := by simp
      simp only [slB]; simp (maxSteps := 4000000) only [go_sem, seval, hlt]
      (repeat' (first
    | ((exfalso; omega))
    | (refine awp_seqK ?_)
    | (refine kt ?_)
    | (refine And.intro ?_ ?_)
    | ((first | refine awp_region ?_ | refine awp_draw (by kernel_rfl) (by kernel_rfl) ?_ | refine Imp.le2 ?_ | refine awp_label ?_ | refine awp_skip ?_ | refine awp_exit ?_ | refine awp_cd ?_ | refine awp_ret ?_ | refine go_split (fun _h => ?_) (fun _h => ?_)) <;> try simp (maxSteps := 4000000) only [go_sem, seval, hlt])
    | (intro _h)
    | (refine awp_block ?_)
    | (refine awp_scope ?_)
    | (refine cond_b (fun _h => ?_) (fun _h => ?_))
    | (show heapOK _ _ = true; kernel_rfl)
    | (show heapOK2 _ _ = true; kernel_rfl)
    | (omega)))
      all_goals trace_state
theorem back_c (l : List Bus) (hl : PlanS l) : CallS Try.prog 21 [slB l] (slB l) := by
  obtain ⟨hl1, hl2⟩ := hl
  simp only [slB]
  (refine callS_of_awp (fun w args => Try.call21 ..) Try.func21 rfl (fun w0 m0 wz => ?_); simp only [Try.ntmps21, Try.results21, initT, junks, homeC, hallC, slH, slL, townC, sl, List.toList_toArray, List.cons_append, List.nil_append, List.length_cons, List.length_nil, Nat.reduceAdd, Nat.reduceSub])
  (repeat' (first
    | (refine awp_seqK ?_)
    | (refine kt ?_)
    | (refine And.intro ?_ ?_)
    | ((first | refine awp_region ?_ | refine awp_draw (by kernel_rfl) (by kernel_rfl) ?_ | refine Imp.le2 ?_ | refine awp_label ?_ | refine awp_skip ?_ | refine awp_exit ?_ | refine awp_cd ?_ | refine awp_ret ?_ | refine go_split (fun _h => ?_) (fun _h => ?_)) <;> try simp (maxSteps := 4000000) only [go_sem, seval])
    | (intro _h)
    | (refine awp_block ?_)
    | (refine awp_scope ?_)
    | (refine cond_b (fun _h => ?_) (fun _h => ?_))
    | (show heapOK _ _ = true; kernel_rfl)
    | (show heapOK2 _ _ = true; kernel_rfl)
    | (omega)))
  (refine awp_adT 3 49 3 rfl ?_; simp only [adT, lset, hset, List.length_cons, List.length_nil, Nat.reduceAdd])
  refine awp_loopN l.length (fun k => ⟨mkT 32 [(0, slB l), (3, .osl 0 k 0 k), (4, .int .i64 k)], [some (.cells 49 3 k (recs busC (l.take k)))], []⟩) (.le2 ?_) ?_
  · simp only [slB]; simp (maxSteps := 4000000) only [go_sem, seval]
    first | rfl | exact ⟨rfl, rfl⟩
  · intro k hk
    rcases Nat.lt_or_eq_of_le hk with hk1 | hk1
    · have hlt : (l.take k).length = k := by simp; omega
      have hsn := recs_take (enc := busC) (d := default) hk1
      have hli := list_c (l.getD k default).homes (hl2 _ (getD_mem hk1))
      simp only [busC, sl] at hsn hli
      simp only [slB]; simp (maxSteps := 4000000) only [go_sem, seval]
      (repeat' (first
    | ((omega))
    | (refine awp_seqK ?_)
    | (refine kt ?_)
    | (refine And.intro ?_ ?_)
    | ((first | refine awp_region ?_ | refine awp_draw (by kernel_rfl) (by kernel_rfl) ?_ | refine Imp.le2 ?_ | refine awp_label ?_ | refine awp_skip ?_ | refine awp_exit ?_ | refine awp_cd ?_ | refine awp_ret ?_ | refine callK_of (hli) ?_ | refine go_split (fun _h => ?_) (fun _h => ?_)) <;> try simp (maxSteps := 4000000) only [go_sem, seval, hlt, hsn, busC])
    | (intro _h)
    | (refine awp_block ?_)
    | (refine awp_scope ?_)
    | (refine cond_b (fun _h => ?_) (fun _h => ?_))
    | (show heapOK _ _ = true; kernel_rfl)
    | (show heapOK2 _ _ = true; kernel_rfl)
    | (omega)))
      all_goals trace_state
    · subst hk1
      have hlt : l.take l.length = l := by simp
      simp only [slB]; simp (maxSteps := 4000000) only [go_sem, seval, hlt]
      (repeat' (first
    | ((exfalso; omega))
    | (refine awp_seqK ?_)
    | (refine kt ?_)
    | (refine And.intro ?_ ?_)
    | ((first | refine awp_region ?_ | refine awp_draw (by kernel_rfl) (by kernel_rfl) ?_ | refine Imp.le2 ?_ | refine awp_label ?_ | refine awp_skip ?_ | refine awp_exit ?_ | refine awp_cd ?_ | refine awp_ret ?_ | refine go_split (fun _h => ?_) (fun _h => ?_)) <;> try simp (maxSteps := 4000000) only [go_sem, seval, hlt])
    | (intro _h)
    | (refine awp_block ?_)
    | (refine awp_scope ?_)
    | (refine cond_b (fun _h => ?_) (fun _h => ?_))
    | (show heapOK _ _ = true; kernel_rfl)
    | (show heapOK2 _ _ = true; kernel_rfl)
    | (omega)))
      all_goals trace_state

/-- Is a plan right, of a town that may not be valid? -/
noncomputable def proveB (t : Town) (plan : List Bus) : Bool := decide (faultT t = 0) && rightB t plan
theorem prove_c (t : Town) (plan : List Bus) (hb : townOK t) (hp : PlanS plan) : CallS Try.prog 19 [.agg (townC t), slB plan] (.bool (proveB t plan)) := by
  have hch := check_c t hb
  by_cases h0 : faultT t = 0
  · have ht := faultT_zero h0
    have e0 : (faultT t = 0) = True := eq_true h0
    have hpl := planning_c t ht
    have hri := right_c t plan [] ht hp.1 hp.2
    have e1 : proveB t plan = rightB t plan := by simp [proveB, h0]
    rw [e1]
    rw [h0] at hch
    generalize rightB t plan = q at *
    simp only [plB, planC, slB, townC, slH, slL, sl] at hch hpl hri ⊢
    (refine callS_of_awp (fun w args => Try.call19 ..) Try.func19 rfl (fun w0 m0 wz => ?_); simp only [Try.ntmps19, Try.results19, initT, junks, homeC, hallC, slH, slL, townC, sl, List.toList_toArray, List.cons_append, List.nil_append, List.length_cons, List.length_nil, Nat.reduceAdd, Nat.reduceSub])
    ((repeat refine awp_seqK ?_); refine awp_region ?_; simp (maxSteps := 4000000) only [go_sem, seval]; refine kt ?_)
    ((repeat refine awp_seqK ?_); refine awp_segO [5, 1] ?_; simp (maxSteps := 4000000) only [go_sem, seval, so_cons, so_nil, List.take_succ_cons, List.take_zero, List.drop_succ_cons, List.drop_zero])
    (repeat' (first
    | (refine awp_seqK ?_)
    | (refine kt ?_)
    | (refine And.intro ?_ ?_)
    | ((first | refine awp_region ?_ | refine awp_draw (by kernel_rfl) (by kernel_rfl) ?_ | refine Imp.le2 ?_ | refine awp_label ?_ | refine awp_skip ?_ | refine awp_exit ?_ | refine awp_cd ?_ | refine awp_ret ?_ | refine callK_of (hch) ?_ | refine go_split (fun _h => ?_) (fun _h => ?_)) <;> try simp (maxSteps := 4000000) only [go_sem, seval, decide_true])
    | (intro _h)
    | (refine awp_block ?_)
    | (refine awp_scope ?_)
    | (refine cond_b (fun _h => ?_) (fun _h => ?_))
    | (show heapOK _ _ = true; kernel_rfl)
    | (show heapOK2 _ _ = true; kernel_rfl)
    | (omega)))
    (refine own_go (hpl) [] rfl ?_ ?_ rfl ?_ <;> try simp (maxSteps := 4000000) only [go_sem, seval, Nat.lt_irrefl, so_cons, so_nil, List.take_succ_cons, List.take_zero, List.drop_succ_cons, List.drop_zero] <;> try decide)
    (repeat' (first
    | (refine awp_seqK ?_)
    | (refine kt ?_)
    | (refine And.intro ?_ ?_)
    | ((first | refine awp_region ?_ | refine awp_draw (by kernel_rfl) (by kernel_rfl) ?_ | refine Imp.le2 ?_ | refine awp_label ?_ | refine awp_skip ?_ | refine awp_exit ?_ | refine awp_cd ?_ | refine awp_ret ?_ | refine go_split (fun _h => ?_) (fun _h => ?_)) <;> try simp (maxSteps := 4000000) only [go_sem, seval, decide_true])
    | (intro _h)
    | (refine awp_block ?_)
    | (refine awp_scope ?_)
    | (refine cond_b (fun _h => ?_) (fun _h => ?_))
    | (show heapOK _ _ = true; kernel_rfl)
    | (show heapOK2 _ _ = true; kernel_rfl)
    | (omega)))
    (refine own_go (hri) [3, 2] rfl ?_ ?_ rfl ?_ <;> try simp (maxSteps := 4000000) only [go_sem, seval, Nat.lt_irrefl, so_cons, so_nil, List.take_succ_cons, List.take_zero, List.drop_succ_cons, List.drop_zero] <;> try decide)
    (repeat' (first
    | (refine awp_seqK ?_)
    | (refine kt ?_)
    | (refine And.intro ?_ ?_)
    | ((first | refine awp_region ?_ | refine awp_draw (by kernel_rfl) (by kernel_rfl) ?_ | refine Imp.le2 ?_ | refine awp_label ?_ | refine awp_skip ?_ | refine awp_exit ?_ | refine awp_cd ?_ | refine awp_ret ?_ | refine go_split (fun _h => ?_) (fun _h => ?_)) <;> try simp (maxSteps := 4000000) only [go_sem, seval])
    | (intro _h)
    | (refine awp_block ?_)
    | (refine awp_scope ?_)
    | (refine cond_b (fun _h => ?_) (fun _h => ?_))
    | (show heapOK _ _ = true; kernel_rfl)
    | (show heapOK2 _ _ = true; kernel_rfl)
    | (omega)))
    all_goals trace_state
  · have e0 : (faultT t = 0) = False := eq_false h0
    have e1 : proveB t plan = false := by simp [proveB, h0]
    rw [e1]
    simp only [slB, townC, slH, slL, sl] at hch ⊢
    (refine callS_of_awp (fun w args => Try.call19 ..) Try.func19 rfl (fun w0 m0 wz => ?_); simp only [Try.ntmps19, Try.results19, initT, junks, homeC, hallC, slH, slL, townC, sl, List.toList_toArray, List.cons_append, List.nil_append, List.length_cons, List.length_nil, Nat.reduceAdd, Nat.reduceSub])
    (repeat' (first
    | (refine awp_seqK ?_)
    | (refine kt ?_)
    | (refine And.intro ?_ ?_)
    | ((first | refine awp_region ?_ | refine awp_draw (by kernel_rfl) (by kernel_rfl) ?_ | refine Imp.le2 ?_ | refine awp_label ?_ | refine awp_skip ?_ | refine awp_exit ?_ | refine awp_cd ?_ | refine awp_ret ?_ | refine callK_of (hch) ?_ | refine go_split (fun _h => ?_) (fun _h => ?_)) <;> try simp (maxSteps := 4000000) only [go_sem, seval, e0, decide_false])
    | (intro _h)
    | (refine awp_block ?_)
    | (refine awp_scope ?_)
    | (refine cond_b (fun _h => ?_) (fun _h => ?_))
    | (show heapOK _ _ = true; kernel_rfl)
    | (show heapOK2 _ _ = true; kernel_rfl)
    | (omega)))

/-! ### Returns -/
structure Opn (t : Town) (opens : List Int) : Prop where
  len : opens.length = t.homes.length
  inn : ∀ x ∈ opens, 0 ≤ x ∧ x ≤ 1000000
instance (t : Town) (opens : List Int) : Decidable (Opn t opens) := decidable_of_iff (opens.length = t.homes.length ∧ ∀ x ∈ opens, 0 ≤ x ∧ x ≤ 1000000) ⟨fun ⟨a, b⟩ => ⟨a, b⟩, fun ⟨a, b⟩ => ⟨a, b⟩⟩
def safeL (opens l : List Int) : Nat → Int
  | 0 => 0
  | j + 1 => max (safeL opens l j) (opens.getD (l.getD j 0).toNat 0)
def outB (t : Town) (b : Bus) (safe : Int) (out : List Int) : Nat → List Int
  | 0 => out
  | j + 1 => isp (outB t b safe out j) (b.homes.getD j 0).toNat (safe + (t.halls.getD b.hall.toNat default).drive + (t.homes.getD (b.homes.getD j 0).toNat default).walk)
def rOut (t : Town) (plan : List Bus) (opens : List Int) : Nat → List Int
  | 0 => tab t.homes.length fun _ => 0
  | k + 1 => outB t (plan.getD k default) (safeL opens (plan.getD k default).homes (plan.getD k default).homes.length) (rOut t plan opens k) (plan.getD k default).homes.length
theorem safeL_bd {t : Town} {opens l : List Int} (ho : Opn t opens) (hl : ∀ x ∈ l, 0 ≤ x ∧ x < t.homes.length) : ∀ j, j ≤ l.length → 0 ≤ safeL opens l j ∧ safeL opens l j ≤ 1000000
  | 0, _ => by simp [safeL]
  | j + 1, h => by
    have h1 := safeL_bd ho hl j (by omega)
    have h2 := hl _ (getD_mem (d := 0) (i := j) (by omega))
    have h4 := ho.len
    have h3 := ho.inn _ (getD_mem (d := 0) (i := (l.getD j 0).toNat) (by omega))
    simp only [safeL]
    omega
theorem outB_length {t : Town} {b : Bus} {safe : Int} {out : List Int} {n : Nat} (ho : out.length = n) (hl : ∀ x ∈ b.homes, 0 ≤ x ∧ x < n) : ∀ j, j ≤ b.homes.length → (outB t b safe out j).length = n
  | 0, _ => ho
  | j + 1, h => by
    have h1 := outB_length (t := t) (safe := safe) ho hl j (by omega)
    have h2 := hl _ (getD_mem (d := 0) (i := j) (by omega))
    simp only [outB]
    rw [isp_length (by omega), h1]
theorem rOut_length {t : Town} {plan : List Bus} {opens : List Int} (hG : ∀ j, j < plan.length → BusG t (plan.getD j default)) : ∀ k, k ≤ plan.length → (rOut t plan opens k).length = t.homes.length
  | 0, _ => by simp [rOut, tab_length]
  | k + 1, h => by
    simp only [rOut]
    exact outB_length (rOut_length hG k (by omega)) (hG k (by omega)).homes _ (Nat.le_refl _)
open Classical in
noncomputable def retE (t : Town) (plan : List Bus) (opens : List Int) : Int := if faultT t ≠ 0 then faultT t else if rightB t plan = false then 9 else if ¬ Opn t opens then 2 else 0
noncomputable def retV (t : Town) (plan : List Bus) (opens : List Int) : AV := if retE t plan opens = 0 then sl (rOut t plan opens plan.length) else .nils
theorem openN_c (n : Int) : CallS Try.prog 61 [.int .i64 n] (.bool (decide (0 ≤ n ∧ n ≤ 1000000))) := by
  (refine callS_of_awp (fun w args => Try.call61 ..) Try.func61 rfl (fun w0 m0 wz => ?_); simp only [Try.ntmps61, Try.results61, initT, junks, homeC, hallC, slH, slL, townC, sl, List.toList_toArray, List.cons_append, List.nil_append, List.length_cons, List.length_nil, Nat.reduceAdd, Nat.reduceSub])
  (repeat' (first
    | (refine awp_seqK ?_)
    | (refine kt ?_)
    | (refine And.intro ?_ ?_)
    | ((first | refine awp_region ?_ | refine awp_draw (by kernel_rfl) (by kernel_rfl) ?_ | refine Imp.le2 ?_ | refine awp_label ?_ | refine awp_skip ?_ | refine awp_exit ?_ | refine awp_cd ?_ | refine awp_ret ?_ | refine callK_of (within_c _ _ _) ?_ | refine go_split (fun _h => ?_) (fun _h => ?_)) <;> try simp (maxSteps := 4000000) only [go_sem, seval])
    | (intro _h)
    | (refine awp_block ?_)
    | (refine awp_scope ?_)
    | (refine cond_b (fun _h => ?_) (fun _h => ?_))
    | (show heapOK _ _ = true; kernel_rfl)
    | (show heapOK2 _ _ = true; kernel_rfl)
    | (omega)))
theorem Return_c (t : Town) (plan : List Bus) (opens : List Int) (hb : townOK t) (hp : PlanS plan) (ho : opens.length ≤ 1000000) : CallS Try.prog 31 [.agg (townC t), slB plan, sl opens] (.tup [retV t plan opens, .int .i64 (retE t plan opens)]) := by
  have hch := check_c t hb
  by_cases h0 : faultT t = 0
  · have ht := faultT_zero h0
    have hpl := planning_c t ht
    have hri := right_c t plan [] ht hp.1 hp.2
    rw [h0] at hch
    cases hq : rightB t plan with
    | false =>
      have e1 : retE t plan opens = 9 := by simp [retE, h0, hq]
      have e2 : retV t plan opens = .nils := by simp [retV, e1]
      rw [e1, e2]
      rw [hq] at hri
      simp only [plB, planC, slB, townC, slH, slL, sl] at hch hpl hri ⊢
      (refine callS_of_awp (fun w args => Try.call31 ..) Try.func31 rfl (fun w0 m0 wz => ?_); simp only [Try.ntmps31, Try.results31, initT, junks, homeC, hallC, slH, slL, townC, sl, List.toList_toArray, List.cons_append, List.nil_append, List.length_cons, List.length_nil, Nat.reduceAdd, Nat.reduceSub])
      (repeat' (first
    | (refine awp_segO (id := 4) [1, 1] ?_; simp (maxSteps := 4000000) only [go_sem, seval, so_cons, so_nil, List.take_succ_cons, List.take_zero, List.drop_succ_cons, List.drop_zero, decide_true])
    | (refine own_go (hpl) [] rfl ?_ ?_ rfl ?_ <;> try simp (maxSteps := 4000000) only [go_sem, seval, Nat.lt_irrefl, so_cons, so_nil, List.take_succ_cons, List.take_zero, List.drop_succ_cons, List.drop_zero, decide_true] <;> try decide)
    | (refine own_go (hri) [3, 2] rfl ?_ ?_ rfl ?_ <;> try simp (maxSteps := 4000000) only [go_sem, seval, Nat.lt_irrefl, so_cons, so_nil, List.take_succ_cons, List.take_zero, List.drop_succ_cons, List.drop_zero, decide_true] <;> try decide)
    | (refine awp_seqK ?_)
    | (refine kt ?_)
    | (refine And.intro ?_ ?_)
    | ((first | refine awp_region ?_ | refine awp_draw (by kernel_rfl) (by kernel_rfl) ?_ | refine Imp.le2 ?_ | refine awp_label ?_ | refine awp_skip ?_ | refine awp_exit ?_ | refine awp_cd ?_ | refine awp_ret ?_ | refine callK_of (hch) ?_ | refine go_split (fun _h => ?_) (fun _h => ?_)) <;> try simp (maxSteps := 4000000) only [go_sem, seval, decide_true])
    | (intro _h)
    | (refine awp_block ?_)
    | (refine awp_scope ?_)
    | (refine cond_b (fun _h => ?_) (fun _h => ?_))
    | (show heapOK _ _ = true; kernel_rfl)
    | (show heapOK2 _ _ = true; kernel_rfl)
    | (omega)))
      all_goals trace_state
    | true =>
      rw [hq] at hri
      have hal := all_int opens 61 (fun n => decide (0 ≤ n ∧ n ≤ 1000000)) ho (fun i hi => openN_c _)
      by_cases hO : Opn t opens
      · have hOl := hO.len
        have c4 : (opens.all fun n => decide (0 ≤ n ∧ n ≤ 1000000)) = true := List.all_eq_true.2 fun x hx => decide_eq_true (hO.inn x hx)
        rw [c4] at hal
        have eL : ((opens.length : Int) = t.homes.length) = True := eq_true (by omega)
        have e1 : retE t plan opens = 0 := by simp [retE, h0, hq, hO]
        have e2 : retV t plan opens = sl (rOut t plan opens plan.length) := by simp [retV, e1]
        rw [e1, e2]
        obtain ⟨S, hS, h8, _, _⟩ := rightB_some hq
        have hG : ∀ j, j < plan.length → BusG t (plan.getD j default) := fun j hj => ((runI ht _ S hS).bus j hj).1
        have hrl := fun k hk => rOut_length (opens := opens) hG k hk
        have hrl2 := hrl plan.length (Nat.le_refl _)
        simp only [plB, planC, slB, townC, slH, slL, sl] at hch hpl hri hal ⊢
        (refine callS_of_awp (fun w args => Try.call31 ..) Try.func31 rfl (fun w0 m0 wz => ?_); simp only [Try.ntmps31, Try.results31, initT, junks, homeC, hallC, slH, slL, townC, sl, List.toList_toArray, List.cons_append, List.nil_append, List.length_cons, List.length_nil, Nat.reduceAdd, Nat.reduceSub])
        (repeat' (first
    | (refine awp_segO (id := 4) [1, 1] ?_; simp (maxSteps := 4000000) only [go_sem, seval, so_cons, so_nil, List.take_succ_cons, List.take_zero, List.drop_succ_cons, List.drop_zero, decide_true, eL, Bool.not_true, ↓rep_ints])
    | (refine own_go (hpl) [] rfl ?_ ?_ rfl ?_ <;> try simp (maxSteps := 4000000) only [go_sem, seval, Nat.lt_irrefl, so_cons, so_nil, List.take_succ_cons, List.take_zero, List.drop_succ_cons, List.drop_zero, decide_true, eL, Bool.not_true, ↓rep_ints] <;> try decide)
    | (refine own_go (hri) [3, 2] rfl ?_ ?_ rfl ?_ <;> try simp (maxSteps := 4000000) only [go_sem, seval, Nat.lt_irrefl, so_cons, so_nil, List.take_succ_cons, List.take_zero, List.drop_succ_cons, List.drop_zero, decide_true, eL, Bool.not_true, ↓rep_ints] <;> try decide)
    | (refine awp_seqK ?_)
    | (refine kt ?_)
    | (refine And.intro ?_ ?_)
    | ((first | refine awp_region ?_ | refine awp_draw (by kernel_rfl) (by kernel_rfl) ?_ | refine Imp.le2 ?_ | refine awp_label ?_ | refine awp_skip ?_ | refine awp_exit ?_ | refine awp_cd ?_ | refine awp_ret ?_ | refine callK_of (hch) ?_ | refine callK_of (hal) ?_ | refine go_split (fun _h => ?_) (fun _h => ?_)) <;> try simp (maxSteps := 4000000) only [go_sem, seval, decide_true, eL, Bool.not_true, ↓rep_ints])
    | (intro _h)
    | (refine awp_block ?_)
    | (refine awp_scope ?_)
    | (refine cond_b (fun _h => ?_) (fun _h => ?_))
    | (show heapOK _ _ = true; kernel_rfl)
    | (show heapOK2 _ _ = true; kernel_rfl)
    | (omega)))
        refine awp_loopN plan.length (fun k => ⟨mkT 95 [(1, slB plan), (2, sl opens), (3, .ptr 0 0 0), (9, .osl 4 0 0 t.homes.length), (45, slB plan), (46, .int .i64 plan.length), (47, .int .i64 k)], [some (.cells 40 1 0 (townC t)), none, none, none, some (.cells 3 1 0 (ints (rOut t plan opens k)))], []⟩) (.le2 ?_) ?_
        · simp only [slB, sl, rOut]; simp (maxSteps := 4000000) only [go_sem, seval]
          try (first | rfl | exact ⟨rfl, rfl⟩)
        · intro k hk
          have hlk := hrl k hk
          rcases Nat.lt_or_eq_of_le hk with hk1 | hk1
          · have hGk := hG k hk1
            have hst : rOut t plan opens (k + 1) = outB t (plan.getD k default) (safeL opens (plan.getD k default).homes (plan.getD k default).homes.length) (rOut t plan opens k) (plan.getD k default).homes.length := rfl
            obtain ⟨b, hb2⟩ : ∃ b, plan.getD k default = b := ⟨_, rfl⟩
            have hbl := hp.2 _ (getD_mem (d := default) hk1)
            rw [hb2] at hGk hst hbl
            rw [hst]
            have hsb := fun j hj => safeL_bd hO hGk.homes j hj
            have hbh := hGk.homes
            have hhall := hGk.hall
            have hdr := (ht.hall b.hall.toNat (by omega)).drive
            generalize rOut t plan opens k = O at *
            simp only [slB, sl]; simp (maxSteps := 4000000) only [go_sem, seval]
            (repeat' (first
    | ((exfalso; omega))
    | (refine awp_seqK ?_)
    | (refine kt ?_)
    | (refine And.intro ?_ ?_)
    | ((first | refine awp_region ?_ | refine awp_draw (by kernel_rfl) (by kernel_rfl) ?_ | refine Imp.le2 ?_ | refine awp_label ?_ | refine awp_skip ?_ | refine awp_exit ?_ | refine awp_cd ?_ | refine awp_ret ?_ | refine go_split (fun _h => ?_) (fun _h => ?_)) <;> try simp (maxSteps := 4000000) only [go_sem, seval, hb2, busC])
    | (intro _h)
    | (refine awp_block ?_)
    | (refine awp_scope ?_)
    | (refine cond_b (fun _h => ?_) (fun _h => ?_))
    | (show heapOK _ _ = true; kernel_rfl)
    | (show heapOK2 _ _ = true; kernel_rfl)
    | (omega)))
            refine awp_loopN b.homes.length (fun j => ⟨mkT 95 [(1, slB plan), (2, sl opens), (3, .ptr 0 0 0), (9, .osl 4 0 0 t.homes.length), (11, .ptr 5 0 0), (12, .int .i64 (safeL opens b.homes j)), (45, slB plan), (46, .int .i64 plan.length), (47, .int .i64 k), (52, sl b.homes), (53, .int .i64 b.homes.length), (54, .int .i64 j)], [some (.cells 40 1 0 (townC t)), none, none, none, some (.cells 3 1 0 (ints O)), some (.cells 48 1 0 (busC b))], []⟩) (.le2 ?_) ?_
            · simp only [slB, sl, busC]; simp (maxSteps := 4000000) only [go_sem, seval]
              try (first | rfl | exact ⟨rfl, rfl⟩)
            · intro j hj
              rcases Nat.lt_or_eq_of_le hj with hj1 | hj1
              · have hx := hbh _ (getD_mem (d := 0) hj1)
                have hs1 : safeL opens b.homes (j + 1) = max (safeL opens b.homes j) (opens.getD (b.homes.getD j 0).toNat 0) := rfl
                rw [hs1]
                simp only [slB, sl, busC]; simp (maxSteps := 4000000) only [go_sem, seval]
                (repeat' (first
    | ((exfalso; omega))
    | (refine awp_seqK ?_)
    | (refine kt ?_)
    | (refine And.intro ?_ ?_)
    | ((first | refine awp_region ?_ | refine awp_draw (by kernel_rfl) (by kernel_rfl) ?_ | refine Imp.le2 ?_ | refine awp_label ?_ | refine awp_skip ?_ | refine awp_exit ?_ | refine awp_cd ?_ | refine awp_ret ?_ | refine callK_of (latest_c _ _ _) ?_ | refine go_split (fun _h => ?_) (fun _h => ?_)) <;> try simp (maxSteps := 4000000) only [go_sem, seval])
    | (intro _h)
    | (refine awp_block ?_)
    | (refine awp_scope ?_)
    | (refine cond_b (fun _h => ?_) (fun _h => ?_))
    | (show heapOK _ _ = true; kernel_rfl)
    | (show heapOK2 _ _ = true; kernel_rfl)
    | (omega)))
                all_goals trace_state
              · subst hj1
                have hsb2 := hsb b.homes.length (Nat.le_refl _)
                generalize safeL opens b.homes b.homes.length = safe at *
                simp only [slB, sl, busC]; simp (maxSteps := 4000000) only [go_sem, seval]
                (repeat' (first
    | ((exfalso; omega))
    | (refine awp_seqK ?_)
    | (refine kt ?_)
    | (refine And.intro ?_ ?_)
    | ((first | refine awp_region ?_ | refine awp_draw (by kernel_rfl) (by kernel_rfl) ?_ | refine Imp.le2 ?_ | refine awp_label ?_ | refine awp_skip ?_ | refine awp_exit ?_ | refine awp_cd ?_ | refine awp_ret ?_ | refine go_split (fun _h => ?_) (fun _h => ?_)) <;> try simp (maxSteps := 4000000) only [go_sem, seval])
    | (intro _h)
    | (refine awp_block ?_)
    | (refine awp_scope ?_)
    | (refine cond_b (fun _h => ?_) (fun _h => ?_))
    | (show heapOK _ _ = true; kernel_rfl)
    | (show heapOK2 _ _ = true; kernel_rfl)
    | (omega)))
                refine awp_loopN b.homes.length (fun j => ⟨mkT 95 [(1, slB plan), (2, sl opens), (3, .ptr 0 0 0), (9, .osl 4 0 0 t.homes.length), (11, .ptr 5 0 0), (12, .int .i64 safe), (45, slB plan), (46, .int .i64 plan.length), (47, .int .i64 k), (67, sl b.homes), (68, .int .i64 b.homes.length), (69, .int .i64 j)], [some (.cells 40 1 0 (townC t)), none, none, none, some (.cells 3 1 0 (ints (outB t b safe O j))), some (.cells 48 1 0 (busC b))], []⟩) (.le2 ?_) ?_
                · simp only [slB, sl, busC, outB]; simp (maxSteps := 4000000) only [go_sem, seval]
                  try (first | rfl | exact ⟨rfl, rfl⟩)
                · intro j hj
                  have hol := outB_length (t := t) (safe := safe) hlk hbh j hj
                  rcases Nat.lt_or_eq_of_le hj with hj1 | hj1
                  · have hx := hbh _ (getD_mem (d := 0) hj1)
                    have hwk := (ht.home (b.homes.getD j 0).toNat (by omega)).walk
                    have hs1 : outB t b safe O (j + 1) = isp (outB t b safe O j) (b.homes.getD j 0).toNat (safe + (t.halls.getD b.hall.toNat default).drive + (t.homes.getD (b.homes.getD j 0).toNat default).walk) := rfl
                    rw [hs1]
                    simp only [slB, sl, busC]; simp (maxSteps := 4000000) only [go_sem, seval]
                    (repeat' (first
    | ((exfalso; omega))
    | ((omega))
    | (refine awp_seqK ?_)
    | (refine kt ?_)
    | (refine And.intro ?_ ?_)
    | ((first | refine awp_region ?_ | refine awp_draw (by kernel_rfl) (by kernel_rfl) ?_ | refine Imp.le2 ?_ | refine awp_label ?_ | refine awp_skip ?_ | refine awp_exit ?_ | refine awp_cd ?_ | refine awp_ret ?_ | refine go_split (fun _h => ?_) (fun _h => ?_)) <;> try simp (maxSteps := 4000000) only [go_sem, seval, hol])
    | (intro _h)
    | (refine awp_block ?_)
    | (refine awp_scope ?_)
    | (refine cond_b (fun _h => ?_) (fun _h => ?_))
    | (show heapOK _ _ = true; kernel_rfl)
    | (show heapOK2 _ _ = true; kernel_rfl)
    | (omega)))
                    all_goals trace_state
                  · subst hj1
                    simp only [slB, sl, busC]; simp (maxSteps := 4000000) only [go_sem, seval]
                    (repeat' (first
    | ((exfalso; omega))
    | ((omega))
    | (refine awp_seqK ?_)
    | (refine kt ?_)
    | (refine And.intro ?_ ?_)
    | ((first | refine awp_region ?_ | refine awp_draw (by kernel_rfl) (by kernel_rfl) ?_ | refine Imp.le2 ?_ | refine awp_label ?_ | refine awp_skip ?_ | refine awp_exit ?_ | refine awp_cd ?_ | refine awp_ret ?_ | refine go_split (fun _h => ?_) (fun _h => ?_)) <;> try simp (maxSteps := 4000000) only [go_sem, seval, hol])
    | (intro _h)
    | (refine awp_block ?_)
    | (refine awp_scope ?_)
    | (refine cond_b (fun _h => ?_) (fun _h => ?_))
    | (show heapOK _ _ = true; kernel_rfl)
    | (show heapOK2 _ _ = true; kernel_rfl)
    | (omega)))
                    all_goals trace_state
          · subst hk1
            simp only [slB, sl]; simp (maxSteps := 4000000) only [go_sem, seval]
            (repeat' (first
    | ((exfalso; omega))
    | (refine awp_seqK ?_)
    | (refine kt ?_)
    | (refine And.intro ?_ ?_)
    | ((first | refine awp_region ?_ | refine awp_draw (by kernel_rfl) (by kernel_rfl) ?_ | refine Imp.le2 ?_ | refine awp_label ?_ | refine awp_skip ?_ | refine awp_exit ?_ | refine awp_cd ?_ | refine awp_ret ?_ | refine go_split (fun _h => ?_) (fun _h => ?_)) <;> try simp (maxSteps := 4000000) only [go_sem, seval, hlk])
    | (intro _h)
    | (refine awp_block ?_)
    | (refine awp_scope ?_)
    | (refine cond_b (fun _h => ?_) (fun _h => ?_))
    | (show heapOK _ _ = true; kernel_rfl)
    | (show heapOK2 _ _ = true; kernel_rfl)
    | (omega)))
            all_goals trace_state
      · have e1 : retE t plan opens = 2 := by simp [retE, h0, hq, hO]
        have e2 : retV t plan opens = .nils := by simp [retV, e1]
        rw [e1, e2]
        have hbad : ¬ (opens.length = t.homes.length ∧ (opens.all fun n => decide (0 ≤ n ∧ n ≤ 1000000)) = true) := fun h => hO ⟨h.1, fun x hx => of_decide_eq_true (List.all_eq_true.1 h.2 x hx)⟩
        generalize (opens.all fun n => decide (0 ≤ n ∧ n ≤ 1000000)) = c at *
        simp only [plB, planC, slB, townC, slH, slL, sl] at hch hpl hri hal ⊢
        (refine callS_of_awp (fun w args => Try.call31 ..) Try.func31 rfl (fun w0 m0 wz => ?_); simp only [Try.ntmps31, Try.results31, initT, junks, homeC, hallC, slH, slL, townC, sl, List.toList_toArray, List.cons_append, List.nil_append, List.length_cons, List.length_nil, Nat.reduceAdd, Nat.reduceSub])
        (repeat' (first
    | (refine awp_segO (id := 4) [1, 1] ?_; simp (maxSteps := 4000000) only [go_sem, seval, so_cons, so_nil, List.take_succ_cons, List.take_zero, List.drop_succ_cons, List.drop_zero, decide_true])
    | (refine own_go (hpl) [] rfl ?_ ?_ rfl ?_ <;> try simp (maxSteps := 4000000) only [go_sem, seval, Nat.lt_irrefl, so_cons, so_nil, List.take_succ_cons, List.take_zero, List.drop_succ_cons, List.drop_zero, decide_true] <;> try decide)
    | (refine own_go (hri) [3, 2] rfl ?_ ?_ rfl ?_ <;> try simp (maxSteps := 4000000) only [go_sem, seval, Nat.lt_irrefl, so_cons, so_nil, List.take_succ_cons, List.take_zero, List.drop_succ_cons, List.drop_zero, decide_true] <;> try decide)
    | ((exfalso; exact hbad ⟨by omega, by assumption⟩))
    | (refine awp_seqK ?_)
    | (refine kt ?_)
    | (refine And.intro ?_ ?_)
    | ((first | refine awp_region ?_ | refine awp_draw (by kernel_rfl) (by kernel_rfl) ?_ | refine Imp.le2 ?_ | refine awp_label ?_ | refine awp_skip ?_ | refine awp_exit ?_ | refine awp_cd ?_ | refine awp_ret ?_ | refine callK_of (hch) ?_ | refine callK_of (hal) ?_ | refine go_split (fun _h => ?_) (fun _h => ?_)) <;> try simp (maxSteps := 4000000) only [go_sem, seval, decide_true])
    | (intro _h)
    | (refine awp_block ?_)
    | (refine awp_scope ?_)
    | (refine cond_b (fun _h => ?_) (fun _h => ?_))
    | (show heapOK _ _ = true; kernel_rfl)
    | (show heapOK2 _ _ = true; kernel_rfl)
    | (omega)))
        all_goals trace_state
  · have e0 : (faultT t = 0) = False := eq_false h0
    have e1 : retE t plan opens = faultT t := by simp [retE, h0]
    have e2 : retV t plan opens = .nils := by simp [retV, e1, h0]
    rw [e1, e2]
    simp only [slB, townC, slH, slL, sl] at hch ⊢
    (refine callS_of_awp (fun w args => Try.call31 ..) Try.func31 rfl (fun w0 m0 wz => ?_); simp only [Try.ntmps31, Try.results31, initT, junks, homeC, hallC, slH, slL, townC, sl, List.toList_toArray, List.cons_append, List.nil_append, List.length_cons, List.length_nil, Nat.reduceAdd, Nat.reduceSub])
    (repeat' (first
    | (refine awp_seqK ?_)
    | (refine kt ?_)
    | (refine And.intro ?_ ?_)
    | ((first | refine awp_region ?_ | refine awp_draw (by kernel_rfl) (by kernel_rfl) ?_ | refine Imp.le2 ?_ | refine awp_label ?_ | refine awp_skip ?_ | refine awp_exit ?_ | refine awp_cd ?_ | refine awp_ret ?_ | refine callK_of (hch) ?_ | refine go_split (fun _h => ?_) (fun _h => ?_)) <;> try simp (maxSteps := 4000000) only [go_sem, seval, e0, decide_false])
    | (intro _h)
    | (refine awp_block ?_)
    | (refine awp_scope ?_)
    | (refine cond_b (fun _h => ?_) (fun _h => ?_))
    | (show heapOK _ _ = true; kernel_rfl)
    | (show heapOK2 _ _ = true; kernel_rfl)
    | (omega)))
end Go.Am

/- Contracts of the away functions: who fails; what statements ask first. -/
namespace Go.Am
open Go.RowKit Go.Proofs
attribute [local irreducible] AWP CallS Kt goK CallK stepK evOps SemF SemY Imp
set_option maxRecDepth 4000
set_option linter.unusedSimpArgs false
set_option linter.unusedVariables false
set_option maxHeartbeats 3200000

def readyB (t : Town) : Bool := thinB t && decide (faultT t = 0)
theorem ready_c (t : Town) : CallS Try.prog 14 [.agg (townC t)] (.bool (readyB t)) := by
  have hth := thin_c t
  unfold readyB
  cases hT : thinB t with
  | false =>
    rw [hT] at hth
    simp only [Bool.false_and]
    simp only [townC, slH, slL] at hth ⊢
    (refine callS_of_awp (fun w args => Try.call14 ..) Try.func14 rfl (fun w0 m0 wz => ?_); simp only [Try.ntmps14, Try.results14, initT, junks, homeC, hallC, slH, slL, townC, sl, List.toList_toArray, List.cons_append, List.nil_append, List.length_cons, List.length_nil, Nat.reduceAdd, Nat.reduceSub])
    (repeat' (first
    | (refine awp_seqK ?_)
    | (refine kt ?_)
    | (refine And.intro ?_ ?_)
    | ((first | refine awp_region ?_ | refine awp_draw (by kernel_rfl) (by kernel_rfl) ?_ | refine Imp.le2 ?_ | refine awp_label ?_ | refine awp_skip ?_ | refine awp_exit ?_ | refine awp_cd ?_ | refine awp_ret ?_ | refine callK_of (hth) ?_ | refine go_split (fun _h => ?_) (fun _h => ?_)) <;> try simp (maxSteps := 4000000) only [go_sem, seval])
    | (intro _h)
    | (refine awp_block ?_)
    | (refine awp_scope ?_)
    | (refine cond_b (fun _h => ?_) (fun _h => ?_))
    | (show heapOK _ _ = true; kernel_rfl)
    | (show heapOK2 _ _ = true; kernel_rfl)
    | (omega)))
  | true =>
    rw [hT] at hth
    have hfa := fault_c t (thinB_ok hT).1
    simp only [Bool.true_and]
    generalize faultT t = e at *
    simp only [townC, slH, slL] at hth hfa ⊢
    (refine callS_of_awp (fun w args => Try.call14 ..) Try.func14 rfl (fun w0 m0 wz => ?_); simp only [Try.ntmps14, Try.results14, initT, junks, homeC, hallC, slH, slL, townC, sl, List.toList_toArray, List.cons_append, List.nil_append, List.length_cons, List.length_nil, Nat.reduceAdd, Nat.reduceSub])
    (repeat' (first
    | (refine awp_seqK ?_)
    | (refine kt ?_)
    | (refine And.intro ?_ ?_)
    | ((first | refine awp_region ?_ | refine awp_draw (by kernel_rfl) (by kernel_rfl) ?_ | refine Imp.le2 ?_ | refine awp_label ?_ | refine awp_skip ?_ | refine awp_exit ?_ | refine awp_cd ?_ | refine awp_ret ?_ | refine callK_of (hth) ?_ | refine callK_of (hfa) ?_ | refine go_split (fun _h => ?_) (fun _h => ?_)) <;> try simp (maxSteps := 4000000) only [go_sem, seval])
    | (intro _h)
    | (refine awp_block ?_)
    | (refine awp_scope ?_)
    | (refine cond_b (fun _h => ?_) (fun _h => ?_))
    | (show heapOK _ _ = true; kernel_rfl)
    | (show heapOK2 _ _ = true; kernel_rfl)
    | (omega)))
    all_goals first | exact (decide_eq_true ‹_›).symm | exact (decide_eq_false ‹_›).symm | exact decide_eq_true ‹_› | exact decide_eq_false ‹_› | trace_state
/-- At most 12 buses, each of at most 12 homes. -/
def shortB (l : List Bus) : Bool := decide (l.length ≤ 12 ∧ ∀ i, i < l.length → (l.getD i default).homes.length ≤ 12)
theorem shortB_ok {l : List Bus} (h : shortB l = true) : PlanS l ∧ l.length ≤ 12 ∧ ∀ b ∈ l, b.homes.length ≤ 12 := by
  obtain ⟨h1, h2⟩ := of_decide_eq_true h
  have h3 : ∀ b ∈ l, b.homes.length ≤ 12 := fun b hb => by
    obtain ⟨i, hi, rfl⟩ := mem_getD (d := default) hb
    exact h2 i hi
  exact ⟨⟨by omega, fun b hb => by have := h3 b hb; omega⟩, h1, h3⟩
theorem short_c (l : List Bus) : CallS Try.prog 15 [slB l] (.bool (shortB l)) := by
  have hyes : (l.length ≤ 12 ∧ ∀ i, i < l.length → (l.getD i default).homes.length ≤ 12) → true = shortB l := fun h => (decide_eq_true h).symm
  have hno : ¬ (l.length ≤ 12 ∧ ∀ i, i < l.length → (l.getD i default).homes.length ≤ 12) → false = shortB l := fun h => (decide_eq_false h).symm
  generalize shortB l = r at *
  simp only [slB]
  (refine callS_of_awp (fun w args => Try.call15 ..) Try.func15 rfl (fun w0 m0 wz => ?_); simp only [Try.ntmps15, Try.results15, initT, junks, homeC, hallC, slH, slL, townC, sl, List.toList_toArray, List.cons_append, List.nil_append, List.length_cons, List.length_nil, Nat.reduceAdd, Nat.reduceSub])
  (repeat' (first
    | (refine awp_seqK ?_)
    | (refine kt ?_)
    | (refine And.intro ?_ ?_)
    | ((first | refine awp_region ?_ | refine awp_draw (by kernel_rfl) (by kernel_rfl) ?_ | refine Imp.le2 ?_ | refine awp_label ?_ | refine awp_skip ?_ | refine awp_exit ?_ | refine awp_cd ?_ | refine awp_ret ?_ | refine go_split (fun _h => ?_) (fun _h => ?_)) <;> try simp (maxSteps := 4000000) only [go_sem, seval])
    | (intro _h)
    | (refine awp_block ?_)
    | (refine awp_scope ?_)
    | (refine cond_b (fun _h => ?_) (fun _h => ?_))
    | (show heapOK _ _ = true; kernel_rfl)
    | (show heapOK2 _ _ = true; kernel_rfl)
    | (omega)))
  refine awp_loopJ (fun i : Nat => i ≤ l.length ∧ ∀ j, j < i → (l.getD j default).homes.length ≤ 12) (fun i => ⟨mkT 24 [(0, slB l), (3, .int .i64 i)], [], []⟩) (fun i => l.length - i) 0 ⟨Nat.zero_le _, fun j hj => by omega⟩ (.le2 ?_) ?_
  · simp only [slB]; simp (maxSteps := 4000000) only [go_sem, seval]
  · rintro i ⟨hi, hj⟩
    simp only [slB]; simp (maxSteps := 4000000) only [go_sem, seval]
    (repeat' (first
    | (refine awp_seqK ?_)
    | (refine kt ?_)
    | (refine And.intro ?_ ?_)
    | ((first | refine awp_region ?_ | refine awp_draw (by kernel_rfl) (by kernel_rfl) ?_ | refine Imp.le2 ?_ | refine awp_label ?_ | refine awp_skip ?_ | refine awp_exit ?_ | refine awp_cd ?_ | refine awp_ret ?_ | refine go_split (fun _h => ?_) (fun _h => ?_)) <;> try simp (maxSteps := 4000000) only [go_sem, seval, sl])
    | (intro _h)
    | (refine awp_block ?_)
    | (refine awp_scope ?_)
    | (refine cond_b (fun _h => ?_) (fun _h => ?_))
    | (show heapOK _ _ = true; kernel_rfl)
    | (show heapOK2 _ _ = true; kernel_rfl)
    | (omega)))
    all_goals first
      | (refine ⟨i + 1, ⟨by omega, fun j hji => ?_⟩, by omega, .le2 ?_⟩
         · rcases Nat.lt_succ_iff_lt_or_eq.1 hji with h | rfl
           · exact hj j h
           · omega
         · simp (maxSteps := 4000000) only [go_sem, seval]
           try omega)
      | exact hno (fun h => by have := h.2 i (by omega); omega)
      | exact (hno (fun h => by have := h.2 i (by omega); omega)).symm
      | exact hno (fun h => by have := h.1; omega)
      | exact (hno (fun h => by have := h.1; omega)).symm
      | exact hyes ⟨by omega, fun j h => hj j (by omega)⟩
      | exact (hyes ⟨by omega, fun j h => hj j (by omega)⟩).symm
      | trace_state
/-- The home that fails. -/
def failI (t : Town) : Option Nat := (List.range t.homes.length).find? fun i => decide (1000 ≤ fewN t (i + 1))
def failsN (t : Town) : Int := if faultT t ≠ 0 then 0 else match failI t with | some i => i | none => 0
def failsE (t : Town) : Int := if faultT t ≠ 0 then faultT t else match failI t with | some _ => 0 | none => 7
theorem failI_some {t : Town} {i : Nat} : failI t = some i ↔ i < t.homes.length ∧ 1000 ≤ fewN t (i + 1) ∧ ∀ j, j < i → fewN t (j + 1) < 1000 := by
  unfold failI
  rw [List.find?_range_eq_some]
  simp only [decide_eq_true_eq, Bool.not_eq_true', decide_eq_false_iff_not, List.mem_range]
  constructor
  · rintro ⟨a, b, c⟩; exact ⟨b, a, fun j hj => by have := c j hj; omega⟩
  · rintro ⟨a, b, c⟩; exact ⟨b, a, fun j hj => by have := c j hj; omega⟩
theorem failI_none {t : Town} : failI t = none ↔ ∀ j, j < t.homes.length → fewN t (j + 1) < 1000 := by
  unfold failI
  rw [List.find?_eq_none]
  simp only [List.mem_range, decide_eq_true_eq]
  constructor
  · intro h j hj; have := h j hj; omega
  · intro h j hj; have := h j hj; omega
theorem Fails_c (t : Town) (hb : townOK t) : CallS Try.prog 25 [.agg (townC t)] (.tup [.int .i64 (failsN t), .int .i64 (failsE t)]) := by
  have hch := check_c t hb
  by_cases h0 : faultT t = 0
  · have ht := faultT_zero h0
    have hln := ht.homes
    have hpl := planning_c t ht
    rw [h0] at hch
    have e1 : ∀ i, failI t = some i → .tup [.int .i64 (i : Int), .int .i64 0] = AV.tup [.int .i64 (failsN t), .int .i64 (failsE t)] := fun i h => by simp [failsN, failsE, h0, h]
    have e2 : failI t = none → .tup [.int .i64 0, .int .i64 7] = AV.tup [.int .i64 (failsN t), .int .i64 (failsE t)] := fun h => by simp [failsN, failsE, h0, h]
    generalize AV.tup [.int .i64 (failsN t), .int .i64 (failsE t)] = res at *
    simp only [plB, planC, slB, townC, slH, slL, sl] at hch hpl ⊢
    (refine callS_of_awp (fun w args => Try.call25 ..) Try.func25 rfl (fun w0 m0 wz => ?_); simp only [Try.ntmps25, Try.results25, initT, junks, homeC, hallC, slH, slL, townC, sl, List.toList_toArray, List.cons_append, List.nil_append, List.length_cons, List.length_nil, Nat.reduceAdd, Nat.reduceSub])
    (repeat' (first
    | (refine awp_ownN 1 rfl ?_; simp (maxSteps := 4000000) only [go_sem, seval, List.take_succ_cons, List.take_zero, decide_true]; (repeat refine And.intro (by omega) ?_); refine own_go (hpl) [] rfl ?_ ?_ rfl ?_ <;> try simp (maxSteps := 4000000) only [go_sem, seval, Nat.lt_irrefl, decide_true] <;> try decide)
    | (refine awp_seqK ?_)
    | (refine kt ?_)
    | (refine And.intro ?_ ?_)
    | ((first | refine awp_region ?_ | refine awp_draw (by kernel_rfl) (by kernel_rfl) ?_ | refine Imp.le2 ?_ | refine awp_label ?_ | refine awp_skip ?_ | refine awp_exit ?_ | refine awp_cd ?_ | refine awp_ret ?_ | refine callK_of (hch) ?_ | refine go_split (fun _h => ?_) (fun _h => ?_)) <;> try simp (maxSteps := 4000000) only [go_sem, seval, decide_true])
    | (intro _h)
    | (refine awp_block ?_)
    | (refine awp_scope ?_)
    | (refine cond_b (fun _h => ?_) (fun _h => ?_))
    | (show heapOK _ _ = true; kernel_rfl)
    | (show heapOK2 _ _ = true; kernel_rfl)
    | (omega)))
    refine awp_loopJ (fun x : Nat × Kmap => x.1 ≤ t.homes.length ∧ GoodK t x.2 ∧ ∀ j, j < x.1 → fewN t (j + 1) < 1000) (fun x => ⟨mkT 29 [(1, .ptr 0 0 0), (5, .ptr 3 0 0), (16, .int .i64 t.homes.length), (17, .int .i64 x.1)], [some (.cells 40 1 0 (townC t)), none, some (.map (kmC x.2)), plB t 2], []⟩) (fun x => t.homes.length - x.1) (0, []) ⟨Nat.zero_le _, GoodK.nil, fun j hj => by simp only at hj; omega⟩ (.le2 ?_) ?_
    · simp only [plB, planC, slB, townC, slH, slL, sl]; simp (maxSteps := 4000000) only [go_sem, seval]
      try (first | rfl | exact ⟨rfl, rfl⟩)
    · rintro ⟨k, K⟩ ⟨hk, hK, hj⟩
      simp only at hk hK hj
      rcases Nat.lt_or_eq_of_le hk with hk1 | hk1
      · have hbe := begin_c t (k + 1) K ht (by omega)
        have hso := stBeg_ok ht (n := k + 1) (by omega)
        have hfw := fewest_c t ht _ K hso hK
        have hK2 := fwK_good (hso.lt ht) hK
        have e9 : needV t (stBeg t (k + 1) t.halls.length) = fewN t (k + 1) := rfl
        rw [e9] at hfw
        generalize stBeg t (k + 1) t.halls.length = s0 at *
        generalize fwK t s0 K = K2 at *
        have ek : ((k + 1 : Nat) : Int) = (k : Int) + 1 := by omega
        rw [ek] at hbe
        simp only [plB, planC, slB, townC, slH, slL, sl, stC] at hbe hfw
        by_cases hv : 1000 ≤ fewN t (k + 1)
        · rw [← e1 k (failI_some.2 ⟨hk1, hv, hj⟩)]
          have eV : (1000 ≤ fewN t (k + 1)) = True := eq_true hv
          simp only [plB, planC, slB, townC, slH, slL, sl]; simp (maxSteps := 4000000) only [go_sem, seval]
          (repeat' (first
    | ((exfalso; omega))
    | (refine awp_segO (id := 8) [4, 0] ?_; simp (maxSteps := 4000000) only [go_sem, seval, so_cons, so_nil, List.take_succ_cons, List.take_zero, List.drop_succ_cons, List.drop_zero, eV, decide_true])
    | (refine own_go (hbe) [3, 2] rfl ?_ ?_ rfl ?_ <;> try simp (maxSteps := 4000000) only [go_sem, seval, Nat.lt_irrefl, so_cons, so_nil, List.take_succ_cons, List.take_zero, List.drop_succ_cons, List.drop_zero, eV, decide_true] <;> try decide)
    | (refine own_go (hfw) [3, 2] rfl ?_ ?_ rfl ?_ <;> try simp (maxSteps := 4000000) only [go_sem, seval, Nat.lt_irrefl, so_cons, so_nil, List.take_succ_cons, List.take_zero, List.drop_succ_cons, List.drop_zero, eV, decide_true] <;> try decide)
    | (refine awp_seqK ?_)
    | (refine kt ?_)
    | (refine And.intro ?_ ?_)
    | ((first | refine awp_region ?_ | refine awp_draw (by kernel_rfl) (by kernel_rfl) ?_ | refine Imp.le2 ?_ | refine awp_label ?_ | refine awp_skip ?_ | refine awp_exit ?_ | refine awp_cd ?_ | refine awp_ret ?_ | refine go_split (fun _h => ?_) (fun _h => ?_)) <;> try simp (maxSteps := 4000000) only [go_sem, seval, eV, decide_true])
    | (intro _h)
    | (refine awp_block ?_)
    | (refine awp_scope ?_)
    | (refine cond_b (fun _h => ?_) (fun _h => ?_))
    | (show heapOK _ _ = true; kernel_rfl)
    | (show heapOK2 _ _ = true; kernel_rfl)
    | (omega)))
          all_goals trace_state
        · have eV : (1000 ≤ fewN t (k + 1)) = False := eq_false hv
          simp only [plB, planC, slB, townC, slH, slL, sl]; simp (maxSteps := 4000000) only [go_sem, seval]
          (repeat' (first
    | ((exfalso; omega))
    | (refine awp_segO (id := 8) [4, 0] ?_; simp (maxSteps := 4000000) only [go_sem, seval, so_cons, so_nil, List.take_succ_cons, List.take_zero, List.drop_succ_cons, List.drop_zero, eV, decide_false])
    | (refine own_go (hbe) [3, 2] rfl ?_ ?_ rfl ?_ <;> try simp (maxSteps := 4000000) only [go_sem, seval, Nat.lt_irrefl, so_cons, so_nil, List.take_succ_cons, List.take_zero, List.drop_succ_cons, List.drop_zero, eV, decide_false] <;> try decide)
    | (refine own_go (hfw) [3, 2] rfl ?_ ?_ rfl ?_ <;> try simp (maxSteps := 4000000) only [go_sem, seval, Nat.lt_irrefl, so_cons, so_nil, List.take_succ_cons, List.take_zero, List.drop_succ_cons, List.drop_zero, eV, decide_false] <;> try decide)
    | (refine awp_seqK ?_)
    | (refine kt ?_)
    | (refine And.intro ?_ ?_)
    | ((first | refine awp_region ?_ | refine awp_draw (by kernel_rfl) (by kernel_rfl) ?_ | refine Imp.le2 ?_ | refine awp_label ?_ | refine awp_skip ?_ | refine awp_exit ?_ | refine awp_cd ?_ | refine awp_ret ?_ | refine go_split (fun _h => ?_) (fun _h => ?_)) <;> try simp (maxSteps := 4000000) only [go_sem, seval, eV, decide_false])
    | (intro _h)
    | (refine awp_block ?_)
    | (refine awp_scope ?_)
    | (refine cond_b (fun _h => ?_) (fun _h => ?_))
    | (show heapOK _ _ = true; kernel_rfl)
    | (show heapOK2 _ _ = true; kernel_rfl)
    | (omega)))
          refine ⟨(k + 1, K2), ⟨by simp only; omega, hK2, fun j h => ?_⟩, by simp only; omega, .le2 ?_⟩
          · simp only at h
            rcases Nat.lt_succ_iff_lt_or_eq.1 h with h | rfl
            · exact hj j h
            · omega
          · simp only [plB, planC, slB, townC, slH, slL, sl]; simp (maxSteps := 4000000) only [go_sem, seval]
            try (first | rfl | exact ⟨rfl, rfl⟩)
      · subst hk1
        rw [← e2 (failI_none.2 hj)]
        simp only [plB, planC, slB, townC, slH, slL, sl]; simp (maxSteps := 4000000) only [go_sem, seval]
        (repeat' (first
    | ((exfalso; omega))
    | (refine awp_seqK ?_)
    | (refine kt ?_)
    | (refine And.intro ?_ ?_)
    | ((first | refine awp_region ?_ | refine awp_draw (by kernel_rfl) (by kernel_rfl) ?_ | refine Imp.le2 ?_ | refine awp_label ?_ | refine awp_skip ?_ | refine awp_exit ?_ | refine awp_cd ?_ | refine awp_ret ?_ | refine go_split (fun _h => ?_) (fun _h => ?_)) <;> try simp (maxSteps := 4000000) only [go_sem, seval])
    | (intro _h)
    | (refine awp_block ?_)
    | (refine awp_scope ?_)
    | (refine cond_b (fun _h => ?_) (fun _h => ?_))
    | (show heapOK _ _ = true; kernel_rfl)
    | (show heapOK2 _ _ = true; kernel_rfl)
    | (omega)))
        all_goals trace_state
  · have e0 : (faultT t = 0) = False := eq_false h0
    have e1 : failsE t = faultT t := by simp [failsE, h0]
    have e2 : failsN t = 0 := by simp [failsN, h0]
    rw [e1, e2]
    simp only [slB, townC, slH, slL, sl] at hch ⊢
    (refine callS_of_awp (fun w args => Try.call25 ..) Try.func25 rfl (fun w0 m0 wz => ?_); simp only [Try.ntmps25, Try.results25, initT, junks, homeC, hallC, slH, slL, townC, sl, List.toList_toArray, List.cons_append, List.nil_append, List.length_cons, List.length_nil, Nat.reduceAdd, Nat.reduceSub])
    (repeat' (first
    | (refine awp_seqK ?_)
    | (refine kt ?_)
    | (refine And.intro ?_ ?_)
    | ((first | refine awp_region ?_ | refine awp_draw (by kernel_rfl) (by kernel_rfl) ?_ | refine Imp.le2 ?_ | refine awp_label ?_ | refine awp_skip ?_ | refine awp_exit ?_ | refine awp_cd ?_ | refine awp_ret ?_ | refine callK_of (hch) ?_ | refine go_split (fun _h => ?_) (fun _h => ?_)) <;> try simp (maxSteps := 4000000) only [go_sem, seval, e0, decide_false])
    | (intro _h)
    | (refine awp_block ?_)
    | (refine awp_scope ?_)
    | (refine cond_b (fun _h => ?_) (fun _h => ?_))
    | (show heapOK _ _ = true; kernel_rfl)
    | (show heapOK2 _ _ = true; kernel_rfl)
    | (omega)))
end Go.Am
