/- Parts Xo, Xk, Wa, TgB, TjA, TjB, TjC, TjD, TkA, TkB, TmP, TjE, TbB, TjF, TmB, TpA of the proof, one behind the other. No statement is proved here. -/
import Derived.Test.YtghlpjfpfjpddaaK3
import Derived.Test.YtghlpjfpfjpddaaProg
import Derived.KernelRfl
import Derived.Test.YtghlpjfpfjpddaaK5
import Derived.Test.YtghlpjfpfjpddaaK4
set_option linter.unusedVariables false -- all
set_option linter.unusedSimpArgs false
/- The abstract machine Am, part Xo: the machine that runs, with calls of which the contract is known. -/
namespace Go.Am
open Go.RowKit
set_option linter.unusedSimpArgs false
set_option linter.unusedVariables false
end Go.Am

/- The abstract machine Am, part Xk: calls that are known, by their values (for calls that are run in parts). -/
namespace Go.Am
open Go.RowKit
set_option linter.unusedSimpArgs false
set_option linter.unusedVariables false
end Go.Am

/- What the chapter shows (awake), in parts, by running them: the town, its latest minutes, the order, a plan that is right. -/
namespace Go.Am
open Go.RowKit Go.Proofs
def entA (g : FuncId) : Bool := Nat.ble 3 g && Nat.ble g 134
theorem entA_all : (List.range' 3 132).all (entB Try.prog) = true := by kernel_rfl
theorem entA_ok (g : FuncId) (h : entA g = true) : Enters Try.prog g := by
  simp only [entA, Bool.and_eq_true, Nat.ble_eq] at h
  refine enters_of ?_
  have := List.all_eq_true.1 entA_all g (by rw [List.mem_range']; exact ⟨g - 3, by omega, by omega⟩)
  exact this
theorem mixedA : Try.prog.follows .mixedOrders = true := by kernel_rfl
abbrev pmA : FuncId → Bool := fun g => !(Nat.beq g 50 || (Nat.beq g 51 || (Nat.beq g 52 || Nat.beq g 53)))
def town0 : AV := .agg [.psl true 3 [.int .i64 4, .int .u8 1, .int .i64 10, .int .i64 20, .int .i64 5, .int .i64 100, .int .i64 2, .int .u8 0, .int .i64 5, .int .i64 10, .int .i64 0, .int .i64 60, .int .i64 3, .int .u8 2, .int .i64 5, .int .i64 10, .int .i64 2, .int .i64 80], .psl true 2 [.int .i64 6, .int .u8 1, .int .i64 30, .int .i64 10, .int .u8 3, .int .i64 45], .int .i64 7, .int .i64 2, .int .i64 3]
def fleet0 : AV := .psl true 2 [.int .i64 34, .int .i64 1, .psl true 2 [.int .i64 0, .int .i64 2], .int .i64 19, .int .i64 0, .psl true 1 [.int .i64 1]]
set_option maxRecDepth 100000 in
theorem village_c : CallS Try.prog 47 [] town0 :=
  callS_run (eqt := fun _ => true) (pm := pmA) (ent := entA) (lf := 2000) (n := 60) (fun t _ => eqOK t) entA_ok mixedA (by kernel_rfl)
set_option maxRecDepth 100000 in
theorem fleet_c : CallS Try.prog 48 [] fleet0 :=
  callS_run (eqt := fun _ => true) (pm := pmA) (ent := entA) (lf := 2000) (n := 60) (fun t _ => eqOK t) entA_ok mixedA (by kernel_rfl)
set_option maxRecDepth 100000 in
theorem worst0_c : CallS Try.prog 22 [town0] (.tup [.psl false 3 [.int .i64 34, .int .i64 19, .int .i64 21], .int .i64 0]) :=
  callS_run (eqt := fun _ => true) (pm := pmA) (ent := entA) (lf := 2000) (n := 60) (fun t _ => eqOK t) entA_ok mixedA (by kernel_rfl)
set_option maxRecDepth 100000 in
theorem order0_c : CallS Try.prog 23 [town0] (.tup [.psl false 3 [.int .i64 1, .int .i64 2, .int .i64 0], .int .i64 0]) :=
  callS_run (eqt := fun _ => true) (pm := pmA) (ent := entA) (lf := 2000) (n := 60) (fun t _ => eqOK t) entA_ok mixedA (by kernel_rfl)
set_option maxRecDepth 100000 in
theorem prove0_c : CallS Try.prog 19 [town0, fleet0] (.bool true) :=
  callS_run (eqt := fun _ => true) (pm := pmA) (ent := entA) (lf := 2000) (n := 60) (fun t _ => eqOK t) entA_ok mixedA (by kernel_rfl)
end Go.Am

/- What the chapter shows (awake), as a contract. -/
namespace Go.Am
open Go.RowKit Go.Proofs
attribute [local irreducible] AWP CallS Kt goK CallK stepK evOps SemF SemY Imp
set_option maxRecDepth 4000
set_option linter.unusedSimpArgs false
set_option linter.unusedVariables false
set_option maxHeartbeats 1600000
/-- The town of the chapter. -/
def vil : Town := ⟨[⟨4, 1, 10, 20, 5, 100⟩, ⟨2, 0, 5, 10, 0, 60⟩, ⟨3, 2, 5, 10, 2, 80⟩], [⟨6, 1, 30⟩, ⟨10, 3, 45⟩], 7, 2, 3⟩
theorem vil_deep : Deep town0 (.agg (townC vil)) := deep_agg ⟨deep_psl (by rw [show recs homeC vil.homes = _ from rfl]; repeat (first | exact trivial | refine And.intro (.refl _) ?_)), deep_psl (by rw [show recs hallC vil.halls = _ from rfl]; repeat (first | exact trivial | refine And.intro (.refl _) ?_)), .refl _, .refl _, .refl _, trivial⟩
set_option maxRecDepth 100000 in
theorem vil_plan : planE vil = 0 ∧ (planL vil).length = 2 := by
  have h : (decide (planE vil = 0) && Nat.beq (planL vil).length 2) = true := by kernel_rfl
  simpa using h
theorem plan0_c : CallS Try.prog 17 [town0] (.tup [slB (planL vil), .int .i64 0]) := by
  have h := Plan_c vil ⟨by simp [vil], by simp [vil]⟩
  rw [show planV vil = slB (planL vil) by unfold planV; rw [if_pos vil_plan.1], vil_plan.1] at h
  exact h.deep ⟨vil_deep, trivial⟩
theorem awake_c : CallS Try.prog 16 [] (.bool true) := by
  have h1 := ints_c [34, 19, 21] [34, 19, 21] (by simp)
  have h2 := ints_c [1, 2, 0] [1, 2, 0] (by simp)
  have hp := plan0_c
  have hl := vil_plan.2
  have hv := village_c
  have hw := worst0_c
  have ho := order0_c
  have hf := fleet_c
  have hr := prove0_c
  simp only [decide_true] at h1 h2
  have hX := pl_B (l := planL vil)
  simp only [slB, hl] at hp
  generalize recs busC (planL vil) = X at *
  simp only [town0, fleet0] at hv hw hp ho hf hr
  simp only [sl, ints_length, ints_cons, ints_nil, List.length_cons, List.length_nil, Nat.reduceAdd, Nat.zero_add] at h1 h2
  have hx : pureL X = True := hX
  have g1 : CallS Try.prog 34 [.psl false 3 [.int .i64 34, .int .i64 19, .int .i64 21], .psl true 3 [.int .i64 34, .int .i64 19, .int .i64 21]] (.bool true) := h1.deep ⟨.refl _, deep_psl ⟨.refl _, .refl _, .refl _, trivial⟩, trivial⟩
  have g2 : CallS Try.prog 34 [.psl false 3 [.int .i64 1, .int .i64 2, .int .i64 0], .psl true 3 [.int .i64 1, .int .i64 2, .int .i64 0]] (.bool true) := h2.deep ⟨.refl _, deep_psl ⟨.refl _, .refl _, .refl _, trivial⟩, trivial⟩
  (refine callS_of_awp (fun w args => Try.call16 ..) Try.func16 rfl (fun w0 m0 wz => ?_); simp only [Try.ntmps16, Try.results16, initT, junks, homeC, hallC, slH, slL, townC, sl, List.toList_toArray, List.cons_append, List.nil_append, List.length_cons, List.length_nil, Nat.reduceAdd, Nat.reduceSub])
  (repeat' (first
 | refine awp_seqK ?_
 | refine kt ?_
 | refine And.intro ?_ ?_
 | ((first | refine awp_stp rfl ?_ | refine awp_draw (by kernel_rfl) (by kernel_rfl) ?_ | refine Imp.le2 ?_ | refine callK_of (hv) ?_ | refine callK_of (hw) ?_ | refine callK_of (hp) ?_ | refine callK_of (ho) ?_ | refine callK_of (hf) ?_ | refine callK_of (hr) ?_ | refine callK_of (g1) ?_ | refine callK_of (g2) ?_ | refine go_split (fun _h => ?_) (fun _h => ?_)) <;> try simp (maxSteps := 4000000) only [go_sem, seval, hx])
 | intro _h
 | refine awp_block ?_
 | refine awp_scope ?_
 | refine cond_b ?_ ?_
 | (show heapOK _ _ = true; kernel_rfl)
 | (show heapOK2 _ _ = true; kernel_rfl)
 | (omega)))
  all_goals trace_state
theorem thinB_ok {t : Town} (h : thinB t = true) : townOK t ∧ t.homes.length ≤ 12 ∧ t.halls.length ≤ 6 := by
  have := of_decide_eq_true h
  exact ⟨⟨by omega, by omega⟩, by omega, by omega⟩
end Go.Am

/- Plain words: sums; a plan as a share of the homes among buses; what the fewest buses are. No program is in sight. -/
namespace Go.Am
set_option linter.unusedSimpArgs false
set_option linter.unusedVariables false
def sumN (f : Nat → Int) : Nat → Int
  | 0 => 0
  | k + 1 => sumN f k + f k
theorem sumN_congr {f g : Nat → Int} : ∀ {k : Nat}, (∀ h, h < k → f h = g h) → sumN f k = sumN g k
  | 0, _ => rfl
  | k + 1, h => by simp only [sumN]; rw [sumN_congr (fun i hi => h i (by omega)), h k (by omega)]
theorem sumN_le {f g : Nat → Int} : ∀ {k : Nat}, (∀ h, h < k → f h ≤ g h) → sumN f k ≤ sumN g k
  | 0, _ => by simp [sumN]
  | k + 1, h => by
    have h1 := sumN_le (k := k) (fun i hi => h i (by omega))
    have h2 := h k (by omega)
    simp only [sumN]; omega
theorem sumN_nonneg {f : Nat → Int} : ∀ {k : Nat}, (∀ h, h < k → 0 ≤ f h) → 0 ≤ sumN f k
  | 0, _ => by simp [sumN]
  | k + 1, h => by
    have h1 := sumN_nonneg (k := k) (fun i hi => h i (by omega))
    have h2 := h k (by omega)
    simp only [sumN]; omega
theorem sumN_add {f g : Nat → Int} : ∀ {k : Nat}, sumN (fun h => f h + g h) k = sumN f k + sumN g k
  | 0 => rfl
  | k + 1 => by simp only [sumN]; rw [sumN_add]; omega
theorem sumN_zero : ∀ {k : Nat}, sumN (fun _ => 0) k = 0
  | 0 => rfl
  | k + 1 => by simp only [sumN, sumN_zero]; omega
theorem sumN_swap {F : Nat → Nat → Int} : ∀ {n k : Nat}, sumN (fun h => sumN (fun j => F h j) k) n = sumN (fun j => sumN (fun h => F h j) n) k
  | 0, k => by simp only [sumN]; exact sumN_zero.symm
  | n + 1, k => by
    have := sumN_swap (F := F) (n := n) (k := k)
    simp only [sumN, this]
    rw [← sumN_add]
theorem sumN_pick {a : Nat} {c : Int} : ∀ {k : Nat}, sumN (fun j => if j = a then c else 0) k = if a < k then c else 0
  | 0 => by simp [sumN]
  | k + 1 => by
    simp only [sumN, sumN_pick]
    by_cases h : k = a
    · subst h; simp
    · by_cases h2 : a < k
      · simp [h, h2, show a < k + 1 by omega]
      · simp [h, h2, show ¬ a < k + 1 by omega]
def peo (t : Town) (h : Nat) : Int := (t.homes.getD h default).people
theorem pplL_cons {t : Town} {x : Int} {l : List Int} : ∀ k, pplL t (x :: l) (k + 1) = peo t x.toNat + pplL t l k
  | 0 => by simp [pplL, peo]
  | k + 1 => by
    rw [pplL, pplL_cons k]
    simp only [pplL, List.getD_cons_succ]
    omega
theorem ppl_cons {t : Town} {x : Int} {l : List Int} : ppl t (x :: l) = peo t x.toNat + ppl t l := pplL_cons _
theorem ppl_nil {t : Town} : ppl t [] = 0 := rfl
/-- The people of a list of different homes. -/
theorem ppl_sum {t : Town} : ∀ {l : List Int}, l.Nodup → (∀ x ∈ l, 0 ≤ x ∧ x < 8) → ppl t l = sumN (fun h => if (h : Int) ∈ l then peo t h else 0) 8
  | [], _, _ => by simp only [ppl_nil, List.not_mem_nil, if_false]; exact sumN_zero.symm
  | x :: l, hn, hb => by
    obtain ⟨h1, h2⟩ := List.nodup_cons.1 hn
    have hx := hb x (by simp)
    rw [ppl_cons, ppl_sum h2 (fun y hy => hb y (by simp [hy]))]
    have e : sumN (fun h => if (h : Int) ∈ x :: l then peo t h else 0) 8 = sumN (fun h => (if h = x.toNat then peo t x.toNat else 0) + (if (h : Int) ∈ l then peo t h else 0)) 8 := by
      refine sumN_congr fun h hh => ?_
      by_cases e1 : h = x.toNat
      · subst e1
        have e2 : ((x.toNat : Nat) : Int) = x := by omega
        rw [e2, if_pos (List.mem_cons_self ..), if_pos rfl, if_neg h1]; omega
      · have e2 : (h : Int) ≠ x := by omega
        rw [if_neg e1]
        by_cases e3 : (h : Int) ∈ l
        · rw [if_pos (List.mem_cons_of_mem _ e3), if_pos e3]; omega
        · rw [if_neg (by rw [List.mem_cons]; rintro (h | h); exact e2 h; exact e3 h), if_neg e3]; omega
    rw [e, sumN_add, sumN_pick, if_pos (by omega)]
theorem lst_nodup {m : Nat} : (lst m).Nodup := (lstN_rise 8).imp (fun h => by omega)
theorem ppl_lst {t : Town} {m : Nat} : ppl t (lst m) = sumN (fun h => if m.testBit h = true then peo t h else 0) 8 := by
  rw [ppl_sum lst_nodup (fun x hx => by have := lst_mem.1 hx; omega)]
  refine sumN_congr fun h hh => ?_
  by_cases e : m.testBit h = true
  · rw [if_pos e, if_pos (lst_mem.2 ⟨by omega, by omega, by simpa using e⟩)]
  · rw [if_neg e, if_neg (fun hm => e (by simpa using (lst_mem.1 hm).2.2))]
theorem leaveL_ge {t : Town} {l : List Int} : ∀ {k j : Nat}, j < k → (worstL t).getD (l.getD j 0).toNat 0 ≤ leaveL t l k
  | 0, j, h => by omega
  | k + 1, j, h => by
    simp only [leaveL]
    rcases Nat.lt_succ_iff_lt_or_eq.1 h with h | rfl
    · have := leaveL_ge (t := t) (l := l) h; omega
    · omega
theorem leaveL_le {t : Town} {l : List Int} {L : Int} (h0 : 0 ≤ L) : ∀ {k : Nat}, (∀ j, j < k → (worstL t).getD (l.getD j 0).toNat 0 ≤ L) → leaveL t l k ≤ L
  | 0, _ => h0
  | k + 1, h => by
    have h1 := leaveL_le (k := k) h0 (fun j hj => h j (by omega))
    have h2 := h k (by omega)
    simp only [leaveL]; omega
theorem leave_ge {t : Town} {l : List Int} {x : Int} (h : x ∈ l) : (worstL t).getD x.toNat 0 ≤ leaveL t l l.length := by
  obtain ⟨j, hj, rfl⟩ := mem_getD (d := 0) h
  exact leaveL_ge hj
theorem leave_le {t : Town} {l : List Int} {L : Int} (h0 : 0 ≤ L) (h : ∀ x ∈ l, (worstL t).getD x.toNat 0 ≤ L) : leaveL t l l.length ≤ L := leaveL_le h0 (fun j hj => h _ (getD_mem hj))
def mkN (q : Nat → Bool) : Nat → Nat
  | 0 => 0
  | k + 1 => mkN q k ||| (if q k = true then 2 ^ k else 0)
theorem mkN_bit {q : Nat → Bool} {h : Nat} : ∀ {k : Nat}, (mkN q k).testBit h = (decide (h < k) && q h)
  | 0 => by simp [mkN]
  | k + 1 => by
    simp only [mkN, Nat.testBit_or, mkN_bit]
    by_cases e : h = k
    · subst e
      cases hq : q h
      · simp
      · simp [Nat.testBit_two_pow_self]
    · cases hq : q k
      · by_cases h2 : h < k
        · simp [h2, show h < k + 1 by omega]
        · simp [h2, show ¬ h < k + 1 by omega]
      · by_cases h2 : h < k
        · simp [h2, show h < k + 1 by omega, Nat.testBit_two_pow, Ne.symm e]
        · simp [h2, show ¬ h < k + 1 by omega, Nat.testBit_two_pow, Ne.symm e]
theorem bit_lt {m h : Nat} (hm : m < 256) (hb : m.testBit h = true) : h < 8 := by
  by_cases h8 : h < 8
  · exact h8
  · rw [Nat.testBit_lt_two_pow (Nat.lt_of_lt_of_le hm (show 2 ^ 8 ≤ 2 ^ h from Nat.pow_le_pow_right (by omega) (by omega)))] at hb
    cases hb
theorem bit_ext {a b : Nat} (ha : a < 256) (hb : b < 256) (h : ∀ i, i < 8 → a.testBit i = b.testBit i) : a = b := by
  refine Nat.eq_of_testBit_eq fun i => ?_
  by_cases h8 : i < 8
  · exact h i h8
  · cases e1 : a.testBit i
    · cases e2 : b.testBit i
      · rfl
      · exact absurd (bit_lt hb e2) h8
    · exact absurd (bit_lt ha e1) h8
theorem low_one {m i j : Nat} (hm : m < 256) (hi : (lowB m).testBit i = true) (hj : (lowB m).testBit j = true) : i = j := by
  have h := byteb (p := fun m => (List.range 8).all fun i => (List.range 8).all fun j => !(lowB m).testBit i || !(lowB m).testBit j || Nat.beq i j) (by kernel_rfl) hm
  have hl := lowB_lt hm
  have h1 := List.all_eq_true.1 h i (by simpa using bit_lt hl hi)
  have h2 := List.all_eq_true.1 h1 j (by simpa using bit_lt hl hj)
  rw [hi, hj] at h2
  exact Nat.eq_of_beq_eq_true (by simpa using h2)
theorem low_ex {m : Nat} (hm : m < 256) (h0 : m ≠ 0) : ∃ i, i < 8 ∧ (lowB m).testBit i = true ∧ m.testBit i = true := by
  obtain ⟨i, hi⟩ := Nat.exists_testBit_of_ne_zero (low_pos hm h0)
  refine ⟨i, bit_lt (lowB_lt hm) hi, hi, ?_⟩
  have := low_and hm
  rw [← this, Nat.testBit_and, Bool.and_eq_true] at hi
  exact hi.2
theorem and_sub_bit {a b i : Nat} (h : a &&& b = a) (hi : a.testBit i = true) : b.testBit i = true := by
  rw [← h, Nat.testBit_and, Bool.and_eq_true] at hi; exact hi.2
/-- The homes of a test share buses of some names, with halls and rooms as they should be. -/
structure FeasA (t : Town) (p : Nat → Bool) (r : Nat → Int) (L : List Nat) (a g : Nat → Nat) : Prop where
  lab : ∀ h, h < 8 → p h = true → h < t.homes.length ∧ a h ∈ L ∧ g (a h) < t.halls.length
  pet : ∀ h, h < 8 → p h = true → andn (t.homes.getD h default).pets (t.halls.getD (g (a h)) default).pets = 0
  tim : ∀ h h', h < 8 → h' < 8 → p h = true → p h' = true → a h = a h' → worstN t (t.homes.getD h' default) + (t.halls.getD (g (a h)) default).drive ≤ (t.homes.getD h default).gone
  sea : ∀ j ∈ L, sumN (fun h => if p h = true ∧ a h = j then peo t h else 0) 8 ≤ t.seats
  roo : ∀ i, i < t.halls.length → sumN (fun h => if p h = true ∧ g (a h) = i then peo t h else 0) 8 ≤ r i
def Feas (t : Town) (p : Nat → Bool) (r : Nat → Int) (L : List Nat) : Prop := ∃ a g, FeasA t p r L a g
theorem toSt_room {t : Town} {s : Sta} {m i j : Nat} (hi : i < 3) (hj : j < 3) : (toSt t s m i).room j = if j = i then s.room i - ppl t (lst m) else s.room j := by
  rcases (by omega : i = 0 ∨ i = 1 ∨ i = 2) with rfl | rfl | rfl <;> rcases (by omega : j = 0 ∨ j = 1 ∨ j = 2) with rfl | rfl | rfl <;> simp [toSt, Sta.room]
theorem foldV_le1 {g : Sta → Int} : ∀ (l : List (Bus × Sta)) (a : Int), foldV g l a ≤ a
  | [], a => by simp [foldV]
  | p :: l, a => by
    simp only [foldV]
    have := foldV_le1 (g := g) l (min a (1 + g p.2))
    omega
theorem foldV_le2 {g : Sta → Int} {p : Bus × Sta} : ∀ (l : List (Bus × Sta)) (a : Int), p ∈ l → foldV g l a ≤ 1 + g p.2
  | [], a, h => by simp at h
  | q :: l, a, h => by
    simp only [foldV]
    rcases List.mem_cons.1 h with rfl | h
    · have := foldV_le1 (g := g) l (min a (1 + g p.2)); omega
    · exact foldV_le2 l _ h
/-- What a bus of a set needs. -/
theorem may_iff {t : Town} {M i : Nat} (ht : TownOK t) (hM : M < 2 ^ t.homes.length) (h0 : M ≠ 0) : mayB t (mkBus t M i) = true ↔ ppl t (lst M) ≤ t.seats ∧ (∀ h, M.testBit h = true → andn (t.homes.getD h default).pets (t.halls.getD i default).pets = 0) ∧
    (∀ h h', M.testBit h = true → M.testBit h' = true → worstN t (t.homes.getD h' default) + (t.halls.getD i default).drive ≤ (t.homes.getD h default).gone) := by
  have hln := ht.homes
  have hM8 : M < 256 := Nat.lt_of_lt_of_le hM (show 2 ^ t.homes.length ≤ 2 ^ 8 from Nat.pow_le_pow_right (by omega) (by omega))
  have hin := lst_in hM hln.2
  have hmem : ∀ h, M.testBit h = true → (h : Int) ∈ lst M ∧ h < t.homes.length := fun h hb => by
    have h8 := bit_lt hM8 hb
    have : (h : Int) ∈ lst M := lst_mem.2 ⟨by omega, by omega, by simpa using hb⟩
    exact ⟨this, by have := hin _ this; omega⟩
  simp only [mayB, Bool.and_eq_true, decide_eq_true_eq, List.all_eq_true, sheB, timB]
  show (ppl t (lst M) ≤ t.seats ∧ (∀ x ∈ lst M, andn (t.homes.getD x.toNat default).pets (t.halls.getD ((i : Nat) : Int).toNat default).pets = 0)) ∧ (∀ x ∈ lst M, (worstL t).getD x.toNat 0 ≤ leaveL t (lst M) (lst M).length ∧ leaveL t (lst M) (lst M).length + (t.halls.getD ((i : Nat) : Int).toNat default).drive ≤ (t.homes.getD x.toNat default).gone) ↔ _
  rw [Int.toNat_natCast]
  constructor
  · rintro ⟨⟨h1, h2⟩, h3⟩
    refine ⟨h1, fun h hb => ?_, fun h h' hb hb' => ?_⟩
    · have := h2 _ (hmem h hb).1
      simpa using this
    · obtain ⟨m1, l1⟩ := hmem h hb
      obtain ⟨m2, l2⟩ := hmem h' hb'
      have h4 := (h3 _ m1).2
      have h5 := leave_ge (t := t) m2
      have h6 := worst_at (t := t) (x := (h' : Int)) (by omega)
      simp only [Int.toNat_natCast] at h4 h5 h6
      omega
  · rintro ⟨h1, h2, h3⟩
    refine ⟨⟨h1, fun x hx => ?_⟩, fun x hx => ⟨leave_ge hx, ?_⟩⟩
    · exact h2 _ (lst_mem.1 hx).2.2
    · have hb := (lst_mem.1 hx).2.2
      have hx1 := hin x hx
      have hle : leaveL t (lst M) (lst M).length ≤ (t.homes.getD x.toNat default).gone - (t.halls.getD i default).drive := by
        have h5 := h3 _ _ hb hb
        have h6 := (worstN_bd ht (i := x.toNat) (by omega)).1
        refine leave_le (by omega) (fun y hy => ?_)
        have h7 := h3 _ _ hb (lst_mem.1 hy).2.2
        rw [worst_at (hin y hy)]
        omega
      omega
end Go.Am

/- Plain words: the fewest buses of a state are the least number of buses that its homes can share. No program is in sight. -/
namespace Go.Am
set_option linter.unusedSimpArgs false
set_option linter.unusedVariables false
theorem peo_nonneg {t : Town} (ht : TownOK t) {h : Nat} (hh : h < t.homes.length) : 0 ≤ peo t h := by
  have := (ht.home h hh).people; unfold peo; omega
theorem rest_bit {t : Town} {s : Sta} (hs : StOK t s) (ht : TownOK t) {h : Nat} (hb : s.rest.testBit h = true) : h < t.homes.length := by
  by_cases e : h < t.homes.length
  · exact e
  · rw [Nat.testBit_lt_two_pow (Nat.lt_of_lt_of_le hs.rest (Nat.pow_le_pow_right (by omega) (by omega)))] at hb
    cases hb
/-- A share has as many buses as are needed, or more. -/
theorem need_le {t : Town} (ht : TownOK t) : ∀ (n : Nat) (s : Sta), s.rest = n → StOK t s → ∀ L : List Nat, Feas t s.rest.testBit s.room L → needV t s ≤ L.length := by
  intro n
  induction n using Nat.strongRecOn with
  | ind n ih =>
    intro s hn hs L hF
    have hr := hs.lt ht
    rw [needV_eq hr]
    by_cases h0 : s.rest = 0
    · rw [if_pos h0]; omega
    · rw [if_neg h0]
      obtain ⟨a, g, F⟩ := hF
      obtain ⟨h0', h8, hlow, hrb⟩ := low_ex hr h0
      obtain ⟨hl1, hl2, hl3⟩ := F.lab h0' h8 hrb
      have hhl := ht.halls
      have hln := ht.homes
      -- the bus of the first home
      let x := mkN (fun h => s.rest.testBit h && (!(lowB s.rest).testBit h && decide (a h = a h0'))) 8
      have hxb : ∀ i, x.testBit i = (decide (i < 8) && (s.rest.testBit i && (!(lowB s.rest).testBit i && decide (a i = a h0')))) := fun i => mkN_bit
      have hlowlt := lowB_lt hr
      have holt : othB s.rest < 256 := ndiff_lt hr
      have hxlt : x < 256 := Nat.lt_of_le_of_lt (Nat.le_refl _) (Nat.lt_pow_two_of_testBit x (n := 8) (fun i hi => by rw [hxb, decide_eq_false (by omega)]; rfl))
      have hx : x &&& othB s.rest = x := by
        refine bit_ext (Nat.lt_of_le_of_lt Nat.and_le_left hxlt) hxlt fun i hi => ?_
        rw [Nat.testBit_and, hxb]
        unfold othB
        rw [ndiff_bit hi]
        cases s.rest.testBit i <;> cases (lowB s.rest).testBit i <;> simp
      have hMb : ∀ i, i < 8 → (lowB s.rest ||| x).testBit i = (s.rest.testBit i && decide (a i = a h0')) := fun i hi => by
        rw [Nat.testBit_or, hxb]
        cases e1 : (lowB s.rest).testBit i
        · simp [hi]
        · have e2 := low_one hr e1 hlow
          subst e2
          simp [hrb]
      have hMlt : (lowB s.rest ||| x) < 2 ^ t.homes.length := by
        have := sub_le (mask_sub hr hx); have := hs.rest; omega
      have hM0 : lowB s.rest ||| x ≠ 0 := by
        intro e
        have := hMb h0' h8
        rw [e, hrb] at this
        simp at this
      have hM8 : lowB s.rest ||| x < 256 := Nat.or_lt_two_pow (n := 8) hlowlt hxlt
      have hp : ppl t (lst (lowB s.rest ||| x)) = sumN (fun h => if s.rest.testBit h = true ∧ a h = a h0' then peo t h else 0) 8 := by
        rw [ppl_lst]
        refine sumN_congr fun i hi => ?_
        rw [hMb i hi]
        by_cases e1 : s.rest.testBit i = true ∧ a i = a h0'
        · rw [if_pos e1, if_pos (by rw [e1.1]; simp [e1.2])]
        · rw [if_neg e1, if_neg (by intro h; apply e1; simpa using h)]
      have hfit : fitsB t s (lowB s.rest ||| x) (g (a h0')) = true := by
        simp only [fitsB, Bool.and_eq_true, decide_eq_true_eq]
        refine ⟨?_, (may_iff ht hMlt hM0).2 ⟨?_, fun h hb => ?_, fun h h' hb hb' => ?_⟩⟩
        · rw [hp]
          refine Int.le_trans (sumN_le fun i hi => ?_) (F.roo _ hl3)
          by_cases e1 : s.rest.testBit i = true ∧ a i = a h0'
          · rw [if_pos e1, if_pos ⟨e1.1, by rw [e1.2]⟩]; omega
          · rw [if_neg e1]
            split
            · rename_i e2; exact peo_nonneg ht (F.lab i hi e2.1).1
            · omega
        · rw [hp]; exact F.sea _ hl2
        · have h9 := bit_lt hM8 hb
          rw [hMb h h9, Bool.and_eq_true, decide_eq_true_eq] at hb
          have := F.pet h h9 hb.1
          rwa [hb.2] at this
        · have h9 := bit_lt hM8 hb
          have h9' := bit_lt hM8 hb'
          rw [hMb h h9, Bool.and_eq_true, decide_eq_true_eq] at hb
          rw [hMb h' h9', Bool.and_eq_true, decide_eq_true_eq] at hb'
          have := F.tim h h' h9 h9' hb.1 hb'.1 (by rw [hb.2, hb'.2])
          rwa [hb.2] at this
      have hmem : (mkBus t (lowB s.rest ||| x) (g (a h0')), toSt t s (lowB s.rest ||| x) (g (a h0'))) ∈ nextL t s := (nextL_mem hr).2 ⟨x, _, hx, hl3, hfit, rfl⟩
      have hto := toSt_ok ht hs h0 hx hl3 hfit
      have hlt := nextL_rest hr h0 hmem
      have h1 := foldV_le2 (g := needV t) (nextL t s) 1000 hmem
      have hrest : ∀ i, i < 8 → (toSt t s (lowB s.rest ||| x) (g (a h0'))).rest.testBit i = (s.rest.testBit i && !decide (a i = a h0')) := fun i hi => by
        show (ndiff s.rest (lowB s.rest ||| x)).testBit i = _
        rw [ndiff_bit hi, hMb i hi]
        cases s.rest.testBit i <;> simp
      have hF2 : Feas t (toSt t s (lowB s.rest ||| x) (g (a h0'))).rest.testBit (toSt t s (lowB s.rest ||| x) (g (a h0'))).room (L.erase (a h0')) := by
        have hor : ∀ i, i < 8 → (toSt t s (lowB s.rest ||| x) (g (a h0'))).rest.testBit i = true → s.rest.testBit i = true ∧ a i ≠ a h0' := fun i hi h => by
          rw [hrest i hi] at h; simpa using h
        refine ⟨a, g, ⟨fun h hh hb => ?_, fun h hh hb => F.pet h hh (hor h hh hb).1, fun h h' hh hh' hb hb' e => F.tim h h' hh hh' (hor h hh hb).1 (hor h' hh' hb').1 e, fun j hj => ?_, fun i hi => ?_⟩⟩
        · obtain ⟨b1, b2⟩ := hor h hh hb
          obtain ⟨c1, c2, c3⟩ := F.lab h hh b1
          exact ⟨c1, (List.mem_erase_of_ne b2).2 c2, c3⟩
        · refine Int.le_trans (sumN_le fun i hi => ?_) (F.sea j (List.mem_of_mem_erase hj))
          by_cases e1 : (toSt t s (lowB s.rest ||| x) (g (a h0'))).rest.testBit i = true ∧ a i = j
          · rw [if_pos e1, if_pos ⟨(hor i hi e1.1).1, e1.2⟩]; omega
          · rw [if_neg e1]
            split
            · rename_i e2; exact peo_nonneg ht (F.lab i hi e2.1).1
            · omega
        · rw [toSt_room (by omega) (by omega)]
          have hr0 := F.roo i hi
          by_cases e : i = g (a h0')
          · rw [if_pos e, hp]
            have e2 : sumN (fun h => if s.rest.testBit h = true ∧ g (a h) = i then peo t h else 0) 8 = sumN (fun h => (if s.rest.testBit h = true ∧ a h = a h0' then peo t h else 0) + (if (toSt t s (lowB s.rest ||| x) (g (a h0'))).rest.testBit h = true ∧ g (a h) = i then peo t h else 0)) 8 := by
              refine sumN_congr fun h hh => ?_
              rw [hrest h hh]
              cases hb : s.rest.testBit h
              · simp
              · by_cases e3 : a h = a h0'
                · simp [e3, e]
                · by_cases e4 : g (a h) = i
                  · simp [e3, e4]
                  · simp [e3, e4]
            rw [e2, sumN_add] at hr0
            rw [e] at hr0 ⊢
            omega
          · rw [if_neg e]
            refine Int.le_trans (sumN_le fun h hh => ?_) hr0
            by_cases e1 : (toSt t s (lowB s.rest ||| x) (g (a h0'))).rest.testBit h = true ∧ g (a h) = i
            · rw [if_pos e1, if_pos ⟨(hor h hh e1.1).1, e1.2⟩]; omega
            · rw [if_neg e1]
              split
              · rename_i e2; exact peo_nonneg ht (F.lab h hh e2.1).1
              · omega
      have h2 := ih _ (by rw [← hn]; exact hlt) _ rfl hto _ hF2
      have h3 := List.length_erase_of_mem hl2
      have h4 : 0 < L.length := List.length_pos_of_mem hl2
      simp only at h1
      omega
/-- If fewer than 1000 buses are needed, so many can be shared. -/
theorem need_feas {t : Town} (ht : TownOK t) : ∀ (n : Nat) (s : Sta), s.rest = n → StOK t s → needV t s < 1000 → Feas t s.rest.testBit s.room (List.range (needV t s).toNat) := by
  intro n
  induction n using Nat.strongRecOn with
  | ind n ih =>
    intro s hn hs hlt
    have hr := hs.lt ht
    have hhl := ht.halls
    by_cases h0 : s.rest = 0
    · refine ⟨fun _ => 0, fun _ => 0, ⟨fun h _ hb => ?_, fun h _ hb => ?_, fun h h' _ _ hb => ?_, fun j hj => ?_, fun i hi => ?_⟩⟩
      · rw [h0, Nat.zero_testBit] at hb; cases hb
      · rw [h0, Nat.zero_testBit] at hb; cases hb
      · rw [h0, Nat.zero_testBit] at hb; cases hb
      · have e : sumN (fun h => if s.rest.testBit h = true ∧ 0 = j then peo t h else 0) 8 = 0 := by
          rw [h0]; simp only [Nat.zero_testBit, Bool.false_eq_true, false_and, if_false]; exact sumN_zero
        rw [e]; have := ht.seats; omega
      · have e : sumN (fun h => if s.rest.testBit h = true ∧ 0 = i then peo t h else 0) 8 = 0 := by
          rw [h0]; simp only [Nat.zero_testBit, Bool.false_eq_true, false_and, if_false]; exact sumN_zero
        rw [e]; exact (hs.room i).1
    · obtain ⟨p, hp1, hp2, hp3⟩ := find_some hr h0 hlt
      obtain ⟨x, i, hx, hi, hf, rfl⟩ := (nextL_mem hr).1 hp2
      have hto := toSt_ok ht hs h0 hx hi hf
      have hlt2 := nextL_rest hr h0 hp2
      simp only at hp3 hlt2
      have hMlt : (lowB s.rest ||| x) < 2 ^ t.homes.length := by
        have := sub_le (mask_sub hr hx); have := hs.rest; omega
      have hMr := mask_sub hr hx
      have hM0 : lowB s.rest ||| x ≠ 0 := by
        intro e
        have h1 := low_pos hr h0
        have h2 : lowB s.rest ≤ lowB s.rest ||| x := Nat.left_le_or
        omega
      generalize hM : lowB s.rest ||| x = M at *
      have hM8 : M < 256 := by have := sub_le hMr; omega
      have hb1 := needV_bd (t := t) (s := toSt t s M i)
      obtain ⟨a', g', F⟩ := ih _ (by rw [← hn]; exact hlt2) _ rfl hto (by omega)
      obtain ⟨k, hk⟩ : ∃ k : Nat, needV t (toSt t s M i) = k := ⟨(needV t (toSt t s M i)).toNat, by omega⟩
      rw [hk, Int.toNat_natCast] at F
      have hk1 : (needV t s).toNat = k + 1 := by omega
      rw [hk1]
      have hrest : ∀ h, h < 8 → (toSt t s M i).rest.testBit h = (s.rest.testBit h && !M.testBit h) := fun h hh => ndiff_bit hh
      simp only [fitsB, Bool.and_eq_true, decide_eq_true_eq] at hf
      obtain ⟨hf1, hf2⟩ := hf
      obtain ⟨m1, m2, m3⟩ := (may_iff ht hMlt hM0).1 hf2
      have hMs : ∀ h, M.testBit h = true → s.rest.testBit h = true := fun h hb => and_sub_bit hMr hb
      have hp := ppl_lst (t := t) (m := M)
      have hak : ∀ h, h < 8 → s.rest.testBit h = true → M.testBit h = false → (toSt t s M i).rest.testBit h = true ∧ a' h < k := fun h hh hb hm => by
        have h1 : (toSt t s M i).rest.testBit h = true := by rw [hrest h hh, hb, hm]; rfl
        exact ⟨h1, List.mem_range.1 (F.lab h hh h1).2.1⟩
      refine ⟨fun h => if M.testBit h = true then k else a' h, fun j => if j = k then i else g' j, ⟨fun h hh hb => ?_, fun h hh hb => ?_, fun h h' hh hh' hb hb' e => ?_, fun j hj => ?_, fun j hj => ?_⟩⟩
      · cases hm : M.testBit h
        · obtain ⟨b1, b2⟩ := hak h hh hb hm
          have b3 := F.lab h hh b1
          simp only [Bool.false_eq_true, if_false]
          rw [if_neg (by omega)]
          exact ⟨b3.1, List.mem_range.2 (by omega), b3.2.2⟩
        · simp only [if_true]
          exact ⟨rest_bit hs ht hb, List.mem_range.2 (by omega), hi⟩
      · cases hm : M.testBit h
        · obtain ⟨b1, b2⟩ := hak h hh hb hm
          simp only [Bool.false_eq_true, if_false]
          rw [if_neg (by omega)]
          exact F.pet h hh b1
        · simp only [if_true]
          exact m2 h hm
      · cases hm : M.testBit h
        · obtain ⟨b1, b2⟩ := hak h hh hb hm
          simp only [hm, Bool.false_eq_true, if_false] at e ⊢
          rw [if_neg (by omega)]
          cases hm' : M.testBit h'
          · obtain ⟨b1', b2'⟩ := hak h' hh' hb' hm'
            simp only [hm', Bool.false_eq_true, if_false] at e
            exact F.tim h h' hh hh' b1 b1' e
          · simp only [hm', if_true] at e
            omega
        · simp only [hm, if_true] at e ⊢
          cases hm' : M.testBit h'
          · obtain ⟨b1', b2'⟩ := hak h' hh' hb' hm'
            simp only [hm', Bool.false_eq_true, if_false] at e
            omega
          · exact m3 h h' hm hm'
      · have hj' := List.mem_range.1 hj
        by_cases e : j = k
        · subst e
          have e1 : sumN (fun h => if s.rest.testBit h = true ∧ (if M.testBit h = true then j else a' h) = j then peo t h else 0) 8 = sumN (fun h => if M.testBit h = true then peo t h else 0) 8 := by
            refine sumN_congr fun h hh => ?_
            cases hm : M.testBit h
            · by_cases hb : s.rest.testBit h = true
              · have := (hak h hh hb hm).2
                rw [if_neg (by rintro ⟨_, h3⟩; simp at h3; omega)]; simp
              · rw [if_neg (by rintro ⟨h3, _⟩; exact hb h3)]; simp
            · rw [if_pos ⟨hMs h hm, by simp⟩]; simp
          rw [e1, ← hp]; exact m1
        · have e1 : sumN (fun h => if s.rest.testBit h = true ∧ (if M.testBit h = true then k else a' h) = j then peo t h else 0) 8 = sumN (fun h => if (toSt t s M i).rest.testBit h = true ∧ a' h = j then peo t h else 0) 8 := by
            refine sumN_congr fun h hh => ?_
            rw [hrest h hh]
            cases hm : M.testBit h
            · cases s.rest.testBit h <;> simp
            · have : ¬ k = j := fun h => e h.symm
              simp [this]
          rw [e1]; exact F.sea j (List.mem_range.2 (by omega))
      · have hrj := F.roo j hj
        rw [toSt_room (by omega) (by omega)] at hrj
        have e1 : sumN (fun h => if s.rest.testBit h = true ∧ (if (if M.testBit h = true then k else a' h) = k then i else g' (if M.testBit h = true then k else a' h)) = j then peo t h else 0) 8 = sumN (fun h => (if M.testBit h = true ∧ i = j then peo t h else 0) + (if (toSt t s M i).rest.testBit h = true ∧ g' (a' h) = j then peo t h else 0)) 8 := by
          refine sumN_congr fun h hh => ?_
          rw [hrest h hh]
          cases hm : M.testBit h
          · cases hb : s.rest.testBit h
            · simp
            · have := (hak h hh hb hm).2
              have e2 : ¬ a' h = k := by omega
              simp [e2]
          · have := hMs h hm
            by_cases e3 : i = j
            · simp [this, e3]
            · simp [this, e3]
        rw [e1, sumN_add]
        by_cases e : j = i
        · subst e
          simp only [and_true]
          rw [← hp]
          simp only [if_true] at hrj
          omega
        · rw [if_neg e] at hrj
          have e2 : sumN (fun h => if M.testBit h = true ∧ i = j then peo t h else 0) 8 = 0 := by
            simp only [Ne.symm e, and_false, if_false]; exact sumN_zero
          rw [e2]; omega
end Go.Am

/- Plain words: right plans are shares of the homes among buses; the program's plan is right, and has the fewest buses. No program is in sight. -/
namespace Go.Am
set_option linter.unusedSimpArgs false
set_option linter.unusedVariables false
theorem getD_take {α : Type} {l : List α} {d : α} {k j : Nat} (h : j < k) : (l.take k).getD j d = l.getD j d := by
  simp [List.getD_eq_getElem?_getD, List.getElem?_take, h]
/-- What the marks of a bus say. -/
theorem mark_some {l : List Int} {I : List Bool} {n : Nat} (hI : I.length = n) (hl : ∀ x ∈ l, 0 ≤ x ∧ x < n) : ∀ (k : Nat) (J : List Bool), k ≤ l.length → markN l I k = some J →
    (l.take k).Nodup ∧ (∀ x ∈ l.take k, I.getD x.toNat false = false) ∧ ∀ h, h < n → J.getD h false = (I.getD h false || decide ((h : Int) ∈ l.take k))
  | 0, J, _, h => by
    simp only [markN, Option.some.injEq] at h
    subst h
    simp
  | k + 1, J, hk, h => by
    simp only [markN] at h
    split at h
    · cases h
    · rename_i J' hJ'
      split at h
      · cases h
      · rename_i hc
        simp only [Option.some.injEq] at h
        obtain ⟨h1, h2, h3⟩ := mark_some hI hl k J' (by omega) hJ'
        have hx := hl _ (getD_mem (d := 0) (i := k) (by omega))
        have hJl := markN_length hI hl k (by omega) hJ'
        have hc1 : J'.getD (l.getD k 0).toNat false = false := by
          cases e : J'.getD (l.getD k 0).toNat false
          · rfl
          · exact absurd (.inl e) hc
        have h4 := h3 (l.getD k 0).toNat (by omega)
        rw [hc1, show (((l.getD k 0).toNat : Nat) : Int) = l.getD k 0 by omega] at h4
        have h5 := h4.symm
        simp only [Bool.or_eq_false_iff, decide_eq_false_iff_not] at h5
        rw [take_snoc (d := 0) (by omega)]
        refine ⟨?_, fun x hx2 => ?_, fun h' hh => ?_⟩
        · rw [List.nodup_append]
          refine ⟨h1, by simp, fun a ha b hb => ?_⟩
          simp only [List.mem_singleton] at hb
          rintro rfl
          rw [hb] at ha
          exact h5.2 ha
        · rcases List.mem_append.1 hx2 with hx2 | hx2
          · exact h2 x hx2
          · simp only [List.mem_singleton] at hx2
            rw [hx2]; exact h5.1
        · rw [← h, isp_getD (by omega), h3 h' hh]
          by_cases e : h' = (l.getD k 0).toNat
          · rw [if_pos e]
            have : (h' : Int) ∈ l.take k ++ [l.getD k 0] := List.mem_append.2 (.inr (by rw [List.mem_singleton, e]; omega))
            rw [decide_eq_true this]; simp
          · rw [if_neg e]
            have : ((h' : Int) ∈ l.take k ++ [l.getD k 0]) ↔ (h' : Int) ∈ l.take k := by
              rw [List.mem_append, List.mem_singleton]
              constructor
              · rintro (h6 | h6)
                · exact h6
                · exact absurd (show h' = (l.getD k 0).toNat by omega) e
              · exact .inl
            rw [decide_eq_decide.2 this]
/-- Rising homes without marks can be marked. -/
theorem mark_ok {l : List Int} {I : List Bool} {n : Nat} (hI : I.length = n) (hl : ∀ x ∈ l, 0 ≤ x ∧ x < n) (hr : l.Pairwise (· < ·)) (hf : ∀ x ∈ l, I.getD x.toNat false = false) : ∀ (k : Nat), k ≤ l.length → ∃ J, markN l I k = some J
  | 0, _ => ⟨I, rfl⟩
  | k + 1, hk => by
    obtain ⟨J, hJ⟩ := mark_ok hI hl hr hf k (by omega)
    obtain ⟨h1, h2, h3⟩ := mark_some hI hl k J (by omega) hJ
    have hx := hl _ (getD_mem (d := 0) (i := k) (by omega))
    simp only [markN, hJ]
    have hlt : ∀ j, j < k → l.getD j 0 < l.getD k 0 := fun j hj => by
      have := List.pairwise_iff_getElem.1 hr j k (by omega) (by omega) hj
      simpa [List.getD_eq_getElem?_getD, show j < l.length by omega, show k < l.length by omega] using this
    have hc : ¬ (J.getD (l.getD k 0).toNat false = true ∨ (0 < k ∧ l.getD k 0 ≤ l.getD (k - 1) 0)) := by
      rintro (h4 | ⟨h4, h5⟩)
      · rw [h3 _ (by omega), hf _ (getD_mem (by omega))] at h4
        simp only [Bool.false_or, decide_eq_true_eq] at h4
        obtain ⟨j, hj, e⟩ := mem_getD (d := 0) h4
        have hj2 : j < k := by simp at hj; omega
        rw [getD_take hj2] at e
        have := hlt j hj2
        omega
      · have := hlt (k - 1) (by omega); omega
    rw [if_neg hc]
    exact ⟨_, rfl⟩
/-- What is known of the first buses of a plan that are right so far. -/
structure RunI (t : Town) (plan : List Bus) (k : Nat) (S : List Bool × List Int) : Prop where
  bus : ∀ j, j < k → BusG t (plan.getD j default) ∧ (plan.getD j default).homes.Nodup
  mark : ∀ h, h < t.homes.length → (S.1.getD h false = true ↔ ∃ j, j < k ∧ (h : Int) ∈ (plan.getD j default).homes)
  once : ∀ j j', j < j' → j' < k → ∀ x ∈ (plan.getD j default).homes, x ∉ (plan.getD j' default).homes
  room : ∀ i, i < t.halls.length → S.2.getD i 0 = sumN (fun j => if (plan.getD j default).hall.toNat = i then ppl t (plan.getD j default).homes else 0) k
theorem runI {t : Town} {plan : List Bus} (ht : TownOK t) : ∀ (k : Nat) (S : List Bool × List Int), runN t plan k = some S → RunI t plan k S
  | 0, S, h => by
    simp only [runN, Option.some.injEq] at h
    subst h
    refine ⟨fun j hj => by omega, fun h hh => ?_, fun j j' _ hj => by omega, fun i hi => ?_⟩
    · simp only [tab_getD hh]; simp
    · simp only [tab_getD hi, sumN]
  | k + 1, S, h => by
    have hl := runN_length (plan := plan) ht (k + 1) S h
    simp only [runN] at h
    split at h
    · cases h
    · rename_i S' hS'
      have ih := runI ht k S' hS'
      obtain ⟨l1, l2, l3⟩ := runN_length ht k S' hS'
      unfold busN at h
      split at h
      · rename_i hG
        split at h
        · cases h
        · rename_i J hJ
          simp only [Option.some.injEq] at h
          subst h
          obtain ⟨m1, m2, m3⟩ := mark_some l1 hG.homes _ J (Nat.le_refl _) hJ
          rw [List.take_length] at m1 m2 m3
          have hh := hG.hall
          refine ⟨fun j hj => ?_, fun h hh => ?_, fun j j' hjj hj' x hx hx' => ?_, fun i hi => ?_⟩
          · rcases Nat.lt_succ_iff_lt_or_eq.1 hj with hj | rfl
            · exact ih.bus j hj
            · exact ⟨hG, m1⟩
          · simp only
            rw [m3 h hh, Bool.or_eq_true, ih.mark h hh, decide_eq_true_eq]
            constructor
            · rintro (⟨j, h1, h2⟩ | h1)
              · exact ⟨j, by omega, h2⟩
              · exact ⟨k, by omega, h1⟩
            · rintro ⟨j, h1, h2⟩
              rcases Nat.lt_succ_iff_lt_or_eq.1 h1 with h1 | rfl
              · exact .inl ⟨j, h1, h2⟩
              · exact .inr h2
          · rcases Nat.lt_succ_iff_lt_or_eq.1 hj' with hj' | rfl
            · exact ih.once j j' hjj hj' x hx hx'
            · have h1 := m2 x hx'
              have h2 := hG.homes x hx'
              have h3 := (ih.mark x.toNat (by omega)).2 ⟨j, hjj, by rw [show ((x.toNat : Nat) : Int) = x by omega]; exact hx⟩
              rw [h1] at h3; cases h3
          · simp only [sumN]
            rw [isp_getD (by omega), ih.room i hi]
            by_cases e : i = (plan.getD k default).hall.toNat
            · rw [if_pos e, if_pos e.symm, ih.room _ (by omega), ← e]
            · rw [if_neg e, if_neg (Ne.symm e)]; omega
      · cases h
theorem rightB_some {t : Town} {plan : List Bus} (h : rightB t plan = true) : ∃ S, runN t plan plan.length = some S ∧ plan.length ≤ 8 ∧ (∀ i, i < t.halls.length → S.2.getD i 0 ≤ (t.halls.getD i default).room) ∧ S.1.any (fun x => !x) = false := by
  unfold rightB at h
  split at h
  · cases h
  · rename_i S hS
    simp only [Bool.and_eq_true, decide_eq_true_eq, Bool.not_eq_true'] at h
    exact ⟨S, hS, h.1.1, h.1.2, h.2⟩
end Go.Am

/- Plain words: the program's plan is right, and has the fewest buses. No program is in sight. -/
namespace Go.Am
set_option linter.unusedSimpArgs false
set_option linter.unusedVariables false
theorem planF_length {t : Town} (ht : TownOK t) : ∀ (f : Nat) (s : Sta), StOK t s → s.rest < f → needV t s < 1000 → ((planF t f s).length : Int) = needV t s
  | 0, s, _, h, _ => by omega
  | f + 1, s, hs, hf, hn => by
    have hr := hs.lt ht
    simp only [planF]
    by_cases h0 : s.rest = 0
    · rw [if_pos h0, needV_eq hr, if_pos h0]; rfl
    · rw [if_neg h0]
      obtain ⟨p, hp1, hp2, hp3⟩ := find_some hr h0 hn
      rw [hp1]
      have hlt := nextL_rest hr h0 hp2
      have hps : StOK t p.2 := by
        obtain ⟨x, j, h1, h2, h3, h4⟩ := (nextL_mem hr).1 hp2
        rw [h4]; exact toSt_ok ht hs h0 h1 h2 h3
      have hb := needV_bd (t := t) (s := p.2)
      have ih := planF_length ht f p.2 hps (by omega) (by omega)
      simp only [List.length_cons]
      omega
def cntB (m : Nat) : Int := sumN (fun h => if m.testBit h = true then 1 else 0) 8
theorem cntB_le {m : Nat} : cntB m ≤ 8 := by
  have : cntB m ≤ sumN (fun _ => 1) 8 := sumN_le fun h _ => by split <;> omega
  simpa [sumN] using this
theorem planF_le8 {t : Town} (ht : TownOK t) : ∀ (f : Nat) (s : Sta), StOK t s → ((planF t f s).length : Int) ≤ cntB s.rest
  | 0, s, _ => by
    simp only [planF, List.length_nil]
    exact sumN_nonneg fun h _ => by split <;> omega
  | f + 1, s, hs => by
    have hr := hs.lt ht
    simp only [planF]
    by_cases h0 : s.rest = 0
    · rw [if_pos h0]; exact sumN_nonneg fun h _ => by split <;> omega
    · rw [if_neg h0]
      split
      · rename_i p hp
        have hp2 := List.mem_of_find?_eq_some hp
        obtain ⟨x, j, h1, h2, h3, h4⟩ := (nextL_mem hr).1 hp2
        have hps : StOK t p.2 := by rw [h4]; exact toSt_ok ht hs h0 h1 h2 h3
        have ih := planF_le8 ht f p.2 hps
        obtain ⟨i, hi, hlow, hrb⟩ := low_ex hr h0
        have hcnt : cntB p.2.rest + 1 ≤ cntB s.rest := by
          have e : cntB p.2.rest + 1 = sumN (fun h => (if p.2.rest.testBit h = true then 1 else 0) + (if h = i then 1 else 0)) 8 := by
            rw [sumN_add, sumN_pick, if_pos hi]; rfl
          rw [e]
          refine sumN_le fun h hh => ?_
          have hb : p.2.rest.testBit h = (s.rest.testBit h && !(lowB s.rest ||| x).testBit h) := by rw [h4]; exact ndiff_bit hh
          rw [hb, Nat.testBit_or]
          by_cases e1 : h = i
          · subst e1; rw [hlow, hrb]; simp
          · cases s.rest.testBit h <;> cases (lowB s.rest).testBit h <;> cases x.testBit h <;> simp [e1]
        simp only [List.length_cons]
        omega
      · exact sumN_nonneg fun h _ => by split <;> omega
/-- Buses one after the other. -/
noncomputable def runL (t : Town) : List Bus → List Bool × List Int → Option (List Bool × List Int)
  | [], S => some S
  | b :: l, S => match busN t b S with
    | none => none
    | some S' => runL t l S'
theorem runL_snoc {t : Town} {b : Bus} : ∀ {l : List Bus} {S : List Bool × List Int}, runL t (l ++ [b]) S = match runL t l S with | none => none | some S' => busN t b S'
  | [], S => by
    simp only [List.nil_append, runL]
    cases busN t b S <;> rfl
  | c :: l, S => by
    simp only [List.cons_append, runL]
    cases busN t c S with
    | none => rfl
    | some S' => exact runL_snoc
theorem runN_runL {t : Town} {plan : List Bus} : ∀ k, k ≤ plan.length → runN t plan k = runL t (plan.take k) (tab t.homes.length (fun _ => false), tab t.halls.length (fun _ => 0))
  | 0, _ => by simp [runN, runL]
  | k + 1, h => by
    simp only [runN]
    rw [runN_runL k (by omega), take_snoc (d := default) (by omega), runL_snoc]
    try (cases runL t (plan.take k) (tab t.homes.length (fun _ => false), tab t.halls.length (fun _ => 0)) <;> rfl)
/-- The program's plan can be run. -/
theorem planF_run {t : Town} (ht : TownOK t) : ∀ (f : Nat) (s : Sta) (I : List Bool) (R : List Int), StOK t s → s.rest < f → needV t s < 1000 → I.length = t.homes.length → R.length = t.halls.length →
    (∀ h, h < t.homes.length → I.getD h false = !s.rest.testBit h) → (∀ i, i < t.halls.length → R.getD i 0 + s.room i = (t.halls.getD i default).room) →
    ∃ S, runL t (planF t f s) (I, R) = some S ∧ (S.1.any fun x => !x) = false ∧ ∀ i, i < t.halls.length → S.2.getD i 0 ≤ (t.halls.getD i default).room
  | 0, s, _, _, _, h, _, _, _, _, _ => by omega
  | f + 1, s, I, R, hs, hf, hn, hI, hR, hIb, hRb => by
    have hr := hs.lt ht
    have hln := ht.homes
    have hhl := ht.halls
    simp only [planF]
    by_cases h0 : s.rest = 0
    · rw [if_pos h0]
      refine ⟨(I, R), rfl, ?_, fun i hi => ?_⟩
      · rw [List.any_eq_false]
        intro x hx
        have hx' : x ∈ I := hx
        obtain ⟨h, hh, rfl⟩ := mem_getD (d := false) hx'
        rw [hIb h (by omega), h0, Nat.zero_testBit]; simp
      · have h1 := hRb i hi
        have h2 := (hs.room i).1
        simp only; omega
    · rw [if_neg h0]
      obtain ⟨p, hp1, hp2, hp3⟩ := find_some hr h0 hn
      rw [hp1]
      obtain ⟨x, i, hx, hi, hfit, rfl⟩ := (nextL_mem hr).1 hp2
      have hto := toSt_ok ht hs h0 hx hi hfit
      have hlt := nextL_rest hr h0 hp2
      have hb := needV_bd (t := t) (s := toSt t s (lowB s.rest ||| x) i)
      simp only at hp3 hlt ⊢
      have hMr := mask_sub hr hx
      have hMlt : (lowB s.rest ||| x) < 2 ^ t.homes.length := by
        have := sub_le hMr; have := hs.rest; omega
      have hM0 : lowB s.rest ||| x ≠ 0 := by
        intro e
        have h1 := low_pos hr h0
        have h2 : lowB s.rest ≤ lowB s.rest ||| x := Nat.left_le_or
        omega
      generalize hM : lowB s.rest ||| x = M at *
      have hM8 : M < 256 := by have := sub_le hMr; omega
      have hin := lst_in hMlt hln.2
      have hrest : ∀ h, h < 8 → (toSt t s M i).rest.testBit h = (s.rest.testBit h && !M.testBit h) := fun h hh => ndiff_bit hh
      simp only [fitsB, Bool.and_eq_true, decide_eq_true_eq] at hfit
      obtain ⟨hf1, hf2⟩ := hfit
      have hne : lst M ≠ [] := by
        obtain ⟨j, hj⟩ := Nat.exists_testBit_of_ne_zero hM0
        have h8 := bit_lt hM8 hj
        intro e
        have : (j : Int) ∈ lst M := lst_mem.2 ⟨by omega, by omega, by simpa using hj⟩
        rw [e] at this; simp at this
      have hlv := leaveL_bd ht hin (lst M).length (Nat.le_refl _)
      have hG : BusG t (mkBus t M i) := ⟨by show 0 ≤ leaveL t (lst M) (lst M).length ∧ leaveL t (lst M) (lst M).length ≤ 10000; omega, by show 0 ≤ ((i : Nat) : Int) ∧ ((i : Nat) : Int) ≤ t.halls.length - 1; omega, hne, hin, hf2⟩
      have hIf : ∀ y ∈ lst M, I.getD y.toNat false = false := fun y hy => by
        have h1 := hin y hy
        rw [hIb y.toNat (by omega), and_sub_bit hMr (lst_mem.1 hy).2.2]; rfl
      obtain ⟨J, hJ⟩ := mark_ok hI hin (lstN_rise 8) hIf (lst M).length (Nat.le_refl _)
      obtain ⟨m1, m2, m3⟩ := mark_some hI hin _ J (Nat.le_refl _) hJ
      rw [List.take_length] at m3
      have hJl := markN_length hI hin _ (Nat.le_refl _) hJ
      have hbus : busN t (mkBus t M i) (I, R) = some (J, isp R i (R.getD i 0 + ppl t (lst M))) := by
        unfold busN
        rw [if_pos hG]
        show (match markN (lst M) I (lst M).length with | none => none | some J => some (J, isp R ((i : Nat) : Int).toNat (R.getD ((i : Nat) : Int).toNat 0 + ppl t (lst M)))) = _
        rw [hJ, Int.toNat_natCast]
      simp only [runL, hbus]
      refine planF_run ht f _ J _ hto (by omega) (by omega) hJl (by rw [isp_length (by omega), hR]) (fun h hh => ?_) (fun j hj => ?_)
      · rw [m3 h hh, hIb h hh, hrest h (by omega)]
        have e : ((h : Int) ∈ lst M) ↔ M.testBit h = true := by
          rw [lst_mem]
          constructor
          · rintro ⟨_, _, h3⟩; simpa using h3
          · intro h3; exact ⟨by omega, by omega, by simpa using h3⟩
        have e3 : decide ((h : Int) ∈ lst M) = M.testBit h := by rw [Bool.eq_iff_iff, decide_eq_true_eq]; exact e
        rw [e3]
        cases s.rest.testBit h <;> cases M.testBit h <;> rfl
      · rw [isp_getD (by omega), toSt_room (by omega) (by omega)]
        have h1 := hRb j hj
        by_cases e : j = i
        · subst e; simp only [if_true]; omega
        · rw [if_neg e, if_neg e]; exact h1
theorem beg_bit {t : Town} {n h : Nat} : (stBeg t n t.halls.length).rest.testBit h = decide (h < n) := Nat.testBit_two_pow_sub_one n h
theorem beg_room {t : Town} (ht : TownOK t) {n i : Nat} (hi : i < t.halls.length) : (stBeg t n t.halls.length).room i = (t.halls.getD i default).room := by
  have hhl := ht.halls
  rcases (by omega : i = 0 ∨ i = 1 ∨ i = 2) with rfl | rfl | rfl
  · simp [stBeg, Sta.room, hi]
  · simp [stBeg, Sta.room, hi]
  · simp [stBeg, Sta.room, hi]
/-- The fewest buses of the first homes. -/
def fewN (t : Town) (n : Nat) : Int := needV t (stBeg t n t.halls.length)
theorem few_feas {t : Town} (ht : TownOK t) {n : Nat} (hn : n ≤ t.homes.length) (h : fewN t n < 1000) : Feas t (fun h => decide (h < n)) (fun i => (t.halls.getD i default).room) (List.range (fewN t n).toNat) := by
  obtain ⟨a, g, F⟩ := need_feas ht _ _ rfl (stBeg_ok ht hn) h
  have e : ∀ h, (stBeg t n t.halls.length).rest.testBit h = decide (h < n) := fun h => beg_bit
  refine ⟨a, g, ⟨fun h hh hb => F.lab h hh (by rw [e]; exact hb), fun h hh hb => F.pet h hh (by rw [e]; exact hb), fun h h' hh hh' hb hb' => F.tim h h' hh hh' (by rw [e]; exact hb) (by rw [e]; exact hb'), fun j hj => ?_, fun i hi => ?_⟩⟩
  · have := F.sea j hj
    simp only [e] at this
    exact this
  · have := F.roo i hi
    simp only [e] at this
    rw [beg_room ht hi] at this
    exact this
theorem feas_few {t : Town} (ht : TownOK t) {n : Nat} (hn : n ≤ t.homes.length) {L : List Nat} (h : Feas t (fun h => decide (h < n)) (fun i => (t.halls.getD i default).room) L) : fewN t n ≤ L.length := by
  obtain ⟨a, g, F⟩ := h
  have e : ∀ h, (stBeg t n t.halls.length).rest.testBit h = decide (h < n) := fun h => beg_bit
  refine need_le ht _ _ rfl (stBeg_ok ht hn) L ⟨a, g, ⟨fun h hh hb => F.lab h hh (by rw [e] at hb; exact hb), fun h hh hb => F.pet h hh (by rw [e] at hb; exact hb), fun h h' hh hh' hb hb' => F.tim h h' hh hh' (by rw [e] at hb; exact hb) (by rw [e] at hb'; exact hb'), fun j hj => ?_, fun i hi => ?_⟩⟩
  · have := F.sea j hj
    simp only [e]
    exact this
  · have := F.roo i hi
    simp only [e]
    rw [beg_room ht hi]
    exact this
theorem planE_few {t : Town} (h0 : faultT t = 0) : planE t = if 1000 ≤ fewN t t.homes.length then 9 else 0 := by
  unfold planE fewN; rw [if_neg (by rw [h0]; simp)]
/-- THE PROGRAM's PLAN IS RIGHT. -/
theorem plan_right {t : Town} (h0 : faultT t = 0) (h : planE t = 0) : rightB t (planL t) = true ∧ ((planL t).length : Int) = fewN t t.homes.length := by
  have ht := faultT_zero h0
  have hln := ht.homes
  have hlt : fewN t t.homes.length < 1000 := by
    rw [planE_few h0] at h
    split at h
    · omega
    · omega
  have hs := stBeg_ok ht (Nat.le_refl t.homes.length)
  have hlen := planF_length ht 256 _ hs (hs.lt ht) hlt
  have h8 := planF_le8 ht 256 _ hs
  have hc := cntB_le (m := (stBeg t t.homes.length t.halls.length).rest)
  obtain ⟨S, hS, hall, hroom⟩ := planF_run ht 256 _ (tab t.homes.length fun _ => false) (tab t.halls.length fun _ => 0) hs (hs.lt ht) hlt tab_length tab_length
    (fun h hh => by rw [tab_getD hh, beg_bit, decide_eq_true hh]; rfl) (fun i hi => by rw [tab_getD hi, beg_room ht hi]; omega)
  refine ⟨?_, hlen⟩
  have hrun := runN_runL (t := t) (plan := planL t) (planL t).length (Nat.le_refl _)
  rw [List.take_length] at hrun
  have hS' : runN t (planL t) (planL t).length = some S := hrun.trans hS
  unfold rightB
  rw [hS']
  simp only [hall, Bool.not_false, Bool.and_true, decide_eq_true_eq]
  refine ⟨?_, hroom⟩
  show (planF t 256 (stBeg t t.homes.length t.halls.length)).length ≤ 8
  omega
end Go.Am

/- Contracts of the away functions: a plan that is handed in; plans for the program and for the reference. -/
namespace Go.Am
open Go.RowKit Go.Proofs
attribute [local irreducible] AWP CallS Kt goK CallK stepK evOps SemF SemY Imp
set_option maxRecDepth 4000
set_option linter.unusedSimpArgs false
set_option linter.unusedVariables false
set_option maxHeartbeats 3200000
theorem nth_B0 {l : List Bus} {i : Nat} {K : AV → Prop} : optK (nth (recs busC l) (i * 3)) K = (i < l.length ∧ K (.int .i64 (l.getD i default).leave)) := nth_recs (sz := 3) (o := 0) (fun _ => rfl) (by omega)
theorem nth_B1 {l : List Bus} {i : Nat} {K : AV → Prop} : optK (nth (recs busC l) (i * 3 + 1)) K = (i < l.length ∧ K (.int .i64 (l.getD i default).hall)) := nth_recs (sz := 3) (o := 1) (fun _ => rfl) (by omega)
theorem nth_B2 {l : List Bus} {i : Nat} {K : AV → Prop} : optK (nth (recs busC l) (i * 3 + 2)) K = (i < l.length ∧ K (sl (l.getD i default).homes)) := nth_recs (sz := 3) (o := 2) (fun _ => rfl) (by omega)
attribute [go_sem] nth_B0 nth_B1 nth_B2
/-- A plan that is not too long to be looked at. -/
def PlanS (plan : List Bus) : Prop := plan.length ≤ 1000000 ∧ ∀ b ∈ plan, b.homes.length ≤ 1000000
theorem planTo_c (l : List Bus) (hl : PlanS l) : CallS Try.prog 20 [slB l] (slB l) := by
  obtain ⟨hl1, hl2⟩ := hl
  simp only [slB]
  (refine callS_of_awp (fun w args => Try.call20 ..) Try.func20 rfl (fun w0 m0 wz => ?_); simp only [Try.ntmps20, Try.results20, initT, junks, homeC, hallC, slH, slL, townC, sl, List.toList_toArray, List.cons_append, List.nil_append, List.length_cons, List.length_nil, Nat.reduceAdd, Nat.reduceSub])
  (repeat' (first
 | refine awp_seqK ?_
 | refine kt ?_
 | refine And.intro ?_ ?_
 | ((first | refine awp_stp rfl ?_ | refine awp_draw (by kernel_rfl) (by kernel_rfl) ?_ | refine Imp.le2 ?_ | refine go_split (fun _h => ?_) (fun _h => ?_)) <;> try simp (maxSteps := 4000000) only [go_sem, seval])
 | intro _h
 | refine awp_block ?_
 | refine awp_scope ?_
 | refine cond_b ?_ ?_
 | (show heapOK _ _ = true; kernel_rfl)
 | (show heapOK2 _ _ = true; kernel_rfl)
 | (omega)))
  (refine awp_adT 3 48 3 rfl ?_; simp only [adT, lset, hset, List.length_cons, List.length_nil, Nat.reduceAdd])
  refine awp_loopN l.length (fun k => ⟨mkT 32 [(0, slB l), (3, .osl 0 k 0 k), (4, .int .i64 k)], [some (.cells 48 3 k (recs busC (l.take k)))], []⟩) (.le2 ?_) ?_
  · simp only [slB]; simp (maxSteps := 4000000) only [go_sem, seval]
    first | rfl | exact ⟨rfl, rfl⟩
  · intro k hk
    rcases Nat.lt_or_eq_of_le hk with hk1 | hk1
    · have hlt : (l.take k).length = k := by simp; omega
      have hsn := recs_take (enc := busC) (d := default) hk1
      have hli := list_c (l.getD k default).homes (hl2 _ (getD_mem hk1))
      simp only [busC, sl] at hsn hli
      simp only [slB]; simp (maxSteps := 4000000) only [go_sem, seval]
      (repeat' (first
 | ((omega))
 | refine awp_seqK ?_
 | refine kt ?_
 | refine And.intro ?_ ?_
 | ((first | refine awp_stp rfl ?_ | refine awp_draw (by kernel_rfl) (by kernel_rfl) ?_ | refine Imp.le2 ?_ | refine callK_of (hli) ?_ | refine go_split (fun _h => ?_) (fun _h => ?_)) <;> try simp (maxSteps := 4000000) only [go_sem, seval, hlt, hsn, busC])
 | intro _h
 | refine awp_block ?_
 | refine awp_scope ?_
 | refine cond_b ?_ ?_
 | (show heapOK _ _ = true; kernel_rfl)
 | (show heapOK2 _ _ = true; kernel_rfl)
 | (omega)))
      all_goals trace_state
    · subst hk1
      have hlt : l.take l.length = l := by simp
      simp only [slB]; simp (maxSteps := 4000000) only [go_sem, seval, hlt]
      (repeat' (first
 | ((exfalso; omega))
 | refine awp_seqK ?_
 | refine kt ?_
 | refine And.intro ?_ ?_
 | ((first | refine awp_stp rfl ?_ | refine awp_draw (by kernel_rfl) (by kernel_rfl) ?_ | refine Imp.le2 ?_ | refine go_split (fun _h => ?_) (fun _h => ?_)) <;> try simp (maxSteps := 4000000) only [go_sem, seval, hlt])
 | intro _h
 | refine awp_block ?_
 | refine awp_scope ?_
 | refine cond_b ?_ ?_
 | (show heapOK _ _ = true; kernel_rfl)
 | (show heapOK2 _ _ = true; kernel_rfl)
 | (omega)))
      all_goals trace_state
theorem back_c (l : List Bus) (hl : PlanS l) : CallS Try.prog 21 [slB l] (slB l) := by
  obtain ⟨hl1, hl2⟩ := hl
  simp only [slB]
  (refine callS_of_awp (fun w args => Try.call21 ..) Try.func21 rfl (fun w0 m0 wz => ?_); simp only [Try.ntmps21, Try.results21, initT, junks, homeC, hallC, slH, slL, townC, sl, List.toList_toArray, List.cons_append, List.nil_append, List.length_cons, List.length_nil, Nat.reduceAdd, Nat.reduceSub])
  (repeat' (first
 | refine awp_seqK ?_
 | refine kt ?_
 | refine And.intro ?_ ?_
 | ((first | refine awp_stp rfl ?_ | refine awp_draw (by kernel_rfl) (by kernel_rfl) ?_ | refine Imp.le2 ?_ | refine go_split (fun _h => ?_) (fun _h => ?_)) <;> try simp (maxSteps := 4000000) only [go_sem, seval])
 | intro _h
 | refine awp_block ?_
 | refine awp_scope ?_
 | refine cond_b ?_ ?_
 | (show heapOK _ _ = true; kernel_rfl)
 | (show heapOK2 _ _ = true; kernel_rfl)
 | (omega)))
  (refine awp_adT 3 49 3 rfl ?_; simp only [adT, lset, hset, List.length_cons, List.length_nil, Nat.reduceAdd])
  refine awp_loopN l.length (fun k => ⟨mkT 32 [(0, slB l), (3, .osl 0 k 0 k), (4, .int .i64 k)], [some (.cells 49 3 k (recs busC (l.take k)))], []⟩) (.le2 ?_) ?_
  · simp only [slB]; simp (maxSteps := 4000000) only [go_sem, seval]
    first | rfl | exact ⟨rfl, rfl⟩
  · intro k hk
    rcases Nat.lt_or_eq_of_le hk with hk1 | hk1
    · have hlt : (l.take k).length = k := by simp; omega
      have hsn := recs_take (enc := busC) (d := default) hk1
      have hli := list_c (l.getD k default).homes (hl2 _ (getD_mem hk1))
      simp only [busC, sl] at hsn hli
      simp only [slB]; simp (maxSteps := 4000000) only [go_sem, seval]
      (repeat' (first
 | ((omega))
 | refine awp_seqK ?_
 | refine kt ?_
 | refine And.intro ?_ ?_
 | ((first | refine awp_stp rfl ?_ | refine awp_draw (by kernel_rfl) (by kernel_rfl) ?_ | refine Imp.le2 ?_ | refine callK_of (hli) ?_ | refine go_split (fun _h => ?_) (fun _h => ?_)) <;> try simp (maxSteps := 4000000) only [go_sem, seval, hlt, hsn, busC])
 | intro _h
 | refine awp_block ?_
 | refine awp_scope ?_
 | refine cond_b ?_ ?_
 | (show heapOK _ _ = true; kernel_rfl)
 | (show heapOK2 _ _ = true; kernel_rfl)
 | (omega)))
      all_goals trace_state
    · subst hk1
      have hlt : l.take l.length = l := by simp
      simp only [slB]; simp (maxSteps := 4000000) only [go_sem, seval, hlt]
      (repeat' (first
 | ((exfalso; omega))
 | refine awp_seqK ?_
 | refine kt ?_
 | refine And.intro ?_ ?_
 | ((first | refine awp_stp rfl ?_ | refine awp_draw (by kernel_rfl) (by kernel_rfl) ?_ | refine Imp.le2 ?_ | refine go_split (fun _h => ?_) (fun _h => ?_)) <;> try simp (maxSteps := 4000000) only [go_sem, seval, hlt])
 | intro _h
 | refine awp_block ?_
 | refine awp_scope ?_
 | refine cond_b ?_ ?_
 | (show heapOK _ _ = true; kernel_rfl)
 | (show heapOK2 _ _ = true; kernel_rfl)
 | (omega)))
      all_goals trace_state
/-- Is a plan right, of a town that may not be valid? -/
noncomputable def proveB (t : Town) (plan : List Bus) : Bool := decide (faultT t = 0) && rightB t plan
theorem prove_c (t : Town) (plan : List Bus) (hb : townOK t) (hp : PlanS plan) : CallS Try.prog 19 [.agg (townC t), slB plan] (.bool (proveB t plan)) := by
  have hch := check_c t hb
  by_cases h0 : faultT t = 0
  · have ht := faultT_zero h0
    have e0 : (faultT t = 0) = True := eq_true h0
    have hpl := planning_c t ht
    have hri := right_c t plan [] ht hp.1 hp.2
    have e1 : proveB t plan = rightB t plan := by simp [proveB, h0]
    rw [e1]
    rw [h0] at hch
    generalize rightB t plan = q at *
    simp only [plB, planC, slB, townC, slH, slL, sl] at hch hpl hri ⊢
    (refine callS_of_awp (fun w args => Try.call19 ..) Try.func19 rfl (fun w0 m0 wz => ?_); simp only [Try.ntmps19, Try.results19, initT, junks, homeC, hallC, slH, slL, townC, sl, List.toList_toArray, List.cons_append, List.nil_append, List.length_cons, List.length_nil, Nat.reduceAdd, Nat.reduceSub])
    ((repeat refine awp_seqK ?_); refine awp_region ?_; simp (maxSteps := 4000000) only [go_sem, seval]; refine kt ?_)
    ((repeat refine awp_seqK ?_); refine awp_segO [5, 1] ?_; simp (maxSteps := 4000000) only [go_sem, seval, so_cons, so_nil, List.take_succ_cons, List.take_zero, List.drop_succ_cons, List.drop_zero])
    (repeat' (first
 | refine awp_seqK ?_
 | refine kt ?_
 | refine And.intro ?_ ?_
 | ((first | refine awp_stp rfl ?_ | refine awp_draw (by kernel_rfl) (by kernel_rfl) ?_ | refine Imp.le2 ?_ | refine callK_of (hch) ?_ | refine go_split (fun _h => ?_) (fun _h => ?_)) <;> try simp (maxSteps := 4000000) only [go_sem, seval, decide_true])
 | intro _h
 | refine awp_block ?_
 | refine awp_scope ?_
 | refine cond_b ?_ ?_
 | (show heapOK _ _ = true; kernel_rfl)
 | (show heapOK2 _ _ = true; kernel_rfl)
 | (omega)))
    (refine own_go (hpl) [] rfl ?_ ?_ rfl ?_ <;> try simp (maxSteps := 4000000) only [go_sem, seval, Nat.lt_irrefl, so_cons, so_nil, List.take_succ_cons, List.take_zero, List.drop_succ_cons, List.drop_zero] <;> try decide)
    (repeat' (first
 | refine awp_seqK ?_
 | refine kt ?_
 | refine And.intro ?_ ?_
 | ((first | refine awp_stp rfl ?_ | refine awp_draw (by kernel_rfl) (by kernel_rfl) ?_ | refine Imp.le2 ?_ | refine go_split (fun _h => ?_) (fun _h => ?_)) <;> try simp (maxSteps := 4000000) only [go_sem, seval, decide_true])
 | intro _h
 | refine awp_block ?_
 | refine awp_scope ?_
 | refine cond_b ?_ ?_
 | (show heapOK _ _ = true; kernel_rfl)
 | (show heapOK2 _ _ = true; kernel_rfl)
 | (omega)))
    (refine own_go (hri) [3, 2] rfl ?_ ?_ rfl ?_ <;> try simp (maxSteps := 4000000) only [go_sem, seval, Nat.lt_irrefl, so_cons, so_nil, List.take_succ_cons, List.take_zero, List.drop_succ_cons, List.drop_zero] <;> try decide)
    (repeat' (first
 | refine awp_seqK ?_
 | refine kt ?_
 | refine And.intro ?_ ?_
 | ((first | refine awp_stp rfl ?_ | refine awp_draw (by kernel_rfl) (by kernel_rfl) ?_ | refine Imp.le2 ?_ | refine go_split (fun _h => ?_) (fun _h => ?_)) <;> try simp (maxSteps := 4000000) only [go_sem, seval])
 | intro _h
 | refine awp_block ?_
 | refine awp_scope ?_
 | refine cond_b ?_ ?_
 | (show heapOK _ _ = true; kernel_rfl)
 | (show heapOK2 _ _ = true; kernel_rfl)
 | (omega)))
    all_goals trace_state
  · have e0 : (faultT t = 0) = False := eq_false h0
    have e1 : proveB t plan = false := by simp [proveB, h0]
    rw [e1]
    simp only [slB, townC, slH, slL, sl] at hch ⊢
    (refine callS_of_awp (fun w args => Try.call19 ..) Try.func19 rfl (fun w0 m0 wz => ?_); simp only [Try.ntmps19, Try.results19, initT, junks, homeC, hallC, slH, slL, townC, sl, List.toList_toArray, List.cons_append, List.nil_append, List.length_cons, List.length_nil, Nat.reduceAdd, Nat.reduceSub])
    (repeat' (first
 | refine awp_seqK ?_
 | refine kt ?_
 | refine And.intro ?_ ?_
 | ((first | refine awp_stp rfl ?_ | refine awp_draw (by kernel_rfl) (by kernel_rfl) ?_ | refine Imp.le2 ?_ | refine callK_of (hch) ?_ | refine go_split (fun _h => ?_) (fun _h => ?_)) <;> try simp (maxSteps := 4000000) only [go_sem, seval, e0, decide_false])
 | intro _h
 | refine awp_block ?_
 | refine awp_scope ?_
 | refine cond_b ?_ ?_
 | (show heapOK _ _ = true; kernel_rfl)
 | (show heapOK2 _ _ = true; kernel_rfl)
 | (omega)))
structure Opn (t : Town) (opens : List Int) : Prop where
  len : opens.length = t.homes.length
  inn : ∀ x ∈ opens, 0 ≤ x ∧ x ≤ 1000000
instance (t : Town) (opens : List Int) : Decidable (Opn t opens) := decidable_of_iff (opens.length = t.homes.length ∧ ∀ x ∈ opens, 0 ≤ x ∧ x ≤ 1000000) ⟨fun ⟨a, b⟩ => ⟨a, b⟩, fun ⟨a, b⟩ => ⟨a, b⟩⟩
end Go.Am

/- Contracts of the away functions: who fails; what statements ask first. -/
namespace Go.Am
open Go.RowKit Go.Proofs
attribute [local irreducible] AWP CallS Kt goK CallK stepK evOps SemF SemY Imp
set_option maxRecDepth 4000
set_option linter.unusedSimpArgs false
set_option linter.unusedVariables false
set_option maxHeartbeats 3200000
/-- At most 12 buses, each of at most 12 homes. -/
def shortB (l : List Bus) : Bool := decide (l.length ≤ 12 ∧ ∀ i, i < l.length → (l.getD i default).homes.length ≤ 12)
theorem shortB_ok {l : List Bus} (h : shortB l = true) : PlanS l ∧ l.length ≤ 12 ∧ ∀ b ∈ l, b.homes.length ≤ 12 := by
  obtain ⟨h1, h2⟩ := of_decide_eq_true h
  have h3 : ∀ b ∈ l, b.homes.length ≤ 12 := fun b hb => by
    obtain ⟨i, hi, rfl⟩ := mem_getD (d := default) hb
    exact h2 i hi
  exact ⟨⟨by omega, fun b hb => by have := h3 b hb; omega⟩, h1, h3⟩
theorem short_c (l : List Bus) : CallS Try.prog 15 [slB l] (.bool (shortB l)) := by
  have hyes : (l.length ≤ 12 ∧ ∀ i, i < l.length → (l.getD i default).homes.length ≤ 12) → true = shortB l := fun h => (decide_eq_true h).symm
  have hno : ¬ (l.length ≤ 12 ∧ ∀ i, i < l.length → (l.getD i default).homes.length ≤ 12) → false = shortB l := fun h => (decide_eq_false h).symm
  generalize shortB l = r at *
  simp only [slB]
  (refine callS_of_awp (fun w args => Try.call15 ..) Try.func15 rfl (fun w0 m0 wz => ?_); simp only [Try.ntmps15, Try.results15, initT, junks, homeC, hallC, slH, slL, townC, sl, List.toList_toArray, List.cons_append, List.nil_append, List.length_cons, List.length_nil, Nat.reduceAdd, Nat.reduceSub])
  (repeat' (first
 | refine awp_seqK ?_
 | refine kt ?_
 | refine And.intro ?_ ?_
 | ((first | refine awp_stp rfl ?_ | refine awp_draw (by kernel_rfl) (by kernel_rfl) ?_ | refine Imp.le2 ?_ | refine go_split (fun _h => ?_) (fun _h => ?_)) <;> try simp (maxSteps := 4000000) only [go_sem, seval])
 | intro _h
 | refine awp_block ?_
 | refine awp_scope ?_
 | refine cond_b ?_ ?_
 | (show heapOK _ _ = true; kernel_rfl)
 | (show heapOK2 _ _ = true; kernel_rfl)
 | (omega)))
  refine awp_loopJ (fun i : Nat => i ≤ l.length ∧ ∀ j, j < i → (l.getD j default).homes.length ≤ 12) (fun i => ⟨mkT 24 [(0, slB l), (3, .int .i64 i)], [], []⟩) (fun i => l.length - i) 0 ⟨Nat.zero_le _, fun j hj => by omega⟩ (.le2 ?_) ?_
  · simp only [slB]; simp (maxSteps := 4000000) only [go_sem, seval]
  · rintro i ⟨hi, hj⟩
    simp only [slB]; simp (maxSteps := 4000000) only [go_sem, seval]
    (repeat' (first
 | refine awp_seqK ?_
 | refine kt ?_
 | refine And.intro ?_ ?_
 | ((first | refine awp_stp rfl ?_ | refine awp_draw (by kernel_rfl) (by kernel_rfl) ?_ | refine Imp.le2 ?_ | refine go_split (fun _h => ?_) (fun _h => ?_)) <;> try simp (maxSteps := 4000000) only [go_sem, seval, sl])
 | intro _h
 | refine awp_block ?_
 | refine awp_scope ?_
 | refine cond_b ?_ ?_
 | (show heapOK _ _ = true; kernel_rfl)
 | (show heapOK2 _ _ = true; kernel_rfl)
 | (omega)))
    all_goals first
      | (refine ⟨i + 1, ⟨by omega, fun j hji => ?_⟩, by omega, .le2 ?_⟩
         · rcases Nat.lt_succ_iff_lt_or_eq.1 hji with h | rfl
           · exact hj j h
           · omega
         · simp (maxSteps := 4000000) only [go_sem, seval]
           try omega)
      | exact hno (fun h => by have := h.2 i (by omega); omega)
      | exact (hno (fun h => by have := h.2 i (by omega); omega)).symm
      | exact hno (fun h => by have := h.1; omega)
      | exact (hno (fun h => by have := h.1; omega)).symm
      | exact hyes ⟨by omega, fun j h => hj j (by omega)⟩
      | exact (hyes ⟨by omega, fun j h => hj j (by omega)⟩).symm
      | trace_state
/-- The home that fails. -/
def failI (t : Town) : Option Nat := (List.range t.homes.length).find? fun i => decide (1000 ≤ fewN t (i + 1))
def failsN (t : Town) : Int := if faultT t ≠ 0 then 0 else match failI t with | some i => i | none => 0
def failsE (t : Town) : Int := if faultT t ≠ 0 then faultT t else match failI t with | some _ => 0 | none => 7
theorem failI_some {t : Town} {i : Nat} : failI t = some i ↔ i < t.homes.length ∧ 1000 ≤ fewN t (i + 1) ∧ ∀ j, j < i → fewN t (j + 1) < 1000 := by
  unfold failI
  rw [List.find?_range_eq_some]
  simp only [decide_eq_true_eq, Bool.not_eq_true', decide_eq_false_iff_not, List.mem_range]
  constructor
  · rintro ⟨a, b, c⟩; exact ⟨b, a, fun j hj => by have := c j hj; omega⟩
  · rintro ⟨a, b, c⟩; exact ⟨b, a, fun j hj => by have := c j hj; omega⟩
theorem failI_none {t : Town} : failI t = none ↔ ∀ j, j < t.homes.length → fewN t (j + 1) < 1000 := by
  unfold failI
  rw [List.find?_eq_none]
  simp only [List.mem_range, decide_eq_true_eq]
  constructor
  · intro h j hj; have := h j hj; omega
  · intro h j hj; have := h j hj; omega
theorem Fails_c (t : Town) (hb : townOK t) : CallS Try.prog 25 [.agg (townC t)] (.tup [.int .i64 (failsN t), .int .i64 (failsE t)]) := by
  have hch := check_c t hb
  by_cases h0 : faultT t = 0
  · have ht := faultT_zero h0
    have hln := ht.homes
    have hpl := planning_c t ht
    rw [h0] at hch
    have e1 : ∀ i, failI t = some i → .tup [.int .i64 (i : Int), .int .i64 0] = AV.tup [.int .i64 (failsN t), .int .i64 (failsE t)] := fun i h => by simp [failsN, failsE, h0, h]
    have e2 : failI t = none → .tup [.int .i64 0, .int .i64 7] = AV.tup [.int .i64 (failsN t), .int .i64 (failsE t)] := fun h => by simp [failsN, failsE, h0, h]
    generalize AV.tup [.int .i64 (failsN t), .int .i64 (failsE t)] = res at *
    simp only [plB, planC, slB, townC, slH, slL, sl] at hch hpl ⊢
    (refine callS_of_awp (fun w args => Try.call25 ..) Try.func25 rfl (fun w0 m0 wz => ?_); simp only [Try.ntmps25, Try.results25, initT, junks, homeC, hallC, slH, slL, townC, sl, List.toList_toArray, List.cons_append, List.nil_append, List.length_cons, List.length_nil, Nat.reduceAdd, Nat.reduceSub])
    (repeat' (first
 | (refine awp_ownN 1 rfl ?_; simp (maxSteps := 4000000) only [go_sem, seval, List.take_succ_cons, List.take_zero, decide_true]; (repeat refine And.intro (by omega) ?_); refine own_go (hpl) [] rfl ?_ ?_ rfl ?_ <;> try simp (maxSteps := 4000000) only [go_sem, seval, Nat.lt_irrefl, decide_true] <;> try decide)
 | refine awp_seqK ?_
 | refine kt ?_
 | refine And.intro ?_ ?_
 | ((first | refine awp_stp rfl ?_ | refine awp_draw (by kernel_rfl) (by kernel_rfl) ?_ | refine Imp.le2 ?_ | refine callK_of (hch) ?_ | refine go_split (fun _h => ?_) (fun _h => ?_)) <;> try simp (maxSteps := 4000000) only [go_sem, seval, decide_true])
 | intro _h
 | refine awp_block ?_
 | refine awp_scope ?_
 | refine cond_b ?_ ?_
 | (show heapOK _ _ = true; kernel_rfl)
 | (show heapOK2 _ _ = true; kernel_rfl)
 | (omega)))
    refine awp_loopJ (fun x : Nat × Kmap => x.1 ≤ t.homes.length ∧ GoodK t x.2 ∧ ∀ j, j < x.1 → fewN t (j + 1) < 1000) (fun x => ⟨mkT 29 [(1, .ptr 0 0 0), (5, .ptr 3 0 0), (16, .int .i64 t.homes.length), (17, .int .i64 x.1)], [some (.cells 40 1 0 (townC t)), none, some (.map (kmC x.2)), plB t 2], []⟩) (fun x => t.homes.length - x.1) (0, []) ⟨Nat.zero_le _, GoodK.nil, fun j hj => by simp only at hj; omega⟩ (.le2 ?_) ?_
    · simp only [plB, planC, slB, townC, slH, slL, sl]; simp (maxSteps := 4000000) only [go_sem, seval]
      try (first | rfl | exact ⟨rfl, rfl⟩)
    · rintro ⟨k, K⟩ ⟨hk, hK, hj⟩
      simp only at hk hK hj
      rcases Nat.lt_or_eq_of_le hk with hk1 | hk1
      · have hbe := begin_c t (k + 1) K ht (by omega)
        have hso := stBeg_ok ht (n := k + 1) (by omega)
        have hfw := fewest_c t ht _ K hso hK
        have hK2 := fwK_good (hso.lt ht) hK
        have e9 : needV t (stBeg t (k + 1) t.halls.length) = fewN t (k + 1) := rfl
        rw [e9] at hfw
        generalize stBeg t (k + 1) t.halls.length = s0 at *
        generalize fwK t s0 K = K2 at *
        have ek : ((k + 1 : Nat) : Int) = (k : Int) + 1 := by omega
        rw [ek] at hbe
        simp only [plB, planC, slB, townC, slH, slL, sl, stC] at hbe hfw
        by_cases hv : 1000 ≤ fewN t (k + 1)
        · rw [← e1 k (failI_some.2 ⟨hk1, hv, hj⟩)]
          have eV : (1000 ≤ fewN t (k + 1)) = True := eq_true hv
          simp only [plB, planC, slB, townC, slH, slL, sl]; simp (maxSteps := 4000000) only [go_sem, seval]
          (repeat' (first
 | ((exfalso; omega))
 | (refine awp_segO (id := 8) [4, 0] ?_; simp (maxSteps := 4000000) only [go_sem, seval, so_cons, so_nil, List.take_succ_cons, List.take_zero, List.drop_succ_cons, List.drop_zero, eV, decide_true])
 | (refine own_go (hbe) [3, 2] rfl ?_ ?_ rfl ?_ <;> try simp (maxSteps := 4000000) only [go_sem, seval, Nat.lt_irrefl, so_cons, so_nil, List.take_succ_cons, List.take_zero, List.drop_succ_cons, List.drop_zero, eV, decide_true] <;> try decide)
 | (refine own_go (hfw) [3, 2] rfl ?_ ?_ rfl ?_ <;> try simp (maxSteps := 4000000) only [go_sem, seval, Nat.lt_irrefl, so_cons, so_nil, List.take_succ_cons, List.take_zero, List.drop_succ_cons, List.drop_zero, eV, decide_true] <;> try decide)
 | refine awp_seqK ?_
 | refine kt ?_
 | refine And.intro ?_ ?_
 | ((first | refine awp_stp rfl ?_ | refine awp_draw (by kernel_rfl) (by kernel_rfl) ?_ | refine Imp.le2 ?_ | refine go_split (fun _h => ?_) (fun _h => ?_)) <;> try simp (maxSteps := 4000000) only [go_sem, seval, eV, decide_true])
 | intro _h
 | refine awp_block ?_
 | refine awp_scope ?_
 | refine cond_b ?_ ?_
 | (show heapOK _ _ = true; kernel_rfl)
 | (show heapOK2 _ _ = true; kernel_rfl)
 | (omega)))
          all_goals trace_state
        · have eV : (1000 ≤ fewN t (k + 1)) = False := eq_false hv
          simp only [plB, planC, slB, townC, slH, slL, sl]; simp (maxSteps := 4000000) only [go_sem, seval]
          (repeat' (first
 | ((exfalso; omega))
 | (refine awp_segO (id := 8) [4, 0] ?_; simp (maxSteps := 4000000) only [go_sem, seval, so_cons, so_nil, List.take_succ_cons, List.take_zero, List.drop_succ_cons, List.drop_zero, eV, decide_false])
 | (refine own_go (hbe) [3, 2] rfl ?_ ?_ rfl ?_ <;> try simp (maxSteps := 4000000) only [go_sem, seval, Nat.lt_irrefl, so_cons, so_nil, List.take_succ_cons, List.take_zero, List.drop_succ_cons, List.drop_zero, eV, decide_false] <;> try decide)
 | (refine own_go (hfw) [3, 2] rfl ?_ ?_ rfl ?_ <;> try simp (maxSteps := 4000000) only [go_sem, seval, Nat.lt_irrefl, so_cons, so_nil, List.take_succ_cons, List.take_zero, List.drop_succ_cons, List.drop_zero, eV, decide_false] <;> try decide)
 | refine awp_seqK ?_
 | refine kt ?_
 | refine And.intro ?_ ?_
 | ((first | refine awp_stp rfl ?_ | refine awp_draw (by kernel_rfl) (by kernel_rfl) ?_ | refine Imp.le2 ?_ | refine go_split (fun _h => ?_) (fun _h => ?_)) <;> try simp (maxSteps := 4000000) only [go_sem, seval, eV, decide_false])
 | intro _h
 | refine awp_block ?_
 | refine awp_scope ?_
 | refine cond_b ?_ ?_
 | (show heapOK _ _ = true; kernel_rfl)
 | (show heapOK2 _ _ = true; kernel_rfl)
 | (omega)))
          refine ⟨(k + 1, K2), ⟨by simp only; omega, hK2, fun j h => ?_⟩, by simp only; omega, .le2 ?_⟩
          · simp only at h
            rcases Nat.lt_succ_iff_lt_or_eq.1 h with h | rfl
            · exact hj j h
            · omega
          · simp only [plB, planC, slB, townC, slH, slL, sl]; simp (maxSteps := 4000000) only [go_sem, seval]
            try (first | rfl | exact ⟨rfl, rfl⟩)
      · subst hk1
        rw [← e2 (failI_none.2 hj)]
        simp only [plB, planC, slB, townC, slH, slL, sl]; simp (maxSteps := 4000000) only [go_sem, seval]
        (repeat' (first
 | ((exfalso; omega))
 | refine awp_seqK ?_
 | refine kt ?_
 | refine And.intro ?_ ?_
 | ((first | refine awp_stp rfl ?_ | refine awp_draw (by kernel_rfl) (by kernel_rfl) ?_ | refine Imp.le2 ?_ | refine go_split (fun _h => ?_) (fun _h => ?_)) <;> try simp (maxSteps := 4000000) only [go_sem, seval])
 | intro _h
 | refine awp_block ?_
 | refine awp_scope ?_
 | refine cond_b ?_ ?_
 | (show heapOK _ _ = true; kernel_rfl)
 | (show heapOK2 _ _ = true; kernel_rfl)
 | (omega)))
        all_goals trace_state
  · have e0 : (faultT t = 0) = False := eq_false h0
    have e1 : failsE t = faultT t := by simp [failsE, h0]
    have e2 : failsN t = 0 := by simp [failsN, h0]
    rw [e1, e2]
    simp only [slB, townC, slH, slL, sl] at hch ⊢
    (refine callS_of_awp (fun w args => Try.call25 ..) Try.func25 rfl (fun w0 m0 wz => ?_); simp only [Try.ntmps25, Try.results25, initT, junks, homeC, hallC, slH, slL, townC, sl, List.toList_toArray, List.cons_append, List.nil_append, List.length_cons, List.length_nil, Nat.reduceAdd, Nat.reduceSub])
    (repeat' (first
 | refine awp_seqK ?_
 | refine kt ?_
 | refine And.intro ?_ ?_
 | ((first | refine awp_stp rfl ?_ | refine awp_draw (by kernel_rfl) (by kernel_rfl) ?_ | refine Imp.le2 ?_ | refine callK_of (hch) ?_ | refine go_split (fun _h => ?_) (fun _h => ?_)) <;> try simp (maxSteps := 4000000) only [go_sem, seval, e0, decide_false])
 | intro _h
 | refine awp_block ?_
 | refine awp_scope ?_
 | refine cond_b ?_ ?_
 | (show heapOK _ _ = true; kernel_rfl)
 | (show heapOK2 _ _ = true; kernel_rfl)
 | (omega)))
end Go.Am

/- When a bus may be in a plan, looked at alone. -/
namespace Go.Am
open Go.RowKit Go.Proofs
set_option linter.unusedSimpArgs false
set_option linter.unusedVariables false
def riseB (l : List Int) : Prop := ∀ i, 0 < i → i < l.length → l.getD (i - 1) 0 < l.getD i 0
/-- May a bus be in a plan, looked at alone? -/
def OneP (t : Town) (b : Bus) : Prop := BusG t b ∧ riseB b.homes
open Classical in
noncomputable def oneB (t : Town) (b : Bus) : Bool := decide (OneP t b)
theorem one_yes {t : Town} {b : Bus} (h : OneP t b) : true = oneB t b := by unfold oneB; exact (@decide_eq_true _ (Classical.propDecidable _) h).symm
theorem one_no {t : Town} {b : Bus} (h : ¬ OneP t b) : false = oneB t b := by unfold oneB; exact (@decide_eq_false _ (Classical.propDecidable _) h).symm
end Go.Am

/- Plain words: what can be shared stays so with more room, less time, fewer homes. No program is in sight. -/
namespace Go.Am
set_option linter.unusedSimpArgs false
set_option linter.unusedVariables false
theorem Feas.mono {t t' : Town} {p p' : Nat → Bool} {r r' : Nat → Int} {L : List Nat} (hF : Feas t p r L) (hp : ∀ h, h < 8 → p' h = true → p h = true ∧ h < t'.homes.length) (hn : t.halls.length = t'.halls.length)
    (hpet : ∀ h i, h < 8 → p' h = true → i < t.halls.length → andn (t.homes.getD h default).pets (t.halls.getD i default).pets = 0 → andn (t'.homes.getD h default).pets (t'.halls.getD i default).pets = 0)
    (htim : ∀ h h' i, p' h = true → p' h' = true → h < 8 → h' < 8 → i < t.halls.length → worstN t (t.homes.getD h' default) + (t.halls.getD i default).drive ≤ (t.homes.getD h default).gone → worstN t' (t'.homes.getD h' default) + (t'.halls.getD i default).drive ≤ (t'.homes.getD h default).gone)
    (hpeo : ∀ h, h < 8 → p h = true → 0 ≤ peo t h ∧ peo t' h = peo t h) (hsea : t.seats ≤ t'.seats) (hroo : ∀ i, i < t.halls.length → r i ≤ r' i) : Feas t' p' r' L := by
  obtain ⟨a, g, F⟩ := hF
  refine ⟨a, g, ⟨fun h hh hb => ?_, fun h hh hb => ?_, fun h h' hh hh' hb hb' e => ?_, fun j hj => ?_, fun i hi => ?_⟩⟩
  · obtain ⟨h1, h2⟩ := hp h hh hb
    have := F.lab h hh h1
    exact ⟨h2, this.2.1, by rw [← hn]; exact this.2.2⟩
  · obtain ⟨h1, h2⟩ := hp h hh hb
    exact hpet h _ hh hb (F.lab h hh h1).2.2 (F.pet h hh h1)
  · obtain ⟨h1, h2⟩ := hp h hh hb
    obtain ⟨h1', h2'⟩ := hp h' hh' hb'
    exact htim h h' _ hb hb' hh hh' (F.lab h hh h1).2.2 (F.tim h h' hh hh' h1 h1' e)
  · refine Int.le_trans (Int.le_trans (sumN_le fun h hh => ?_) (F.sea j hj)) hsea
    by_cases e : p' h = true ∧ a h = j
    · obtain ⟨h1, h2⟩ := hp h hh e.1
      rw [if_pos e, if_pos ⟨h1, e.2⟩, (hpeo h hh h1).2]; exact Int.le_refl _
    · rw [if_neg e]
      split
      · rename_i e2; exact (hpeo h hh e2.1).1
      · exact Int.le_refl _
  · refine Int.le_trans (Int.le_trans (sumN_le fun h hh => ?_) (F.roo i (by omega))) (hroo i (by omega))
    by_cases e : p' h = true ∧ g (a h) = i
    · obtain ⟨h1, h2⟩ := hp h hh e.1
      rw [if_pos e, if_pos ⟨h1, e.2⟩, (hpeo h hh h1).2]; exact Int.le_refl _
    · rw [if_neg e]
      split
      · rename_i e2; exact (hpeo h hh e2.1).1
      · exact Int.le_refl _
/-- The fewest buses of fewer homes are not more. -/
theorem few_mono {t : Town} (ht : TownOK t) {n m : Nat} (h1 : n ≤ m) (h2 : m ≤ t.homes.length) (h : fewN t m < 1000) : fewN t n < 1000 := by
  have hF := few_feas ht h2 h
  have h8 := ht.homes
  have h3 := feas_few ht (n := n) (by omega) (hF.mono (t' := t) (p' := fun h => decide (h < n)) (fun h hh hb => ⟨decide_eq_true (by have := of_decide_eq_true hb; omega), by have := of_decide_eq_true hb; omega⟩) rfl (fun _ _ _ _ _ h => h) (fun _ _ _ _ _ _ _ _ h => h) (fun h hh hb => ⟨peo_nonneg ht (by have := of_decide_eq_true hb; omega), rfl⟩) (Int.le_refl _) (fun _ _ => Int.le_refl _))
  have h4 := needV_bd (t := t) (s := stBeg t m t.halls.length)
  rw [List.length_range] at h3
  unfold fewN at *
  omega
end Go.Am

/- Contracts of the away functions: when people are there; what the reference says of it. -/
namespace Go.Am
open Go.RowKit Go.Proofs
attribute [local irreducible] AWP CallS Kt goK CallK stepK evOps SemF SemY Imp
set_option maxRecDepth 4000
set_option linter.unusedSimpArgs false
set_option linter.unusedVariables false
set_option maxHeartbeats 1600000
/-- An order of homes has each of them once. -/
structure Ord (n : Nat) (l : List Int) : Prop where
  len : l.length = n
  inn : ∀ x ∈ l, 0 ≤ x ∧ x < n
  once : l.Nodup
instance (n : Nat) (l : List Int) : Decidable (Ord n l) := decidable_of_iff (l.length = n ∧ (∀ x ∈ l, 0 ≤ x ∧ x < n) ∧ l.Nodup) ⟨fun ⟨a, b, c⟩ => ⟨a, b, c⟩, fun ⟨a, b, c⟩ => ⟨a, b, c⟩⟩
theorem Ord.all {n : Nat} {l : List Int} (h : Ord n l) (i : Nat) (hi : i < n) : (i : Int) ∈ l := by
  by_cases hm : (i : Int) ∈ l
  · exact hm
  · have h9 := nodup_le n ((i : Int) :: l) (List.nodup_cons.2 ⟨hm, h.once⟩) (fun x hx => by
      rcases List.mem_cons.1 hx with rfl | hx
      · omega
      · exact h.inn x hx)
    have := h.len
    simp only [List.length_cons] at h9
    omega
theorem Ord.at {n : Nat} {l : List Int} (h : Ord n l) {k : Nat} (hk : k < l.length) : 0 ≤ l.getD k 0 ∧ l.getD k 0 < n := h.inn _ (getD_mem hk)
structure Tim (t : Town) (calls preps : List Int) : Prop where
  lc : calls.length = t.homes.length
  lp : preps.length = t.homes.length
  call : ∀ i, i < t.homes.length → t.clo ≤ calls.getD i 0 ∧ calls.getD i 0 ≤ t.chi
  prep : ∀ i, i < t.homes.length → (t.homes.getD i default).lo ≤ preps.getD i 0 ∧ preps.getD i 0 ≤ (t.homes.getD i default).hi
instance (t : Town) (calls preps : List Int) : Decidable (Tim t calls preps) := decidable_of_iff (calls.length = t.homes.length ∧ preps.length = t.homes.length ∧ (∀ i, i < t.homes.length → t.clo ≤ calls.getD i 0 ∧ calls.getD i 0 ≤ t.chi) ∧ ∀ i, i < t.homes.length → (t.homes.getD i default).lo ≤ preps.getD i 0 ∧ preps.getD i 0 ≤ (t.homes.getD i default).hi)
  ⟨fun ⟨a, b, c, d⟩ => ⟨a, b, c, d⟩, fun ⟨a, b, c, d⟩ => ⟨a, b, c, d⟩⟩
end Go.Am

/- Plain words: when people are there at the latest; how a right plan is gone through. No program is in sight. -/
namespace Go.Am
set_option linter.unusedSimpArgs false
set_option linter.unusedVariables false
/-- A plan that can be gone through can be gone through as far as one likes. -/
theorem runN_pre {t : Town} {P : List Bus} {S : List Bool × List Int} (h : runN t P P.length = some S) {k : Nat} (hk : k < P.length) {I : List Bool} {R : List Int} (hS : runN t P k = some (I, R)) :
    BusG t (P.getD k default) ∧ ∃ J, markN (P.getD k default).homes I (P.getD k default).homes.length = some J ∧ runN t P (k + 1) = some (J, isp R (P.getD k default).hall.toNat (R.getD (P.getD k default).hall.toNat 0 + ppl t (P.getD k default).homes)) := by
  have hnx : runN t P (k + 1) = busN t (P.getD k default) (I, R) := by simp only [runN, hS]
  have hne : runN t P (k + 1) ≠ none := fun e => by
    have : ∀ d, runN t P (k + 1 + d) = none := fun d => by
      induction d with
      | zero => exact e
      | succ d ih => rw [← Nat.add_assoc]; simp only [runN, ih]
    have h9 := this (P.length - (k + 1))
    rw [show k + 1 + (P.length - (k + 1)) = P.length by omega, h] at h9
    cases h9
  rw [hnx] at hne ⊢
  unfold busN at hne ⊢
  by_cases hG : BusG t (P.getD k default)
  · rw [if_pos hG] at hne ⊢
    cases hM : markN (P.getD k default).homes I (P.getD k default).homes.length with
    | none => rw [hM] at hne; exact absurd rfl hne
    | some J => exact ⟨hG, J, rfl, rfl⟩
  · rw [if_neg hG] at hne; exact absurd rfl hne
theorem markN_pre {l : List Int} {I : List Bool} {K : List Bool} (h : markN l I l.length = some K) {j : Nat} (hj : j < l.length) {J : List Bool} (hJ : markN l I j = some J) :
    J.getD (l.getD j 0).toNat false = false ∧ markN l I (j + 1) = some (isp J (l.getD j 0).toNat true) ∧ (0 < j → l.getD (j - 1) 0 < l.getD j 0) := by
  have hne : markN l I (j + 1) ≠ none := fun e => by
    have : ∀ d, markN l I (j + 1 + d) = none := fun d => by
      induction d with
      | zero => exact e
      | succ d ih => rw [← Nat.add_assoc]; simp only [markN, ih]
    have h9 := this (l.length - (j + 1))
    rw [show j + 1 + (l.length - (j + 1)) = l.length by omega, h] at h9
    cases h9
  simp only [markN, hJ] at hne ⊢
  by_cases hc : J.getD (l.getD j 0).toNat false = true ∨ (0 < j ∧ l.getD j 0 ≤ l.getD (j - 1) 0)
  · rw [if_pos hc] at hne; exact absurd rfl hne
  · rw [if_neg hc]
    refine ⟨?_, rfl, fun h0 => ?_⟩
    · cases e : J.getD (l.getD j 0).toNat false
      · rfl
      · exact absurd (.inl e) hc
    · rcases Int.lt_or_le (l.getD (j - 1) 0) (l.getD j 0) with h1 | h1
      · exact h1
      · exact absurd (.inr ⟨h0, h1⟩) hc
theorem planF_short {t : Town} (ht : TownOK t) : ∀ (f : Nat) (s : Sta), StOK t s → ∀ b ∈ planF t f s, b.homes.length ≤ 8
  | 0, s, _, b, hb => by simp [planF] at hb
  | f + 1, s, hs, b, hb => by
    have hr := hs.lt ht
    simp only [planF] at hb
    by_cases h0 : s.rest = 0
    · rw [if_pos h0] at hb; simp at hb
    · rw [if_neg h0] at hb
      split at hb
      · rename_i p hp
        have hp2 := List.mem_of_find?_eq_some hp
        obtain ⟨x, j, h1, h2, h3, h4⟩ := (nextL_mem hr).1 hp2
        have hps : StOK t p.2 := by rw [h4]; exact toSt_ok ht hs h0 h1 h2 h3
        rcases List.mem_cons.1 hb with rfl | hb
        · rw [h4]; exact lstN_le 8
        · exact planF_short ht f p.2 hps b hb
      · simp at hb
end Go.Am

/- Contracts of the away functions: whether a plan is right, by the reference. -/
namespace Go.Am
open Go.RowKit Go.Proofs
set_option linter.unusedSimpArgs false
set_option linter.unusedVariables false
def cntN (P : List Bus) (k h : Nat) : Int := sumN (fun j => if (h : Int) ∈ (P.getD j default).homes then 1 else 0) k
def roomN (t : Town) (P : List Bus) (k i : Nat) : Int := sumN (fun j => if (P.getD j default).hall.toNat = i then ppl t (P.getD j default).homes else 0) k
structure RefR (t : Town) (P : List Bus) : Prop where
  len : P.length ≤ 8
  one : ∀ j, j < P.length → OneP t (P.getD j default)
  cnt : ∀ h, h < t.homes.length → cntN P P.length h = 1
  roo : ∀ i, i < t.halls.length → roomN t P P.length i ≤ (t.halls.getD i default).room
theorem rise_pw {l : List Int} (h : riseB l) : l.Pairwise (· < ·) := by
  rw [List.pairwise_iff_getElem]
  intro i j hi hj hij
  have key : ∀ d, i + d + 1 < l.length → l.getD i 0 < l.getD (i + d + 1) 0 := by
    intro d
    induction d with
    | zero => intro h1; have := h (i + 0 + 1) (by omega) h1; simpa using this
    | succ d ih =>
      intro h1
      have h2 := ih (by omega)
      have h3 := h (i + (d + 1) + 1) (by omega) h1
      rw [show i + (d + 1) + 1 - 1 = i + d + 1 by omega] at h3
      omega
  have := key (j - i - 1) (by omega)
  rw [show i + (j - i - 1) + 1 = j by omega] at this
  simpa [List.getD_eq_getElem?_getD, hi, hj] using this
theorem rise_le {t : Town} {b : Bus} (h : OneP t b) : b.homes.length ≤ t.homes.length := nodup_le _ _ ((rise_pw h.2).imp (fun h => by omega)) h.1.homes
theorem sumN_two {f : Nat → Int} {n a b : Nat} (hf : ∀ i, i < n → 0 ≤ f i) (ha : a < b) (hb : b < n) : f a + f b ≤ sumN f n := by
  have e : sumN (fun i => (if i = a then f a else 0) + (if i = b then f b else 0)) n ≤ sumN f n := sumN_le fun i hi => by
    by_cases h1 : i = a
    · subst h1
      rw [if_pos rfl, if_neg (by omega)]; omega
    · rw [if_neg h1]
      by_cases h2 : i = b
      · subst h2; rw [if_pos rfl]; omega
      · rw [if_neg h2]; have := hf i hi; omega
  rw [sumN_add, sumN_pick, sumN_pick, if_pos (by omega), if_pos hb] at e
  exact e
theorem refR_run {t : Town} {P : List Bus} (ht : TownOK t) (h : RefR t P) : ∀ k, k ≤ P.length → ∃ S, runN t P k = some S
  | 0, _ => ⟨_, rfl⟩
  | k + 1, hk => by
    obtain ⟨⟨I, R⟩, hS⟩ := refR_run ht h k (by omega)
    have hI := runI ht k _ hS
    obtain ⟨l1, l2, l3⟩ := runN_length ht k _ hS
    have ho := h.one k (by omega)
    have hf : ∀ x ∈ (P.getD k default).homes, I.getD x.toNat false = false := fun x hx => by
      have h1 := ho.1.homes x hx
      cases e : I.getD x.toNat false
      · rfl
      · obtain ⟨j, hj, hm⟩ := (hI.mark x.toNat (by omega)).1 e
        have h2 := sumN_two (f := fun j => if ((x.toNat : Nat) : Int) ∈ (P.getD j default).homes then 1 else 0) (n := P.length) (a := j) (b := k) (fun i _ => by split <;> omega) hj (by omega)
        rw [show ((x.toNat : Nat) : Int) = x by omega] at hm h2
        simp only [hm, hx, if_true] at h2
        have h3 := h.cnt x.toNat (by omega)
        unfold cntN at h3
        rw [show ((x.toNat : Nat) : Int) = x by omega] at h3
        omega
    obtain ⟨J, hJ⟩ := mark_ok l1 ho.1.homes (rise_pw ho.2) hf _ (Nat.le_refl _)
    refine ⟨(J, isp R (P.getD k default).hall.toNat (R.getD (P.getD k default).hall.toNat 0 + ppl t (P.getD k default).homes)), ?_⟩
    simp only [runN, hS]
    unfold busN
    rw [if_pos ho.1]
    show (match markN (P.getD k default).homes I (P.getD k default).homes.length with | none => none | some J => some (J, isp R (P.getD k default).hall.toNat (R.getD (P.getD k default).hall.toNat 0 + ppl t (P.getD k default).homes))) = _
    rw [hJ]
theorem refR_iff {t : Town} {P : List Bus} (ht : TownOK t) : rightB t P = true ↔ RefR t P := by
  constructor
  · intro h
    obtain ⟨S, hS, h8, hroom, hall⟩ := rightB_some h
    have R := runI ht _ S hS
    obtain ⟨l1, l2, l3⟩ := runN_length ht _ S hS
    refine ⟨h8, fun j hj => ⟨(R.bus j hj).1, fun i h0 hi => ?_⟩, fun h hh => ?_, fun i hi => by have := hroom i hi; rw [R.room i hi] at this; exact this⟩
    · have hpre : ∀ k, k ≤ P.length → ∃ S, runN t P k = some S := by
        intro k hk
        cases hr : runN t P k with
        | some S => exact ⟨S, rfl⟩
        | none =>
          have : ∀ d, runN t P (k + d) = none := fun d => by
            induction d with
            | zero => exact hr
            | succ d ih => rw [← Nat.add_assoc]; simp only [runN, ih]
          have h9 := this (P.length - k)
          rw [show k + (P.length - k) = P.length by omega, hS] at h9
          cases h9
      obtain ⟨⟨I, Rr⟩, hSj⟩ := hpre j (by omega)
      obtain ⟨hG, J, hJ, _⟩ := runN_pre hS hj hSj
      have hmk : ∀ k, k ≤ (P.getD j default).homes.length → ∃ J', markN (P.getD j default).homes I k = some J' := by
        intro k hk
        cases hr : markN (P.getD j default).homes I k with
        | some S => exact ⟨S, rfl⟩
        | none =>
          have : ∀ d, markN (P.getD j default).homes I (k + d) = none := fun d => by
            induction d with
            | zero => exact hr
            | succ d ih => rw [← Nat.add_assoc]; simp only [markN, ih]
          have h9 := this ((P.getD j default).homes.length - k)
          rw [show k + ((P.getD j default).homes.length - k) = (P.getD j default).homes.length by omega, hJ] at h9
          cases h9
      obtain ⟨J', hJ'⟩ := hmk i (by omega)
      exact (markN_pre hJ hi hJ').2.2 h0
    · have hm : ∃ j, j < P.length ∧ (h : Int) ∈ (P.getD j default).homes := by
        refine (R.mark h hh).1 ?_
        rw [List.any_eq_false] at hall
        have := hall _ (getD_mem (d := false) (i := h) (by omega))
        simpa using this
      obtain ⟨j0, hj0, hm⟩ := hm
      unfold cntN
      have e : sumN (fun j => if (h : Int) ∈ (P.getD j default).homes then 1 else 0) P.length = sumN (fun j => if j = j0 then 1 else 0) P.length := by
        refine sumN_congr fun j hj => ?_
        by_cases e1 : j = j0
        · subst e1; rw [if_pos hm, if_pos rfl]
        · rw [if_neg e1, if_neg]
          intro hm2
          rcases Nat.lt_or_gt_of_ne e1 with h1 | h1
          · exact R.once _ _ h1 hj0 _ hm2 hm
          · exact R.once _ _ h1 hj _ hm hm2
      rw [e, sumN_pick, if_pos hj0]
  · intro h
    obtain ⟨⟨I, Rr⟩, hS⟩ := refR_run ht h P.length (Nat.le_refl _)
    have R := runI ht _ _ hS
    obtain ⟨l1, l2, l3⟩ := runN_length ht _ _ hS
    unfold rightB
    rw [hS]
    simp only [Bool.and_eq_true, decide_eq_true_eq, Bool.not_eq_true']
    refine ⟨⟨h.len, fun i hi => ?_⟩, ?_⟩
    · have := h.roo i hi
      rw [R.room i hi]; exact this
    · rw [List.any_eq_false]
      intro x hx
      obtain ⟨i, hi, rfl⟩ := mem_getD (d := false) hx
      have hc := h.cnt i (by simp only at l1; omega)
      cases e : I.getD i false
      · exfalso
        have hz : cntN P P.length i = 0 := by
          unfold cntN
          rw [sumN_congr (g := fun _ => 0), sumN_zero]
          intro j hj
          rw [if_neg]
          intro hm
          have := (R.mark i (by simp only at l1; omega)).2 ⟨j, hj, hm⟩
          simp only at this
          rw [e] at this; cases this
        omega
      · simp
end Go.Am

/- A right plan: how many buses, how many people. Fewer buses than the fewest are never right. -/
namespace Go.Am
open Go.RowKit Go.Proofs
set_option linter.unusedSimpArgs false
set_option linter.unusedVariables false
theorem sumN_const {c : Int} : ∀ k : Nat, sumN (fun _ => c) k = k * c
  | 0 => by simp [sumN]
  | k + 1 => by
    simp only [sumN, sumN_const k]
    rw [Int.natCast_succ, Int.add_mul, Int.one_mul]
theorem sumN_if {p : Nat → Prop} [DecidablePred p] {c : Int} : ∀ k : Nat, sumN (fun j => if p j then c else 0) k = c * sumN (fun j => if p j then 1 else 0) k
  | 0 => by simp [sumN]
  | k + 1 => by
    simp only [sumN]
    rw [sumN_if k (c := c), Int.mul_add]
    split
    · rw [Int.mul_one]
    · rw [Int.mul_zero]
theorem sumN_one {f : Nat → Int} {n a : Nat} (hf : ∀ i, i < n → 0 ≤ f i) (ha : a < n) : f a ≤ sumN f n := by
  have e : sumN (fun i => if i = a then f a else 0) n ≤ sumN f n := sumN_le fun i hi => by
    by_cases h1 : i = a
    · subst h1; rw [if_pos rfl]; exact Int.le_refl _
    · rw [if_neg h1]; exact hf i hi
  rw [sumN_pick, if_pos ha] at e
  exact e
theorem right_sum {t : Town} {P : List Bus} (ht : TownOK t) (hq : rightB t P = true) : sumN (fun h => peo t h) t.homes.length ≤ P.length * t.seats ∧ 1 ≤ P.length ∧ P.length ≤ t.homes.length := by
  have R := (refR_iff ht).1 hq
  have hln := ht.homes
  refine ⟨?_, ?_, ?_⟩
  · have h1 : sumN (fun j => ppl t (P.getD j default).homes) P.length ≤ P.length * t.seats := by
      rw [← sumN_const (c := t.seats) P.length]
      refine sumN_le fun j hj => ?_
      have := (R.one j hj).1.may
      simp only [mayB, Bool.and_eq_true, decide_eq_true_eq] at this
      exact this.1.1
    have h2 : sumN (fun j => ppl t (P.getD j default).homes) P.length = sumN (fun h => sumN (fun j => if (h : Int) ∈ (P.getD j default).homes then peo t h else 0) P.length) 8 := by
      rw [sumN_swap]
      refine sumN_congr fun j hj => ?_
      have ho := R.one j hj
      exact ppl_sum ((rise_pw ho.2).imp (fun h => by omega)) (fun x hx => by have := ho.1.homes x hx; omega)
    have h3 : sumN (fun h => if h < t.homes.length then peo t h else 0) 8 ≤ sumN (fun h => sumN (fun j => if (h : Int) ∈ (P.getD j default).homes then peo t h else 0) P.length) 8 := by
      refine sumN_le fun h hh => ?_
      rw [sumN_if (p := fun j => (h : Int) ∈ (P.getD j default).homes)]
      by_cases hn : h < t.homes.length
      · have := R.cnt h hn
        unfold cntN at this
        rw [if_pos hn, this]; omega
      · have e0 : peo t h = 0 := by
          unfold peo
          simp [List.getD_eq_getElem?_getD, List.getElem?_eq_none (show t.homes.length ≤ h by omega)]; rfl
        rw [if_neg hn, e0, Int.zero_mul]; exact Int.le_refl _
    have h4 : sumN (fun h => if h < t.homes.length then peo t h else 0) 8 = sumN (fun h => peo t h) t.homes.length := by
      have key : ∀ d, t.homes.length + d ≤ 8 → sumN (fun h => if h < t.homes.length then peo t h else 0) (t.homes.length + d) = sumN (fun h => peo t h) t.homes.length := by
        intro d
        induction d with
        | zero => intro _; exact sumN_congr fun h hh => if_pos hh
        | succ d ih =>
          intro hd
          rw [← Nat.add_assoc]
          simp only [sumN]
          rw [ih (by omega), if_neg (by omega)]; omega
      have := key (8 - t.homes.length) (by omega)
      rwa [show t.homes.length + (8 - t.homes.length) = 8 by omega] at this
    omega
  · rcases Nat.eq_zero_or_pos P.length with h | h
    · have := R.cnt 0 (by omega)
      rw [h] at this
      simp [cntN, sumN] at this
    · exact h
  · have h1 : (P.length : Int) ≤ sumN (fun j => sumN (fun h => if (h : Int) ∈ (P.getD j default).homes then 1 else 0) t.homes.length) P.length := by
      have e := sumN_const (c := 1) P.length
      rw [Int.mul_one] at e
      rw [← e]
      refine sumN_le fun j hj => ?_
      have ho := (R.one j hj).1
      have hp := List.length_pos_iff.2 ho.some
      have hx := ho.homes _ (getD_mem (d := 0) (i := 0) hp)
      have := sumN_one (f := fun h => if (h : Int) ∈ (P.getD j default).homes then 1 else 0) (n := t.homes.length) (a := ((P.getD j default).homes.getD 0 0).toNat) (fun i _ => by split <;> omega) (by omega)
      rw [if_pos (by rw [show ((((P.getD j default).homes.getD 0 0).toNat : Nat) : Int) = (P.getD j default).homes.getD 0 0 by omega]; exact getD_mem (d := 0) (i := 0) hp)] at this
      exact this
    rw [← sumN_swap] at h1
    have h2 : sumN (fun h => sumN (fun j => if (h : Int) ∈ (P.getD j default).homes then 1 else 0) P.length) t.homes.length = sumN (fun _ => 1) t.homes.length := sumN_congr fun h hh => R.cnt h hh
    rw [h2, sumN_const] at h1
    omega
end Go.Am
