/- Parts TlB, TkB, TrA, TrB of the proof, one behind the other. No statement is proved here. -/
import Derived.Test.YtghlpjfpfjpddaaGreatE4
import Derived.Test.YtghlpjfpfjpddaaGreatE1
import Derived.Test.YtghlpjfpfjpddaaGreatE3
import Derived.Test.YtghlpjfpfjpddaaGreatE5
/- Contracts of the away functions: an order of calls with times, by words. -/
namespace Go.Am
open Go.RowKit Go.Proofs
attribute [local irreducible] AWP CallS Kt goK CallK stepK evOps SemF SemY Imp
set_option maxRecDepth 4000
set_option linter.unusedSimpArgs false
set_option linter.unusedVariables false
set_option maxHeartbeats 3200000

theorem tmod_nat {a b : Nat} : ((a : Int)).tmod (b : Int) = ((a % b : Nat) : Int) := rfl
/-- Words that are told. -/
def WordsOK (words : List Int) : Prop := words.length ≤ 9223372036854775807 ∧ ∀ a ∈ words, 0 ≤ a ∧ a ≤ 65535
theorem WordsOK.at {words : List Int} (h : WordsOK words) {i : Nat} (hi : i < words.length) : 0 ≤ words.getD i 0 ∧ words.getD i 0 ≤ 65535 := h.2 _ (getD_mem hi)
def pickV (lo hi : Int) (words : List Int) (i : Nat) : Int :=
  if words.length = 0 then hi else if (words.getD (i % words.length) 0).tmod 4 = 0 then lo else if (words.getD (i % words.length) 0).tmod 4 = 1 then hi else lo + (words.getD (i % words.length) 0).tmod (hi - lo + 1)
theorem pickV_bd {lo hi : Int} {words : List Int} {i : Nat} (hw : WordsOK words) (h : lo ≤ hi) : lo ≤ pickV lo hi words i ∧ pickV lo hi words i ≤ hi := by
  unfold pickV
  split
  · omega
  · rename_i h0
    have h1 := hw.at (i := i % words.length) (Nat.mod_lt _ (by omega))
    split
    · omega
    · split
      · omega
      · have h2 := Int.tmod_nonneg (hi - lo + 1) h1.1
        have h3 := Int.tmod_lt_of_pos (words.getD (i % words.length) 0) (show 0 < hi - lo + 1 by omega)
        omega
theorem pick_c (lo hi : Int) (words : List Int) (i : Nat) (hw : WordsOK words) (h : 0 ≤ lo ∧ lo ≤ hi ∧ hi ≤ 1000) : CallS Tryz.prog 25 [.agg [.int .i64 lo, .int .i64 hi], slU words, .int .i64 i] (.int .i64 (pickV lo hi words i)) := by
  unfold pickV
  simp only [slU]
  by_cases h0 : words.length = 0
  · rw [if_pos h0]
    have e0 : ((words.length : Int) = 0) = True := eq_true (by omega)
    (refine callS_of_awp (fun w args => Tryz.call25 ..) Tryz.func25 rfl (fun w0 m0 wz => ?_); simp only [Tryz.ntmps25, Tryz.results25, initT, junks, homeC, hallC, slH, slL, townC, sl, List.toList_toArray, List.cons_append, List.nil_append, List.length_cons, List.length_nil, Nat.reduceAdd, Nat.reduceSub])
    (repeat' (first
    | (refine awp_seqK ?_)
    | (refine kt ?_)
    | (refine And.intro ?_ ?_)
    | ((first | refine awp_region ?_ | refine awp_draw (by kernel_rfl) (by kernel_rfl) ?_ | refine Imp.le2 ?_ | refine awp_label ?_ | refine awp_skip ?_ | refine awp_exit ?_ | refine awp_cd ?_ | refine awp_ret ?_ | refine go_split (fun _h => ?_) (fun _h => ?_)) <;> try simp (maxSteps := 4000000) only [go_sem, seval, e0, decide_true])
    | (intro _h)
    | (refine awp_block ?_)
    | (refine awp_scope ?_)
    | (refine cond_b (fun _h => ?_) (fun _h => ?_))
    | (show heapOK _ _ = true; kernel_rfl)
    | (show heapOK2 _ _ = true; kernel_rfl)
    | (omega)))
  · rw [if_neg h0]
    have e0 : ((words.length : Int) = 0) = False := eq_false (by omega)
    have hml : i % words.length < words.length := Nat.mod_lt _ (by omega)
    have h1 := hw.at hml
    have em : ((i : Int)).tmod (words.length : Int) = ((i % words.length : Nat) : Int) := tmod_nat
    have h3 := Int.tmod_lt_of_pos (words.getD (i % words.length) 0) (show 0 < hi - lo + 1 by omega)
    have h2 := Int.tmod_nonneg (hi - lo + 1) h1.1
    (refine callS_of_awp (fun w args => Tryz.call25 ..) Tryz.func25 rfl (fun w0 m0 wz => ?_); simp only [Tryz.ntmps25, Tryz.results25, initT, junks, homeC, hallC, slH, slL, townC, sl, List.toList_toArray, List.cons_append, List.nil_append, List.length_cons, List.length_nil, Nat.reduceAdd, Nat.reduceSub])
    (repeat' (first
    | (refine awp_seqK ?_)
    | (refine kt ?_)
    | (refine And.intro ?_ ?_)
    | ((first | refine awp_region ?_ | refine awp_draw (by kernel_rfl) (by kernel_rfl) ?_ | refine Imp.le2 ?_ | refine awp_label ?_ | refine awp_skip ?_ | refine awp_exit ?_ | refine awp_cd ?_ | refine awp_ret ?_ | refine go_split (fun _h => ?_) (fun _h => ?_)) <;> try simp (maxSteps := 4000000) only [go_sem, seval, e0, decide_false, em])
    | (intro _h)
    | (refine awp_block ?_)
    | (refine awp_scope ?_)
    | (refine cond_b (fun _h => ?_) (fun _h => ?_))
    | (show heapOK _ _ = true; kernel_rfl)
    | (show heapOK2 _ _ = true; kernel_rfl)
    | (omega)))
    all_goals first
      | omega
      | (rw [if_pos ‹_›])
      | (rw [if_neg ‹_›, if_pos ‹_›])
      | (rw [if_neg ‹_›, if_neg ‹_›])
      | trace_state

/-- Two elements change places. -/
def swpI (l : List Int) (i k : Nat) : List Int := isp (isp l i (l.getD k 0)) k (l.getD i 0)
theorem swpI_length {l : List Int} {i k : Nat} (hi : i < l.length) (hk : k < l.length) : (swpI l i k).length = l.length := by
  unfold swpI
  rw [isp_length (by rw [isp_length hi]; exact hk), isp_length hi]
theorem swpI_getD {l : List Int} {i k j : Nat} (hi : i < l.length) (hk : k < l.length) : (swpI l i k).getD j 0 = l.getD (if j = k then i else if j = i then k else j) 0 := by
  unfold swpI
  rw [isp_getD (by rw [isp_length hi]; exact hk)]
  by_cases e : j = k
  · rw [if_pos e, if_pos e]
  · rw [if_neg e, if_neg e, isp_getD hi]
    by_cases e2 : j = i
    · rw [if_pos e2, if_pos e2]
    · rw [if_neg e2, if_neg e2]
theorem swpI_ord {n : Nat} {l : List Int} (h : Ord n l) {i k : Nat} (hi : i < n) (hk : k < n) : Ord n (swpI l i k) := by
  have hl := h.len
  have hs := swpI_length (l := l) (i := i) (k := k) (by omega) (by omega)
  have hinj : ∀ a b, a < n → b < n → l.getD a 0 = l.getD b 0 → a = b := fun a b ha hb e => by
    rcases Nat.lt_trichotomy a b with h1 | h1 | h1
    · have := List.pairwise_iff_getElem.1 h.once a b (by omega) (by omega) h1
      simp [List.getD_eq_getElem?_getD, show a < l.length by omega, show b < l.length by omega] at e
      exact absurd e this
    · exact h1
    · have := List.pairwise_iff_getElem.1 h.once b a (by omega) (by omega) h1
      simp [List.getD_eq_getElem?_getD, show a < l.length by omega, show b < l.length by omega] at e
      exact absurd e.symm this
  have hs2 : ∀ j, j < n → (if j = k then i else if j = i then k else j) < n := fun j hj => by split <;> (try split) <;> omega
  refine ⟨by omega, fun x hx => ?_, List.pairwise_iff_getElem.2 fun a b ha hb hab e => ?_⟩
  · obtain ⟨j, hj, rfl⟩ := mem_getD (d := 0) hx
    rw [swpI_getD (by omega) (by omega)]
    exact h.at (by have := hs2 j (by omega); omega)
  · have e2 : (swpI l i k).getD a 0 = (swpI l i k).getD b 0 := by
      simp [List.getD_eq_getElem?_getD, ha, hb, e]
    rw [swpI_getD (by omega) (by omega), swpI_getD (by omega) (by omega)] at e2
    have := hinj _ _ (hs2 a (by omega)) (hs2 b (by omega)) e2
    split at this <;> split at this <;> (try split at this) <;> (try split at this) <;> omega
def swapK (n : Nat) (words : List Int) (i : Nat) : Nat := ((words.getD ((i + 5) % words.length) 0).tmod n).toNat
def ordW (n : Nat) (words : List Int) : Nat → List Int
  | 0 => upTo n
  | i + 1 => if words.length = 0 then ordW n words i else swpI (ordW n words i) i (swapK n words i)
theorem upTo_ord {n : Nat} : Ord n (upTo n) := ⟨upTo_length, fun x hx => upTo_mem.1 hx, upTo_nodup⟩
theorem swapK_lt {n : Nat} {words : List Int} {i : Nat} (hw : WordsOK words) (h0 : words.length ≠ 0) (hn : 0 < n) : swapK n words i < n := by
  have h1 := hw.at (i := (i + 5) % words.length) (Nat.mod_lt _ (by omega))
  have h2 := Int.tmod_nonneg (n : Int) h1.1
  have h3 := Int.tmod_lt_of_pos (words.getD ((i + 5) % words.length) 0) (show 0 < (n : Int) by omega)
  unfold swapK; omega
theorem ordW_ord {n : Nat} {words : List Int} (hw : WordsOK words) (hn : 0 < n) : ∀ i, i ≤ n → Ord n (ordW n words i)
  | 0, _ => upTo_ord
  | i + 1, h => by
    have ih := ordW_ord hw hn i (by omega)
    simp only [ordW]
    split
    · exact ih
    · rename_i h0
      exact swpI_ord ih (by omega) (swapK_lt hw h0 hn)
def callsW (t : Town) (words : List Int) (k : Nat) : List Int := tab k fun i => pickV t.clo t.chi words (2 * i)
def prepsW (t : Town) (words : List Int) (k : Nat) : List Int := tab k fun i => pickV (t.homes.getD i default).lo (t.homes.getD i default).hi words (2 * i + 1)
theorem tab_succ {α : Type} {n : Nat} {f : Nat → α} : tab (n + 1) f = tab n f ++ [f n] := by simp [tab, List.range_succ]
theorem timW {t : Town} {words : List Int} (ht : TownOK t) (hw : WordsOK words) : Tim t (callsW t words t.homes.length) (prepsW t words t.homes.length) := by
  refine ⟨tab_length, tab_length, fun i hi => ?_, fun i hi => ?_⟩
  · unfold callsW; rw [tab_getD hi]; exact pickV_bd hw ht.call.2.1
  · unfold prepsW; rw [tab_getD hi]; exact pickV_bd hw (ht.home i hi).prep.2.1
theorem called_c (t : Town) (words : List Int) (ht : TownOK t) (hw : WordsOK words) : CallS Tryz.prog 8 [.agg (townC t), slU words] (.tup [sl (ordW t.homes.length words t.homes.length), sl (callsW t words t.homes.length), sl (prepsW t words t.homes.length)]) := by
  obtain ⟨hh1, hh2⟩ := ht.homes
  have hc := ht.call
  have hwl := hw.1
  have hcl := fun k => tab_length (n := k) (f := fun i => pickV t.clo t.chi words (2 * i))
  have hpl := fun k => tab_length (n := k) (f := fun i => pickV (t.homes.getD i default).lo (t.homes.getD i default).hi words (2 * i + 1))
  have r1 : ∀ k, (callsW t words k).length = k := hcl
  have r2 : ∀ k, (prepsW t words k).length = k := hpl
  (refine callS_of_awp (fun w args => Tryz.call8 ..) Tryz.func8 rfl (fun w0 m0 wz => ?_); simp only [Tryz.ntmps8, Tryz.results8, initT, junks, homeC, hallC, slH, slL, townC, sl, List.toList_toArray, List.cons_append, List.nil_append, List.length_cons, List.length_nil, Nat.reduceAdd, Nat.reduceSub])
  (repeat' (first
    | (refine awp_seqK ?_)
    | (refine kt ?_)
    | (refine And.intro ?_ ?_)
    | ((first | refine awp_region ?_ | refine awp_draw (by kernel_rfl) (by kernel_rfl) ?_ | refine Imp.le2 ?_ | refine awp_label ?_ | refine awp_skip ?_ | refine awp_exit ?_ | refine awp_cd ?_ | refine awp_ret ?_ | refine go_split (fun _h => ?_) (fun _h => ?_)) <;> try simp (maxSteps := 4000000) only [go_sem, seval])
    | (intro _h)
    | (refine awp_block ?_)
    | (refine awp_scope ?_)
    | (refine cond_b (fun _h => ?_) (fun _h => ?_))
    | (show heapOK _ _ = true; kernel_rfl)
    | (show heapOK2 _ _ = true; kernel_rfl)
    | (omega)))
  (refine awp_adT 7 3 1 rfl ?_; simp only [adT, lset, hset, List.length_cons, List.length_nil, Nat.reduceAdd])
  (refine awp_adT 8 3 1 rfl ?_; simp only [adT, lset, hset, List.length_cons, List.length_nil, Nat.reduceAdd])
  (refine awp_adT 9 3 1 rfl ?_; simp only [adT, lset, hset, List.length_cons, List.length_nil, Nat.reduceAdd])
  refine awp_loopN t.homes.length (fun k => ⟨mkT 87 [(1, slU words), (2, .ptr 0 0 0), (7, .osl 1 k 0 k), (8, .osl 2 k 0 k), (9, .osl 3 k 0 k), (10, .int .i64 t.homes.length), (11, .int .i64 k)], [some (.cells 27 1 0 (townC t)), some (.cells 3 1 k (ints (upTo k))), some (.cells 3 1 k (ints (callsW t words k))), some (.cells 3 1 k (ints (prepsW t words k)))], []⟩) (.le2 ?_) ?_
  · simp only [townC, slH, slL, slU]; simp (maxSteps := 4000000) only [go_sem, seval]
    first | rfl | exact ⟨rfl, rfl⟩ | exact ⟨rfl, rfl, rfl⟩
  · intro k hk
    have r3 : (upTo k).length = k := upTo_length
    have r1k := r1 k
    have r2k := r2 k
    rcases Nat.lt_or_eq_of_le hk with hk1 | hk1
    · have hho := (ht.home k hk1).prep
      have hp1 := pick_c t.clo t.chi words (2 * k) hw (by omega)
      have hp2 := pick_c (t.homes.getD k default).lo (t.homes.getD k default).hi words (2 * k + 1) hw (by omega)
      have ek1 : ((2 * k : Nat) : Int) = 2 * (k : Int) := by omega
      have ek2 : ((2 * k + 1 : Nat) : Int) = 2 * (k : Int) + 1 := by omega
      rw [ek1] at hp1
      rw [ek2] at hp2
      have s1 : ints (upTo k) ++ [.int .i64 (k : Int)] = ints (upTo (k + 1)) := by rw [upTo_succ]; simp [ints_append, ints_cons, ints_nil]
      have s2 : ints (callsW t words k) ++ [.int .i64 (pickV t.clo t.chi words (2 * k))] = ints (callsW t words (k + 1)) := by unfold callsW; rw [tab_succ]; simp [ints_append, ints_cons, ints_nil]
      have s3 : ints (prepsW t words k) ++ [.int .i64 (pickV (t.homes.getD k default).lo (t.homes.getD k default).hi words (2 * k + 1))] = ints (prepsW t words (k + 1)) := by unfold prepsW; rw [tab_succ]; simp [ints_append, ints_cons, ints_nil]
      simp only [slU] at hp1 hp2
      simp only [townC, slH, slL, slU]; simp (maxSteps := 4000000) only [go_sem, seval]
      (repeat' (first
    | ((omega))
    | (refine awp_seqK ?_)
    | (refine kt ?_)
    | (refine And.intro ?_ ?_)
    | ((first | refine awp_region ?_ | refine awp_draw (by kernel_rfl) (by kernel_rfl) ?_ | refine Imp.le2 ?_ | refine awp_label ?_ | refine awp_skip ?_ | refine awp_exit ?_ | refine awp_cd ?_ | refine awp_ret ?_ | refine callK_of (hp1) ?_ | refine callK_of (hp2) ?_ | refine go_split (fun _h => ?_) (fun _h => ?_)) <;> try simp (maxSteps := 4000000) only [go_sem, seval, r1k, r2k, r3, s1, s2, s3])
    | (intro _h)
    | (refine awp_block ?_)
    | (refine awp_scope ?_)
    | (refine cond_b (fun _h => ?_) (fun _h => ?_))
    | (show heapOK _ _ = true; kernel_rfl)
    | (show heapOK2 _ _ = true; kernel_rfl)
    | (omega)))
      all_goals trace_state
    · subst hk1
      simp only [townC, slH, slL, slU]; simp (maxSteps := 4000000) only [go_sem, seval]
      (repeat' (first
    | ((exfalso; omega))
    | (refine awp_seqK ?_)
    | (refine kt ?_)
    | (refine And.intro ?_ ?_)
    | ((first | refine awp_region ?_ | refine awp_draw (by kernel_rfl) (by kernel_rfl) ?_ | refine Imp.le2 ?_ | refine awp_label ?_ | refine awp_skip ?_ | refine awp_exit ?_ | refine awp_cd ?_ | refine awp_ret ?_ | refine go_split (fun _h => ?_) (fun _h => ?_)) <;> try simp (maxSteps := 4000000) only [go_sem, seval])
    | (intro _h)
    | (refine awp_block ?_)
    | (refine awp_scope ?_)
    | (refine cond_b (fun _h => ?_) (fun _h => ?_))
    | (show heapOK _ _ = true; kernel_rfl)
    | (show heapOK2 _ _ = true; kernel_rfl)
    | (omega)))
      have hwo := fun i hi => ordW_ord hw (n := t.homes.length) (by omega) i hi
      refine awp_loopN t.homes.length (fun k => ⟨mkT 87 [(1, slU words), (2, .ptr 0 0 0), (7, .osl 1 t.homes.length 0 t.homes.length), (8, .osl 2 t.homes.length 0 t.homes.length), (9, .osl 3 t.homes.length 0 t.homes.length), (10, .int .i64 t.homes.length), (12, .int .i64 k)], [some (.cells 27 1 0 (townC t)), some (.cells 3 1 t.homes.length (ints (ordW t.homes.length words k))), some (.cells 3 1 t.homes.length (ints (callsW t words t.homes.length))), some (.cells 3 1 t.homes.length (ints (prepsW t words t.homes.length)))], []⟩) (.le2 ?_) ?_
      · simp only [townC, slH, slL, slU, ordW]; simp (maxSteps := 4000000) only [go_sem, seval]
        try (first | rfl | exact ⟨rfl, rfl⟩)
      · intro k hk
        have hok := hwo k hk
        have hol := hok.len
        by_cases h0 : words.length = 0
        · have e0 : (0 < (words.length : Int)) = False := eq_false (by omega)
          have eo : ∀ j, ordW t.homes.length words j = upTo t.homes.length := fun j => by
            induction j with
            | zero => rfl
            | succ j ih => simp only [ordW]; rw [if_pos h0, ih]
          have r3 : (upTo t.homes.length).length = t.homes.length := upTo_length
          simp only [eo]
          simp only [townC, slH, slL, slU]; simp (maxSteps := 4000000) only [go_sem, seval]
          (repeat' (first
    | (refine awp_seqK ?_)
    | (refine kt ?_)
    | (refine And.intro ?_ ?_)
    | ((first | refine awp_region ?_ | refine awp_draw (by kernel_rfl) (by kernel_rfl) ?_ | refine Imp.le2 ?_ | refine awp_label ?_ | refine awp_skip ?_ | refine awp_exit ?_ | refine awp_cd ?_ | refine awp_ret ?_ | refine go_split (fun _h => ?_) (fun _h => ?_)) <;> try simp (maxSteps := 4000000) only [go_sem, seval, e0, decide_false, r1k, r2k, r3])
    | (intro _h)
    | (refine awp_block ?_)
    | (refine awp_scope ?_)
    | (refine cond_b (fun _h => ?_) (fun _h => ?_))
    | (show heapOK _ _ = true; kernel_rfl)
    | (show heapOK2 _ _ = true; kernel_rfl)
    | (omega)))
          all_goals trace_state
        · have e0 : (0 < (words.length : Int)) = True := eq_true (by omega)
          rcases Nat.lt_or_eq_of_le hk with hk1 | hk1
          · have hml : (k + 5) % words.length < words.length := Nat.mod_lt _ (by omega)
            have h1 := hw.at hml
            have em : ((k : Int) + 5).tmod (words.length : Int) = (((k + 5) % words.length : Nat) : Int) := by
              rw [show (k : Int) + 5 = ((k + 5 : Nat) : Int) by omega]; exact tmod_nat
            have hsw := swapK_lt (n := t.homes.length) (i := k) hw h0 (by omega)
            have h2 := Int.tmod_nonneg (t.homes.length : Int) h1.1
            have ek : (words.getD ((k + 5) % words.length) 0).tmod (t.homes.length : Int) = ((swapK t.homes.length words k : Nat) : Int) := by unfold swapK; omega
            have hst : ordW t.homes.length words (k + 1) = swpI (ordW t.homes.length words k) k (swapK t.homes.length words k) := by simp only [ordW]; rw [if_neg h0]
            rw [hst]
            generalize swapK t.homes.length words k = q at *
            generalize ordW t.homes.length words k = O at *
            have hil : (isp O k (O.getD q 0)).length = t.homes.length := by rw [isp_length (by omega)]; exact hol
            simp only [townC, slH, slL, slU, swpI]; simp (maxSteps := 4000000) only [go_sem, seval]
            (repeat' (first
    | ((exfalso; omega))
    | ((omega))
    | (refine awp_seqK ?_)
    | (refine kt ?_)
    | (refine And.intro ?_ ?_)
    | ((first | refine awp_region ?_ | refine awp_draw (by kernel_rfl) (by kernel_rfl) ?_ | refine Imp.le2 ?_ | refine awp_label ?_ | refine awp_skip ?_ | refine awp_exit ?_ | refine awp_cd ?_ | refine awp_ret ?_ | refine go_split (fun _h => ?_) (fun _h => ?_)) <;> try simp (maxSteps := 4000000) only [go_sem, seval, e0, decide_true, em, ek, hol, hil])
    | (intro _h)
    | (refine awp_block ?_)
    | (refine awp_scope ?_)
    | (refine cond_b (fun _h => ?_) (fun _h => ?_))
    | (show heapOK _ _ = true; kernel_rfl)
    | (show heapOK2 _ _ = true; kernel_rfl)
    | (omega)))
            all_goals trace_state
          · subst hk1
            simp only [townC, slH, slL, slU]; simp (maxSteps := 4000000) only [go_sem, seval]
            (repeat' (first
    | ((exfalso; omega))
    | (refine awp_seqK ?_)
    | (refine kt ?_)
    | (refine And.intro ?_ ?_)
    | ((first | refine awp_region ?_ | refine awp_draw (by kernel_rfl) (by kernel_rfl) ?_ | refine Imp.le2 ?_ | refine awp_label ?_ | refine awp_skip ?_ | refine awp_exit ?_ | refine awp_cd ?_ | refine awp_ret ?_ | refine go_split (fun _h => ?_) (fun _h => ?_)) <;> try simp (maxSteps := 4000000) only [go_sem, seval, hol, r1k, r2k])
    | (intro _h)
    | (refine awp_block ?_)
    | (refine awp_scope ?_)
    | (refine cond_b (fun _h => ?_) (fun _h => ?_))
    | (show heapOK _ _ = true; kernel_rfl)
    | (show heapOK2 _ _ = true; kernel_rfl)
    | (omega)))
            all_goals trace_state
end Go.Am

/- Contracts of the away functions: who fails; what statements ask first. -/
namespace Go.Am
open Go.RowKit Go.Proofs
attribute [local irreducible] AWP CallS Kt goK CallK stepK evOps SemF SemY Imp
set_option maxRecDepth 4000
set_option linter.unusedSimpArgs false
set_option linter.unusedVariables false
set_option maxHeartbeats 3200000

def readyB (t : Town) : Bool := thinB t && decide (faultT t = 0)
theorem ready_c (t : Town) : CallS Tryz.prog 4 [.agg (townC t)] (.bool (readyB t)) := by
  have hth := thin_c t
  unfold readyB
  cases hT : thinB t with
  | false =>
    rw [hT] at hth
    simp only [Bool.false_and]
    simp only [townC, slH, slL] at hth ⊢
    (refine callS_of_awp (fun w args => Tryz.call4 ..) Tryz.func4 rfl (fun w0 m0 wz => ?_); simp only [Tryz.ntmps4, Tryz.results4, initT, junks, homeC, hallC, slH, slL, townC, sl, List.toList_toArray, List.cons_append, List.nil_append, List.length_cons, List.length_nil, Nat.reduceAdd, Nat.reduceSub])
    (repeat' (first
    | (refine awp_seqK ?_)
    | (refine kt ?_)
    | (refine And.intro ?_ ?_)
    | ((first | refine awp_region ?_ | refine awp_draw (by kernel_rfl) (by kernel_rfl) ?_ | refine Imp.le2 ?_ | refine awp_label ?_ | refine awp_skip ?_ | refine awp_exit ?_ | refine awp_cd ?_ | refine awp_ret ?_ | refine callK_of (hth) ?_ | refine go_split (fun _h => ?_) (fun _h => ?_)) <;> try simp (maxSteps := 4000000) only [go_sem, seval])
    | (intro _h)
    | (refine awp_block ?_)
    | (refine awp_scope ?_)
    | (refine cond_b (fun _h => ?_) (fun _h => ?_))
    | (show heapOK _ _ = true; kernel_rfl)
    | (show heapOK2 _ _ = true; kernel_rfl)
    | (omega)))
  | true =>
    rw [hT] at hth
    have hfa := fault_c t (thinB_ok hT).1
    simp only [Bool.true_and]
    generalize faultT t = e at *
    simp only [townC, slH, slL] at hth hfa ⊢
    (refine callS_of_awp (fun w args => Tryz.call4 ..) Tryz.func4 rfl (fun w0 m0 wz => ?_); simp only [Tryz.ntmps4, Tryz.results4, initT, junks, homeC, hallC, slH, slL, townC, sl, List.toList_toArray, List.cons_append, List.nil_append, List.length_cons, List.length_nil, Nat.reduceAdd, Nat.reduceSub])
    (repeat' (first
    | (refine awp_seqK ?_)
    | (refine kt ?_)
    | (refine And.intro ?_ ?_)
    | ((first | refine awp_region ?_ | refine awp_draw (by kernel_rfl) (by kernel_rfl) ?_ | refine Imp.le2 ?_ | refine awp_label ?_ | refine awp_skip ?_ | refine awp_exit ?_ | refine awp_cd ?_ | refine awp_ret ?_ | refine callK_of (hth) ?_ | refine callK_of (hfa) ?_ | refine go_split (fun _h => ?_) (fun _h => ?_)) <;> try simp (maxSteps := 4000000) only [go_sem, seval])
    | (intro _h)
    | (refine awp_block ?_)
    | (refine awp_scope ?_)
    | (refine cond_b (fun _h => ?_) (fun _h => ?_))
    | (show heapOK _ _ = true; kernel_rfl)
    | (show heapOK2 _ _ = true; kernel_rfl)
    | (omega)))
    all_goals first | exact (decide_eq_true ‹_›).symm | exact (decide_eq_false ‹_›).symm | exact decide_eq_true ‹_› | exact decide_eq_false ‹_› | trace_state
end Go.Am

/- Plain words: in the order of calls all are there in time; if it is late, somebody is late in any order. No program is in sight. -/
namespace Go.Am
open Go.RowKit Go.Proofs
set_option linter.unusedSimpArgs false
set_option linter.unusedVariables false

theorem getD_inj {l : List Int} (hn : l.Nodup) {i j : Nat} (hi : i < l.length) (hj : j < l.length) (h : l.getD i 0 = l.getD j 0) : i = j := by
  have h1 := List.pairwise_iff_getElem.1 hn
  have e : l[i] = l[j] := by simpa [List.getD_eq_getElem?_getD, hi, hj] using h
  rcases Nat.lt_trichotomy i j with h2 | h2 | h2
  · exact absurd e (h1 i j hi hj h2)
  · exact h2
  · exact absurd e.symm (h1 j i hj hi h2)
theorem gD_take {l : List Int} {k j : Nat} (h : j < k) : (l.take k).getD j 0 = l.getD j 0 := by
  simp [List.getD_eq_getElem?_getD, List.getElem?_take, h]
theorem nodup_sub : ∀ (l r : List Int), l.Nodup → (∀ x ∈ l, x ∈ r) → l.length ≤ r.length
  | [], _, _, _ => Nat.zero_le _
  | x :: l, r, hn, hs => by
    rw [List.nodup_cons] at hn
    have hx := hs x List.mem_cons_self
    have := nodup_sub l (r.erase x) hn.2 fun y hy => (List.mem_erase_of_ne (fun e => hn.1 (by subst e; exact hy))).2 (hs y (List.mem_cons_of_mem _ hy))
    rw [List.length_erase_of_mem hx] at this
    have := List.length_pos_of_mem hx
    rw [List.length_cons]; omega
theorem thOut_at {t : Town} {W calls preps : List Int} (ho : Ord t.homes.length W) : ∀ k, k ≤ W.length → ∀ p, p < k → (thOut t W calls preps k).getD (W.getD p 0).toNat 0 = thNow W calls (p + 1) + preps.getD (W.getD p 0).toNat 0 + (t.homes.getD (W.getD p 0).toNat default).walk
  | 0, _, p, h => by omega
  | k + 1, hk, p, h => by
    have hl := thOut_length (t := t) (calls := calls) (preps := preps) ho k (by omega)
    have h2 := ho.at (k := k) (by omega)
    have h3 := ho.at (k := p) (by omega)
    simp only [thOut]
    rw [isp_getD (by omega)]
    split
    · rename_i e
      have : p = k := getD_inj ho.once (by omega) (by omega) (by omega)
      subst this; rfl
    · rename_i e
      refine thOut_at ho k (by omega) p ?_
      rcases Nat.lt_or_eq_of_le (Nat.le_of_lt_succ h) with h4 | h4
      · exact h4
      · subst h4; exact absurd rfl e
theorem thNow_up {t : Town} {W calls : List Int} (ho : Ord t.homes.length W) (hc : ∀ i, i < t.homes.length → t.clo ≤ calls.getD i 0 ∧ calls.getD i 0 ≤ t.chi) : ∀ k, k ≤ W.length → thNow W calls k ≤ k * t.chi
  | 0, _ => by simp [thNow]
  | k + 1, h => by
    have ih := thNow_up ho hc k (by omega)
    have h2 := ho.at (k := k) (by omega)
    have h3 := hc (W.getD k 0).toNat (by omega)
    simp only [thNow]
    rw [Int.natCast_succ, Int.add_mul, Int.one_mul]; omega
theorem thNow_eq {t : Town} {W calls : List Int} (ho : Ord t.homes.length W) (hc : ∀ i, i < t.homes.length → calls.getD i 0 = t.chi) : ∀ k, k ≤ W.length → thNow W calls k = k * t.chi
  | 0, _ => by simp [thNow]
  | k + 1, h => by
    have ih := thNow_eq ho hc k (by omega)
    have h2 := ho.at (k := k) (by omega)
    have h3 := hc (W.getD k 0).toNat (by omega)
    simp only [thNow]
    rw [Int.natCast_succ, Int.add_mul, Int.one_mul]; omega
theorem thNow_in {t : Town} {W calls : List Int} (ht : TownOK t) (ho : Ord t.homes.length W) (hc : ∀ i, i < t.homes.length → t.clo ≤ calls.getD i 0 ∧ calls.getD i 0 ≤ t.chi) : ∀ k, k ≤ W.length → 0 ≤ thNow W calls k ∧ thNow W calls k ≤ 60 * k
  | 0, _ => by simp [thNow]
  | k + 1, h => by
    have ih := thNow_in ht ho hc k (by omega)
    have h2 := ho.at (k := k) (by omega)
    have h3 := hc (W.getD k 0).toNat (by omega)
    have h4 := ht.call
    simp only [thNow]
    omega
theorem thOut_in {t : Town} {W calls preps : List Int} (ht : TownOK t) (ho : Ord t.homes.length W) (hm : Tim t calls preps) : ∀ k, k ≤ W.length → ∀ h, h < t.homes.length → 0 ≤ (thOut t W calls preps k).getD h 0 ∧ (thOut t W calls preps k).getD h 0 ≤ 100000
  | 0, _, h, hh => by
    simp only [thOut, tab_getD hh]; omega
  | k + 1, hk, h, hh => by
    have ih := thOut_in ht ho hm k (by omega) h hh
    have hl := thOut_length (t := t) (calls := calls) (preps := preps) ho k (by omega)
    have h2 := ho.at (k := k) (by omega)
    have h3 := thNow_in ht ho hm.call (k + 1) hk
    have h4 := hm.prep (W.getD k 0).toNat (by omega)
    have h5 := ht.home (W.getD k 0).toNat (by omega)
    have h6 := h5.prep
    have h7 := h5.walk
    have h8 := ht.homes
    have h9 := ho.len
    simp only [thOut]
    rw [isp_getD (by omega)]
    split
    · omega
    · exact ih
/-! ### The minute by which a home has to be called -/
theorem byN_ge {h : Home} {ls : List Hall} : ∀ k, ∀ j, j < k → fitB h (ls.getD j default) → h.gone - (ls.getD j default).drive - h.hi - h.walk ≤ byN h ls k
  | 0, j, hj, _ => by omega
  | k + 1, j, hj, hf => by
    simp only [byN]
    rcases Nat.lt_or_eq_of_le (Nat.le_of_lt_succ hj) with h1 | h1
    · have := byN_ge k j h1 hf
      split <;> omega
    · subst h1
      rw [if_pos hf]; omega
theorem byN_at {h : Home} {ls : List Hall} : ∀ k, byN h ls k = -1 ∨ ∃ j, j < k ∧ fitB h (ls.getD j default) ∧ byN h ls k = h.gone - (ls.getD j default).drive - h.hi - h.walk
  | 0 => .inl rfl
  | k + 1 => by
    have ih := byN_at (h := h) (ls := ls) k
    simp only [byN]
    split
    · rename_i hf
      by_cases h1 : byN h ls k ≤ h.gone - (ls.getD k default).drive - h.hi - h.walk
      · exact .inr ⟨k, by omega, hf, by omega⟩
      · rcases ih with h2 | ⟨j, h2, h3, h4⟩
        · exact .inl (by omega)
        · exact .inr ⟨j, by omega, h3, by omega⟩
    · rcases ih with h2 | ⟨j, h2, h3, h4⟩
      · exact .inl h2
      · exact .inr ⟨j, by omega, h3, h4⟩
/-- May people who are there at a minute still be in a hall by their Gone? -/
def fineN (t : Town) (v : Int) (h : Nat) : Nat → Bool
  | 0 => false
  | k + 1 => fineN t v h k || (decide (andn (t.homes.getD h default).pets (t.halls.getD k default).pets = 0) && (decide ((t.homes.getD h default).people ≤ (t.halls.getD k default).room) && decide (v + (t.halls.getD k default).drive ≤ (t.homes.getD h default).gone)))
theorem fine_iff {t : Town} {v : Int} {h : Nat} : ∀ k, fineN t v h k = true ↔ ∃ j, j < k ∧ fitB (t.homes.getD h default) (t.halls.getD j default) ∧ v + (t.halls.getD j default).drive ≤ (t.homes.getD h default).gone
  | 0 => ⟨fun h => by simp [fineN] at h, fun ⟨j, h, _⟩ => by omega⟩
  | k + 1 => by
    have ih := fine_iff (t := t) (v := v) (h := h) k
    simp only [fineN, Bool.or_eq_true, Bool.and_eq_true, decide_eq_true_eq]
    rw [ih]
    constructor
    · rintro (⟨j, h1, h2⟩ | ⟨h1, h2, h3⟩)
      · exact ⟨j, by omega, h2⟩
      · exact ⟨k, by omega, ⟨h1, h2⟩, h3⟩
    · rintro ⟨j, h1, h2, h3⟩
      rcases Nat.lt_or_eq_of_le (Nat.le_of_lt_succ h1) with h4 | h4
      · exact .inl ⟨j, h4, h2, h3⟩
      · subst h4; exact .inr ⟨h2.1, h2.2, h3⟩
theorem lateF_at {t : Town} : ∀ (f i : Nat), lateF t f i = 0 ∨ ∃ j, j < i + f ∧ lateF t f i = j + 1 ∧ ((j : Int) + 1) * t.chi > byI t ((ordL t).getD j 0)
  | 0, i => .inl rfl
  | f + 1, i => by
    simp only [lateF]
    split
    · rename_i h; exact .inr ⟨i, by omega, rfl, h⟩
    · rcases lateF_at (t := t) f (i + 1) with h | ⟨j, h1, h2, h3⟩
      · exact .inl h
      · exact .inr ⟨j, by omega, h2, h3⟩
/-- In the order of calls all are in time. -/
theorem early_law {t : Town} (ht : TownOK t) (hl : lateN t = 0) {calls preps : List Int} (hm : Tim t calls preps) {h : Nat} (hh : h < t.homes.length) : fineN t ((thOut t (ordL t) calls preps (ordL t).length).getD h 0) h t.halls.length = true := by
  have ho := ordL_ord (t := t)
  obtain ⟨p, hp, he⟩ := mem_getD (d := 0) (ho.all h hh)
  have ht1 : ((ordL t).getD p 0).toNat = h := by omega
  have hv := thOut_at (calls := calls) (preps := preps) ho _ (Nat.le_refl _) p hp
  have hu := thNow_up ho hm.call (p + 1) (by omega)
  have hpr := hm.prep h hh
  have hc := ht.call
  have hin : ((p : Int) + 1) * t.chi ≤ byI t ((ordL t).getD p 0) := by
    rcases Int.lt_or_le (byI t ((ordL t).getD p 0)) (((p : Int) + 1) * t.chi) with h1 | h1
    · have := (lateF_pos (t := t) t.homes.length 0).1.2 ⟨p, by omega, by have := ho.len; omega, h1⟩
      have e : lateN t = lateF t t.homes.length 0 := rfl
      omega
    · exact h1
  have h0 : 0 ≤ ((p : Int) + 1) * t.chi := Int.mul_nonneg (by omega) (by omega)
  have hb : byI t ((ordL t).getD p 0) = byN (t.homes.getD h default) t.halls t.halls.length := by unfold byI byT; rw [ht1]
  rw [ht1] at hv
  rw [show ((p + 1 : Nat) : Int) = (p : Int) + 1 by omega] at hu
  rw [hb] at hin
  rw [fine_iff]
  rcases byN_at (h := t.homes.getD h default) (ls := t.halls) t.halls.length with h1 | ⟨j, h1, h2, h3⟩
  · omega
  · exact ⟨j, h1, h2, by omega⟩
theorem lateL_mem {t : Town} (hl : (lateN t).toNat ≤ (ordL t).length) {x : Int} : x ∈ lateL t ↔ x ∈ (ordL t).take (lateN t).toNat := by
  unfold lateL
  have e : ordL t = (ordL t).take (lateN t).toNat ++ (ordL t).drop (lateN t).toNat := (List.take_append_drop _ _).symm
  have e2 : ((ordL t).take (lateN t).toNat).length = (lateN t).toNat := by rw [List.length_take]; omega
  have h1 := isort_app (lt := ltI) (l := (ordL t).take (lateN t).toNat) (r := (ordL t).drop (lateN t).toNat) (lateN t).toNat (by omega)
  rw [← e] at h1
  have h2 := isort_perm (lt := ltI) (l := (ordL t).take (lateN t).toNat) (lateN t).toNat (by omega)
  rw [h1, List.take_append_of_le_length (by rw [h2.length_eq]; omega), List.take_of_length_le (by rw [h2.length_eq]; omega)]
  exact h2.mem_iff
/-- If it is late, somebody is late in any order, if all takes as long as it may. -/
theorem late_law {t : Town} (ht : TownOK t) (hl : lateN t ≠ 0) {W calls preps : List Int} (ho : Ord t.homes.length W) (hc : ∀ i, i < t.homes.length → calls.getD i 0 = t.chi) (hp : ∀ i, i < t.homes.length → preps.getD i 0 = (t.homes.getD i default).hi) :
    ∃ h : Nat, h < t.homes.length ∧ (h : Int) ∈ lateL t ∧ fineN t ((thOut t W calls preps W.length).getD h 0) h t.halls.length = false := by
  have hO := ordL_ord (t := t)
  have hol := hO.len
  obtain ⟨m, hm1, hm2, hm3⟩ : ∃ j, j < t.homes.length ∧ lateN t = j + 1 ∧ ((j : Int) + 1) * t.chi > byI t ((ordL t).getD j 0) := by
    rcases lateF_at (t := t) t.homes.length 0 with h | ⟨j, h1, h2, h3⟩
    · exact absurd h hl
    · exact ⟨j, by omega, h2, h3⟩
  have em : (lateN t).toNat = m + 1 := by omega
  obtain ⟨p, hpl, hpm, hmem⟩ : ∃ p, p < W.length ∧ m ≤ p ∧ W.getD p 0 ∈ (ordL t).take (m + 1) := by
    apply Classical.byContradiction
    intro hno
    have hsub : ∀ x ∈ (ordL t).take (m + 1), x ∈ W.take m := fun x hx => by
      have hxi := hO.inn x (List.mem_of_mem_take hx)
      have hxW := ho.all x.toNat (by omega)
      rw [show ((x.toNat : Nat) : Int) = x by omega] at hxW
      obtain ⟨p, hp1, hp2⟩ := mem_getD (d := 0) hxW
      rcases Nat.lt_or_ge p m with h1 | h1
      · have : (W.take m).getD p 0 ∈ W.take m := getD_mem (by rw [List.length_take]; omega)
        rw [gD_take h1, hp2] at this
        exact this
      · exact absurd ⟨p, hp1, h1, by rw [hp2]; exact hx⟩ hno
    have := nodup_sub _ _ (hO.once.sublist (List.take_sublist _ _)) hsub
    rw [List.length_take, List.length_take] at this
    omega
  have hx := ho.at (k := p) hpl
  obtain ⟨q, hq1, hq2⟩ := mem_getD (d := 0) hmem
  rw [List.length_take] at hq1
  have hq1' : q < m + 1 := by omega
  rw [gD_take hq1'] at hq2
  have hsort := isort_sorted (key := byI t) (L := upTo t.homes.length) t.homes.length (by rw [upTo_length]; omega)
  have eO : isort (fun x y => decide (byI t x < byI t y)) (upTo t.homes.length) t.homes.length = ordL t := rfl
  rw [eO] at hsort
  have hle : byI t (W.getD p 0) ≤ byI t ((ordL t).getD m 0) := by
    rw [← hq2]
    rcases Nat.lt_or_eq_of_le (Nat.le_of_lt_succ hq1') with h1 | h1
    · exact hsort q m h1 (by omega)
    · subst h1; exact Int.le_refl _
  have hv := thOut_at (calls := calls) (preps := preps) ho _ (Nat.le_refl _) p hpl
  have hn := thNow_eq ho hc (p + 1) (by omega)
  have hch := ht.call
  have hmul : ((m : Int) + 1) * t.chi ≤ ((p : Int) + 1) * t.chi := Int.mul_le_mul_of_nonneg_right (by omega) (by omega)
  rw [show ((p + 1 : Nat) : Int) = (p : Int) + 1 by omega] at hn
  have hpr := hp (W.getD p 0).toNat (by omega)
  have hb : byI t (W.getD p 0) = byN (t.homes.getD (W.getD p 0).toNat default) t.halls t.halls.length := rfl
  refine ⟨(W.getD p 0).toNat, by omega, ?_, ?_⟩
  · rw [lateL_mem (by omega), em, show (((W.getD p 0).toNat : Nat) : Int) = W.getD p 0 by omega]
    exact hmem
  · cases hf : fineN t ((thOut t W calls preps W.length).getD (W.getD p 0).toNat 0) (W.getD p 0).toNat t.halls.length
    · rfl
    · rw [fine_iff] at hf
      obtain ⟨j, h1, h2, h3⟩ := hf
      have := byN_ge (h := t.homes.getD (W.getD p 0).toNat default) (ls := t.halls) t.halls.length j h1 h2
      omega
end Go.Am

/- An order of calls with times, by words, as lists of their own. -/
namespace Go.Am
open Go.RowKit Go.Proofs
attribute [local irreducible] AWP CallS Kt goK CallK stepK evOps SemF SemY Imp
set_option maxRecDepth 4000
set_option linter.unusedSimpArgs false
set_option linter.unusedVariables false
set_option maxHeartbeats 3200000

theorem called_f (t : Town) (words : List Int) (ht : TownOK t) (hw : WordsOK words) : SemF Tryz.prog 8 [.agg (townC t), slU words] [] (.tup [.osl 1 t.homes.length 0 t.homes.length, .osl 2 t.homes.length 0 t.homes.length, .osl 3 t.homes.length 0 t.homes.length]) [none, some (.cells 3 1 t.homes.length (ints (ordW t.homes.length words t.homes.length))), some (.cells 3 1 t.homes.length (ints (callsW t words t.homes.length))), some (.cells 3 1 t.homes.length (ints (prepsW t words t.homes.length)))] := by
  obtain ⟨hh1, hh2⟩ := ht.homes
  have hc := ht.call
  have hwl := hw.1
  have hcl := fun k => tab_length (n := k) (f := fun i => pickV t.clo t.chi words (2 * i))
  have hpl := fun k => tab_length (n := k) (f := fun i => pickV (t.homes.getD i default).lo (t.homes.getD i default).hi words (2 * i + 1))
  have r1 : ∀ k, (callsW t words k).length = k := hcl
  have r2 : ∀ k, (prepsW t words k).length = k := hpl
  (refine semF_of_awp (ys := [.osl 1 t.homes.length 0 t.homes.length, .osl 2 t.homes.length 0 t.homes.length, .osl 3 t.homes.length 0 t.homes.length]) (fun w args => Tryz.call8 ..) Tryz.func8 rfl (fun w0 m0 wz => ?_); simp only [Tryz.ntmps8, Tryz.results8, initT, junks, homeC, hallC, slH, slL, townC, sl, List.toList_toArray, List.cons_append, List.nil_append, List.length_cons, List.length_nil, Nat.reduceAdd, Nat.reduceSub])
  (repeat' (first
    | (refine awp_seqK ?_)
    | (refine kt ?_)
    | (refine And.intro ?_ ?_)
    | ((first | refine awp_region ?_ | refine awp_draw (by kernel_rfl) (by kernel_rfl) ?_ | refine Imp.le2 ?_ | refine awp_label ?_ | refine awp_skip ?_ | refine awp_exit ?_ | refine awp_cd ?_ | refine awp_ret ?_ | refine go_split (fun _h => ?_) (fun _h => ?_)) <;> try simp (maxSteps := 4000000) only [go_sem, seval])
    | (intro _h)
    | (refine awp_block ?_)
    | (refine awp_scope ?_)
    | (refine cond_b (fun _h => ?_) (fun _h => ?_))
    | (show heapOK _ _ = true; kernel_rfl)
    | (show heapOK2 _ _ = true; kernel_rfl)
    | (omega)))
  (refine awp_adT 7 3 1 rfl ?_; simp only [adT, lset, hset, List.length_cons, List.length_nil, Nat.reduceAdd])
  (refine awp_adT 8 3 1 rfl ?_; simp only [adT, lset, hset, List.length_cons, List.length_nil, Nat.reduceAdd])
  (refine awp_adT 9 3 1 rfl ?_; simp only [adT, lset, hset, List.length_cons, List.length_nil, Nat.reduceAdd])
  refine awp_loopN t.homes.length (fun k => ⟨mkT 87 [(1, slU words), (2, .ptr 0 0 0), (7, .osl 1 k 0 k), (8, .osl 2 k 0 k), (9, .osl 3 k 0 k), (10, .int .i64 t.homes.length), (11, .int .i64 k)], [some (.cells 27 1 0 (townC t)), some (.cells 3 1 k (ints (upTo k))), some (.cells 3 1 k (ints (callsW t words k))), some (.cells 3 1 k (ints (prepsW t words k)))], []⟩) (.le2 ?_) ?_
  · simp only [townC, slH, slL, slU]; simp (maxSteps := 4000000) only [go_sem, seval]
    first | rfl | exact ⟨rfl, rfl⟩ | exact ⟨rfl, rfl, rfl⟩
  · intro k hk
    have r3 : (upTo k).length = k := upTo_length
    have r1k := r1 k
    have r2k := r2 k
    rcases Nat.lt_or_eq_of_le hk with hk1 | hk1
    · have hho := (ht.home k hk1).prep
      have hp1 := pick_c t.clo t.chi words (2 * k) hw (by omega)
      have hp2 := pick_c (t.homes.getD k default).lo (t.homes.getD k default).hi words (2 * k + 1) hw (by omega)
      have ek1 : ((2 * k : Nat) : Int) = 2 * (k : Int) := by omega
      have ek2 : ((2 * k + 1 : Nat) : Int) = 2 * (k : Int) + 1 := by omega
      rw [ek1] at hp1
      rw [ek2] at hp2
      have s1 : ints (upTo k) ++ [.int .i64 (k : Int)] = ints (upTo (k + 1)) := by rw [upTo_succ]; simp [ints_append, ints_cons, ints_nil]
      have s2 : ints (callsW t words k) ++ [.int .i64 (pickV t.clo t.chi words (2 * k))] = ints (callsW t words (k + 1)) := by unfold callsW; rw [tab_succ]; simp [ints_append, ints_cons, ints_nil]
      have s3 : ints (prepsW t words k) ++ [.int .i64 (pickV (t.homes.getD k default).lo (t.homes.getD k default).hi words (2 * k + 1))] = ints (prepsW t words (k + 1)) := by unfold prepsW; rw [tab_succ]; simp [ints_append, ints_cons, ints_nil]
      simp only [slU] at hp1 hp2
      simp only [townC, slH, slL, slU]; simp (maxSteps := 4000000) only [go_sem, seval]
      (repeat' (first
    | ((omega))
    | (refine awp_seqK ?_)
    | (refine kt ?_)
    | (refine And.intro ?_ ?_)
    | ((first | refine awp_region ?_ | refine awp_draw (by kernel_rfl) (by kernel_rfl) ?_ | refine Imp.le2 ?_ | refine awp_label ?_ | refine awp_skip ?_ | refine awp_exit ?_ | refine awp_cd ?_ | refine awp_ret ?_ | refine callK_of (hp1) ?_ | refine callK_of (hp2) ?_ | refine go_split (fun _h => ?_) (fun _h => ?_)) <;> try simp (maxSteps := 4000000) only [go_sem, seval, r1k, r2k, r3, s1, s2, s3])
    | (intro _h)
    | (refine awp_block ?_)
    | (refine awp_scope ?_)
    | (refine cond_b (fun _h => ?_) (fun _h => ?_))
    | (show heapOK _ _ = true; kernel_rfl)
    | (show heapOK2 _ _ = true; kernel_rfl)
    | (omega)))
      all_goals trace_state
    · subst hk1
      simp only [townC, slH, slL, slU]; simp (maxSteps := 4000000) only [go_sem, seval]
      (repeat' (first
    | ((exfalso; omega))
    | (refine awp_seqK ?_)
    | (refine kt ?_)
    | (refine And.intro ?_ ?_)
    | ((first | refine awp_region ?_ | refine awp_draw (by kernel_rfl) (by kernel_rfl) ?_ | refine Imp.le2 ?_ | refine awp_label ?_ | refine awp_skip ?_ | refine awp_exit ?_ | refine awp_cd ?_ | refine awp_ret ?_ | refine go_split (fun _h => ?_) (fun _h => ?_)) <;> try simp (maxSteps := 4000000) only [go_sem, seval])
    | (intro _h)
    | (refine awp_block ?_)
    | (refine awp_scope ?_)
    | (refine cond_b (fun _h => ?_) (fun _h => ?_))
    | (show heapOK _ _ = true; kernel_rfl)
    | (show heapOK2 _ _ = true; kernel_rfl)
    | (omega)))
      have hwo := fun i hi => ordW_ord hw (n := t.homes.length) (by omega) i hi
      refine awp_loopN t.homes.length (fun k => ⟨mkT 87 [(1, slU words), (2, .ptr 0 0 0), (7, .osl 1 t.homes.length 0 t.homes.length), (8, .osl 2 t.homes.length 0 t.homes.length), (9, .osl 3 t.homes.length 0 t.homes.length), (10, .int .i64 t.homes.length), (12, .int .i64 k)], [some (.cells 27 1 0 (townC t)), some (.cells 3 1 t.homes.length (ints (ordW t.homes.length words k))), some (.cells 3 1 t.homes.length (ints (callsW t words t.homes.length))), some (.cells 3 1 t.homes.length (ints (prepsW t words t.homes.length)))], []⟩) (.le2 ?_) ?_
      · simp only [townC, slH, slL, slU, ordW]; simp (maxSteps := 4000000) only [go_sem, seval]
        try (first | rfl | exact ⟨rfl, rfl⟩)
      · intro k hk
        have hok := hwo k hk
        have hol := hok.len
        by_cases h0 : words.length = 0
        · have e0 : (0 < (words.length : Int)) = False := eq_false (by omega)
          have eo : ∀ j, ordW t.homes.length words j = upTo t.homes.length := fun j => by
            induction j with
            | zero => rfl
            | succ j ih => simp only [ordW]; rw [if_pos h0, ih]
          have r3 : (upTo t.homes.length).length = t.homes.length := upTo_length
          simp only [eo]
          simp only [townC, slH, slL, slU]; simp (maxSteps := 4000000) only [go_sem, seval]
          (repeat' (first
    | (refine awp_seqK ?_)
    | (refine kt ?_)
    | (refine And.intro ?_ ?_)
    | ((first | refine awp_region ?_ | refine awp_draw (by kernel_rfl) (by kernel_rfl) ?_ | refine Imp.le2 ?_ | refine awp_label ?_ | refine awp_skip ?_ | refine awp_exit ?_ | refine awp_cd ?_ | refine awp_ret ?_ | refine go_split (fun _h => ?_) (fun _h => ?_)) <;> try simp (maxSteps := 4000000) only [go_sem, seval, e0, decide_false, r1k, r2k, r3])
    | (intro _h)
    | (refine awp_block ?_)
    | (refine awp_scope ?_)
    | (refine cond_b (fun _h => ?_) (fun _h => ?_))
    | (show heapOK _ _ = true; kernel_rfl)
    | (show heapOK2 _ _ = true; kernel_rfl)
    | (omega)))
          all_goals trace_state
        · have e0 : (0 < (words.length : Int)) = True := eq_true (by omega)
          rcases Nat.lt_or_eq_of_le hk with hk1 | hk1
          · have hml : (k + 5) % words.length < words.length := Nat.mod_lt _ (by omega)
            have h1 := hw.at hml
            have em : ((k : Int) + 5).tmod (words.length : Int) = (((k + 5) % words.length : Nat) : Int) := by
              rw [show (k : Int) + 5 = ((k + 5 : Nat) : Int) by omega]; exact tmod_nat
            have hsw := swapK_lt (n := t.homes.length) (i := k) hw h0 (by omega)
            have h2 := Int.tmod_nonneg (t.homes.length : Int) h1.1
            have ek : (words.getD ((k + 5) % words.length) 0).tmod (t.homes.length : Int) = ((swapK t.homes.length words k : Nat) : Int) := by unfold swapK; omega
            have hst : ordW t.homes.length words (k + 1) = swpI (ordW t.homes.length words k) k (swapK t.homes.length words k) := by simp only [ordW]; rw [if_neg h0]
            rw [hst]
            generalize swapK t.homes.length words k = q at *
            generalize ordW t.homes.length words k = O at *
            have hil : (isp O k (O.getD q 0)).length = t.homes.length := by rw [isp_length (by omega)]; exact hol
            simp only [townC, slH, slL, slU, swpI]; simp (maxSteps := 4000000) only [go_sem, seval]
            (repeat' (first
    | ((exfalso; omega))
    | ((omega))
    | (refine awp_seqK ?_)
    | (refine kt ?_)
    | (refine And.intro ?_ ?_)
    | ((first | refine awp_region ?_ | refine awp_draw (by kernel_rfl) (by kernel_rfl) ?_ | refine Imp.le2 ?_ | refine awp_label ?_ | refine awp_skip ?_ | refine awp_exit ?_ | refine awp_cd ?_ | refine awp_ret ?_ | refine go_split (fun _h => ?_) (fun _h => ?_)) <;> try simp (maxSteps := 4000000) only [go_sem, seval, e0, decide_true, em, ek, hol, hil])
    | (intro _h)
    | (refine awp_block ?_)
    | (refine awp_scope ?_)
    | (refine cond_b (fun _h => ?_) (fun _h => ?_))
    | (show heapOK _ _ = true; kernel_rfl)
    | (show heapOK2 _ _ = true; kernel_rfl)
    | (omega)))
            all_goals trace_state
          · subst hk1
            simp only [townC, slH, slL, slU]; simp (maxSteps := 4000000) only [go_sem, seval]
            (repeat' (first
    | ((exfalso; omega))
    | (refine awp_seqK ?_)
    | (refine kt ?_)
    | (refine And.intro ?_ ?_)
    | ((first | refine awp_region ?_ | refine awp_draw (by kernel_rfl) (by kernel_rfl) ?_ | refine Imp.le2 ?_ | refine awp_label ?_ | refine awp_skip ?_ | refine awp_exit ?_ | refine awp_cd ?_ | refine awp_ret ?_ | refine go_split (fun _h => ?_) (fun _h => ?_)) <;> try simp (maxSteps := 4000000) only [go_sem, seval, hol, r1k, r2k])
    | (intro _h)
    | (refine awp_block ?_)
    | (refine awp_scope ?_)
    | (refine cond_b (fun _h => ?_) (fun _h => ?_))
    | (show heapOK _ _ = true; kernel_rfl)
    | (show heapOK2 _ _ = true; kernel_rfl)
    | (omega)))
            all_goals trace_state
end Go.Am
