/- Parts TlB, TlC of the proof, one behind the other. No statement is proved here. -/
import Derived.Test.YtghlpjfpfjpddaaD4
import Derived.Test.YtghlpjfpfjpddaaD1
import Derived.Test.YtghlpjfpfjpddaaD7
import Derived.Test.YtghlpjfpfjpddaaDb
/- Contracts of the away functions: an order of calls with times, by words. -/
namespace Go.Am
open Go.RowKit Go.Proofs
attribute [local irreducible] AWP CallS Kt goK CallK stepK evOps SemF SemY Imp
set_option maxRecDepth 4000
set_option linter.unusedSimpArgs false
set_option linter.unusedVariables false
set_option maxHeartbeats 3200000

theorem tmod_nat {a b : Nat} : ((a : Int)).tmod (b : Int) = ((a % b : Nat) : Int) := rfl
/-- Words that are told. -/
def WordsOK (words : List Int) : Prop := words.length ≤ 9223372036854775807 ∧ ∀ a ∈ words, 0 ≤ a ∧ a ≤ 65535
theorem WordsOK.at {words : List Int} (h : WordsOK words) {i : Nat} (hi : i < words.length) : 0 ≤ words.getD i 0 ∧ words.getD i 0 ≤ 65535 := h.2 _ (getD_mem hi)
def pickV (lo hi : Int) (words : List Int) (i : Nat) : Int :=
  if words.length = 0 then hi else if (words.getD (i % words.length) 0).tmod 4 = 0 then lo else if (words.getD (i % words.length) 0).tmod 4 = 1 then hi else lo + (words.getD (i % words.length) 0).tmod (hi - lo + 1)
theorem pickV_bd {lo hi : Int} {words : List Int} {i : Nat} (hw : WordsOK words) (h : lo ≤ hi) : lo ≤ pickV lo hi words i ∧ pickV lo hi words i ≤ hi := by
  unfold pickV
  split
  · omega
  · rename_i h0
    have h1 := hw.at (i := i % words.length) (Nat.mod_lt _ (by omega))
    split
    · omega
    · split
      · omega
      · have h2 := Int.tmod_nonneg (hi - lo + 1) h1.1
        have h3 := Int.tmod_lt_of_pos (words.getD (i % words.length) 0) (show 0 < hi - lo + 1 by omega)
        omega
theorem pick_c (lo hi : Int) (words : List Int) (i : Nat) (hw : WordsOK words) (h : 0 ≤ lo ∧ lo ≤ hi ∧ hi ≤ 1000) : CallS Try.prog 64 [.agg [.int .i64 lo, .int .i64 hi], slU words, .int .i64 i] (.int .i64 (pickV lo hi words i)) := by
  unfold pickV
  simp only [slU]
  by_cases h0 : words.length = 0
  · rw [if_pos h0]
    have e0 : ((words.length : Int) = 0) = True := eq_true (by omega)
    (refine callS_of_awp (fun w args => Try.call64 ..) Try.func64 rfl (fun w0 m0 wz => ?_); simp only [Try.ntmps64, Try.results64, initT, junks, homeC, hallC, slH, slL, townC, sl, List.toList_toArray, List.cons_append, List.nil_append, List.length_cons, List.length_nil, Nat.reduceAdd, Nat.reduceSub])
    (repeat' (first
    | (refine awp_seqK ?_)
    | (refine kt ?_)
    | (refine And.intro ?_ ?_)
    | ((first | refine awp_region ?_ | refine awp_draw (by kernel_rfl) (by kernel_rfl) ?_ | refine Imp.le2 ?_ | refine awp_label ?_ | refine awp_skip ?_ | refine awp_exit ?_ | refine awp_cd ?_ | refine awp_ret ?_ | refine go_split (fun _h => ?_) (fun _h => ?_)) <;> try simp (maxSteps := 4000000) only [go_sem, seval, e0, decide_true])
    | (intro _h)
    | (refine awp_block ?_)
    | (refine awp_scope ?_)
    | (refine cond_b (fun _h => ?_) (fun _h => ?_))
    | (show heapOK _ _ = true; kernel_rfl)
    | (show heapOK2 _ _ = true; kernel_rfl)
    | (omega)))
  · rw [if_neg h0]
    have e0 : ((words.length : Int) = 0) = False := eq_false (by omega)
    have hml : i % words.length < words.length := Nat.mod_lt _ (by omega)
    have h1 := hw.at hml
    have em : ((i : Int)).tmod (words.length : Int) = ((i % words.length : Nat) : Int) := tmod_nat
    have h3 := Int.tmod_lt_of_pos (words.getD (i % words.length) 0) (show 0 < hi - lo + 1 by omega)
    have h2 := Int.tmod_nonneg (hi - lo + 1) h1.1
    (refine callS_of_awp (fun w args => Try.call64 ..) Try.func64 rfl (fun w0 m0 wz => ?_); simp only [Try.ntmps64, Try.results64, initT, junks, homeC, hallC, slH, slL, townC, sl, List.toList_toArray, List.cons_append, List.nil_append, List.length_cons, List.length_nil, Nat.reduceAdd, Nat.reduceSub])
    (repeat' (first
    | (refine awp_seqK ?_)
    | (refine kt ?_)
    | (refine And.intro ?_ ?_)
    | ((first | refine awp_region ?_ | refine awp_draw (by kernel_rfl) (by kernel_rfl) ?_ | refine Imp.le2 ?_ | refine awp_label ?_ | refine awp_skip ?_ | refine awp_exit ?_ | refine awp_cd ?_ | refine awp_ret ?_ | refine go_split (fun _h => ?_) (fun _h => ?_)) <;> try simp (maxSteps := 4000000) only [go_sem, seval, e0, decide_false, em])
    | (intro _h)
    | (refine awp_block ?_)
    | (refine awp_scope ?_)
    | (refine cond_b (fun _h => ?_) (fun _h => ?_))
    | (show heapOK _ _ = true; kernel_rfl)
    | (show heapOK2 _ _ = true; kernel_rfl)
    | (omega)))
    all_goals first
      | omega
      | (rw [if_pos ‹_›])
      | (rw [if_neg ‹_›, if_pos ‹_›])
      | (rw [if_neg ‹_›, if_neg ‹_›])
      | trace_state

/-- Two elements change places. -/
def swpI (l : List Int) (i k : Nat) : List Int := isp (isp l i (l.getD k 0)) k (l.getD i 0)
theorem swpI_length {l : List Int} {i k : Nat} (hi : i < l.length) (hk : k < l.length) : (swpI l i k).length = l.length := by
  unfold swpI
  rw [isp_length (by rw [isp_length hi]; exact hk), isp_length hi]
theorem swpI_getD {l : List Int} {i k j : Nat} (hi : i < l.length) (hk : k < l.length) : (swpI l i k).getD j 0 = l.getD (if j = k then i else if j = i then k else j) 0 := by
  unfold swpI
  rw [isp_getD (by rw [isp_length hi]; exact hk)]
  by_cases e : j = k
  · rw [if_pos e, if_pos e]
  · rw [if_neg e, if_neg e, isp_getD hi]
    by_cases e2 : j = i
    · rw [if_pos e2, if_pos e2]
    · rw [if_neg e2, if_neg e2]
theorem swpI_ord {n : Nat} {l : List Int} (h : Ord n l) {i k : Nat} (hi : i < n) (hk : k < n) : Ord n (swpI l i k) := by
  have hl := h.len
  have hs := swpI_length (l := l) (i := i) (k := k) (by omega) (by omega)
  have hinj : ∀ a b, a < n → b < n → l.getD a 0 = l.getD b 0 → a = b := fun a b ha hb e => by
    rcases Nat.lt_trichotomy a b with h1 | h1 | h1
    · have := List.pairwise_iff_getElem.1 h.once a b (by omega) (by omega) h1
      simp [List.getD_eq_getElem?_getD, show a < l.length by omega, show b < l.length by omega] at e
      exact absurd e this
    · exact h1
    · have := List.pairwise_iff_getElem.1 h.once b a (by omega) (by omega) h1
      simp [List.getD_eq_getElem?_getD, show a < l.length by omega, show b < l.length by omega] at e
      exact absurd e.symm this
  have hs2 : ∀ j, j < n → (if j = k then i else if j = i then k else j) < n := fun j hj => by split <;> (try split) <;> omega
  refine ⟨by omega, fun x hx => ?_, List.pairwise_iff_getElem.2 fun a b ha hb hab e => ?_⟩
  · obtain ⟨j, hj, rfl⟩ := mem_getD (d := 0) hx
    rw [swpI_getD (by omega) (by omega)]
    exact h.at (by have := hs2 j (by omega); omega)
  · have e2 : (swpI l i k).getD a 0 = (swpI l i k).getD b 0 := by
      simp [List.getD_eq_getElem?_getD, ha, hb, e]
    rw [swpI_getD (by omega) (by omega), swpI_getD (by omega) (by omega)] at e2
    have := hinj _ _ (hs2 a (by omega)) (hs2 b (by omega)) e2
    split at this <;> split at this <;> (try split at this) <;> (try split at this) <;> omega
def swapK (n : Nat) (words : List Int) (i : Nat) : Nat := ((words.getD ((i + 5) % words.length) 0).tmod n).toNat
def ordW (n : Nat) (words : List Int) : Nat → List Int
  | 0 => upTo n
  | i + 1 => if words.length = 0 then ordW n words i else swpI (ordW n words i) i (swapK n words i)
theorem upTo_ord {n : Nat} : Ord n (upTo n) := ⟨upTo_length, fun x hx => upTo_mem.1 hx, upTo_nodup⟩
theorem swapK_lt {n : Nat} {words : List Int} {i : Nat} (hw : WordsOK words) (h0 : words.length ≠ 0) (hn : 0 < n) : swapK n words i < n := by
  have h1 := hw.at (i := (i + 5) % words.length) (Nat.mod_lt _ (by omega))
  have h2 := Int.tmod_nonneg (n : Int) h1.1
  have h3 := Int.tmod_lt_of_pos (words.getD ((i + 5) % words.length) 0) (show 0 < (n : Int) by omega)
  unfold swapK; omega
theorem ordW_ord {n : Nat} {words : List Int} (hw : WordsOK words) (hn : 0 < n) : ∀ i, i ≤ n → Ord n (ordW n words i)
  | 0, _ => upTo_ord
  | i + 1, h => by
    have ih := ordW_ord hw hn i (by omega)
    simp only [ordW]
    split
    · exact ih
    · rename_i h0
      exact swpI_ord ih (by omega) (swapK_lt hw h0 hn)
def callsW (t : Town) (words : List Int) (k : Nat) : List Int := tab k fun i => pickV t.clo t.chi words (2 * i)
def prepsW (t : Town) (words : List Int) (k : Nat) : List Int := tab k fun i => pickV (t.homes.getD i default).lo (t.homes.getD i default).hi words (2 * i + 1)
theorem tab_succ {α : Type} {n : Nat} {f : Nat → α} : tab (n + 1) f = tab n f ++ [f n] := by simp [tab, List.range_succ]
theorem timW {t : Town} {words : List Int} (ht : TownOK t) (hw : WordsOK words) : Tim t (callsW t words t.homes.length) (prepsW t words t.homes.length) := by
  refine ⟨tab_length, tab_length, fun i hi => ?_, fun i hi => ?_⟩
  · unfold callsW; rw [tab_getD hi]; exact pickV_bd hw ht.call.2.1
  · unfold prepsW; rw [tab_getD hi]; exact pickV_bd hw (ht.home i hi).prep.2.1
theorem called_c (t : Town) (words : List Int) (ht : TownOK t) (hw : WordsOK words) : CallS Try.prog 37 [.agg (townC t), slU words] (.tup [sl (ordW t.homes.length words t.homes.length), sl (callsW t words t.homes.length), sl (prepsW t words t.homes.length)]) := by
  obtain ⟨hh1, hh2⟩ := ht.homes
  have hc := ht.call
  have hwl := hw.1
  have hcl := fun k => tab_length (n := k) (f := fun i => pickV t.clo t.chi words (2 * i))
  have hpl := fun k => tab_length (n := k) (f := fun i => pickV (t.homes.getD i default).lo (t.homes.getD i default).hi words (2 * i + 1))
  have r1 : ∀ k, (callsW t words k).length = k := hcl
  have r2 : ∀ k, (prepsW t words k).length = k := hpl
  (refine callS_of_awp (fun w args => Try.call37 ..) Try.func37 rfl (fun w0 m0 wz => ?_); simp only [Try.ntmps37, Try.results37, initT, junks, homeC, hallC, slH, slL, townC, sl, List.toList_toArray, List.cons_append, List.nil_append, List.length_cons, List.length_nil, Nat.reduceAdd, Nat.reduceSub])
  (repeat' (first
    | (refine awp_seqK ?_)
    | (refine kt ?_)
    | (refine And.intro ?_ ?_)
    | ((first | refine awp_region ?_ | refine awp_draw (by kernel_rfl) (by kernel_rfl) ?_ | refine Imp.le2 ?_ | refine awp_label ?_ | refine awp_skip ?_ | refine awp_exit ?_ | refine awp_cd ?_ | refine awp_ret ?_ | refine go_split (fun _h => ?_) (fun _h => ?_)) <;> try simp (maxSteps := 4000000) only [go_sem, seval])
    | (intro _h)
    | (refine awp_block ?_)
    | (refine awp_scope ?_)
    | (refine cond_b (fun _h => ?_) (fun _h => ?_))
    | (show heapOK _ _ = true; kernel_rfl)
    | (show heapOK2 _ _ = true; kernel_rfl)
    | (omega)))
  (refine awp_adT 7 3 1 rfl ?_; simp only [adT, lset, hset, List.length_cons, List.length_nil, Nat.reduceAdd])
  (refine awp_adT 8 3 1 rfl ?_; simp only [adT, lset, hset, List.length_cons, List.length_nil, Nat.reduceAdd])
  (refine awp_adT 9 3 1 rfl ?_; simp only [adT, lset, hset, List.length_cons, List.length_nil, Nat.reduceAdd])
  refine awp_loopN t.homes.length (fun k => ⟨mkT 87 [(1, slU words), (2, .ptr 0 0 0), (7, .osl 1 k 0 k), (8, .osl 2 k 0 k), (9, .osl 3 k 0 k), (10, .int .i64 t.homes.length), (11, .int .i64 k)], [some (.cells 27 1 0 (townC t)), some (.cells 3 1 k (ints (upTo k))), some (.cells 3 1 k (ints (callsW t words k))), some (.cells 3 1 k (ints (prepsW t words k)))], []⟩) (.le2 ?_) ?_
  · simp only [townC, slH, slL, slU]; simp (maxSteps := 4000000) only [go_sem, seval]
    first | rfl | exact ⟨rfl, rfl⟩ | exact ⟨rfl, rfl, rfl⟩
  · intro k hk
    have r3 : (upTo k).length = k := upTo_length
    have r1k := r1 k
    have r2k := r2 k
    rcases Nat.lt_or_eq_of_le hk with hk1 | hk1
    · have hho := (ht.home k hk1).prep
      have hp1 := pick_c t.clo t.chi words (2 * k) hw (by omega)
      have hp2 := pick_c (t.homes.getD k default).lo (t.homes.getD k default).hi words (2 * k + 1) hw (by omega)
      have ek1 : ((2 * k : Nat) : Int) = 2 * (k : Int) := by omega
      have ek2 : ((2 * k + 1 : Nat) : Int) = 2 * (k : Int) + 1 := by omega
      rw [ek1] at hp1
      rw [ek2] at hp2
      have s1 : ints (upTo k) ++ [.int .i64 (k : Int)] = ints (upTo (k + 1)) := by rw [upTo_succ]; simp [ints_append, ints_cons, ints_nil]
      have s2 : ints (callsW t words k) ++ [.int .i64 (pickV t.clo t.chi words (2 * k))] = ints (callsW t words (k + 1)) := by unfold callsW; rw [tab_succ]; simp [ints_append, ints_cons, ints_nil]
      have s3 : ints (prepsW t words k) ++ [.int .i64 (pickV (t.homes.getD k default).lo (t.homes.getD k default).hi words (2 * k + 1))] = ints (prepsW t words (k + 1)) := by unfold prepsW; rw [tab_succ]; simp [ints_append, ints_cons, ints_nil]
      simp only [slU] at hp1 hp2
      simp only [townC, slH, slL, slU]; simp (maxSteps := 4000000) only [go_sem, seval]
      (repeat' (first
    | ((omega))
    | (refine awp_seqK ?_)
    | (refine kt ?_)
    | (refine And.intro ?_ ?_)
    | ((first | refine awp_region ?_ | refine awp_draw (by kernel_rfl) (by kernel_rfl) ?_ | refine Imp.le2 ?_ | refine awp_label ?_ | refine awp_skip ?_ | refine awp_exit ?_ | refine awp_cd ?_ | refine awp_ret ?_ | refine callK_of (hp1) ?_ | refine callK_of (hp2) ?_ | refine go_split (fun _h => ?_) (fun _h => ?_)) <;> try simp (maxSteps := 4000000) only [go_sem, seval, r1k, r2k, r3, s1, s2, s3])
    | (intro _h)
    | (refine awp_block ?_)
    | (refine awp_scope ?_)
    | (refine cond_b (fun _h => ?_) (fun _h => ?_))
    | (show heapOK _ _ = true; kernel_rfl)
    | (show heapOK2 _ _ = true; kernel_rfl)
    | (omega)))
      all_goals trace_state
    · subst hk1
      simp only [townC, slH, slL, slU]; simp (maxSteps := 4000000) only [go_sem, seval]
      (repeat' (first
    | ((exfalso; omega))
    | (refine awp_seqK ?_)
    | (refine kt ?_)
    | (refine And.intro ?_ ?_)
    | ((first | refine awp_region ?_ | refine awp_draw (by kernel_rfl) (by kernel_rfl) ?_ | refine Imp.le2 ?_ | refine awp_label ?_ | refine awp_skip ?_ | refine awp_exit ?_ | refine awp_cd ?_ | refine awp_ret ?_ | refine go_split (fun _h => ?_) (fun _h => ?_)) <;> try simp (maxSteps := 4000000) only [go_sem, seval])
    | (intro _h)
    | (refine awp_block ?_)
    | (refine awp_scope ?_)
    | (refine cond_b (fun _h => ?_) (fun _h => ?_))
    | (show heapOK _ _ = true; kernel_rfl)
    | (show heapOK2 _ _ = true; kernel_rfl)
    | (omega)))
      have hwo := fun i hi => ordW_ord hw (n := t.homes.length) (by omega) i hi
      refine awp_loopN t.homes.length (fun k => ⟨mkT 87 [(1, slU words), (2, .ptr 0 0 0), (7, .osl 1 t.homes.length 0 t.homes.length), (8, .osl 2 t.homes.length 0 t.homes.length), (9, .osl 3 t.homes.length 0 t.homes.length), (10, .int .i64 t.homes.length), (12, .int .i64 k)], [some (.cells 27 1 0 (townC t)), some (.cells 3 1 t.homes.length (ints (ordW t.homes.length words k))), some (.cells 3 1 t.homes.length (ints (callsW t words t.homes.length))), some (.cells 3 1 t.homes.length (ints (prepsW t words t.homes.length)))], []⟩) (.le2 ?_) ?_
      · simp only [townC, slH, slL, slU, ordW]; simp (maxSteps := 4000000) only [go_sem, seval]
        try (first | rfl | exact ⟨rfl, rfl⟩)
      · intro k hk
        have hok := hwo k hk
        have hol := hok.len
        by_cases h0 : words.length = 0
        · have e0 : (0 < (words.length : Int)) = False := eq_false (by omega)
          have eo : ∀ j, ordW t.homes.length words j = upTo t.homes.length := fun j => by
            induction j with
            | zero => rfl
            | succ j ih => simp only [ordW]; rw [if_pos h0, ih]
          have r3 : (upTo t.homes.length).length = t.homes.length := upTo_length
          simp only [eo]
          simp only [townC, slH, slL, slU]; simp (maxSteps := 4000000) only [go_sem, seval]
          (repeat' (first
    | (refine awp_seqK ?_)
    | (refine kt ?_)
    | (refine And.intro ?_ ?_)
    | ((first | refine awp_region ?_ | refine awp_draw (by kernel_rfl) (by kernel_rfl) ?_ | refine Imp.le2 ?_ | refine awp_label ?_ | refine awp_skip ?_ | refine awp_exit ?_ | refine awp_cd ?_ | refine awp_ret ?_ | refine go_split (fun _h => ?_) (fun _h => ?_)) <;> try simp (maxSteps := 4000000) only [go_sem, seval, e0, decide_false, r1k, r2k, r3])
    | (intro _h)
    | (refine awp_block ?_)
    | (refine awp_scope ?_)
    | (refine cond_b (fun _h => ?_) (fun _h => ?_))
    | (show heapOK _ _ = true; kernel_rfl)
    | (show heapOK2 _ _ = true; kernel_rfl)
    | (omega)))
          all_goals trace_state
        · have e0 : (0 < (words.length : Int)) = True := eq_true (by omega)
          rcases Nat.lt_or_eq_of_le hk with hk1 | hk1
          · have hml : (k + 5) % words.length < words.length := Nat.mod_lt _ (by omega)
            have h1 := hw.at hml
            have em : ((k : Int) + 5).tmod (words.length : Int) = (((k + 5) % words.length : Nat) : Int) := by
              rw [show (k : Int) + 5 = ((k + 5 : Nat) : Int) by omega]; exact tmod_nat
            have hsw := swapK_lt (n := t.homes.length) (i := k) hw h0 (by omega)
            have h2 := Int.tmod_nonneg (t.homes.length : Int) h1.1
            have ek : (words.getD ((k + 5) % words.length) 0).tmod (t.homes.length : Int) = ((swapK t.homes.length words k : Nat) : Int) := by unfold swapK; omega
            have hst : ordW t.homes.length words (k + 1) = swpI (ordW t.homes.length words k) k (swapK t.homes.length words k) := by simp only [ordW]; rw [if_neg h0]
            rw [hst]
            generalize swapK t.homes.length words k = q at *
            generalize ordW t.homes.length words k = O at *
            have hil : (isp O k (O.getD q 0)).length = t.homes.length := by rw [isp_length (by omega)]; exact hol
            simp only [townC, slH, slL, slU, swpI]; simp (maxSteps := 4000000) only [go_sem, seval]
            (repeat' (first
    | ((exfalso; omega))
    | ((omega))
    | (refine awp_seqK ?_)
    | (refine kt ?_)
    | (refine And.intro ?_ ?_)
    | ((first | refine awp_region ?_ | refine awp_draw (by kernel_rfl) (by kernel_rfl) ?_ | refine Imp.le2 ?_ | refine awp_label ?_ | refine awp_skip ?_ | refine awp_exit ?_ | refine awp_cd ?_ | refine awp_ret ?_ | refine go_split (fun _h => ?_) (fun _h => ?_)) <;> try simp (maxSteps := 4000000) only [go_sem, seval, e0, decide_true, em, ek, hol, hil])
    | (intro _h)
    | (refine awp_block ?_)
    | (refine awp_scope ?_)
    | (refine cond_b (fun _h => ?_) (fun _h => ?_))
    | (show heapOK _ _ = true; kernel_rfl)
    | (show heapOK2 _ _ = true; kernel_rfl)
    | (omega)))
            all_goals trace_state
          · subst hk1
            simp only [townC, slH, slL, slU]; simp (maxSteps := 4000000) only [go_sem, seval]
            (repeat' (first
    | ((exfalso; omega))
    | (refine awp_seqK ?_)
    | (refine kt ?_)
    | (refine And.intro ?_ ?_)
    | ((first | refine awp_region ?_ | refine awp_draw (by kernel_rfl) (by kernel_rfl) ?_ | refine Imp.le2 ?_ | refine awp_label ?_ | refine awp_skip ?_ | refine awp_exit ?_ | refine awp_cd ?_ | refine awp_ret ?_ | refine go_split (fun _h => ?_) (fun _h => ?_)) <;> try simp (maxSteps := 4000000) only [go_sem, seval, hol, r1k, r2k])
    | (intro _h)
    | (refine awp_block ?_)
    | (refine awp_scope ?_)
    | (refine cond_b (fun _h => ?_) (fun _h => ?_))
    | (show heapOK _ _ = true; kernel_rfl)
    | (show heapOK2 _ _ = true; kernel_rfl)
    | (omega)))
            all_goals trace_state
end Go.Am

/- The law AwayAny, as a contract: it returns true. -/
namespace Go.Am
open Go.RowKit Go.Proofs
attribute [local irreducible] AWP CallS Kt goK CallK stepK evOps SemF SemY Imp
set_option maxRecDepth 4000
set_option linter.unusedSimpArgs false
set_option linter.unusedVariables false
set_option maxHeartbeats 3200000

theorem planL_short {t : Town} (h0 : faultT t = 0) : PlanS (planL t) := by
  have ht := faultT_zero h0
  refine ⟨by have := planF_le (t := t) 256 (stBeg t t.homes.length t.halls.length); unfold planL; omega, fun b hb => ?_⟩
  have := planF_short ht 256 _ (stBeg_ok ht (Nat.le_refl _)) b hb
  omega
theorem awayAny_main (t : Town) (plan P : List Bus) (own : Bool) (words : List Int) (hw : WordsOK words) (hR : readyB t = true) (hS : shortB plan = true) (hP : (own = true ∧ planL t = P) ∨ (own = false ∧ P = plan ∧ rightB t P = true)) (hE : planE t = 0) :
    CallS Try.prog 10 [.agg (townC t), slB plan, .bool own, slU words] (.bool true) := by
  have hre := ready_c t
  have hsh := short_c plan
  have hA := awake_c
  rw [hR] at hre
  rw [hS] at hsh
  obtain ⟨hb, h0⟩ := readyB_ok hR
  obtain ⟨hPS, hP1, hP2⟩ := shortB_ok hS
  have ht := faultT_zero h0
  obtain ⟨hln1, hln2⟩ := ht.homes
  have hhl := ht.halls
  have hto := Town_c t hb
  have hpl := Plan_c t hb
  have hPL := planL_short h0
  have hbk := back_c (planL t) hPL
  have hpt1 := planTo_c (planL t) hPL
  have hpt := planTo_c plan hPS
  have hpr1 := prove_c t (planL t) hb hPL
  have hpr := prove_c t plan hb hPS
  have hrp := (plan_right h0 hE).1
  have hq1 : proveB t (planL t) = true := by simp [proveB, h0, hrp]
  rw [hq1] at hpr1
  simp only [planV, hE, if_true] at hpl
  have hca := called_c t words ht hw
  have hoo := ordW_ord hw (n := t.homes.length) (by omega) t.homes.length (Nat.le_refl _)
  have htm := timW ht hw
  generalize ordW t.homes.length words t.homes.length = O at *
  generalize callsW t words t.homes.length = C at *
  generalize prepsW t words t.homes.length = Q at *
  have hol := hoo.len
  have hcl := htm.lc
  have hql := htm.lp
  have hth := There_c t O C Q hb (by omega) (by omega) (by omega)
  have e1 : thereE t O C Q = 0 := by simp [thereE, h0, hoo, htm]
  simp only [thereV, e1, if_true] at hth
  have hLl := thOut_length (t := t) (calls := C) (preps := Q) hoo O.length (Nat.le_refl _)
  have hLe := thOut_le ht hoo htm O.length (Nat.le_refl _)
  generalize thOut t O C Q O.length = L at *
  have hrP : rightB t P = true := by
    rcases hP with ⟨_, rfl⟩ | ⟨_, _, h⟩
    · exact hrp
    · exact h
  obtain ⟨S, hSr, h8, hroom, hall⟩ := rightB_some hrP
  have hmay : ∀ b, BusG t b → ppl t b.homes ≤ t.seats ∧ (∀ x ∈ b.homes, sheB t b x = true) ∧ (∀ x ∈ b.homes, timB t b x = true) := fun b h => by
    have := h.may
    simp only [mayB, Bool.and_eq_true, decide_eq_true_eq, List.all_eq_true] at this
    exact ⟨this.1.1, this.1.2, this.2⟩
  have key : (own = true ∧ planL t = P) ∨ (own = false ∧ P = plan ∧ proveB t plan = true) := by
    rcases hP with ⟨h1, h2⟩ | ⟨h1, h2, h3⟩
    · exact .inl ⟨h1, h2⟩
    · exact .inr ⟨h1, h2, by rw [← h2]; simp [proveB, h0, h3]⟩
  clear hP
  rcases key with ⟨hO, hPe⟩ | ⟨hO, hPe, hq2⟩
  all_goals
    subst hO
    first
      | rw [hPe] at hpl hbk hpt1 hpr1
      | (subst hPe; rw [hq2] at hpr)
    simp only [slB, townC, slH, slL, slU, sl, hol, hcl, hql, hLl] at hre hsh hto hpl hbk hpt1 hpr1 hpt hpr hca hth ⊢
    (refine callS_of_awp (fun w args => Try.call10 ..) Try.func10 rfl (fun w0 m0 wz => ?_); simp only [Try.ntmps10, Try.results10, initT, junks, homeC, hallC, slH, slL, townC, sl, List.toList_toArray, List.cons_append, List.nil_append, List.length_cons, List.length_nil, Nat.reduceAdd, Nat.reduceSub])
    (repeat' (first
    | ((exfalso; omega))
    | (refine awp_seqK ?_)
    | (refine kt ?_)
    | (refine And.intro ?_ ?_)
    | ((first | refine awp_region ?_ | refine awp_draw (by kernel_rfl) (by kernel_rfl) ?_ | refine Imp.le2 ?_ | refine awp_label ?_ | refine awp_skip ?_ | refine awp_exit ?_ | refine awp_cd ?_ | refine awp_ret ?_ | refine callK_of (hre) ?_ | refine callK_of (hsh) ?_ | refine callK_of (hto) ?_ | refine callK_of (hpl) ?_ | refine callK_of (hbk) ?_ | refine callK_of (hpt1) ?_ | refine callK_of (hpr1) ?_ | refine callK_of (hpt) ?_ | refine callK_of (hpr) ?_ | refine callK_of (hca) ?_ | refine callK_of (hth) ?_ | refine go_split (fun _h => ?_) (fun _h => ?_)) <;> try simp (maxSteps := 4000000) only [go_sem, seval, hol, hcl, hql, hLl, ↓rep_ints])
    | (intro _h)
    | (refine awp_block ?_)
    | (refine awp_scope ?_)
    | (refine cond_b (fun _h => ?_) (fun _h => ?_))
    | (show heapOK _ _ = true; kernel_rfl)
    | (show heapOK2 _ _ = true; kernel_rfl)
    | (omega)))
    refine awp_loopJ (fun x : Nat × List Bool × List Int => x.1 ≤ P.length ∧ runN t P x.1 = some x.2) (fun x => ⟨mkT 244 [(4, .ptr 0 0 0), (9, slB P), (14, .psl false t.homes.length (ints L)), (16, .osl 1 0 0 t.homes.length), (17, .osl 2 0 0 t.halls.length), (18, .int .i64 x.1)], [some (.cells 27 1 0 (townC t)), some (.cells 3 1 0 (ints (cntL x.2.1))), some (.cells 3 1 0 (ints x.2.2))], []⟩) (fun x => P.length - x.1) (0, tab t.homes.length (fun _ => false), tab t.halls.length (fun _ => 0)) ⟨Nat.zero_le _, rfl⟩ (.le2 ?_) ?_
    · simp only [townC, slH, slL, slB, sl, cntL_tab]; simp (maxSteps := 4000000) only [go_sem, seval]
      try (first | rfl | exact ⟨rfl, rfl⟩)
    · rintro ⟨k, I, R⟩ ⟨hk, hSk⟩
      simp only at hk hSk
      obtain ⟨hI, hRl, hRb⟩ := runN_length ht k _ hSk
      simp only at hI hRl hRb
      have hcn : (cntL I).length = t.homes.length := by rw [cntL_length]; exact hI
      rcases Nat.lt_or_eq_of_le hk with hk1 | hk1
      · obtain ⟨hG, J, hJ, hnx⟩ := runN_pre hSr hk1 hSk
        obtain ⟨b, hb2⟩ : ∃ b, P.getD k default = b := ⟨_, rfl⟩
        have hnd := ((runI ht _ S hSr).bus k hk1).2
        rw [hb2] at hG hJ hnx hnd
        have hbl := nodup_le _ _ hnd hG.homes
        obtain ⟨y1, y2, y3⟩ := hmay b hG
        have hgh := hG.hall
        have hgl := hG.leave
        have hgm := hG.homes
        have hdr := (ht.hall b.hall.toNat (by omega)).drive
        have eH : (0 ≤ b.hall ∧ b.hall ≤ (t.halls.length : Int) - 1) = True := eq_true hgh
        simp only [townC, slH, slL, slB, sl]; simp (maxSteps := 4000000) only [go_sem, seval]
        (repeat' (first
    | ((exfalso; omega))
    | (refine awp_seqK ?_)
    | (refine kt ?_)
    | (refine And.intro ?_ ?_)
    | ((first | refine awp_region ?_ | refine awp_draw (by kernel_rfl) (by kernel_rfl) ?_ | refine Imp.le2 ?_ | refine awp_label ?_ | refine awp_skip ?_ | refine awp_exit ?_ | refine awp_cd ?_ | refine awp_ret ?_ | refine callK_of (in_c _ _ _) ?_ | refine go_split (fun _h => ?_) (fun _h => ?_)) <;> try simp (maxSteps := 4000000) only [go_sem, seval, hb2, busC, eH, decide_true])
    | (intro _h)
    | (refine awp_block ?_)
    | (refine awp_scope ?_)
    | (refine cond_b (fun _h => ?_) (fun _h => ?_))
    | (show heapOK _ _ = true; kernel_rfl)
    | (show heapOK2 _ _ = true; kernel_rfl)
    | (omega)))
        refine awp_loopJ (fun x : Nat × List Bool => x.1 ≤ b.homes.length ∧ markN b.homes I x.1 = some x.2) (fun x => ⟨mkT 244 [(4, .ptr 0 0 0), (9, slB P), (14, .psl false t.homes.length (ints L)), (16, .osl 1 0 0 t.homes.length), (17, .osl 2 0 0 t.halls.length), (18, .int .i64 k), (19, .ptr 3 0 0), (20, .int .i64 (pplL t b.homes x.1)), (21, .int .i64 x.1)], [some (.cells 27 1 0 (townC t)), some (.cells 3 1 0 (ints (cntL x.2))), some (.cells 3 1 0 (ints R)), some (.cells 48 1 0 (busC b))], []⟩) (fun x => b.homes.length - x.1) (0, I) ⟨Nat.zero_le _, rfl⟩ (.le2 ?_) ?_
        · simp only [townC, slH, slL, slB, sl, busC, pplL]; simp (maxSteps := 4000000) only [go_sem, seval]
          try (first | rfl | exact ⟨rfl, rfl⟩)
        · rintro ⟨j, I2⟩ ⟨hj, hM⟩
          simp only at hj hM
          have hJl := markN_length hI hgm j hj hM
          have hcn2 : (cntL I2).length = t.homes.length := by rw [cntL_length]; exact hJl
          have hpj := pplL_bd ht hgm j hj
          have hpe := pplL_bd ht hgm b.homes.length (Nat.le_refl _)
          have hl8 : pplL t b.homes b.homes.length ≤ t.seats := y1
          have hsea := ht.seats
          rcases Nat.lt_or_eq_of_le hj with hj1 | hj1
          · obtain ⟨m1, m2, m3⟩ := markN_pre hJ hj1 hM
            have hxm := getD_mem (d := 0) hj1
            have hpj1 := pplL_bd ht hgm (j + 1) hj1
            have hx := hgm _ hxm
            have hpo := (ht.home (b.homes.getD j 0).toNat (by omega)).people
            have z2 := y2 _ hxm
            have z3 := y3 _ hxm
            simp only [sheB, timB, decide_eq_true_eq] at z2 z3
            rw [worst_at hx] at z3
            have z4 := hLe (b.homes.getD j 0).toNat (by omega)
            have eIn : (0 ≤ b.homes.getD j 0 ∧ b.homes.getD j 0 ≤ (t.homes.length : Int) - 1) = True := eq_true (by omega)
            have eL : (b.leave < L.getD (b.homes.getD j 0).toNat 0) = False := eq_false (by omega)
            have eG : ((t.homes.getD (b.homes.getD j 0).toNat default).gone < b.leave + (t.halls.getD b.hall.toNat default).drive) = False := eq_false (by omega)
            have hc0 : (cntL I2).getD (b.homes.getD j 0).toNat 0 = 0 := by
              rw [cntL_getD (by omega), m1]; rfl
            have hc1 : isp (cntL I2) (b.homes.getD j 0).toNat 1 = cntL (isp I2 (b.homes.getD j 0).toNat true) := cntL_isp.symm
            have hpp : pplL t b.homes j + (t.homes.getD (b.homes.getD j 0).toNat default).people = pplL t b.homes (j + 1) := rfl
            simp only [townC, slH, slL, slB, sl, busC]; simp (maxSteps := 4000000) only [go_sem, seval]
            (repeat' (first
    | ((exfalso; omega))
    | ((omega))
    | (refine awp_seqK ?_)
    | (refine kt ?_)
    | (refine And.intro ?_ ?_)
    | ((first | refine awp_region ?_ | refine awp_draw (by kernel_rfl) (by kernel_rfl) ?_ | refine Imp.le2 ?_ | refine awp_label ?_ | refine awp_skip ?_ | refine awp_exit ?_ | refine awp_cd ?_ | refine awp_ret ?_ | refine callK_of (in_c _ _ _) ?_ | refine go_split (fun _h => ?_) (fun _h => ?_)) <;> try simp (maxSteps := 4000000) only [go_sem, seval, eIn, eL, eG, z2, hc0, hc1, hcn2, hpp, hLl, decide_true, decide_false, Int.zero_add, Bool.not_true, Bool.not_false])
    | (intro _h)
    | (refine awp_block ?_)
    | (refine awp_scope ?_)
    | (refine cond_b (fun _h => ?_) (fun _h => ?_))
    | (show heapOK _ _ = true; kernel_rfl)
    | (show heapOK2 _ _ = true; kernel_rfl)
    | (omega)))
            refine ⟨(j + 1, isp I2 (b.homes.getD j 0).toNat true), ⟨by simp only; omega, m2⟩, by simp only; omega, .le2 ?_⟩
            simp only [townC, slH, slL, slB, sl, busC]; simp (maxSteps := 4000000) only [go_sem, seval]
            try (first | rfl | exact ⟨rfl, rfl⟩)
          · subst hj1
            rw [hJ] at hM
            simp only [Option.some.injEq] at hM
            subst hM
            have hpt2 : ppl t b.homes = pplL t b.homes b.homes.length := rfl
            rw [hpt2] at hnx
            have hrr := run_room ht hrP (k := k + 1) (by omega) hnx (i := b.hall.toNat) (by omega)
            have hrb := hRb b.hall.toNat (by omega)
            have eS : (t.seats < pplL t b.homes b.homes.length) = False := eq_false (by omega)
            have eR : ((t.halls.getD b.hall.toNat default).room < (isp R b.hall.toNat (R.getD b.hall.toNat 0 + pplL t b.homes b.homes.length)).getD b.hall.toNat 0) = False := eq_false (by omega)
            have hil : (isp R b.hall.toNat (R.getD b.hall.toNat 0 + pplL t b.homes b.homes.length)).length = t.halls.length := by rw [isp_length (by omega)]; exact hRl
            simp only [townC, slH, slL, slB, sl, busC]; simp (maxSteps := 4000000) only [go_sem, seval]
            (repeat' (first
    | ((exfalso; omega))
    | ((omega))
    | (refine awp_seqK ?_)
    | (refine kt ?_)
    | (refine And.intro ?_ ?_)
    | ((first | refine awp_region ?_ | refine awp_draw (by kernel_rfl) (by kernel_rfl) ?_ | refine Imp.le2 ?_ | refine awp_label ?_ | refine awp_skip ?_ | refine awp_exit ?_ | refine awp_cd ?_ | refine awp_ret ?_ | refine go_split (fun _h => ?_) (fun _h => ?_)) <;> try simp (maxSteps := 4000000) only [go_sem, seval, eS, eR, hRl, hil, decide_false])
    | (intro _h)
    | (refine awp_block ?_)
    | (refine awp_scope ?_)
    | (refine cond_b (fun _h => ?_) (fun _h => ?_))
    | (show heapOK _ _ = true; kernel_rfl)
    | (show heapOK2 _ _ = true; kernel_rfl)
    | (omega)))
            refine ⟨(k + 1, J, isp R b.hall.toNat (R.getD b.hall.toNat 0 + pplL t b.homes b.homes.length)), ⟨by simp only; omega, hnx⟩, by simp only; omega, .le2 ?_⟩
            simp only [townC, slH, slL, slB, sl, busC]; simp (maxSteps := 4000000) only [go_sem, seval]
            try (first | rfl | exact ⟨rfl, rfl⟩)
      · subst hk1
        rw [hSr] at hSk
        simp only [Option.some.injEq] at hSk
        have hall2 : ∀ h, h < t.homes.length → (cntL I).getD h 0 = 1 := fun h hh => by
          rw [cntL_getD (by omega)]
          rw [hSk, List.any_eq_false] at hall
          have := hall _ (getD_mem (d := false) (i := h) (by simp only; omega))
          simp only [Bool.not_eq_true'] at this
          rw [if_pos (by simpa using this)]
        simp only [townC, slH, slL, slB, sl]; simp (maxSteps := 4000000) only [go_sem, seval]
        (repeat' (first
    | ((exfalso; omega))
    | (refine awp_seqK ?_)
    | (refine kt ?_)
    | (refine And.intro ?_ ?_)
    | ((first | refine awp_region ?_ | refine awp_draw (by kernel_rfl) (by kernel_rfl) ?_ | refine Imp.le2 ?_ | refine awp_label ?_ | refine awp_skip ?_ | refine awp_exit ?_ | refine awp_cd ?_ | refine awp_ret ?_ | refine go_split (fun _h => ?_) (fun _h => ?_)) <;> try simp (maxSteps := 4000000) only [go_sem, seval])
    | (intro _h)
    | (refine awp_block ?_)
    | (refine awp_scope ?_)
    | (refine cond_b (fun _h => ?_) (fun _h => ?_))
    | (show heapOK _ _ = true; kernel_rfl)
    | (show heapOK2 _ _ = true; kernel_rfl)
    | (omega)))
        refine awp_loopN t.homes.length (fun h => ⟨mkT 244 [(4, .ptr 0 0 0), (16, .osl 1 0 0 t.homes.length), (23, .int .i64 h)], [some (.cells 27 1 0 (townC t)), some (.cells 3 1 0 (ints (cntL I)))], []⟩) (.le2 ?_) ?_
        · simp only [townC, slH, slL, slB, sl]; simp (maxSteps := 4000000) only [go_sem, seval]
          try (first | rfl | exact ⟨rfl, rfl⟩)
        · intro h hh
          rcases Nat.lt_or_eq_of_le hh with hh1 | hh1
          · have e9 := hall2 h hh1
            simp only [townC, slH, slL, slB, sl]; simp (maxSteps := 4000000) only [go_sem, seval]
            (repeat' (first
    | ((exfalso; omega))
    | ((omega))
    | (refine awp_seqK ?_)
    | (refine kt ?_)
    | (refine And.intro ?_ ?_)
    | ((first | refine awp_region ?_ | refine awp_draw (by kernel_rfl) (by kernel_rfl) ?_ | refine Imp.le2 ?_ | refine awp_label ?_ | refine awp_skip ?_ | refine awp_exit ?_ | refine awp_cd ?_ | refine awp_ret ?_ | refine go_split (fun _h => ?_) (fun _h => ?_)) <;> try simp (maxSteps := 4000000) only [go_sem, seval, e9, hcn, decide_true, Bool.not_true])
    | (intro _h)
    | (refine awp_block ?_)
    | (refine awp_scope ?_)
    | (refine cond_b (fun _h => ?_) (fun _h => ?_))
    | (show heapOK _ _ = true; kernel_rfl)
    | (show heapOK2 _ _ = true; kernel_rfl)
    | (omega)))
            all_goals trace_state
          · subst hh1
            simp only [townC, slH, slL, slB, sl]; simp (maxSteps := 4000000) only [go_sem, seval]
            (repeat' (first
    | ((exfalso; omega))
    | ((omega))
    | (refine awp_seqK ?_)
    | (refine kt ?_)
    | (refine And.intro ?_ ?_)
    | ((first | refine awp_region ?_ | refine awp_draw (by kernel_rfl) (by kernel_rfl) ?_ | refine Imp.le2 ?_ | refine awp_label ?_ | refine awp_skip ?_ | refine awp_exit ?_ | refine awp_cd ?_ | refine awp_ret ?_ | refine callK_of (hA) ?_ | refine go_split (fun _h => ?_) (fun _h => ?_)) <;> try simp (maxSteps := 4000000) only [go_sem, seval, hcn])
    | (intro _h)
    | (refine awp_block ?_)
    | (refine awp_scope ?_)
    | (refine cond_b (fun _h => ?_) (fun _h => ?_))
    | (show heapOK _ _ = true; kernel_rfl)
    | (show heapOK2 _ _ = true; kernel_rfl)
    | (omega)))
            all_goals trace_state
theorem awayAny_c (t : Town) (plan : List Bus) (own : Bool) (words : List Int) (hw : WordsOK words) : CallS Try.prog 10 [.agg (townC t), slB plan, .bool own, slU words] (.bool true) := by
  have hre := ready_c t
  have hsh := short_c plan
  have hA := awake_c
  cases hR : readyB t with
  | false =>
    rw [hR] at hre
    simp only [slB, townC, slH, slL, slU] at hre ⊢
    (refine callS_of_awp (fun w args => Try.call10 ..) Try.func10 rfl (fun w0 m0 wz => ?_); simp only [Try.ntmps10, Try.results10, initT, junks, homeC, hallC, slH, slL, townC, sl, List.toList_toArray, List.cons_append, List.nil_append, List.length_cons, List.length_nil, Nat.reduceAdd, Nat.reduceSub])
    (repeat' (first
    | (refine awp_seqK ?_)
    | (refine kt ?_)
    | (refine And.intro ?_ ?_)
    | ((first | refine awp_region ?_ | refine awp_draw (by kernel_rfl) (by kernel_rfl) ?_ | refine Imp.le2 ?_ | refine awp_label ?_ | refine awp_skip ?_ | refine awp_exit ?_ | refine awp_cd ?_ | refine awp_ret ?_ | refine callK_of (hre) ?_ | refine callK_of (hA) ?_ | refine go_split (fun _h => ?_) (fun _h => ?_)) <;> try simp (maxSteps := 4000000) only [go_sem, seval])
    | (intro _h)
    | (refine awp_block ?_)
    | (refine awp_scope ?_)
    | (refine cond_b (fun _h => ?_) (fun _h => ?_))
    | (show heapOK _ _ = true; kernel_rfl)
    | (show heapOK2 _ _ = true; kernel_rfl)
    | (omega)))
  | true =>
    rw [hR] at hre
    cases hS : shortB plan with
    | false =>
      rw [hS] at hsh
      simp only [slB, townC, slH, slL, slU] at hre hsh ⊢
      (refine callS_of_awp (fun w args => Try.call10 ..) Try.func10 rfl (fun w0 m0 wz => ?_); simp only [Try.ntmps10, Try.results10, initT, junks, homeC, hallC, slH, slL, townC, sl, List.toList_toArray, List.cons_append, List.nil_append, List.length_cons, List.length_nil, Nat.reduceAdd, Nat.reduceSub])
      (repeat' (first
    | (refine awp_seqK ?_)
    | (refine kt ?_)
    | (refine And.intro ?_ ?_)
    | ((first | refine awp_region ?_ | refine awp_draw (by kernel_rfl) (by kernel_rfl) ?_ | refine Imp.le2 ?_ | refine awp_label ?_ | refine awp_skip ?_ | refine awp_exit ?_ | refine awp_cd ?_ | refine awp_ret ?_ | refine callK_of (hre) ?_ | refine callK_of (hsh) ?_ | refine callK_of (hA) ?_ | refine go_split (fun _h => ?_) (fun _h => ?_)) <;> try simp (maxSteps := 4000000) only [go_sem, seval])
    | (intro _h)
    | (refine awp_block ?_)
    | (refine awp_scope ?_)
    | (refine cond_b (fun _h => ?_) (fun _h => ?_))
    | (show heapOK _ _ = true; kernel_rfl)
    | (show heapOK2 _ _ = true; kernel_rfl)
    | (omega)))
    | true =>
      rw [hS] at hsh
      obtain ⟨hb, h0⟩ := readyB_ok hR
      obtain ⟨hPS, hP1, hP2⟩ := shortB_ok hS
      by_cases hE : planE t = 0
      · cases own with
        | true => exact awayAny_main t plan (planL t) true words hw hR hS (.inl ⟨rfl, rfl⟩) hE
        | false =>
          cases hq : rightB t plan with
          | true => exact awayAny_main t plan plan false words hw hR hS (.inr ⟨rfl, rfl, hq⟩) hE
          | false =>
            have hto := Town_c t hb
            have hpl := Plan_c t hb
            have hPL := planL_short h0
            have hbk := back_c (planL t) hPL
            have hpt1 := planTo_c (planL t) hPL
            have hpt := planTo_c plan hPS
            have hpr1 := prove_c t (planL t) hb hPL
            have hpr := prove_c t plan hb hPS
            have hrp := (plan_right h0 hE).1
            have hq1 : proveB t (planL t) = true := by simp [proveB, h0, hrp]
            have hq2 : proveB t plan = false := by simp [proveB, hq]
            rw [hq1] at hpr1
            rw [hq2] at hpr
            simp only [planV, hE, if_true] at hpl
            simp only [slB, townC, slH, slL, slU, sl] at hre hsh hto hpl hbk hpt1 hpr1 hpt hpr ⊢
            (refine callS_of_awp (fun w args => Try.call10 ..) Try.func10 rfl (fun w0 m0 wz => ?_); simp only [Try.ntmps10, Try.results10, initT, junks, homeC, hallC, slH, slL, townC, sl, List.toList_toArray, List.cons_append, List.nil_append, List.length_cons, List.length_nil, Nat.reduceAdd, Nat.reduceSub])
            (repeat' (first
    | (refine awp_seqK ?_)
    | (refine kt ?_)
    | (refine And.intro ?_ ?_)
    | ((first | refine awp_region ?_ | refine awp_draw (by kernel_rfl) (by kernel_rfl) ?_ | refine Imp.le2 ?_ | refine awp_label ?_ | refine awp_skip ?_ | refine awp_exit ?_ | refine awp_cd ?_ | refine awp_ret ?_ | refine callK_of (hre) ?_ | refine callK_of (hsh) ?_ | refine callK_of (hto) ?_ | refine callK_of (hpl) ?_ | refine callK_of (hbk) ?_ | refine callK_of (hpt1) ?_ | refine callK_of (hpr1) ?_ | refine callK_of (hpt) ?_ | refine callK_of (hpr) ?_ | refine callK_of (hA) ?_ | refine go_split (fun _h => ?_) (fun _h => ?_)) <;> try simp (maxSteps := 4000000) only [go_sem, seval])
    | (intro _h)
    | (refine awp_block ?_)
    | (refine awp_scope ?_)
    | (refine cond_b (fun _h => ?_) (fun _h => ?_))
    | (show heapOK _ _ = true; kernel_rfl)
    | (show heapOK2 _ _ = true; kernel_rfl)
    | (omega)))
      · have hE2 : planE t = 9 := by
          rw [planE_few h0] at hE ⊢
          split at hE
          · rename_i h; rw [if_pos h]
          · exact absurd rfl hE
        have hq : proveB t plan = false := by
          unfold proveB
          cases hr : rightB t plan
          · simp
          · exact absurd (plan_few h0 hr).2 hE
        have hto := Town_c t hb
        have hpl := Plan_c t hb
        have hpt := planTo_c plan hPS
        have hpr := prove_c t plan hb hPS
        rw [hq] at hpr
        have e4 : planV t = .nils := by simp [planV, hE2]
        rw [hE2, e4] at hpl
        simp only [slB, townC, slH, slL, slU, sl] at hre hsh hto hpl hpt hpr ⊢
        (refine callS_of_awp (fun w args => Try.call10 ..) Try.func10 rfl (fun w0 m0 wz => ?_); simp only [Try.ntmps10, Try.results10, initT, junks, homeC, hallC, slH, slL, townC, sl, List.toList_toArray, List.cons_append, List.nil_append, List.length_cons, List.length_nil, Nat.reduceAdd, Nat.reduceSub])
        (repeat' (first
    | ((exfalso; omega))
    | (refine awp_seqK ?_)
    | (refine kt ?_)
    | (refine And.intro ?_ ?_)
    | ((first | refine awp_region ?_ | refine awp_draw (by kernel_rfl) (by kernel_rfl) ?_ | refine Imp.le2 ?_ | refine awp_label ?_ | refine awp_skip ?_ | refine awp_exit ?_ | refine awp_cd ?_ | refine awp_ret ?_ | refine callK_of (hre) ?_ | refine callK_of (hsh) ?_ | refine callK_of (hto) ?_ | refine callK_of (hpl) ?_ | refine callK_of (hpt) ?_ | refine callK_of (hpr) ?_ | refine callK_of (hA) ?_ | refine go_split (fun _h => ?_) (fun _h => ?_)) <;> try simp (maxSteps := 4000000) only [go_sem, seval])
    | (intro _h)
    | (refine awp_block ?_)
    | (refine awp_scope ?_)
    | (refine cond_b (fun _h => ?_) (fun _h => ?_))
    | (show heapOK _ _ = true; kernel_rfl)
    | (show heapOK2 _ _ = true; kernel_rfl)
    | (omega)))
        all_goals trace_state
end Go.Am
