/- Parts TqA, TqB, TqC of the proof, one behind the other. No statement is proved here. -/
import Derived.Test.YtghlpjfpfjpddaaEd
import Derived.Test.YtghlpjfpfjpddaaFo
import Derived.Test.YtghlpjfpfjpddaaE6
/- A list that is turned; sorting by a key gives rising keys. No program is in sight. -/
namespace Go.Am
open Go.RowKit Go.Proofs
set_option linter.unusedSimpArgs false
set_option linter.unusedVariables false

def rot {α : Type} (l : List α) (k : Nat) : List α := l.drop k ++ l.take k
theorem rot_length {α : Type} {l : List α} {k : Nat} (hk : k ≤ l.length) : (rot l k).length = l.length := by
  simp only [rot, List.length_append, List.length_drop, List.length_take]; omega
theorem rot_perm {α : Type} {l : List α} {k : Nat} : (rot l k).Perm l := by
  have := List.perm_append_comm (l₁ := l.drop k) (l₂ := l.take k)
  rw [List.take_append_drop] at this
  exact this
theorem rot_getD {α : Type} {l : List α} {k j : Nat} {d : α} (hk : k ≤ l.length) (hj : j < l.length) : (rot l k).getD j d = l.getD ((j + k) % l.length) d := by
  unfold rot
  by_cases h : j + k < l.length
  · rw [Nat.mod_eq_of_lt h]
    simp only [List.getD_eq_getElem?_getD]
    rw [List.getElem?_append_left (by rw [List.length_drop]; omega), List.getElem?_drop, Nat.add_comm]
  · have e : (j + k) % l.length = j + k - l.length := by
      rw [Nat.mod_eq_sub_mod (by omega), Nat.mod_eq_of_lt (by omega)]
    rw [e]
    simp only [List.getD_eq_getElem?_getD]
    rw [List.getElem?_append_right (by rw [List.length_drop]; omega), List.length_drop, List.getElem?_take]
    rw [if_pos (by omega), show j - (l.length - k) = j + k - l.length by omega]
theorem rot_rot {α : Type} {l : List α} {k : Nat} (hk : k ≤ l.length) : rot (rot l k) (l.length - k) = l := by
  have e : l.length - k = (l.drop k).length := by rw [List.length_drop]
  unfold rot
  rw [e, List.drop_left, List.take_left, List.take_append_drop]

/-! ### Sorting by a key -/
theorem swp2_getD {l : List Int} {j i : Nat} (h : j + 1 < l.length) : (swp2 l j).getD i 0 = if i = j then l.getD (j + 1) 0 else if i = j + 1 then l.getD j 0 else l.getD i 0 := by
  unfold swp2
  rw [isp_getD (by rw [isp_length h]; omega), isp_getD h]
theorem sink_sorted {key : Int → Int} : ∀ (j : Nat) (L : List Int), j < L.length → (∀ a b, a < b → b < j → key (L.getD a 0) ≤ key (L.getD b 0)) →
    (∀ a b, a < b → b ≤ j → key ((sink (fun x y => decide (key x < key y)) j L).getD a 0) ≤ key ((sink (fun x y => decide (key x < key y)) j L).getD b 0)) ∧
    (∀ a, j < a → (sink (fun x y => decide (key x < key y)) j L).getD a 0 = L.getD a 0) ∧
    (∀ M, (∀ a, a ≤ j → key (L.getD a 0) ≤ M) → ∀ a, a ≤ j → key ((sink (fun x y => decide (key x < key y)) j L).getD a 0) ≤ M)
  | 0, L, _, _ => ⟨fun a b h1 h2 => by omega, fun a _ => rfl, fun M h a ha => h a ha⟩
  | j + 1, L, hj, hs => by
    simp only [sink, decide_eq_true_eq]
    split
    · rename_i hlt
      have hg := fun i => swp2_getD (l := L) (j := j) (i := i) hj
      have hl := swp2_length (l := L) (j := j) hj
      obtain ⟨i1, i2, i3⟩ := sink_sorted (key := key) j (swp2 L j) (by omega) (fun a b h1 h2 => by
        rw [hg, hg, if_neg (by omega), if_neg (by omega), if_neg (by omega), if_neg (by omega)]
        exact hs a b h1 (by omega))
      have top : (sink (fun x y => decide (key x < key y)) j (swp2 L j)).getD (j + 1) 0 = L.getD j 0 := by
        rw [i2 (j + 1) (by omega), hg, if_neg (by omega), if_pos rfl]
      have low : ∀ a, a ≤ j → key ((swp2 L j).getD a 0) ≤ key (L.getD j 0) := fun a ha => by
        rw [hg]
        rcases Nat.lt_or_eq_of_le ha with h | h
        · rw [if_neg (by omega), if_neg (by omega)]
          exact hs a j h (by omega)
        · rw [if_pos h]; omega
      refine ⟨fun a b h1 h2 => ?_, fun a ha => ?_, fun M hM a ha => ?_⟩
      · rcases Nat.lt_or_eq_of_le h2 with h | h
        · exact i1 a b h1 (by omega)
        · subst h
          rw [top]
          exact i3 _ low a (by omega)
      · rw [i2 a (by omega), hg, if_neg (by omega), if_neg (by omega)]
      · rcases Nat.lt_or_eq_of_le ha with h | h
        · refine i3 M (fun b hb => ?_) a (by omega)
          rw [hg]
          split
          · exact hM _ (by omega)
          · rw [if_neg (by omega)]; exact hM _ (by omega)
        · subst h
          rw [top]; exact hM j (by omega)
    · rename_i hlt
      refine ⟨fun a b h1 h2 => ?_, fun a _ => rfl, fun M hM a ha => hM a ha⟩
      rcases Nat.lt_or_eq_of_le h2 with h | h
      · exact hs a b h1 h
      · subst h
        rcases Nat.lt_or_eq_of_le (show a ≤ j by omega) with h3 | h3
        · have := hs a j h3 (by omega); omega
        · subst h3; omega
theorem isort_sorted {key : Int → Int} {L : List Int} : ∀ k, k ≤ L.length → ∀ a b, a < b → b < k → key ((isort (fun x y => decide (key x < key y)) L k).getD a 0) ≤ key ((isort (fun x y => decide (key x < key y)) L k).getD b 0)
  | 0, _, a, b, _, h => by omega
  | k + 1, hk, a, b, h1, h2 => by
    have ih := isort_sorted (key := key) (L := L) k (by omega)
    simp only [isort]
    exact (sink_sorted (key := key) k _ (by rw [isort_length (by omega)]; omega) ih).1 a b h1 (by omega)

/-! ### The minutes by which the homes have to be called -/
/-- They rise. -/
def minL (t : Town) : List Int := (ordL t).map (byI t)
theorem minL_sorted {t : Town} : (minL t).Pairwise (· ≤ ·) := by
  have hl : (ordL t).length = t.homes.length := ordL_ord.len
  have h := isort_sorted (key := byI t) (L := upTo t.homes.length) t.homes.length (by rw [upTo_length]; omega)
  unfold minL
  rw [List.pairwise_iff_getElem]
  intro i j hi hj hij
  rw [List.length_map] at hi hj
  have h1 := h i j hij (by omega)
  have e : isort (fun x y => decide (byI t x < byI t y)) (upTo t.homes.length) t.homes.length = ordL t := rfl
  rw [e] at h1
  simpa [List.getD_eq_getElem?_getD, hi, hj] using h1
theorem minL_perm {t : Town} : (minL t).Perm (t.homes.map (byT t)) := by
  have h := (ordL_perm (t := t)).map (byI t)
  have e : (upTo t.homes.length).map (byI t) = t.homes.map (byT t) := by
    apply List.ext_getElem
    · rw [List.length_map, List.length_map, upTo_length]
    · intro i h1 h2
      rw [List.length_map] at h1 h2
      have h3 := tab_getD (n := t.homes.length) (f := fun i => (i : Int)) (d := 0) h2
      have h4 : (upTo t.homes.length)[i] = (i : Int) := by
        have : (upTo t.homes.length).getD i 0 = (i : Int) := h3
        simpa [List.getD_eq_getElem?_getD, h1] using this
      simp only [List.getElem_map, h4, byI]
      congr 1
      simp [List.getD_eq_getElem?_getD, h2]
  rw [e] at h
  exact h
theorem lateF_pos {t : Town} : ∀ (f i : Nat), (0 < lateF t f i ↔ ∃ j, i ≤ j ∧ j < i + f ∧ ((j : Int) + 1) * t.chi > byI t ((ordL t).getD j 0)) ∧ 0 ≤ lateF t f i
  | 0, i => ⟨⟨fun h => by simp [lateF] at h, fun ⟨j, h1, h2, _⟩ => by omega⟩, by simp [lateF]⟩
  | f + 1, i => by
    simp only [lateF]
    split
    · rename_i h
      exact ⟨⟨fun _ => ⟨i, by omega, by omega, h⟩, fun _ => by omega⟩, by omega⟩
    · rename_i h
      have ih := lateF_pos (t := t) f (i + 1)
      refine ⟨⟨fun h1 => ?_, fun ⟨j, h1, h2, h3⟩ => ?_⟩, ih.2⟩
      · obtain ⟨j, h1, h2, h3⟩ := ih.1.1 h1
        exact ⟨j, by omega, by omega, h3⟩
      · rcases Nat.lt_or_eq_of_le h1 with h4 | h4
        · exact ih.1.2 ⟨j, by omega, by omega, h3⟩
        · subst h4; exact absurd h3 h
theorem late_iff {t : Town} : 0 < lateN t ↔ ∃ j, j < t.homes.length ∧ ((j : Int) + 1) * t.chi > (minL t).getD j 0 := by
  have hl : (ordL t).length = t.homes.length := ordL_ord.len
  have e : ∀ j, j < t.homes.length → (minL t).getD j 0 = byI t ((ordL t).getD j 0) := fun j hj => by
    simp [minL, List.getD_eq_getElem?_getD, show j < (ordL t).length by omega]
  unfold lateN
  rw [(lateF_pos t.homes.length 0).1]
  constructor
  · rintro ⟨j, _, h1, h2⟩
    exact ⟨j, by omega, by rw [e j (by omega)]; exact h2⟩
  · rintro ⟨j, h1, h2⟩
    exact ⟨j, by omega, by omega, by rw [e j h1] at h2; exact h2⟩
def byF (h : Home) (a : Int) (l : Hall) : Int := if fitB h l then max a (h.gone - l.drive - h.hi - h.walk) else a
theorem byN_fold {h : Home} {ls : List Hall} : ∀ k, k ≤ ls.length → byN h ls k = (ls.take k).foldl (byF h) (-1)
  | 0, _ => by simp [byN]
  | k + 1, hk => by
    have ih := byN_fold (h := h) (ls := ls) k (by omega)
    have e : ls.take (k + 1) = ls.take k ++ [ls.getD k default] := by
      rw [List.take_succ_eq_append_getElem (by omega)]; simp [List.getD_eq_getElem?_getD, show k < ls.length by omega]
    rw [e, List.foldl_append, ← ih]
    rfl
theorem byT_fold {t : Town} {h : Home} : byT t h = t.halls.foldl (byF h) (-1) := by
  unfold byT
  rw [byN_fold _ (Nat.le_refl _), List.take_length]
theorem byT_perm {t x : Town} (hp : x.halls.Perm t.halls) {h : Home} : byT x h = byT t h := by
  rw [byT_fold, byT_fold]
  refine hp.foldl_eq' (fun a _ b _ z => ?_) (-1)
  simp only [byF]
  split <;> split <;> omega
theorem late_perm {t x : Town} (hh : x.homes.Perm t.homes) (hl : x.halls.Perm t.halls) (hc : x.chi = t.chi) : 0 < lateN x ↔ 0 < lateN t := by
  have e : minL x = minL t := by
    have hb : x.homes.map (byT x) = x.homes.map (byT t) := List.map_congr_left fun h _ => byT_perm hl
    have p : (minL x).Perm (minL t) := by
      refine minL_perm.trans ?_
      rw [hb]
      exact (hh.map _).trans minL_perm.symm
    exact p.eq_of_pairwise (fun a b _ _ h1 h2 => by omega) minL_sorted minL_sorted
  rw [late_iff, late_iff, e, hc, hh.length_eq]
end Go.Am

/- A town whose homes and halls are turned: its plans are those of the town, with other numbers. -/
namespace Go.Am
open Go.RowKit Go.Proofs
set_option linter.unusedSimpArgs false
set_option linter.unusedVariables false

/-- Where an element was, and where it goes. -/
def wasN (n k j : Nat) : Nat := if j + k < n then j + k else j + k - n
def nowN (n k h : Nat) : Nat := if k ≤ h then h - k else h + (n - k)
theorem rot_was {α : Type} {l : List α} {k j : Nat} {d : α} (hk : k ≤ l.length) (hj : j < l.length) : (rot l k).getD j d = l.getD (wasN l.length k j) d := by
  rw [rot_getD hk hj]
  unfold wasN
  split
  · rename_i h; rw [Nat.mod_eq_of_lt h]
  · rw [Nat.mod_eq_sub_mod (by omega), Nat.mod_eq_of_lt (by omega)]
theorem wasN_lt {n k j : Nat} (hk : k ≤ n) (hj : j < n) : wasN n k j < n := by unfold wasN; split <;> omega
theorem nowN_lt {n k h : Nat} (hk : k ≤ n) (hh : h < n) : nowN n k h < n := by unfold nowN; split <;> omega
theorem was_now {n k h : Nat} (hk : k ≤ n) (hh : h < n) : wasN n k (nowN n k h) = h := by unfold wasN nowN; split <;> split <;> omega
theorem now_was {n k h : Nat} (hk : k ≤ n) (hh : h < n) : nowN n k (wasN n k h) = h := by unfold wasN nowN; split <;> split <;> omega
theorem was_inj {n k a b : Nat} (hk : k ≤ n) (ha : a < n) (hb : b < n) (h : wasN n k a = wasN n k b) : a = b := by
  have := now_was hk ha; rw [h, now_was hk hb] at this; exact this.symm

def turnT (t : Town) (k i : Nat) : Town := ⟨rot t.homes k, rot t.halls i, t.seats, t.clo, t.chi⟩
def reL (n k : Nat) (l : List Int) : List Int := (l.filter (fun y => decide ((k : Int) ≤ y))).map (fun y : Int => y - (k : Int)) ++ (l.filter (fun y => decide (y < (k : Int)))).map (fun y : Int => y + ((n - k : Nat) : Int))
def reB (t : Town) (k i : Nat) (b : Bus) : Bus := ⟨b.leave, (nowN t.halls.length i b.hall.toNat : Nat), reL t.homes.length k b.homes⟩
theorem reL_mem {n k : Nat} {l : List Int} (hk : k ≤ n) (hl : ∀ x ∈ l, 0 ≤ x ∧ x < n) {j : Nat} (hj : j < n) : (j : Int) ∈ reL n k l ↔ ((wasN n k j : Nat) : Int) ∈ l := by
  simp only [reL, List.mem_append, List.mem_map, List.mem_filter, decide_eq_true_eq]
  unfold wasN
  constructor
  · rintro (⟨y, ⟨h1, h2⟩, h3⟩ | ⟨y, ⟨h1, h2⟩, h3⟩)
    · have := hl y h1
      rw [if_pos (by omega), show ((j + k : Nat) : Int) = y by omega]; exact h1
    · have := hl y h1
      rw [if_neg (by omega), show ((j + k - n : Nat) : Int) = y by omega]; exact h1
  · split
    · intro h
      exact .inl ⟨_, ⟨h, by omega⟩, by omega⟩
    · intro h
      exact .inr ⟨_, ⟨h, by omega⟩, by omega⟩
theorem reL_in {n k : Nat} {l : List Int} (hk : k ≤ n) (hl : ∀ x ∈ l, 0 ≤ x ∧ x < n) : ∀ y ∈ reL n k l, 0 ≤ y ∧ y < n := by
  intro y hy
  simp only [reL, List.mem_append, List.mem_map, List.mem_filter, decide_eq_true_eq] at hy
  rcases hy with (⟨z, ⟨h1, h2⟩, h3⟩ | ⟨z, ⟨h1, h2⟩, h3⟩)
  · have := hl z h1; omega
  · have := hl z h1; omega
theorem reL_pw {n k : Nat} {l : List Int} (hk : k ≤ n) (hl : ∀ x ∈ l, 0 ≤ x ∧ x < n) (hp : l.Pairwise (· < ·)) : (reL n k l).Pairwise (· < ·) := by
  unfold reL
  rw [List.pairwise_append]
  refine ⟨?_, ?_, fun a ha b hb => ?_⟩
  · rw [List.pairwise_map]
    exact (hp.filter _).imp (fun h => by omega)
  · rw [List.pairwise_map]
    exact (hp.filter _).imp (fun h => by omega)
  · simp only [List.mem_map, List.mem_filter, decide_eq_true_eq] at ha hb
    obtain ⟨x, ⟨h1, h2⟩, h3⟩ := ha
    obtain ⟨y, ⟨h4, h5⟩, h6⟩ := hb
    have := hl x h1
    have := hl y h4
    omega
theorem pw_rise {l : List Int} (h : l.Pairwise (· < ·)) : riseB l := by
  rw [List.pairwise_iff_getElem] at h
  intro i h0 hi
  have := h (i - 1) i (by omega) hi (by omega)
  simpa [List.getD_eq_getElem?_getD, hi, show i - 1 < l.length by omega] using this
theorem ppl_app {t : Town} : ∀ {a b : List Int}, ppl t (a ++ b) = ppl t a + ppl t b
  | [], b => by simp [ppl_nil]
  | x :: a, b => by
    rw [List.cons_append, ppl_cons, ppl_cons, ppl_app (a := a)]; omega
section
variable {t : Town} {k i : Nat} (hk : k ≤ t.homes.length) (hi : i ≤ t.halls.length)
include hk
theorem turn_home {j : Nat} (hj : j < t.homes.length) : (turnT t k i).homes.getD j default = t.homes.getD (wasN t.homes.length k j) default := rot_was hk hj
theorem turn_hlen : (turnT t k i).homes.length = t.homes.length := rot_length hk
theorem turn_ppl : ∀ {l : List Int}, (∀ x ∈ l, 0 ≤ x ∧ x < t.homes.length) → ppl (turnT t k i) (reL t.homes.length k l) = ppl t l
  | [], _ => by simp [reL, ppl_nil]
  | x :: l, hl => by
    have ih := turn_ppl (l := l) (fun y hy => hl y (List.mem_cons_of_mem _ hy))
    have hx := hl x List.mem_cons_self
    rw [ppl_cons]
    by_cases h : (k : Int) ≤ x
    · have e : reL t.homes.length k (x :: l) = (x - k) :: reL t.homes.length k l := by
        simp only [reL]
        rw [List.filter_cons_of_pos (by simpa using h), List.filter_cons_of_neg (by simp; omega), List.map_cons, List.cons_append]
      have e2 : peo (turnT t k i) (x - k).toNat = peo t x.toNat := by
        unfold peo
        rw [turn_home hk (by omega)]
        congr 2
        unfold wasN
        rw [if_pos (by omega)]; omega
      rw [e, ppl_cons, ih, e2]
    · have e : ppl (turnT t k i) (reL t.homes.length k (x :: l)) = ppl (turnT t k i) (reL t.homes.length k l) + peo (turnT t k i) (x + (t.homes.length - k : Nat)).toNat := by
        simp only [reL]
        rw [List.filter_cons_of_neg (by simp; omega), List.filter_cons_of_pos (by simp; omega), List.map_cons, ppl_app, ppl_app, ppl_cons]
        omega
      have e2 : peo (turnT t k i) (x + (t.homes.length - k : Nat)).toNat = peo t x.toNat := by
        unfold peo
        rw [turn_home hk (by omega)]
        congr 2
        unfold wasN
        rw [if_neg (by omega)]; omega
      rw [e, ih, e2]; omega
include hi
omit hk in
theorem turn_hall {j : Nat} (hj : j < t.halls.length) : (turnT t k i).halls.getD j default = t.halls.getD (wasN t.halls.length i j) default := rot_was hi hj
omit hk in
theorem turn_llen : (turnT t k i).halls.length = t.halls.length := rot_length hi
theorem turn_ok (ht : TownOK t) : TownOK (turnT t k i) := by
  have e1 := turn_hlen (i := i) hk
  have e2 := turn_llen (k := k) hi
  refine ⟨by rw [e1]; exact ht.homes, by rw [e2]; exact ht.halls, ht.seats, ht.call, fun j hj => ?_, fun j hj => ?_⟩
  · rw [e1] at hj
    rw [turn_home hk hj]
    exact ht.home _ (wasN_lt hk hj)
  · rw [e2] at hj
    rw [turn_hall hi hj]
    exact ht.hall _ (wasN_lt hi hj)
omit hi in
theorem turn_worst {j : Nat} (hj : j < t.homes.length) : worstN (turnT t k i) ((turnT t k i).homes.getD j default) = worstN t (t.homes.getD (wasN t.homes.length k j) default) := by
  rw [turn_home hk hj]
  unfold worstN
  rw [turn_hlen hk]
  rfl
theorem turn_one {b : Bus} (h : OneP t b) : OneP (turnT t k i) (reB t k i b) := by
  obtain ⟨hg, hr⟩ := h
  have e1 := turn_hlen (i := i) hk
  have e2 := turn_llen (k := k) hi
  have hh := hg.hall
  have hx := hg.homes
  have hy := hg.may
  simp only [mayB, Bool.and_eq_true, decide_eq_true_eq, List.all_eq_true] at hy
  obtain ⟨⟨y1, y2⟩, y3⟩ := hy
  have hin := reL_in hk hx
  have hmem : ∀ y ∈ reL t.homes.length k b.homes, ((wasN t.homes.length k y.toNat : Nat) : Int) ∈ b.homes := fun y hm => by
    have h1 := hin y hm
    refine (reL_mem hk hx (by omega)).1 ?_
    rw [show ((y.toNat : Nat) : Int) = y by omega]; exact hm
  have hhl : nowN t.halls.length i b.hall.toNat < t.halls.length := nowN_lt hi (by omega)
  have ehall : (turnT t k i).halls.getD ((nowN t.halls.length i b.hall.toNat : Nat) : Int).toNat default = t.halls.getD b.hall.toNat default := by
    rw [Int.toNat_natCast, turn_hall hi hhl, was_now hi (by omega)]
  refine ⟨⟨hg.leave, ⟨Int.natCast_nonneg _, ?_⟩, ?_, ?_, ?_⟩, pw_rise (reL_pw hk hx (rise_pw hr))⟩
  · rw [e2]
    show ((nowN t.halls.length i b.hall.toNat : Nat) : Int) ≤ _
    omega
  · have hp := List.length_pos_iff.2 hg.some
    have hm := getD_mem (d := 0) (i := 0) hp
    have hb := hx _ hm
    have : ((nowN t.homes.length k (b.homes.getD 0 0).toNat : Nat) : Int) ∈ reL t.homes.length k b.homes := by
      rw [reL_mem hk hx (nowN_lt hk (by omega)), was_now hk (by omega), show (((b.homes.getD 0 0).toNat : Nat) : Int) = b.homes.getD 0 0 by omega]
      exact hm
    exact List.ne_nil_of_mem this
  · rw [e1]; exact hin
  · simp only [mayB, Bool.and_eq_true, decide_eq_true_eq, List.all_eq_true]
    refine ⟨⟨?_, fun y hm => ?_⟩, fun y hm => ?_⟩
    · have e := turn_ppl (i := i) hk hx
      show ppl (turnT t k i) (reL t.homes.length k b.homes) ≤ t.seats
      rw [e]; exact y1
    · have z := y2 _ (hmem y hm)
      have r := hin y hm
      simp only [sheB, decide_eq_true_eq] at z ⊢
      rw [Int.toNat_natCast] at z
      show andn ((turnT t k i).homes.getD y.toNat default).pets ((turnT t k i).halls.getD ((nowN t.halls.length i b.hall.toNat : Nat) : Int).toNat default).pets = 0
      rw [ehall, turn_home hk (by omega)]
      exact z
    · have z := y3 _ (hmem y hm)
      have r := hin y hm
      have hw := wasN_lt hk (show y.toNat < t.homes.length by omega)
      simp only [timB, decide_eq_true_eq] at z ⊢
      rw [worst_at (t := t) (by omega), Int.toNat_natCast] at z
      rw [worst_at (t := turnT t k i) (by rw [e1]; exact r), turn_worst hk (by omega), turn_home hk (by omega)]
      show _ ∧ b.leave + ((turnT t k i).halls.getD ((nowN t.halls.length i b.hall.toNat : Nat) : Int).toNat default).drive ≤ _
      rw [ehall]
      exact z
theorem turn_right (ht : TownOK t) {P : List Bus} (hq : rightB t P = true) : rightB (turnT t k i) (P.map (reB t k i)) = true := by
  have R := (refR_iff ht).1 hq
  have e1 := turn_hlen (i := i) hk
  have e2 := turn_llen (k := k) hi
  have eP : ∀ j, j < P.length → (P.map (reB t k i)).getD j default = reB t k i (P.getD j default) := fun j hj => by
    simp [List.getD_eq_getElem?_getD, hj]
  refine (refR_iff (turn_ok hk hi ht)).2 ⟨by rw [List.length_map]; exact R.len, fun j hj => ?_, fun h hh => ?_, fun j hj => ?_⟩
  · rw [List.length_map] at hj
    rw [eP j hj]
    exact turn_one hk hi (R.one j hj)
  · rw [e1] at hh
    rw [← R.cnt _ (wasN_lt hk hh), List.length_map]
    refine sumN_congr fun j hj => ?_
    rw [eP j hj]
    have hm := reL_mem hk (R.one j hj).1.homes hh
    show (if (h : Int) ∈ reL t.homes.length k (P.getD j default).homes then (1 : Int) else 0) = _
    by_cases h9 : ((wasN t.homes.length k h : Nat) : Int) ∈ (P.getD j default).homes
    · rw [if_pos h9, if_pos (hm.2 h9)]
    · rw [if_neg h9, if_neg (fun h8 => h9 (hm.1 h8))]
  · rw [e2] at hj
    rw [turn_hall hi hj]
    have hr := R.roo _ (wasN_lt hi hj)
    have e : roomN (turnT t k i) (P.map (reB t k i)) (P.map (reB t k i)).length j = roomN t P P.length (wasN t.halls.length i j) := by
      rw [List.length_map]
      refine sumN_congr fun a ha => ?_
      rw [eP a ha]
      have hb := R.one a ha
      have hh := hb.1.hall
      have e3 := turn_ppl (i := i) hk hb.1.homes
      show (if ((nowN t.halls.length i (P.getD a default).hall.toNat : Nat) : Int).toNat = j then ppl (turnT t k i) (reL t.homes.length k (P.getD a default).homes) else 0) = _
      rw [e3, Int.toNat_natCast]
      by_cases h9 : (P.getD a default).hall.toNat = wasN t.halls.length i j
      · rw [if_pos h9, h9, now_was hi hj, if_pos rfl]
      · rw [if_neg h9, if_neg]
        intro h8
        apply h9
        rw [← h8, was_now hi (by omega)]
    omega
end
theorem turn_turn {t : Town} {k i : Nat} (hk : k ≤ t.homes.length) (hi : i ≤ t.halls.length) : turnT (turnT t k i) (t.homes.length - k) (t.halls.length - i) = t := by
  unfold turnT
  simp only [rot_rot hk, rot_rot hi]
theorem turn_plan1 {t : Town} {k i : Nat} (hk : k ≤ t.homes.length) (hi : i ≤ t.halls.length) (h0 : faultT t = 0) (hE : planE t = 0) : planE (turnT t k i) = 0 ∧ (planL (turnT t k i)).length ≤ (planL t).length := by
  have ht := faultT_zero h0
  have hq := turn_right hk hi ht (plan_right h0 hE).1
  have hx := townOK_fault (turn_ok hk hi ht)
  obtain ⟨f1, f2⟩ := plan_few hx hq
  have f3 := (plan_right hx f2).2
  rw [List.length_map] at f1
  exact ⟨f2, by omega⟩
theorem turn_plan {t : Town} {k i : Nat} (hk : k ≤ t.homes.length) (hi : i ≤ t.halls.length) (h0 : faultT t = 0) : planE (turnT t k i) = planE t ∧ (planE t = 0 → (planL (turnT t k i)).length = (planL t).length) := by
  have ht := faultT_zero h0
  have hx := townOK_fault (turn_ok hk hi ht)
  have e1 := turn_hlen (i := i) hk
  have e2 := turn_llen (k := k) hi
  have back := turn_plan1 (t := turnT t k i) (k := t.homes.length - k) (i := t.halls.length - i) (by rw [e1]; omega) (by rw [e2]; omega) hx
  rw [turn_turn hk hi] at back
  by_cases hE : planE t = 0
  · have f := turn_plan1 hk hi h0 hE
    have b := back f.1
    exact ⟨by rw [f.1, hE], fun _ => by omega⟩
  · have h9 := planE_nine h0 hE
    have hE2 : planE (turnT t k i) ≠ 0 := fun h => hE (back h).1
    exact ⟨by rw [h9, planE_nine hx hE2], fun h => absurd h hE⟩
theorem turn_order {t : Town} {k i : Nat} (hk : k ≤ t.homes.length) (hi : i ≤ t.halls.length) (h0 : faultT t = 0) : orderE (turnT t k i) = orderE t := by
  have ht := faultT_zero h0
  have hx := townOK_fault (turn_ok hk hi ht)
  have hl := late_perm (t := t) (x := turnT t k i) rot_perm rot_perm rfl
  unfold orderE
  rw [h0, hx]
  simp only [hl]
theorem orderE_two {t : Town} (h0 : faultT t = 0) : orderE t = 0 ∨ orderE t = 11 := by
  unfold orderE
  rw [h0]
  simp only [ne_eq, not_true_eq_false, if_false]
  split
  · exact .inr rfl
  · exact .inl rfl
theorem turn_wl {t : Town} {k i : Nat} (hk : k ≤ t.homes.length) (hi : i ≤ t.halls.length) {j : Nat} (hj : j < t.homes.length) : (worstL (turnT t k i)).getD j 0 = (worstL t).getD ((j + k) % t.homes.length) 0 := by
  have e1 := turn_hlen (i := i) hk
  have e : (j + k) % t.homes.length = wasN t.homes.length k j := by
    unfold wasN
    split
    · rename_i h; rw [Nat.mod_eq_of_lt h]
    · rw [Nat.mod_eq_sub_mod (by omega), Nat.mod_eq_of_lt (by omega)]
  have hw := wasN_lt hk hj
  have a1 := worst_at (t := turnT t k i) (x := (j : Int)) (by rw [e1]; omega)
  have a2 := worst_at (t := t) (x := (wasN t.homes.length k j : Nat)) (by omega)
  rw [Int.toNat_natCast] at a1 a2
  rw [e, a1, a2, turn_worst hk hj]
end Go.Am

/- Windows of lists of records, for AwayTurned. -/
namespace Go.Am
open Go.RowKit Go.Proofs
attribute [local irreducible] AWP CallS Kt goK CallK stepK evOps SemF SemY Imp
set_option maxRecDepth 4000
set_option linter.unusedSimpArgs false
set_option linter.unusedVariables false
set_option maxHeartbeats 3200000

section
variable {α : Type} {enc : α → List AV} {sz : Nat} {l : List α}
theorem recs_app {a b : List α} : recs enc (a ++ b) = recs enc a ++ recs enc b := List.flatMap_append
theorem win_take (he : ∀ a, (enc a).length = sz) {k : Nat} (hk : k ≤ l.length) : window (recs enc l) 0 (k * sz) = recs enc (l.take k) := by
  rw [window, List.drop_zero]
  have e : recs enc l = recs enc (l.take k) ++ recs enc (l.drop k) := by rw [← recs_app, List.take_append_drop]
  have e2 : (recs enc (l.take k)).length = k * sz := by rw [recs_length he, List.length_take, Nat.min_eq_left hk]
  rw [e, ← e2, List.take_left]
theorem win_drop (he : ∀ a, (enc a).length = sz) {k n : Nat} (hk : k ≤ l.length) (hn : n = l.length - k) : window (recs enc l) (k * sz) (n * sz) = recs enc (l.drop k) := by
  rw [window, recs_drop he, List.take_of_length_le]
  rw [recs_length he, List.length_drop, hn]
  exact Nat.le_refl _
end
end Go.Am
