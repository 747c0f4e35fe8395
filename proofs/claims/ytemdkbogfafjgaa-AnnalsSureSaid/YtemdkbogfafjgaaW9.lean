/- Parts UeC, UiD, UjE, UjI, UjJ of the proof, one behind the other. No statement is proved here. -/
import Derived.Test.YtemdkbogfafjgaaW5
import Derived.Test.YtemdkbogfafjgaaW8
import Derived.Test.YtemdkbogfafjgaaW7
set_option linter.unusedVariables false -- all
set_option linter.unusedSimpArgs false
/- Contracts of the annals functions: two reports, as one visit tells. -/
namespace Go.Am
open Go.RowKit Go.Proofs
attribute [local irreducible] AWP CallS Kt goK CallK stepK evOps SemF SemY Imp
set_option maxRecDepth 4000
set_option linter.unusedSimpArgs false
set_option linter.unusedVariables false
set_option maxHeartbeats 1600000
structure SuP where
  a : Int
  b : Int
def suIn (t : Ann) (p : SuP) : Prop := (0 ≤ p.a ∧ p.a < t.reports.length) ∧ (0 ≤ p.b ∧ p.b < t.reports.length)
def suOK (p : SuP) (v : Bool × Bool) : Prop := True
def suS (p : SuP) (v : Bool × Bool) (pl dy : List Int) : (Bool × Bool) × Bool :=
  if pl.getD p.a.toNat 0 = pl.getD p.b.toNat 0 then ((true, v.2), !v.2) else ((v.1, true), !v.1)
theorem su_ok (t : Ann) (p : SuP) : ∀ (v : Bool × Bool) (pl dy : List Int), suOK p v → PDOK pl dy → suOK p (suS p v pl dy).1 := fun _ _ _ _ _ => trivial
theorem su_c (t : Ann) (p : SuP) (v : Bool × Bool) (pl dy : List Int) (K : List (Key × Bool)) (ht : AnnOK t) (hp : suIn t p) (hv : suOK p v) (hd : PDOK pl dy) :
    SemF Try.prog 64 [.ptr 4 0 0, .ptr 0 0 0, .ptr 1 0 0, .ptr 2 0 0, .ptr 3 0 0] [some (.cells 3 1 0 [.int .i64 p.a]), some (.cells 3 1 0 [.int .i64 p.b]), some (.cells 4 1 0 [.bool v.1]), some (.cells 4 1 0 [.bool v.2]), some (.cells 115 1 0 (seG t 5 pl dy)), some (.map (kmC K))] (.bool (suS p v pl dy).2)
      [some (.cells 3 1 0 [.int .i64 p.a]), some (.cells 3 1 0 [.int .i64 p.b]), some (.cells 4 1 0 [.bool (suS p v pl dy).1.1]), some (.cells 4 1 0 [.bool (suS p v pl dy).1.2]), some (.cells 115 1 0 (seG t 5 pl dy)), some (.map (kmC K))] := by
  have hr := ht.reports
  have h1 := hd.lpl
  have h2 := hd.ldy
  obtain ⟨a, b⟩ := p
  obtain ⟨⟨a0, a1⟩, b0, b1⟩ := hp
  simp only at a0 a1 b0 b1
  obtain ⟨i, rfl⟩ := Int.eq_ofNat_of_zero_le a0
  obtain ⟨j, rfl⟩ := Int.eq_ofNat_of_zero_le b0
  obtain ⟨sm, ap⟩ := v
  have hi := fun x y z u K => se_pl (x := x) (y := y) (z := z) (u := u) (S := pl) (F := dy) (i := i) (K := K) (by omega)
  have hj := fun x y z u K => se_pl (x := x) (y := y) (z := z) (u := u) (S := pl) (F := dy) (i := j) (K := K) (by omega)
  unfold suS
  simp only [Int.toNat_natCast]
  by_cases he : pl.getD i 0 = pl.getD j 0
  · simp only [he, if_true]
    simp only [seG, slR, slC]
    (refine semF_of_awp (ys := [.bool (!ap)]) (fun w args => Try.call64 ..) Try.func64 rfl (fun w0 m0 wz => ?_); simp only [Try.ntmps64, Try.results64, initT, junks, rptC, clmC, slR, slC, annC, sl, List.toList_toArray, List.cons_append, List.nil_append, List.length_cons, List.length_nil, Nat.reduceAdd, Nat.reduceSub])
    (repeat' (first
    | ((omega))
    | ((exfalso; omega))
    | (refine awp_seqK ?_)
    | (refine kt ?_)
    | (refine And.intro ?_ ?_)
    | ((first | refine awp_region ?_ | refine awp_draw (by kernel_rfl) (by kernel_rfl) ?_ | refine Imp.le2 ?_ | refine awp_label ?_ | refine awp_skip ?_ | refine awp_exit ?_ | refine awp_cd ?_ | refine awp_ret ?_ | refine go_split (fun _h => ?_) (fun _h => ?_)) <;> try simp (maxSteps := 4000000) only [go_sem, seval, hi, hj, he, decide_true])
    | (intro _h)
    | (refine awp_block ?_)
    | (refine awp_scope ?_)
    | (refine cond_b (fun _h => ?_) (fun _h => ?_))
    | (show heapOK _ _ = true; kernel_rfl)
    | (show heapOK2 _ _ = true; kernel_rfl)
    | (omega)))
    all_goals (rw [_h]; rfl)
  · simp only [he, if_false]
    simp only [seG, slR, slC]
    (refine semF_of_awp (ys := [.bool (!sm)]) (fun w args => Try.call64 ..) Try.func64 rfl (fun w0 m0 wz => ?_); simp only [Try.ntmps64, Try.results64, initT, junks, rptC, clmC, slR, slC, annC, sl, List.toList_toArray, List.cons_append, List.nil_append, List.length_cons, List.length_nil, Nat.reduceAdd, Nat.reduceSub])
    (repeat' (first
    | ((omega))
    | ((exfalso; omega))
    | (refine awp_seqK ?_)
    | (refine kt ?_)
    | (refine And.intro ?_ ?_)
    | ((first | refine awp_region ?_ | refine awp_draw (by kernel_rfl) (by kernel_rfl) ?_ | refine Imp.le2 ?_ | refine awp_label ?_ | refine awp_skip ?_ | refine awp_exit ?_ | refine awp_cd ?_ | refine awp_ret ?_ | refine go_split (fun _h => ?_) (fun _h => ?_)) <;> try simp (maxSteps := 4000000) only [go_sem, seval, hi, hj, he, decide_false])
    | (intro _h)
    | (refine awp_block ?_)
    | (refine awp_scope ?_)
    | (refine cond_b (fun _h => ?_) (fun _h => ?_))
    | (show heapOK _ _ = true; kernel_rfl)
    | (show heapOK2 _ _ = true; kernel_rfl)
    | (omega)))
    all_goals (rw [_h]; rfl)
end Go.Am

/- Plain words: what is sure, by right chronicles. No program is in sight. -/
namespace Go.Am
open Go.RowKit Go.Proofs
set_option linter.unusedSimpArgs false
set_option linter.unusedVariables false
def suV (t : Ann) (p : SuP) : Bool × Bool := (allM t (suS p) (false, false)).2.v
def eqQ (p : SuP) (q : List Int × List Int) : Bool := decide (q.1.getD p.a.toNat 0 = q.1.getD p.b.toNat 0)
theorem su_vis {p : SuP} : ∀ {l : List (List Int × List Int)} {v : Bool × Bool}, (visL (gOf (suS p)) l v).1 = (v.1 || l.any (eqQ p), v.2 || l.any fun q => !eqQ p q)
  | [], (a, b) => by simp [visL]
  | q :: l, (a, b) => by
    simp only [visL, List.any_cons]
    have ih := fun v => su_vis (p := p) (l := l) (v := v)
    have hg : gOf (suS p) (a, b) q = if eqQ p q = true then ((true, b), !b) else ((a, true), !a) := by
      unfold gOf suS eqQ
      simp only [decide_eq_true_eq]
    rw [hg]
    cases he : eqQ p q with
    | true =>
      simp only [if_true, ih]
      cases b <;> simp [ih]
    | false =>
      simp only [Bool.false_eq_true, if_false, ih]
      cases a <;> simp [ih]
theorem su_resp {t : Ann} {p : SuP} (hp : suIn t p) : Resp t (suS p) := fun v pl dy pl' dy' h1 _ => by
  obtain ⟨⟨a0, a1⟩, b0, b1⟩ := hp
  unfold suS
  rw [h1 p.a.toNat (by omega), h1 p.b.toNat (by omega)]
structure SureS (t : Ann) (i k : Nat) (v : Bool × Bool) : Prop where
  one : v.1 = true ↔ ∃ C D, Chr t C D ∧ C i = C k
  other : v.2 = true ↔ ∃ C D, Chr t C D ∧ C i ≠ C k
theorem suV_spec {t : Ann} (ht : AnnOK t) {p : SuP} (hp : suIn t p) : SureS t p.a.toNat p.b.toNat (suV t p) := by
  have h := all_spec ht (su_resp hp) (false, false)
  rw [su_vis] at h
  obtain ⟨⟨a0, a1⟩, b0, b1⟩ := hp
  have e : suV t p = (false || ((runsA t).map (canon t)).any (eqQ p), false || ((runsA t).map (canon t)).any fun q => !eqQ p q) := h
  rw [e]
  have hq : ∀ r, eqQ p (canon t r) = decide (placeOf 0 r p.a.toNat = placeOf 0 r p.b.toNat) := fun r => by
    unfold eqQ canon
    simp only
    rw [tabD (by omega), tabD (by omega)]
  simp only [Bool.false_or]
  constructor
  · rw [List.any_eq_true]
    constructor
    · rintro ⟨q, hq1, hq2⟩
      obtain ⟨r, hr, rfl⟩ := List.mem_map.1 hq1
      rw [hq r] at hq2
      exact ⟨_, _, runs_chr ht hr, of_decide_eq_true hq2⟩
    · rintro ⟨C, D, hc, he⟩
      obtain ⟨r, hr, _, h3⟩ := chr_runs ht hc
      exact ⟨_, List.mem_map.2 ⟨r, hr, rfl⟩, by rw [hq r]; exact decide_eq_true ((h3 _ _ (by omega) (by omega)).2 he)⟩
  · rw [List.any_eq_true]
    constructor
    · rintro ⟨q, hq1, hq2⟩
      obtain ⟨r, hr, rfl⟩ := List.mem_map.1 hq1
      rw [hq r] at hq2
      exact ⟨_, _, runs_chr ht hr, by simpa using hq2⟩
    · rintro ⟨C, D, hc, he⟩
      obtain ⟨r, hr, _, h3⟩ := chr_runs ht hc
      refine ⟨_, List.mem_map.2 ⟨r, hr, rfl⟩, ?_⟩
      rw [hq r]
      have : ¬ placeOf 0 r p.a.toNat = placeOf 0 r p.b.toNat := fun h => he ((h3 _ _ (by omega) (by omega)).1 h)
      simp [this]
end Go.Am

/- Plain words: annals of which each right chronicle is one of others (one claim more; another order). No program is in sight. -/
namespace Go.Am
open Go.RowKit Go.Proofs
set_option linter.unusedSimpArgs false
set_option linter.unusedVariables false
theorem len_sub {α : Type} [DecidableEq α] : ∀ {l r : List α}, l.Pairwise (· ≠ ·) → (∀ x ∈ l, x ∈ r) → l.length ≤ r.length
  | [], _, _, _ => Nat.zero_le _
  | x :: l, r, hn, hs => by
    have h1 := List.pairwise_cons.1 hn
    have hx : x ∈ r := hs x (by simp)
    have h2 := len_sub (l := l) (r := r.erase x) h1.2 (fun y hy => (List.mem_erase_of_ne (fun e => h1.1 y hy e.symm)).2 (hs y (by simp [hy])))
    rw [List.length_erase_of_mem hx] at h2
    have : 0 < r.length := List.length_pos_of_mem hx
    simp only [List.length_cons]; omega
theorem srt_pw {l : List (List Int)} (h : Srt l) : l.Pairwise (· ≠ ·) := by
  rw [List.pairwise_iff_getElem]
  intro i j hi hj hij e
  have h1 := h i j hij hj
  simp only [List.getD_eq_getElem?_getD, List.getElem?_eq_getElem hi, List.getElem?_eq_getElem hj, Option.getD_some, e] at h1
  rw [cmpL_eq.2 rfl] at h1; omega
structure SlI (pl : List Int) (k : Nat) : Prop where
  lt : ∀ x v, gmGet (slK pl k).1 x = some v → 0 ≤ v ∧ v < (slK pl k).1.length
  inj : ∀ x y v, gmGet (slK pl k).1 x = some v → gmGet (slK pl k).1 y = some v → x = y
  val : ∀ i, i < k → gmGet (slK pl k).1 (pl.getD i 0) = some ((slK pl k).2.getD i 0)
theorem slK_inv {pl : List Int} : ∀ k, SlI pl k
  | 0 => ⟨fun x v h => by simp [slK, gmGet] at h, fun x y v h => by simp [slK, gmGet] at h, fun i hi => by omega⟩
  | k + 1 => by
    have ih := slK_inv (pl := pl) k
    have hl := slK_length (pl := pl) (k := k)
    obtain ⟨h1, h2, h3⟩ := ih
    have hap : ∀ (v : Int) i, i < k + 1 → ((slK pl k).2 ++ [v]).getD i 0 = if i = k then v else (slK pl k).2.getD i 0 := fun v i hi => by
      simp only [List.getD_eq_getElem?_getD]
      by_cases e : i = k
      · subst e; rw [if_pos rfl, List.getElem?_append_right (by omega), hl, Nat.sub_self]; rfl
      · rw [if_neg e, List.getElem?_append_left (by omega)]
    constructor
    · intro x v h
      simp only [slK] at h ⊢
      cases hg : gmGet (slK pl k).1 (pl.getD k 0) with
      | some n => rw [hg] at h; exact h1 x v h
      | none =>
        rw [hg] at h
        simp only at h ⊢
        rw [gmPut_len hg]
        rw [gmGet_put] at h
        split at h
        · cases h; omega
        · have := h1 x v h; omega
    · intro x y v hx hy
      simp only [slK] at hx hy
      cases hg : gmGet (slK pl k).1 (pl.getD k 0) with
      | some n => rw [hg] at hx hy; exact h2 x y v hx hy
      | none =>
        rw [hg] at hx hy
        simp only at hx hy
        rw [gmGet_put] at hx hy
        split at hx <;> split at hy
        · rename_i e1 e2; rw [← e1, ← e2]
        · have := h1 y v hy; cases hx; omega
        · have := h1 x v hx; cases hy; omega
        · exact h2 x y v hx hy
    · intro i hi
      simp only [slK]
      cases hg : gmGet (slK pl k).1 (pl.getD k 0) with
      | some n =>
        simp only
        rw [hap n i hi]
        by_cases e : i = k
        · subst e; rw [if_pos rfl, hg]
        · rw [if_neg e]; exact h3 i (by omega)
      | none =>
        simp only
        rw [hap _ i hi, gmGet_put]
        by_cases e : i = k
        · subst e; rw [if_pos rfl, if_pos rfl]
        · rw [if_neg e]
          have h4 := h3 i (by omega)
          by_cases e2 : pl.getD k 0 = pl.getD i 0
          · rw [e2, h4] at hg; cases hg
          · rw [if_neg e2]; exact h4
theorem SL_eq {N : Nat} {C : Nat → Int} {i k : Nat} (hi : i < N) (hk : k < N) : (SL N C).getD i 0 = (SL N C).getD k 0 ↔ C i = C k := by
  obtain ⟨h1, h2, h3⟩ := slK_inv (pl := tab N C) N
  have hi2 := h3 i hi
  have hk2 := h3 k hk
  rw [tabD hi] at hi2
  rw [tabD hk] at hk2
  constructor
  · intro e
    have e : (slK (tab N C) N).2.getD i 0 = (slK (tab N C) N).2.getD k 0 := e
    rw [e] at hi2
    exact h2 _ _ _ hi2 hk2
  · intro e
    rw [e, hk2] at hi2
    exact (Option.some.inj hi2).symm
structure Wid (t u : Ann) (σ : Nat → Nat) : Prop where
  lt : ∀ j, j < t.reports.length → σ j < u.reports.length
  on : ∀ i, i < u.reports.length → ∃ j, j < t.reports.length ∧ σ j = i
  chr : ∀ C D, Chr u C D → Chr t (fun j => C (σ j)) (fun j => D (σ j))
section
variable {t u : Ann} {σ : Nat → Nat} (h : Wid t u σ) (ht : AnnOK t) (hu : AnnOK u)
include h ht hu
theorem Wid.fd (hv : (fiV u).1 = true) : (fiV t).1 = true := by
  obtain ⟨C, D, hc⟩ := (fiV_spec hu).fd.1 hv
  exact (fiV_spec ht).fd.2 ⟨_, _, h.chr _ _ hc⟩
theorem Wid.one {i k : Nat} (hi : i < t.reports.length) (hk : k < t.reports.length) (hv : (suV u ⟨(σ i : Nat), (σ k : Nat)⟩).1 = true) : (suV t ⟨i, k⟩).1 = true := by
  have h1 := suV_spec hu (p := ⟨(σ i : Nat), (σ k : Nat)⟩) ⟨⟨by simp, by simpa using h.lt i hi⟩, by simp, by simpa using h.lt k hk⟩
  have h2 := suV_spec ht (p := ⟨i, k⟩) ⟨⟨by simp, by simpa using hi⟩, by simp, by simpa using hk⟩
  simp only [Int.toNat_natCast] at h1 h2
  obtain ⟨C, D, hc, e⟩ := h1.one.1 hv
  exact h2.one.2 ⟨_, _, h.chr _ _ hc, e⟩
theorem Wid.other {i k : Nat} (hi : i < t.reports.length) (hk : k < t.reports.length) (hv : (suV u ⟨(σ i : Nat), (σ k : Nat)⟩).2 = true) : (suV t ⟨i, k⟩).2 = true := by
  have h1 := suV_spec hu (p := ⟨(σ i : Nat), (σ k : Nat)⟩) ⟨⟨by simp, by simpa using h.lt i hi⟩, by simp, by simpa using h.lt k hk⟩
  have h2 := suV_spec ht (p := ⟨i, k⟩) ⟨⟨by simp, by simpa using hi⟩, by simp, by simpa using hk⟩
  simp only [Int.toNat_natCast] at h1 h2
  obtain ⟨C, D, hc, e⟩ := h1.other.1 hv
  exact h2.other.2 ⟨_, _, h.chr _ _ hc, e⟩
end
theorem sure_fd {t : Ann} (ht : AnnOK t) {i k : Nat} (hi : i < t.reports.length) (hk : k < t.reports.length) : (fiV t).1 = ((suV t ⟨i, k⟩).1 || (suV t ⟨i, k⟩).2) := by
  have hs := suV_spec ht (p := ⟨i, k⟩) ⟨⟨by simp, by simpa using hi⟩, by simp, by simpa using hk⟩
  have hf := fiV_spec ht
  simp only [Int.toNat_natCast] at hs
  rw [Bool.eq_iff_iff, Bool.or_eq_true, hf.fd, hs.one, hs.other]
  constructor
  · rintro ⟨C, D, hc⟩
    by_cases e : C i = C k
    · exact .inl ⟨C, D, hc, e⟩
    · exact .inr ⟨C, D, hc, e⟩
  · rintro (⟨C, D, hc, _⟩ | ⟨C, D, hc, _⟩) <;> exact ⟨C, D, hc⟩
end Go.Am

/- Plain words: slides that are numbered as they should be; claims that let slides be just some. No program is in sight. -/
namespace Go.Am
open Go.RowKit Go.Proofs
set_option linter.unusedSimpArgs false
set_option linter.unusedVariables false
def nxK (s : List Int) : Nat → Int
  | 0 => 0
  | k + 1 => if s.getD k 0 = nxK s k then nxK s k + 1 else nxK s k
def NumP (s : List Int) (k : Nat) : Prop := ∀ i, i < k → 0 ≤ s.getD i 0 ∧ s.getD i 0 ≤ nxK s i
instance {s : List Int} {k : Nat} : Decidable (NumP s k) := by unfold NumP; infer_instance
def numB (s : List Int) : Bool := decide (NumP s s.length)
theorem nxK_bd {s : List Int} : ∀ k, 0 ≤ nxK s k ∧ nxK s k ≤ k
  | 0 => by simp [nxK]
  | k + 1 => by
    have := nxK_bd (s := s) k
    simp only [nxK]
    split <;> (push_cast; omega)
/-- Slides are numbered. -/
theorem slK_get {pl : List Int} : ∀ {k m i : Nat}, i < k → k ≤ m → (slK pl m).2.getD i 0 = (slK pl k).2.getD i 0 := by
  intro k m i hi hm
  induction m with
  | zero => omega
  | succ m ih =>
    by_cases e : k = m + 1
    · subst e; rfl
    · have hl := slK_length (pl := pl) (k := m)
      rw [← ih (by omega)]
      have hap : ∀ v : Int, ((slK pl m).2 ++ [v]).getD i 0 = (slK pl m).2.getD i 0 := fun v => by
        simp only [List.getD_eq_getElem?_getD]; rw [List.getElem?_append_left (by omega)]
      simp only [slK]
      split <;> exact hap _
theorem sl_nx {pl : List Int} {N : Nat} : ∀ k, k ≤ N → nxK (slK pl N).2 k = (slK pl k).1.length ∧ NumP (slK pl N).2 k
  | 0, _ => ⟨rfl, fun i hi => by omega⟩
  | k + 1, hk => by
    obtain ⟨h1, h2⟩ := sl_nx (pl := pl) (N := N) k (by omega)
    obtain ⟨g1, g2, g3⟩ := slK_inv (pl := pl) k
    have hl := slK_length (pl := pl) (k := k)
    have hap : ∀ v : Int, ((slK pl k).2 ++ [v]).getD k 0 = v := fun v => by
      simp only [List.getD_eq_getElem?_getD]; rw [List.getElem?_append_right (by omega), hl, Nat.sub_self]; rfl
    have hv := slK_get (pl := pl) (i := k) (k := k + 1) (m := N) (by omega) hk
    cases hg : gmGet (slK pl k).1 (pl.getD k 0) with
    | some n =>
      have hv2 : (slK pl N).2.getD k 0 = n := by rw [hv]; simp only [slK, hg]; exact hap n
      have hn := g1 _ _ hg
      refine ⟨?_, fun i hi => ?_⟩
      · simp only [nxK]; rw [hv2, h1, if_neg (by omega)]; simp only [slK, hg]
      · by_cases e : i = k
        · subst e; rw [hv2, h1]; omega
        · exact h2 i (by omega)
    | none =>
      have hv2 : (slK pl N).2.getD k 0 = ((slK pl k).1.length : Int) := by rw [hv]; simp only [slK, hg]; exact hap _
      refine ⟨?_, fun i hi => ?_⟩
      · simp only [nxK]; rw [hv2, h1, if_pos rfl]; simp only [slK, hg]; rw [gmPut_len hg]; push_cast; rfl
      · by_cases e : i = k
        · subst e; rw [hv2, h1]; omega
        · exact h2 i (by omega)
theorem SL_num {N : Nat} {C : Nat → Int} : numB (SL N C) = true := by
  refine decide_eq_true ?_
  have h := (sl_nx (pl := tab N C) (N := N) N (Nat.le_refl _)).2
  intro i hi
  rw [SL_len] at hi
  exact h i hi
end Go.Am

/- Contracts of the annals functions: Numbered, Less, fixed. -/
namespace Go.Am
open Go.RowKit Go.Proofs
attribute [local irreducible] AWP CallS Kt goK CallK stepK evOps SemF SemY Imp
set_option maxRecDepth 4000
set_option linter.unusedSimpArgs false
set_option linter.unusedVariables false
set_option maxHeartbeats 1600000
def ltL (a b : List Int) : Bool := decide (cmpL a b < 0)
theorem ltL_cons {x y : Int} {a b : List Int} : ltL (x :: a) (y :: b) = if x = y then ltL a b else decide (x < y) := by
  unfold ltL
  simp only [cmpL, cmpI]
  by_cases e : x = y
  · subst e; simp
  · rw [if_neg e]
    by_cases e2 : x < y
    · simp [e2]
    · simp [e2, show y < x by omega]
theorem lessR_c (a b : List Int) (ha : a.length ≤ 1000000) (hb : b.length ≤ 1000000) : CallS Try.prog 33 [sl a, sl b] (.bool (ltL a b)) := by
  obtain ⟨r, hr⟩ : ∃ r, ltL a b = r := ⟨_, rfl⟩
  rw [hr]
  simp only [sl]
  (refine callS_of_awp (fun w args => Try.call33 ..) Try.func33 rfl (fun w0 m0 wz => ?_); simp only [Try.ntmps33, Try.results33, initT, junks, rptC, clmC, slR, slC, annC, sl, List.toList_toArray, List.cons_append, List.nil_append, List.length_cons, List.length_nil, Nat.reduceAdd, Nat.reduceSub])
  (repeat' (first
    | (refine awp_seqK ?_)
    | (refine kt ?_)
    | (refine And.intro ?_ ?_)
    | ((first | refine awp_region ?_ | refine awp_draw (by kernel_rfl) (by kernel_rfl) ?_ | refine Imp.le2 ?_ | refine awp_label ?_ | refine awp_skip ?_ | refine awp_exit ?_ | refine awp_cd ?_ | refine awp_ret ?_ | refine go_split (fun _h => ?_) (fun _h => ?_)) <;> try simp (maxSteps := 4000000) only [go_sem, seval])
    | (intro _h)
    | (refine awp_block ?_)
    | (refine awp_scope ?_)
    | (refine cond_b (fun _h => ?_) (fun _h => ?_))
    | (show heapOK _ _ = true; kernel_rfl)
    | (show heapOK2 _ _ = true; kernel_rfl)
    | (omega)))
  refine awp_loopJ (fun i : Nat => i ≤ a.length ∧ i ≤ b.length ∧ ltL (a.drop i) (b.drop i) = r) (fun i => ⟨mkT 41 [(0, .psl false a.length (ints a)), (1, .psl false b.length (ints b)), (5, .int .i64 i)], [], []⟩) (fun i => a.length - i) 0 ⟨Nat.zero_le _, Nat.zero_le _, hr⟩ (.le2 ?_) ?_
  · simp (maxSteps := 4000000) only [go_sem, seval]
    all_goals first | rfl | trace_state
  · rintro i ⟨h1, h2, h3⟩
    rcases Nat.lt_or_eq_of_le h1 with hi1 | hi1
    · have hn1 := fun K => show optK (nth (ints a) i) K = K (.int .i64 (a.getD i 0)) by rw [ints_nth hi1]; rfl
      rw [getD_drop0 hi1] at h3
      rcases Nat.lt_or_eq_of_le h2 with hi2 | hi2
      · have hn2 := fun K => show optK (nth (ints b) i) K = K (.int .i64 (b.getD i 0)) by rw [ints_nth hi2]; rfl
        rw [getD_drop0 hi2] at h3
        rw [ltL_cons] at h3
        by_cases e : a.getD i 0 = b.getD i 0
        · rw [if_pos e] at h3
          generalize a.getD i 0 = x at *
          generalize b.getD i 0 = y at *
          subst e
          simp (maxSteps := 4000000) only [go_sem, seval]
          (repeat' (first
    | ((omega))
    | ((exfalso; omega))
    | (refine awp_seqK ?_)
    | (refine kt ?_)
    | (refine And.intro ?_ ?_)
    | ((first | refine awp_region ?_ | refine awp_draw (by kernel_rfl) (by kernel_rfl) ?_ | refine Imp.le2 ?_ | refine awp_label ?_ | refine awp_skip ?_ | refine awp_exit ?_ | refine awp_cd ?_ | refine awp_ret ?_ | refine go_split (fun _h => ?_) (fun _h => ?_)) <;> try simp (maxSteps := 4000000) only [go_sem, seval, hn1, hn2])
    | (intro _h)
    | (refine awp_block ?_)
    | (refine awp_scope ?_)
    | (refine cond_b (fun _h => ?_) (fun _h => ?_))
    | (show heapOK _ _ = true; kernel_rfl)
    | (show heapOK2 _ _ = true; kernel_rfl)
    | (omega)))
          all_goals first | (refine ⟨i + 1, ⟨hi1, hi2, h3⟩, by omega, .le2 ?_⟩; simp (maxSteps := 4000000) only [go_sem, seval]; all_goals first | rfl | trace_state) | trace_state
        · rw [if_neg e] at h3
          generalize a.getD i 0 = x at *
          generalize b.getD i 0 = y at *
          subst h3
          simp (maxSteps := 4000000) only [go_sem, seval]
          (repeat' (first
    | ((omega))
    | ((exfalso; omega))
    | (refine awp_seqK ?_)
    | (refine kt ?_)
    | (refine And.intro ?_ ?_)
    | ((first | refine awp_region ?_ | refine awp_draw (by kernel_rfl) (by kernel_rfl) ?_ | refine Imp.le2 ?_ | refine awp_label ?_ | refine awp_skip ?_ | refine awp_exit ?_ | refine awp_cd ?_ | refine awp_ret ?_ | refine go_split (fun _h => ?_) (fun _h => ?_)) <;> try simp (maxSteps := 4000000) only [go_sem, seval, hn1, hn2])
    | (intro _h)
    | (refine awp_block ?_)
    | (refine awp_scope ?_)
    | (refine cond_b (fun _h => ?_) (fun _h => ?_))
    | (show heapOK _ _ = true; kernel_rfl)
    | (show heapOK2 _ _ = true; kernel_rfl)
    | (omega)))
          all_goals first | exact (decide_eq_true ‹_›).symm | exact (decide_eq_false ‹_›).symm | exact decide_eq_true ‹_› | exact decide_eq_false ‹_› | (exfalso; simp at _h; done) | trace_state
      · have hn3 : b.drop i = [] := List.drop_eq_nil_of_le (by omega)
        rw [hn3] at h3
        have h3 : false = r := h3
        simp (maxSteps := 4000000) only [go_sem, seval]
        (repeat' (first
    | ((exact h3))
    | ((exact h3.symm))
    | ((omega))
    | ((exfalso; omega))
    | (refine awp_seqK ?_)
    | (refine kt ?_)
    | (refine And.intro ?_ ?_)
    | ((first | refine awp_region ?_ | refine awp_draw (by kernel_rfl) (by kernel_rfl) ?_ | refine Imp.le2 ?_ | refine awp_label ?_ | refine awp_skip ?_ | refine awp_exit ?_ | refine awp_cd ?_ | refine awp_ret ?_ | refine go_split (fun _h => ?_) (fun _h => ?_)) <;> try simp (maxSteps := 4000000) only [go_sem, seval, hn1])
    | (intro _h)
    | (refine awp_block ?_)
    | (refine awp_scope ?_)
    | (refine cond_b (fun _h => ?_) (fun _h => ?_))
    | (show heapOK _ _ = true; kernel_rfl)
    | (show heapOK2 _ _ = true; kernel_rfl)
    | (omega)))
        all_goals first | (exfalso; omega) | trace_state
    · have hn3 : a.drop i = [] := List.drop_eq_nil_of_le (by omega)
      rw [hn3] at h3
      rcases Nat.lt_or_eq_of_le h2 with hi2 | hi2
      · rw [getD_drop0 hi2] at h3
        have h3 : true = r := h3
        simp (maxSteps := 4000000) only [go_sem, seval]
        (repeat' (first
    | ((exact h3))
    | ((exact h3.symm))
    | ((omega))
    | ((exfalso; omega))
    | (refine awp_seqK ?_)
    | (refine kt ?_)
    | (refine And.intro ?_ ?_)
    | ((first | refine awp_region ?_ | refine awp_draw (by kernel_rfl) (by kernel_rfl) ?_ | refine Imp.le2 ?_ | refine awp_label ?_ | refine awp_skip ?_ | refine awp_exit ?_ | refine awp_cd ?_ | refine awp_ret ?_ | refine go_split (fun _h => ?_) (fun _h => ?_)) <;> try simp (maxSteps := 4000000) only [go_sem, seval])
    | (intro _h)
    | (refine awp_block ?_)
    | (refine awp_scope ?_)
    | (refine cond_b (fun _h => ?_) (fun _h => ?_))
    | (show heapOK _ _ = true; kernel_rfl)
    | (show heapOK2 _ _ = true; kernel_rfl)
    | (omega)))
        all_goals trace_state
      · have hn4 : b.drop i = [] := List.drop_eq_nil_of_le (by omega)
        rw [hn4] at h3
        have h3 : false = r := h3
        simp (maxSteps := 4000000) only [go_sem, seval]
        (repeat' (first
    | ((exact h3))
    | ((exact h3.symm))
    | ((omega))
    | ((exfalso; omega))
    | (refine awp_seqK ?_)
    | (refine kt ?_)
    | (refine And.intro ?_ ?_)
    | ((first | refine awp_region ?_ | refine awp_draw (by kernel_rfl) (by kernel_rfl) ?_ | refine Imp.le2 ?_ | refine awp_label ?_ | refine awp_skip ?_ | refine awp_exit ?_ | refine awp_cd ?_ | refine awp_ret ?_ | refine go_split (fun _h => ?_) (fun _h => ?_)) <;> try simp (maxSteps := 4000000) only [go_sem, seval])
    | (intro _h)
    | (refine awp_block ?_)
    | (refine awp_scope ?_)
    | (refine cond_b (fun _h => ?_) (fun _h => ?_))
    | (show heapOK _ _ = true; kernel_rfl)
    | (show heapOK2 _ _ = true; kernel_rfl)
    | (omega)))
        all_goals trace_state
end Go.Am
