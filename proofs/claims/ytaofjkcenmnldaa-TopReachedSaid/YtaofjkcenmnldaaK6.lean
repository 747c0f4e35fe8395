/- Parts RaF, RaG, RaH, RaI, RaJ, RaK of the proof, one behind the other. No statement is proved here. -/
import Derived.Test.YtaofjkcenmnldaaK5
import Derived.Test.YtaofjkcenmnldaaK4
set_option linter.unusedVariables false -- all
set_option linter.unusedSimpArgs false
/- Contracts of the slope functions: the cheapest surface between two columns. -/
namespace Go.Am
open Go.RowKit Go.Proofs
theorem Imp.renum [B : Base] {w0 : World} {X : Ctx} {s : St} (σ : Nat → Nat) (hσ : ∀ i, σ (σ i) = i) {T' : List AV} {H' : List (Option ABlk)} (hD : s.D = []) (hX : ∀ c, X.Z c = none) (hT : renL σ s.T = T') (hH : ∀ i, hget H' i = (hget s.H (σ i)).map (renB σ)) : Imp w0 X s ⟨T', H', []⟩ := fun _ _ hs => hs.renum σ hσ hD hX hT hH
attribute [local irreducible] AWP CallS Kt goK CallK stepK evOps SemF SemY Imp
set_option maxRecDepth 4000
set_option linter.unusedSimpArgs false
set_option linter.unusedVariables false
set_option maxHeartbeats 3200000
theorem ren_ints {σ : Nat → Nat} : ∀ l : List Int, renL σ (ints l) = ints l
  | [] => rfl
  | n :: l => by
    have ih := ren_ints (σ := σ) l
    show renL σ (.int .i64 n :: ints l) = .int .i64 n :: ints l
    simp only [renL, ren, ih]
def bestL (f : Nat → Int) : List Nat → Nat → Nat
  | [], a => a
  | b :: l, a => bestL f l (if f b < f a then b else a)
theorem bestL_lt {f : Nat → Int} {m : Nat} : ∀ (l : List Nat) (a : Nat), (∀ b ∈ l, b < m) → a < m → bestL f l a < m
  | [], a, _, h => h
  | b :: l, a, hl, h => by
    simp only [bestL]
    refine bestL_lt l _ (fun c hc => hl c (by simp [hc])) ?_
    split
    · exact hl b (by simp)
    · exact h
def wayF (cst : Nat → Nat → Int) (m : Nat) : Nat → Nat → Nat → List Nat
  | 0, _, _ => []
  | k + 1, c, b => bestL (restV cst m k (c + 1)) (nxL m b) b :: wayF cst m k (c + 1) (bestL (restV cst m k (c + 1)) (nxL m b) b)
def fstF (f : Nat → Int) : List Nat → Int × Nat → Int × Nat
  | [], a => a
  | b :: l, a => fstF f l (if f b < a.1 then (f b, b) else a)
theorem fstF_min {f : Nat → Int} : ∀ (l : List Nat) (a : Int × Nat), (fstF f l a).1 = minL f l a.1
  | [], a => rfl
  | b :: l, a => by
    simp only [fstF, minL]
    rw [fstF_min]
    congr 1
    split
    · simp only; omega
    · omega
theorem fstF_snoc {f : Nat → Int} {x : Nat} : ∀ (l : List Nat) (a : Int × Nat), fstF f (l ++ [x]) a = if f x < (fstF f l a).1 then (f x, x) else fstF f l a
  | [], a => rfl
  | b :: l, a => by simp only [List.cons_append, fstF]; exact fstF_snoc l _
theorem fstF_lt {f : Nat → Int} {m : Nat} : ∀ (l : List Nat) (a : Int × Nat), (∀ b ∈ l, b < m) → a.2 < m → (fstF f l a).2 < m
  | [], a, _, h => h
  | b :: l, a, hl, h => by
    simp only [fstF]
    refine fstF_lt l _ (fun c hc => hl c (by simp [hc])) ?_
    split
    · exact hl b (by simp)
    · exact h
def natI (l : List Nat) : List Int := l.map fun x : Nat => (x : Int)
def fst0 (cst : Nat → Nat → Int) (m a z : Nat) : Nat := (fstF (restV cst m (z - a) a) (List.range m) (1000000000000000, 0)).2
def wayV (cst : Nat → Nat → Int) (m a z : Nat) : List Int := natI (fst0 cst m a z :: wayF cst m (z - a) a (fst0 cst m a z))
theorem fst_cheap {cst : Nat → Nat → Int} {m a z : Nat} : (fstF (restV cst m (z - a) a) (List.range m) (1000000000000000, 0)).1 = cheapV cst m a z := fstF_min _ _
def ckH (s : Slope) (fa : Int) (T : FuncId) (to : Int) (K : Kmap) (surf : List AV) : List (Option ABlk) :=
  [some (.cells 81 1 0 (lookC s fa T)), some (.cells 3 1 0 [.int .i64 to]), some (.cells 111 1 0 surf), some (.map (kmC K)), some (.cells 131 1 0 [.map 3]), some (.cells 132 1 0 [.fn (.func 63) [.agg (lookC s fa T)] []]), some (.cells 133 1 0 [.fn (.func 64) [] [.ptr 1 0 0, .ptr 5 0 0, .ptr 4 0 0, .ptr 0 0 0, .ptr 6 0 0]])]
def ckA (from0 n : Int) : List (Nat × AV) := [(1, .int .i64 from0), (3, .ptr 0 0 0), (5, .ptr 1 0 0), (6, .ptr 2 0 0), (7, .int .i64 n), (8, .ptr 4 0 0), (9, .ptr 5 0 0), (10, .ptr 6 0 0)]
/-- Behind the first loop: the way is j columns long. -/
def c2H (s : Slope) (fa : Int) (T : FuncId) (to : Int) (K : Kmap) (from0 : Int) (j : Nat) (L : List Int) (c b : Int) : List (Option ABlk) :=
  ckH s fa T to K [.int .i64 from0, .osl 7 j 0 (j + 1)] ++ [some (.cells 3 1 j (ints L)), some (.cells 135 1 0 [.int .i64 c, .int .i64 b])]
def c3H (s : Slope) (fa : Int) (T : FuncId) (to : Int) (K : Kmap) (from0 : Int) (j : Nat) (L : List Int) (c b bs : Int) : List (Option ABlk) :=
  c2H s fa T to K from0 j L c b ++ [some (.cells 135 1 0 [.int .i64 (c + 1), .int .i64 bs]), some (.cells 81 1 0 (lookC s fa T)), some (.cells 3 1 0 [.int .i64 b])]
def c3T (from0 n : Int) : List AV := mkT 83 (ckA from0 n ++ [(14, .ptr 8 0 0), (15, .ptr 9 0 0), (57, .fn (.func 81) [] [.ptr 11 0 0, .ptr 10 0 0])])
def swN (i : Nat) : Nat := if i = 8 then 14 else if i = 14 then 8 else i
theorem swN_swN (i : Nat) : swN (swN i) = i := by
  by_cases h1 : i = 8
  · subst h1; rfl
  · by_cases h2 : i = 14
    · subst h2; rfl
    · have e : swN i = i := by unfold swN; rw [if_neg h1, if_neg h2]
      rw [e, e]
def foldB (f : Nat → Kmap → Int × Kmap) : List Nat → Nat × Kmap → Nat × Kmap
  | [], a => a
  | b :: l, a => foldB f l (if (f b a.2).1 < (f a.1 (f b a.2).2).1 then b else a.1, (f a.1 (f b a.2).2).2)
theorem foldB_good {G : Kmap → Prop} {f : Nat → Kmap → Int × Kmap} {g : Nat → Int} (hf : ∀ b K, G K → (f b K).1 = g b ∧ G (f b K).2) : ∀ (l : List Nat) (a : Nat × Kmap), G a.2 → (foldB f l a).1 = bestL g l a.1 ∧ G (foldB f l a).2
  | [], a, h => ⟨rfl, h⟩
  | b :: l, a, h => by
    obtain ⟨h1, h2⟩ := hf b a.2 h
    obtain ⟨h3, h4⟩ := hf a.1 (f b a.2).2 h2
    have h5 := foldB_good hf l (if (f b a.2).1 < (f a.1 (f b a.2).2).1 then b else a.1, (f a.1 (f b a.2).2).2) h4
    simp only [foldB, bestL]
    rw [h1, h3] at h5 ⊢
    exact h5
def c4H (s : Slope) (fa : Int) (T : FuncId) (to : Int) (K : Kmap) (from0 : Int) (j : Nat) (L : List Int) (c b : Int) : List (Option ABlk) :=
  ckH s fa T to K [.int .i64 from0, .osl 7 j 0 (j + 1)] ++ [some (.cells 3 1 j (ints L)), none, none, none, none, none, none, some (.cells 135 1 0 [.int .i64 c, .int .i64 b])]
theorem sw_H {s : Slope} {fa : Int} {T : FuncId} {to : Int} {K : Kmap} {from0 : Int} {j : Nat} {L : List Int} {c b : Int} (i : Nat) : hget (c2H s fa T to K from0 j L c b) i = (hget (c4H s fa T to K from0 j L c b) (swN i)).map (renB swN) := by
  have e : ∀ i, i ≠ 8 → i ≠ 14 → swN i = i := fun i h1 h2 => by unfold swN; rw [if_neg h1, if_neg h2]
  simp only [c2H, c4H, ckH, lookC, slC, List.cons_append, List.nil_append]
  match i with
  | 0 => rw [e 0 (by decide) (by decide)]; simp only [hget, Option.map_some, renB, renL, ren, renF]
  | 1 => rw [e 1 (by decide) (by decide)]; simp only [hget, Option.map_some, renB, renL, ren, renF]
  | 2 => rw [e 2 (by decide) (by decide)]; simp only [hget, Option.map_some, renB, renL, ren, renF, e 7 (by decide) (by decide)]
  | 3 => rw [e 3 (by decide) (by decide)]; simp only [hget, Option.map_some, rb_km]
  | 4 => rw [e 4 (by decide) (by decide)]; simp only [hget, Option.map_some, renB, renL, ren, renF, e 3 (by decide) (by decide)]
  | 5 => rw [e 5 (by decide) (by decide)]; simp only [hget, Option.map_some, renB, renL, ren, renF]
  | 6 => rw [e 6 (by decide) (by decide)]; simp only [hget, Option.map_some, renB, renL, ren, renF, e 1 (by decide) (by decide), e 5 (by decide) (by decide), e 4 (by decide) (by decide), e 0 (by decide) (by decide), e 6 (by decide) (by decide)]
  | 7 => rw [e 7 (by decide) (by decide)]; simp only [hget, Option.map_some, renB, ren_ints]
  | 8 => rw [show swN 8 = 14 from rfl]; simp only [hget, Option.map_some, renB, renL, ren, renF]
  | 9 => rw [e 9 (by decide) (by decide)]; rfl
  | 10 => rw [e 10 (by decide) (by decide)]; rfl
  | 11 => rw [e 11 (by decide) (by decide)]; rfl
  | 12 => rw [e 12 (by decide) (by decide)]; rfl
  | 13 => rw [e 13 (by decide) (by decide)]; rfl
  | 14 => rw [show swN 14 = 8 from rfl]; rfl
  | i + 15 => rw [e (i + 15) (by omega) (by omega)]; simp [hget]
theorem cheapest_c (s : Slope) (m : Nat) (fa : Int) (T : FuncId) (tv : Bed → Reals) (h : SlopeOK s m) (ht : TruthF T tv) (hf : 0 ≤ fa ∧ fa ≤ 10000) (fr to : Nat) (hft : fr ≤ to) (hto : to < s.cols.length) :
    CallS Try.prog 45 [.agg (lookC s fa T), .int .i64 fr, .int .i64 to] (.tup [.agg [.int .i64 fr, sl (wayV (costV s fa tv) m fr to)], .int .i64 (cheapV (costV s fa tv) m fr to)]) := by
  have hrest := rest_c s m fa T tv h ht hf to hto
  have hbe := beds_c s m fa T h
  have hcm := h.cm
  have hcn := h.cn
  rw [← fst_cheap]
  unfold wayV
  have hlt : fst0 (costV s fa tv) m fr to < m := fstF_lt _ _ (fun b hb => List.mem_range.1 hb) (by simp only; omega)
  unfold fst0 at hlt ⊢
  have hF0 : fstF (restV (costV s fa tv) m (to - fr) fr) (List.range 0) (1000000000000000, 0) = (1000000000000000, 0) := rfl
  generalize hcst : costV s fa tv = cst at *
  simp only [lookC, slC] at hbe ⊢
  (refine callS_of_awpZ (fun w args => Try.call45 ..) Try.func45 rfl (fun w0 wz => ?_); simp only [Try.ntmps45, Try.results45, initT, junks, sl, List.toList_toArray, List.cons_append, List.nil_append, List.length_cons, List.length_nil, Nat.reduceAdd, Nat.reduceSub])
  (repeat' (first
 | refine awp_seqK ?_
 | refine kt ?_
 | refine And.intro ?_ ?_
 | ((first | refine awp_stp rfl ?_ | refine awp_draw (by kernel_rfl) (by kernel_rfl) ?_ | refine Imp.le2 ?_ | refine callK_of (hbe) ?_ | refine go_split (fun _h => ?_) (fun _h => ?_)) <;> try simp (maxSteps := 4000000) only [go_sem, seval])
 | intro _h
 | refine awp_block ?_
 | refine awp_scope ?_
 | refine cond_b ?_ ?_
 | (show heapOK _ _ = true; kernel_rfl)
 | (show heapOK2 _ _ = true; kernel_rfl)
 | (omega)))
  refine awp_loopJ (fun x : Nat × Kmap => x.1 ≤ m ∧ GoodK cst m to x.2) (fun x => ⟨mkT 83 (ckA fr (fstF (restV cst m (to - fr) fr) (List.range x.1) (1000000000000000, 0)).1 ++ [(11, .int .i64 (fstF (restV cst m (to - fr) fr) (List.range x.1) (1000000000000000, 0)).2), (22, .int .i64 m), (23, .int .i64 x.1)]), ckH s fa T to x.2 [.int .i64 0, .nils], []⟩) (fun x => m - x.1) (0, []) ⟨Nat.zero_le _, GoodK.nil⟩ (.le2 ?_) ?_
  · simp only [hF0, ckA, ckH, lookC, slC, List.cons_append, List.nil_append]; simp (maxSteps := 4000000) only [go_sem, seval]
    all_goals first | rfl | exact ⟨rfl, rfl⟩ | trace_state
  · rintro ⟨i, K⟩ ⟨hi, hK⟩
    simp only at hi hK
    rcases Nat.lt_or_eq_of_le hi with hi1 | hi1
    · have hsn : fstF (restV cst m (to - fr) fr) (List.range (i + 1)) (1000000000000000, 0) = if restV cst m (to - fr) fr i < (fstF (restV cst m (to - fr) fr) (List.range i) (1000000000000000, 0)).1 then (restV cst m (to - fr) fr i, i) else fstF (restV cst m (to - fr) fr) (List.range i) (1000000000000000, 0) := by rw [List.range_succ]; exact fstF_snoc _ _
      have hr := hrest (to - fr) fr i K (by omega) hi1 hK
      obtain ⟨hg1, hg2⟩ := restM_good (cst := cst) (m := m) (to := to) (to - fr) fr i K (by omega) hK
      generalize restM cst m (to - fr) fr i K = R at *
      obtain ⟨v, K2⟩ := R
      simp only at hr hg1 hg2
      rw [← hg1] at hsn
      generalize fstF (restV cst m (to - fr) fr) (List.range i) (1000000000000000, 0) = S at *
      obtain ⟨n, fi⟩ := S
      simp only at hsn
      by_cases hv : v < n
      · rw [if_pos hv] at hsn
        have eV : (v < n) = True := eq_true hv
        simp only [resH, ckA, ckH, lookC, slC, List.cons_append, List.nil_append] at hr ⊢
        simp (maxSteps := 4000000) only [go_sem, seval]
        (repeat' (first
 | (refine awp_ownN (id := 10) 4 rfl ?_; simp (maxSteps := 4000000) only [go_sem, seval, List.take_succ_cons, List.take_zero, eV, decide_true])
 | (refine own_go (hr) [1, 5, 4, 0, 6, 3] rfl ?_ ?_ rfl ?_ <;> try simp (maxSteps := 4000000) only [go_sem, seval, Nat.lt_irrefl, eV, decide_true] <;> try decide)
 | ((exfalso; omega))
 | refine awp_seqK ?_
 | refine kt ?_
 | refine And.intro ?_ ?_
 | ((first | refine awp_stp rfl ?_ | refine awp_draw (by kernel_rfl) (by kernel_rfl) ?_ | refine Imp.le2 ?_ | refine go_split (fun _h => ?_) (fun _h => ?_)) <;> try simp (maxSteps := 4000000) only [go_sem, seval, eV, decide_true])
 | intro _h
 | refine awp_block ?_
 | refine awp_scope ?_
 | refine cond_b ?_ ?_
 | (show heapOK _ _ = true; kernel_rfl)
 | (show heapOK2 _ _ = true; kernel_rfl)
 | (omega)))
        refine ⟨(i + 1, K2), ⟨by simp only; omega, hg2⟩, by simp only; omega, .le2 ?_⟩
        simp only [hsn, ckA, ckH, lookC, slC, List.cons_append, List.nil_append]; simp (maxSteps := 4000000) only [go_sem, seval]
        all_goals first | rfl | exact ⟨rfl, rfl⟩ | trace_state
      · rw [if_neg hv] at hsn
        have eV : (v < n) = False := eq_false hv
        simp only [resH, ckA, ckH, lookC, slC, List.cons_append, List.nil_append] at hr ⊢
        simp (maxSteps := 4000000) only [go_sem, seval]
        (repeat' (first
 | (refine awp_ownN (id := 10) 4 rfl ?_; simp (maxSteps := 4000000) only [go_sem, seval, List.take_succ_cons, List.take_zero, eV, decide_false])
 | (refine own_go (hr) [1, 5, 4, 0, 6, 3] rfl ?_ ?_ rfl ?_ <;> try simp (maxSteps := 4000000) only [go_sem, seval, Nat.lt_irrefl, eV, decide_false] <;> try decide)
 | ((exfalso; omega))
 | refine awp_seqK ?_
 | refine kt ?_
 | refine And.intro ?_ ?_
 | ((first | refine awp_stp rfl ?_ | refine awp_draw (by kernel_rfl) (by kernel_rfl) ?_ | refine Imp.le2 ?_ | refine go_split (fun _h => ?_) (fun _h => ?_)) <;> try simp (maxSteps := 4000000) only [go_sem, seval, eV, decide_false])
 | intro _h
 | refine awp_block ?_
 | refine awp_scope ?_
 | refine cond_b ?_ ?_
 | (show heapOK _ _ = true; kernel_rfl)
 | (show heapOK2 _ _ = true; kernel_rfl)
 | (omega)))
        refine ⟨(i + 1, K2), ⟨by simp only; omega, hg2⟩, by simp only; omega, .le2 ?_⟩
        simp only [hsn, ckA, ckH, lookC, slC, List.cons_append, List.nil_append]; simp (maxSteps := 4000000) only [go_sem, seval]
        all_goals first | rfl | exact ⟨rfl, rfl⟩ | trace_state
    · rw [hi1]
      generalize fstF (restV cst m (to - fr) fr) (List.range m) (1000000000000000, 0) = S at *
      obtain ⟨n, fi⟩ := S
      simp only at hlt ⊢
      simp only [ckA, ckH, lookC, slC, List.cons_append, List.nil_append]
      simp (maxSteps := 4000000) only [go_sem, seval]
      (repeat' (first
 | (refine awp_regionL (id := 14) [false, false, true, false, false] ?_; simp (maxSteps := 4000000) only [go_sem, seval, eL_f, eL_t, eL_n])
 | ((exfalso; omega))
 | refine awp_seqK ?_
 | refine kt ?_
 | refine And.intro ?_ ?_
 | ((first | refine awp_stp rfl ?_ | refine awp_draw (by kernel_rfl) (by kernel_rfl) ?_ | refine Imp.le2 ?_ | refine go_split (fun _h => ?_) (fun _h => ?_)) <;> try simp (maxSteps := 4000000) only [go_sem, seval])
 | intro _h
 | refine awp_block ?_
 | refine awp_scope ?_
 | refine cond_b ?_ ?_
 | (show heapOK _ _ = true; kernel_rfl)
 | (show heapOK2 _ _ = true; kernel_rfl)
 | (omega)))
      obtain ⟨W, hW⟩ : ∃ W, fi :: wayF cst m (to - fr) fr fi = W := ⟨_, rfl⟩
      have hWl : ∀ (k c b : Nat), (wayF cst m k c b).length = k := fun k => by
        induction k with
        | zero => intro c b; rfl
        | succ k ih => intro c b; simp only [wayF, List.length_cons]; rw [ih]
      rw [hW]
      refine awp_loopJ (fun x : Nat × Nat × Kmap × List Nat => fr + x.1 ≤ to ∧ x.2.1 < m ∧ GoodK cst m to x.2.2.1 ∧ x.2.2.2.length = x.1 + 1 ∧ x.2.2.2 ++ wayF cst m (to - (fr + x.1)) (fr + x.1) x.2.1 = W)
        (fun x => ⟨mkT 83 (ckA fr n ++ [(14, .ptr 8 0 0)]), c2H s fa T to x.2.2.1 fr x.1 (natI x.2.2.2) ((fr + x.1 : Nat) : Int) x.2.1, []⟩) (fun x => to - (fr + x.1)) (0, fi, K, [fi]) ⟨by simp only; omega, hlt, hK, rfl, by simp only [Nat.add_zero, List.singleton_append]; exact hW⟩ (.le2 ?_) ?_
      · have e1 : natI [fi] = [(fi : Int)] := rfl
        simp only [e1, c2H, ckA, ckH, lookC, slC, List.cons_append, List.nil_append, Nat.add_zero, Nat.zero_add]; simp (maxSteps := 4000000) only [go_sem, seval]
        all_goals first | rfl | exact ⟨rfl, rfl⟩ | trace_state
      · rintro ⟨j, bd, K, L⟩ ⟨hj, hbd, hK, hL, hWj⟩
        simp only at hj hbd hK hL hWj
        have hcl : (natI L).length = j + 1 := by simp [natI, hL]
        rcases Nat.lt_or_eq_of_le hj with hj1 | hj1
        · obtain ⟨k, hk⟩ : ∃ k, to - (fr + j) = k + 1 := ⟨to - (fr + j) - 1, by omega⟩
          rw [hk] at hWj
          simp only [wayF] at hWj
          obtain ⟨c, hc⟩ : ∃ c, fr + j = c := ⟨_, rfl⟩
          have hck : c + 1 + k = to := by omega
          have hc2 : fr + (j + 1) = c + 1 := by omega
          rw [hc] at hWj
          have eC : ((c : Int) < (to : Int)) = True := eq_true (by omega)
          have hnx := next_c s fa T bd
          have hgd := foldB_good (G := GoodK cst m to) (f := restM cst m k (c + 1)) (g := restV cst m k (c + 1)) (fun b' K' hK' => restM_good k (c + 1) b' K' (by omega) hK') (nxL m bd) (bd, K) hK
          obtain ⟨bn, hbn⟩ : ∃ bn, bestL (restV cst m k (c + 1)) (nxL m bd) bd = bn := ⟨_, rfl⟩
          rw [hbn] at hWj
          have hbl : bn < m := by rw [← hbn]; exact bestL_lt _ _ (fun b hb => ((nxL_mem hbd).1 hb).1) hbd
          simp only [hc, c2H, ckA, ckH, lookC, slC, List.cons_append, List.nil_append] at hnx ⊢
          simp (maxSteps := 4000000) only [go_sem, seval]
          (repeat' (first
 | (refine awp_ownN (id := 18) 3 rfl ?_; simp (maxSteps := 4000000) only [go_sem, seval, List.take_succ_cons, List.take_zero, eC, decide_true])
 | (refine own_go (hnx) [] rfl ?_ ?_ rfl ?_ <;> try simp (maxSteps := 4000000) only [go_sem, seval, Nat.lt_irrefl, eC, decide_true] <;> try decide)
 | ((exfalso; omega))
 | refine awp_seqK ?_
 | refine kt ?_
 | refine And.intro ?_ ?_
 | ((first | refine awp_stp rfl ?_ | refine awp_draw (by kernel_rfl) (by kernel_rfl) ?_ | refine Imp.le2 ?_ | refine go_split (fun _h => ?_) (fun _h => ?_)) <;> try simp (maxSteps := 4000000) only [go_sem, seval, eC, decide_true])
 | intro _h
 | refine awp_block ?_
 | refine awp_scope ?_
 | refine cond_b ?_ ?_
 | (show heapOK _ _ = true; kernel_rfl)
 | (show heapOK2 _ _ = true; kernel_rfl)
 | (omega)))
          generalize hE : foldB (restM cst m k (c + 1)) (nxL m bd) (bd, K) = E at *
          obtain ⟨bE, KE⟩ := E
          simp only at hgd
          rw [hbn] at hgd
          obtain ⟨rfl, hKE⟩ := hgd
          refine AWP.le2 (s' := ⟨c3T fr n, c3H s fa T to K fr j (natI L) c bd bd, []⟩) (by simp only [c3T, c3H, c2H, ckA, ckH, lookC, slC, List.cons_append, List.nil_append]; simp (maxSteps := 4000000) only [go_sem, seval]) ?_
          refine awp_rangeZ (gf := 81) (first := []) (caps := [.ptr 11 0 0, .ptr 10 0 0]) (by simp only [c3T, ckA, List.cons_append, List.nil_append]; simp (maxSteps := 4000000) only [go_sem, seval]) 12 rfl ?_
          intro ca cb hca hcb2
          refine ⟨.tup [], c3H s fa T to KE fr j (natI L) c bd bE ++ [some (.dfr true), some (.loop .ready none 0 (c3T fr n) #[58] ca cb 12)], .ready, none, .normal, ?_, ?_, by simp, rfl, ?_⟩
          · simp only [c3T, c3H, c2H, ckA, ckH, lookC, slC, List.cons_append, List.nil_append]
            simp (maxSteps := 4000000) only [go_sem, seval]
            (refine semF_of_awp (ys := []) (fun w args => Try.call81 ..) Try.func81 rfl (fun w0 m0 wz => ?_); simp only [Try.ntmps81, Try.results81, initT, junks, sl, List.toList_toArray, List.cons_append, List.nil_append, List.length_cons, List.length_nil, Nat.reduceAdd, Nat.reduceSub])
            (repeat' (first
 | refine awp_seqK ?_
 | refine kt ?_
 | refine And.intro ?_ ?_
 | ((first | refine awp_stp rfl ?_ | refine awp_draw (by kernel_rfl) (by kernel_rfl) ?_ | refine Imp.le2 ?_ | refine go_split (fun _h => ?_) (fun _h => ?_)) <;> try simp (maxSteps := 4000000) only [go_sem, seval])
 | intro _h
 | refine awp_block ?_
 | refine awp_scope ?_
 | refine cond_b ?_ ?_
 | (show heapOK _ _ = true; kernel_rfl)
 | (show heapOK2 _ _ = true; kernel_rfl)
 | (omega)))
            refine awp_loopJ (fun x : Nat × Nat × Kmap => (bd - 1 ≤ x.1 ∧ x.1 ≤ min (m - 1) (bd + 1) + 1) ∧ x.2.1 < m ∧ GoodK cst m to x.2.2 ∧ foldB (restM cst m k (c + 1)) (List.range' x.1 (min (m - 1) (bd + 1) + 1 - x.1)) x.2 = (bE, KE))
              (fun x => ⟨mkT 22 [(0, .fn (.yield 13) [] []), (1, .ptr 11 0 0), (2, .ptr 10 0 0), (4, .int .i64 x.1)], c3H s fa T to x.2.2 fr j (natI L) c bd x.2.1 ++ [some (.dfr true), some (.loop .ready none 0 (c3T fr n) #[58] ca cb 12)], []⟩) (fun x => min (m - 1) (bd + 1) + 1 - x.1) (bd - 1, bd, K) ⟨⟨by simp only; omega, by simp only; omega⟩, hbd, hK, hE⟩ (.le2 ?_) ?_
            · have eb : max 0 ((bd : Int) - 1) = ((bd - 1 : Nat) : Int) := by omega
              simp only [eb, c3T, c3H, c2H, ckA, ckH, lookC, slC, List.cons_append, List.nil_append]; simp (maxSteps := 4000000) only [go_sem, seval]
              all_goals first | rfl | exact ⟨rfl, rfl⟩ | trace_state
            · rintro ⟨i, bs, K1⟩ ⟨⟨hi0, hi⟩, hbs, hK1, hF⟩
              simp only at hi0 hi hbs hK1 hF
              rcases Nat.lt_or_eq_of_le hi with hi1 | hi1
              · rw [show min (m - 1) (bd + 1) + 1 - i = (min (m - 1) (bd + 1) + 1 - (i + 1)) + 1 by omega, List.range'_succ] at hF
                simp only [foldB] at hF
                have him : i < m := by omega
                have hr1 := hrest k (c + 1) i K1 (by omega) him hK1
                obtain ⟨hg1, hg2⟩ := restM_good (cst := cst) (m := m) (to := to) k (c + 1) i K1 (by omega) hK1
                have hr2 := hrest k (c + 1) bs (restM cst m k (c + 1) i K1).2 (by omega) hbs hg2
                obtain ⟨hg3, hg4⟩ := restM_good (cst := cst) (m := m) (to := to) k (c + 1) bs (restM cst m k (c + 1) i K1).2 (by omega) hg2
                clear hg1 hg3
                generalize restM cst m k (c + 1) i K1 = R at *
                obtain ⟨v, K2⟩ := R
                simp only at hF hr1 hr2 hg2 hg4
                generalize restM cst m k (c + 1) bs K2 = R at *
                obtain ⟨v2, K3⟩ := R
                simp only at hF hr2 hg4
                have e1 : ((i : Int) ≤ min ((m : Int) - 1) ((bd : Int) + 1)) = True := eq_true (by omega)
                have e2 : ((c + 1 : Nat) : Int) = (c : Int) + 1 := by omega
                rw [e2] at hr1 hr2
                by_cases hv : v < v2
                · rw [if_pos hv] at hF
                  have eV : (v < v2) = True := eq_true hv
                  simp only [resH, c3T, c3H, c2H, ckA, ckH, lookC, slC, List.cons_append, List.nil_append] at hr1 hr2 hbe ⊢
                  simp (maxSteps := 4000000) only [go_sem, seval]
                  (repeat' (first
 | ((exfalso; omega))
 | ((refine awp_ownN (id := 3) 2 rfl ?_; simp (maxSteps := 4000000) only [go_sem, seval, List.take_succ_cons, List.take_zero]; refine callH_yield true (c3H s fa T to K3 fr j (natI L) c bd i ++ [some (.dfr true), some (.loop .ready none 0 (c3T fr n) #[58] ca cb 12)]) ?_ ?_ <;> simp only [c3T, c3H, c2H, ckA, ckH, lookC, slC, List.cons_append, List.nil_append] <;> (try simp (maxSteps := 4000000) only [go_sem, seval])))
 | ((omega))
 | refine awp_seqK ?_
 | refine kt ?_
 | refine And.intro ?_ ?_
 | ((first | refine awp_stp rfl ?_ | refine awp_draw (by kernel_rfl) (by kernel_rfl) ?_ | refine Imp.le2 ?_ | refine callK_of (hbe) ?_ | refine go_split (fun _h => ?_) (fun _h => ?_)) <;> try simp (maxSteps := 4000000) only [go_sem, seval, e1, decide_true])
 | intro _h
 | refine awp_block ?_
 | refine awp_scope ?_
 | refine cond_b ?_ ?_
 | (show heapOK _ _ = true; kernel_rfl)
 | (show heapOK2 _ _ = true; kernel_rfl)
 | (omega)))
                  · refine semY_of_awpZ rfl rfl ?_
                    intro B w0 l m w
                    refine awp_code hca ?_
                    (repeat' (first
 | refine awp_seqK ?_
 | refine kt ?_
 | refine And.intro ?_ ?_
 | ((first | refine awp_stp rfl ?_ | refine awp_draw (by kernel_rfl) (by kernel_rfl) ?_ | refine Imp.le2 ?_ | refine go_split (fun _h => ?_) (fun _h => ?_)) <;> try simp (maxSteps := 4000000) only [go_sem, seval])
 | intro _h
 | refine awp_block ?_
 | refine awp_scope ?_
 | refine cond_b ?_ ?_
 | (show heapOK _ _ = true; kernel_rfl)
 | (show heapOK2 _ _ = true; kernel_rfl)
 | (omega)))
                    refine awp_code hcb2 ?_
                    (repeat' (first
 | refine awp_seqK ?_
 | refine kt ?_
 | refine And.intro ?_ ?_
 | ((first | refine awp_stp rfl ?_ | refine Imp.le2 ?_ | refine go_split (fun _h => ?_) (fun _h => ?_)) <;> try simp (maxSteps := 4000000) only [go_sem, seval])
 | intro _h
 | refine awp_block ?_
 | refine awp_scope ?_
 | refine cond_b ?_ ?_
 | (show heapOK _ _ = true; kernel_rfl)
 | (show heapOK2 _ _ = true; kernel_rfl)
 | (omega)))
                    ((repeat refine awp_seqK ?_); refine awp_draws [(6, [3]), (2, [3])] (by kernel_rfl) (by kernel_rfl) ?_; simp (maxSteps := 4000000) only [go_sem, seval, sg_cons, sg_nil, List.take_succ_cons, List.take_zero, List.drop_succ_cons, List.drop_zero])
                    refine And.intro (by omega) ?_
                    (refine own_go (hr1) [1, 5, 4, 0, 6, 3] rfl (by simp (maxSteps := 4000000) only [go_sem, seval]) (by simp (maxSteps := 4000000) only [go_sem, seval, Nat.lt_irrefl] <;> decide) rfl ?_; simp (maxSteps := 4000000) only [go_sem, seval]; refine And.intro (frm_of (by repeat (first | exact rfl | exact ⟨_, rfl⟩ | refine And.intro ?_ ?_))) ?_; try simp (maxSteps := 4000000) only [go_sem, seval, sg_cons, sg_nil, List.take_succ_cons, List.take_zero, List.drop_succ_cons, List.drop_zero])
                    (refine own_go (hr2) [1, 5, 4, 0, 6, 3] rfl (by simp (maxSteps := 4000000) only [go_sem, seval]) (by simp (maxSteps := 4000000) only [go_sem, seval, Nat.lt_irrefl] <;> decide) rfl ?_; simp (maxSteps := 4000000) only [go_sem, seval]; refine And.intro (frm_of (by repeat (first | exact rfl | exact ⟨_, rfl⟩ | refine And.intro ?_ ?_))) ?_; try simp (maxSteps := 4000000) only [go_sem, seval, sg_cons, sg_nil, List.take_succ_cons, List.take_zero, List.drop_succ_cons, List.drop_zero])
                    (repeat' (first
 | refine awp_seqK ?_
 | refine kt ?_
 | refine And.intro ?_ ?_
 | ((first | refine awp_stp rfl ?_ | refine awp_draw (by kernel_rfl) (by kernel_rfl) ?_ | refine Imp.le2 ?_ | refine go_split (fun _h => ?_) (fun _h => ?_)) <;> try simp (maxSteps := 4000000) only [go_sem, seval, eV, decide_true])
 | intro _h
 | refine awp_block ?_
 | refine awp_scope ?_
 | refine cond_b ?_ ?_
 | (show heapOK _ _ = true; kernel_rfl)
 | (show heapOK2 _ _ = true; kernel_rfl)
 | (omega)))
                    all_goals trace_state
                  · refine ⟨(i + 1, i, K3), ⟨⟨by simp only; omega, by simp only; omega⟩, him, hg4, hF⟩, by simp only; omega, .le2 ?_⟩
                    simp only [c3T, c3H, c2H, ckA, ckH, lookC, slC, List.cons_append, List.nil_append]; simp (maxSteps := 4000000) only [go_sem, seval]
                    all_goals first | rfl | exact ⟨rfl, rfl⟩ | trace_state
                · rw [if_neg hv] at hF
                  have eV : (v < v2) = False := eq_false hv
                  simp only [resH, c3T, c3H, c2H, ckA, ckH, lookC, slC, List.cons_append, List.nil_append] at hr1 hr2 hbe ⊢
                  simp (maxSteps := 4000000) only [go_sem, seval]
                  (repeat' (first
 | ((exfalso; omega))
 | ((refine awp_ownN (id := 3) 2 rfl ?_; simp (maxSteps := 4000000) only [go_sem, seval, List.take_succ_cons, List.take_zero]; refine callH_yield true (c3H s fa T to K3 fr j (natI L) c bd bs ++ [some (.dfr true), some (.loop .ready none 0 (c3T fr n) #[58] ca cb 12)]) ?_ ?_ <;> simp only [c3T, c3H, c2H, ckA, ckH, lookC, slC, List.cons_append, List.nil_append] <;> (try simp (maxSteps := 4000000) only [go_sem, seval])))
 | ((omega))
 | refine awp_seqK ?_
 | refine kt ?_
 | refine And.intro ?_ ?_
 | ((first | refine awp_stp rfl ?_ | refine awp_draw (by kernel_rfl) (by kernel_rfl) ?_ | refine Imp.le2 ?_ | refine callK_of (hbe) ?_ | refine go_split (fun _h => ?_) (fun _h => ?_)) <;> try simp (maxSteps := 4000000) only [go_sem, seval, e1, decide_true])
 | intro _h
 | refine awp_block ?_
 | refine awp_scope ?_
 | refine cond_b ?_ ?_
 | (show heapOK _ _ = true; kernel_rfl)
 | (show heapOK2 _ _ = true; kernel_rfl)
 | (omega)))
                  · refine semY_of_awpZ rfl rfl ?_
                    intro B w0 l m w
                    refine awp_code hca ?_
                    (repeat' (first
 | refine awp_seqK ?_
 | refine kt ?_
 | refine And.intro ?_ ?_
 | ((first | refine awp_stp rfl ?_ | refine awp_draw (by kernel_rfl) (by kernel_rfl) ?_ | refine Imp.le2 ?_ | refine go_split (fun _h => ?_) (fun _h => ?_)) <;> try simp (maxSteps := 4000000) only [go_sem, seval])
 | intro _h
 | refine awp_block ?_
 | refine awp_scope ?_
 | refine cond_b ?_ ?_
 | (show heapOK _ _ = true; kernel_rfl)
 | (show heapOK2 _ _ = true; kernel_rfl)
 | (omega)))
                    refine awp_code hcb2 ?_
                    (repeat' (first
 | refine awp_seqK ?_
 | refine kt ?_
 | refine And.intro ?_ ?_
 | ((first | refine awp_stp rfl ?_ | refine Imp.le2 ?_ | refine go_split (fun _h => ?_) (fun _h => ?_)) <;> try simp (maxSteps := 4000000) only [go_sem, seval])
 | intro _h
 | refine awp_block ?_
 | refine awp_scope ?_
 | refine cond_b ?_ ?_
 | (show heapOK _ _ = true; kernel_rfl)
 | (show heapOK2 _ _ = true; kernel_rfl)
 | (omega)))
                    ((repeat refine awp_seqK ?_); refine awp_draws [(6, [3]), (2, [3])] (by kernel_rfl) (by kernel_rfl) ?_; simp (maxSteps := 4000000) only [go_sem, seval, sg_cons, sg_nil, List.take_succ_cons, List.take_zero, List.drop_succ_cons, List.drop_zero])
                    refine And.intro (by omega) ?_
                    (refine own_go (hr1) [1, 5, 4, 0, 6, 3] rfl (by simp (maxSteps := 4000000) only [go_sem, seval]) (by simp (maxSteps := 4000000) only [go_sem, seval, Nat.lt_irrefl] <;> decide) rfl ?_; simp (maxSteps := 4000000) only [go_sem, seval]; refine And.intro (frm_of (by repeat (first | exact rfl | exact ⟨_, rfl⟩ | refine And.intro ?_ ?_))) ?_; try simp (maxSteps := 4000000) only [go_sem, seval, sg_cons, sg_nil, List.take_succ_cons, List.take_zero, List.drop_succ_cons, List.drop_zero])
                    (refine own_go (hr2) [1, 5, 4, 0, 6, 3] rfl (by simp (maxSteps := 4000000) only [go_sem, seval]) (by simp (maxSteps := 4000000) only [go_sem, seval, Nat.lt_irrefl] <;> decide) rfl ?_; simp (maxSteps := 4000000) only [go_sem, seval]; refine And.intro (frm_of (by repeat (first | exact rfl | exact ⟨_, rfl⟩ | refine And.intro ?_ ?_))) ?_; try simp (maxSteps := 4000000) only [go_sem, seval, sg_cons, sg_nil, List.take_succ_cons, List.take_zero, List.drop_succ_cons, List.drop_zero])
                    (repeat' (first
 | refine awp_seqK ?_
 | refine kt ?_
 | refine And.intro ?_ ?_
 | ((first | refine awp_stp rfl ?_ | refine awp_draw (by kernel_rfl) (by kernel_rfl) ?_ | refine Imp.le2 ?_ | refine go_split (fun _h => ?_) (fun _h => ?_)) <;> try simp (maxSteps := 4000000) only [go_sem, seval, eV, decide_false])
 | intro _h
 | refine awp_block ?_
 | refine awp_scope ?_
 | refine cond_b ?_ ?_
 | (show heapOK _ _ = true; kernel_rfl)
 | (show heapOK2 _ _ = true; kernel_rfl)
 | (omega)))
                    all_goals trace_state
                  · refine ⟨(i + 1, bs, K3), ⟨⟨by simp only; omega, by simp only; omega⟩, hbs, hg4, hF⟩, by simp only; omega, .le2 ?_⟩
                    simp only [c3T, c3H, c2H, ckA, ckH, lookC, slC, List.cons_append, List.nil_append]; simp (maxSteps := 4000000) only [go_sem, seval]
                    all_goals first | rfl | exact ⟨rfl, rfl⟩ | trace_state
              · rw [hi1, Nat.sub_self] at hF
                simp only [List.range'_zero, foldB, Prod.mk.injEq] at hF
                obtain ⟨rfl, rfl⟩ := hF
                have e1 : ((i : Int) ≤ min ((m : Int) - 1) ((bd : Int) + 1)) = False := eq_false (by omega)
                simp only [c3T, c3H, c2H, ckA, ckH, lookC, slC, List.cons_append, List.nil_append] at hbe ⊢
                simp (maxSteps := 4000000) only [go_sem, seval]
                (repeat' (first
 | ((exfalso; omega))
 | ((omega))
 | refine awp_seqK ?_
 | refine kt ?_
 | refine And.intro ?_ ?_
 | ((first | refine awp_stp rfl ?_ | refine awp_draw (by kernel_rfl) (by kernel_rfl) ?_ | refine Imp.le2 ?_ | refine callK_of (hbe) ?_ | refine go_split (fun _h => ?_) (fun _h => ?_)) <;> try simp (maxSteps := 4000000) only [go_sem, seval, e1, decide_false])
 | intro _h
 | refine awp_block ?_
 | refine awp_scope ?_
 | refine cond_b ?_ ?_
 | (show heapOK _ _ = true; kernel_rfl)
 | (show heapOK2 _ _ = true; kernel_rfl)
 | (omega)))
                all_goals first | rfl | exact ⟨rfl, rfl⟩ | trace_state
          · rfl
          · simp only [c3T, c3H, c2H, ckA, ckH, lookC, slC, List.cons_append, List.nil_append]
            simp (maxSteps := 4000000) only [go_sem, seval]
            (repeat' (first
 | ((exfalso; omega))
 | ((omega))
 | refine awp_seqK ?_
 | refine kt ?_
 | refine And.intro ?_ ?_
 | ((first | refine awp_stp rfl ?_ | refine awp_draw (by kernel_rfl) (by kernel_rfl) ?_ | refine Imp.le2 ?_ | refine go_split (fun _h => ?_) (fun _h => ?_)) <;> try simp (maxSteps := 4000000) only [go_sem, seval, hcl])
 | intro _h
 | refine awp_block ?_
 | refine awp_scope ?_
 | refine cond_b ?_ ?_
 | (show heapOK _ _ = true; kernel_rfl)
 | (show heapOK2 _ _ = true; kernel_rfl)
 | (omega)))
            have hsn : ints (natI L) ++ [.int .i64 (bE : Int)] = ints (natI (L ++ [bE])) := by simp [ints, natI]
            rw [hsn]
            refine ⟨(j + 1, bE, KE, L ++ [bE]), ⟨by simp only; omega, hbl, hKE, by simp [hL], by simp only [hc2]; rw [show to - (c + 1) = k by omega, List.append_assoc]; exact hWj⟩, by simp only; omega, ?_⟩
            simp only [hc2]
            refine .trans (Imp.hide (s' := ⟨mkT 83 (ckA fr n ++ [(14, .ptr 14 0 0)]), c4H s fa T to KE fr (j + 1) (natI (L ++ [bE])) ((c : Int) + 1) bE, []⟩) (fun _ => rfl) ?_ ?_) (.trans (Imp.renum swN swN_swN (T' := mkT 83 (ckA fr n ++ [(14, .ptr 8 0 0)])) rfl (fun _ => rfl) ?_ sw_H) (.le2 ?_))
            · simp only [c4H, c3T, c3H, c2H, ckA, ckH, lookC, slC, List.cons_append, List.nil_append]; simp (maxSteps := 4000000) only [go_sem, seval]
              all_goals first | rfl | exact ⟨rfl, rfl⟩ | trace_state
            · simp only [c4H, c3T, c3H, c2H, ckA, ckH, lookC, slC, List.cons_append, List.nil_append, hidD]; simp (maxSteps := 4000000) only [go_sem, seval]
              all_goals first | rfl | exact ⟨rfl, rfl⟩ | (simp; done) | trace_state
            · rfl
            · simp only [hc, Int.natCast_add, Int.cast_ofNat_Int, c2H, ckA, ckH, lookC, slC, List.cons_append, List.nil_append]; simp (maxSteps := 4000000) only [go_sem, seval]
              all_goals first | rfl | exact ⟨rfl, rfl⟩ | trace_state
        · have hk0 : to - (fr + j) = 0 := by omega
          rw [hk0] at hWj
          simp only [wayF, List.append_nil] at hWj
          subst hWj
          have eC : (((fr + j : Nat) : Int) < (to : Int)) = False := eq_false (by omega)
          simp only [c2H, ckA, ckH, lookC, slC, List.cons_append, List.nil_append]
          simp (maxSteps := 4000000) only [go_sem, seval]
          (repeat' (first
 | ((exfalso; omega))
 | ((omega))
 | refine awp_seqK ?_
 | refine kt ?_
 | refine And.intro ?_ ?_
 | ((first | refine awp_stp rfl ?_ | refine awp_draw (by kernel_rfl) (by kernel_rfl) ?_ | refine Imp.le2 ?_ | refine go_split (fun _h => ?_) (fun _h => ?_)) <;> try simp (maxSteps := 4000000) only [go_sem, seval, eC, decide_false, hcl])
 | intro _h
 | refine awp_block ?_
 | refine awp_scope ?_
 | refine cond_b ?_ ?_
 | (show heapOK _ _ = true; kernel_rfl)
 | (show heapOK2 _ _ = true; kernel_rfl)
 | (omega)))
          all_goals first | (cases _h; done) | (simp [avSub]; done) | trace_state
end Go.Am

/- Contracts of the slope functions: the columns that move. -/
namespace Go.Am
open Go.RowKit Go.Proofs
attribute [local irreducible] AWP CallS Kt goK CallK stepK evOps SemF SemY Imp
set_option maxRecDepth 4000
set_option linter.unusedSimpArgs false
set_option linter.unusedVariables false
set_option maxHeartbeats 3200000
/-- Does the cheapest surface from column i to z, that costs less than nothing, have column k? -/
def hitB (cst : Nat → Nat → Int) (m i z k : Nat) : Bool := decide (cheapV cst m i z < 0) && decide (i ≤ k ∧ k ≤ z)
def accT (cst : Nat → Nat → Int) (m i z0 : Nat) (g : Nat → Bool) : Nat → Nat → Bool
  | 0 => g
  | l + 1 => fun k => accT cst m i z0 g l k || hitB cst m i (z0 + l) k
def accF (cst : Nat → Nat → Int) (m lst n : Nat) : Nat → Nat → Bool
  | 0 => fun _ => false
  | i + 1 => accT cst m i (i + lst - 1) (accF cst m lst n i) (n - (i + lst - 1))
theorem accT_iff {cst : Nat → Nat → Int} {m i z0 : Nat} {g : Nat → Bool} {k : Nat} : ∀ l, accT cst m i z0 g l k = true ↔ g k = true ∨ ∃ z, z0 ≤ z ∧ z < z0 + l ∧ hitB cst m i z k = true
  | 0 => by simp only [accT]; constructor
            · exact .inl
            · rintro (h | ⟨z, h1, h2, _⟩)
              · exact h
              · omega
  | l + 1 => by
    simp only [accT, Bool.or_eq_true]
    rw [accT_iff l]
    constructor
    · rintro ((h | ⟨z, h1, h2, h3⟩) | h)
      · exact .inl h
      · exact .inr ⟨z, h1, by omega, h3⟩
      · exact .inr ⟨z0 + l, by omega, by omega, h⟩
    · rintro (h | ⟨z, h1, h2, h3⟩)
      · exact .inl (.inl h)
      · by_cases e : z = z0 + l
        · subst e; exact .inr h3
        · exact .inl (.inr ⟨z, h1, by omega, h3⟩)
theorem accF_iff {cst : Nat → Nat → Int} {m lst n k : Nat} : ∀ i, accF cst m lst n i k = true ↔ ∃ j z, j < i ∧ j + lst - 1 ≤ z ∧ z < n ∧ hitB cst m j z k = true
  | 0 => by simp only [accF]; constructor
            · intro h; cases h
            · rintro ⟨j, z, h, _⟩; omega
  | i + 1 => by
    simp only [accF]
    rw [accT_iff, accF_iff i]
    constructor
    · rintro (⟨j, z, h1, h2, h3, h4⟩ | ⟨z, h1, h2, h3⟩)
      · exact ⟨j, z, by omega, h2, h3, h4⟩
      · exact ⟨i, z, by omega, h1, by omega, h3⟩
    · rintro ⟨j, z, h1, h2, h3, h4⟩
      by_cases e : j = i
      · subst e; exact .inr ⟨z, h2, by omega, h4⟩
      · exact .inl ⟨j, z, by omega, h2, h3, h4⟩
/-- The columns that move. -/
def movL (cst : Nat → Nat → Int) (m lst n : Nat) : List Nat := (List.range n).filter (accF cst m lst n n)
theorem natI_snoc {l : List Nat} {x : Nat} : natI (l ++ [x]) = natI l ++ [(x : Int)] := by simp [natI]
theorem ints_snoc {l : List Int} {x : Int} : ints l ++ [.int .i64 x] = ints (l ++ [x]) := by simp [ints]
theorem moves_c (s : Slope) (m : Nat) (fa : Int) (T : FuncId) (tv : Bed → Reals) (h : SlopeOK s m) (ht : TruthF T tv) (hf : 0 ≤ fa ∧ fa ≤ 10000) (lst : Nat) (hl : s.least = lst) :
    CallS Try.prog 23 [.agg (lookC s fa T)] (sl (natI (movL (costV s fa tv) m lst s.cols.length))) := by
  have hch := fun fr to h1 h2 => cheapest_c s m fa T tv h ht hf fr to h1 h2
  have hcn := h.cn
  have hls := h.lst
  rw [hl] at hls
  generalize costV s fa tv = cst at *
  obtain ⟨n, hn⟩ : ∃ n, s.cols.length = n := ⟨_, rfl⟩
  simp only [lookC, slC, hl, hn] at hch hcn ⊢
  (refine callS_of_awp (fun w args => Try.call23 ..) Try.func23 rfl (fun w0 m0 wz => ?_); simp only [Try.ntmps23, Try.results23, initT, junks, sl, List.toList_toArray, List.cons_append, List.nil_append, List.length_cons, List.length_nil, Nat.reduceAdd, Nat.reduceSub])
  (repeat' (first
 | ((show zeroOK _ = true; rfl))
 | ((omega))
 | refine awp_seqK ?_
 | refine kt ?_
 | refine And.intro ?_ ?_
 | ((first | refine awp_stp rfl ?_ | refine awp_draw (by kernel_rfl) (by kernel_rfl) ?_ | refine Imp.le2 ?_ | refine go_split (fun _h => ?_) (fun _h => ?_)) <;> try simp (maxSteps := 4000000) only [go_sem, seval, ↓rep_bools, hn])
 | intro _h
 | refine awp_block ?_
 | refine awp_scope ?_
 | refine cond_b ?_ ?_
 | (show heapOK _ _ = true; kernel_rfl)
 | (show heapOK2 _ _ = true; kernel_rfl)
 | (omega)))
  refine awp_loopN n (fun i => ⟨mkT 72 [(1, .ptr 0 0 0), (2, .nils), (3, .osl 1 0 0 n), (19, .int .i64 n), (20, .int .i64 i)], [some (.cells 81 1 0 [.psl false n (colC s.cols), .int .i64 lst, .int .i64 fa, .fn (.func T) [] []]), some (.cells 4 1 0 (bools (tab n (accF cst m lst n i))))], []⟩) (.le2 ?_) ?_
  · have e0 : accF cst m lst n 0 = fun _ => false := rfl
    rw [e0]; simp (maxSteps := 4000000) only [go_sem, seval]
    all_goals first | rfl | exact ⟨rfl, rfl⟩ | trace_state
  · intro i hi
    rcases Nat.lt_or_eq_of_le hi with hi1 | hi1
    · have e0 : accF cst m lst n (i + 1) = accT cst m i (i + lst - 1) (accF cst m lst n i) (n - (i + lst - 1)) := rfl
      rw [e0]
      generalize accF cst m lst n i = g at *
      have ez : (i : Int) + (lst : Int) - 1 = ((i + lst - 1 : Nat) : Int) := by omega
      obtain ⟨z0, hz0⟩ : ∃ z0, i + lst - 1 = z0 := ⟨_, rfl⟩
      rw [hz0] at ez ⊢
      simp (maxSteps := 4000000) only [go_sem, seval]
      (repeat' (first
 | ((omega))
 | ((exfalso; omega))
 | refine awp_seqK ?_
 | refine kt ?_
 | refine And.intro ?_ ?_
 | ((first | refine awp_stp rfl ?_ | refine awp_draw (by kernel_rfl) (by kernel_rfl) ?_ | refine Imp.le2 ?_ | refine go_split (fun _h => ?_) (fun _h => ?_)) <;> try simp (maxSteps := 4000000) only [go_sem, seval, hn, ez])
 | intro _h
 | refine awp_block ?_
 | refine awp_scope ?_
 | refine cond_b ?_ ?_
 | (show heapOK _ _ = true; kernel_rfl)
 | (show heapOK2 _ _ = true; kernel_rfl)
 | (omega)))
      refine awp_loopJ (fun z : Nat => z0 ≤ z ∧ (z ≤ n ∨ z = z0)) (fun z => ⟨mkT 72 [(1, .ptr 0 0 0), (2, .nils), (3, .osl 1 0 0 n), (19, .int .i64 n), (20, .int .i64 i), (4, .int .i64 i), (5, .int .i64 z)], [some (.cells 81 1 0 [.psl false n (colC s.cols), .int .i64 lst, .int .i64 fa, .fn (.func T) [] []]), some (.cells 4 1 0 (bools (tab n (accT cst m i z0 g (z - z0)))))], []⟩) (fun z => n - z) z0 ⟨Nat.le_refl _, .inr rfl⟩ (.le2 ?_) ?_
      · rw [Nat.sub_self]
        have e1 : accT cst m i z0 g 0 = g := rfl
        rw [e1]; simp (maxSteps := 4000000) only [go_sem, seval]
        all_goals first | rfl | exact ⟨rfl, rfl⟩ | trace_state
      · rintro z ⟨hz, hz2⟩
        by_cases hzn : z < n
        · have hco := hch i z (by omega) hzn
          have e1 : accT cst m i z0 g (z + 1 - z0) = fun k => accT cst m i z0 g (z - z0) k || hitB cst m i z k := by
            rw [show z + 1 - z0 = (z - z0) + 1 by omega]
            simp only [accT]
            rw [show z0 + (z - z0) = z by omega]
          have ehb : ∀ k, hitB cst m i z k = (decide (cheapV cst m i z < 0) && decide (i ≤ k ∧ k ≤ z)) := fun _ => rfl
          simp only [ehb] at e1
          generalize accT cst m i z0 g (z - z0) = g2 at *
          generalize cheapV cst m i z = cv at *
          generalize wayV cst m i z = wv at *
          simp only [sl] at hco
          simp (maxSteps := 4000000) only [go_sem, seval]
          (repeat' (first
 | ((omega))
 | ((exfalso; omega))
 | refine awp_seqK ?_
 | refine kt ?_
 | refine And.intro ?_ ?_
 | ((first | refine awp_stp rfl ?_ | refine awp_draw (by kernel_rfl) (by kernel_rfl) ?_ | refine Imp.le2 ?_ | refine callK_of (hco) ?_ | refine go_split (fun _h => ?_) (fun _h => ?_)) <;> try simp (maxSteps := 4000000) only [go_sem, seval, hn])
 | intro _h
 | refine awp_block ?_
 | refine awp_scope ?_
 | refine cond_b ?_ ?_
 | (show heapOK _ _ = true; kernel_rfl)
 | (show heapOK2 _ _ = true; kernel_rfl)
 | (omega)))
          by_cases hv : cv < 0
          · have eV : (cv < 0) = True := eq_true hv
            refine awp_loopJ (fun k : Nat => i ≤ k ∧ k ≤ z + 1) (fun k => ⟨mkT 72 [(1, .ptr 0 0 0), (2, .nils), (3, .osl 1 0 0 n), (19, .int .i64 n), (20, .int .i64 i), (4, .int .i64 i), (5, .int .i64 z), (7, .int .i64 cv), (8, .int .i64 k)], [some (.cells 81 1 0 [.psl false n (colC s.cols), .int .i64 lst, .int .i64 fa, .fn (.func T) [] []]), some (.cells 4 1 0 (bools (tab n fun x => g2 x || decide (i ≤ x ∧ x < k))))], []⟩) (fun k => z + 1 - k) i ⟨Nat.le_refl _, by omega⟩ (.le2 ?_) ?_
            · have e2 : (fun x => g2 x || decide (i ≤ x ∧ x < i)) = g2 := by
                funext x
                rw [decide_eq_false (by omega), Bool.or_false]
              rw [e2]; simp (maxSteps := 4000000) only [go_sem, seval]
              all_goals first | rfl | exact ⟨rfl, rfl⟩ | trace_state
            · rintro k ⟨hk1, hk2⟩
              by_cases hkz : k ≤ z
              · have eK : ((k : Int) ≤ (z : Int)) = True := eq_true (by omega)
                have e2 : isp (tab n fun x => g2 x || decide (i ≤ x ∧ x < k)) k true = tab n fun x => g2 x || decide (i ≤ x ∧ x < k + 1) := by
                  rw [isp_tab (by omega)]
                  refine tab_congr fun x _ => ?_
                  by_cases e : x = k
                  · subst e; rw [if_pos rfl, decide_eq_true (show i ≤ x ∧ x < x + 1 by omega), Bool.or_true]
                  · rw [if_neg e]
                    congr 1
                    rw [decide_eq_decide]; omega
                simp (maxSteps := 4000000) only [go_sem, seval]
                (repeat' (first
 | ((omega))
 | ((exfalso; omega))
 | refine awp_seqK ?_
 | refine kt ?_
 | refine And.intro ?_ ?_
 | ((first | refine awp_stp rfl ?_ | refine awp_draw (by kernel_rfl) (by kernel_rfl) ?_ | refine Imp.le2 ?_ | refine go_split (fun _h => ?_) (fun _h => ?_)) <;> try simp (maxSteps := 4000000) only [go_sem, seval, eV, eK, decide_true, e2])
 | intro _h
 | refine awp_block ?_
 | refine awp_scope ?_
 | refine cond_b ?_ ?_
 | (show heapOK _ _ = true; kernel_rfl)
 | (show heapOK2 _ _ = true; kernel_rfl)
 | (omega)))
                refine ⟨k + 1, ⟨by omega, by omega⟩, by omega, .le2 ?_⟩
                simp (maxSteps := 4000000) only [go_sem, seval]
                all_goals first | rfl | exact ⟨rfl, rfl⟩ | trace_state
              · have hkk : k = z + 1 := by omega
                subst hkk
                have eK : (((z + 1 : Nat) : Int) ≤ (z : Int)) = False := eq_false (by omega)
                have e2 : (fun x => g2 x || decide (i ≤ x ∧ x < z + 1)) = fun k => g2 k || (decide (cv < 0) && decide (i ≤ k ∧ k ≤ z)) := by
                  funext x
                  rw [decide_eq_true hv, Bool.true_and]
                  congr 1
                  rw [decide_eq_decide]; omega
                rw [e2, ← e1]
                simp (maxSteps := 4000000) only [go_sem, seval]
                (repeat' (first
 | ((omega))
 | ((exfalso; omega))
 | refine awp_seqK ?_
 | refine kt ?_
 | refine And.intro ?_ ?_
 | ((first | refine awp_stp rfl ?_ | refine awp_draw (by kernel_rfl) (by kernel_rfl) ?_ | refine Imp.le2 ?_ | refine go_split (fun _h => ?_) (fun _h => ?_)) <;> try simp (maxSteps := 4000000) only [go_sem, seval, eV, eK, decide_true, decide_false])
 | intro _h
 | refine awp_block ?_
 | refine awp_scope ?_
 | refine cond_b ?_ ?_
 | (show heapOK _ _ = true; kernel_rfl)
 | (show heapOK2 _ _ = true; kernel_rfl)
 | (omega)))
                refine ⟨z + 1, ⟨by omega, .inl (by omega)⟩, by omega, .le2 ?_⟩
                simp (maxSteps := 4000000) only [go_sem, seval]
                all_goals first | rfl | exact ⟨rfl, rfl⟩ | trace_state
          · have eV : (cv < 0) = False := eq_false hv
            have e2 : g2 = fun k => g2 k || (decide (cv < 0) && decide (i ≤ k ∧ k ≤ z)) := by
              funext x
              rw [decide_eq_false hv, Bool.false_and, Bool.or_false]
            rw [← e2] at e1
            refine awp_loopN 0 (fun k => ⟨mkT 72 [(1, .ptr 0 0 0), (2, .nils), (3, .osl 1 0 0 n), (19, .int .i64 n), (20, .int .i64 i), (4, .int .i64 i), (5, .int .i64 z), (7, .int .i64 cv), (8, .int .i64 i)], [some (.cells 81 1 0 [.psl false n (colC s.cols), .int .i64 lst, .int .i64 fa, .fn (.func T) [] []]), some (.cells 4 1 0 (bools (tab n g2)))], []⟩) (.le2 ?_) ?_
            · simp (maxSteps := 4000000) only [go_sem, seval]
              all_goals first | rfl | exact ⟨rfl, rfl⟩ | trace_state
            · intro k hk
              simp (maxSteps := 4000000) only [go_sem, seval]
              (repeat' (first
 | ((omega))
 | ((exfalso; omega))
 | refine awp_seqK ?_
 | refine kt ?_
 | refine And.intro ?_ ?_
 | ((first | refine awp_stp rfl ?_ | refine awp_draw (by kernel_rfl) (by kernel_rfl) ?_ | refine Imp.le2 ?_ | refine go_split (fun _h => ?_) (fun _h => ?_)) <;> try simp (maxSteps := 4000000) only [go_sem, seval, eV, decide_false])
 | intro _h
 | refine awp_block ?_
 | refine awp_scope ?_
 | refine cond_b ?_ ?_
 | (show heapOK _ _ = true; kernel_rfl)
 | (show heapOK2 _ _ = true; kernel_rfl)
 | (omega)))
              refine ⟨z + 1, ⟨by omega, .inl (by omega)⟩, by omega, .le2 ?_⟩
              rw [e1]
              simp (maxSteps := 4000000) only [go_sem, seval]
              all_goals first | rfl | exact ⟨rfl, rfl⟩ | trace_state
        · have e1 : z - z0 = n - z0 := by omega
          rw [e1]
          generalize accT cst m i z0 g (n - z0) = g2 at *
          simp (maxSteps := 4000000) only [go_sem, seval]
          (repeat' (first
 | ((omega))
 | ((exfalso; omega))
 | refine awp_seqK ?_
 | refine kt ?_
 | refine And.intro ?_ ?_
 | ((first | refine awp_stp rfl ?_ | refine awp_draw (by kernel_rfl) (by kernel_rfl) ?_ | refine Imp.le2 ?_ | refine go_split (fun _h => ?_) (fun _h => ?_)) <;> try simp (maxSteps := 4000000) only [go_sem, seval, hn])
 | intro _h
 | refine awp_block ?_
 | refine awp_scope ?_
 | refine cond_b ?_ ?_
 | (show heapOK _ _ = true; kernel_rfl)
 | (show heapOK2 _ _ = true; kernel_rfl)
 | (omega)))
          all_goals trace_state
    · subst hi1
      have hmv : movL cst m lst i = (List.range i).filter (accF cst m lst i i) := rfl
      rw [hmv]
      generalize accF cst m lst i i = g at *
      simp (maxSteps := 4000000) only [go_sem, seval]
      (repeat' (first
 | ((omega))
 | ((exfalso; omega))
 | refine awp_seqK ?_
 | refine kt ?_
 | refine And.intro ?_ ?_
 | ((first | refine awp_stp rfl ?_ | refine awp_draw (by kernel_rfl) (by kernel_rfl) ?_ | refine Imp.le2 ?_ | refine go_split (fun _h => ?_) (fun _h => ?_)) <;> try simp (maxSteps := 4000000) only [go_sem, seval])
 | intro _h
 | refine awp_block ?_
 | refine awp_scope ?_
 | refine cond_b ?_ ?_
 | (show heapOK _ _ = true; kernel_rfl)
 | (show heapOK2 _ _ = true; kernel_rfl)
 | (omega)))
      (refine awp_adT 2 3 1 rfl ?_; simp only [adT, lset, hset, List.length_cons, List.length_nil, Nat.reduceAdd])
      refine awp_loopN i (fun k => ⟨mkT 72 [(2, .osl 2 ((List.range k).filter g).length 0 ((List.range k).filter g).length), (58, .osl 1 0 0 i), (59, .int .i64 i), (60, .int .i64 k)], [none, some (.cells 4 1 0 (bools (tab i g))), some (.cells 3 1 ((List.range k).filter g).length (ints (natI ((List.range k).filter g))))], []⟩) (.le2 ?_) ?_
      · simp only [List.range_zero, List.filter_nil, natI, List.map_nil, ints, List.length_nil]; simp (maxSteps := 4000000) only [go_sem, seval]
        all_goals first | rfl | exact ⟨rfl, rfl⟩ | trace_state
      · intro k hk
        have hle : ((List.range k).filter g).length ≤ k := by have := List.length_filter_le g (List.range k); simpa using this
        have hnl : (natI ((List.range k).filter g)).length = ((List.range k).filter g).length := by simp [natI]
        rcases Nat.lt_or_eq_of_le hk with hk1 | hk1
        · have hgd : (tab i g).getD k false = g k := tab_getD hk1
          cases hg : g k with
          | true =>
            have e1 : (List.range (k + 1)).filter g = (List.range k).filter g ++ [k] := by rw [List.range_succ, List.filter_append]; simp [hg]
            have e2 : natI ((List.range k).filter g ++ [k]) = natI ((List.range k).filter g) ++ [(k : Int)] := natI_snoc
            have e3 : ((List.range k).filter g ++ [k]).length = ((List.range k).filter g).length + 1 := by simp
            rw [hg] at hgd
            rw [e1, e2, e3]
            generalize hL : (List.range k).filter g = L at *
            simp (maxSteps := 4000000) only [go_sem, seval]
            (repeat' (first
 | ((omega))
 | ((exfalso; omega))
 | refine awp_seqK ?_
 | refine kt ?_
 | refine And.intro ?_ ?_
 | ((first | refine awp_stp rfl ?_ | refine awp_draw (by kernel_rfl) (by kernel_rfl) ?_ | refine Imp.le2 ?_ | refine go_split (fun _h => ?_) (fun _h => ?_)) <;> try simp (maxSteps := 4000000) only [go_sem, seval, hgd, hnl, ints_snoc])
 | intro _h
 | refine awp_block ?_
 | refine awp_scope ?_
 | refine cond_b ?_ ?_
 | (show heapOK _ _ = true; kernel_rfl)
 | (show heapOK2 _ _ = true; kernel_rfl)
 | (omega)))
            all_goals trace_state
          | false =>
            have e1 : (List.range (k + 1)).filter g = (List.range k).filter g := by rw [List.range_succ, List.filter_append]; simp [hg]
            rw [hg] at hgd
            rw [e1]
            generalize hL : (List.range k).filter g = L at *
            simp (maxSteps := 4000000) only [go_sem, seval]
            (repeat' (first
 | ((omega))
 | ((exfalso; omega))
 | refine awp_seqK ?_
 | refine kt ?_
 | refine And.intro ?_ ?_
 | ((first | refine awp_stp rfl ?_ | refine awp_draw (by kernel_rfl) (by kernel_rfl) ?_ | refine Imp.le2 ?_ | refine go_split (fun _h => ?_) (fun _h => ?_)) <;> try simp (maxSteps := 4000000) only [go_sem, seval, hgd, hnl])
 | intro _h
 | refine awp_block ?_
 | refine awp_scope ?_
 | refine cond_b ?_ ?_
 | (show heapOK _ _ = true; kernel_rfl)
 | (show heapOK2 _ _ = true; kernel_rfl)
 | (omega)))
            all_goals trace_state
        · subst hk1
          rw [← hnl]
          generalize natI ((List.range k).filter g) = L at *
          simp (maxSteps := 4000000) only [go_sem, seval]
          (repeat' (first
 | ((omega))
 | ((exfalso; omega))
 | refine awp_seqK ?_
 | refine kt ?_
 | refine And.intro ?_ ?_
 | ((first | refine awp_stp rfl ?_ | refine awp_draw (by kernel_rfl) (by kernel_rfl) ?_ | refine Imp.le2 ?_ | refine go_split (fun _h => ?_) (fun _h => ?_)) <;> try simp (maxSteps := 4000000) only [go_sem, seval])
 | intro _h
 | refine awp_block ?_
 | refine awp_scope ?_
 | refine cond_b ?_ ?_
 | (show heapOK _ _ = true; kernel_rfl)
 | (show heapOK2 _ _ = true; kernel_rfl)
 | (omega)))
          all_goals trace_state
end Go.Am

/- Contracts of the slope functions: what moves; slopes for the program; whether one is valid. -/
namespace Go.Am
open Go.RowKit Go.Proofs
attribute [local irreducible] AWP CallS Kt goK CallK stepK evOps SemF SemY Imp
set_option maxRecDepth 4000
set_option linter.unusedSimpArgs false
set_option linter.unusedVariables false
set_option maxHeartbeats 3200000
instance {l : List Int} : Still (ints l) := ⟨fun y hy => by
  simp only [ints, List.mem_map] at hy
  obtain ⟨n, _, rfl⟩ := hy
  rfl⟩
instance {l : List Bed} : Still (recs bedC l) := ⟨fun y hy => by
  simp only [recs, List.mem_flatMap] at hy
  obtain ⟨h, _, hy⟩ := hy
  simp only [bedC, List.mem_cons, List.not_mem_nil, or_false] at hy
  rcases hy with rfl | rfl | rfl | rfl | rfl | rfl | rfl | rfl <;> rfl⟩
instance {l : List (List Bed)} : Still (colC l) := ⟨fun y hy => by
  simp only [colC, List.mem_map] at hy
  obtain ⟨h, _, rfl⟩ := hy
  rfl⟩
theorem below_c (s : Slope) (fa : Int) : CallS Try.prog 24 [.agg (slopeC s), .int .i64 fa] (.agg (lookC s fa 46)) := by
  simp only [lookC, slopeC, slC]
  (refine callS_of_awp (fun w args => Try.call24 ..) Try.func24 rfl (fun w0 m0 wz => ?_); simp only [Try.ntmps24, Try.results24, initT, junks, sl, List.toList_toArray, List.cons_append, List.nil_append, List.length_cons, List.length_nil, Nat.reduceAdd, Nat.reduceSub])
  (repeat' (first
 | refine awp_seqK ?_
 | refine kt ?_
 | refine And.intro ?_ ?_
 | ((first | refine awp_stp rfl ?_ | refine awp_draw (by kernel_rfl) (by kernel_rfl) ?_ | refine Imp.le2 ?_ | refine go_split (fun _h => ?_) (fun _h => ?_)) <;> try simp (maxSteps := 4000000) only [go_sem, seval])
 | intro _h
 | refine awp_block ?_
 | refine awp_scope ?_
 | refine cond_b ?_ ?_
 | (show heapOK _ _ = true; kernel_rfl)
 | (show heapOK2 _ _ = true; kernel_rfl)
 | (omega)))
  all_goals first | rfl | (cases _h; done) | (simp [avSub]; done) | trace_state
theorem Moves_c (s : Slope) (m : Nat) (fa : Int) (h : SlopeOK s m) (hf : 0 ≤ fa ∧ fa ≤ 10000) (lst : Nat) (hl : s.least = lst) :
    CallS Try.prog 9 [.agg (slopeC s), .int .i64 fa] (.tup [sl (natI (movL (costV s fa mostV) m lst s.cols.length)), sl (natI (movL (costV s fa leastV) m lst s.cols.length)), .int .i64 0]) := by
  have h1 := asked_c s m fa h hf
  have h2 := below_c s fa
  have h3 := moves_c s m fa 22 mostV h truthM hf lst hl
  have h4 := moves_c s m fa 46 leastV h truthL hf lst hl
  generalize movL (costV s fa mostV) m lst s.cols.length = A at *
  generalize movL (costV s fa leastV) m lst s.cols.length = B at *
  simp only [lookC, slopeC, slC, sl] at h1 h2 h3 h4 ⊢
  (refine callS_of_awp (fun w args => Try.call9 ..) Try.func9 rfl (fun w0 m0 wz => ?_); simp only [Try.ntmps9, Try.results9, initT, junks, sl, List.toList_toArray, List.cons_append, List.nil_append, List.length_cons, List.length_nil, Nat.reduceAdd, Nat.reduceSub])
  (repeat' (first
 | refine awp_seqK ?_
 | refine kt ?_
 | refine And.intro ?_ ?_
 | ((first | refine awp_stp rfl ?_ | refine awp_draw (by kernel_rfl) (by kernel_rfl) ?_ | refine Imp.le2 ?_ | refine callK_of (h1) ?_ | refine callK_of (h2) ?_ | refine callK_of (h3) ?_ | refine callK_of (h4) ?_ | refine go_split (fun _h => ?_) (fun _h => ?_)) <;> try simp (maxSteps := 4000000) only [go_sem, seval])
 | intro _h
 | refine awp_block ?_
 | refine awp_scope ?_
 | refine cond_b ?_ ?_
 | (show heapOK _ _ = true; kernel_rfl)
 | (show heapOK2 _ _ = true; kernel_rfl)
 | (omega)))
  all_goals trace_state
theorem take_snoc {α : Type} {l : List α} {k : Nat} {d : α} (h : k < l.length) : l.take (k + 1) = l.take k ++ [l.getD k d] := by
  rw [List.take_succ_eq_append_getElem h]; simp [List.getD_eq_getElem?_getD, h]
theorem Slope_c (s : Slope) (m : Nat) (h : SlopeOK s m) : CallS Try.prog 10 [.agg (slopeC s)] (.agg (slopeC s)) := by
  have hcn := h.cn
  have hcm := h.cm
  obtain ⟨n, hn⟩ : ∃ n, s.cols.length = n := ⟨_, rfl⟩
  simp only [slopeC, slC, hn] at hcn ⊢
  (refine callS_of_awp (fun w args => Try.call10 ..) Try.func10 rfl (fun w0 m0 wz => ?_); simp only [Try.ntmps10, Try.results10, initT, junks, sl, List.toList_toArray, List.cons_append, List.nil_append, List.length_cons, List.length_nil, Nat.reduceAdd, Nat.reduceSub])
  (repeat' (first
 | ((omega))
 | refine awp_seqK ?_
 | refine kt ?_
 | refine And.intro ?_ ?_
 | ((first | refine awp_stp rfl ?_ | refine awp_draw (by kernel_rfl) (by kernel_rfl) ?_ | refine Imp.le2 ?_ | refine go_split (fun _h => ?_) (fun _h => ?_)) <;> try simp (maxSteps := 4000000) only [go_sem, seval, hn])
 | intro _h
 | refine awp_block ?_
 | refine awp_scope ?_
 | refine cond_b ?_ ?_
 | (show heapOK _ _ = true; kernel_rfl)
 | (show heapOK2 _ _ = true; kernel_rfl)
 | (omega)))
  refine awp_adH 2 0 84 1 rfl rfl ?_
  simp only [adH, hget, hset, lset, List.length_cons, List.length_nil, Nat.reduceAdd]
  refine awp_loopN n (fun i => ⟨mkT 60 [(1, .ptr 0 0 0), (2, .ptr 1 0 0), (3, .ptr 2 0 0), (4, .int .i64 i)], [some (.cells 24 1 0 [.psl false n (colC s.cols), .int .i64 s.least]), some (.cells 47 1 0 [.nils, .int .i64 0]), some (.cells 47 1 0 [.osl 3 i 0 i, .int .i64 s.least]), some (.cells 84 1 i (colC (s.cols.take i)))], []⟩) (.le2 ?_) ?_
  · simp only [List.take_zero, colC, List.map_nil]; simp (maxSteps := 4000000) only [go_sem, seval]
    all_goals first | rfl | exact ⟨rfl, rfl⟩ | trace_state
  · intro i hi
    rcases Nat.lt_or_eq_of_le hi with hi1 | hi1
    · have hlt : (s.cols.take i).length = i := by simp; omega
      have hm := h.len i (by omega)
      have e1 : colC (s.cols.take (i + 1)) = colC (s.cols.take i) ++ [slB (s.cols.getD i [])] := by rw [take_snoc (d := []) (by omega), colC_snoc]
      have hcl : (colC (s.cols.take i)).length = i := by rw [colC_length, hlt]
      obtain ⟨row, hrow⟩ : ∃ row, s.cols.getD i [] = row := ⟨_, rfl⟩
      rw [hrow] at hm e1
      rw [e1]
      have hCv : ∀ p : Nat → Bool, (colC (s.cols.take i)).all (live2 p) = true := fun p => lv_col
      simp (maxSteps := 4000000) only [go_sem, seval]
      (repeat' (first
 | ((omega))
 | ((exfalso; omega))
 | refine awp_seqK ?_
 | refine kt ?_
 | refine And.intro ?_ ?_
 | ((first | refine awp_stp rfl ?_ | refine awp_draw (by kernel_rfl) (by kernel_rfl) ?_ | refine Imp.le2 ?_ | refine go_split (fun _h => ?_) (fun _h => ?_)) <;> try simp (maxSteps := 4000000) only [go_sem, seval, hn, hrow, hm])
 | intro _h
 | refine awp_block ?_
 | refine awp_scope ?_
 | refine cond_b ?_ ?_
 | (show heapOK _ _ = true; kernel_rfl)
 | (show heapOK2 _ _ = true; kernel_rfl)
 | (omega)))
      (refine awp_adT 5 79 8 rfl ?_; simp only [adT, lset, hset, List.length_cons, List.length_nil, Nat.reduceAdd])
      refine awp_loopN m (fun k => ⟨mkT 60 [(1, .ptr 0 0 0), (2, .ptr 1 0 0), (3, .ptr 2 0 0), (4, .int .i64 i), (5, .osl 4 k 0 k), (6, .int .i64 k)], [some (.cells 24 1 0 [.psl false n (colC s.cols), .int .i64 s.least]), some (.cells 47 1 0 [.nils, .int .i64 0]), some (.cells 47 1 0 [.osl 3 i 0 i, .int .i64 s.least]), some (.cells 84 1 i (colC (s.cols.take i))), some (.cells 79 8 k (recs bedC (row.take k)))], []⟩) (.le2 ?_) ?_
      · simp only [List.take_zero, recs, List.flatMap_nil]; simp (maxSteps := 4000000) only [go_sem, seval]
        all_goals first | rfl | exact ⟨rfl, rfl⟩ | trace_state
      · intro k hk
        rcases Nat.lt_or_eq_of_le hk with hk1 | hk1
        · have hlk : (row.take k).length = k := by simp; omega
          have hrl : (recs bedC (row.take k)).length = k * 8 := by rw [len_Bd, hlk]
          obtain ⟨b, hb⟩ : ∃ b, row.getD k default = b := ⟨_, rfl⟩
          have e2 : recs bedC (row.take (k + 1)) = recs bedC (row.take k) ++ bedC b := by rw [take_snoc (d := default) (by omega), recs_snoc, hb]
          rw [e2]
          simp (maxSteps := 4000000) only [go_sem, seval]
          (repeat' (first
 | ((omega))
 | ((exfalso; omega))
 | refine awp_seqK ?_
 | refine kt ?_
 | refine And.intro ?_ ?_
 | ((first | refine awp_stp rfl ?_ | refine awp_draw (by kernel_rfl) (by kernel_rfl) ?_ | refine Imp.le2 ?_ | refine callK_of (to_c _ _) ?_ | refine go_split (fun _h => ?_) (fun _h => ?_)) <;> try simp (maxSteps := 4000000) only [go_sem, seval, hn, hrow, hm, hb, bedC, hrl])
 | intro _h
 | refine awp_block ?_
 | refine awp_scope ?_
 | refine cond_b ?_ ?_
 | (show heapOK _ _ = true; kernel_rfl)
 | (show heapOK2 _ _ = true; kernel_rfl)
 | (omega)))
          all_goals first | (rw [List.all_append, lv_Bd]; rfl) | trace_state
        · subst hk1
          have hrt : row.take k = row := by rw [← hm]; simp
          rw [hrt]
          simp (maxSteps := 4000000) only [go_sem, seval]
          (repeat' (first
 | (refine awp_frz (c := .region 11 _ _) 4 rfl (by simp (maxSteps := 4000000) only [go_sem, seval, hn, hrow, hm, hcl]) (fun _ => rfl) ?_; simp only [frz, fq_pure, fzB_c, fzB_m, fzB_d, fzB_l, fzO, fzH, fzHs, fzl, fz2, fz1, fz0, List.map_cons, List.map_nil, if_true, if_false, reduceIte, Nat.reduceEqDiff, Nat.reduceAdd, Nat.succ_ne_self, Nat.zero_ne_one, Nat.one_ne_zero, reduceCtorEq, and_self])
 | ((omega))
 | ((exfalso; omega))
 | refine awp_seqK ?_
 | refine kt ?_
 | refine And.intro ?_ ?_
 | ((first | refine awp_stp rfl ?_ | refine awp_draw (by kernel_rfl) (by kernel_rfl) ?_ | refine Imp.le2 ?_ | refine go_split (fun _h => ?_) (fun _h => ?_)) <;> try simp (maxSteps := 4000000) only [go_sem, seval, hn, hrow, hm, hcl])
 | intro _h
 | refine awp_block ?_
 | refine awp_scope ?_
 | refine cond_b ?_ ?_
 | (show heapOK _ _ = true; kernel_rfl)
 | (show heapOK2 _ _ = true; kernel_rfl)
 | (omega)))
          all_goals first | (rw [List.all_append, lv_col]; rfl) | trace_state
    · subst hi1
      have hrt : s.cols.take i = s.cols := by rw [← hn]; simp
      rw [hrt]
      simp (maxSteps := 4000000) only [go_sem, seval]
      (repeat' (first
 | ((omega))
 | ((exfalso; omega))
 | refine awp_seqK ?_
 | refine kt ?_
 | refine And.intro ?_ ?_
 | ((first | refine awp_stp rfl ?_ | refine awp_draw (by kernel_rfl) (by kernel_rfl) ?_ | refine Imp.le2 ?_ | refine go_split (fun _h => ?_) (fun _h => ?_)) <;> try simp (maxSteps := 4000000) only [go_sem, seval, hn])
 | intro _h
 | refine awp_block ?_
 | refine awp_scope ?_
 | refine cond_b ?_ ?_
 | (show heapOK _ _ = true; kernel_rfl)
 | (show heapOK2 _ _ = true; kernel_rfl)
 | (omega)))
      all_goals trace_state
end Go.Am

/- Contracts of the statement and the reference of slopes: thin, valid; the factor of a surface in a truth. -/
namespace Go.Am
open Go.RowKit Go.Proofs
attribute [local irreducible] AWP CallS Kt goK CallK stepK evOps SemF SemY Imp
set_option maxRecDepth 4000
set_option linter.unusedSimpArgs false
set_option linter.unusedVariables false
set_option maxHeartbeats 3200000
def thinB (s : Slope) : Bool := s.cols.all (fun l => decide (l.length ≤ 8)) && decide (s.cols.length ≤ 15)
theorem getD_in {α : Type} {l : List α} {i : Nat} {d : α} (h : i < l.length) : l.getD i d ∈ l := by
  rw [List.getD_eq_getElem?_getD, List.getElem?_eq_getElem h]; exact List.getElem_mem h
theorem all_getD {α : Type} {l : List α} {q : α → Bool} {d : α} : l.all q = true ↔ ∀ i, i < l.length → q (l.getD i d) = true := by
  rw [List.all_eq_true]
  constructor
  · intro h i hi; exact h _ (getD_in hi)
  · intro h x hx
    obtain ⟨i, hi, rfl⟩ := List.mem_iff_getElem.1 hx
    have := h i hi
    rwa [List.getD_eq_getElem?_getD, List.getElem?_eq_getElem hi] at this
theorem Thin_c (s : Slope) (h1 : s.cols.length ≤ 9223372036854775807) (h2 : ∀ i, i < s.cols.length → (s.cols.getD i []).length ≤ 9223372036854775807) : CallS Try.prog 4 [.agg (slopeC s)] (.bool (thinB s)) := by
  have hT : thinB s = true ↔ (∀ i, i < s.cols.length → (s.cols.getD i []).length ≤ 8) ∧ s.cols.length ≤ 15 := by
    unfold thinB
    rw [Bool.and_eq_true, all_getD (d := []), decide_eq_true_iff]
    constructor
    · rintro ⟨a, b⟩; exact ⟨fun i hi => of_decide_eq_true (a i hi), b⟩
    · rintro ⟨a, b⟩; exact ⟨fun i hi => decide_eq_true (a i hi), b⟩
  generalize thinB s = R at *
  simp only [slopeC, slC]
  (refine callS_of_awp (fun w args => Try.call4 ..) Try.func4 rfl (fun w0 m0 wz => ?_); simp only [Try.ntmps4, Try.results4, initT, junks, sl, List.toList_toArray, List.cons_append, List.nil_append, List.length_cons, List.length_nil, Nat.reduceAdd, Nat.reduceSub])
  (repeat' (first
 | refine awp_seqK ?_
 | refine kt ?_
 | refine And.intro ?_ ?_
 | ((first | refine awp_stp rfl ?_ | refine awp_draw (by kernel_rfl) (by kernel_rfl) ?_ | refine Imp.le2 ?_ | refine go_split (fun _h => ?_) (fun _h => ?_)) <;> try simp (maxSteps := 4000000) only [go_sem, seval])
 | intro _h
 | refine awp_block ?_
 | refine awp_scope ?_
 | refine cond_b ?_ ?_
 | (show heapOK _ _ = true; kernel_rfl)
 | (show heapOK2 _ _ = true; kernel_rfl)
 | (omega)))
  refine awp_loopJ (fun i : Nat => i ≤ s.cols.length ∧ i ≤ 16 ∧ ∀ j, j < i → (s.cols.getD j []).length ≤ 8) (fun i => ⟨mkT 26 [(1, .ptr 0 0 0), (3, .int .i64 i)], [some (.cells 24 1 0 [.psl false s.cols.length (colC s.cols), .int .i64 s.least])], []⟩) (fun i => s.cols.length - i) 0 ⟨Nat.zero_le _, by omega, fun j hj => by omega⟩ (.le2 ?_) ?_
  · simp (maxSteps := 4000000) only [go_sem, seval]
    all_goals first | rfl | exact ⟨rfl, rfl⟩ | trace_state
  · rintro i ⟨hi, hi16, hj⟩
    rcases Nat.lt_or_eq_of_le hi with hi1 | hi1
    · have hb := h2 i hi1
      by_cases c1 : (i : Int) > 15 ∨ ((s.cols.getD i []).length : Int) > 8
      · have hR : R = false := by
          cases hR : R
          · rfl
          · obtain ⟨a, b⟩ := hT.1 hR
            have := a i hi1
            omega
        rw [hR]
        simp (maxSteps := 4000000) only [go_sem, seval]
        (repeat' (first
 | ((omega))
 | ((exfalso; omega))
 | refine awp_seqK ?_
 | refine kt ?_
 | refine And.intro ?_ ?_
 | ((first | refine awp_stp rfl ?_ | refine awp_draw (by kernel_rfl) (by kernel_rfl) ?_ | refine Imp.le2 ?_ | refine go_split (fun _h => ?_) (fun _h => ?_)) <;> try simp (maxSteps := 4000000) only [go_sem, seval])
 | intro _h
 | refine awp_block ?_
 | refine awp_scope ?_
 | refine cond_b ?_ ?_
 | (show heapOK _ _ = true; kernel_rfl)
 | (show heapOK2 _ _ = true; kernel_rfl)
 | (omega)))
        all_goals trace_state
      · simp (maxSteps := 4000000) only [go_sem, seval]
        (repeat' (first
 | ((omega))
 | ((exfalso; omega))
 | refine awp_seqK ?_
 | refine kt ?_
 | refine And.intro ?_ ?_
 | ((first | refine awp_stp rfl ?_ | refine awp_draw (by kernel_rfl) (by kernel_rfl) ?_ | refine Imp.le2 ?_ | refine go_split (fun _h => ?_) (fun _h => ?_)) <;> try simp (maxSteps := 4000000) only [go_sem, seval])
 | intro _h
 | refine awp_block ?_
 | refine awp_scope ?_
 | refine cond_b ?_ ?_
 | (show heapOK _ _ = true; kernel_rfl)
 | (show heapOK2 _ _ = true; kernel_rfl)
 | (omega)))
        refine ⟨i + 1, ⟨by omega, by omega, fun j hji => ?_⟩, by omega, .le2 ?_⟩
        · rcases Nat.lt_succ_iff_lt_or_eq.1 hji with h | rfl
          · exact hj j h
          · omega
        · simp (maxSteps := 4000000) only [go_sem, seval]
          all_goals first | rfl | exact ⟨rfl, rfl⟩ | trace_state
    · have hR : R = decide ((s.cols.length : Int) ≤ 15) := by
        by_cases c : s.cols.length ≤ 15
        · rw [decide_eq_true (by omega)]
          exact hT.2 ⟨fun j hjl => hj j (by omega), c⟩
        · rw [decide_eq_false (by omega)]
          cases hR : R
          · rfl
          · exact absurd (hT.1 hR).2 c
      rw [hR]
      simp (maxSteps := 4000000) only [go_sem, seval]
      (repeat' (first
 | ((omega))
 | ((exfalso; omega))
 | refine awp_seqK ?_
 | refine kt ?_
 | refine And.intro ?_ ?_
 | ((first | refine awp_stp rfl ?_ | refine awp_draw (by kernel_rfl) (by kernel_rfl) ?_ | refine Imp.le2 ?_ | refine go_split (fun _h => ?_) (fun _h => ?_)) <;> try simp (maxSteps := 4000000) only [go_sem, seval])
 | intro _h
 | refine awp_block ?_
 | refine awp_scope ?_
 | refine cond_b ?_ ?_
 | (show heapOK _ _ = true; kernel_rfl)
 | (show heapOK2 _ _ = true; kernel_rfl)
 | (omega)))
      all_goals first | (exact (decide_eq_true ‹_›).symm) | (exact (decide_eq_false ‹_›).symm) | trace_state
def rowB (m : Nat) (l : List Bed) : Bool := decide ((1 ≤ l.length ∧ l.length ≤ 5) ∧ l.length = m) && l.all bedB
def rightB (s : Slope) : Bool := decide ((1 ≤ s.cols.length ∧ s.cols.length ≤ 12) ∧ 1 ≤ s.least ∧ s.least ≤ 4) && s.cols.all (rowB (s.cols.getD 0 []).length)
theorem rightB_ok {s : Slope} (h : rightB s = true) : SlopeOK s (s.cols.getD 0 []).length := by
  unfold rightB at h
  rw [Bool.and_eq_true] at h
  obtain ⟨h1, h2⟩ := h
  have h1 := of_decide_eq_true h1
  rw [all_getD (d := [])] at h2
  have h3 : ∀ i, i < s.cols.length → ((1 ≤ (s.cols.getD i []).length ∧ (s.cols.getD i []).length ≤ 5) ∧ (s.cols.getD i []).length = (s.cols.getD 0 []).length) ∧ (s.cols.getD i []).all bedB = true := fun i hi => by
    have := h2 i hi
    unfold rowB at this
    rw [Bool.and_eq_true] at this
    exact ⟨of_decide_eq_true this.1, this.2⟩
  exact ⟨h1.1, (h3 0 (by omega)).1.1, h1.2, fun i hi => (h3 i hi).1.2, fun i hi => (h3 i hi).2⟩
theorem Right_c (s : Slope) (hT : thinB s = true) : CallS Try.prog 5 [.agg (slopeC s)] (.bool (rightB s)) := by
  have hth : (∀ i, i < s.cols.length → (s.cols.getD i []).length ≤ 8) ∧ s.cols.length ≤ 15 := by
    unfold thinB at hT
    rw [Bool.and_eq_true, all_getD (d := [])] at hT
    exact ⟨fun i hi => of_decide_eq_true (hT.1 i hi), of_decide_eq_true hT.2⟩
  obtain ⟨t1, t2⟩ := hth
  have hR : ∀ R, rightB s = R → (R = true ↔ ((1 ≤ s.cols.length ∧ s.cols.length ≤ 12) ∧ 1 ≤ s.least ∧ s.least ≤ 4) ∧ ∀ i, i < s.cols.length → rowB (s.cols.getD 0 []).length (s.cols.getD i []) = true) := fun R e => by
    subst e
    unfold rightB
    rw [Bool.and_eq_true, all_getD (d := []), decide_eq_true_iff]
  generalize hRe : rightB s = R at *
  have hR := hR R rfl
  obtain ⟨n, hn⟩ : ∃ n, s.cols.length = n := ⟨_, rfl⟩
  obtain ⟨m, hm⟩ : ∃ m, (s.cols.getD 0 []).length = m := ⟨_, rfl⟩
  rw [hn] at t1 t2 hR
  rw [hm] at hR
  simp only [slopeC, slC, hn]
  by_cases c0 : (1 ≤ n ∧ n ≤ 12) ∧ 1 ≤ s.least ∧ s.least ≤ 4
  · have f1 : (1 ≤ (n : Int) ∧ (n : Int) ≤ 12) = True := eq_true (by omega)
    have f2 : (1 ≤ s.least ∧ s.least ≤ 4) = True := eq_true c0.2
    (refine callS_of_awp (fun w args => Try.call5 ..) Try.func5 rfl (fun w0 m0 wz => ?_); simp only [Try.ntmps5, Try.results5, initT, junks, sl, List.toList_toArray, List.cons_append, List.nil_append, List.length_cons, List.length_nil, Nat.reduceAdd, Nat.reduceSub])
    (repeat' (first
 | ((omega))
 | ((exfalso; omega))
 | refine awp_seqK ?_
 | refine kt ?_
 | refine And.intro ?_ ?_
 | ((first | refine awp_stp rfl ?_ | refine awp_draw (by kernel_rfl) (by kernel_rfl) ?_ | refine Imp.le2 ?_ | refine callK_of (inS_c _ _ _) ?_ | refine go_split (fun _h => ?_) (fun _h => ?_)) <;> try simp (maxSteps := 4000000) only [go_sem, seval, f1, f2, decide_true])
 | intro _h
 | refine awp_block ?_
 | refine awp_scope ?_
 | refine cond_b ?_ ?_
 | (show heapOK _ _ = true; kernel_rfl)
 | (show heapOK2 _ _ = true; kernel_rfl)
 | (omega)))
    refine awp_loopJ (fun i : Nat => i ≤ n ∧ ∀ j, j < i → rowB m (s.cols.getD j []) = true) (fun i => ⟨mkT 92 [(1, .ptr 0 0 0), (3, .int .i64 i)], [some (.cells 24 1 0 [.psl false n (colC s.cols), .int .i64 s.least])], []⟩) (fun i => n - i) 0 ⟨Nat.zero_le _, fun j hj => by omega⟩ (.le2 ?_) ?_
    · simp (maxSteps := 4000000) only [go_sem, seval]
      all_goals first | rfl | exact ⟨rfl, rfl⟩ | trace_state
    · rintro i ⟨hi, hj⟩
      rcases Nat.lt_or_eq_of_le hi with hi1 | hi1
      · have tl := t1 i hi1
        obtain ⟨row, hrow⟩ : ∃ row, s.cols.getD i [] = row := ⟨_, rfl⟩
        rw [hrow] at tl
        have hbad : rowB m row = false → R = false := fun h => by
          cases hR2 : R
          · rfl
          · have := (hR.1 hR2).2 i hi1
            rw [hrow, h] at this; cases this
        by_cases c1 : (1 ≤ row.length ∧ row.length ≤ 5) ∧ row.length = m
        · have f3 : (1 ≤ (row.length : Int) ∧ (row.length : Int) ≤ 5) = True := eq_true (by omega)
          have f4 : ((row.length : Int) = (m : Int)) = True := eq_true (by omega)
          have hrB : rowB m row = row.all bedB := by unfold rowB; rw [decide_eq_true c1, Bool.true_and]
          simp (maxSteps := 4000000) only [go_sem, seval]
          (repeat' (first
 | ((omega))
 | ((exfalso; omega))
 | refine awp_seqK ?_
 | refine kt ?_
 | refine And.intro ?_ ?_
 | ((first | refine awp_stp rfl ?_ | refine awp_draw (by kernel_rfl) (by kernel_rfl) ?_ | refine Imp.le2 ?_ | refine callK_of (inS_c _ _ _) ?_ | refine go_split (fun _h => ?_) (fun _h => ?_)) <;> try simp (maxSteps := 4000000) only [go_sem, seval, hn, hm, hrow, f3, f4, decide_true])
 | intro _h
 | refine awp_block ?_
 | refine awp_scope ?_
 | refine cond_b ?_ ?_
 | (show heapOK _ _ = true; kernel_rfl)
 | (show heapOK2 _ _ = true; kernel_rfl)
 | (omega)))
          refine awp_loopJ (fun k : Nat => k ≤ row.length ∧ ∀ j, j < k → bedB (row.getD j default) = true) (fun k => ⟨mkT 92 [(1, .ptr 0 0 0), (3, .int .i64 i), (4, .int .i64 k)], [some (.cells 24 1 0 [.psl false n (colC s.cols), .int .i64 s.least])], []⟩) (fun k => row.length - k) 0 ⟨Nat.zero_le _, fun j hj => by omega⟩ (.le2 ?_) ?_
          · simp (maxSteps := 4000000) only [go_sem, seval]
            all_goals first | rfl | exact ⟨rfl, rfl⟩ | trace_state
          · rintro k ⟨hk, hkj⟩
            rcases Nat.lt_or_eq_of_le hk with hk1 | hk1
            · obtain ⟨b, hb⟩ : ∃ b, row.getD k default = b := ⟨_, rfl⟩
              cases hbb : bedB b with
              | true =>
                have hb2 := of_decide_eq_true hbb
                obtain ⟨b1, b2, b3, b4, b5⟩ := hb2
                have g1 := eq_true b1
                have g2 := eq_true b2
                have g3 := eq_true b3
                have g4 := eq_true b4
                have g5 := eq_true b5
                simp (maxSteps := 4000000) only [go_sem, seval]
                (repeat' (first
 | ((omega))
 | ((exfalso; omega))
 | refine awp_seqK ?_
 | refine kt ?_
 | refine And.intro ?_ ?_
 | ((first | refine awp_stp rfl ?_ | refine awp_draw (by kernel_rfl) (by kernel_rfl) ?_ | refine Imp.le2 ?_ | refine callK_of (inS_c _ _ _) ?_ | refine callK_of (uptoS_c _ _ _) ?_ | refine go_split (fun _h => ?_) (fun _h => ?_)) <;> try simp (maxSteps := 4000000) only [go_sem, seval, hn, hm, hrow, hb, bedC, g1, g2, g3, g4, g5, decide_true])
 | intro _h
 | refine awp_block ?_
 | refine awp_scope ?_
 | refine cond_b ?_ ?_
 | (show heapOK _ _ = true; kernel_rfl)
 | (show heapOK2 _ _ = true; kernel_rfl)
 | (omega)))
                refine ⟨k + 1, ⟨by omega, fun j hji => ?_⟩, by omega, .le2 ?_⟩
                · rcases Nat.lt_succ_iff_lt_or_eq.1 hji with h | rfl
                  · exact hkj j h
                  · rw [hb]; exact hbb
                · simp (maxSteps := 4000000) only [go_sem, seval]
                  all_goals first | rfl | exact ⟨rfl, rfl⟩ | trace_state
              | false =>
                have hb2 := of_decide_eq_false hbb
                have hRf : R = false := hbad (by
                  rw [hrB]
                  cases ha : row.all bedB
                  · rfl
                  · rw [all_getD (d := default)] at ha
                    have := ha k hk1
                    rw [hb, hbb] at this; cases this)
                rw [hRf]
                by_cases g1 : -100000 ≤ b.drive ∧ b.drive ≤ 100000
                · by_cases g2 : 0 ≤ b.normal ∧ b.normal ≤ 100000
                  · by_cases g3 : 0 ≤ b.f1 ∧ b.f1 ≤ b.f2 ∧ b.f2 ≤ 2000
                    · by_cases g4 : 0 ≤ b.c1 ∧ b.c1 ≤ b.c2 ∧ b.c2 ≤ 100000
                      · have g5 : ¬ (0 ≤ b.w1 ∧ b.w1 ≤ b.w2 ∧ b.w2 ≤ 100000) := fun g5 => hb2 ⟨g1, g2, g3, g4, g5⟩
                        simp (maxSteps := 4000000) only [go_sem, seval]
                        (repeat' (first
 | ((omega))
 | ((exfalso; omega))
 | refine awp_seqK ?_
 | refine kt ?_
 | refine And.intro ?_ ?_
 | ((first | refine awp_stp rfl ?_ | refine awp_draw (by kernel_rfl) (by kernel_rfl) ?_ | refine Imp.le2 ?_ | refine callK_of (inS_c _ _ _) ?_ | refine callK_of (uptoS_c _ _ _) ?_ | refine go_split (fun _h => ?_) (fun _h => ?_)) <;> try simp (maxSteps := 4000000) only [go_sem, seval, hn, hm, hrow, hb, bedC, eq_true g1, eq_true g2, eq_true g3, eq_true g4, eq_false g5, decide_true, decide_false])
 | intro _h
 | refine awp_block ?_
 | refine awp_scope ?_
 | refine cond_b ?_ ?_
 | (show heapOK _ _ = true; kernel_rfl)
 | (show heapOK2 _ _ = true; kernel_rfl)
 | (omega)))
                        all_goals trace_state
                      · simp (maxSteps := 4000000) only [go_sem, seval]
                        (repeat' (first
 | ((omega))
 | ((exfalso; omega))
 | refine awp_seqK ?_
 | refine kt ?_
 | refine And.intro ?_ ?_
 | ((first | refine awp_stp rfl ?_ | refine awp_draw (by kernel_rfl) (by kernel_rfl) ?_ | refine Imp.le2 ?_ | refine callK_of (inS_c _ _ _) ?_ | refine callK_of (uptoS_c _ _ _) ?_ | refine go_split (fun _h => ?_) (fun _h => ?_)) <;> try simp (maxSteps := 4000000) only [go_sem, seval, hn, hm, hrow, hb, bedC, eq_true g1, eq_true g2, eq_true g3, eq_false g4, decide_true, decide_false])
 | intro _h
 | refine awp_block ?_
 | refine awp_scope ?_
 | refine cond_b ?_ ?_
 | (show heapOK _ _ = true; kernel_rfl)
 | (show heapOK2 _ _ = true; kernel_rfl)
 | (omega)))
                        all_goals trace_state
                    · simp (maxSteps := 4000000) only [go_sem, seval]
                      (repeat' (first
 | ((omega))
 | ((exfalso; omega))
 | refine awp_seqK ?_
 | refine kt ?_
 | refine And.intro ?_ ?_
 | ((first | refine awp_stp rfl ?_ | refine awp_draw (by kernel_rfl) (by kernel_rfl) ?_ | refine Imp.le2 ?_ | refine callK_of (inS_c _ _ _) ?_ | refine callK_of (uptoS_c _ _ _) ?_ | refine go_split (fun _h => ?_) (fun _h => ?_)) <;> try simp (maxSteps := 4000000) only [go_sem, seval, hn, hm, hrow, hb, bedC, eq_true g1, eq_true g2, eq_false g3, decide_true, decide_false])
 | intro _h
 | refine awp_block ?_
 | refine awp_scope ?_
 | refine cond_b ?_ ?_
 | (show heapOK _ _ = true; kernel_rfl)
 | (show heapOK2 _ _ = true; kernel_rfl)
 | (omega)))
                      all_goals trace_state
                  · simp (maxSteps := 4000000) only [go_sem, seval]
                    (repeat' (first
 | ((omega))
 | ((exfalso; omega))
 | refine awp_seqK ?_
 | refine kt ?_
 | refine And.intro ?_ ?_
 | ((first | refine awp_stp rfl ?_ | refine awp_draw (by kernel_rfl) (by kernel_rfl) ?_ | refine Imp.le2 ?_ | refine callK_of (inS_c _ _ _) ?_ | refine callK_of (uptoS_c _ _ _) ?_ | refine go_split (fun _h => ?_) (fun _h => ?_)) <;> try simp (maxSteps := 4000000) only [go_sem, seval, hn, hm, hrow, hb, bedC, eq_true g1, eq_false g2, decide_true, decide_false])
 | intro _h
 | refine awp_block ?_
 | refine awp_scope ?_
 | refine cond_b ?_ ?_
 | (show heapOK _ _ = true; kernel_rfl)
 | (show heapOK2 _ _ = true; kernel_rfl)
 | (omega)))
                    all_goals trace_state
                · simp (maxSteps := 4000000) only [go_sem, seval]
                  (repeat' (first
 | ((omega))
 | ((exfalso; omega))
 | refine awp_seqK ?_
 | refine kt ?_
 | refine And.intro ?_ ?_
 | ((first | refine awp_stp rfl ?_ | refine awp_draw (by kernel_rfl) (by kernel_rfl) ?_ | refine Imp.le2 ?_ | refine callK_of (inS_c _ _ _) ?_ | refine callK_of (uptoS_c _ _ _) ?_ | refine go_split (fun _h => ?_) (fun _h => ?_)) <;> try simp (maxSteps := 4000000) only [go_sem, seval, hn, hm, hrow, hb, bedC, eq_false g1, decide_true, decide_false])
 | intro _h
 | refine awp_block ?_
 | refine awp_scope ?_
 | refine cond_b ?_ ?_
 | (show heapOK _ _ = true; kernel_rfl)
 | (show heapOK2 _ _ = true; kernel_rfl)
 | (omega)))
                  all_goals trace_state
            · simp (maxSteps := 4000000) only [go_sem, seval]
              (repeat' (first
 | ((omega))
 | ((exfalso; omega))
 | refine awp_seqK ?_
 | refine kt ?_
 | refine And.intro ?_ ?_
 | ((first | refine awp_stp rfl ?_ | refine awp_draw (by kernel_rfl) (by kernel_rfl) ?_ | refine Imp.le2 ?_ | refine go_split (fun _h => ?_) (fun _h => ?_)) <;> try simp (maxSteps := 4000000) only [go_sem, seval, hn, hm, hrow])
 | intro _h
 | refine awp_block ?_
 | refine awp_scope ?_
 | refine cond_b ?_ ?_
 | (show heapOK _ _ = true; kernel_rfl)
 | (show heapOK2 _ _ = true; kernel_rfl)
 | (omega)))
              refine ⟨i + 1, ⟨by omega, fun j hji => ?_⟩, by omega, .le2 ?_⟩
              · rcases Nat.lt_succ_iff_lt_or_eq.1 hji with h | rfl
                · exact hj j h
                · rw [hrow, hrB, all_getD (d := default)]
                  exact fun j hjl => hkj j (by omega)
              · simp (maxSteps := 4000000) only [go_sem, seval]
                all_goals first | rfl | exact ⟨rfl, rfl⟩ | trace_state
        · have hRf : R = false := hbad (by unfold rowB; rw [decide_eq_false c1, Bool.false_and])
          rw [hRf]
          by_cases c2 : 1 ≤ row.length ∧ row.length ≤ 5
          · have f3 : (1 ≤ (row.length : Int) ∧ (row.length : Int) ≤ 5) = True := eq_true (by omega)
            have f4 : ((row.length : Int) = (m : Int)) = False := eq_false (by omega)
            simp (maxSteps := 4000000) only [go_sem, seval]
            (repeat' (first
 | ((omega))
 | ((exfalso; omega))
 | refine awp_seqK ?_
 | refine kt ?_
 | refine And.intro ?_ ?_
 | ((first | refine awp_stp rfl ?_ | refine awp_draw (by kernel_rfl) (by kernel_rfl) ?_ | refine Imp.le2 ?_ | refine callK_of (inS_c _ _ _) ?_ | refine go_split (fun _h => ?_) (fun _h => ?_)) <;> try simp (maxSteps := 4000000) only [go_sem, seval, hn, hm, hrow, f3, f4, decide_true, decide_false])
 | intro _h
 | refine awp_block ?_
 | refine awp_scope ?_
 | refine cond_b ?_ ?_
 | (show heapOK _ _ = true; kernel_rfl)
 | (show heapOK2 _ _ = true; kernel_rfl)
 | (omega)))
            all_goals trace_state
          · have f3 : (1 ≤ (row.length : Int) ∧ (row.length : Int) ≤ 5) = False := eq_false (by omega)
            simp (maxSteps := 4000000) only [go_sem, seval]
            (repeat' (first
 | ((omega))
 | ((exfalso; omega))
 | refine awp_seqK ?_
 | refine kt ?_
 | refine And.intro ?_ ?_
 | ((first | refine awp_stp rfl ?_ | refine awp_draw (by kernel_rfl) (by kernel_rfl) ?_ | refine Imp.le2 ?_ | refine callK_of (inS_c _ _ _) ?_ | refine go_split (fun _h => ?_) (fun _h => ?_)) <;> try simp (maxSteps := 4000000) only [go_sem, seval, hn, hm, hrow, f3, decide_true, decide_false])
 | intro _h
 | refine awp_block ?_
 | refine awp_scope ?_
 | refine cond_b ?_ ?_
 | (show heapOK _ _ = true; kernel_rfl)
 | (show heapOK2 _ _ = true; kernel_rfl)
 | (omega)))
            all_goals trace_state
      · have hRt : R = true := hR.2 ⟨c0, fun i hi2 => hj i (by omega)⟩
        rw [hRt]
        simp (maxSteps := 4000000) only [go_sem, seval]
        (repeat' (first
 | ((omega))
 | ((exfalso; omega))
 | refine awp_seqK ?_
 | refine kt ?_
 | refine And.intro ?_ ?_
 | ((first | refine awp_stp rfl ?_ | refine awp_draw (by kernel_rfl) (by kernel_rfl) ?_ | refine Imp.le2 ?_ | refine go_split (fun _h => ?_) (fun _h => ?_)) <;> try simp (maxSteps := 4000000) only [go_sem, seval, hn])
 | intro _h
 | refine awp_block ?_
 | refine awp_scope ?_
 | refine cond_b ?_ ?_
 | (show heapOK _ _ = true; kernel_rfl)
 | (show heapOK2 _ _ = true; kernel_rfl)
 | (omega)))
        all_goals trace_state
  · have hRf : R = false := by
      cases hR2 : R
      · rfl
      · exact absurd (hR.1 hR2).1 c0
    rw [hRf]
    by_cases c1 : 1 ≤ n ∧ n ≤ 12
    · have f1 : (1 ≤ (n : Int) ∧ (n : Int) ≤ 12) = True := eq_true (by omega)
      have f2 : (1 ≤ s.least ∧ s.least ≤ 4) = False := eq_false (fun h => c0 ⟨c1, h⟩)
      (refine callS_of_awp (fun w args => Try.call5 ..) Try.func5 rfl (fun w0 m0 wz => ?_); simp only [Try.ntmps5, Try.results5, initT, junks, sl, List.toList_toArray, List.cons_append, List.nil_append, List.length_cons, List.length_nil, Nat.reduceAdd, Nat.reduceSub])
      (repeat' (first
 | ((omega))
 | ((exfalso; omega))
 | refine awp_seqK ?_
 | refine kt ?_
 | refine And.intro ?_ ?_
 | ((first | refine awp_stp rfl ?_ | refine awp_draw (by kernel_rfl) (by kernel_rfl) ?_ | refine Imp.le2 ?_ | refine callK_of (inS_c _ _ _) ?_ | refine go_split (fun _h => ?_) (fun _h => ?_)) <;> try simp (maxSteps := 4000000) only [go_sem, seval, f1, f2, decide_true, decide_false])
 | intro _h
 | refine awp_block ?_
 | refine awp_scope ?_
 | refine cond_b ?_ ?_
 | (show heapOK _ _ = true; kernel_rfl)
 | (show heapOK2 _ _ = true; kernel_rfl)
 | (omega)))
      all_goals trace_state
    · have f1 : (1 ≤ (n : Int) ∧ (n : Int) ≤ 12) = False := eq_false (by omega)
      (refine callS_of_awp (fun w args => Try.call5 ..) Try.func5 rfl (fun w0 m0 wz => ?_); simp only [Try.ntmps5, Try.results5, initT, junks, sl, List.toList_toArray, List.cons_append, List.nil_append, List.length_cons, List.length_nil, Nat.reduceAdd, Nat.reduceSub])
      (repeat' (first
 | ((omega))
 | ((exfalso; omega))
 | refine awp_seqK ?_
 | refine kt ?_
 | refine And.intro ?_ ?_
 | ((first | refine awp_stp rfl ?_ | refine awp_draw (by kernel_rfl) (by kernel_rfl) ?_ | refine Imp.le2 ?_ | refine callK_of (inS_c _ _ _) ?_ | refine go_split (fun _h => ?_) (fun _h => ?_)) <;> try simp (maxSteps := 4000000) only [go_sem, seval, f1, decide_true, decide_false])
 | intro _h
 | refine awp_block ?_
 | refine awp_scope ?_
 | refine cond_b ?_ ?_
 | (show heapOK _ _ = true; kernel_rfl)
 | (show heapOK2 _ _ = true; kernel_rfl)
 | (omega)))
      all_goals trace_state
end Go.Am

/- Contracts of the reference of slopes: truths of surfaces, their factor. -/
namespace Go.Am
open Go.RowKit Go.Proofs
attribute [local irreducible] AWP CallS Kt goK CallK stepK evOps SemF SemY Imp
set_option maxRecDepth 4000
set_option linter.unusedSimpArgs false
set_option linter.unusedVariables false
set_option maxHeartbeats 3200000
def u16s (l : List Int) : List AV := l.map (.int .u16)
def slW (l : List Int) : AV := .psl false l.length (u16s l)
theorem u16s_length {l : List Int} : (u16s l).length = l.length := by simp [u16s]
theorem pl_u16s {l : List Int} : pureL (u16s l) = True := by
  simp only [pureL, u16s, List.mem_map, eq_iff_iff, iff_true]
  rintro x ⟨a, _, rfl⟩; rfl
theorem nth_u16s {l : List Int} {j : Nat} {K : AV → Prop} : optK (nth (u16s l) j) K = (j < l.length ∧ K (.int .u16 (l.getD j 0))) := by
  rw [← nth_is]
  simp only [u16s, List.getElem?_map]
  by_cases h : j < l.length
  · simp [h, optK, List.getD_eq_getElem?_getD]
  · simp [h, optK]
attribute [go_sem] u16s_length pl_u16s nth_u16s
/-- Words, as many as a process may hold. -/
def wordsOK (words : List Int) : Prop := words.length * 2 ≤ 140737488355328 ∧ ∀ i, i < words.length → 0 ≤ words.getD i 0 ∧ words.getD i 0 ≤ 65535
theorem tmod_bd {a b : Int} (h : 0 ≤ a) (hb : 0 < b) : 0 ≤ a.tmod b ∧ a.tmod b < b := ⟨Int.tmod_nonneg b h, Int.tmod_lt_of_pos a hb⟩
def pickV (lo hi w : Int) : Int := lo + w.tmod (hi - lo + 1)
theorem pickV_bd {lo hi w : Int} (h : lo ≤ hi) (hw : 0 ≤ w) : lo ≤ pickV lo hi w ∧ pickV lo hi w ≤ hi := by
  have := tmod_bd (b := hi - lo + 1) hw (by omega)
  unfold pickV; omega
theorem pick_c (lo hi w : Int) (h : (0 ≤ lo ∧ lo ≤ hi) ∧ hi ≤ 1000000) (hw : 0 ≤ w ∧ w ≤ 65535) : CallS Try.prog 51 [.agg [.int .i64 lo, .int .i64 hi], .int .u16 w] (.int .i64 (pickV lo hi w)) := by
  have hm := tmod_bd (a := w) (b := hi - lo + 1) hw.1 (by omega)
  unfold pickV
  obtain ⟨q, hq⟩ : ∃ q, w.tmod (hi - lo + 1) = q := ⟨_, rfl⟩
  rw [hq] at hm ⊢
  (refine callS_of_awp (fun w args => Try.call51 ..) Try.func51 rfl (fun w0 m0 wz => ?_); simp only [Try.ntmps51, Try.results51, initT, junks, sl, List.toList_toArray, List.cons_append, List.nil_append, List.length_cons, List.length_nil, Nat.reduceAdd, Nat.reduceSub])
  (repeat' (first
 | ((omega))
 | refine awp_seqK ?_
 | refine kt ?_
 | refine And.intro ?_ ?_
 | ((first | refine awp_stp rfl ?_ | refine awp_draw (by kernel_rfl) (by kernel_rfl) ?_ | refine Imp.le2 ?_ | refine go_split (fun _h => ?_) (fun _h => ?_)) <;> try simp (maxSteps := 4000000) only [go_sem, seval, hq])
 | intro _h
 | refine awp_block ?_
 | refine awp_scope ?_
 | refine cond_b ?_ ?_
 | (show heapOK _ _ = true; kernel_rfl)
 | (show heapOK2 _ _ = true; kernel_rfl)
 | (omega)))
  all_goals trace_state
/-- The word for the number at j of a bed. -/
def wdV (words : List Int) (j : Nat) : Int := if words.length = 0 then 0 else words.getD (j % words.length) 0
theorem wdV_bd {words : List Int} {j : Nat} (hw : wordsOK words) : 0 ≤ wdV words j ∧ wdV words j ≤ 65535 := by
  unfold wdV
  split
  · omega
  · exact hw.2 _ (Nat.mod_lt _ (by omega))
def pickR (b : Bed) (words : List Int) : Reals := ⟨pickV b.f1 b.f2 (wdV words 0), pickV b.c1 b.c2 (wdV words 1), pickV b.w1 b.w2 (wdV words 2)⟩
theorem pickR_in {b : Bed} {words : List Int} (hb : bedB b = true) (hw : wordsOK words) : InR b (pickR b words) := by
  have hb := of_decide_eq_true hb
  unfold InR pickR
  simp only
  have h0 := wdV_bd (j := 0) hw
  have h1 := wdV_bd (j := 1) hw
  have h2 := wdV_bd (j := 2) hw
  have p0 := pickV_bd (lo := b.f1) (hi := b.f2) (w := wdV words 0) (by omega) h0.1
  have p1 := pickV_bd (lo := b.c1) (hi := b.c2) (w := wdV words 1) (by omega) h1.1
  have p2 := pickV_bd (lo := b.w1) (hi := b.w2) (w := wdV words 2) (by omega) h2.1
  omega
theorem Picked_c (s : Slope) (m : Nat) (h : SlopeOK s m) (words : List Int) (hw : wordsOK words) (i k : Nat) (hi : i < s.cols.length) (hk : k < m) :
    CallS Try.prog 30 [.agg (slopeC s), .agg [.int .i64 i, sl [(k : Int)]], slW words] (slRe [pickR (bedAt s i k) words]) := by
  have hcn := h.cn
  have hcm := h.cm
  have hl := h.len i hi
  have hb := h.bed hi hk
  have hb2 := of_decide_eq_true hb
  obtain ⟨b, hbe⟩ : ∃ b, (s.cols.getD i []).getD k default = b := ⟨_, rfl⟩
  unfold bedAt
  rw [hbe] at hb hb2 ⊢
  have w0 := wdV_bd (j := 0) hw
  have w1 := wdV_bd (j := 1) hw
  have w2 := wdV_bd (j := 2) hw
  have p0 := pick_c b.f1 b.f2 (wdV words 0) (by omega) w0
  have p1 := pick_c b.c1 b.c2 (wdV words 1) (by omega) w1
  have p2 := pick_c b.w1 b.w2 (wdV words 2) (by omega) w2
  have hsz := hw.1
  have i1 : ints [(k : Int)] = [.int .i64 (k : Int)] := rfl
  have g1 : [(k : Int)].getD 0 0 = k := rfl
  have r1 : recs realC [pickR b words] = realC (pickR b words) := by simp [recs]
  simp only [slopeC, slC, sl, slRe, List.length_cons, List.length_nil, r1, i1] at p0 p1 p2 ⊢
  by_cases hw0 : words.length = 0
  · have e0 : ∀ j, wdV words j = 0 := fun j => by unfold wdV; rw [if_pos hw0]
    rw [e0] at p0 p1 p2
    unfold pickR
    rw [e0, e0, e0]
    have eW : ((words.length : Int) > 0) = False := eq_false (by omega)
    simp only [slW]
    (refine callS_of_awp (fun w args => Try.call30 ..) Try.func30 rfl (fun w0 m0 wz => ?_); simp only [Try.ntmps30, Try.results30, initT, junks, sl, List.toList_toArray, List.cons_append, List.nil_append, List.length_cons, List.length_nil, Nat.reduceAdd, Nat.reduceSub])
    (repeat' (first
 | refine awp_seqK ?_
 | refine kt ?_
 | refine And.intro ?_ ?_
 | ((first | refine awp_stp rfl ?_ | refine awp_draw (by kernel_rfl) (by kernel_rfl) ?_ | refine Imp.le2 ?_ | refine go_split (fun _h => ?_) (fun _h => ?_)) <;> try simp (maxSteps := 4000000) only [go_sem, seval])
 | intro _h
 | refine awp_block ?_
 | refine awp_scope ?_
 | refine cond_b ?_ ?_
 | (show heapOK _ _ = true; kernel_rfl)
 | (show heapOK2 _ _ = true; kernel_rfl)
 | (omega)))
    (refine awp_rounds 2 ?_; rw [ar_s])
    (repeat' (first
 | ((omega))
 | ((exfalso; omega))
 | refine awp_seqK ?_
 | refine kt ?_
 | refine And.intro ?_ ?_
 | ((first | refine awp_stp rfl ?_ | refine awp_draw (by kernel_rfl) (by kernel_rfl) ?_ | refine Imp.le2 ?_ | refine go_split (fun _h => ?_) (fun _h => ?_)) <;> try simp (maxSteps := 4000000) only [go_sem, seval, Int.add_zero, hl, hbe, bedC, eW, decide_false])
 | intro _h
 | refine awp_block ?_
 | refine awp_scope ?_
 | refine cond_b ?_ ?_
 | (show heapOK _ _ = true; kernel_rfl)
 | (show heapOK2 _ _ = true; kernel_rfl)
 | (omega)))
    (refine awp_rounds 1 ?_; rw [ar_s])
    (repeat' (first
 | ((omega))
 | ((exfalso; omega))
 | refine awp_seqK ?_
 | refine kt ?_
 | refine And.intro ?_ ?_
 | ((first | refine awp_stp rfl ?_ | refine awp_draw (by kernel_rfl) (by kernel_rfl) ?_ | refine Imp.le2 ?_ | refine callK_of (p0) ?_ | refine callK_of (p1) ?_ | refine callK_of (p2) ?_ | refine go_split (fun _h => ?_) (fun _h => ?_)) <;> try simp (maxSteps := 4000000) only [go_sem, seval, hl, hbe, bedC, eW, realC, decide_false])
 | intro _h
 | refine awp_block ?_
 | refine awp_scope ?_
 | refine cond_b ?_ ?_
 | (show heapOK _ _ = true; kernel_rfl)
 | (show heapOK2 _ _ = true; kernel_rfl)
 | (omega)))
    all_goals trace_state
  · have eW : ((words.length : Int) > 0) = True := eq_true (by omega)
    have e0 : ∀ j, wdV words j = words.getD (j % words.length) 0 := fun j => by unfold wdV; rw [if_neg hw0]
    have hm : ∀ j, j % words.length < words.length := fun j => Nat.mod_lt _ (by omega)
    have t0 : (0 : Int).tmod (words.length : Int) = ((0 % words.length : Nat) : Int) := rfl
    have t1 : (1 : Int).tmod (words.length : Int) = ((1 % words.length : Nat) : Int) := rfl
    have t2 : (2 : Int).tmod (words.length : Int) = ((2 % words.length : Nat) : Int) := rfl
    have m0' := hm 0
    have m1' := hm 1
    have m2' := hm 2
    rw [e0] at p0 p1 p2
    unfold pickR
    rw [e0, e0, e0]
    generalize 0 % words.length = x0 at *
    generalize 1 % words.length = x1 at *
    generalize 2 % words.length = x2 at *
    simp only [slW]
    (refine callS_of_awp (fun w args => Try.call30 ..) Try.func30 rfl (fun w0 m0 wz => ?_); simp only [Try.ntmps30, Try.results30, initT, junks, sl, List.toList_toArray, List.cons_append, List.nil_append, List.length_cons, List.length_nil, Nat.reduceAdd, Nat.reduceSub])
    (repeat' (first
 | refine awp_seqK ?_
 | refine kt ?_
 | refine And.intro ?_ ?_
 | ((first | refine awp_stp rfl ?_ | refine awp_draw (by kernel_rfl) (by kernel_rfl) ?_ | refine Imp.le2 ?_ | refine go_split (fun _h => ?_) (fun _h => ?_)) <;> try simp (maxSteps := 4000000) only [go_sem, seval])
 | intro _h
 | refine awp_block ?_
 | refine awp_scope ?_
 | refine cond_b ?_ ?_
 | (show heapOK _ _ = true; kernel_rfl)
 | (show heapOK2 _ _ = true; kernel_rfl)
 | (omega)))
    (refine awp_rounds 2 ?_; rw [ar_s])
    (repeat' (first
 | ((omega))
 | ((exfalso; omega))
 | refine awp_seqK ?_
 | refine kt ?_
 | refine And.intro ?_ ?_
 | ((first | refine awp_stp rfl ?_ | refine awp_draw (by kernel_rfl) (by kernel_rfl) ?_ | refine Imp.le2 ?_ | refine go_split (fun _h => ?_) (fun _h => ?_)) <;> try simp (maxSteps := 4000000) only [go_sem, seval, Int.add_zero, hl, hbe, bedC, eW, decide_true])
 | intro _h
 | refine awp_block ?_
 | refine awp_scope ?_
 | refine cond_b ?_ ?_
 | (show heapOK _ _ = true; kernel_rfl)
 | (show heapOK2 _ _ = true; kernel_rfl)
 | (omega)))
    (refine awp_rounds 4 ?_; rw [ar_s])
    (repeat' (first
 | ((omega))
 | ((exfalso; omega))
 | refine awp_seqK ?_
 | refine kt ?_
 | refine And.intro ?_ ?_
 | ((first | refine awp_stp rfl ?_ | refine awp_draw (by kernel_rfl) (by kernel_rfl) ?_ | refine Imp.le2 ?_ | refine callK_of (p0) ?_ | refine callK_of (p1) ?_ | refine callK_of (p2) ?_ | refine go_split (fun _h => ?_) (fun _h => ?_)) <;> try simp (maxSteps := 4000000) only [go_sem, seval, hl, hbe, bedC, eW, t0, t1, t2, Int.mul_zero, Int.zero_add, realC, decide_true, decide_false])
 | intro _h
 | refine awp_block ?_
 | refine awp_scope ?_
 | refine cond_b ?_ ?_
 | (show heapOK _ _ = true; kernel_rfl)
 | (show heapOK2 _ _ = true; kernel_rfl)
 | (omega)))
    all_goals trace_state
end Go.Am

/- Contracts of the reference of slopes: the ends of a surface, its factor, whether it is one. -/
namespace Go.Am
open Go.RowKit Go.Proofs
attribute [local irreducible] AWP CallS Kt goK CallK stepK evOps SemF SemY Imp
set_option maxRecDepth 4000
set_option linter.unusedSimpArgs false
set_option linter.unusedVariables false
set_option maxHeartbeats 3200000
theorem tab_snoc {α : Type} {f : Nat → α} {k : Nat} : tab (k + 1) f = tab k f ++ [f k] := by simp [tab, List.range_succ]
/-- A surface of a slope, from column f on. -/
structure SurfIn (s : Slope) (m f : Nat) (l : List Nat) : Prop where
  to : f + l.length ≤ s.cols.length
  bed : ∀ i, i < l.length → l.getD i 0 < m
theorem natI_length {l : List Nat} : (natI l).length = l.length := by simp [natI]
theorem natI_get {l : List Nat} {i : Nat} (h : i < l.length) : (natI l).getD i 0 = (l.getD i 0 : Nat) := by
  simp [natI, List.getD_eq_getElem?_getD, h]
def bedI (s : Slope) (f : Nat) (l : List Nat) (i : Nat) : Bed := bedAt s (f + i) (l.getD i 0)
def endsV (s : Slope) (f : Nat) (l : List Nat) : List Reals := tab l.length fun i => leastV (bedI s f l i)
theorem EndsR_c (s : Slope) (m : Nat) (h : SlopeOK s m) (f : Nat) (l : List Nat) (hu : SurfIn s m f l) : CallS Try.prog 28 [.agg (slopeC s), .agg [.int .i64 f, sl (natI l)], .bool false] (slRe (endsV s f l)) := by
  have hcn := h.cn
  have hcm := h.cm
  have hto := hu.to
  have hlr := leastR_c
  obtain ⟨n, hn⟩ : ∃ n, s.cols.length = n := ⟨_, rfl⟩
  obtain ⟨g, hg⟩ : ∃ g : Nat → Reals, (fun i => leastV (bedI s f l i)) = g := ⟨_, rfl⟩
  have hgi : ∀ i, leastV ((s.cols.getD (f + i) []).getD (l.getD i 0) default) = g i := fun i => by rw [← hg]; rfl
  have hev : endsV s f l = tab l.length g := by unfold endsV; rw [hg]
  rw [hev]
  simp only [slopeC, slC, sl, slRe, tab_length, natI_length, hn, bedC, realC] at hlr hto hcn ⊢
  (refine callS_of_awp (fun w args => Try.call28 ..) Try.func28 rfl (fun w0 m0 wz => ?_); simp only [Try.ntmps28, Try.results28, initT, junks, sl, List.toList_toArray, List.cons_append, List.nil_append, List.length_cons, List.length_nil, Nat.reduceAdd, Nat.reduceSub])
  (repeat' (first
 | refine awp_seqK ?_
 | refine kt ?_
 | refine And.intro ?_ ?_
 | ((first | refine awp_stp rfl ?_ | refine awp_draw (by kernel_rfl) (by kernel_rfl) ?_ | refine Imp.le2 ?_ | refine go_split (fun _h => ?_) (fun _h => ?_)) <;> try simp (maxSteps := 4000000) only [go_sem, seval])
 | intro _h
 | refine awp_block ?_
 | refine awp_scope ?_
 | refine cond_b ?_ ?_
 | (show heapOK _ _ = true; kernel_rfl)
 | (show heapOK2 _ _ = true; kernel_rfl)
 | (omega)))
  (refine awp_adT 7 97 3 rfl ?_; simp only [adT, lset, hset, List.length_cons, List.length_nil, Nat.reduceAdd])
  refine awp_loopN l.length (fun k => ⟨mkT 44 [(2, .bool false), (3, .ptr 0 0 0), (4, .ptr 1 0 0), (7, .osl 2 k 0 k), (8, .int .i64 k)], [some (.cells 24 1 0 [.psl false n (colC s.cols), .int .i64 s.least]), some (.cells 90 1 0 [.int .i64 f, .psl false l.length (ints (natI l))]), some (.cells 97 3 k (recs realC (tab k g)))], []⟩) (.le2 ?_) ?_
  · have e0 : recs realC (tab 0 g) = [] := rfl
    rw [e0]; simp (maxSteps := 4000000) only [go_sem, seval]
    all_goals first | rfl | exact ⟨rfl, rfl⟩ | trace_state
  · intro k hk
    rcases Nat.lt_or_eq_of_le hk with hk1 | hk1
    · have hni := natI_get hk1
      have hbl := hu.bed k hk1
      have hrl := h.len (f + k) (by omega)
      have e1 : ((f : Int) + (k : Int)) = ((f + k : Nat) : Int) := by omega
      have hR := hlr ((s.cols.getD (f + k) []).getD (l.getD k 0) default)
      rw [hgi] at hR
      have hcl : (recs realC (tab k g)).length = k * 3 := by rw [len_Re, tab_length]
      have e2 : recs realC (tab (k + 1) g) = recs realC (tab k g) ++ realC (g k) := by rw [tab_snoc, recs_snoc]
      rw [e2]
      obtain ⟨b, hb⟩ : ∃ b, (s.cols.getD (f + k) []).getD (l.getD k 0) default = b := ⟨_, rfl⟩
      rw [hb] at hR
      obtain ⟨bk, hbk⟩ : ∃ bk, l.getD k 0 = bk := ⟨_, rfl⟩
      rw [hbk] at hbl hni hb
      simp (maxSteps := 4000000) only [go_sem, seval]
      (repeat' (first
 | ((omega))
 | ((exfalso; omega))
 | refine awp_seqK ?_
 | refine kt ?_
 | refine And.intro ?_ ?_
 | ((first | refine awp_stp rfl ?_ | refine awp_draw (by kernel_rfl) (by kernel_rfl) ?_ | refine Imp.le2 ?_ | refine callK_of (hR) ?_ | refine go_split (fun _h => ?_) (fun _h => ?_)) <;> try simp (maxSteps := 4000000) only [go_sem, seval, hn, hni, e1, hrl, hb, bedC, hcl, natI_length, realC])
 | intro _h
 | refine awp_block ?_
 | refine awp_scope ?_
 | refine cond_b ?_ ?_
 | (show heapOK _ _ = true; kernel_rfl)
 | (show heapOK2 _ _ = true; kernel_rfl)
 | (omega)))
      all_goals first | (rw [List.all_append, lv_Re]; rfl) | trace_state
    · subst hk1
      simp (maxSteps := 4000000) only [go_sem, seval]
      (repeat' (first
 | ((omega))
 | ((exfalso; omega))
 | refine awp_seqK ?_
 | refine kt ?_
 | refine And.intro ?_ ?_
 | ((first | refine awp_stp rfl ?_ | refine awp_draw (by kernel_rfl) (by kernel_rfl) ?_ | refine Imp.le2 ?_ | refine go_split (fun _h => ?_) (fun _h => ?_)) <;> try simp (maxSteps := 4000000) only [go_sem, seval, natI_length])
 | intro _h
 | refine awp_block ?_
 | refine awp_scope ?_
 | refine cond_b ?_ ?_
 | (show heapOK _ _ = true; kernel_rfl)
 | (show heapOK2 _ _ = true; kernel_rfl)
 | (omega)))
      all_goals trace_state
def sumH (s : Slope) (f : Nat) (l : List Nat) (x : List Reals) : Nat → Int
  | 0 => 0
  | k + 1 => sumH s f l x k + holdV (bedI s f l k) (x.getD k default)
def sumD (s : Slope) (f : Nat) (l : List Nat) : Nat → Int
  | 0 => 0
  | k + 1 => sumD s f l k + (bedI s f l k).drive
def facV (s : Slope) (f : Nat) (l : List Nat) (x : List Reals) : Int := if sumD s f l l.length < 1 then -1 else min 10000 ((1000 * sumH s f l x l.length).tdiv (sumD s f l l.length))
theorem sumH_bd {s : Slope} {m f : Nat} {l : List Nat} {x : List Reals} (h : SlopeOK s m) (hu : SurfIn s m f l) (hx : ∀ i, i < l.length → InR (bedI s f l i) (x.getD i default)) : ∀ k, k ≤ l.length → 0 ≤ sumH s f l x k ∧ sumH s f l x k ≤ 300000 * k
  | 0, _ => by simp [sumH]
  | k + 1, hk => by
    have ih := sumH_bd h hu hx k (by omega)
    have hb := h.bed (i := f + k) (j := l.getD k 0) (by have := hu.to; omega) (hu.bed k (by omega))
    have h2 := (holdV_bd hb (hx k (by omega))).2
    simp only [sumH, bedI, bedAt]; omega
theorem sumD_bd {s : Slope} {m f : Nat} {l : List Nat} (h : SlopeOK s m) (hu : SurfIn s m f l) : ∀ k, k ≤ l.length → -100000 * (k : Int) ≤ sumD s f l k ∧ sumD s f l k ≤ 100000 * k
  | 0, _ => by simp [sumD]
  | k + 1, hk => by
    have ih := sumD_bd h hu k (by omega)
    have hb := h.bed (i := f + k) (j := l.getD k 0) (by have := hu.to; omega) (hu.bed k (by omega))
    have hb := of_decide_eq_true hb
    simp only [sumD, bedI, bedAt]; omega
theorem Factor_c (s : Slope) (m : Nat) (h : SlopeOK s m) (f : Nat) (l : List Nat) (hu : SurfIn s m f l) (x : List Reals) (hxl : x.length = l.length) (hx : ∀ i, i < l.length → InR (bedI s f l i) (x.getD i default)) : CallS Try.prog 27 [.agg (slopeC s), .agg [.int .i64 f, sl (natI l)], slRe x] (.int .i64 (facV s f l x)) := by
  have hcn := h.cn
  have hcm := h.cm
  have hto := hu.to
  have hsH := sumH_bd h hu hx
  have hsD := sumD_bd h hu
  obtain ⟨n, hn⟩ : ∃ n, s.cols.length = n := ⟨_, rfl⟩
  simp only [slopeC, slC, sl, slRe, natI_length, hn, hxl] at hto hcn ⊢
  (refine callS_of_awp (fun w args => Try.call27 ..) Try.func27 rfl (fun w0 m0 wz => ?_); simp only [Try.ntmps27, Try.results27, initT, junks, sl, List.toList_toArray, List.cons_append, List.nil_append, List.length_cons, List.length_nil, Nat.reduceAdd, Nat.reduceSub])
  (repeat' (first
 | refine awp_seqK ?_
 | refine kt ?_
 | refine And.intro ?_ ?_
 | ((first | refine awp_stp rfl ?_ | refine awp_draw (by kernel_rfl) (by kernel_rfl) ?_ | refine Imp.le2 ?_ | refine go_split (fun _h => ?_) (fun _h => ?_)) <;> try simp (maxSteps := 4000000) only [go_sem, seval])
 | intro _h
 | refine awp_block ?_
 | refine awp_scope ?_
 | refine cond_b ?_ ?_
 | (show heapOK _ _ = true; kernel_rfl)
 | (show heapOK2 _ _ = true; kernel_rfl)
 | (omega)))
  refine awp_loopN l.length (fun k => ⟨mkT 52 [(2, .psl false l.length (recs realC x)), (3, .ptr 0 0 0), (4, .ptr 1 0 0), (7, .int .i64 (sumH s f l x k)), (8, .int .i64 (sumD s f l k)), (9, .int .i64 k)], [some (.cells 24 1 0 [.psl false n (colC s.cols), .int .i64 s.least]), some (.cells 90 1 0 [.int .i64 f, .psl false l.length (ints (natI l))])], []⟩) (.le2 ?_) ?_
  · have e0 : sumH s f l x 0 = 0 := rfl
    have e1 : sumD s f l 0 = 0 := rfl
    rw [e0, e1]; simp (maxSteps := 4000000) only [go_sem, seval]
    all_goals first | rfl | exact ⟨rfl, rfl⟩ | trace_state
  · intro k hk
    rcases Nat.lt_or_eq_of_le hk with hk1 | hk1
    · have hni := natI_get hk1
      have hbl := hu.bed k hk1
      have hrl := h.len (f + k) (by omega)
      have hbo := h.bed (i := f + k) (by omega) hbl
      have e1 : ((f : Int) + (k : Int)) = ((f + k : Nat) : Int) := by omega
      have hho := Holds_c _ (x.getD k default) hbo (hx k hk1)
      have hhb := (holdV_bd hbo (hx k hk1)).2
      have hbo2 := of_decide_eq_true hbo
      have s1 := hsH k hk
      have s2 := hsD k hk
      have e2 : sumH s f l x (k + 1) = sumH s f l x k + holdV ((s.cols.getD (f + k) []).getD (l.getD k 0) default) (x.getD k default) := rfl
      have e3 : sumD s f l (k + 1) = sumD s f l k + ((s.cols.getD (f + k) []).getD (l.getD k 0) default).drive := rfl
      rw [e2, e3]
      obtain ⟨b, hb⟩ : ∃ b, (s.cols.getD (f + k) []).getD (l.getD k 0) default = b := ⟨_, rfl⟩
      rw [hb] at hho hhb hbo2 ⊢
      obtain ⟨bk, hbk⟩ : ∃ bk, l.getD k 0 = bk := ⟨_, rfl⟩
      rw [hbk] at hbl hni hb
      generalize holdV b (x.getD k default) = hv at *
      generalize sumH s f l x k = A at *
      generalize sumD s f l k = D at *
      simp only [bedC, realC] at hho
      simp (maxSteps := 4000000) only [go_sem, seval]
      (repeat' (first
 | ((omega))
 | ((exfalso; omega))
 | refine awp_seqK ?_
 | refine kt ?_
 | refine And.intro ?_ ?_
 | ((first | refine awp_stp rfl ?_ | refine awp_draw (by kernel_rfl) (by kernel_rfl) ?_ | refine Imp.le2 ?_ | refine callK_of (hho) ?_ | refine go_split (fun _h => ?_) (fun _h => ?_)) <;> try simp (maxSteps := 4000000) only [go_sem, seval, hn, hni, e1, hrl, hb, bedC, realC, natI_length])
 | intro _h
 | refine awp_block ?_
 | refine awp_scope ?_
 | refine cond_b ?_ ?_
 | (show heapOK _ _ = true; kernel_rfl)
 | (show heapOK2 _ _ = true; kernel_rfl)
 | (omega)))
      all_goals trace_state
    · subst hk1
      have s1 := hsH l.length (Nat.le_refl _)
      have s2 := hsD l.length (Nat.le_refl _)
      unfold facV
      generalize sumH s f l x l.length = A at *
      generalize sumD s f l l.length = D at *
      by_cases c : D < 1
      · rw [if_pos c]
        have eD : (D < 1) = True := eq_true c
        simp (maxSteps := 4000000) only [go_sem, seval]
        (repeat' (first
 | ((omega))
 | ((exfalso; omega))
 | refine awp_seqK ?_
 | refine kt ?_
 | refine And.intro ?_ ?_
 | ((first | refine awp_stp rfl ?_ | refine awp_draw (by kernel_rfl) (by kernel_rfl) ?_ | refine Imp.le2 ?_ | refine go_split (fun _h => ?_) (fun _h => ?_)) <;> try simp (maxSteps := 4000000) only [go_sem, seval, eD, decide_true])
 | intro _h
 | refine awp_block ?_
 | refine awp_scope ?_
 | refine cond_b ?_ ?_
 | (show heapOK _ _ = true; kernel_rfl)
 | (show heapOK2 _ _ = true; kernel_rfl)
 | (omega)))
        all_goals trace_state
      · rw [if_neg c]
        have eD : (D < 1) = False := eq_false c
        have hq : 0 ≤ (1000 * A).tdiv D ∧ (1000 * A).tdiv D ≤ 1000 * A := tdiv_bd (by omega) (by omega)
        obtain ⟨q, hqe⟩ : ∃ q, (1000 * A).tdiv D = q := ⟨_, rfl⟩
        rw [hqe] at hq ⊢
        simp (maxSteps := 4000000) only [go_sem, seval]
        (repeat' (first
 | ((omega))
 | ((exfalso; omega))
 | refine awp_seqK ?_
 | refine kt ?_
 | refine And.intro ?_ ?_
 | ((first | refine awp_stp rfl ?_ | refine awp_draw (by kernel_rfl) (by kernel_rfl) ?_ | refine Imp.le2 ?_ | refine go_split (fun _h => ?_) (fun _h => ?_)) <;> try simp (maxSteps := 4000000) only [go_sem, seval, eD, hqe, decide_false])
 | intro _h
 | refine awp_block ?_
 | refine awp_scope ?_
 | refine cond_b ?_ ?_
 | (show heapOK _ _ = true; kernel_rfl)
 | (show heapOK2 _ _ = true; kernel_rfl)
 | (omega)))
        all_goals trace_state
theorem IsSurf_c (s : Slope) (m : Nat) (h : SlopeOK s m) (f : Nat) (l : List Nat) (hu : SurfIn s m f l) (hw : WayL m l) (lst : Nat) (hls : s.least = lst) : CallS Try.prog 68 [.agg (slopeC s), .agg [.int .i64 f, sl (natI l)]] (.bool (decide (lst ≤ l.length))) := by
  have hcn := h.cn
  have hcm := h.cm
  have hto := hu.to
  have hm0 := h.len 0 (by omega)
  have hlst := h.lst
  have hnb : ∀ (l : List Nat), WayL m l → ∀ i, i + 1 < l.length → l.getD (i + 1) 0 ≤ l.getD i 0 + 1 ∧ l.getD i 0 ≤ l.getD (i + 1) 0 + 1 := by
    intro l
    induction l with
    | nil => intro _ i hi; simp at hi
    | cons a l ih =>
      intro hw i hi
      cases l with
      | nil => simp at hi
      | cons b l =>
        cases i with
        | zero => exact hw.2.1
        | succ i => exact ih hw.2.2 i (by simpa using hi)
  have hnb := hnb l hw
  obtain ⟨n, hn⟩ : ∃ n, s.cols.length = n := ⟨_, rfl⟩
  simp only [slopeC, slC, sl, natI_length, hn, hls] at hto hcn hlst ⊢
  by_cases c : lst ≤ l.length
  · rw [decide_eq_true c]
    have e1 : ((l.length : Int) < (lst : Int)) = False := eq_false (by omega)
    have e2 : ((l.length : Int) > (n : Int)) = False := eq_false (by omega)
    have e3 : (0 ≤ (f : Int) ∧ (f : Int) ≤ (n : Int) - (l.length : Int)) = True := eq_true (by omega)
    (refine callS_of_awp (fun w args => Try.call68 ..) Try.func68 rfl (fun w0 m0 wz => ?_); simp only [Try.ntmps68, Try.results68, initT, junks, sl, List.toList_toArray, List.cons_append, List.nil_append, List.length_cons, List.length_nil, Nat.reduceAdd, Nat.reduceSub])
    (repeat' (first
 | ((omega))
 | ((exfalso; omega))
 | refine awp_seqK ?_
 | refine kt ?_
 | refine And.intro ?_ ?_
 | ((first | refine awp_stp rfl ?_ | refine awp_draw (by kernel_rfl) (by kernel_rfl) ?_ | refine Imp.le2 ?_ | refine callK_of (inS_c _ _ _) ?_ | refine go_split (fun _h => ?_) (fun _h => ?_)) <;> try simp (maxSteps := 4000000) only [go_sem, seval, hn, e1, e2, e3, decide_true, decide_false])
 | intro _h
 | refine awp_block ?_
 | refine awp_scope ?_
 | refine cond_b ?_ ?_
 | (show heapOK _ _ = true; kernel_rfl)
 | (show heapOK2 _ _ = true; kernel_rfl)
 | (omega)))
    refine awp_loopN l.length (fun k => ⟨mkT 70 [(2, .ptr 0 0 0), (3, .ptr 1 0 0), (5, .int .i64 l.length), (6, .int .i64 k)], [some (.cells 24 1 0 [.psl false n (colC s.cols), .int .i64 lst]), some (.cells 90 1 0 [.int .i64 f, .psl false l.length (ints (natI l))])], []⟩) (.le2 ?_) ?_
    · simp (maxSteps := 4000000) only [go_sem, seval]
      all_goals first | rfl | exact ⟨rfl, rfl⟩ | trace_state
    · intro k hk
      rcases Nat.lt_or_eq_of_le hk with hk1 | hk1
      · have hni := natI_get hk1
        have hbl := hu.bed k hk1
        have g1 : (0 ≤ ((l.getD k 0 : Nat) : Int) ∧ ((l.getD k 0 : Nat) : Int) ≤ (m : Int) - 1) = True := eq_true (by omega)
        cases k with
        | zero =>
          have g2 : (((0 : Nat) : Int) > 0) = False := eq_false (by omega)
          simp (maxSteps := 4000000) only [go_sem, seval]
          (repeat' (first
 | ((omega))
 | ((exfalso; omega))
 | refine awp_seqK ?_
 | refine kt ?_
 | refine And.intro ?_ ?_
 | ((first | refine awp_stp rfl ?_ | refine awp_draw (by kernel_rfl) (by kernel_rfl) ?_ | refine Imp.le2 ?_ | refine callK_of (inS_c _ _ _) ?_ | refine go_split (fun _h => ?_) (fun _h => ?_)) <;> try simp (maxSteps := 4000000) only [go_sem, seval, hn, hni, hm0, g1, g2, natI_length, decide_true, decide_false])
 | intro _h
 | refine awp_block ?_
 | refine awp_scope ?_
 | refine cond_b ?_ ?_
 | (show heapOK _ _ = true; kernel_rfl)
 | (show heapOK2 _ _ = true; kernel_rfl)
 | (omega)))
          all_goals trace_state
        | succ k =>
          have hn2 := natI_get (show k < l.length by omega)
          have hnk := hnb k hk1
          have hbl2 := hu.bed k (by omega)
          have g2 : (((k + 1 : Nat) : Int) > 0) = True := eq_true (by omega)
          have g3 : (-1 ≤ ((l.getD (k + 1) 0 : Nat) : Int) - ((l.getD k 0 : Nat) : Int) ∧ ((l.getD (k + 1) 0 : Nat) : Int) - ((l.getD k 0 : Nat) : Int) ≤ 1) = True := eq_true (by omega)
          have e5 : (((k + 1 : Nat) : Int) - 1) = (k : Int) := by omega
          simp (maxSteps := 4000000) only [go_sem, seval]
          (repeat' (first
 | ((omega))
 | ((exfalso; omega))
 | refine awp_seqK ?_
 | refine kt ?_
 | refine And.intro ?_ ?_
 | ((first | refine awp_stp rfl ?_ | refine awp_draw (by kernel_rfl) (by kernel_rfl) ?_ | refine Imp.le2 ?_ | refine callK_of (inS_c _ _ _) ?_ | refine go_split (fun _h => ?_) (fun _h => ?_)) <;> try simp (maxSteps := 4000000) only [go_sem, seval, hn, hni, hn2, hm0, e5, g1, g2, g3, natI_length, decide_true, decide_false])
 | intro _h
 | refine awp_block ?_
 | refine awp_scope ?_
 | refine cond_b ?_ ?_
 | (show heapOK _ _ = true; kernel_rfl)
 | (show heapOK2 _ _ = true; kernel_rfl)
 | (omega)))
          all_goals trace_state
      · subst hk1
        simp (maxSteps := 4000000) only [go_sem, seval]
        (repeat' (first
 | ((omega))
 | ((exfalso; omega))
 | refine awp_seqK ?_
 | refine kt ?_
 | refine And.intro ?_ ?_
 | ((first | refine awp_stp rfl ?_ | refine awp_draw (by kernel_rfl) (by kernel_rfl) ?_ | refine Imp.le2 ?_ | refine go_split (fun _h => ?_) (fun _h => ?_)) <;> try simp (maxSteps := 4000000) only [go_sem, seval])
 | intro _h
 | refine awp_block ?_
 | refine awp_scope ?_
 | refine cond_b ?_ ?_
 | (show heapOK _ _ = true; kernel_rfl)
 | (show heapOK2 _ _ = true; kernel_rfl)
 | (omega)))
        all_goals trace_state
  · rw [decide_eq_false c]
    have e1 : ((l.length : Int) < (lst : Int)) = True := eq_true (by omega)
    (refine callS_of_awp (fun w args => Try.call68 ..) Try.func68 rfl (fun w0 m0 wz => ?_); simp only [Try.ntmps68, Try.results68, initT, junks, sl, List.toList_toArray, List.cons_append, List.nil_append, List.length_cons, List.length_nil, Nat.reduceAdd, Nat.reduceSub])
    (repeat' (first
 | ((omega))
 | ((exfalso; omega))
 | refine awp_seqK ?_
 | refine kt ?_
 | refine And.intro ?_ ?_
 | ((first | refine awp_stp rfl ?_ | refine awp_draw (by kernel_rfl) (by kernel_rfl) ?_ | refine Imp.le2 ?_ | refine callK_of (inS_c _ _ _) ?_ | refine go_split (fun _h => ?_) (fun _h => ?_)) <;> try simp (maxSteps := 4000000) only [go_sem, seval, hn, e1, decide_true])
 | intro _h
 | refine awp_block ?_
 | refine awp_scope ?_
 | refine cond_b ?_ ?_
 | (show heapOK _ _ = true; kernel_rfl)
 | (show heapOK2 _ _ = true; kernel_rfl)
 | (omega)))
    all_goals trace_state
end Go.Am
