/- Parts RaL, RaM, RaN, RaO, RaP of the proof, one behind the other. No statement is proved here. -/
import Derived.Test.YtaofjkcenmnldaaK6
import Derived.Test.YtaofjkcenmnldaaK4
set_option linter.unusedVariables false -- all
set_option linter.unusedSimpArgs false
/- Contracts of the reference of slopes: all surfaces. -/
namespace Go.Am
open Go.RowKit Go.Proofs
attribute [local irreducible] AWP CallS Kt goK CallK stepK evOps SemF SemY Imp
set_option maxRecDepth 4000
set_option linter.unusedSimpArgs false
set_option linter.unusedVariables false
set_option maxHeartbeats 3200000
def sfC (u : Nat × List Nat) : List AV := [.int .i64 u.1, .psl false u.2.length (ints (natI u.2))]
def slF (l : List (Nat × List Nat)) : AV := .psl false l.length (recs sfC l)
theorem pl_Sf {l : List (Nat × List Nat)} : pureL (recs sfC l) = True := eq_true (recs_pure fun s => by simp [pureL, sfC, cellPure, sl])
theorem lv_Sf {l : List (Nat × List Nat)} {p : Nat → Bool} : (recs sfC l).all (live2 p) = true := recs_live fun s => by simp [pureL, sfC, cellPure, sl]
theorem len_Sf {l : List (Nat × List Nat)} : (recs sfC l).length = l.length * 2 := recs_length fun _ => rfl
theorem ld_Sf90 {l : List (Nat × List Nat)} {i : Nat} {K : AV → Prop} : loadK Try.prog 90 (recs sfC l) (i * 2) K = (i < l.length ∧ K (.agg (sfC (l.getD i default)))) := ld_recs tagg90 tsz90 (fun _ => rfl) (by omega)
attribute [go_sem] pl_Sf lv_Sf len_Sf
attribute [go_sem ↓] ld_Sf90
instance {l : List (Nat × List Nat)} : Still (recs sfC l) := ⟨fun y hy => by
  simp only [recs, List.mem_flatMap] at hy
  obtain ⟨h, _, hy⟩ := hy
  simp only [sfC, List.mem_cons, List.not_mem_nil, or_false] at hy
  rcases hy with rfl | rfl <;> rfl⟩
def selfL (lst f : Nat) (l : List Nat) : List (Nat × List Nat) := if 0 < l.length ∧ lst ≤ l.length then [(f, l)] else []
/-- May bed b come behind a way? -/
def nearB (l : List Nat) (b : Nat) : Bool := decide (l.length = 0 ∨ (b ≤ l.getD (l.length - 1) 0 + 1 ∧ l.getD (l.length - 1) 0 ≤ b + 1))
def surfF (m lst f : Nat) : Nat → List Nat → List (Nat × List Nat)
  | 0, l => selfL lst f l
  | k + 1, l => selfL lst f l ++ (List.range m).flatMap fun b => if nearB l b = true then surfF m lst f k (l ++ [b]) else []
theorem WayL_snoc {m b : Nat} : ∀ (l : List Nat), WayL m l → b < m → nearB l b = true → WayL m (l ++ [b])
  | [], _, hb, _ => hb
  | [a], h, hb, hn => by
    have := of_decide_eq_true hn
    simp at this
    exact ⟨h, ⟨this.1, this.2⟩, hb⟩
  | a :: a' :: l, h, hb, hn => by
    refine ⟨h.1, h.2.1, WayL_snoc (a' :: l) h.2.2 hb ?_⟩
    have := of_decide_eq_true hn
    unfold nearB
    refine decide_eq_true (.inr ?_)
    rcases this with h1 | h1
    · simp at h1
    · simpa using h1
theorem SurfIn.snoc {s : Slope} {m f b : Nat} {l : List Nat} (h : SurfIn s m f l) (hb : b < m) (hn : f + (l.length + 1) ≤ s.cols.length) : SurfIn s m f (l ++ [b]) := by
  refine ⟨by simpa using hn, fun i hi => ?_⟩
  by_cases e : i < l.length
  · rw [List.getD_eq_getElem?_getD, List.getElem?_append_left e, ← List.getD_eq_getElem?_getD]; exact h.bed i e
  · have e2 : i = l.length := by simp at hi; omega
    subst e2
    simp [List.getD_eq_getElem?_getD]; exact hb
theorem selfL_len {lst f : Nat} {l : List Nat} : (selfL lst f l).length ≤ 1 := by unfold selfL; split <;> simp
theorem flat_len {α : Type} {g : Nat → List α} {B : Nat} (h : ∀ b, (g b).length ≤ B) : ∀ m, ((List.range m).flatMap g).length ≤ m * B
  | 0 => by simp
  | m + 1 => by
    have ih := flat_len h m
    have := h m
    rw [List.range_succ, List.flatMap_append, List.length_append, Nat.add_mul]
    simp only [List.flatMap_cons, List.flatMap_nil, List.append_nil]
    omega
theorem surfF_len {m lst f : Nat} (hm : m ≤ 5) : ∀ (k : Nat) (l : List Nat), (surfF m lst f k l).length ≤ 6 ^ k
  | 0, l => by simpa [surfF] using selfL_len
  | k + 1, l => by
    have h1 := selfL_len (lst := lst) (f := f) (l := l)
    have h2 := flat_len (g := fun b => if nearB l b = true then surfF m lst f k (l ++ [b]) else []) (B := 6 ^ k) (fun b => by
      split
      · exact surfF_len hm k _
      · simp) m
    have h3 : 0 < 6 ^ k := Nat.pow_pos (by omega)
    have h4 : m * 6 ^ k ≤ 5 * 6 ^ k := Nat.mul_le_mul_right _ hm
    simp only [surfF, List.length_append, Nat.pow_succ]
    omega
theorem pow6 {k : Nat} (h : k ≤ 12) : 6 ^ k ≤ 2176782336 := Nat.le_trans (Nat.pow_le_pow_right (by omega) h) (by decide)
theorem mem_ints' {l : List Int} {y : AV} (h : y ∈ ints l) : ∃ n, y = .int .i64 n := by
  simp only [ints, List.mem_map] at h
  obtain ⟨n, _, rfl⟩ := h
  exact ⟨n, rfl⟩
theorem take_surf {r : AV} (s : Slope) (f : Int) (g : Nat) (l : List Int) (n : Nat) (hn : n = l.length) (h : CallS Try.prog 47 [.agg (slopeC s), .agg [.int .i64 f, sl l]] r) : SemF Try.prog 47 [.agg (slopeC s), .agg [.int .i64 f, .osl 0 g 0 n]] [some (.cells 3 1 g (ints l))] r [some (.cells 3 1 (g + 1) [])] := by
  subst hn
  have e : fzl (fz2 0 g (ints l)) [.agg (slopeC s), .agg [.int .i64 f, .osl 0 g 0 l.length]] = [.agg (slopeC s), .agg [.int .i64 f, sl l]] := by
    simp [fzl, fz2, fz1, fz0, slopeC, slC, sl]
  refine semF_take ?_ ?_ ?_
  · rw [e]; exact h
  · intro y hy
    obtain ⟨n, rfl⟩ := mem_ints' hy
    rfl
  · rw [e]
    intro x hx
    simp only [List.mem_cons, List.not_mem_nil, or_false] at hx
    rcases hx with rfl | rfl <;> rfl
theorem Surf_c (s : Slope) (m : Nat) (h : SlopeOK s m) (f lst : Nat) (hls : s.least = lst) : ∀ (k : Nat) (l : List Nat), f + l.length + k = s.cols.length → SurfIn s m f l → WayL m l → CallS Try.prog 47 [.agg (slopeC s), .agg [.int .i64 f, sl (natI l)]] (slF (surfF m lst f k l)) := by
  intro k
  induction k with
  | zero =>
    intro l hk hu hw
    have hcn := h.cn
    have his := IsSurf_c s m h f l hu hw lst hls
    have hm0 := h.len 0 (by omega)
    obtain ⟨n, hn⟩ : ∃ n, s.cols.length = n := ⟨_, rfl⟩
    simp only [surfF, slF]
    simp only [slopeC, slC, sl, natI_length, hn, hls] at his hcn hk ⊢
    have eK : ((f : Int) + (l.length : Int) ≥ (n : Int)) = True := eq_true (by omega)
    by_cases c0 : 0 < l.length
    · have e0 : ((l.length : Int) > 0) = True := eq_true (by omega)
      by_cases c1 : lst ≤ l.length
      · have e1 : selfL lst f l = [(f, l)] := by unfold selfL; rw [if_pos ⟨c0, c1⟩]
        have e2 : recs sfC [(f, l)] = sfC (f, l) := by simp [recs]
        rw [e1]
        simp only [List.length_cons, List.length_nil, e2, sfC]
        rw [decide_eq_true c1] at his
        (refine callS_of_awp (fun w args => Try.call47 ..) Try.func47 rfl (fun w0 m0 wz => ?_); simp only [Try.ntmps47, Try.results47, initT, junks, sl, List.toList_toArray, List.cons_append, List.nil_append, List.length_cons, List.length_nil, Nat.reduceAdd, Nat.reduceSub])
        (repeat' (first
 | ((omega))
 | ((exfalso; omega))
 | refine awp_seqK ?_
 | refine kt ?_
 | refine And.intro ?_ ?_
 | ((first | refine awp_stp rfl ?_ | refine awp_draw (by kernel_rfl) (by kernel_rfl) ?_ | refine Imp.le2 ?_ | refine callK_of (his) ?_ | refine go_split (fun _h => ?_) (fun _h => ?_)) <;> try simp (maxSteps := 4000000) only [go_sem, seval, hn, natI_length, e0, eK, decide_true, decide_false])
 | intro _h
 | refine awp_block ?_
 | refine awp_scope ?_
 | refine cond_b ?_ ?_
 | (show heapOK _ _ = true; kernel_rfl)
 | (show heapOK2 _ _ = true; kernel_rfl)
 | (omega)))
        all_goals trace_state
      · have e1 : selfL lst f l = [] := by unfold selfL; rw [if_neg (fun h => c1 h.2)]
        rw [e1]
        rw [decide_eq_false c1] at his
        (refine callS_of_awp (fun w args => Try.call47 ..) Try.func47 rfl (fun w0 m0 wz => ?_); simp only [Try.ntmps47, Try.results47, initT, junks, sl, List.toList_toArray, List.cons_append, List.nil_append, List.length_cons, List.length_nil, Nat.reduceAdd, Nat.reduceSub])
        (repeat' (first
 | ((omega))
 | ((exfalso; omega))
 | refine awp_seqK ?_
 | refine kt ?_
 | refine And.intro ?_ ?_
 | ((first | refine awp_stp rfl ?_ | refine awp_draw (by kernel_rfl) (by kernel_rfl) ?_ | refine Imp.le2 ?_ | refine callK_of (his) ?_ | refine go_split (fun _h => ?_) (fun _h => ?_)) <;> try simp (maxSteps := 4000000) only [go_sem, seval, hn, natI_length, e0, eK, decide_true, decide_false])
 | intro _h
 | refine awp_block ?_
 | refine awp_scope ?_
 | refine cond_b ?_ ?_
 | (show heapOK _ _ = true; kernel_rfl)
 | (show heapOK2 _ _ = true; kernel_rfl)
 | (omega)))
        all_goals first | rfl | trace_state
    · have e0 : ((l.length : Int) > 0) = False := eq_false (by omega)
      have e1 : selfL lst f l = [] := by unfold selfL; rw [if_neg (fun h => c0 h.1)]
      rw [e1]
      (refine callS_of_awp (fun w args => Try.call47 ..) Try.func47 rfl (fun w0 m0 wz => ?_); simp only [Try.ntmps47, Try.results47, initT, junks, sl, List.toList_toArray, List.cons_append, List.nil_append, List.length_cons, List.length_nil, Nat.reduceAdd, Nat.reduceSub])
      (repeat' (first
 | ((omega))
 | ((exfalso; omega))
 | refine awp_seqK ?_
 | refine kt ?_
 | refine And.intro ?_ ?_
 | ((first | refine awp_stp rfl ?_ | refine awp_draw (by kernel_rfl) (by kernel_rfl) ?_ | refine Imp.le2 ?_ | refine go_split (fun _h => ?_) (fun _h => ?_)) <;> try simp (maxSteps := 4000000) only [go_sem, seval, hn, natI_length, e0, eK, decide_true, decide_false])
 | intro _h
 | refine awp_block ?_
 | refine awp_scope ?_
 | refine cond_b ?_ ?_
 | (show heapOK _ _ = true; kernel_rfl)
 | (show heapOK2 _ _ = true; kernel_rfl)
 | (omega)))
      all_goals first | rfl | trace_state
  | succ k ih =>
    intro l hk hu hw
    have hcn := h.cn
    have hcm := h.cm
    have his := IsSurf_c s m h f l hu hw lst hls
    have hm0 := h.len 0 (by omega)
    obtain ⟨n, hn⟩ : ∃ n, s.cols.length = n := ⟨_, rfl⟩
    obtain ⟨outB, hoB⟩ : ∃ outB : Nat → List (Nat × List Nat), (fun b => selfL lst f l ++ (List.range b).flatMap fun b => if nearB l b = true then surfF m lst f k (l ++ [b]) else []) = outB := ⟨_, rfl⟩
    have h0B : outB 0 = selfL lst f l := by rw [← hoB]; simp
    have hsB : ∀ b, outB (b + 1) = outB b ++ (if nearB l b = true then surfF m lst f k (l ++ [b]) else []) := fun b => by rw [← hoB]; simp [List.range_succ, List.append_assoc]
    have hbig : ∀ b, b ≤ m → (outB b).length ≤ 1 + b * 2176782336 := fun b => by
      induction b with
      | zero => intro _; rw [h0B]; have := selfL_len (lst := lst) (f := f) (l := l); omega
      | succ b ih2 =>
        intro hb
        have h1 := ih2 (by omega)
        have h2 := surfF_len (m := m) (lst := lst) (f := f) hcm.2 k (l ++ [b])
        have h3 := pow6 (k := k) (by omega)
        have h4 : (if nearB l b = true then surfF m lst f k (l ++ [b]) else []).length ≤ 2176782336 := by
          split
          · omega
          · exact Nat.zero_le _
        rw [hsB, List.length_append]
        omega
    have hfin : surfF m lst f (k + 1) l = outB m := by rw [← hoB]; rfl
    rw [hfin]
    clear hoB hfin
    simp only [slF]
    simp only [slopeC, slC, sl, natI_length, hn, hls] at his hcn hk ⊢
    have eK : ((f : Int) + (l.length : Int) ≥ (n : Int)) = False := eq_false (by omega)
    by_cases c0 : 0 < l.length
    · have e0 : ((l.length : Int) > 0) = True := eq_true (by omega)
      by_cases c1 : lst ≤ l.length
      · have e1 : selfL lst f l = [(f, l)] := by unfold selfL; rw [if_pos ⟨c0, c1⟩]
        have e2 : recs sfC [(f, l)] = sfC (f, l) := by simp [recs]
        rw [e1] at h0B
        rw [decide_eq_true c1] at his
        (refine callS_of_awp (fun w args => Try.call47 ..) Try.func47 rfl (fun w0 m0 wz => ?_); simp only [Try.ntmps47, Try.results47, initT, junks, sl, List.toList_toArray, List.cons_append, List.nil_append, List.length_cons, List.length_nil, Nat.reduceAdd, Nat.reduceSub])
        (repeat' (first
 | ((omega))
 | ((exfalso; omega))
 | refine awp_seqK ?_
 | refine kt ?_
 | refine And.intro ?_ ?_
 | ((first | refine awp_region ?_ | refine awp_draw (by kernel_rfl) (by kernel_rfl) ?_ | refine Imp.le2 ?_ | refine awp_label ?_ | refine awp_skip ?_ | refine awp_exit ?_ | refine awp_ret ?_ | refine callK_of (his) ?_ | refine go_split (fun _h => ?_) (fun _h => ?_)) <;> try simp (maxSteps := 4000000) only [go_sem, seval, hn, natI_length, e0, eK, decide_true, decide_false])
 | intro _h
 | refine awp_block ?_
 | refine awp_scope ?_
 | refine cond_b ?_ ?_
 | (show heapOK _ _ = true; kernel_rfl)
 | (show heapOK2 _ _ = true; kernel_rfl)
 | (omega)))
        (refine awp_adT 5 90 2 rfl ?_; simp only [adT, lset, hset, List.length_cons, List.length_nil, Nat.reduceAdd])
        (repeat' (first
 | ((omega))
 | ((exfalso; omega))
 | refine awp_seqK ?_
 | refine kt ?_
 | refine And.intro ?_ ?_
 | ((first | refine awp_stp rfl ?_ | refine awp_draw (by kernel_rfl) (by kernel_rfl) ?_ | refine Imp.le2 ?_ | refine callK_of (his) ?_ | refine go_split (fun _h => ?_) (fun _h => ?_)) <;> try simp (maxSteps := 4000000) only [go_sem, seval, hn, natI_length, e0, eK, decide_true, decide_false])
 | intro _h
 | refine awp_block ?_
 | refine awp_scope ?_
 | refine cond_b ?_ ?_
 | (show heapOK _ _ = true; kernel_rfl)
 | (show heapOK2 _ _ = true; kernel_rfl)
 | (omega)))
        refine awp_loopJ (fun x : Nat × Nat => x.1 ≤ m) (fun x => ⟨mkT 72 [(2, .ptr 0 0 0), (3, .ptr 1 0 0), (5, .osl 2 x.2 0 (outB x.1).length), (6, .int .i64 x.1)], [some (.cells 24 1 0 [.psl false n (colC s.cols), .int .i64 lst]), some (.cells 90 1 0 [.int .i64 f, .psl false l.length (ints (natI l))]), some (.cells 90 2 x.2 (recs sfC (outB x.1)))], []⟩) (fun x => m - x.1) (0, 1) (Nat.zero_le _) (.le2 ?_) ?_
        · simp only [h0B, List.length_cons, List.length_nil, e2, sfC]; simp (maxSteps := 4000000) only [go_sem, seval]
          all_goals first | rfl | exact ⟨rfl, rfl⟩ | trace_state
        · rintro ⟨b, g⟩ hb
          simp only at hb
          rcases Nat.lt_or_eq_of_le hb with hb1 | hb1
          · have hbB := hbig b hb
            cases hnr : nearB l b with
            | false =>
              have eO : outB (b + 1) = outB b := by rw [hsB, hnr]; simp
              have hn2 := of_decide_eq_false hnr
              have e9 : ((l.length : Int) = 0) = False := eq_false (by omega)
              have hni := natI_get (show l.length - 1 < l.length by omega)
              have e8 : ((l.length : Int) - 1) = ((l.length - 1 : Nat) : Int) := by omega
              have e7 : (-1 ≤ (b : Int) - ((l.getD (l.length - 1) 0 : Nat) : Int) ∧ (b : Int) - ((l.getD (l.length - 1) 0 : Nat) : Int) ≤ 1) = False := eq_false (by omega)
              have hlb := hu.bed (l.length - 1) (by omega)
              simp (maxSteps := 4000000) only [go_sem, seval]
              (repeat' (first
 | ((omega))
 | ((exfalso; omega))
 | refine awp_seqK ?_
 | refine kt ?_
 | refine And.intro ?_ ?_
 | ((first | refine awp_stp rfl ?_ | refine awp_draw (by kernel_rfl) (by kernel_rfl) ?_ | refine Imp.le2 ?_ | refine callK_of (inS_c _ _ _) ?_ | refine go_split (fun _h => ?_) (fun _h => ?_)) <;> try simp (maxSteps := 4000000) only [go_sem, seval, hn, hm0, hni, e9, e8, e7, natI_length, decide_true, decide_false])
 | intro _h
 | refine awp_block ?_
 | refine awp_scope ?_
 | refine cond_b ?_ ?_
 | (show heapOK _ _ = true; kernel_rfl)
 | (show heapOK2 _ _ = true; kernel_rfl)
 | (omega)))
              refine ⟨(b + 1, g), by simp only; omega, by simp only; omega, .le2 ?_⟩
              simp only [eO]; simp (maxSteps := 4000000) only [go_sem, seval]
              all_goals first | rfl | exact ⟨rfl, rfl⟩ | trace_state
            | true =>
              have eO : outB (b + 1) = outB b ++ surfF m lst f k (l ++ [b]) := by rw [hsB, hnr]; simp
              have hih := ih (l ++ [b]) (by simp; omega) (hu.snoc hb1 (by omega)) (WayL_snoc l hw hb1 hnr)
              have hRl := surfF_len (m := m) (lst := lst) (f := f) hcm.2 k (l ++ [b])
              have hP6 := pow6 (k := k) (by omega)
              rw [natI_snoc] at hih
              generalize surfF m lst f k (l ++ [b]) = R at *
              have lnO : (outB b ++ R).length = (outB b).length + R.length := List.length_append
              have rcO : recs sfC (outB b) ++ recs sfC R = recs sfC (outB b ++ R) := by simp [recs]
              have snP : ints (natI l) ++ [.int .i64 (b : Int)] = ints (natI l ++ [(b : Int)]) := by simp [ints]
              have hn2 := of_decide_eq_true hnr
              have hl0 : ¬ l.length = 0 := by omega
              have e9 : ((l.length : Int) = 0) = False := eq_false (by omega)
              have hni := natI_get (show l.length - 1 < l.length by omega)
              have e8 : ((l.length : Int) - 1) = ((l.length - 1 : Nat) : Int) := by omega
              have e7 : (-1 ≤ (b : Int) - ((l.getD (l.length - 1) 0 : Nat) : Int) ∧ (b : Int) - ((l.getD (l.length - 1) 0 : Nat) : Int) ≤ 1) = True := eq_true (by omega)
              have hlb := hu.bed (l.length - 1) (by omega)
              have hc := take_surf s f 1 (natI l ++ [(b : Int)]) (l.length + 1) (by simp [natI]) hih
              simp only [slopeC, slC, slF, hls, hn] at hc
              generalize outB b = O at *
              simp (maxSteps := 4000000) only [go_sem, seval]
              (repeat' (first
 | ((omega))
 | ((exfalso; omega))
 | refine awp_seqK ?_
 | refine kt ?_
 | refine And.intro ?_ ?_
 | ((first | refine awp_stp rfl ?_ | refine Imp.le2 ?_ | refine callK_of (inS_c _ _ _) ?_ | refine go_split (fun _h => ?_) (fun _h => ?_)) <;> try simp (maxSteps := 4000000) only [go_sem, seval, hn, hm0, hni, e9, e8, e7, natI_length, decide_true, decide_false])
 | intro _h
 | refine awp_block ?_
 | refine awp_scope ?_
 | refine cond_b ?_ ?_
 | (show heapOK _ _ = true; kernel_rfl)
 | (show heapOK2 _ _ = true; kernel_rfl)
 | (omega)))
              ((repeat refine awp_seqK ?_); refine awp_draws [(12, [3])] (by kernel_rfl) (by kernel_rfl) ?_; simp (maxSteps := 4000000) only [go_sem, seval, sg_cons, sg_nil, List.take_succ_cons, List.take_zero, List.drop_succ_cons, List.drop_zero])
              (repeat' (first | (exfalso; omega) | omega | exact natI_length | (refine And.intro ?_ ?_) | (intro _h)))
              simp only [ints_snoc]
              (refine own_go (hc) [3] rfl (by simp (maxSteps := 4000000) only [go_sem, seval]) (by simp (maxSteps := 4000000) only [go_sem, seval, Nat.lt_irrefl] <;> decide) rfl ?_; simp (maxSteps := 4000000) only [go_sem, seval]; refine And.intro (frm_of (by repeat (first | exact rfl | exact ⟨_, rfl⟩ | refine And.intro ?_ ?_))) ?_; try simp (maxSteps := 4000000) only [go_sem, seval, sg_cons, sg_nil, List.take_succ_cons, List.take_zero, List.drop_succ_cons, List.drop_zero])
              refine And.intro (by omega) (And.intro (by omega) ?_)
              (refine And.intro (by kernel_rfl) ?_; refine kt ?_)
              (repeat' (first
 | ((omega))
 | ((exfalso; omega))
 | refine awp_seqK ?_
 | refine kt ?_
 | refine And.intro ?_ ?_
 | ((first | refine awp_stp rfl ?_ | refine awp_draw (by kernel_rfl) (by kernel_rfl) ?_ | refine Imp.le2 ?_ | refine go_split (fun _h => ?_) (fun _h => ?_)) <;> try simp (maxSteps := 4000000) only [go_sem, seval, lnO, rcO])
 | intro _h
 | refine awp_block ?_
 | refine awp_scope ?_
 | refine cond_b ?_ ?_
 | (show heapOK _ _ = true; kernel_rfl)
 | (show heapOK2 _ _ = true; kernel_rfl)
 | (omega)))
              refine ⟨(b + 1, g + 1), by simp only; omega, by simp only; omega, .le2 ?_⟩
              simp only [eO]; simp (maxSteps := 4000000) only [go_sem, seval]
              all_goals first | rfl | exact ⟨rfl, rfl⟩ | exact ⟨lnO.symm, by omega⟩ | trace_state
          · rw [hb1]
            generalize outB m = O at *
            simp (maxSteps := 4000000) only [go_sem, seval]
            (repeat' (first
 | ((omega))
 | ((exfalso; omega))
 | refine awp_seqK ?_
 | refine kt ?_
 | refine And.intro ?_ ?_
 | ((first | refine awp_stp rfl ?_ | refine awp_draw (by kernel_rfl) (by kernel_rfl) ?_ | refine Imp.le2 ?_ | refine go_split (fun _h => ?_) (fun _h => ?_)) <;> try simp (maxSteps := 4000000) only [go_sem, seval, hn, hm0, natI_length])
 | intro _h
 | refine awp_block ?_
 | refine awp_scope ?_
 | refine cond_b ?_ ?_
 | (show heapOK _ _ = true; kernel_rfl)
 | (show heapOK2 _ _ = true; kernel_rfl)
 | (omega)))
            all_goals trace_state
      · have e1 : selfL lst f l = [] := by unfold selfL; rw [if_neg (fun h => c1 h.2)]
        rw [e1] at h0B
        rw [decide_eq_false c1] at his
        (refine callS_of_awp (fun w args => Try.call47 ..) Try.func47 rfl (fun w0 m0 wz => ?_); simp only [Try.ntmps47, Try.results47, initT, junks, sl, List.toList_toArray, List.cons_append, List.nil_append, List.length_cons, List.length_nil, Nat.reduceAdd, Nat.reduceSub])
        (repeat' (first
 | ((omega))
 | ((exfalso; omega))
 | refine awp_seqK ?_
 | refine kt ?_
 | refine And.intro ?_ ?_
 | ((first | refine awp_stp rfl ?_ | refine awp_draw (by kernel_rfl) (by kernel_rfl) ?_ | refine Imp.le2 ?_ | refine callK_of (his) ?_ | refine go_split (fun _h => ?_) (fun _h => ?_)) <;> try simp (maxSteps := 4000000) only [go_sem, seval, hn, natI_length, e0, eK, decide_true, decide_false])
 | intro _h
 | refine awp_block ?_
 | refine awp_scope ?_
 | refine cond_b ?_ ?_
 | (show heapOK _ _ = true; kernel_rfl)
 | (show heapOK2 _ _ = true; kernel_rfl)
 | (omega)))
        (refine awp_adT 5 90 2 rfl ?_; simp only [adT, lset, hset, List.length_cons, List.length_nil, Nat.reduceAdd])
        refine awp_loopJ (fun x : Nat × Nat => x.1 ≤ m) (fun x => ⟨mkT 72 [(2, .ptr 0 0 0), (3, .ptr 1 0 0), (5, .osl 2 x.2 0 (outB x.1).length), (6, .int .i64 x.1)], [some (.cells 24 1 0 [.psl false n (colC s.cols), .int .i64 lst]), some (.cells 90 1 0 [.int .i64 f, .psl false l.length (ints (natI l))]), some (.cells 90 2 x.2 (recs sfC (outB x.1)))], []⟩) (fun x => m - x.1) (0, 0) (Nat.zero_le _) (.le2 ?_) ?_
        · simp only [h0B]; simp (maxSteps := 4000000) only [go_sem, seval]
          all_goals first | rfl | exact ⟨rfl, rfl⟩ | trace_state
        · rintro ⟨b, g⟩ hb
          simp only at hb
          rcases Nat.lt_or_eq_of_le hb with hb1 | hb1
          · have hbB := hbig b hb
            cases hnr : nearB l b with
            | false =>
              have eO : outB (b + 1) = outB b := by rw [hsB, hnr]; simp
              have hn2 := of_decide_eq_false hnr
              have e9 : ((l.length : Int) = 0) = False := eq_false (by omega)
              have hni := natI_get (show l.length - 1 < l.length by omega)
              have e8 : ((l.length : Int) - 1) = ((l.length - 1 : Nat) : Int) := by omega
              have e7 : (-1 ≤ (b : Int) - ((l.getD (l.length - 1) 0 : Nat) : Int) ∧ (b : Int) - ((l.getD (l.length - 1) 0 : Nat) : Int) ≤ 1) = False := eq_false (by omega)
              have hlb := hu.bed (l.length - 1) (by omega)
              simp (maxSteps := 4000000) only [go_sem, seval]
              (repeat' (first
 | ((omega))
 | ((exfalso; omega))
 | refine awp_seqK ?_
 | refine kt ?_
 | refine And.intro ?_ ?_
 | ((first | refine awp_stp rfl ?_ | refine awp_draw (by kernel_rfl) (by kernel_rfl) ?_ | refine Imp.le2 ?_ | refine callK_of (inS_c _ _ _) ?_ | refine go_split (fun _h => ?_) (fun _h => ?_)) <;> try simp (maxSteps := 4000000) only [go_sem, seval, hn, hm0, hni, e9, e8, e7, natI_length, decide_true, decide_false])
 | intro _h
 | refine awp_block ?_
 | refine awp_scope ?_
 | refine cond_b ?_ ?_
 | (show heapOK _ _ = true; kernel_rfl)
 | (show heapOK2 _ _ = true; kernel_rfl)
 | (omega)))
              refine ⟨(b + 1, g), by simp only; omega, by simp only; omega, .le2 ?_⟩
              simp only [eO]; simp (maxSteps := 4000000) only [go_sem, seval]
              all_goals first | rfl | exact ⟨rfl, rfl⟩ | trace_state
            | true =>
              have eO : outB (b + 1) = outB b ++ surfF m lst f k (l ++ [b]) := by rw [hsB, hnr]; simp
              have hih := ih (l ++ [b]) (by simp; omega) (hu.snoc hb1 (by omega)) (WayL_snoc l hw hb1 hnr)
              have hRl := surfF_len (m := m) (lst := lst) (f := f) hcm.2 k (l ++ [b])
              have hP6 := pow6 (k := k) (by omega)
              rw [natI_snoc] at hih
              generalize surfF m lst f k (l ++ [b]) = R at *
              have lnO : (outB b ++ R).length = (outB b).length + R.length := List.length_append
              have rcO : recs sfC (outB b) ++ recs sfC R = recs sfC (outB b ++ R) := by simp [recs]
              have snP : ints (natI l) ++ [.int .i64 (b : Int)] = ints (natI l ++ [(b : Int)]) := by simp [ints]
              have hn2 := of_decide_eq_true hnr
              have hl0 : ¬ l.length = 0 := by omega
              have e9 : ((l.length : Int) = 0) = False := eq_false (by omega)
              have hni := natI_get (show l.length - 1 < l.length by omega)
              have e8 : ((l.length : Int) - 1) = ((l.length - 1 : Nat) : Int) := by omega
              have e7 : (-1 ≤ (b : Int) - ((l.getD (l.length - 1) 0 : Nat) : Int) ∧ (b : Int) - ((l.getD (l.length - 1) 0 : Nat) : Int) ≤ 1) = True := eq_true (by omega)
              have hlb := hu.bed (l.length - 1) (by omega)
              have hc := take_surf s f 1 (natI l ++ [(b : Int)]) (l.length + 1) (by simp [natI]) hih
              simp only [slopeC, slC, slF, hls, hn] at hc
              generalize outB b = O at *
              simp (maxSteps := 4000000) only [go_sem, seval]
              (repeat' (first
 | ((omega))
 | ((exfalso; omega))
 | refine awp_seqK ?_
 | refine kt ?_
 | refine And.intro ?_ ?_
 | ((first | refine awp_stp rfl ?_ | refine Imp.le2 ?_ | refine callK_of (inS_c _ _ _) ?_ | refine go_split (fun _h => ?_) (fun _h => ?_)) <;> try simp (maxSteps := 4000000) only [go_sem, seval, hn, hm0, hni, e9, e8, e7, natI_length, decide_true, decide_false])
 | intro _h
 | refine awp_block ?_
 | refine awp_scope ?_
 | refine cond_b ?_ ?_
 | (show heapOK _ _ = true; kernel_rfl)
 | (show heapOK2 _ _ = true; kernel_rfl)
 | (omega)))
              ((repeat refine awp_seqK ?_); refine awp_draws [(12, [3])] (by kernel_rfl) (by kernel_rfl) ?_; simp (maxSteps := 4000000) only [go_sem, seval, sg_cons, sg_nil, List.take_succ_cons, List.take_zero, List.drop_succ_cons, List.drop_zero])
              (repeat' (first | (exfalso; omega) | omega | exact natI_length | (refine And.intro ?_ ?_) | (intro _h)))
              simp only [ints_snoc]
              (refine own_go (hc) [3] rfl (by simp (maxSteps := 4000000) only [go_sem, seval]) (by simp (maxSteps := 4000000) only [go_sem, seval, Nat.lt_irrefl] <;> decide) rfl ?_; simp (maxSteps := 4000000) only [go_sem, seval]; refine And.intro (frm_of (by repeat (first | exact rfl | exact ⟨_, rfl⟩ | refine And.intro ?_ ?_))) ?_; try simp (maxSteps := 4000000) only [go_sem, seval, sg_cons, sg_nil, List.take_succ_cons, List.take_zero, List.drop_succ_cons, List.drop_zero])
              refine And.intro (by omega) (And.intro (by omega) ?_)
              (refine And.intro (by kernel_rfl) ?_; refine kt ?_)
              (repeat' (first
 | ((omega))
 | ((exfalso; omega))
 | refine awp_seqK ?_
 | refine kt ?_
 | refine And.intro ?_ ?_
 | ((first | refine awp_stp rfl ?_ | refine awp_draw (by kernel_rfl) (by kernel_rfl) ?_ | refine Imp.le2 ?_ | refine go_split (fun _h => ?_) (fun _h => ?_)) <;> try simp (maxSteps := 4000000) only [go_sem, seval, lnO, rcO])
 | intro _h
 | refine awp_block ?_
 | refine awp_scope ?_
 | refine cond_b ?_ ?_
 | (show heapOK _ _ = true; kernel_rfl)
 | (show heapOK2 _ _ = true; kernel_rfl)
 | (omega)))
              refine ⟨(b + 1, g + 1), by simp only; omega, by simp only; omega, .le2 ?_⟩
              simp only [eO]; simp (maxSteps := 4000000) only [go_sem, seval]
              all_goals first | rfl | exact ⟨rfl, rfl⟩ | exact ⟨lnO.symm, by omega⟩ | trace_state
          · rw [hb1]
            generalize outB m = O at *
            simp (maxSteps := 4000000) only [go_sem, seval]
            (repeat' (first
 | ((omega))
 | ((exfalso; omega))
 | refine awp_seqK ?_
 | refine kt ?_
 | refine And.intro ?_ ?_
 | ((first | refine awp_stp rfl ?_ | refine awp_draw (by kernel_rfl) (by kernel_rfl) ?_ | refine Imp.le2 ?_ | refine go_split (fun _h => ?_) (fun _h => ?_)) <;> try simp (maxSteps := 4000000) only [go_sem, seval, hn, hm0, natI_length])
 | intro _h
 | refine awp_block ?_
 | refine awp_scope ?_
 | refine cond_b ?_ ?_
 | (show heapOK _ _ = true; kernel_rfl)
 | (show heapOK2 _ _ = true; kernel_rfl)
 | (omega)))
            all_goals trace_state

    · have e0 : ((l.length : Int) > 0) = False := eq_false (by omega)
      have e1 : selfL lst f l = [] := by unfold selfL; rw [if_neg (fun h => c0 h.1)]
      rw [e1] at h0B
      (refine callS_of_awp (fun w args => Try.call47 ..) Try.func47 rfl (fun w0 m0 wz => ?_); simp only [Try.ntmps47, Try.results47, initT, junks, sl, List.toList_toArray, List.cons_append, List.nil_append, List.length_cons, List.length_nil, Nat.reduceAdd, Nat.reduceSub])
      (repeat' (first
 | ((omega))
 | ((exfalso; omega))
 | refine awp_seqK ?_
 | refine kt ?_
 | refine And.intro ?_ ?_
 | ((first | refine awp_stp rfl ?_ | refine awp_draw (by kernel_rfl) (by kernel_rfl) ?_ | refine Imp.le2 ?_ | refine go_split (fun _h => ?_) (fun _h => ?_)) <;> try simp (maxSteps := 4000000) only [go_sem, seval, hn, natI_length, e0, eK, decide_true, decide_false])
 | intro _h
 | refine awp_block ?_
 | refine awp_scope ?_
 | refine cond_b ?_ ?_
 | (show heapOK _ _ = true; kernel_rfl)
 | (show heapOK2 _ _ = true; kernel_rfl)
 | (omega)))
      (refine awp_adT 5 90 2 rfl ?_; simp only [adT, lset, hset, List.length_cons, List.length_nil, Nat.reduceAdd])
      refine awp_loopJ (fun x : Nat × Nat => x.1 ≤ m) (fun x => ⟨mkT 72 [(2, .ptr 0 0 0), (3, .ptr 1 0 0), (5, .osl 2 x.2 0 (outB x.1).length), (6, .int .i64 x.1)], [some (.cells 24 1 0 [.psl false n (colC s.cols), .int .i64 lst]), some (.cells 90 1 0 [.int .i64 f, .psl false l.length (ints (natI l))]), some (.cells 90 2 x.2 (recs sfC (outB x.1)))], []⟩) (fun x => m - x.1) (0, 0) (Nat.zero_le _) (.le2 ?_) ?_
      · simp only [h0B]; simp (maxSteps := 4000000) only [go_sem, seval]
        all_goals first | rfl | exact ⟨rfl, rfl⟩ | trace_state
      · rintro ⟨b, g⟩ hb
        simp only at hb
        rcases Nat.lt_or_eq_of_le hb with hb1 | hb1
        · have hbB := hbig b hb
          cases hnr : nearB l b with
          | false =>
            have eO : outB (b + 1) = outB b := by rw [hsB, hnr]; simp
            exfalso
            have hn2 := of_decide_eq_false hnr
            omega
          | true =>
            have eO : outB (b + 1) = outB b ++ surfF m lst f k (l ++ [b]) := by rw [hsB, hnr]; simp
            have hih := ih (l ++ [b]) (by simp; omega) (hu.snoc hb1 (by omega)) (WayL_snoc l hw hb1 hnr)
            have hRl := surfF_len (m := m) (lst := lst) (f := f) hcm.2 k (l ++ [b])
            have hP6 := pow6 (k := k) (by omega)
            rw [natI_snoc] at hih
            generalize surfF m lst f k (l ++ [b]) = R at *
            have lnO : (outB b ++ R).length = (outB b).length + R.length := List.length_append
            have rcO : recs sfC (outB b) ++ recs sfC R = recs sfC (outB b ++ R) := by simp [recs]
            have snP : ints (natI l) ++ [.int .i64 (b : Int)] = ints (natI l ++ [(b : Int)]) := by simp [ints]
            have hn2 := of_decide_eq_true hnr
            have hl0 : l.length = 0 := by omega
            have hln : l = [] := List.length_eq_zero_iff.1 hl0
            have e9 : ((l.length : Int) = 0) = True := eq_true (by omega)
            have hc := take_surf s f 0 (natI l ++ [(b : Int)]) (l.length + 1) (by simp [natI]) hih
            rw [← snP] at hc
            simp only [slopeC, slC, slF, hls, hn] at hc
            simp only [hl0, hln, natI, List.map_nil, ints, List.nil_append, List.length_nil, Nat.zero_add] at hc e9 ⊢
            generalize outB b = O at *
            simp (maxSteps := 4000000) only [go_sem, seval]
            (repeat' (first
 | ((omega))
 | ((exfalso; omega))
 | refine awp_seqK ?_
 | refine kt ?_
 | refine And.intro ?_ ?_
 | ((first | refine awp_stp rfl ?_ | refine Imp.le2 ?_ | refine callK_of (inS_c _ _ _) ?_ | refine go_split (fun _h => ?_) (fun _h => ?_)) <;> try simp (maxSteps := 4000000) only [go_sem, seval, hn, hm0, e9, natI_length, decide_true, decide_false])
 | intro _h
 | refine awp_block ?_
 | refine awp_scope ?_
 | refine cond_b ?_ ?_
 | (show heapOK _ _ = true; kernel_rfl)
 | (show heapOK2 _ _ = true; kernel_rfl)
 | (omega)))
            ((repeat refine awp_seqK ?_); refine awp_draws [(12, [4])] (by kernel_rfl) (by kernel_rfl) ?_; simp (maxSteps := 4000000) only [go_sem, seval, sg_cons, sg_nil, List.take_succ_cons, List.take_zero, List.drop_succ_cons, List.drop_zero])
            (repeat' (first | (exfalso; omega) | omega | exact natI_length | (refine And.intro ?_ ?_) | (intro _h)))
            (refine own_go (hc) [4] rfl (by simp (maxSteps := 4000000) only [go_sem, seval]) (by simp (maxSteps := 4000000) only [go_sem, seval, Nat.lt_irrefl] <;> decide) rfl ?_; simp (maxSteps := 4000000) only [go_sem, seval]; refine And.intro (frm_of (by repeat (first | exact rfl | exact ⟨_, rfl⟩ | refine And.intro ?_ ?_))) ?_; try simp (maxSteps := 4000000) only [go_sem, seval, sg_cons, sg_nil, List.take_succ_cons, List.take_zero, List.drop_succ_cons, List.drop_zero])
            refine And.intro (by omega) (And.intro (by omega) ?_)
            (refine And.intro (by kernel_rfl) ?_; refine kt ?_)
            (repeat' (first
 | ((omega))
 | ((exfalso; omega))
 | refine awp_seqK ?_
 | refine kt ?_
 | refine And.intro ?_ ?_
 | ((first | refine awp_stp rfl ?_ | refine awp_draw (by kernel_rfl) (by kernel_rfl) ?_ | refine Imp.le2 ?_ | refine go_split (fun _h => ?_) (fun _h => ?_)) <;> try simp (maxSteps := 4000000) only [go_sem, seval, lnO, rcO])
 | intro _h
 | refine awp_block ?_
 | refine awp_scope ?_
 | refine cond_b ?_ ?_
 | (show heapOK _ _ = true; kernel_rfl)
 | (show heapOK2 _ _ = true; kernel_rfl)
 | (omega)))
            refine ⟨(b + 1, g + 1), by simp only; omega, by simp only; omega, .le2 ?_⟩
            simp only [eO]; simp (maxSteps := 4000000) only [go_sem, seval]
            all_goals first | rfl | exact ⟨rfl, rfl⟩ | exact ⟨lnO.symm, by omega⟩ | trace_state
        · rw [hb1]
          generalize outB m = O at *
          simp (maxSteps := 4000000) only [go_sem, seval]
          (repeat' (first
 | ((omega))
 | ((exfalso; omega))
 | refine awp_seqK ?_
 | refine kt ?_
 | refine And.intro ?_ ?_
 | ((first | refine awp_stp rfl ?_ | refine awp_draw (by kernel_rfl) (by kernel_rfl) ?_ | refine Imp.le2 ?_ | refine go_split (fun _h => ?_) (fun _h => ?_)) <;> try simp (maxSteps := 4000000) only [go_sem, seval, hn, hm0, natI_length])
 | intro _h
 | refine awp_block ?_
 | refine awp_scope ?_
 | refine cond_b ?_ ?_
 | (show heapOK _ _ = true; kernel_rfl)
 | (show heapOK2 _ _ = true; kernel_rfl)
 | (omega)))
          all_goals trace_state
end Go.Am

/- Contracts: all surfaces of a slope; how many columns move in a truth. -/
namespace Go.Am
open Go.RowKit Go.Proofs
attribute [local irreducible] AWP CallS Kt goK CallK stepK evOps SemF SemY Imp
set_option maxRecDepth 4000
set_option linter.unusedSimpArgs false
set_option linter.unusedVariables false
set_option maxHeartbeats 3200000
def allL (m lst n : Nat) : List (Nat × List Nat) := (List.range n).flatMap fun f => surfF m lst f (n - f) []
theorem flat_snoc {α : Type} {g : Nat → List α} {k : Nat} : (List.range (k + 1)).flatMap g = (List.range k).flatMap g ++ g k := by simp [List.range_succ]
theorem allL_len {m lst n : Nat} (hm : m ≤ 5) (hn : n ≤ 12) : ∀ k, k ≤ n → ((List.range k).flatMap fun f => surfF m lst f (n - f) []).length ≤ k * 2176782336
  | 0, _ => by simp
  | k + 1, hk => by
    have ih := allL_len (lst := lst) hm hn k (by omega)
    have h1 := surfF_len (m := m) (lst := lst) (f := k) hm (n - k) []
    have h2 := pow6 (k := n - k) (by omega)
    rw [flat_snoc, List.length_append]
    omega
theorem All_c (s : Slope) (m : Nat) (h : SlopeOK s m) (lst : Nat) (hls : s.least = lst) : CallS Try.prog 26 [.agg (slopeC s)] (slF (allL m lst s.cols.length)) := by
  have hcn := h.cn
  have hcm := h.cm
  have hsu := fun (f : Nat) (hf : f < s.cols.length) => Surf_c s m h f lst hls (s.cols.length - f) [] (by simp; omega) ⟨by simp; omega, fun i hi => by simp at hi⟩ trivial
  have hsu2 : ∀ (f : Nat), f < s.cols.length → CallS Try.prog 47 [.agg (slopeC s), .agg [.int .i64 f, .nils]] (slF (surfF m lst f (s.cols.length - f) [])) := fun f hf => (hsu f hf).subD ⟨.inl ⟨by simp [avSub], by simp⟩, .inr ⟨_, _, rfl, rfl, by simp [subL, avSub, sl, natI, ints]⟩, trivial⟩
  obtain ⟨n, hn⟩ : ∃ n, s.cols.length = n := ⟨_, rfl⟩
  have hall : allL m lst n = (List.range n).flatMap fun f => surfF m lst f (n - f) [] := rfl
  simp only [slopeC, slC, slF, hn] at hsu2 hcn ⊢
  rw [hall]
  obtain ⟨out, hout⟩ : ∃ out : Nat → List (Nat × List Nat), (fun k => (List.range k).flatMap fun f => surfF m lst f (n - f) []) = out := ⟨_, rfl⟩
  have h0 : out 0 = [] := by rw [← hout]; rfl
  have hs : ∀ k, out (k + 1) = out k ++ surfF m lst k (n - k) [] := fun k => by rw [← hout]; exact flat_snoc
  have hb : ∀ k, k ≤ n → (out k).length ≤ k * 2176782336 := fun k hk => by rw [← hout]; exact allL_len hcm.2 hcn.2 k hk
  have hf : ((List.range n).flatMap fun f => surfF m lst f (n - f) []) = out n := by rw [← hout]
  rw [hf]
  clear hout hf hall
  (refine callS_of_awp (fun w args => Try.call26 ..) Try.func26 rfl (fun w0 m0 wz => ?_); simp only [Try.ntmps26, Try.results26, initT, junks, sl, List.toList_toArray, List.cons_append, List.nil_append, List.length_cons, List.length_nil, Nat.reduceAdd, Nat.reduceSub])
  (repeat' (first
 | refine awp_seqK ?_
 | refine kt ?_
 | refine And.intro ?_ ?_
 | ((first | refine awp_stp rfl ?_ | refine awp_draw (by kernel_rfl) (by kernel_rfl) ?_ | refine Imp.le2 ?_ | refine go_split (fun _h => ?_) (fun _h => ?_)) <;> try simp (maxSteps := 4000000) only [go_sem, seval])
 | intro _h
 | refine awp_block ?_
 | refine awp_scope ?_
 | refine cond_b ?_ ?_
 | (show heapOK _ _ = true; kernel_rfl)
 | (show heapOK2 _ _ = true; kernel_rfl)
 | (omega)))
  (refine awp_adT 3 90 2 rfl ?_; simp only [adT, lset, hset, List.length_cons, List.length_nil, Nat.reduceAdd])
  refine awp_loopN n (fun k => ⟨mkT 19 [(1, .ptr 0 0 0), (3, .osl 1 k 0 (out k).length), (4, .int .i64 k)], [some (.cells 24 1 0 [.psl false n (colC s.cols), .int .i64 s.least]), some (.cells 90 2 k (recs sfC (out k)))], []⟩) (.le2 ?_) ?_
  · rw [h0]; simp (maxSteps := 4000000) only [go_sem, seval]
    all_goals first | rfl | exact ⟨rfl, rfl⟩ | trace_state
  · intro k hk
    rcases Nat.lt_or_eq_of_le hk with hk1 | hk1
    · have h1 := hb k hk
      have h2 := surfF_len (m := m) (lst := lst) (f := k) hcm.2 (n - k) []
      have h3 := pow6 (k := n - k) (by omega)
      have hc := hsu2 k hk1
      rw [hs]
      generalize surfF m lst k (n - k) [] = R at *
      generalize out k = O at *
      have lnO : (O ++ R).length = O.length + R.length := List.length_append
      have rcO : recs sfC O ++ recs sfC R = recs sfC (O ++ R) := by simp [recs]
      simp (maxSteps := 4000000) only [go_sem, seval]
      (repeat' (first
 | ((omega))
 | ((exfalso; omega))
 | refine awp_seqK ?_
 | refine kt ?_
 | refine And.intro ?_ ?_
 | ((first | refine awp_stp rfl ?_ | refine awp_draw (by kernel_rfl) (by kernel_rfl) ?_ | refine Imp.le2 ?_ | refine callK_of (hc) ?_ | refine go_split (fun _h => ?_) (fun _h => ?_)) <;> try simp (maxSteps := 4000000) only [go_sem, seval, hn, lnO, rcO])
 | intro _h
 | refine awp_block ?_
 | refine awp_scope ?_
 | refine cond_b ?_ ?_
 | (show heapOK _ _ = true; kernel_rfl)
 | (show heapOK2 _ _ = true; kernel_rfl)
 | (omega)))
      all_goals first | rfl | exact ⟨rfl, rfl⟩ | trace_state
    · subst hk1
      generalize out k = O at *
      simp (maxSteps := 4000000) only [go_sem, seval]
      (repeat' (first
 | ((omega))
 | ((exfalso; omega))
 | refine awp_seqK ?_
 | refine kt ?_
 | refine And.intro ?_ ?_
 | ((first | refine awp_stp rfl ?_ | refine awp_draw (by kernel_rfl) (by kernel_rfl) ?_ | refine Imp.le2 ?_ | refine go_split (fun _h => ?_) (fun _h => ?_)) <;> try simp (maxSteps := 4000000) only [go_sem, seval, hn])
 | intro _h
 | refine awp_block ?_
 | refine awp_scope ?_
 | refine cond_b ?_ ?_
 | (show heapOK _ _ = true; kernel_rfl)
 | (show heapOK2 _ _ = true; kernel_rfl)
 | (omega)))
      all_goals trace_state
/-- Surfaces below a factor, in the truth in which all beds hold least. -/
def lowB (s : Slope) (fa : Int) (u : Nat × List Nat) : Bool := decide (0 ≤ facV s u.1 u.2 (endsV s u.1 u.2) ∧ facV s u.1 u.2 (endsV s u.1 u.2) < fa)
def mvB (s : Slope) (fa : Int) (L : List (Nat × List Nat)) (k : Nat) : Bool := L.any fun u => lowB s fa u && decide (u.1 ≤ k ∧ k < u.1 + u.2.length)
def cntV (s : Slope) (fa : Int) (m lst n : Nat) : Nat := ((List.range n).filter (mvB s fa (allL m lst n))).length
/-- Surfaces that lie in a slope. -/
theorem surfF_in {s : Slope} {m lst f : Nat} : ∀ (k : Nat) (l : List Nat), f + l.length + k = s.cols.length → SurfIn s m f l → WayL m l → ∀ u ∈ surfF m lst f k l, u.1 = f ∧ SurfIn s m f u.2 ∧ WayL m u.2 ∧ 0 < u.2.length ∧ lst ≤ u.2.length := by
  have hself : ∀ l, SurfIn s m f l → WayL m l → ∀ u ∈ selfL lst f l, u.1 = f ∧ SurfIn s m f u.2 ∧ WayL m u.2 ∧ 0 < u.2.length ∧ lst ≤ u.2.length := fun l h1 h2 u hu => by
    unfold selfL at hu
    split at hu
    · rename_i h3
      simp at hu; subst hu; exact ⟨rfl, h1, h2, h3.1, h3.2⟩
    · simp at hu
  intro k
  induction k with
  | zero => intro l _ h1 h2 u hu; exact hself l h1 h2 u hu
  | succ k ih =>
    intro l hk h1 h2 u hu
    simp only [surfF] at hu
    rcases List.mem_append.1 hu with hu | hu
    · exact hself l h1 h2 u hu
    · obtain ⟨b, hb, hu⟩ := List.mem_flatMap.1 hu
      have hb := List.mem_range.1 hb
      split at hu
      · rename_i hn
        exact ih (l ++ [b]) (by simp; omega) (h1.snoc hb (by omega)) (WayL_snoc l h2 hb hn) u hu
      · simp at hu
theorem allL_in {s : Slope} {m lst : Nat} : ∀ u ∈ allL m lst s.cols.length, SurfIn s m u.1 u.2 ∧ WayL m u.2 ∧ 0 < u.2.length ∧ lst ≤ u.2.length := fun u hu => by
  obtain ⟨f, hf, hu⟩ := List.mem_flatMap.1 hu
  have hf := List.mem_range.1 hf
  obtain ⟨h1, h2, h3⟩ := surfF_in (s := s) (s.cols.length - f) [] (by simp; omega) ⟨by simp; omega, fun i hi => by simp at hi⟩ trivial u hu
  rw [h1]; exact ⟨h2, h3⟩
theorem endsV_in {s : Slope} {m f : Nat} {l : List Nat} (h : SlopeOK s m) (hu : SurfIn s m f l) : ∀ i, i < l.length → InR (bedI s f l i) ((endsV s f l).getD i default) := fun i hi => by
  unfold endsV
  rw [tab_getD hi]
  exact truthL.ok _ (h.bed (by have := hu.to; omega) (hu.bed i hi))
theorem facV_bd {s : Slope} {m f : Nat} {l : List Nat} {x : List Reals} (h : SlopeOK s m) (hu : SurfIn s m f l) (hx : ∀ i, i < l.length → InR (bedI s f l i) (x.getD i default)) : -1 ≤ facV s f l x ∧ facV s f l x ≤ 10000 := by
  have s1 := sumH_bd h hu hx l.length (Nat.le_refl _)
  unfold facV
  split
  · omega
  · have hq : 0 ≤ (1000 * sumH s f l x l.length).tdiv (sumD s f l l.length) := (tdiv_bd (by omega) (by omega)).1
    omega
theorem moving_c (s : Slope) (m : Nat) (fa : Int) (h : SlopeOK s m) (lst : Nat) (hls : s.least = lst) (hf : 0 ≤ fa ∧ fa ≤ 10000) : CallS Try.prog 11 [.agg (slopeC s), .int .i64 fa] (.int .i64 (cntV s fa m lst s.cols.length)) := by
  have hcn := h.cn
  have hcm := h.cm
  have hA := All_c s m h lst hls
  have hin := allL_in (s := s) (m := m) (lst := lst)
  have hen := EndsR_c s m h
  have hfa := Factor_c s m h
  have hlen : (allL m lst s.cols.length).length ≤ 12 * 2176782336 := by
    have := allL_len (m := m) (lst := lst) hcm.2 hcn.2 s.cols.length (Nat.le_refl _)
    have h2 : s.cols.length * 2176782336 ≤ 12 * 2176782336 := Nat.mul_le_mul_right _ hcn.2
    exact Nat.le_trans this h2
  unfold cntV
  obtain ⟨n, hn⟩ : ∃ n, s.cols.length = n := ⟨_, rfl⟩
  simp only [hn] at hA hin hlen hcn ⊢
  generalize allL m lst n = L at *
  have hto : ∀ u ∈ L, u.1 + u.2.length ≤ n := fun u hu => by have := (hin u hu).1.to; omega
  simp only [slopeC, slC, slF, slRe, sl, natI_length, hn] at hA hen hfa ⊢
  (refine callS_of_awp (fun w args => Try.call11 ..) Try.func11 rfl (fun w0 m0 wz => ?_); simp only [Try.ntmps11, Try.results11, initT, junks, sl, List.toList_toArray, List.cons_append, List.nil_append, List.length_cons, List.length_nil, Nat.reduceAdd, Nat.reduceSub])
  (repeat' (first
 | ((show zeroOK _ = true; rfl))
 | ((omega))
 | refine awp_seqK ?_
 | refine kt ?_
 | refine And.intro ?_ ?_
 | ((first | refine awp_stp rfl ?_ | refine awp_draw (by kernel_rfl) (by kernel_rfl) ?_ | refine Imp.le2 ?_ | refine callK_of (hA) ?_ | refine go_split (fun _h => ?_) (fun _h => ?_)) <;> try simp (maxSteps := 4000000) only [go_sem, seval, ↓rep_bools, hn])
 | intro _h
 | refine awp_block ?_
 | refine awp_scope ?_
 | refine cond_b ?_ ?_
 | (show heapOK _ _ = true; kernel_rfl)
 | (show heapOK2 _ _ = true; kernel_rfl)
 | (omega)))
  refine awp_loopN L.length (fun i => ⟨mkT 68 [(1, .int .i64 fa), (2, .ptr 0 0 0), (5, .osl 1 0 0 n), (6, .psl false L.length (recs sfC L)), (7, .int .i64 i)], [some (.cells 24 1 0 [.psl false n (colC s.cols), .int .i64 s.least]), some (.cells 4 1 0 (bools (tab n (mvB s fa (L.take i)))))], []⟩) (.le2 ?_) ?_
  · have e0 : mvB s fa (L.take 0) = fun _ => false := rfl
    rw [e0]; simp (maxSteps := 4000000) only [go_sem, seval]
    all_goals first | rfl | exact ⟨rfl, rfl⟩ | trace_state
  · intro i hi
    rcases Nat.lt_or_eq_of_le hi with hi1 | hi1
    · have hum := getD_in (d := default) hi1
      have hst : mvB s fa (L.take (i + 1)) = fun k => mvB s fa (L.take i) k || (lowB s fa (L.getD i default) && decide ((L.getD i default).1 ≤ k ∧ k < (L.getD i default).1 + (L.getD i default).2.length)) := by
        funext k
        unfold mvB
        rw [take_snoc (d := default) hi1, List.any_append]
        simp
      generalize mvB s fa (L.take i) = g at *
      obtain ⟨⟨f, l⟩, hu⟩ : ∃ u, L.getD i default = u := ⟨_, rfl⟩
      rw [hu] at hum hst
      have hui := (hin _ hum).1
      have hto1 := hto _ hum
      simp only at hst hui hto1
      have hc1 := hen f l hui
      have hc2 := hfa f l hui (endsV s f l) (by unfold endsV; rw [tab_length]) (endsV_in h hui)
      have hfb := facV_bd h hui (endsV_in h hui)
      have hlw : lowB s fa (f, l) = decide (0 ≤ facV s f l (endsV s f l) ∧ facV s f l (endsV s f l) < fa) := rfl
      rw [hlw] at hst
      have hel : (endsV s f l).length = l.length := by unfold endsV; rw [tab_length]
      rw [hel] at hc1 hc2
      generalize facV s f l (endsV s f l) = fv at *
      generalize endsV s f l = ev at *
      by_cases c : 0 ≤ fv ∧ fv < fa
      · rw [decide_eq_true c] at hst
        simp only [Bool.true_and] at hst
        have e1 : (fv < 0) = False := eq_false (by omega)
        have e2 : (fv ≥ fa) = False := eq_false (by omega)
        simp (maxSteps := 4000000) only [go_sem, seval]
        (repeat' (first
 | ((omega))
 | ((exfalso; omega))
 | refine awp_seqK ?_
 | refine kt ?_
 | refine And.intro ?_ ?_
 | ((first | refine awp_stp rfl ?_ | refine awp_draw (by kernel_rfl) (by kernel_rfl) ?_ | refine Imp.le2 ?_ | refine callK_of (hc1) ?_ | refine callK_of (hc2) ?_ | refine go_split (fun _h => ?_) (fun _h => ?_)) <;> try simp (maxSteps := 4000000) only [go_sem, seval, hn, hu, sfC, e1, e2, decide_true, decide_false])
 | intro _h
 | refine awp_block ?_
 | refine awp_scope ?_
 | refine cond_b ?_ ?_
 | (show heapOK _ _ = true; kernel_rfl)
 | (show heapOK2 _ _ = true; kernel_rfl)
 | (omega)))
        refine awp_loopN l.length (fun k => ⟨mkT 68 [(1, .int .i64 fa), (2, .ptr 0 0 0), (5, .osl 1 0 0 n), (6, .psl false L.length (recs sfC L)), (7, .int .i64 i), (8, .ptr 2 0 0), (10, .int .i64 k)], [some (.cells 24 1 0 [.psl false n (colC s.cols), .int .i64 s.least]), some (.cells 4 1 0 (bools (tab n fun x => g x || decide (f ≤ x ∧ x < f + k)))), some (.cells 90 1 0 [.int .i64 f, .psl false l.length (ints (natI l))])], []⟩) (.le2 ?_) ?_
        · have e3 : (fun x => g x || decide (f ≤ x ∧ x < f + 0)) = g := by
            funext x
            rw [decide_eq_false (by omega), Bool.or_false]
          rw [e3]; simp (maxSteps := 4000000) only [go_sem, seval]
          all_goals first | rfl | exact ⟨rfl, rfl⟩ | trace_state
        · intro k hk
          rcases Nat.lt_or_eq_of_le hk with hk1 | hk1
          · have e3 : isp (tab n fun x => g x || decide (f ≤ x ∧ x < f + k)) (f + k) true = tab n fun x => g x || decide (f ≤ x ∧ x < f + (k + 1)) := by
              rw [isp_tab (by omega)]
              refine tab_congr fun x _ => ?_
              by_cases e : x = f + k
              · subst e; rw [if_pos rfl, decide_eq_true (show f ≤ f + k ∧ f + k < f + (k + 1) by omega), Bool.or_true]
              · rw [if_neg e]
                congr 1
                rw [decide_eq_decide]; omega
            have e4 : ((f : Int) + (k : Int)) = ((f + k : Nat) : Int) := by omega
            simp (maxSteps := 4000000) only [go_sem, seval]
            (repeat' (first
 | ((omega))
 | ((exfalso; omega))
 | refine awp_seqK ?_
 | refine kt ?_
 | refine And.intro ?_ ?_
 | ((first | refine awp_stp rfl ?_ | refine awp_draw (by kernel_rfl) (by kernel_rfl) ?_ | refine Imp.le2 ?_ | refine go_split (fun _h => ?_) (fun _h => ?_)) <;> try simp (maxSteps := 4000000) only [go_sem, seval, e3, e4])
 | intro _h
 | refine awp_block ?_
 | refine awp_scope ?_
 | refine cond_b ?_ ?_
 | (show heapOK _ _ = true; kernel_rfl)
 | (show heapOK2 _ _ = true; kernel_rfl)
 | (omega)))
            all_goals first | rfl | exact ⟨rfl, rfl⟩ | trace_state
          · subst hk1
            rw [← hst]
            simp (maxSteps := 4000000) only [go_sem, seval]
            (repeat' (first
 | ((omega))
 | ((exfalso; omega))
 | refine awp_seqK ?_
 | refine kt ?_
 | refine And.intro ?_ ?_
 | ((first | refine awp_stp rfl ?_ | refine awp_draw (by kernel_rfl) (by kernel_rfl) ?_ | refine Imp.le2 ?_ | refine go_split (fun _h => ?_) (fun _h => ?_)) <;> try simp (maxSteps := 4000000) only [go_sem, seval])
 | intro _h
 | refine awp_block ?_
 | refine awp_scope ?_
 | refine cond_b ?_ ?_
 | (show heapOK _ _ = true; kernel_rfl)
 | (show heapOK2 _ _ = true; kernel_rfl)
 | (omega)))
            all_goals first | rfl | exact ⟨rfl, rfl⟩ | trace_state
      · rw [decide_eq_false c] at hst
        simp only [Bool.false_and, Bool.or_false] at hst
        rw [hst]
        by_cases c1 : fv < 0
        · have e1 : (fv < 0) = True := eq_true c1
          simp (maxSteps := 4000000) only [go_sem, seval]
          (repeat' (first
 | ((omega))
 | ((exfalso; omega))
 | refine awp_seqK ?_
 | refine kt ?_
 | refine And.intro ?_ ?_
 | ((first | refine awp_stp rfl ?_ | refine awp_draw (by kernel_rfl) (by kernel_rfl) ?_ | refine Imp.le2 ?_ | refine callK_of (hc1) ?_ | refine callK_of (hc2) ?_ | refine go_split (fun _h => ?_) (fun _h => ?_)) <;> try simp (maxSteps := 4000000) only [go_sem, seval, hn, hu, sfC, e1, decide_true, decide_false])
 | intro _h
 | refine awp_block ?_
 | refine awp_scope ?_
 | refine cond_b ?_ ?_
 | (show heapOK _ _ = true; kernel_rfl)
 | (show heapOK2 _ _ = true; kernel_rfl)
 | (omega)))
          all_goals first | rfl | exact ⟨rfl, rfl⟩ | trace_state
        · have e1 : (fv < 0) = False := eq_false c1
          have e2 : (fv ≥ fa) = True := eq_true (by omega)
          simp (maxSteps := 4000000) only [go_sem, seval]
          (repeat' (first
 | ((omega))
 | ((exfalso; omega))
 | refine awp_seqK ?_
 | refine kt ?_
 | refine And.intro ?_ ?_
 | ((first | refine awp_stp rfl ?_ | refine awp_draw (by kernel_rfl) (by kernel_rfl) ?_ | refine Imp.le2 ?_ | refine callK_of (hc1) ?_ | refine callK_of (hc2) ?_ | refine go_split (fun _h => ?_) (fun _h => ?_)) <;> try simp (maxSteps := 4000000) only [go_sem, seval, hn, hu, sfC, e1, e2, decide_true, decide_false])
 | intro _h
 | refine awp_block ?_
 | refine awp_scope ?_
 | refine cond_b ?_ ?_
 | (show heapOK _ _ = true; kernel_rfl)
 | (show heapOK2 _ _ = true; kernel_rfl)
 | (omega)))
          all_goals first | rfl | exact ⟨rfl, rfl⟩ | trace_state
    · subst hi1
      rw [List.take_length]
      generalize mvB s fa L = g at *
      simp (maxSteps := 4000000) only [go_sem, seval]
      (repeat' (first
 | ((omega))
 | ((exfalso; omega))
 | refine awp_seqK ?_
 | refine kt ?_
 | refine And.intro ?_ ?_
 | ((first | refine awp_stp rfl ?_ | refine awp_draw (by kernel_rfl) (by kernel_rfl) ?_ | refine Imp.le2 ?_ | refine go_split (fun _h => ?_) (fun _h => ?_)) <;> try simp (maxSteps := 4000000) only [go_sem, seval])
 | intro _h
 | refine awp_block ?_
 | refine awp_scope ?_
 | refine cond_b ?_ ?_
 | (show heapOK _ _ = true; kernel_rfl)
 | (show heapOK2 _ _ = true; kernel_rfl)
 | (omega)))
      refine awp_loopN n (fun k => ⟨mkT 68 [(5, .osl 1 0 0 n), (11, .int .i64 ((List.range k).filter g).length), (12, .int .i64 k)], [none, some (.cells 4 1 0 (bools (tab n g)))], []⟩) (.le2 ?_) ?_
      · simp (maxSteps := 4000000) only [go_sem, seval]
        all_goals first | rfl | exact ⟨rfl, rfl⟩ | trace_state
      · intro k hk
        have hle : ((List.range k).filter g).length ≤ k := by have := List.length_filter_le g (List.range k); simpa using this
        rcases Nat.lt_or_eq_of_le hk with hk1 | hk1
        · have hgd : (tab n g).getD k false = g k := tab_getD hk1
          cases hg : g k with
          | true =>
            have e1 : ((List.range (k + 1)).filter g).length = ((List.range k).filter g).length + 1 := by rw [List.range_succ, List.filter_append]; simp [hg]
            rw [hg] at hgd
            rw [e1]
            generalize ((List.range k).filter g).length = c at *
            simp (maxSteps := 4000000) only [go_sem, seval]
            (repeat' (first
 | ((omega))
 | ((exfalso; omega))
 | refine awp_seqK ?_
 | refine kt ?_
 | refine And.intro ?_ ?_
 | ((first | refine awp_stp rfl ?_ | refine awp_draw (by kernel_rfl) (by kernel_rfl) ?_ | refine Imp.le2 ?_ | refine go_split (fun _h => ?_) (fun _h => ?_)) <;> try simp (maxSteps := 4000000) only [go_sem, seval, hgd])
 | intro _h
 | refine awp_block ?_
 | refine awp_scope ?_
 | refine cond_b ?_ ?_
 | (show heapOK _ _ = true; kernel_rfl)
 | (show heapOK2 _ _ = true; kernel_rfl)
 | (omega)))
            all_goals first | rfl | exact ⟨rfl, rfl⟩ | trace_state
          | false =>
            have e1 : ((List.range (k + 1)).filter g).length = ((List.range k).filter g).length := by rw [List.range_succ, List.filter_append]; simp [hg]
            rw [hg] at hgd
            rw [e1]
            generalize ((List.range k).filter g).length = c at *
            simp (maxSteps := 4000000) only [go_sem, seval]
            (repeat' (first
 | ((omega))
 | ((exfalso; omega))
 | refine awp_seqK ?_
 | refine kt ?_
 | refine And.intro ?_ ?_
 | ((first | refine awp_stp rfl ?_ | refine awp_draw (by kernel_rfl) (by kernel_rfl) ?_ | refine Imp.le2 ?_ | refine go_split (fun _h => ?_) (fun _h => ?_)) <;> try simp (maxSteps := 4000000) only [go_sem, seval, hgd])
 | intro _h
 | refine awp_block ?_
 | refine awp_scope ?_
 | refine cond_b ?_ ?_
 | (show heapOK _ _ = true; kernel_rfl)
 | (show heapOK2 _ _ = true; kernel_rfl)
 | (omega)))
            all_goals first | rfl | exact ⟨rfl, rfl⟩ | trace_state
        · subst hk1
          generalize ((List.range k).filter g).length = c at *
          simp (maxSteps := 4000000) only [go_sem, seval]
          (repeat' (first
 | ((omega))
 | ((exfalso; omega))
 | refine awp_seqK ?_
 | refine kt ?_
 | refine And.intro ?_ ?_
 | ((first | refine awp_stp rfl ?_ | refine awp_draw (by kernel_rfl) (by kernel_rfl) ?_ | refine Imp.le2 ?_ | refine go_split (fun _h => ?_) (fun _h => ?_)) <;> try simp (maxSteps := 4000000) only [go_sem, seval])
 | intro _h
 | refine awp_block ?_
 | refine awp_scope ?_
 | refine cond_b ?_ ?_
 | (show heapOK _ _ = true; kernel_rfl)
 | (show heapOK2 _ _ = true; kernel_rfl)
 | (omega)))
          all_goals first | rfl | exact ⟨rfl, rfl⟩ | trace_state
end Go.Am

/- Plain: the columns that surely move, that move in a truth, and that may move. -/
namespace Go.Am
open Go.RowKit Go.Proofs
attribute [local irreducible] AWP CallS Kt goK CallK stepK evOps SemF SemY Imp
set_option maxRecDepth 4000
set_option linter.unusedSimpArgs false
set_option linter.unusedVariables false
set_option maxHeartbeats 3200000
theorem way_near {m b : Nat} {t : List Nat} : ∀ (l : List Nat), WayL m (l ++ b :: t) → b < m ∧ nearB l b = true
  | [], h => ⟨h.hd, by simp [nearB]⟩
  | [a], h => by
    refine ⟨h.2.2.hd, ?_⟩
    have := h.2.1
    unfold nearB
    refine decide_eq_true (.inr ?_)
    simpa using this
  | a :: a' :: l, h => by
    obtain ⟨h1, h2⟩ := way_near (a' :: l) h.2.2
    refine ⟨h1, ?_⟩
    have := of_decide_eq_true h2
    unfold nearB
    refine decide_eq_true (.inr ?_)
    rcases this with h3 | h3
    · simp at h3
    · simpa using h3
theorem surfF_mem {m lst f : Nat} : ∀ (t l : List Nat) (k : Nat), t.length ≤ k → WayL m (l ++ t) → 0 < (l ++ t).length → lst ≤ (l ++ t).length → (f, l ++ t) ∈ surfF m lst f k l
  | [], l, k, _, hw, h0, h1 => by
    rw [List.append_nil] at h0 h1 ⊢
    have hs : (f, l) ∈ selfL lst f l := by unfold selfL; rw [if_pos ⟨h0, h1⟩]; simp
    cases k with
    | zero => exact hs
    | succ k => simp only [surfF]; exact List.mem_append.2 (.inl hs)
  | b :: t, l, 0, hk, _, _, _ => by simp at hk
  | b :: t, l, k + 1, hk, hw, h0, h1 => by
    obtain ⟨h2, h3⟩ := way_near l hw
    have e : l ++ b :: t = (l ++ [b]) ++ t := by simp
    have ih := surfF_mem (m := m) (lst := lst) (f := f) t (l ++ [b]) k (by simpa using hk) (e ▸ hw) (e ▸ h0) (e ▸ h1)
    rw [e]
    simp only [surfF]
    refine List.mem_append.2 (.inr (List.mem_flatMap.2 ⟨b, List.mem_range.2 h2, ?_⟩))
    rw [if_pos h3]; exact ih
theorem allL_mem {m lst n f : Nat} {l : List Nat} (hw : WayL m l) (h0 : 0 < l.length) (h1 : lst ≤ l.length) (hn : f + l.length ≤ n) : (f, l) ∈ allL m lst n := by
  refine List.mem_flatMap.2 ⟨f, List.mem_range.2 (by omega), ?_⟩
  have := surfF_mem (m := m) (lst := lst) (f := f) l [] (n - f) (by omega) hw h0 h1
  simpa using this
theorem way_bed {m : Nat} : ∀ (l : List Nat), WayL m l → ∀ i, i < l.length → l.getD i 0 < m
  | [], _, i, hi => by simp at hi
  | [a], h, i, hi => by
    have : i = 0 := by simp at hi; omega
    subst this; exact h
  | a :: b :: l, h, i, hi => by
    cases i with
    | zero => exact h.1
    | succ i => exact way_bed (b :: l) h.2.2 i (by simpa using hi)
theorem holdV_mono {b b' : Bed} {x y : Reals} (hn : b'.normal = b.normal) (h0 : 0 ≤ x.fr) (h1 : x.fr ≤ y.fr) (h2 : x.co ≤ y.co) (h3 : y.wa ≤ x.wa) : holdV b' x ≤ holdV b y := by
  unfold holdV
  rw [hn]
  have a1 : max 0 (b.normal - x.wa) * x.fr ≤ max 0 (b.normal - y.wa) * y.fr := Int.mul_le_mul (by omega) h1 h0 (by omega)
  have a2 : 0 ≤ max 0 (b.normal - x.wa) * x.fr := Int.mul_nonneg (by omega) h0
  rw [Int.tdiv_eq_ediv_of_nonneg a2, Int.tdiv_eq_ediv_of_nonneg (Int.le_trans a2 a1)]
  have := Int.ediv_le_ediv (show (0 : Int) < 1000 by omega) a1
  omega
/-- A slope with one truth of all its beds. -/
structure SureOf (s t : Slope) (m : Nat) : Prop where
  n : t.cols.length = s.cols.length
  lst : t.least = s.least
  ok : SlopeOK t m
  bed : ∀ i j, i < s.cols.length → j < m → (bedAt t i j).drive = (bedAt s i j).drive ∧ (bedAt t i j).normal = (bedAt s i j).normal ∧ InR (bedAt s i j) (leastV (bedAt t i j))
theorem sumP_eq {s : Slope} {m : Nat} {fa : Int} {tv : Bed → Reals} : ∀ (l : List Nat) (f : Nat), sumP (costV s fa tv) f l = 1000 * sumP (fun c b => holdV (bedAt s c b) (tv (bedAt s c b))) f l - fa * sumP (fun c b => (bedAt s c b).drive) f l
  | [], f => by simp [sumP]
  | b :: l, f => by
    simp only [sumP]
    rw [sumP_eq (m := m) l (f + 1)]
    unfold costV
    rw [Int.mul_add, Int.mul_add]
    omega
theorem sumP_snoc {c : Nat → Nat → Int} {b : Nat} : ∀ (l : List Nat) (f : Nat), sumP c f (l ++ [b]) = sumP c f l + c (f + l.length) b
  | [], f => by simp [sumP]
  | a :: l, f => by
    simp only [List.cons_append, sumP, List.length_cons]
    rw [sumP_snoc l (f + 1), show f + 1 + l.length = f + (l.length + 1) by omega]
    omega
theorem sumH_P {s : Slope} {f : Nat} {l : List Nat} {x : List Reals} {g : Nat → Nat → Int} (hx : ∀ i, i < l.length → holdV (bedI s f l i) (x.getD i default) = g (f + i) (l.getD i 0)) : ∀ k, k ≤ l.length → sumH s f l x k = sumP g f (l.take k)
  | 0, _ => by simp [sumH, sumP]
  | k + 1, hk => by
    have ih := sumH_P hx k (by omega)
    have hl : (l.take k).length = k := by simp; omega
    rw [take_snoc (d := 0) (by omega), sumP_snoc, hl]
    simp only [sumH]
    rw [ih, hx k (by omega)]
theorem sumD_P {s : Slope} {f : Nat} {l : List Nat} : ∀ k, k ≤ l.length → sumD s f l k = sumP (fun c b => (bedAt s c b).drive) f (l.take k)
  | 0, _ => by simp [sumD, sumP]
  | k + 1, hk => by
    have ih := sumD_P (s := s) (f := f) k (show k ≤ l.length by omega)
    have hl : (l.take k).length = k := by simp; omega
    rw [take_snoc (d := 0) (by omega), sumP_snoc, hl]
    simp only [sumD]
    rw [ih]; rfl
theorem sumP_le {c d : Nat → Nat → Int} {n m : Nat} (h : ∀ i j, i < n → j < m → c i j ≤ d i j) : ∀ (l : List Nat) (f : Nat), f + l.length ≤ n → (∀ i, i < l.length → l.getD i 0 < m) → sumP c f l ≤ sumP d f l
  | [], f, _, _ => by simp [sumP]
  | b :: l, f, hf, hl => by
    have ih := sumP_le h l (f + 1) (by simp at hf; omega) (fun i hi => hl (i + 1) (by simpa using hi))
    have h0 := h f b (by simp at hf; omega) (hl 0 (by simp))
    simp only [sumP]; omega
theorem sumP_congr {c d : Nat → Nat → Int} {n m : Nat} (h : ∀ i j, i < n → j < m → c i j = d i j) : ∀ (l : List Nat) (f : Nat), f + l.length ≤ n → (∀ i, i < l.length → l.getD i 0 < m) → sumP c f l = sumP d f l
  | [], f, _, _ => by simp [sumP]
  | b :: l, f, hf, hl => by
    have ih := sumP_congr h l (f + 1) (by simp at hf; omega) (fun i hi => hl (i + 1) (by simpa using hi))
    have h0 := h f b (by simp at hf; omega) (hl 0 (by simp))
    simp only [sumP]; omega
/-- The factor of a surface in the truth: below a number just if it costs less than nothing. -/
theorem fac_low {s t : Slope} {m f : Nat} {l : List Nat} {fa : Int} (hT : SureOf s t m) (hu : SurfIn t m f l) (hf : 0 ≤ fa ∧ fa ≤ 10000) :
    lowB t fa (f, l) = true ↔ 1000 * sumP (fun c b => holdV (bedAt t c b) (leastV (bedAt t c b))) f l < fa * sumP (fun c b => (bedAt s c b).drive) f l := by
  have hbe : ∀ i, i < l.length → holdV (bedI t f l i) ((endsV t f l).getD i default) = (fun c b => holdV (bedAt t c b) (leastV (bedAt t c b))) (f + i) (l.getD i 0) := fun i hi => by
    unfold endsV; rw [tab_getD hi]; rfl
  have h1 := sumH_P (g := fun c b => holdV (bedAt t c b) (leastV (bedAt t c b))) hbe l.length (Nat.le_refl _)
  have h2 := sumD_P (s := t) (f := f) l.length (Nat.le_refl _)
  rw [List.take_length] at h1 h2
  have hn := hT.n
  have h3 : sumP (fun c b => (bedAt t c b).drive) f l = sumP (fun c b => (bedAt s c b).drive) f l := sumP_congr (n := s.cols.length) (m := m) (fun i j hi hj => (hT.bed i j hi hj).1) l f (by have := hu.to; omega) hu.bed
  have hp : 0 ≤ sumH t f l (endsV t f l) l.length := (sumH_bd hT.ok hu (endsV_in hT.ok hu) l.length (Nat.le_refl _)).1
  unfold lowB facV
  rw [decide_eq_true_iff]
  simp only
  rw [h1] at hp
  rw [h1, h2, h3]
  generalize sumP (fun c b => holdV (bedAt t c b) (leastV (bedAt t c b))) f l = A at *
  generalize sumP (fun c b => (bedAt s c b).drive) f l = D at *
  by_cases c : D < 1
  · rw [if_pos c]
    constructor
    · intro h; omega
    · intro h
      have : fa * D ≤ 0 := by
        have := Int.mul_le_mul_of_nonneg_left (show D ≤ 0 by omega) hf.1
        simpa using this
      omega
  · rw [if_neg c]
    have hq : (1000 * A).tdiv D = (1000 * A) / D := Int.tdiv_eq_ediv_of_nonneg (by omega)
    rw [hq]
    have hq0 : 0 ≤ (1000 * A) / D := Int.ediv_nonneg (by omega) (by omega)
    have hlt : (1000 * A) / D < fa ↔ 1000 * A < fa * D := Int.ediv_lt_iff_lt_mul (by omega)
    constructor
    · intro h; exact hlt.1 (by omega)
    · intro h; have := hlt.2 h; omega
theorem filter_le {p q : Nat → Bool} : ∀ (l : List Nat), (∀ k ∈ l, p k = true → q k = true) → (l.filter p).length ≤ (l.filter q).length
  | [], _ => by simp
  | a :: l, h => by
    have ih := filter_le l (fun k hk => h k (by simp [hk]))
    have h0 := h a (by simp)
    simp only [List.filter_cons]
    cases hp : p a <;> cases hq : q a <;> simp_all <;> omega
theorem mov_low {s t : Slope} {m lst : Nat} {fa : Int} (hS : SlopeOK s m) (hT : SureOf s t m) (hf : 0 ≤ fa ∧ fa ≤ 10000) (hl : s.least = lst) : (movL (costV s fa mostV) m lst s.cols.length).length ≤ cntV t fa m lst t.cols.length := by
  unfold movL cntV
  rw [hT.n]
  have hls := hS.lst
  have hcn := hS.cn
  have hcst : CstOK (costV s fa mostV) s.cols.length m := fun c b hc hb => (costV_bd hS truthM hf hc hb).2
  refine filter_le _ fun k hk h => ?_
  have hk := List.mem_range.1 hk
  obtain ⟨i, z, h1, h2, h3, h4⟩ := (accF_iff _).1 h
  unfold hitB at h4
  rw [Bool.and_eq_true] at h4
  have h5 := of_decide_eq_true h4.1
  have h6 := of_decide_eq_true h4.2
  obtain ⟨l, l1, l2, l3⟩ := cheap_att hcst hcn.2 (by omega) h3 h5
  rw [sumP_eq (m := m)] at l3
  have hbe := way_bed l l2
  have hle := sumP_le (c := fun c b => holdV (bedAt t c b) (leastV (bedAt t c b))) (d := fun c b => holdV (bedAt s c b) (mostV (bedAt s c b))) (n := s.cols.length) (m := m) (fun i j hi hj => by
    obtain ⟨d1, d2, d3⟩ := hT.bed i j hi hj
    have hb := of_decide_eq_true (hS.bed hi hj)
    unfold InR at d3
    exact holdV_mono d2 (by unfold bedAt at d3 ⊢; omega) d3.1.2 d3.2.1.2 d3.2.2.1) l i (by omega) hbe
  have hu : SurfIn t m i l := ⟨by rw [hT.n]; omega, hbe⟩
  have hlow : lowB t fa (i, l) = true := (fac_low hT hu hf).2 (by omega)
  unfold mvB
  rw [List.any_eq_true]
  refine ⟨(i, l), allL_mem l2 (by omega) (by omega) (by omega), ?_⟩
  rw [hlow, Bool.true_and]
  exact decide_eq_true (by simp only; omega)
theorem mov_high {s t : Slope} {m lst : Nat} {fa : Int} (hS : SlopeOK s m) (hT : SureOf s t m) (hf : 0 ≤ fa ∧ fa ≤ 10000) (hl : s.least = lst) : cntV t fa m lst t.cols.length ≤ (movL (costV s fa leastV) m lst s.cols.length).length := by
  unfold movL cntV
  refine hT.n ▸ filter_le _ fun k hk h => ?_
  have hk := List.mem_range.1 hk
  unfold mvB at h
  rw [List.any_eq_true] at h
  obtain ⟨⟨f, l⟩, h1, h2⟩ := h
  rw [Bool.and_eq_true] at h2
  have h3 := of_decide_eq_true h2.2
  obtain ⟨a1, a2, a3, a4⟩ := allL_in (s := t) (m := m) (lst := lst) (f, l) h1
  simp only at a1 a2 a3 a4 h3
  have h4 := (fac_low hT a1 hf).1 h2.1
  have hn := hT.n
  have hto := a1.to
  have hle := sumP_le (c := fun c b => holdV (bedAt s c b) (leastV (bedAt s c b))) (d := fun c b => holdV (bedAt t c b) (leastV (bedAt t c b))) (n := s.cols.length) (m := m) (fun i j hi hj => by
    obtain ⟨d1, d2, d3⟩ := hT.bed i j hi hj
    have hb := of_decide_eq_true (hS.bed hi hj)
    unfold InR at d3
    exact holdV_mono d2.symm (by unfold leastV bedAt; simp only; omega) d3.1.1 d3.2.1.1 d3.2.2.2) l f (by omega) a1.bed
  have hcs : sumP (costV s fa leastV) f l < 0 := by rw [sumP_eq (m := m)]; omega
  have hch := cheap_le (cst := costV s fa leastV) (a := f) a3 a2
  have hls := hS.lst
  refine (accF_iff _).2 ⟨f, f + l.length - 1, by omega, by omega, by omega, ?_⟩
  unfold hitB
  rw [Bool.and_eq_true]
  exact ⟨decide_eq_true (by omega), decide_eq_true (by omega)⟩
end Go.Am

/- Contracts of the reference of slopes: a slope of the own lists of its caller. -/
namespace Go.Am
open Go.RowKit Go.Proofs
attribute [local irreducible] AWP CallS Kt goK CallK stepK evOps SemF SemY Imp
set_option maxRecDepth 4000
set_option linter.unusedSimpArgs false
set_option linter.unusedVariables false
set_option maxHeartbeats 3200000
section
variable {α : Type} {enc : α → List AV} {sz : Nat} {l : List α} {d : α}
theorem sp_recs (he : ∀ a, (enc a).length = sz) {i o : Nat} (hi : i < l.length) {ys : List AV} (ho : o + ys.length ≤ sz) {a' : α} (h : enc a' = splice (enc (l.getD i d)) o ys) : splice (recs enc l) (i * sz + o) ys = recs enc (isp l i a') := by
  have e0 : recs enc l = recs enc (l.take i) ++ recs enc (l.drop i) := by
    show l.flatMap enc = (l.take i).flatMap enc ++ (l.drop i).flatMap enc
    rw [← List.flatMap_append, List.take_append_drop]
  have e1 : recs enc (l.drop i) = enc (l.getD i d) ++ recs enc (l.drop (i + 1)) := by rw [← recs_drop he, recs_at (d := d) he hi]
  have e2 : (recs enc (l.take i)).length = i * sz := by rw [recs_length he, List.length_take, Nat.min_eq_left (by omega)]
  have e3 := he (l.getD i d)
  have e4 : recs enc (isp l i a') = recs enc (l.take i) ++ (enc a' ++ recs enc (l.drop (i + 1))) := by simp [recs, isp]
  rw [e4, e0, e1, h]
  simp only [splice]
  generalize recs enc (l.take i) = A at *
  generalize enc (l.getD i d) = E at *
  generalize recs enc (l.drop (i + 1)) = B at *
  rw [← e2, ← List.append_assoc, List.take_append_of_le_length (by rw [List.length_append]; omega), List.take_length_add_append, List.drop_append_of_le_length (by rw [List.length_append]; omega), show A.length + o + ys.length = A.length + (o + ys.length) by omega, List.drop_length_add_append]
  simp only [List.append_assoc]
end
theorem tab0 {α : Type} {f : Nat → α} : tab 0 f = [] := rfl
theorem tab1 {α : Type} {f : Nat → α} : tab 1 f = [f 0] := rfl
theorem tab2 {α : Type} {f : Nat → α} : tab 2 f = [f 0, f 1] := rfl
theorem tab3 {α : Type} {f : Nat → α} : tab 3 f = [f 0, f 1, f 2] := rfl
theorem tab4 {α : Type} {f : Nat → α} : tab 4 f = [f 0, f 1, f 2, f 3] := rfl
theorem tab5 {α : Type} {f : Nat → α} : tab 5 f = [f 0, f 1, f 2, f 3, f 4] := rfl
/-- The blocks of columns, and the list of them. -/
def refB (m i : Nat) : List AV := tab i fun j => .osl (4 + j) 0 0 m
def blkB (s : Slope) (i : Nat) : List (Option ABlk) := tab i fun j => some (.cells 66 8 0 (recs bedC (s.cols.getD j [])))
def wtH (s : Slope) (m i : Nat) : List (Option ABlk) := [some (.cells 24 1 0 [.psl false s.cols.length (colC s.cols), .int .i64 s.least]), some (.cells 24 1 0 [.nils, .int .i64 0]), some (.cells 24 1 0 [.osl 3 i 0 i, .int .i64 s.least]), some (.cells 33 1 i (refB m i))] ++ blkB s i
theorem Wetter_o (s : Slope) (m : Nat) (h : SlopeOK s m) (h5 : s.cols.length ≤ 5) : SemF Try.prog 29 [.agg (slopeC s), .int .i64 0] [] (.agg [.osl 3 s.cols.length 0 s.cols.length, .int .i64 s.least]) ([none, none, none, some (.cells 33 1 s.cols.length (refB m s.cols.length))] ++ blkB s s.cols.length) := by
  have hcn := h.cn
  have hcm := h.cm
  have hI0 : wtH s m 0 = [some (.cells 24 1 0 [.psl false s.cols.length (colC s.cols), .int .i64 s.least]), some (.cells 24 1 0 [.nils, .int .i64 0]), some (.cells 24 1 0 [.osl 3 0 0 0, .int .i64 s.least]), some (.cells 33 1 0 [])] := rfl
  have hWd : ∀ i, wtH s m i = [some (.cells 24 1 0 [.psl false s.cols.length (colC s.cols), .int .i64 s.least]), some (.cells 24 1 0 [.nils, .int .i64 0]), some (.cells 24 1 0 [.osl 3 i 0 i, .int .i64 s.least]), some (.cells 33 1 i (refB m i))] ++ blkB s i := fun _ => rfl
  have hBd : ∀ i, blkB s i = tab i fun j => some (.cells 66 8 0 (recs bedC (s.cols.getD j []))) := fun _ => rfl
  obtain ⟨n, hn⟩ : ∃ n, s.cols.length = n := ⟨_, rfl⟩
  obtain ⟨rw0, hrw⟩ : ∃ rw0 : Nat → List Bed, (fun j => s.cols.getD j []) = rw0 := ⟨_, rfl⟩
  have hrj : ∀ j, s.cols.getD j [] = rw0 j := fun j => by rw [← hrw]
  have hlen := h.len
  have hbed := fun i j (hi : i < s.cols.length) (hj : j < m) => h.bed (i := i) (j := j) hi hj
  simp only [hrj, hn] at hlen hbed hWd hBd hI0 hcn h5 ⊢
  simp only [slopeC, slC, hn]
  (refine semF_of_awp (ys := [.agg [.osl 3 n 0 n, .int .i64 s.least]]) (fun w args => Try.call29 ..) Try.func29 rfl (fun w0 m0 wz => ?_); simp only [Try.ntmps29, Try.results29, initT, junks, sl, List.toList_toArray, List.cons_append, List.nil_append, List.length_cons, List.length_nil, Nat.reduceAdd, Nat.reduceSub])
  (repeat' (first
 | refine awp_seqK ?_
 | refine kt ?_
 | refine And.intro ?_ ?_
 | ((first | refine awp_stp rfl ?_ | refine awp_draw (by kernel_rfl) (by kernel_rfl) ?_ | refine Imp.le2 ?_ | refine go_split (fun _h => ?_) (fun _h => ?_)) <;> try simp (maxSteps := 4000000) only [go_sem, seval, hn])
 | intro _h
 | refine awp_block ?_
 | refine awp_scope ?_
 | refine cond_b ?_ ?_
 | (show heapOK _ _ = true; kernel_rfl)
 | (show heapOK2 _ _ = true; kernel_rfl)
 | (omega)))
  refine awp_adH 2 0 33 1 rfl rfl ?_
  simp only [adH, hget, hset, lset, List.length_cons, List.length_nil, Nat.reduceAdd]
  refine awp_loopN n (fun i => ⟨mkT 53 [(1, .int .i64 0), (2, .ptr 0 0 0), (4, .ptr 1 0 0), (5, .ptr 2 0 0), (6, .int .i64 i)], wtH s m i, []⟩) (.le2 ?_) ?_
  · rw [hI0]; simp (maxSteps := 4000000) only [go_sem, seval]
    all_goals first | rfl | exact ⟨rfl, rfl⟩ | trace_state
  · intro i hi
    rcases Nat.lt_or_eq_of_le hi with hi1 | hi1
    · have hm := hlen i hi1
      have hbd := fun j hj => hbed i j hi1 hj
      have hri := hrj i
      have hcases : i = 0 ∨ i = 1 ∨ i = 2 ∨ i = 3 ∨ i = 4 := by omega
      rcases hcases with rfl | rfl | rfl | rfl | rfl
      · simp only [hWd, hBd, refB, tab0, tab1, List.cons_append, List.nil_append, Nat.reduceAdd, Nat.add_zero]; simp (maxSteps := 4000000) only [go_sem, seval]
        (repeat' (first
 | ((omega))
 | ((exfalso; omega))
 | refine awp_seqK ?_
 | refine kt ?_
 | refine And.intro ?_ ?_
 | ((first | refine awp_stp rfl ?_ | refine awp_draw (by kernel_rfl) (by kernel_rfl) ?_ | refine Imp.le2 ?_ | refine go_split (fun _h => ?_) (fun _h => ?_)) <;> try simp (maxSteps := 4000000) only [go_sem, seval, hn, hri, hm])
 | intro _h
 | refine awp_block ?_
 | refine awp_scope ?_
 | refine cond_b ?_ ?_
 | (show heapOK _ _ = true; kernel_rfl)
 | (show heapOK2 _ _ = true; kernel_rfl)
 | (omega)))
        refine awp_loopN m (fun k => ⟨mkT 53 [(1, .int .i64 0), (2, .ptr 0 0 0), (4, .ptr 1 0 0), (5, .ptr 2 0 0), (6, .int .i64 0), (7, .osl 4 0 0 m), (8, .int .i64 k)], [some (.cells 24 1 0 [.psl false n (colC s.cols), .int .i64 s.least]), some (.cells 24 1 0 [.nils, .int .i64 0]), some (.cells 24 1 0 [.osl 3 0 0 0, .int .i64 s.least]), some (.cells 33 1 0 []), some (.cells 66 8 0 (recs bedC (rw0 0)))], []⟩) (.le2 ?_) ?_
        · simp (maxSteps := 4000000) only [go_sem, seval]
          all_goals first | rfl | exact ⟨rfl, rfl⟩ | trace_state
        · intro k hk
          rcases Nat.lt_or_eq_of_le hk with hk1 | hk1
          · have hb := hbd k hk1
            obtain ⟨b, hbe⟩ : ∃ b, (rw0 0).getD k default = b := ⟨_, rfl⟩
            rw [hbe] at hb
            have hb2 := of_decide_eq_true hb
            have e1 : min 100000 (b.w2 + 0) = b.w2 := by omega
            have e1' : min 100000 b.w2 = b.w2 := by omega
            have e2 : splice (recs bedC (rw0 0)) (k * 8 + 7) [.int .i64 b.w2] = recs bedC (rw0 0) := by
              rw [sp_recs (d := default) (sz := 8) (fun _ => rfl) (by omega) (by simp) (a' := b) (by rw [hbe]; rfl)]
              rw [isp_set (by omega)]
              have e4 : (rw0 0)[k]'(by omega) = b := by rw [← hbe]; simp [List.getD_eq_getElem?_getD, show k < (rw0 0).length by omega]
              rw [← e4, List.set_getElem_self]
            simp (maxSteps := 4000000) only [go_sem, seval]
            (repeat' (first
 | ((omega))
 | ((exfalso; omega))
 | refine awp_seqK ?_
 | refine kt ?_
 | refine And.intro ?_ ?_
 | ((first | refine awp_stp rfl ?_ | refine awp_draw (by kernel_rfl) (by kernel_rfl) ?_ | refine Imp.le2 ?_ | refine go_split (fun _h => ?_) (fun _h => ?_)) <;> try simp (maxSteps := 4000000) only [go_sem, seval, hn, hri, hm, hbe, Int.add_zero, e1, e1', e2])
 | intro _h
 | refine awp_block ?_
 | refine awp_scope ?_
 | refine cond_b ?_ ?_
 | (show heapOK _ _ = true; kernel_rfl)
 | (show heapOK2 _ _ = true; kernel_rfl)
 | (omega)))
            all_goals first | rfl | exact ⟨rfl, rfl⟩ | trace_state
          · rw [hk1]
            simp (maxSteps := 4000000) only [go_sem, seval]
            (repeat' (first
 | ((refine awp_segE (id := 10) [(3, some ⟨.osl 5 0 0 1, [], some (5, .cells 33 1 0 [.osl 4 0 0 m])⟩, []), (0, some ⟨.osl 3 1 0 1, [5], some (3, .cells 33 1 1 [.osl 4 0 0 m])⟩, [])] ?_; simp (maxSteps := 4000000) only [go_sem, seval, se_own, se_op, se_nil, List.take_succ_cons, List.take_zero, List.drop_succ_cons, List.drop_zero]; refine Classical.byContradiction fun hneg => ?_))
 | ((omega))
 | ((exfalso; omega))
 | refine awp_seqK ?_
 | refine kt ?_
 | refine And.intro ?_ ?_
 | ((first | refine awp_stp rfl ?_ | refine Imp.le2 ?_) <;> try simp (maxSteps := 4000000) only [go_sem, seval, hn])
 | intro _h
 | refine awp_block ?_
 | refine awp_scope ?_
 | refine cond_b ?_ ?_
 | (show heapOK _ _ = true; kernel_rfl)
 | (show heapOK2 _ _ = true; kernel_rfl)
 | (omega)))
            refine hneg ?_
            refine ⟨rfl, sound_litE rfl rfl tslice22 tsz33 tzero33 rfl (by decide) (by decide) (by decide) (by decide) rfl rfl, ?_⟩
            refine ⟨rfl, sound_appoo (d := 3) (gd := 0) (len := 0) (xs := []) (b := 5) (g := 0) (off := 0) (n := 1) (us := [.osl 4 0 0 m]) (ys := [.osl 4 0 0 m]) rfl tslice22 tsz33 tbytes33 tzero33 rfl (by decide) rfl rfl (by rfl) rfl rfl (by simp) (by decide) (by omega) (by omega) rfl, ?_⟩
            simp (maxSteps := 4000000) only [go_sem, seval, hseto]
            refine kt ?_
            (repeat' (first
 | ((omega))
 | ((exfalso; omega))
 | refine awp_seqK ?_
 | refine kt ?_
 | refine And.intro ?_ ?_
 | ((first | refine awp_stp rfl ?_ | refine awp_draw (by kernel_rfl) (by kernel_rfl) ?_ | refine Imp.le2 ?_ | refine go_split (fun _h => ?_) (fun _h => ?_)) <;> try simp (maxSteps := 4000000) only [go_sem, seval])
 | intro _h
 | refine awp_block ?_
 | refine awp_scope ?_
 | refine cond_b ?_ ?_
 | (show heapOK _ _ = true; kernel_rfl)
 | (show heapOK2 _ _ = true; kernel_rfl)
 | (omega)))
            all_goals first | rfl | exact ⟨rfl, rfl⟩ | trace_state
            all_goals trace_state
      · simp only [hWd, hBd, refB, tab1, tab2, List.cons_append, List.nil_append, Nat.reduceAdd, Nat.add_zero]; simp (maxSteps := 4000000) only [go_sem, seval]
        (repeat' (first
 | ((omega))
 | ((exfalso; omega))
 | refine awp_seqK ?_
 | refine kt ?_
 | refine And.intro ?_ ?_
 | ((first | refine awp_stp rfl ?_ | refine awp_draw (by kernel_rfl) (by kernel_rfl) ?_ | refine Imp.le2 ?_ | refine go_split (fun _h => ?_) (fun _h => ?_)) <;> try simp (maxSteps := 4000000) only [go_sem, seval, hn, hri, hm])
 | intro _h
 | refine awp_block ?_
 | refine awp_scope ?_
 | refine cond_b ?_ ?_
 | (show heapOK _ _ = true; kernel_rfl)
 | (show heapOK2 _ _ = true; kernel_rfl)
 | (omega)))
        refine awp_loopN m (fun k => ⟨mkT 53 [(1, .int .i64 0), (2, .ptr 0 0 0), (4, .ptr 1 0 0), (5, .ptr 2 0 0), (6, .int .i64 1), (7, .osl 5 0 0 m), (8, .int .i64 k)], [some (.cells 24 1 0 [.psl false n (colC s.cols), .int .i64 s.least]), some (.cells 24 1 0 [.nils, .int .i64 0]), some (.cells 24 1 0 [.osl 3 1 0 1, .int .i64 s.least]), some (.cells 33 1 1 [.osl 4 0 0 m]), some (.cells 66 8 0 (recs bedC (rw0 0))), some (.cells 66 8 0 (recs bedC (rw0 1)))], []⟩) (.le2 ?_) ?_
        · simp (maxSteps := 4000000) only [go_sem, seval]
          all_goals first | rfl | exact ⟨rfl, rfl⟩ | trace_state
        · intro k hk
          rcases Nat.lt_or_eq_of_le hk with hk1 | hk1
          · have hb := hbd k hk1
            obtain ⟨b, hbe⟩ : ∃ b, (rw0 1).getD k default = b := ⟨_, rfl⟩
            rw [hbe] at hb
            have hb2 := of_decide_eq_true hb
            have e1 : min 100000 (b.w2 + 0) = b.w2 := by omega
            have e1' : min 100000 b.w2 = b.w2 := by omega
            have e2 : splice (recs bedC (rw0 1)) (k * 8 + 7) [.int .i64 b.w2] = recs bedC (rw0 1) := by
              rw [sp_recs (d := default) (sz := 8) (fun _ => rfl) (by omega) (by simp) (a' := b) (by rw [hbe]; rfl)]
              rw [isp_set (by omega)]
              have e4 : (rw0 1)[k]'(by omega) = b := by rw [← hbe]; simp [List.getD_eq_getElem?_getD, show k < (rw0 1).length by omega]
              rw [← e4, List.set_getElem_self]
            simp (maxSteps := 4000000) only [go_sem, seval]
            (repeat' (first
 | ((omega))
 | ((exfalso; omega))
 | refine awp_seqK ?_
 | refine kt ?_
 | refine And.intro ?_ ?_
 | ((first | refine awp_stp rfl ?_ | refine awp_draw (by kernel_rfl) (by kernel_rfl) ?_ | refine Imp.le2 ?_ | refine go_split (fun _h => ?_) (fun _h => ?_)) <;> try simp (maxSteps := 4000000) only [go_sem, seval, hn, hri, hm, hbe, Int.add_zero, e1, e1', e2])
 | intro _h
 | refine awp_block ?_
 | refine awp_scope ?_
 | refine cond_b ?_ ?_
 | (show heapOK _ _ = true; kernel_rfl)
 | (show heapOK2 _ _ = true; kernel_rfl)
 | (omega)))
            all_goals first | rfl | exact ⟨rfl, rfl⟩ | trace_state
          · rw [hk1]
            simp (maxSteps := 4000000) only [go_sem, seval]
            (repeat' (first
 | ((refine awp_segE (id := 10) [(3, some ⟨.osl 6 0 0 1, [], some (6, .cells 33 1 0 [.osl 5 0 0 m])⟩, []), (0, some ⟨.osl 3 2 0 2, [6], some (3, .cells 33 1 2 [.osl 4 0 0 m, .osl 5 0 0 m])⟩, [])] ?_; simp (maxSteps := 4000000) only [go_sem, seval, se_own, se_op, se_nil, List.take_succ_cons, List.take_zero, List.drop_succ_cons, List.drop_zero]; refine Classical.byContradiction fun hneg => ?_))
 | ((omega))
 | ((exfalso; omega))
 | refine awp_seqK ?_
 | refine kt ?_
 | refine And.intro ?_ ?_
 | ((first | refine awp_stp rfl ?_ | refine Imp.le2 ?_) <;> try simp (maxSteps := 4000000) only [go_sem, seval, hn])
 | intro _h
 | refine awp_block ?_
 | refine awp_scope ?_
 | refine cond_b ?_ ?_
 | (show heapOK _ _ = true; kernel_rfl)
 | (show heapOK2 _ _ = true; kernel_rfl)
 | (omega)))
            refine hneg ?_
            refine ⟨rfl, sound_litE rfl rfl tslice22 tsz33 tzero33 rfl (by decide) (by decide) (by decide) (by decide) rfl rfl, ?_⟩
            refine ⟨rfl, sound_appoo (d := 3) (gd := 1) (len := 1) (xs := [.osl 4 0 0 m]) (b := 6) (g := 0) (off := 0) (n := 1) (us := [.osl 5 0 0 m]) (ys := [.osl 5 0 0 m]) rfl tslice22 tsz33 tbytes33 tzero33 rfl (by decide) rfl rfl (by rfl) rfl rfl (by simp) (by decide) (by omega) (by omega) rfl, ?_⟩
            simp (maxSteps := 4000000) only [go_sem, seval, hseto]
            refine kt ?_
            (repeat' (first
 | ((omega))
 | ((exfalso; omega))
 | refine awp_seqK ?_
 | refine kt ?_
 | refine And.intro ?_ ?_
 | ((first | refine awp_stp rfl ?_ | refine awp_draw (by kernel_rfl) (by kernel_rfl) ?_ | refine Imp.le2 ?_ | refine go_split (fun _h => ?_) (fun _h => ?_)) <;> try simp (maxSteps := 4000000) only [go_sem, seval])
 | intro _h
 | refine awp_block ?_
 | refine awp_scope ?_
 | refine cond_b ?_ ?_
 | (show heapOK _ _ = true; kernel_rfl)
 | (show heapOK2 _ _ = true; kernel_rfl)
 | (omega)))
            all_goals first | rfl | exact ⟨rfl, rfl⟩ | trace_state
            all_goals trace_state
      · simp only [hWd, hBd, refB, tab2, tab3, List.cons_append, List.nil_append, Nat.reduceAdd, Nat.add_zero]; simp (maxSteps := 4000000) only [go_sem, seval]
        (repeat' (first
 | ((omega))
 | ((exfalso; omega))
 | refine awp_seqK ?_
 | refine kt ?_
 | refine And.intro ?_ ?_
 | ((first | refine awp_stp rfl ?_ | refine awp_draw (by kernel_rfl) (by kernel_rfl) ?_ | refine Imp.le2 ?_ | refine go_split (fun _h => ?_) (fun _h => ?_)) <;> try simp (maxSteps := 4000000) only [go_sem, seval, hn, hri, hm])
 | intro _h
 | refine awp_block ?_
 | refine awp_scope ?_
 | refine cond_b ?_ ?_
 | (show heapOK _ _ = true; kernel_rfl)
 | (show heapOK2 _ _ = true; kernel_rfl)
 | (omega)))
        refine awp_loopN m (fun k => ⟨mkT 53 [(1, .int .i64 0), (2, .ptr 0 0 0), (4, .ptr 1 0 0), (5, .ptr 2 0 0), (6, .int .i64 2), (7, .osl 6 0 0 m), (8, .int .i64 k)], [some (.cells 24 1 0 [.psl false n (colC s.cols), .int .i64 s.least]), some (.cells 24 1 0 [.nils, .int .i64 0]), some (.cells 24 1 0 [.osl 3 2 0 2, .int .i64 s.least]), some (.cells 33 1 2 [.osl 4 0 0 m, .osl 5 0 0 m]), some (.cells 66 8 0 (recs bedC (rw0 0))), some (.cells 66 8 0 (recs bedC (rw0 1))), some (.cells 66 8 0 (recs bedC (rw0 2)))], []⟩) (.le2 ?_) ?_
        · simp (maxSteps := 4000000) only [go_sem, seval]
          all_goals first | rfl | exact ⟨rfl, rfl⟩ | trace_state
        · intro k hk
          rcases Nat.lt_or_eq_of_le hk with hk1 | hk1
          · have hb := hbd k hk1
            obtain ⟨b, hbe⟩ : ∃ b, (rw0 2).getD k default = b := ⟨_, rfl⟩
            rw [hbe] at hb
            have hb2 := of_decide_eq_true hb
            have e1 : min 100000 (b.w2 + 0) = b.w2 := by omega
            have e1' : min 100000 b.w2 = b.w2 := by omega
            have e2 : splice (recs bedC (rw0 2)) (k * 8 + 7) [.int .i64 b.w2] = recs bedC (rw0 2) := by
              rw [sp_recs (d := default) (sz := 8) (fun _ => rfl) (by omega) (by simp) (a' := b) (by rw [hbe]; rfl)]
              rw [isp_set (by omega)]
              have e4 : (rw0 2)[k]'(by omega) = b := by rw [← hbe]; simp [List.getD_eq_getElem?_getD, show k < (rw0 2).length by omega]
              rw [← e4, List.set_getElem_self]
            simp (maxSteps := 4000000) only [go_sem, seval]
            (repeat' (first
 | ((omega))
 | ((exfalso; omega))
 | refine awp_seqK ?_
 | refine kt ?_
 | refine And.intro ?_ ?_
 | ((first | refine awp_stp rfl ?_ | refine awp_draw (by kernel_rfl) (by kernel_rfl) ?_ | refine Imp.le2 ?_ | refine go_split (fun _h => ?_) (fun _h => ?_)) <;> try simp (maxSteps := 4000000) only [go_sem, seval, hn, hri, hm, hbe, Int.add_zero, e1, e1', e2])
 | intro _h
 | refine awp_block ?_
 | refine awp_scope ?_
 | refine cond_b ?_ ?_
 | (show heapOK _ _ = true; kernel_rfl)
 | (show heapOK2 _ _ = true; kernel_rfl)
 | (omega)))
            all_goals first | rfl | exact ⟨rfl, rfl⟩ | trace_state
          · rw [hk1]
            simp (maxSteps := 4000000) only [go_sem, seval]
            (repeat' (first
 | ((refine awp_segE (id := 10) [(3, some ⟨.osl 7 0 0 1, [], some (7, .cells 33 1 0 [.osl 6 0 0 m])⟩, []), (0, some ⟨.osl 3 3 0 3, [7], some (3, .cells 33 1 3 [.osl 4 0 0 m, .osl 5 0 0 m, .osl 6 0 0 m])⟩, [])] ?_; simp (maxSteps := 4000000) only [go_sem, seval, se_own, se_op, se_nil, List.take_succ_cons, List.take_zero, List.drop_succ_cons, List.drop_zero]; refine Classical.byContradiction fun hneg => ?_))
 | ((omega))
 | ((exfalso; omega))
 | refine awp_seqK ?_
 | refine kt ?_
 | refine And.intro ?_ ?_
 | ((first | refine awp_stp rfl ?_ | refine Imp.le2 ?_) <;> try simp (maxSteps := 4000000) only [go_sem, seval, hn])
 | intro _h
 | refine awp_block ?_
 | refine awp_scope ?_
 | refine cond_b ?_ ?_
 | (show heapOK _ _ = true; kernel_rfl)
 | (show heapOK2 _ _ = true; kernel_rfl)
 | (omega)))
            refine hneg ?_
            refine ⟨rfl, sound_litE rfl rfl tslice22 tsz33 tzero33 rfl (by decide) (by decide) (by decide) (by decide) rfl rfl, ?_⟩
            refine ⟨rfl, sound_appoo (d := 3) (gd := 2) (len := 2) (xs := [.osl 4 0 0 m, .osl 5 0 0 m]) (b := 7) (g := 0) (off := 0) (n := 1) (us := [.osl 6 0 0 m]) (ys := [.osl 6 0 0 m]) rfl tslice22 tsz33 tbytes33 tzero33 rfl (by decide) rfl rfl (by rfl) rfl rfl (by simp) (by decide) (by omega) (by omega) rfl, ?_⟩
            simp (maxSteps := 4000000) only [go_sem, seval, hseto]
            refine kt ?_
            (repeat' (first
 | ((omega))
 | ((exfalso; omega))
 | refine awp_seqK ?_
 | refine kt ?_
 | refine And.intro ?_ ?_
 | ((first | refine awp_stp rfl ?_ | refine awp_draw (by kernel_rfl) (by kernel_rfl) ?_ | refine Imp.le2 ?_ | refine go_split (fun _h => ?_) (fun _h => ?_)) <;> try simp (maxSteps := 4000000) only [go_sem, seval])
 | intro _h
 | refine awp_block ?_
 | refine awp_scope ?_
 | refine cond_b ?_ ?_
 | (show heapOK _ _ = true; kernel_rfl)
 | (show heapOK2 _ _ = true; kernel_rfl)
 | (omega)))
            all_goals first | rfl | exact ⟨rfl, rfl⟩ | trace_state
            all_goals trace_state
      · simp only [hWd, hBd, refB, tab3, tab4, List.cons_append, List.nil_append, Nat.reduceAdd, Nat.add_zero]; simp (maxSteps := 4000000) only [go_sem, seval]
        (repeat' (first
 | ((omega))
 | ((exfalso; omega))
 | refine awp_seqK ?_
 | refine kt ?_
 | refine And.intro ?_ ?_
 | ((first | refine awp_stp rfl ?_ | refine awp_draw (by kernel_rfl) (by kernel_rfl) ?_ | refine Imp.le2 ?_ | refine go_split (fun _h => ?_) (fun _h => ?_)) <;> try simp (maxSteps := 4000000) only [go_sem, seval, hn, hri, hm])
 | intro _h
 | refine awp_block ?_
 | refine awp_scope ?_
 | refine cond_b ?_ ?_
 | (show heapOK _ _ = true; kernel_rfl)
 | (show heapOK2 _ _ = true; kernel_rfl)
 | (omega)))
        refine awp_loopN m (fun k => ⟨mkT 53 [(1, .int .i64 0), (2, .ptr 0 0 0), (4, .ptr 1 0 0), (5, .ptr 2 0 0), (6, .int .i64 3), (7, .osl 7 0 0 m), (8, .int .i64 k)], [some (.cells 24 1 0 [.psl false n (colC s.cols), .int .i64 s.least]), some (.cells 24 1 0 [.nils, .int .i64 0]), some (.cells 24 1 0 [.osl 3 3 0 3, .int .i64 s.least]), some (.cells 33 1 3 [.osl 4 0 0 m, .osl 5 0 0 m, .osl 6 0 0 m]), some (.cells 66 8 0 (recs bedC (rw0 0))), some (.cells 66 8 0 (recs bedC (rw0 1))), some (.cells 66 8 0 (recs bedC (rw0 2))), some (.cells 66 8 0 (recs bedC (rw0 3)))], []⟩) (.le2 ?_) ?_
        · simp (maxSteps := 4000000) only [go_sem, seval]
          all_goals first | rfl | exact ⟨rfl, rfl⟩ | trace_state
        · intro k hk
          rcases Nat.lt_or_eq_of_le hk with hk1 | hk1
          · have hb := hbd k hk1
            obtain ⟨b, hbe⟩ : ∃ b, (rw0 3).getD k default = b := ⟨_, rfl⟩
            rw [hbe] at hb
            have hb2 := of_decide_eq_true hb
            have e1 : min 100000 (b.w2 + 0) = b.w2 := by omega
            have e1' : min 100000 b.w2 = b.w2 := by omega
            have e2 : splice (recs bedC (rw0 3)) (k * 8 + 7) [.int .i64 b.w2] = recs bedC (rw0 3) := by
              rw [sp_recs (d := default) (sz := 8) (fun _ => rfl) (by omega) (by simp) (a' := b) (by rw [hbe]; rfl)]
              rw [isp_set (by omega)]
              have e4 : (rw0 3)[k]'(by omega) = b := by rw [← hbe]; simp [List.getD_eq_getElem?_getD, show k < (rw0 3).length by omega]
              rw [← e4, List.set_getElem_self]
            simp (maxSteps := 4000000) only [go_sem, seval]
            (repeat' (first
 | ((omega))
 | ((exfalso; omega))
 | refine awp_seqK ?_
 | refine kt ?_
 | refine And.intro ?_ ?_
 | ((first | refine awp_stp rfl ?_ | refine awp_draw (by kernel_rfl) (by kernel_rfl) ?_ | refine Imp.le2 ?_ | refine go_split (fun _h => ?_) (fun _h => ?_)) <;> try simp (maxSteps := 4000000) only [go_sem, seval, hn, hri, hm, hbe, Int.add_zero, e1, e1', e2])
 | intro _h
 | refine awp_block ?_
 | refine awp_scope ?_
 | refine cond_b ?_ ?_
 | (show heapOK _ _ = true; kernel_rfl)
 | (show heapOK2 _ _ = true; kernel_rfl)
 | (omega)))
            all_goals first | rfl | exact ⟨rfl, rfl⟩ | trace_state
          · rw [hk1]
            simp (maxSteps := 4000000) only [go_sem, seval]
            (repeat' (first
 | ((refine awp_segE (id := 10) [(3, some ⟨.osl 8 0 0 1, [], some (8, .cells 33 1 0 [.osl 7 0 0 m])⟩, []), (0, some ⟨.osl 3 4 0 4, [8], some (3, .cells 33 1 4 [.osl 4 0 0 m, .osl 5 0 0 m, .osl 6 0 0 m, .osl 7 0 0 m])⟩, [])] ?_; simp (maxSteps := 4000000) only [go_sem, seval, se_own, se_op, se_nil, List.take_succ_cons, List.take_zero, List.drop_succ_cons, List.drop_zero]; refine Classical.byContradiction fun hneg => ?_))
 | ((omega))
 | ((exfalso; omega))
 | refine awp_seqK ?_
 | refine kt ?_
 | refine And.intro ?_ ?_
 | ((first | refine awp_stp rfl ?_ | refine Imp.le2 ?_) <;> try simp (maxSteps := 4000000) only [go_sem, seval, hn])
 | intro _h
 | refine awp_block ?_
 | refine awp_scope ?_
 | refine cond_b ?_ ?_
 | (show heapOK _ _ = true; kernel_rfl)
 | (show heapOK2 _ _ = true; kernel_rfl)
 | (omega)))
            refine hneg ?_
            refine ⟨rfl, sound_litE rfl rfl tslice22 tsz33 tzero33 rfl (by decide) (by decide) (by decide) (by decide) rfl rfl, ?_⟩
            refine ⟨rfl, sound_appoo (d := 3) (gd := 3) (len := 3) (xs := [.osl 4 0 0 m, .osl 5 0 0 m, .osl 6 0 0 m]) (b := 8) (g := 0) (off := 0) (n := 1) (us := [.osl 7 0 0 m]) (ys := [.osl 7 0 0 m]) rfl tslice22 tsz33 tbytes33 tzero33 rfl (by decide) rfl rfl (by rfl) rfl rfl (by simp) (by decide) (by omega) (by omega) rfl, ?_⟩
            simp (maxSteps := 4000000) only [go_sem, seval, hseto]
            refine kt ?_
            (repeat' (first
 | ((omega))
 | ((exfalso; omega))
 | refine awp_seqK ?_
 | refine kt ?_
 | refine And.intro ?_ ?_
 | ((first | refine awp_stp rfl ?_ | refine awp_draw (by kernel_rfl) (by kernel_rfl) ?_ | refine Imp.le2 ?_ | refine go_split (fun _h => ?_) (fun _h => ?_)) <;> try simp (maxSteps := 4000000) only [go_sem, seval])
 | intro _h
 | refine awp_block ?_
 | refine awp_scope ?_
 | refine cond_b ?_ ?_
 | (show heapOK _ _ = true; kernel_rfl)
 | (show heapOK2 _ _ = true; kernel_rfl)
 | (omega)))
            all_goals first | rfl | exact ⟨rfl, rfl⟩ | trace_state
            all_goals trace_state
      · simp only [hWd, hBd, refB, tab4, tab5, List.cons_append, List.nil_append, Nat.reduceAdd, Nat.add_zero]; simp (maxSteps := 4000000) only [go_sem, seval]
        (repeat' (first
 | ((omega))
 | ((exfalso; omega))
 | refine awp_seqK ?_
 | refine kt ?_
 | refine And.intro ?_ ?_
 | ((first | refine awp_stp rfl ?_ | refine awp_draw (by kernel_rfl) (by kernel_rfl) ?_ | refine Imp.le2 ?_ | refine go_split (fun _h => ?_) (fun _h => ?_)) <;> try simp (maxSteps := 4000000) only [go_sem, seval, hn, hri, hm])
 | intro _h
 | refine awp_block ?_
 | refine awp_scope ?_
 | refine cond_b ?_ ?_
 | (show heapOK _ _ = true; kernel_rfl)
 | (show heapOK2 _ _ = true; kernel_rfl)
 | (omega)))
        refine awp_loopN m (fun k => ⟨mkT 53 [(1, .int .i64 0), (2, .ptr 0 0 0), (4, .ptr 1 0 0), (5, .ptr 2 0 0), (6, .int .i64 4), (7, .osl 8 0 0 m), (8, .int .i64 k)], [some (.cells 24 1 0 [.psl false n (colC s.cols), .int .i64 s.least]), some (.cells 24 1 0 [.nils, .int .i64 0]), some (.cells 24 1 0 [.osl 3 4 0 4, .int .i64 s.least]), some (.cells 33 1 4 [.osl 4 0 0 m, .osl 5 0 0 m, .osl 6 0 0 m, .osl 7 0 0 m]), some (.cells 66 8 0 (recs bedC (rw0 0))), some (.cells 66 8 0 (recs bedC (rw0 1))), some (.cells 66 8 0 (recs bedC (rw0 2))), some (.cells 66 8 0 (recs bedC (rw0 3))), some (.cells 66 8 0 (recs bedC (rw0 4)))], []⟩) (.le2 ?_) ?_
        · simp (maxSteps := 4000000) only [go_sem, seval]
          all_goals first | rfl | exact ⟨rfl, rfl⟩ | trace_state
        · intro k hk
          rcases Nat.lt_or_eq_of_le hk with hk1 | hk1
          · have hb := hbd k hk1
            obtain ⟨b, hbe⟩ : ∃ b, (rw0 4).getD k default = b := ⟨_, rfl⟩
            rw [hbe] at hb
            have hb2 := of_decide_eq_true hb
            have e1 : min 100000 (b.w2 + 0) = b.w2 := by omega
            have e1' : min 100000 b.w2 = b.w2 := by omega
            have e2 : splice (recs bedC (rw0 4)) (k * 8 + 7) [.int .i64 b.w2] = recs bedC (rw0 4) := by
              rw [sp_recs (d := default) (sz := 8) (fun _ => rfl) (by omega) (by simp) (a' := b) (by rw [hbe]; rfl)]
              rw [isp_set (by omega)]
              have e4 : (rw0 4)[k]'(by omega) = b := by rw [← hbe]; simp [List.getD_eq_getElem?_getD, show k < (rw0 4).length by omega]
              rw [← e4, List.set_getElem_self]
            simp (maxSteps := 4000000) only [go_sem, seval]
            (repeat' (first
 | ((omega))
 | ((exfalso; omega))
 | refine awp_seqK ?_
 | refine kt ?_
 | refine And.intro ?_ ?_
 | ((first | refine awp_stp rfl ?_ | refine awp_draw (by kernel_rfl) (by kernel_rfl) ?_ | refine Imp.le2 ?_ | refine go_split (fun _h => ?_) (fun _h => ?_)) <;> try simp (maxSteps := 4000000) only [go_sem, seval, hn, hri, hm, hbe, Int.add_zero, e1, e1', e2])
 | intro _h
 | refine awp_block ?_
 | refine awp_scope ?_
 | refine cond_b ?_ ?_
 | (show heapOK _ _ = true; kernel_rfl)
 | (show heapOK2 _ _ = true; kernel_rfl)
 | (omega)))
            all_goals first | rfl | exact ⟨rfl, rfl⟩ | trace_state
          · rw [hk1]
            simp (maxSteps := 4000000) only [go_sem, seval]
            (repeat' (first
 | ((refine awp_segE (id := 10) [(3, some ⟨.osl 9 0 0 1, [], some (9, .cells 33 1 0 [.osl 8 0 0 m])⟩, []), (0, some ⟨.osl 3 5 0 5, [9], some (3, .cells 33 1 5 [.osl 4 0 0 m, .osl 5 0 0 m, .osl 6 0 0 m, .osl 7 0 0 m, .osl 8 0 0 m])⟩, [])] ?_; simp (maxSteps := 4000000) only [go_sem, seval, se_own, se_op, se_nil, List.take_succ_cons, List.take_zero, List.drop_succ_cons, List.drop_zero]; refine Classical.byContradiction fun hneg => ?_))
 | ((omega))
 | ((exfalso; omega))
 | refine awp_seqK ?_
 | refine kt ?_
 | refine And.intro ?_ ?_
 | ((first | refine awp_stp rfl ?_ | refine Imp.le2 ?_) <;> try simp (maxSteps := 4000000) only [go_sem, seval, hn])
 | intro _h
 | refine awp_block ?_
 | refine awp_scope ?_
 | refine cond_b ?_ ?_
 | (show heapOK _ _ = true; kernel_rfl)
 | (show heapOK2 _ _ = true; kernel_rfl)
 | (omega)))
            refine hneg ?_
            refine ⟨rfl, sound_litE rfl rfl tslice22 tsz33 tzero33 rfl (by decide) (by decide) (by decide) (by decide) rfl rfl, ?_⟩
            refine ⟨rfl, sound_appoo (d := 3) (gd := 4) (len := 4) (xs := [.osl 4 0 0 m, .osl 5 0 0 m, .osl 6 0 0 m, .osl 7 0 0 m]) (b := 9) (g := 0) (off := 0) (n := 1) (us := [.osl 8 0 0 m]) (ys := [.osl 8 0 0 m]) rfl tslice22 tsz33 tbytes33 tzero33 rfl (by decide) rfl rfl (by rfl) rfl rfl (by simp) (by decide) (by omega) (by omega) rfl, ?_⟩
            simp (maxSteps := 4000000) only [go_sem, seval, hseto]
            refine kt ?_
            (repeat' (first
 | ((omega))
 | ((exfalso; omega))
 | refine awp_seqK ?_
 | refine kt ?_
 | refine And.intro ?_ ?_
 | ((first | refine awp_stp rfl ?_ | refine awp_draw (by kernel_rfl) (by kernel_rfl) ?_ | refine Imp.le2 ?_ | refine go_split (fun _h => ?_) (fun _h => ?_)) <;> try simp (maxSteps := 4000000) only [go_sem, seval])
 | intro _h
 | refine awp_block ?_
 | refine awp_scope ?_
 | refine cond_b ?_ ?_
 | (show heapOK _ _ = true; kernel_rfl)
 | (show heapOK2 _ _ = true; kernel_rfl)
 | (omega)))
            all_goals first | rfl | exact ⟨rfl, rfl⟩ | trace_state
            all_goals trace_state
    · have hcases : i = 1 ∨ i = 2 ∨ i = 3 ∨ i = 4 ∨ i = 5 := by omega
      subst hi1
      rcases hcases with h9 | h9 | h9 | h9 | h9
      all_goals
        simp only [h9] at hn ⊢
        simp only [hWd, hBd, refB, tab1, tab2, tab3, tab4, tab5, List.cons_append, List.nil_append, Nat.reduceAdd, Nat.add_zero]; simp (maxSteps := 4000000) only [go_sem, seval]
        (repeat' (first
 | ((omega))
 | ((exfalso; omega))
 | refine awp_seqK ?_
 | refine kt ?_
 | refine And.intro ?_ ?_
 | ((first | refine awp_stp rfl ?_ | refine awp_draw (by kernel_rfl) (by kernel_rfl) ?_ | refine Imp.le2 ?_ | refine go_split (fun _h => ?_) (fun _h => ?_)) <;> try simp (maxSteps := 4000000) only [go_sem, seval, hn])
 | intro _h
 | refine awp_block ?_
 | refine awp_scope ?_
 | refine cond_b ?_ ?_
 | (show heapOK _ _ = true; kernel_rfl)
 | (show heapOK2 _ _ = true; kernel_rfl)
 | (omega)))
        all_goals trace_state
end Go.Am

/- Contracts: a slope with one truth of all its beds. -/
namespace Go.Am
open Go.RowKit Go.Proofs
attribute [local irreducible] AWP CallS Kt goK CallK stepK evOps SemF SemY Imp
set_option maxRecDepth 4000
set_option linter.unusedSimpArgs false
set_option linter.unusedVariables false
set_option maxHeartbeats 3200000
/-- A bed with one truth. -/
def sureB (b : Bed) (x : Reals) : Bed := ⟨b.drive, b.normal, x.fr, x.fr, x.co, x.co, x.wa, x.wa⟩
def stepW (wd : List Int) : List Int := if wd.length = 0 then wd else wd.drop 1 ++ [wd.getD 0 0]
def rowR (row : List Bed) (wd : List Int) : Nat → List Bed × List Int
  | 0 => (row, wd)
  | k + 1 => (isp (rowR row wd k).1 k (sureB (row.getD k default) (pickR (row.getD k default) (rowR row wd k).2)), stepW (rowR row wd k).2)
def wdR (s : Slope) (m : Nat) (words : List Int) : Nat → List Int
  | 0 => words
  | i + 1 => (rowR (s.cols.getD i []) (wdR s m words i) m).2
def newR (s : Slope) (m : Nat) (words : List Int) (i : Nat) : List Bed := (rowR (s.cols.getD i []) (wdR s m words i) m).1
def sureS (s : Slope) (m : Nat) (words : List Int) : Slope := ⟨tab s.cols.length (newR s m words), s.least⟩
theorem stepW_ok {wd : List Int} (h : wordsOK wd) : wordsOK (stepW wd) ∧ (stepW wd).length = wd.length := by
  unfold stepW
  split
  · exact ⟨h, rfl⟩
  · rename_i h0
    have hl : (wd.drop 1 ++ [wd.getD 0 0]).length = wd.length := by simp; omega
    refine ⟨⟨by rw [hl]; exact h.1, fun i hi => ?_⟩, hl⟩
    rw [hl] at hi
    by_cases e : i < wd.length - 1
    · have : (wd.drop 1 ++ [wd.getD 0 0]).getD i 0 = wd.getD (i + 1) 0 := by
        simp only [List.getD_eq_getElem?_getD]
        rw [List.getElem?_append_left (by simp; omega), List.getElem?_drop, Nat.add_comm 1 i]
      rw [this]; exact h.2 _ (by omega)
    · have e2 : i = wd.length - 1 := by omega
      have : (wd.drop 1 ++ [wd.getD 0 0]).getD i 0 = wd.getD 0 0 := by
        simp only [List.getD_eq_getElem?_getD]
        rw [List.getElem?_append_right (by simp; omega)]
        simp [e2]
      rw [this]; exact h.2 _ (by omega)
theorem rowR_ok {row : List Bed} {wd : List Int} {m : Nat} (hm : row.length = m) (hw : wordsOK wd) (hb : ∀ j, j < m → bedB (row.getD j default) = true) : ∀ k, k ≤ m → (rowR row wd k).1.length = m ∧ wordsOK (rowR row wd k).2 ∧ (∀ j, j < k → ∃ x, InR (row.getD j default) x ∧ (rowR row wd k).1.getD j default = sureB (row.getD j default) x) ∧ (∀ j, k ≤ j → (rowR row wd k).1.getD j default = row.getD j default)
  | 0, _ => ⟨hm, hw, fun j hj => by omega, fun j _ => rfl⟩
  | k + 1, hk => by
    obtain ⟨h1, h2, h3, h4⟩ := rowR_ok hm hw hb k (by omega)
    simp only [rowR]
    generalize rowR row wd k = R at *
    refine ⟨by rw [isp_length (by omega)]; exact h1, (stepW_ok h2).1, fun j hj => ?_, fun j hj => ?_⟩
    · rw [isp_getD (by omega)]
      by_cases e : j = k
      · subst e; rw [if_pos rfl]; exact ⟨_, pickR_in (hb j (by omega)) h2, rfl⟩
      · rw [if_neg e]; exact h3 j (by omega)
    · rw [isp_getD (by omega), if_neg (by omega)]; exact h4 j (by omega)
theorem wdR_ok {s : Slope} {m : Nat} {words : List Int} (h : SlopeOK s m) (hw : wordsOK words) : ∀ i, i ≤ s.cols.length → wordsOK (wdR s m words i)
  | 0, _ => hw
  | i + 1, hi => (rowR_ok (h.len i (by omega)) (wdR_ok h hw i (by omega)) (fun j hj => h.bed (by omega) hj) m (Nat.le_refl _)).2.1
theorem sureB_ok {b : Bed} {x : Reals} (hb : bedB b = true) (hx : InR b x) : bedB (sureB b x) = true := by
  have hb := of_decide_eq_true hb
  unfold InR at hx
  refine decide_eq_true ?_
  simp only [sureB]
  omega
theorem sureS_of {s : Slope} {m : Nat} {words : List Int} (h : SlopeOK s m) (hw : wordsOK words) : SureOf s (sureS s m words) m := by
  have hrow : ∀ i, i < s.cols.length → (newR s m words i).length = m ∧ ∀ j, j < m → ∃ x, InR (bedAt s i j) x ∧ (newR s m words i).getD j default = sureB (bedAt s i j) x := fun i hi => by
    obtain ⟨h1, h2, h3, h4⟩ := rowR_ok (h.len i hi) (wdR_ok h hw i (by omega)) (fun j hj => h.bed hi hj) m (Nat.le_refl _)
    exact ⟨h1, h3⟩
  have hcol : ∀ i, i < s.cols.length → (sureS s m words).cols.getD i [] = newR s m words i := fun i hi => tab_getD hi
  have hn : (sureS s m words).cols.length = s.cols.length := tab_length
  refine ⟨hn, rfl, ⟨by rw [hn]; exact h.cn, h.cm, h.lst, fun i hi => ?_, fun i hi => ?_⟩, fun i j hi hj => ?_⟩
  · rw [hn] at hi; rw [hcol i hi]; exact (hrow i hi).1
  · rw [hn] at hi
    rw [hcol i hi, all_getD (d := default)]
    intro j hj
    rw [(hrow i hi).1] at hj
    obtain ⟨x, hx1, hx2⟩ := (hrow i hi).2 j hj
    rw [hx2]; exact sureB_ok (h.bed hi hj) hx1
  · obtain ⟨x, hx1, hx2⟩ := (hrow i hi).2 j hj
    have e : bedAt (sureS s m words) i j = sureB (bedAt s i j) x := by unfold bedAt at hx2 ⊢; rw [hcol i hi]; exact hx2
    rw [e]
    exact ⟨rfl, rfl, by unfold leastV sureB; exact hx1⟩
theorem isp_isp {α : Type} {l : List α} {k : Nat} {a b : α} (h : k < l.length) : isp (isp l k a) k b = isp l k b := by
  rw [isp_set (by rw [isp_length h]; exact h), isp_set h, isp_set h, List.set_set]
theorem rl_bed {σ : Nat → Nat} : ∀ {l : List Bed}, renL σ (recs bedC l) = recs bedC l
  | [] => rfl
  | a :: l => by
    have ih := rl_bed (σ := σ) (l := l)
    show renL σ (bedC a ++ recs bedC l) = bedC a ++ recs bedC l
    simp only [bedC, List.cons_append, List.nil_append, renL, ren, ih]
attribute [go_sem] rl_bed
def bed1 (b : Bed) (x : Reals) : Bed := ⟨b.drive, b.normal, x.fr, x.fr, b.c1, b.c2, b.w1, b.w2⟩
def bed2 (b : Bed) (x : Reals) : Bed := ⟨b.drive, b.normal, x.fr, x.fr, x.co, x.co, b.w1, b.w2⟩
theorem u16s_drop {l : List Int} {k : Nat} : (u16s l).drop k = u16s (l.drop k) := by simp [u16s]
/-- The three writes of a bed. -/
theorem sp_bed1 {G : List Bed} {k : Nat} {b : Bed} {x : Reals} (hk : k < G.length) (hb : G.getD k default = b) : splice (recs bedC G) (k * 8 + 2) [.int .i64 x.fr, .int .i64 x.fr] = recs bedC (isp G k (bed1 b x)) := by
  subst hb
  exact sp_recs (d := default) (sz := 8) (fun _ => rfl) hk (by simp) rfl
theorem sp_bed2 {G : List Bed} {k : Nat} {b : Bed} {x : Reals} (hk : k < G.length) : splice (recs bedC (isp G k (bed1 b x))) (k * 8 + 4) [.int .i64 x.co, .int .i64 x.co] = recs bedC (isp G k (bed2 b x)) := by
  rw [sp_recs (d := default) (sz := 8) (fun _ => rfl) (by rw [isp_length hk]; exact hk) (by simp) (a' := bed2 b x) (by rw [isp_getD hk, if_pos rfl]; rfl), isp_isp hk]
theorem sp_bed3 {G : List Bed} {k : Nat} {b : Bed} {x : Reals} (hk : k < G.length) : splice (recs bedC (isp G k (bed2 b x))) (k * 8 + 6) [.int .i64 x.wa, .int .i64 x.wa] = recs bedC (isp G k (sureB b x)) := by
  rw [sp_recs (d := default) (sz := 8) (fun _ => rfl) (by rw [isp_length hk]; exact hk) (by simp) (a' := sureB b x) (by rw [isp_getD hk, if_pos rfl]; rfl), isp_isp hk]
end Go.Am
