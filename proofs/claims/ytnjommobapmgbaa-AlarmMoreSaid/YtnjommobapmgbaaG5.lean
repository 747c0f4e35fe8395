/- Parts AlN, AlO, AlP, AlR, BlA, RdC of the proof, one behind the other. No statement is proved here. -/
import Derived.Test.YtnjommobapmgbaaG4
set_option linter.unusedVariables false -- all
set_option linter.unusedSimpArgs false
/- Contracts of the alarm functions: a post at work. -/
namespace Go.Am
open Go.RowKit Go.Proofs
attribute [local irreducible] AWP CallS Kt goK CallK stepK evOps SemF SemY
set_option maxRecDepth 4000
set_option linter.unusedSimpArgs false
set_option linter.unusedVariables false
set_option maxHeartbeats 1600000
def watchC (p : Post) (mb : Nat) : List AV := postC p ++ [.map mb]
theorem begin_c (p : Post) (hb : p.errs.length ≤ 1000) : SemF Try.prog 72 [.agg (postC p)] [] (.ptr 2 0 0) [none, some (.map (mpC (canon p.errs.length fun _ => some (0, 1000)))), some (.cells 142 1 0 (watchC p 1))] := by
  (refine semF_of_awp (ys := [.ptr 2 0 0]) (fun w args => Try.call72 ..) Try.func72 rfl (fun w0 m0 wz => ?_); simp only [Try.ntmps72, Try.results72, initT, junks, postC, watchC, sl, List.toList_toArray, List.cons_append, List.nil_append, List.length_cons, List.length_nil, Nat.reduceAdd, Nat.reduceSub])
  (repeat' (first
 | refine awp_seqK ?_
 | refine kt ?_
 | refine And.intro ?_ ?_
 | ((first | refine awp_stp rfl ?_ | refine awp_draw (by kernel_rfl) (by kernel_rfl) ?_ | refine Imp.le2 ?_ | refine go_split (fun _h => ?_) (fun _h => ?_)) <;> try simp (maxSteps := 4000000) only [go_sem, seval, List.append_eq, List.cons_append, List.nil_append, postC, watchC])
 | intro _h
 | refine awp_block ?_
 | refine awp_scope ?_
 | (show heapOK _ _ = true; kernel_rfl)
 | (show heapOK2 _ _ = true; kernel_rfl)
 | (omega)))
  refine awp_loopN (p.errs.length + 1) (fun i => ⟨mkT 23 [(1, .ptr 0 0 0), (3, .ptr 2 0 0), (4, .int .i64 ((i : Int) - 1))], [some (.cells 51 1 0 (postC p)), some (.map (mpC (canon p.errs.length fun f => if f < (i : Int) - 1 then some (0, 1000) else none))), some (.cells 142 1 0 (watchC p 1))], []⟩) (.le2 ?_) ?_
  · simp only [postC, watchC]; simp (maxSteps := 4000000) only [go_sem, seval, List.append_eq, List.cons_append, List.nil_append, postC, watchC]
    rw [canon_none]
    · all_goals first | rfl | exact ⟨rfl, rfl⟩ | exact ⟨rfl, rfl, rfl⟩
    · intro j h1 h2; rw [if_neg (by omega)]
  · intro i hi
    simp only [postC, watchC]; simp (maxSteps := 4000000) only [go_sem, seval, List.append_eq, List.cons_append, List.nil_append, postC, watchC]
    (repeat' (first
 | refine awp_seqK ?_
 | refine kt ?_
 | refine And.intro ?_ ?_
 | ((first | refine awp_stp rfl ?_ | refine awp_draw (by kernel_rfl) (by kernel_rfl) ?_ | refine Imp.le2 ?_ | refine go_split (fun _h => ?_) (fun _h => ?_)) <;> try simp (maxSteps := 4000000) only [go_sem, seval, List.append_eq, List.cons_append, List.nil_append, postC, watchC])
 | intro _h
 | refine awp_block ?_
 | refine awp_scope ?_
 | (show heapOK _ _ = true; kernel_rfl)
 | (show heapOK2 _ _ = true; kernel_rfl)
 | (omega)))
    · rw [canon_put (by omega) (by omega) (.inr fun j h1 _ => if_neg (by omega))]
      congr 1
      refine canon_congr fun j h1 h2 => ?_
      simp only [updI]
      by_cases e : j = (i : Int) - 1
      · rw [if_pos e, if_pos (by omega)]
      · rw [if_neg e]
        by_cases h : j < (i : Int) - 1
        · rw [if_pos h, if_pos (by omega)]
        · rw [if_neg h, if_neg (by omega)]
    · congr 1
      exact canon_congr fun j h1 h2 => if_pos (by omega)
theorem failing_c (p : Post) (m : List (Int × Int × Int)) : SemF Try.prog 64 [.ptr 0 0 0] [some (.cells 142 1 0 (watchC p 1)), some (.map (mpC m))] (.fn (.func 87) [] [.ptr 2 0 0]) [some (.cells 142 1 0 (watchC p 1)), some (.map (mpC m)), some (.cells 115 1 0 [.ptr 0 0 0])] := by
  (refine semF_of_awp (ys := [.fn (.func 87) [] [.ptr 2 0 0]]) (fun w args => Try.call64 ..) Try.func64 rfl (fun w0 m0 wz => ?_); simp only [Try.ntmps64, Try.results64, initT, junks, postC, watchC, sl, List.toList_toArray, List.cons_append, List.nil_append, List.length_cons, List.length_nil, Nat.reduceAdd, Nat.reduceSub])
  (repeat' (first
 | refine awp_seqK ?_
 | refine kt ?_
 | refine And.intro ?_ ?_
 | ((first | refine awp_stp rfl ?_ | refine awp_draw (by kernel_rfl) (by kernel_rfl) ?_ | refine Imp.le2 ?_ | refine go_split (fun _h => ?_) (fun _h => ?_)) <;> try simp (maxSteps := 4000000) only [go_sem, seval, List.append_eq, List.cons_append, List.nil_append, postC, watchC])
 | intro _h
 | refine awp_block ?_
 | refine awp_scope ?_
 | (show heapOK _ _ = true; kernel_rfl)
 | (show heapOK2 _ _ = true; kernel_rfl)
 | (omega)))
def stepX (p : Post) (row : List Int) (first : Bool) (f : Int) (x : Int × Int) : Option (Int × Int) :=
  if agreedEnds p.errs row f = (1, 0) ∨ min (if first = true then x.2 else x.2 + p.gain) (agreedEnds p.errs row f).2 < max (if first = true then x.1 else x.1 - p.drop) (agreedEnds p.errs row f).1 then none
  else some (max (if first = true then x.1 else x.1 - p.drop) (agreedEnds p.errs row f).1, min (if first = true then x.2 else x.2 + p.gain) (agreedEnds p.errs row f).2)
def stepG (p : Post) (row : List Int) (first : Bool) (g : Int → Option (Int × Int)) : Int → Option (Int × Int) := fun f => (g f).bind (stepX p row first f)
def partG (p : Post) (row : List Int) (first : Bool) (g : Int → Option (Int × Int)) (i : Nat) : Int → Option (Int × Int) := fun f => if f < (i : Int) - 1 then stepG p row first g f else g f
structure PostOK (p : Post) : Prop where
  len : 1 ≤ p.errs.length ∧ p.errs.length ≤ 10
  errs : ∀ i, i < p.errs.length → 0 ≤ p.errs.getD i 0 ∧ p.errs.getD i 0 ≤ 1000
  gain : 0 ≤ p.gain ∧ p.gain ≤ 200
  drop : 0 ≤ p.drop ∧ p.drop ≤ 200
  fall : 1 ≤ p.fall ∧ p.fall ≤ 1000
  out : 0 ≤ p.out ∧ p.out ≤ 60
  ahead : 0 ≤ p.ahead ∧ p.ahead ≤ 60
structure RowOK (p : Post) (row : List Int) : Prop where
  len : row.length = p.errs.length
  reads : ∀ i, i < row.length → -1000 ≤ row.getD i 0 ∧ row.getD i 0 ≤ 2000
def GOK (g : Int → Option (Int × Int)) : Prop := ∀ f x, g f = some x → 0 ≤ x.1 ∧ x.1 ≤ x.2 ∧ x.2 ≤ 1000
def nxH (p : Post) (row : List Int) (first : Bool) (m : List (Int × Int × Int)) : List (Option ABlk) :=
  [some (.cells 142 1 0 (watchC p 1)), some (.map (mpC m)), some (.cells 115 1 0 [.ptr 0 0 0]), some (.cells 22 1 0 [sl row]), some (.cells 4 1 0 [.bool first]), some (.cells 123 1 0 [.fn (.func 68) [.agg (postC p)] []]), some (.cells 115 1 0 [.ptr 0 0 0])]
def nxT (row : List Int) : List AV := mkT 76 [(3, .ptr 2 0 0), (4, .ptr 3 0 0), (5, .ptr 4 0 0), (6, .ptr 5 0 0), (16, .fn (.func 87) [] [.ptr 6 0 0])]
theorem part_zero {p : Post} {row : List Int} {first : Bool} {g : Int → Option (Int × Int)} : canon p.errs.length (partG p row first g 0) = canon p.errs.length g :=
  canon_congr fun j h1 h2 => by simp only [partG]; rw [if_neg (by omega)]
theorem part_all {p : Post} {row : List Int} {first : Bool} {g : Int → Option (Int × Int)} {i : Nat} (h : p.errs.length < i) : canon p.errs.length (partG p row first g i) = canon p.errs.length (stepG p row first g) :=
  canon_congr fun j h1 h2 => by simp only [partG]; rw [if_pos (by omega)]
theorem part_succ {p : Post} {row : List Int} {first : Bool} {g : Int → Option (Int × Int)} {i : Nat} : partG p row first g (i + 1) = updI (partG p row first g i) ((i : Int) - 1) (stepG p row first g ((i : Int) - 1)) := by
  funext f
  simp only [partG, updI]
  by_cases e : f = (i : Int) - 1
  · rw [if_pos e, if_pos (by omega), e]
  · rw [if_neg e]
    by_cases h : f < (i : Int) - 1
    · rw [if_pos h, if_pos (by omega)]
    · rw [if_neg h, if_neg (by omega)]
theorem next_c (p : Post) (g : Int → Option (Int × Int)) (row : List Int) (first : Bool) (hp : PostOK p) (hr : RowOK p row) (hg : GOK g) : SemF Try.prog 73 [.ptr 0 0 0, sl row, .bool first] [some (.cells 142 1 0 (watchC p 1)), some (.map (mpC (canon p.errs.length g)))] (.tup []) [some (.cells 142 1 0 (watchC p 1)), some (.map (mpC (canon p.errs.length (stepG p row first g))))] := by
  obtain ⟨hl1, hl2⟩ := hp.len
  (refine semF_of_awp (ys := []) (fun w args => Try.call73 ..) Try.func73 rfl (fun w0 m0 wz => ?_); simp only [Try.ntmps73, Try.results73, initT, junks, postC, watchC, sl, List.toList_toArray, List.cons_append, List.nil_append, List.length_cons, List.length_nil, Nat.reduceAdd, Nat.reduceSub])
  ((repeat refine awp_seqK ?_); refine awp_region ?_; simp (maxSteps := 4000000) only [go_sem, seval, List.append_eq, List.cons_append, List.nil_append, postC, watchC]; refine kt ?_)
  ((repeat refine awp_seqK ?_); refine awp_region ?_; simp (maxSteps := 4000000) only [go_sem, seval, List.append_eq, List.cons_append, List.nil_append, postC, watchC]; refine kt ?_)
  ((repeat refine awp_seqK ?_); refine awp_ownN 1 rfl ?_; simp (maxSteps := 4000000) only [go_sem, seval, List.append_eq, List.cons_append, List.nil_append, postC, watchC, List.take_succ_cons, List.take_zero]; refine own_go (failing_c p (canon p.errs.length g)) [0, 1] rfl (by simp (maxSteps := 4000000) only [go_sem, seval, List.append_eq, List.cons_append, List.nil_append, postC, watchC]) (by simp (maxSteps := 4000000) only [go_sem, seval, List.append_eq, List.cons_append, List.nil_append, postC, watchC, Nat.lt_irrefl] <;> decide) rfl ?_; simp (maxSteps := 4000000) only [go_sem, seval, List.append_eq, List.cons_append, List.nil_append, postC, watchC]; refine kt ?_)
  refine awp_block ?_
  refine AWP.le2 (s' := ⟨nxT row, nxH p row first (canon p.errs.length g), []⟩) (by simp only [nxT, nxH, postC, watchC]; simp (maxSteps := 4000000) only [go_sem, seval, List.append_eq, List.cons_append, List.nil_append, postC, watchC]) ?_
  refine awp_rangeZ (gf := 87) (first := []) (caps := [.ptr 6 0 0]) (by simp only [nxT]; simp (maxSteps := 4000000) only [go_sem, seval, List.append_eq, List.cons_append, List.nil_append, postC, watchC]) 7 rfl ?_
  intro ca cb hca hcb
  refine ⟨.tup [], nxH p row first (canon p.errs.length (stepG p row first g)) ++ [some (.dfr true), some (.loop .ready none 0 (nxT row) #[17, 18] ca cb 7)], .ready, none, .normal, ?_, ?_, by simp, rfl, ?_⟩
  · simp only [nxH, nxT, postC, watchC]
    simp (maxSteps := 4000000) only [go_sem, seval, List.append_eq, List.cons_append, List.nil_append, postC, watchC]
    (refine semF_of_awp (ys := []) (fun w args => Try.call87 ..) Try.func87 rfl (fun w0 m0 wz => ?_); simp only [Try.ntmps87, Try.results87, initT, junks, postC, watchC, sl, List.toList_toArray, List.cons_append, List.nil_append, List.length_cons, List.length_nil, Nat.reduceAdd, Nat.reduceSub])
    (repeat' (first
 | refine awp_seqK ?_
 | refine kt ?_
 | refine And.intro ?_ ?_
 | ((first | refine awp_stp rfl ?_ | refine awp_draw (by kernel_rfl) (by kernel_rfl) ?_ | refine Imp.le2 ?_ | refine go_split (fun _h => ?_) (fun _h => ?_)) <;> try simp (maxSteps := 4000000) only [go_sem, seval, List.append_eq, List.cons_append, List.nil_append, postC, watchC])
 | intro _h
 | refine awp_block ?_
 | refine awp_scope ?_
 | (show heapOK _ _ = true; kernel_rfl)
 | (show heapOK2 _ _ = true; kernel_rfl)
 | (omega)))
    refine awp_loopN (p.errs.length + 1) (fun i => ⟨mkT 33 [(0, .fn (.yield 8) [] []), (1, .ptr 6 0 0), (3, .int .i64 ((i : Int) - 1))], nxH p row first (canon p.errs.length (partG p row first g i)) ++ [some (.dfr true), some (.loop .ready none 0 (nxT row) #[17, 18] ca cb 7)], []⟩) (.le2 ?_) ?_
    · simp only [nxH, nxT, postC, watchC]; simp (maxSteps := 4000000) only [go_sem, seval, List.append_eq, List.cons_append, List.nil_append, postC, watchC]
      rw [part_zero]
      all_goals first | rfl | exact ⟨rfl, rfl⟩ | exact ⟨rfl, rfl, rfl⟩
    · intro i hi
      have hgi := canon_get (n := p.errs.length) (g := partG p row first g i) (j := (i : Int) - 1) (by omega)
      have hgi' : partG p row first g i ((i : Int) - 1) = g ((i : Int) - 1) := by simp only [partG]; rw [if_neg (by omega)]
      cases hx : g ((i : Int) - 1) with
      | none =>
        simp only [nxH, nxT, postC, watchC]; simp (maxSteps := 4000000) only [go_sem, seval, List.append_eq, List.cons_append, List.nil_append, postC, watchC]
        (repeat' (first
 | ((rw [mget_none ((hgi (by omega)).trans (hgi'.trans hx))]; simp (maxSteps := 4000000) only [go_sem, seval, List.append_eq, List.cons_append, List.nil_append, postC, watchC]))
 | ((show zeroOK _ = true; rfl))
 | refine awp_seqK ?_
 | refine kt ?_
 | refine And.intro ?_ ?_
 | ((first | refine awp_stp rfl ?_ | refine awp_draw (by kernel_rfl) (by kernel_rfl) ?_ | refine Imp.le2 ?_ | refine go_split (fun _h => ?_) (fun _h => ?_)) <;> try simp (maxSteps := 4000000) only [go_sem, seval, List.append_eq, List.cons_append, List.nil_append, postC, watchC])
 | intro _h
 | refine awp_block ?_
 | refine awp_scope ?_
 | (show heapOK _ _ = true; kernel_rfl)
 | (show heapOK2 _ _ = true; kernel_rfl)
 | (omega)))
        · have e : partG p row first g (i + 1) = partG p row first g i := by
            rw [part_succ]; funext f; simp only [updI]
            by_cases e : f = (i : Int) - 1
            · rw [if_pos e, e, hgi', hx]; simp [stepG, hx]
            · rw [if_neg e]
          rw [e]
        · rw [part_all (by omega)]
      | some x =>
        simp only [nxH, nxT, postC, watchC]; simp (maxSteps := 4000000) only [go_sem, seval, List.append_eq, List.cons_append, List.nil_append, postC, watchC]
        (repeat' (first
 | ((rw [mget_some ((hgi (by omega)).trans (hgi'.trans hx))]; simp (maxSteps := 4000000) only [go_sem, seval, List.append_eq, List.cons_append, List.nil_append, postC, watchC]))
 | ((show zeroOK _ = true; rfl))
 | ((refine awp_ownN 5 rfl ?_; simp (maxSteps := 4000000) only [go_sem, seval, List.append_eq, List.cons_append, List.nil_append, postC, watchC, List.take_succ_cons, List.take_zero]; refine callH_yield true (nxH p row first (canon p.errs.length (partG p row first g (i + 1))) ++ [some (.dfr true), some (.loop .ready none 0 (nxT row) #[17, 18] ca cb 7), some (.cells 122 1 0 [.int .i64 x.1, .int .i64 x.2])]) ?_ ?_ <;> simp only [nxH, nxT, postC, watchC] <;> (try simp (maxSteps := 4000000) only [go_sem, seval, List.append_eq, List.cons_append, List.nil_append, postC, watchC])))
 | refine awp_seqK ?_
 | refine kt ?_
 | refine And.intro ?_ ?_
 | ((first | refine awp_stp rfl ?_ | refine awp_draw (by kernel_rfl) (by kernel_rfl) ?_ | refine Imp.le2 ?_ | refine go_split (fun _h => ?_) (fun _h => ?_)) <;> try simp (maxSteps := 4000000) only [go_sem, seval, List.append_eq, List.cons_append, List.nil_append, postC, watchC])
 | intro _h
 | refine awp_block ?_
 | refine awp_scope ?_
 | (show heapOK _ _ = true; kernel_rfl)
 | (show heapOK2 _ _ = true; kernel_rfl)
 | (omega)))
        · have hx1 := hg _ _ hx
          have hd := hp.drop
          have hga := hp.gain
          have hag := agreed_c p row ((i : Int) - 1) hr.len (by have := hr.len; omega) hr.reads hp.errs
          simp only [postC] at hag
          have hst : stepG p row first g ((i : Int) - 1) = stepX p row first ((i : Int) - 1) x := by simp [stepG, hx]
          rw [part_succ, hst]
          simp only [stepX]
          generalize agreedEnds p.errs row ((i : Int) - 1) = y at *
          obtain ⟨y1, y2⟩ := y
          cases first
          · refine semY_of_awpZ rfl rfl ?_
            intro B w0 l m w
            refine awp_code hca ?_
            (repeat' (first
 | refine awp_seqK ?_
 | refine kt ?_
 | refine And.intro ?_ ?_
 | ((first | refine awp_stp rfl ?_ | refine awp_draw (by kernel_rfl) (by kernel_rfl) ?_ | refine Imp.le2 ?_ | refine go_split (fun _h => ?_) (fun _h => ?_)) <;> try simp (maxSteps := 4000000) only [go_sem, seval, List.append_eq, List.cons_append, List.nil_append, postC, watchC])
 | intro _h
 | refine awp_block ?_
 | refine awp_scope ?_
 | (show heapOK _ _ = true; kernel_rfl)
 | (show heapOK2 _ _ = true; kernel_rfl)
 | (omega)))
            refine awp_code hcb ?_
            (repeat' (first
 | refine awp_seqK ?_
 | refine kt ?_
 | refine And.intro ?_ ?_
 | ((first | refine awp_stp rfl ?_ | refine awp_draw (by kernel_rfl) (by kernel_rfl) ?_ | refine Imp.le2 ?_ | refine callK_of (hag) ?_ | refine callK_of (greatest_c _ _ _) ?_ | refine callK_of (least_c _ _ _) ?_ | refine callK_of (nothing_c) ?_ | refine go_split (fun _h => ?_) (fun _h => ?_)) <;> try simp (maxSteps := 4000000) only [go_sem, seval, List.append_eq, List.cons_append, List.nil_append, postC, watchC])
 | intro _h
 | refine awp_block ?_
 | refine awp_scope ?_
 | (show heapOK _ _ = true; kernel_rfl)
 | (show heapOK2 _ _ = true; kernel_rfl)
 | (omega)))
            all_goals simp only [Bool.false_eq_true, if_false, if_true, Prod.mk.injEq]
            all_goals first
              | (rw [canon_del, if_pos (by omega)])
              | (rw [canon_put (by omega) (by omega) (.inl (by rw [hgi', hx]; rfl)), if_neg (by omega)])
          · refine semY_of_awpZ rfl rfl ?_
            intro B w0 l m w
            refine awp_code hca ?_
            (repeat' (first
 | refine awp_seqK ?_
 | refine kt ?_
 | refine And.intro ?_ ?_
 | ((first | refine awp_stp rfl ?_ | refine awp_draw (by kernel_rfl) (by kernel_rfl) ?_ | refine Imp.le2 ?_ | refine go_split (fun _h => ?_) (fun _h => ?_)) <;> try simp (maxSteps := 4000000) only [go_sem, seval, List.append_eq, List.cons_append, List.nil_append, postC, watchC])
 | intro _h
 | refine awp_block ?_
 | refine awp_scope ?_
 | (show heapOK _ _ = true; kernel_rfl)
 | (show heapOK2 _ _ = true; kernel_rfl)
 | (omega)))
            refine awp_code hcb ?_
            (repeat' (first
 | refine awp_seqK ?_
 | refine kt ?_
 | refine And.intro ?_ ?_
 | ((first | refine awp_stp rfl ?_ | refine awp_draw (by kernel_rfl) (by kernel_rfl) ?_ | refine Imp.le2 ?_ | refine callK_of (hag) ?_ | refine callK_of (greatest_c _ _ _) ?_ | refine callK_of (least_c _ _ _) ?_ | refine callK_of (nothing_c) ?_ | refine go_split (fun _h => ?_) (fun _h => ?_)) <;> try simp (maxSteps := 4000000) only [go_sem, seval, List.append_eq, List.cons_append, List.nil_append, postC, watchC])
 | intro _h
 | refine awp_block ?_
 | refine awp_scope ?_
 | (show heapOK _ _ = true; kernel_rfl)
 | (show heapOK2 _ _ = true; kernel_rfl)
 | (omega)))
            all_goals simp only [Bool.false_eq_true, if_false, if_true, Prod.mk.injEq]
            all_goals first
              | (rw [canon_del, if_pos (by omega)])
              | (rw [canon_put (by omega) (by omega) (.inl (by rw [hgi', hx]; rfl)), if_neg (by omega)])
        · rw [part_all (by omega)]
  · rfl
  · simp only [nxH, nxT, postC, watchC]
    simp (maxSteps := 4000000) only [go_sem, seval, List.append_eq, List.cons_append, List.nil_append, postC, watchC]
end Go.Am

/- Contracts of the alarm functions: the errors of posts with reads, levels. -/
namespace Go.Am
open Go.RowKit Go.Proofs
attribute [local irreducible] AWP CallS Kt goK CallK stepK evOps SemF SemY
set_option maxRecDepth 4000
set_option linter.unusedSimpArgs false
set_option linter.unusedVariables false
set_option maxHeartbeats 1600000
/-- Lists of lists of numbers. -/
def rowsC (l : List (List Int)) : List AV := l.map sl
def sll (l : List (List Int)) : AV := .psl false l.length (rowsC l)
theorem rowsC_length {l : List (List Int)} : (rowsC l).length = l.length := by simp [rowsC]
theorem rowsC_nil : rowsC [] = [] := rfl
theorem rowsC_snoc {l : List (List Int)} {r : List Int} : rowsC (l ++ [r]) = rowsC l ++ [sl r] := by simp [rowsC]
theorem pl_rows {l : List (List Int)} : pureL (rowsC l) = True := by
  simp only [pureL, rowsC, List.mem_map, eq_iff_iff, iff_true]
  rintro _ ⟨a, _, rfl⟩; rfl
theorem lv_rows {l : List (List Int)} {p : Nat → Bool} : (rowsC l).all (live2 p) = true := by
  simp only [rowsC, List.all_map, List.all_eq_true]
  intro z _; rfl
theorem nth_rows {l : List (List Int)} {j : Nat} {K : AV → Prop} : optK (nth (rowsC l) j) K = (j < l.length ∧ K (.psl false (l.getD j []).length (ints (l.getD j [])))) := by
  rw [← nth_is]
  simp only [rowsC, List.getElem?_map]
  by_cases h : j < l.length
  · simp [h, optK, List.getD_eq_getElem?_getD, sl]
  · simp [h, optK]
attribute [go_sem] rowsC_length rowsC_nil pl_rows lv_rows nth_rows
def postB (p : Post) : Bool := decide ((1 ≤ p.errs.length ∧ p.errs.length ≤ 10) ∧ p.errs.all speedB = true ∧ (0 ≤ p.gain ∧ p.gain ≤ 200) ∧ (0 ≤ p.drop ∧ p.drop ≤ 200) ∧ (1 ≤ p.fall ∧ p.fall ≤ 1000) ∧ (0 ≤ p.out ∧ p.out ≤ 60) ∧ (0 ≤ p.ahead ∧ p.ahead ≤ 60))
def readB (n : Int) : Bool := decide (-1000 ≤ n ∧ n ≤ 2000)
def rowB (p : Post) (row : List Int) : Bool := decide (row.length = p.errs.length) && row.all readB
def faultP (p : Post) (reads : List (List Int)) : Int := if postB p = false then 1 else if 60 < reads.length then 3 else if reads.all (rowB p) = true then 0 else 2
theorem hours_c (n : Int) : CallS Try.prog 88 [.int .i64 n] (.bool (decide (0 ≤ n ∧ n ≤ 60))) := by
  (refine callS_of_awp (fun w args => Try.call88 ..) Try.func88 rfl (fun w0 m0 wz => ?_); simp only [Try.ntmps88, Try.results88, initT, junks, postC, watchC, sll, sl, List.toList_toArray, List.cons_append, List.nil_append, List.length_cons, List.length_nil, Nat.reduceAdd, Nat.reduceSub])
  (repeat' (first
 | refine awp_seqK ?_
 | refine kt ?_
 | refine And.intro ?_ ?_
 | ((first | refine awp_stp rfl ?_ | refine awp_draw (by kernel_rfl) (by kernel_rfl) ?_ | refine Imp.le2 ?_ | refine callK_of (within_c _ _ _) ?_ | refine go_split (fun _h => ?_) (fun _h => ?_)) <;> try simp (maxSteps := 4000000) only [go_sem, seval, List.append_eq, List.cons_append, List.nil_append, postC, watchC, sll])
 | intro _h
 | refine awp_block ?_
 | refine awp_scope ?_
 | (show heapOK _ _ = true; kernel_rfl)
 | (show heapOK2 _ _ = true; kernel_rfl)
 | (omega)))
theorem step_c (n : Int) : CallS Try.prog 89 [.int .i64 n] (.bool (decide (0 ≤ n ∧ n ≤ 200))) := by
  (refine callS_of_awp (fun w args => Try.call89 ..) Try.func89 rfl (fun w0 m0 wz => ?_); simp only [Try.ntmps89, Try.results89, initT, junks, postC, watchC, sll, sl, List.toList_toArray, List.cons_append, List.nil_append, List.length_cons, List.length_nil, Nat.reduceAdd, Nat.reduceSub])
  (repeat' (first
 | refine awp_seqK ?_
 | refine kt ?_
 | refine And.intro ?_ ?_
 | ((first | refine awp_stp rfl ?_ | refine awp_draw (by kernel_rfl) (by kernel_rfl) ?_ | refine Imp.le2 ?_ | refine callK_of (within_c _ _ _) ?_ | refine go_split (fun _h => ?_) (fun _h => ?_)) <;> try simp (maxSteps := 4000000) only [go_sem, seval, List.append_eq, List.cons_append, List.nil_append, postC, watchC, sll])
 | intro _h
 | refine awp_block ?_
 | refine awp_scope ?_
 | (show heapOK _ _ = true; kernel_rfl)
 | (show heapOK2 _ _ = true; kernel_rfl)
 | (omega)))
theorem read_c (n : Int) : CallS Try.prog 85 [.int .i64 n] (.bool (readB n)) := by
  unfold readB
  (refine callS_of_awp (fun w args => Try.call85 ..) Try.func85 rfl (fun w0 m0 wz => ?_); simp only [Try.ntmps85, Try.results85, initT, junks, postC, watchC, sll, sl, List.toList_toArray, List.cons_append, List.nil_append, List.length_cons, List.length_nil, Nat.reduceAdd, Nat.reduceSub])
  (repeat' (first
 | refine awp_seqK ?_
 | refine kt ?_
 | refine And.intro ?_ ?_
 | ((first | refine awp_stp rfl ?_ | refine awp_draw (by kernel_rfl) (by kernel_rfl) ?_ | refine Imp.le2 ?_ | refine callK_of (within_c _ _ _) ?_ | refine go_split (fun _h => ?_) (fun _h => ?_)) <;> try simp (maxSteps := 4000000) only [go_sem, seval, List.append_eq, List.cons_append, List.nil_append, postC, watchC, sll])
 | intro _h
 | refine awp_block ?_
 | refine awp_scope ?_
 | (show heapOK _ _ = true; kernel_rfl)
 | (show heapOK2 _ _ = true; kernel_rfl)
 | (omega)))
theorem valid_c (p : Post) (hb : p.errs.length ≤ 9223372036854775807) : CallS Try.prog 65 [.agg (postC p)] (.bool (postB p)) := by
  have ha := all_int p.errs 71 speedB hb (fun i _ => speed_c _)
  simp only [sl] at ha
  unfold postB
  generalize p.errs.all speedB = al at *
  (refine callS_of_awp (fun w args => Try.call65 ..) Try.func65 rfl (fun w0 m0 wz => ?_); simp only [Try.ntmps65, Try.results65, initT, junks, postC, watchC, sll, sl, List.toList_toArray, List.cons_append, List.nil_append, List.length_cons, List.length_nil, Nat.reduceAdd, Nat.reduceSub])
  (repeat' (first
 | refine awp_seqK ?_
 | refine kt ?_
 | refine And.intro ?_ ?_
 | ((first | refine awp_stp rfl ?_ | refine awp_draw (by kernel_rfl) (by kernel_rfl) ?_ | refine Imp.le2 ?_ | refine callK_of (within_c _ _ _) ?_ | refine callK_of (ha) ?_ | refine callK_of (hours_c _) ?_ | refine callK_of (step_c _) ?_ | refine go_split (fun _h => ?_) (fun _h => ?_)) <;> try simp (maxSteps := 4000000) only [go_sem, seval, List.append_eq, List.cons_append, List.nil_append, postC, watchC, sll])
 | intro _h
 | refine awp_block ?_
 | refine awp_scope ?_
 | (show heapOK _ _ = true; kernel_rfl)
 | (show heapOK2 _ _ = true; kernel_rfl)
 | (omega)))
  all_goals ((try simp only [decide_eq_true_eq, decide_eq_false_iff_not]); simp_all; try omega)
theorem allrows {p : Post} {reads : List (List Int)} {i : Nat} (hi : i < reads.length) (h : rowB p (reads.getD i []) = false) : reads.all (rowB p) = false := by
  rw [List.all_eq_false]
  refine ⟨reads[i], List.getElem_mem hi, ?_⟩
  rw [show reads.getD i [] = reads[i] by simp [List.getD_eq_getElem?_getD, hi]] at h
  simp [h]
theorem allrows' {p : Post} {reads : List (List Int)} (h : ∀ i, i < reads.length → rowB p (reads.getD i []) = true) : reads.all (rowB p) = true := by
  rw [List.all_eq_true]
  intro r hr
  obtain ⟨j, hj, rfl⟩ := List.mem_iff_getElem.1 hr
  have := h j hj
  rwa [show reads.getD j [] = reads[j] by simp [List.getD_eq_getElem?_getD, hj]] at this
theorem check_c (p : Post) (reads : List (List Int)) (hb : p.errs.length ≤ 9223372036854775807) (hr : reads.length ≤ 9223372036854775807) (hrr : ∀ i, i < reads.length → (reads.getD i []).length ≤ 9223372036854775807) : CallS Try.prog 62 [.agg (postC p), sll reads] (.int .i64 (faultP p reads)) := by
  have ha := valid_c p hb
  simp only [postC, sl] at ha
  unfold faultP
  (refine callS_of_awp (fun w args => Try.call62 ..) Try.func62 rfl (fun w0 m0 wz => ?_); simp only [Try.ntmps62, Try.results62, initT, junks, postC, watchC, sll, sl, List.toList_toArray, List.cons_append, List.nil_append, List.length_cons, List.length_nil, Nat.reduceAdd, Nat.reduceSub])
  (repeat' (first
 | refine awp_seqK ?_
 | refine kt ?_
 | refine And.intro ?_ ?_
 | ((first | refine awp_stp rfl ?_ | refine awp_draw (by kernel_rfl) (by kernel_rfl) ?_ | refine Imp.le2 ?_ | refine callK_of (ha) ?_ | refine go_split (fun _h => ?_) (fun _h => ?_)) <;> try simp (maxSteps := 4000000) only [go_sem, seval, List.append_eq, List.cons_append, List.nil_append, postC, watchC, sll])
 | intro _h
 | refine awp_block ?_
 | refine awp_scope ?_
 | (show heapOK _ _ = true; kernel_rfl)
 | (show heapOK2 _ _ = true; kernel_rfl)
 | (omega)))
  · simp [*]; omega
  · refine awp_loopJ (fun i : Nat => i ≤ reads.length ∧ ∀ j, j < i → rowB p (reads.getD j []) = true) (fun i => ⟨mkT 35 [(1, sll reads), (2, .ptr 0 0 0), (5, .int .i64 0), (16, sll reads), (17, .int .i64 reads.length), (18, .int .i64 i)], [some (.cells 51 1 0 (postC p))], []⟩) (fun i => reads.length - i) 0 ⟨Nat.zero_le _, by simp⟩ (.le2 ?_) ?_
    · simp only [postC]; simp (maxSteps := 4000000) only [go_sem, seval, List.append_eq, List.cons_append, List.nil_append, postC, watchC, sll]
    · rintro i ⟨hi, hj⟩
      have hall := all_int (reads.getD i []) 85 readB
      simp only [sl] at hall
      simp only [postC]; simp (maxSteps := 4000000) only [go_sem, seval, List.append_eq, List.cons_append, List.nil_append, postC, watchC, sll]
      (repeat' (first
 | refine awp_seqK ?_
 | refine kt ?_
 | refine And.intro ?_ ?_
 | ((first | refine awp_stp rfl ?_ | refine awp_draw (by kernel_rfl) (by kernel_rfl) ?_ | refine Imp.le2 ?_ | refine callK_of (hall (hrr i (by omega)) (fun k _ => read_c _)) ?_ | refine go_split (fun _h => ?_) (fun _h => ?_)) <;> try simp (maxSteps := 4000000) only [go_sem, seval, List.append_eq, List.cons_append, List.nil_append, postC, watchC, sll])
 | intro _h
 | refine awp_block ?_
 | refine awp_scope ?_
 | (show heapOK _ _ = true; kernel_rfl)
 | (show heapOK2 _ _ = true; kernel_rfl)
 | (omega)))
      · refine ⟨i + 1, ⟨by omega, fun j hji => ?_⟩, by omega, .le2 ?_⟩
        · rcases Nat.lt_succ_iff_lt_or_eq.1 hji with h | rfl
          · exact hj j h
          · simp only [rowB, Bool.and_eq_true, decide_eq_true_eq]; exact ⟨by omega, ‹_›⟩
        · simp (maxSteps := 4000000) only [go_sem, seval, List.append_eq, List.cons_append, List.nil_append, postC, watchC, sll]
          omega
      · rw [if_neg (by simp [*]), if_neg (by omega), if_neg (by rw [allrows (i := i) (by omega) (by simp only [rowB, Bool.and_eq_false_iff]; exact .inr ‹_›)]; simp)]
      · rw [if_neg (by simp [*]), if_neg (by omega), if_neg (by rw [allrows (i := i) (by omega) (by simp only [rowB, Bool.and_eq_false_iff, decide_eq_false_iff_not]; exact .inl (by omega))]; simp)]
      · rw [if_neg (by simp [*]), if_neg (by omega), if_pos (allrows' fun j h => hj j (by omega))]
  · simp [*]
def leftOf (p : Post) (v : Int) : Int := if p.fall ≤ v then 0 else if p.gain = 0 then 1073741824 else (p.fall - v + p.gain - 1).tdiv p.gain
def levelOf (p : Post) (v : Int) : Int := if leftOf p v ≤ p.out then 3 else if leftOf p v ≤ p.out + p.ahead then 2 else if leftOf p v ≤ p.out + 2 * p.ahead then 1 else 0
theorem leftOf_bd {p : Post} {v : Int} (hp : PostOK p) (hv : -1000000 ≤ v) : 0 ≤ leftOf p v ∧ leftOf p v ≤ 1073741824 := by
  have h1 := hp.fall
  have h2 := hp.gain
  unfold leftOf
  split
  · omega
  · split
    · omega
    · have h3 : 0 ≤ p.fall - v + p.gain - 1 := by omega
      rw [Int.tdiv_eq_ediv_of_nonneg h3]
      refine ⟨Int.ediv_nonneg h3 h2.1, ?_⟩
      exact Int.le_trans (Int.ediv_le_self _ h3) (by omega)
theorem left_c (p : Post) (v : Int) (hp : PostOK p) (hv : -1000000 ≤ v ∧ v ≤ 1000000) : CallS Try.prog 104 [.agg (postC p), .int .i64 v] (.int .i64 (leftOf p v)) := by
  have h1 := hp.fall
  have h2 := hp.gain
  have hb := leftOf_bd hp hv.1
  unfold leftOf at *
  (refine callS_of_awp (fun w args => Try.call104 ..) Try.func104 rfl (fun w0 m0 wz => ?_); simp only [Try.ntmps104, Try.results104, initT, junks, postC, watchC, sll, sl, List.toList_toArray, List.cons_append, List.nil_append, List.length_cons, List.length_nil, Nat.reduceAdd, Nat.reduceSub])
  (repeat' (first
 | refine awp_seqK ?_
 | refine kt ?_
 | refine And.intro ?_ ?_
 | ((first | refine awp_stp rfl ?_ | refine awp_draw (by kernel_rfl) (by kernel_rfl) ?_ | refine Imp.le2 ?_ | refine go_split (fun _h => ?_) (fun _h => ?_)) <;> try simp (maxSteps := 4000000) only [go_sem, seval, List.append_eq, List.cons_append, List.nil_append, postC, watchC, sll])
 | intro _h
 | refine awp_block ?_
 | refine awp_scope ?_
 | (show heapOK _ _ = true; kernel_rfl)
 | (show heapOK2 _ _ = true; kernel_rfl)
 | (omega)))
theorem lev1_c (p : Post) : CallS Try.prog 105 [.agg (postC p)] (.int .i64 p.out) := by
  (refine callS_of_awp (fun w args => Try.call105 ..) Try.func105 rfl (fun w0 m0 wz => ?_); simp only [Try.ntmps105, Try.results105, initT, junks, postC, watchC, sll, sl, List.toList_toArray, List.cons_append, List.nil_append, List.length_cons, List.length_nil, Nat.reduceAdd, Nat.reduceSub])
  (repeat' (first
 | refine awp_seqK ?_
 | refine kt ?_
 | refine And.intro ?_ ?_
 | ((first | refine awp_stp rfl ?_ | refine awp_draw (by kernel_rfl) (by kernel_rfl) ?_ | refine Imp.le2 ?_ | refine go_split (fun _h => ?_) (fun _h => ?_)) <;> try simp (maxSteps := 4000000) only [go_sem, seval, List.append_eq, List.cons_append, List.nil_append, postC, watchC, sll])
 | intro _h
 | refine awp_block ?_
 | refine awp_scope ?_
 | (show heapOK _ _ = true; kernel_rfl)
 | (show heapOK2 _ _ = true; kernel_rfl)
 | (omega)))
theorem lev2_c (p : Post) (hp : PostOK p) : CallS Try.prog 106 [.agg (postC p)] (.int .i64 (p.out + p.ahead)) := by
  have := hp.out
  have := hp.ahead
  (refine callS_of_awp (fun w args => Try.call106 ..) Try.func106 rfl (fun w0 m0 wz => ?_); simp only [Try.ntmps106, Try.results106, initT, junks, postC, watchC, sll, sl, List.toList_toArray, List.cons_append, List.nil_append, List.length_cons, List.length_nil, Nat.reduceAdd, Nat.reduceSub])
  (repeat' (first
 | refine awp_seqK ?_
 | refine kt ?_
 | refine And.intro ?_ ?_
 | ((first | refine awp_stp rfl ?_ | refine awp_draw (by kernel_rfl) (by kernel_rfl) ?_ | refine Imp.le2 ?_ | refine go_split (fun _h => ?_) (fun _h => ?_)) <;> try simp (maxSteps := 4000000) only [go_sem, seval, List.append_eq, List.cons_append, List.nil_append, postC, watchC, sll])
 | intro _h
 | refine awp_block ?_
 | refine awp_scope ?_
 | (show heapOK _ _ = true; kernel_rfl)
 | (show heapOK2 _ _ = true; kernel_rfl)
 | (omega)))
theorem lev3_c (p : Post) (hp : PostOK p) : CallS Try.prog 107 [.agg (postC p)] (.int .i64 (p.out + 2 * p.ahead)) := by
  have := hp.out
  have := hp.ahead
  (refine callS_of_awp (fun w args => Try.call107 ..) Try.func107 rfl (fun w0 m0 wz => ?_); simp only [Try.ntmps107, Try.results107, initT, junks, postC, watchC, sll, sl, List.toList_toArray, List.cons_append, List.nil_append, List.length_cons, List.length_nil, Nat.reduceAdd, Nat.reduceSub])
  (repeat' (first
 | refine awp_seqK ?_
 | refine kt ?_
 | refine And.intro ?_ ?_
 | ((first | refine awp_stp rfl ?_ | refine awp_draw (by kernel_rfl) (by kernel_rfl) ?_ | refine Imp.le2 ?_ | refine go_split (fun _h => ?_) (fun _h => ?_)) <;> try simp (maxSteps := 4000000) only [go_sem, seval, List.append_eq, List.cons_append, List.nil_append, postC, watchC, sll])
 | intro _h
 | refine awp_block ?_
 | refine awp_scope ?_
 | (show heapOK _ _ = true; kernel_rfl)
 | (show heapOK2 _ _ = true; kernel_rfl)
 | (omega)))
theorem level_c (p : Post) (v : Int) (hp : PostOK p) (hv : -1000000 ≤ v ∧ v ≤ 1000000) : CallS Try.prog 100 [.agg (postC p), .int .i64 v] (.int .u8 (levelOf p v)) := by
  have k0 := left_c p v hp hv
  have k1 := lev1_c p
  have k2 := lev2_c p hp
  have k3 := lev3_c p hp
  simp only [postC, sl] at k0 k1 k2 k3
  unfold levelOf
  generalize leftOf p v = n at *
  (refine callS_of_awp (fun w args => Try.call100 ..) Try.func100 rfl (fun w0 m0 wz => ?_); simp only [Try.ntmps100, Try.results100, initT, junks, postC, watchC, sll, sl, List.toList_toArray, List.cons_append, List.nil_append, List.length_cons, List.length_nil, Nat.reduceAdd, Nat.reduceSub])
  (repeat' (first
 | refine awp_seqK ?_
 | refine kt ?_
 | refine And.intro ?_ ?_
 | ((first | refine awp_stp rfl ?_ | refine awp_draw (by kernel_rfl) (by kernel_rfl) ?_ | refine Imp.le2 ?_ | refine callK_of (k0) ?_ | refine callK_of (k1) ?_ | refine callK_of (k2) ?_ | refine callK_of (k3) ?_ | refine go_split (fun _h => ?_) (fun _h => ?_)) <;> try simp (maxSteps := 4000000) only [go_sem, seval, List.append_eq, List.cons_append, List.nil_append, postC, watchC, sll])
 | intro _h
 | refine awp_block ?_
 | refine awp_scope ?_
 | (show heapOK _ _ = true; kernel_rfl)
 | (show heapOK2 _ _ = true; kernel_rfl)
 | (omega)))
  (refine awp_rounds 4 ?_; rw [ar_s])
  (repeat' (first
 | ((rw [ar_s]))
 | refine awp_seqK ?_
 | refine kt ?_
 | refine And.intro ?_ ?_
 | ((first | refine awp_stp rfl ?_ | refine awp_draw (by kernel_rfl) (by kernel_rfl) ?_ | refine Imp.le2 ?_ | refine callK_of (k0) ?_ | refine callK_of (k1) ?_ | refine callK_of (k2) ?_ | refine callK_of (k3) ?_ | refine go_split (fun _h => ?_) (fun _h => ?_)) <;> try simp (maxSteps := 4000000) only [go_sem, seval, List.append_eq, List.cons_append, List.nil_append, postC, watchC, sll])
 | intro _h
 | refine awp_block ?_
 | refine awp_scope ?_
 | (show heapOK _ _ = true; kernel_rfl)
 | (show heapOK2 _ _ = true; kernel_rfl)
 | (omega)))
end Go.Am

/- Contracts of the alarm functions: what may be now. -/
namespace Go.Am
open Go.RowKit Go.Proofs
attribute [local irreducible] AWP CallS Kt goK CallK stepK evOps SemF SemY
set_option maxRecDepth 4000
set_option linter.unusedSimpArgs false
set_option linter.unusedVariables false
set_option maxHeartbeats 1600000
/-- The least and the greatest speed of some gauges' ends. -/
def joinE (s : Option (Int × Int)) (x : Int × Int) : Int × Int := match s with | none => x | some s => (min s.1 x.1, max s.2 x.2)
def hull (g : Int → Option (Int × Int)) : Nat → Option (Int × Int)
  | 0 => none
  | i + 1 => match g ((i : Int) - 1) with | none => hull g i | some x => some (joinE (hull g i) x)
def hLo (s : Option (Int × Int)) : Int := match s with | none => 0 | some s => s.1
def hHi (s : Option (Int × Int)) : Int := match s with | none => 0 | some s => s.2
theorem hull_bd {g : Int → Option (Int × Int)} (hg : GOK g) : ∀ i, (0 ≤ hLo (hull g i) ∧ hLo (hull g i) ≤ 1000) ∧ 0 ≤ hHi (hull g i) ∧ hHi (hull g i) ≤ 1000
  | 0 => by simp [hull, hLo, hHi]
  | i + 1 => by
    have ih := hull_bd hg i
    simp only [hull]
    cases hx : g ((i : Int) - 1) with
    | none => exact ih
    | some x =>
      have := hg _ _ hx
      simp only
      cases hh : hull g i with
      | none => simp only [joinE, hLo, hHi]; omega
      | some s => rw [hh] at ih; simp only [joinE, hLo, hHi] at ih ⊢; omega
def stH (p : Post) (g : Int → Option (Int × Int)) (i : Nat) : List (Option ABlk) :=
  [some (.cells 142 1 0 (watchC p 1)), some (.map (mpC (canon p.errs.length g))), some (.cells 58 1 0 [.int .i64 0, .int .i64 0, .int .u8 0]), some (.cells 58 1 0 [.int .i64 (hLo (hull g i)), .int .i64 (hHi (hull g i)), .int .u8 0]), some (.cells 4 1 0 [.bool (hull g i).isNone]), some (.cells 115 1 0 [.ptr 0 0 0])]
def stT : List AV := mkT 44 [(0, .ptr 0 0 0), (2, .ptr 2 0 0), (3, .bool false), (4, .ptr 3 0 0), (5, .ptr 4 0 0), (10, .fn (.func 87) [] [.ptr 5 0 0])]
theorem state_c (p : Post) (g : Int → Option (Int × Int)) (hp : PostOK p) (hg : GOK g) : SemF Try.prog 86 [.ptr 0 0 0] [some (.cells 142 1 0 (watchC p 1)), some (.map (mpC (canon p.errs.length g)))]
    (.tup [.agg [.int .i64 (hLo (hull g (p.errs.length + 1))), .int .i64 (hHi (hull g (p.errs.length + 1))), .int .u8 (levelOf p (hHi (hull g (p.errs.length + 1))))], .bool (hull g (p.errs.length + 1)).isSome]) [some (.cells 142 1 0 (watchC p 1)), some (.map (mpC (canon p.errs.length g)))] := by
  obtain ⟨hl1, hl2⟩ := hp.len
  (refine semF_of_awp (ys := [.agg [.int .i64 (hLo (hull g (p.errs.length + 1))), .int .i64 (hHi (hull g (p.errs.length + 1))), .int .u8 (levelOf p (hHi (hull g (p.errs.length + 1))))], .bool (hull g (p.errs.length + 1)).isSome]) (fun w args => Try.call86 ..) Try.func86 rfl (fun w0 m0 wz => ?_); simp only [Try.ntmps86, Try.results86, initT, junks, postC, watchC, sll, sl, List.toList_toArray, List.cons_append, List.nil_append, List.length_cons, List.length_nil, Nat.reduceAdd, Nat.reduceSub])
  ((repeat refine awp_seqK ?_); refine awp_region ?_; simp (maxSteps := 4000000) only [go_sem, seval, List.append_eq, List.cons_append, List.nil_append, postC, watchC, sll]; refine kt ?_)
  ((repeat refine awp_seqK ?_); refine awp_region ?_; simp (maxSteps := 4000000) only [go_sem, seval, List.append_eq, List.cons_append, List.nil_append, postC, watchC, sll]; refine kt ?_)
  ((repeat refine awp_seqK ?_); refine awp_ownN 1 rfl ?_; simp (maxSteps := 4000000) only [go_sem, seval, List.append_eq, List.cons_append, List.nil_append, postC, watchC, sll, List.take_succ_cons, List.take_zero]; refine own_go (failing_c p (canon p.errs.length g)) [0, 1] rfl (by simp (maxSteps := 4000000) only [go_sem, seval, List.append_eq, List.cons_append, List.nil_append, postC, watchC, sll]) (by simp (maxSteps := 4000000) only [go_sem, seval, List.append_eq, List.cons_append, List.nil_append, postC, watchC, sll, Nat.lt_irrefl] <;> decide) rfl ?_; simp (maxSteps := 4000000) only [go_sem, seval, List.append_eq, List.cons_append, List.nil_append, postC, watchC, sll]; refine kt ?_)
  (repeat refine awp_seqK ?_)
  refine awp_block ?_
  refine AWP.le2 (s' := ⟨stT, stH p g 0, []⟩) (by simp only [stT, stH, hull, hLo, hHi, Option.isNone, postC, watchC]; simp (maxSteps := 4000000) only [go_sem, seval, List.append_eq, List.cons_append, List.nil_append, postC, watchC, sll]) ?_
  refine awp_rangeZ (gf := 87) (first := []) (caps := [.ptr 5 0 0]) (by simp only [stT]; simp (maxSteps := 4000000) only [go_sem, seval, List.append_eq, List.cons_append, List.nil_append, postC, watchC, sll]) 6 rfl ?_
  intro ca cb hca hcb
  refine ⟨.tup [], stH p g (p.errs.length + 1) ++ [some (.dfr true), some (.loop .ready none 0 stT #[11, 12] ca cb 6)], .ready, none, .normal, ?_, ?_, by simp, rfl, ?_⟩
  · simp only [stH, stT, postC, watchC]
    simp (maxSteps := 4000000) only [go_sem, seval, List.append_eq, List.cons_append, List.nil_append, postC, watchC, sll]
    (refine semF_of_awp (ys := []) (fun w args => Try.call87 ..) Try.func87 rfl (fun w0 m0 wz => ?_); simp only [Try.ntmps87, Try.results87, initT, junks, postC, watchC, sll, sl, List.toList_toArray, List.cons_append, List.nil_append, List.length_cons, List.length_nil, Nat.reduceAdd, Nat.reduceSub])
    (repeat' (first
 | refine awp_seqK ?_
 | refine kt ?_
 | refine And.intro ?_ ?_
 | ((first | refine awp_stp rfl ?_ | refine awp_draw (by kernel_rfl) (by kernel_rfl) ?_ | refine Imp.le2 ?_ | refine go_split (fun _h => ?_) (fun _h => ?_)) <;> try simp (maxSteps := 4000000) only [go_sem, seval, List.append_eq, List.cons_append, List.nil_append, postC, watchC, sll])
 | intro _h
 | refine awp_block ?_
 | refine awp_scope ?_
 | (show heapOK _ _ = true; kernel_rfl)
 | (show heapOK2 _ _ = true; kernel_rfl)
 | (omega)))
    refine awp_loopN (p.errs.length + 1) (fun i => ⟨mkT 33 [(0, .fn (.yield 7) [] []), (1, .ptr 5 0 0), (3, .int .i64 ((i : Int) - 1))], stH p g i ++ [some (.dfr true), some (.loop .ready none 0 stT #[11, 12] ca cb 6)], []⟩) (.le2 ?_) ?_
    · simp only [stH, stT, postC, watchC]; simp (maxSteps := 4000000) only [go_sem, seval, List.append_eq, List.cons_append, List.nil_append, postC, watchC, sll]
      all_goals rfl
    · intro i hi
      have hgi := canon_get (n := p.errs.length) (g := g) (j := (i : Int) - 1) (by omega)
      have hbd := hull_bd hg i
      cases hx : g ((i : Int) - 1) with
      | none =>
        simp only [stH, stT, postC, watchC]; simp (maxSteps := 4000000) only [go_sem, seval, List.append_eq, List.cons_append, List.nil_append, postC, watchC, sll]
        (repeat' (first
 | ((rw [mget_none ((hgi (by omega)).trans hx)]; simp (maxSteps := 4000000) only [go_sem, seval, List.append_eq, List.cons_append, List.nil_append, postC, watchC, sll]))
 | ((show zeroOK _ = true; rfl))
 | refine awp_seqK ?_
 | refine kt ?_
 | refine And.intro ?_ ?_
 | ((first | refine awp_stp rfl ?_ | refine awp_draw (by kernel_rfl) (by kernel_rfl) ?_ | refine Imp.le2 ?_ | refine go_split (fun _h => ?_) (fun _h => ?_)) <;> try simp (maxSteps := 4000000) only [go_sem, seval, List.append_eq, List.cons_append, List.nil_append, postC, watchC, sll])
 | intro _h
 | refine awp_block ?_
 | refine awp_scope ?_
 | (show heapOK _ _ = true; kernel_rfl)
 | (show heapOK2 _ _ = true; kernel_rfl)
 | (omega)))
        all_goals first
          | (simp only [hull, hx]; done)
          | (have e : i = p.errs.length + 1 := by omega
             subst e; rfl)
      | some x =>
        simp only [stH, stT, postC, watchC]; simp (maxSteps := 4000000) only [go_sem, seval, List.append_eq, List.cons_append, List.nil_append, postC, watchC, sll]
        (repeat' (first
 | ((rw [mget_some ((hgi (by omega)).trans hx)]; simp (maxSteps := 4000000) only [go_sem, seval, List.append_eq, List.cons_append, List.nil_append, postC, watchC, sll]))
 | ((show zeroOK _ = true; rfl))
 | ((refine awp_ownN 5 rfl ?_; simp (maxSteps := 4000000) only [go_sem, seval, List.append_eq, List.cons_append, List.nil_append, postC, watchC, sll, List.take_succ_cons, List.take_zero]; refine callH_yield true (stH p g (i + 1) ++ [some (.dfr true), some (.loop .ready none 0 stT #[11, 12] ca cb 6), some (.cells 122 1 0 [.int .i64 x.1, .int .i64 x.2])]) ?_ ?_ <;> simp only [stH, stT, postC, watchC] <;> (try simp (maxSteps := 4000000) only [go_sem, seval, List.append_eq, List.cons_append, List.nil_append, postC, watchC, sll])))
 | refine awp_seqK ?_
 | refine kt ?_
 | refine And.intro ?_ ?_
 | ((first | refine awp_stp rfl ?_ | refine awp_draw (by kernel_rfl) (by kernel_rfl) ?_ | refine Imp.le2 ?_ | refine go_split (fun _h => ?_) (fun _h => ?_)) <;> try simp (maxSteps := 4000000) only [go_sem, seval, List.append_eq, List.cons_append, List.nil_append, postC, watchC, sll])
 | intro _h
 | refine awp_block ?_
 | refine awp_scope ?_
 | (show heapOK _ _ = true; kernel_rfl)
 | (show heapOK2 _ _ = true; kernel_rfl)
 | (omega)))
        · refine semY_of_awpZ rfl rfl ?_
          intro B w0 l m w
          refine awp_code hca ?_
          (repeat' (first
 | refine awp_seqK ?_
 | refine kt ?_
 | refine And.intro ?_ ?_
 | ((first | refine awp_stp rfl ?_ | refine awp_draw (by kernel_rfl) (by kernel_rfl) ?_ | refine Imp.le2 ?_ | refine go_split (fun _h => ?_) (fun _h => ?_)) <;> try simp (maxSteps := 4000000) only [go_sem, seval, List.append_eq, List.cons_append, List.nil_append, postC, watchC, sll])
 | intro _h
 | refine awp_block ?_
 | refine awp_scope ?_
 | (show heapOK _ _ = true; kernel_rfl)
 | (show heapOK2 _ _ = true; kernel_rfl)
 | (omega)))
          refine awp_code hcb ?_
          simp only [hull, hx]
          generalize hull g i = s at *
          cases s
          · simp only [Option.isNone, Option.isSome, hLo, hHi, joinE] at *
            (repeat' (first
 | refine awp_seqK ?_
 | refine kt ?_
 | refine And.intro ?_ ?_
 | ((first | refine awp_stp rfl ?_ | refine awp_draw (by kernel_rfl) (by kernel_rfl) ?_ | refine Imp.le2 ?_ | refine callK_of (greatest_c _ _ _) ?_ | refine callK_of (least_c _ _ _) ?_ | refine go_split (fun _h => ?_) (fun _h => ?_)) <;> try simp (maxSteps := 4000000) only [go_sem, seval, List.append_eq, List.cons_append, List.nil_append, postC, watchC, sll])
 | intro _h
 | refine awp_block ?_
 | refine awp_scope ?_
 | (show heapOK _ _ = true; kernel_rfl)
 | (show heapOK2 _ _ = true; kernel_rfl)
 | (omega)))
            all_goals simp
          · simp only [Option.isNone, Option.isSome, hLo, hHi, joinE] at *
            (repeat' (first
 | refine awp_seqK ?_
 | refine kt ?_
 | refine And.intro ?_ ?_
 | ((first | refine awp_stp rfl ?_ | refine awp_draw (by kernel_rfl) (by kernel_rfl) ?_ | refine Imp.le2 ?_ | refine callK_of (greatest_c _ _ _) ?_ | refine callK_of (least_c _ _ _) ?_ | refine go_split (fun _h => ?_) (fun _h => ?_)) <;> try simp (maxSteps := 4000000) only [go_sem, seval, List.append_eq, List.cons_append, List.nil_append, postC, watchC, sll])
 | intro _h
 | refine awp_block ?_
 | refine awp_scope ?_
 | (show heapOK _ _ = true; kernel_rfl)
 | (show heapOK2 _ _ = true; kernel_rfl)
 | (omega)))
        all_goals
          (have e : i = p.errs.length + 1 := by omega
           subst e; rfl)
  · rfl
  · have hbd := hull_bd hg (p.errs.length + 1)
    have hlv := level_c p (hHi (hull g (p.errs.length + 1))) hp (by omega)
    simp only [postC, sl] at hlv
    simp only [stH, stT, postC, watchC]
    simp (maxSteps := 4000000) only [go_sem, seval, List.append_eq, List.cons_append, List.nil_append, postC, watchC, sll]
    (repeat' (first
 | refine awp_seqK ?_
 | refine kt ?_
 | refine And.intro ?_ ?_
 | ((first | refine awp_stp rfl ?_ | refine awp_draw (by kernel_rfl) (by kernel_rfl) ?_ | refine Imp.le2 ?_ | refine callK_of (hlv) ?_ | refine go_split (fun _h => ?_) (fun _h => ?_)) <;> try simp (maxSteps := 4000000) only [go_sem, seval, List.append_eq, List.cons_append, List.nil_append, postC, watchC, sll])
 | intro _h
 | refine awp_block ?_
 | refine awp_scope ?_
 | (show heapOK _ _ = true; kernel_rfl)
 | (show heapOK2 _ _ = true; kernel_rfl)
 | (omega)))
    all_goals (clear hlv hbd; cases hh : hull g (p.errs.length + 1) <;> simp_all)
end Go.Am

/- Contracts of the alarm functions: all rows of a post. -/
namespace Go.Am
open Go.RowKit Go.Proofs
attribute [local irreducible] AWP CallS Kt goK CallK stepK evOps SemF SemY
set_option maxRecDepth 4000
set_option linter.unusedSimpArgs false
set_option linter.unusedVariables false
set_option maxHeartbeats 1600000
theorem agLo_ge {errs row : List Int} {f : Int} : ∀ i, 0 ≤ agLo errs row f i
  | 0 => by simp [agLo]
  | i + 1 => by have := agLo_ge (errs := errs) (row := row) (f := f) i; simp only [agLo]; split <;> omega
theorem agHi_le {errs row : List Int} {f : Int} : ∀ i, agHi errs row f i ≤ 1000
  | 0 => by simp [agHi]
  | i + 1 => by have := agHi_le (errs := errs) (row := row) (f := f) i; simp only [agHi]; split <;> omega
theorem stepX_bd {p : Post} {row : List Int} {first : Bool} {f : Int} {x z : Int × Int} (h : stepX p row first f x = some z) : 0 ≤ z.1 ∧ z.1 ≤ z.2 ∧ z.2 ≤ 1000 := by
  have h3' : stepX p row first f x = (if agreedEnds p.errs row f = (1, 0) ∨ min (if first = true then x.2 else x.2 + p.gain) (agreedEnds p.errs row f).2 < max (if first = true then x.1 else x.1 - p.drop) (agreedEnds p.errs row f).1 then none
  else some (max (if first = true then x.1 else x.1 - p.drop) (agreedEnds p.errs row f).1, min (if first = true then x.2 else x.2 + p.gain) (agreedEnds p.errs row f).2)) := rfl
  rw [h3'] at h
  generalize (if first = true then x.2 else x.2 + p.gain) = b at *
  generalize (if first = true then x.1 else x.1 - p.drop) = a at *
  split at h
  · cases h
  · rename_i hc
    cases h
    simp only [not_or] at hc
    obtain ⟨h1, h2⟩ := hc
    have h3 : 0 ≤ (agreedEnds p.errs row f).1 ∧ (agreedEnds p.errs row f).2 ≤ 1000 := by
      unfold agreedEnds
      split
      · simp
      · exact ⟨agLo_ge _, agHi_le _⟩
    simp only
    omega
theorem stepG_ok {p : Post} {row : List Int} {first : Bool} {g : Int → Option (Int × Int)} : GOK (stepG p row first g) := by
  intro f z hz
  simp only [stepG, Option.bind_eq_some_iff] at hz
  obtain ⟨x, _, h⟩ := hz
  exact stepX_bd h
/-- What may be after so many rows. -/
def gAt (p : Post) (reads : List (List Int)) : Nat → Int → Option (Int × Int)
  | 0 => fun _ => some (0, 1000)
  | k + 1 => stepG p (reads.getD k []) (decide (k = 0)) (gAt p reads k)
theorem gAt_ok {p : Post} {reads : List (List Int)} : ∀ k, GOK (gAt p reads k)
  | 0 => fun f x h => by simp only [gAt, Option.some.injEq] at h; subst h; simp
  | k + 1 => stepG_ok
/-- What may be in an hour, and the state. -/
def stAt (p : Post) (reads : List (List Int)) (k : Nat) : Option (Int × Int) := hull (gAt p reads (k + 1)) (p.errs.length + 1)
def stRec (p : Post) (s : Option (Int × Int)) : Int × Int × Int := (hLo s, hHi s, levelOf p (hHi s))
def states (p : Post) (reads : List (List Int)) (k : Nat) : List (Int × Int × Int) := (List.range k).map fun j => stRec p (stAt p reads j)
theorem states_succ {p : Post} {reads : List (List Int)} {k : Nat} : states p reads (k + 1) = states p reads k ++ [stRec p (stAt p reads k)] := by simp [states, List.range_succ]
theorem states_length {p : Post} {reads : List (List Int)} {k : Nat} : (states p reads k).length = k := by simp [states]
def stC (s : Int × Int × Int) : List AV := [.int .i64 s.1, .int .i64 s.2.1, .int .u8 s.2.2]
theorem pl_st {l : List (Int × Int × Int)} : pureL (recs stC l) = True := eq_true (recs_pure fun s => by simp [pureL, stC, cellPure])
theorem lv_st {l : List (Int × Int × Int)} {p : Nat → Bool} : (recs stC l).all (live2 p) = true := recs_live fun s => by simp [pureL, stC, cellPure]
theorem len_st {l : List (Int × Int × Int)} : (recs stC l).length = l.length * 3 := recs_length fun _ => rfl
theorem rl_st {l : List (Int × Int × Int)} {σ : Nat → Nat} : renL σ (recs stC l) = recs stC l := rl_recs fun a => by simp [stC, renL, ren]
attribute [go_sem] pl_st lv_st len_st rl_st states_length
structure ReadsOK (p : Post) (reads : List (List Int)) : Prop where
  len : reads.length ≤ 60
  rows : ∀ i, i < reads.length → RowOK p (reads.getD i [])
def ruH (p : Post) (reads : List (List Int)) (k : Nat) : List (Option ABlk) :=
  [none, none, some (.map (mpC (canon p.errs.length (gAt p reads k)))), some (.cells 142 1 0 (watchC p 2))]
theorem run_ok (p : Post) (reads : List (List Int)) (hp : PostOK p) (hr : ReadsOK p reads) (hall : ∀ j, j < reads.length → (stAt p reads j).isSome = true) : SemF Try.prog 63 [.agg (postC p), sll reads] []
    (.tup [.osl 4 reads.length 0 reads.length, .ptr 3 0 0, .int .i64 (-1)]) (ruH p reads reads.length ++ [some (.cells 58 3 reads.length (recs stC (states p reads reads.length)))]) := by
  obtain ⟨hl1, hl2⟩ := hp.len
  have hl3 := hr.len
  have hbg := begin_c p (by omega)
  simp only [postC, sl, watchC] at hbg
  (refine semF_of_awp (ys := [.osl 4 reads.length 0 reads.length, .ptr 3 0 0, .int .i64 (-1)]) (fun w args => Try.call63 ..) Try.func63 rfl (fun w0 m0 wz => ?_); simp only [Try.ntmps63, Try.results63, initT, junks, postC, watchC, sll, sl, List.toList_toArray, List.cons_append, List.nil_append, List.length_cons, List.length_nil, Nat.reduceAdd, Nat.reduceSub])
  ((repeat refine awp_seqK ?_); refine awp_region ?_; simp (maxSteps := 4000000) only [go_sem, seval, List.append_eq, List.cons_append, List.nil_append, postC, watchC, sll]; refine kt ?_)
  ((repeat refine awp_seqK ?_); refine awp_ownN 1 rfl ?_; simp (maxSteps := 4000000) only [go_sem, seval, List.append_eq, List.cons_append, List.nil_append, postC, watchC, sll, List.take_succ_cons, List.take_zero]; refine own_go (hbg) [] rfl (by simp (maxSteps := 4000000) only [go_sem, seval, List.append_eq, List.cons_append, List.nil_append, postC, watchC, sll]) (by simp (maxSteps := 4000000) only [go_sem, seval, List.append_eq, List.cons_append, List.nil_append, postC, watchC, sll, Nat.lt_irrefl] <;> decide) rfl ?_; simp (maxSteps := 4000000) only [go_sem, seval, List.append_eq, List.cons_append, List.nil_append, postC, watchC, sll]; refine kt ?_)
  (repeat' (first
 | refine awp_seqK ?_
 | refine kt ?_
 | refine And.intro ?_ ?_
 | ((first | refine awp_stp rfl ?_ | refine awp_draw (by kernel_rfl) (by kernel_rfl) ?_ | refine Imp.le2 ?_ | refine go_split (fun _h => ?_) (fun _h => ?_)) <;> try simp (maxSteps := 4000000) only [go_sem, seval, List.append_eq, List.cons_append, List.nil_append, postC, watchC, sll])
 | intro _h
 | refine awp_block ?_
 | refine awp_scope ?_
 | (show heapOK _ _ = true; kernel_rfl)
 | (show heapOK2 _ _ = true; kernel_rfl)
 | (omega)))
  (refine awp_adT 4 58 3 rfl ?_; simp only [adT, lset, hset, List.length_cons, List.length_nil, Nat.reduceAdd])
  refine awp_loopN reads.length (fun k => ⟨mkT 41 [(4, .osl 4 k 0 k), (5, .ptr 3 0 0), (13, sll reads), (14, .int .i64 reads.length), (15, .int .i64 k)], ruH p reads k ++ [some (.cells 58 3 k (recs stC (states p reads k)))], []⟩) (.le2 ?_) ?_
  · simp only [ruH, postC, watchC]; simp (maxSteps := 4000000) only [go_sem, seval, List.append_eq, List.cons_append, List.nil_append, postC, watchC, sll]
    all_goals first | rfl | exact ⟨rfl, rfl⟩ | exact ⟨rfl, rfl, rfl⟩
  · intro k hk
    have hnx := fun h : k < reads.length => next_c p (gAt p reads k) (reads.getD k []) (decide (k = 0)) hp (hr.rows k h) (gAt_ok k)
    have hg1 : stepG p (reads.getD k []) (decide (k = 0)) (gAt p reads k) = gAt p reads (k + 1) := rfl
    have hst := state_c p (gAt p reads (k + 1)) hp (gAt_ok _)
    rw [hg1] at hnx
    have hal := hall k
    have hsu := states_succ (p := p) (reads := reads) (k := k)
    simp only [sl, postC, watchC, stAt, stRec] at hnx hst hal hsu
    generalize hh : hull (gAt p reads (k + 1)) (p.errs.length + 1) = s at *
    simp only [ruH, postC, watchC]; simp (maxSteps := 4000000) only [go_sem, seval, List.append_eq, List.cons_append, List.nil_append, postC, watchC, sll]
    by_cases h0 : k = 0
    · have e0 : ((k : Int) = 0) = True := eq_true (by omega)
      have e1 : decide (k = 0) = true := by simp [h0]
      rw [e1] at hnx
      (repeat' (first
 | (refine awp_ownN 4 rfl ?_; simp (maxSteps := 4000000) only [go_sem, seval, List.append_eq, List.cons_append, List.nil_append, postC, watchC, sll, List.take_succ_cons, List.take_zero, e0, decide_true]; (repeat refine And.intro (by omega) ?_); refine own_go (hnx (by omega)) [3, 2] rfl ?_ ?_ rfl ?_ <;> try simp (maxSteps := 4000000) only [go_sem, seval, List.append_eq, List.cons_append, List.nil_append, postC, watchC, sll, Nat.lt_irrefl, e0, decide_true] <;> try decide)
 | (refine awp_ownN 1 rfl ?_; simp (maxSteps := 4000000) only [go_sem, seval, List.append_eq, List.cons_append, List.nil_append, postC, watchC, sll, List.take_succ_cons, List.take_zero, e0, decide_true]; (repeat refine And.intro (by omega) ?_); refine own_go (hst) [3, 2] rfl ?_ ?_ rfl ?_ <;> try simp (maxSteps := 4000000) only [go_sem, seval, List.append_eq, List.cons_append, List.nil_append, postC, watchC, sll, Nat.lt_irrefl, e0, decide_true] <;> try decide)
 | refine awp_seqK ?_
 | refine kt ?_
 | refine And.intro ?_ ?_
 | ((first | refine awp_stp rfl ?_ | refine awp_draw (by kernel_rfl) (by kernel_rfl) ?_ | refine Imp.le2 ?_ | refine go_split (fun _h => ?_) (fun _h => ?_)) <;> try simp (maxSteps := 4000000) only [go_sem, seval, List.append_eq, List.cons_append, List.nil_append, postC, watchC, sll, e0, decide_true])
 | intro _h
 | refine awp_block ?_
 | refine awp_scope ?_
 | (show heapOK _ _ = true; kernel_rfl)
 | (show heapOK2 _ _ = true; kernel_rfl)
 | (omega)))
      all_goals first
        | (rw [hsu, recs_snoc]; rfl)
        | (have e : k = reads.length := by omega
           subst e; rfl)
        | (exfalso; have h1 := hal (by omega); simp only [Option.isSome] at *; simp_all; done)
    · have e0 : ((k : Int) = 0) = False := eq_false (by omega)
      have e1 : decide (k = 0) = false := by simp [h0]
      rw [e1] at hnx
      (repeat' (first
 | (refine awp_ownN 4 rfl ?_; simp (maxSteps := 4000000) only [go_sem, seval, List.append_eq, List.cons_append, List.nil_append, postC, watchC, sll, List.take_succ_cons, List.take_zero, e0, decide_false]; (repeat refine And.intro (by omega) ?_); refine own_go (hnx (by omega)) [3, 2] rfl ?_ ?_ rfl ?_ <;> try simp (maxSteps := 4000000) only [go_sem, seval, List.append_eq, List.cons_append, List.nil_append, postC, watchC, sll, Nat.lt_irrefl, e0, decide_false] <;> try decide)
 | (refine awp_ownN 1 rfl ?_; simp (maxSteps := 4000000) only [go_sem, seval, List.append_eq, List.cons_append, List.nil_append, postC, watchC, sll, List.take_succ_cons, List.take_zero, e0, decide_false]; (repeat refine And.intro (by omega) ?_); refine own_go (hst) [3, 2] rfl ?_ ?_ rfl ?_ <;> try simp (maxSteps := 4000000) only [go_sem, seval, List.append_eq, List.cons_append, List.nil_append, postC, watchC, sll, Nat.lt_irrefl, e0, decide_false] <;> try decide)
 | refine awp_seqK ?_
 | refine kt ?_
 | refine And.intro ?_ ?_
 | ((first | refine awp_stp rfl ?_ | refine awp_draw (by kernel_rfl) (by kernel_rfl) ?_ | refine Imp.le2 ?_ | refine go_split (fun _h => ?_) (fun _h => ?_)) <;> try simp (maxSteps := 4000000) only [go_sem, seval, List.append_eq, List.cons_append, List.nil_append, postC, watchC, sll, e0, decide_false])
 | intro _h
 | refine awp_block ?_
 | refine awp_scope ?_
 | (show heapOK _ _ = true; kernel_rfl)
 | (show heapOK2 _ _ = true; kernel_rfl)
 | (omega)))
      all_goals first
        | (rw [hsu, recs_snoc]; rfl)
        | (have e : k = reads.length := by omega
           subst e; rfl)
        | (exfalso; have h1 := hal (by omega); simp only [Option.isSome] at *; simp_all; done)
theorem run_broken (p : Post) (reads : List (List Int)) (h : Nat) (hp : PostOK p) (hr : ReadsOK p reads) (hh0 : h < reads.length) (hno : stAt p reads h = none) (hall : ∀ j, j < h → (stAt p reads j).isSome = true) : SemF Try.prog 63 [.agg (postC p), sll reads] []
    (.tup [.nils, .ptr 3 0 0, .int .i64 h]) (ruH p reads (h + 1)) := by
  obtain ⟨hl1, hl2⟩ := hp.len
  have hl3 := hr.len
  have hbg := begin_c p (by omega)
  simp only [postC, sl, watchC] at hbg
  (refine semF_of_awp (ys := [.nils, .ptr 3 0 0, .int .i64 h]) (fun w args => Try.call63 ..) Try.func63 rfl (fun w0 m0 wz => ?_); simp only [Try.ntmps63, Try.results63, initT, junks, postC, watchC, sll, sl, List.toList_toArray, List.cons_append, List.nil_append, List.length_cons, List.length_nil, Nat.reduceAdd, Nat.reduceSub])
  ((repeat refine awp_seqK ?_); refine awp_region ?_; simp (maxSteps := 4000000) only [go_sem, seval, List.append_eq, List.cons_append, List.nil_append, postC, watchC, sll]; refine kt ?_)
  ((repeat refine awp_seqK ?_); refine awp_ownN 1 rfl ?_; simp (maxSteps := 4000000) only [go_sem, seval, List.append_eq, List.cons_append, List.nil_append, postC, watchC, sll, List.take_succ_cons, List.take_zero]; refine own_go (hbg) [] rfl (by simp (maxSteps := 4000000) only [go_sem, seval, List.append_eq, List.cons_append, List.nil_append, postC, watchC, sll]) (by simp (maxSteps := 4000000) only [go_sem, seval, List.append_eq, List.cons_append, List.nil_append, postC, watchC, sll, Nat.lt_irrefl] <;> decide) rfl ?_; simp (maxSteps := 4000000) only [go_sem, seval, List.append_eq, List.cons_append, List.nil_append, postC, watchC, sll]; refine kt ?_)
  (repeat' (first
 | refine awp_seqK ?_
 | refine kt ?_
 | refine And.intro ?_ ?_
 | ((first | refine awp_stp rfl ?_ | refine awp_draw (by kernel_rfl) (by kernel_rfl) ?_ | refine Imp.le2 ?_ | refine go_split (fun _h => ?_) (fun _h => ?_)) <;> try simp (maxSteps := 4000000) only [go_sem, seval, List.append_eq, List.cons_append, List.nil_append, postC, watchC, sll])
 | intro _h
 | refine awp_block ?_
 | refine awp_scope ?_
 | (show heapOK _ _ = true; kernel_rfl)
 | (show heapOK2 _ _ = true; kernel_rfl)
 | (omega)))
  (refine awp_adT 4 58 3 rfl ?_; simp only [adT, lset, hset, List.length_cons, List.length_nil, Nat.reduceAdd])
  refine awp_loopN h (fun k => ⟨mkT 41 [(4, .osl 4 k 0 k), (5, .ptr 3 0 0), (13, sll reads), (14, .int .i64 reads.length), (15, .int .i64 k)], ruH p reads k ++ [some (.cells 58 3 k (recs stC (states p reads k)))], []⟩) (.le2 ?_) ?_
  · simp only [ruH, postC, watchC]; simp (maxSteps := 4000000) only [go_sem, seval, List.append_eq, List.cons_append, List.nil_append, postC, watchC, sll]
    all_goals first | rfl | exact ⟨rfl, rfl⟩ | exact ⟨rfl, rfl, rfl⟩
  · intro k hk
    have hnx := next_c p (gAt p reads k) (reads.getD k []) (decide (k = 0)) hp (hr.rows k (by omega)) (gAt_ok k)
    have hg1 : stepG p (reads.getD k []) (decide (k = 0)) (gAt p reads k) = gAt p reads (k + 1) := rfl
    have hst := state_c p (gAt p reads (k + 1)) hp (gAt_ok _)
    rw [hg1] at hnx
    have hal := hall k
    have hno' : k = h → hull (gAt p reads (k + 1)) (p.errs.length + 1) = none := fun e => by rw [e]; exact hno
    have hsu := states_succ (p := p) (reads := reads) (k := k)
    simp only [sl, postC, watchC, stAt, stRec] at hnx hst hal hsu
    generalize hh : hull (gAt p reads (k + 1)) (p.errs.length + 1) = s at *
    simp only [ruH, postC, watchC]; simp (maxSteps := 4000000) only [go_sem, seval, List.append_eq, List.cons_append, List.nil_append, postC, watchC, sll]
    by_cases h0 : k = 0
    · have e0 : ((k : Int) = 0) = True := eq_true (by omega)
      have e1 : decide (k = 0) = true := by simp [h0]
      rw [e1] at hnx
      (repeat' (first
 | (refine awp_ownN 4 rfl ?_; simp (maxSteps := 4000000) only [go_sem, seval, List.append_eq, List.cons_append, List.nil_append, postC, watchC, sll, List.take_succ_cons, List.take_zero, e0, decide_true]; (repeat refine And.intro (by omega) ?_); refine own_go (hnx) [3, 2] rfl ?_ ?_ rfl ?_ <;> try simp (maxSteps := 4000000) only [go_sem, seval, List.append_eq, List.cons_append, List.nil_append, postC, watchC, sll, Nat.lt_irrefl, e0, decide_true] <;> try decide)
 | (refine awp_ownN 1 rfl ?_; simp (maxSteps := 4000000) only [go_sem, seval, List.append_eq, List.cons_append, List.nil_append, postC, watchC, sll, List.take_succ_cons, List.take_zero, e0, decide_true]; (repeat refine And.intro (by omega) ?_); refine own_go (hst) [3, 2] rfl ?_ ?_ rfl ?_ <;> try simp (maxSteps := 4000000) only [go_sem, seval, List.append_eq, List.cons_append, List.nil_append, postC, watchC, sll, Nat.lt_irrefl, e0, decide_true] <;> try decide)
 | refine awp_seqK ?_
 | refine kt ?_
 | refine And.intro ?_ ?_
 | ((first | refine awp_stp rfl ?_ | refine awp_draw (by kernel_rfl) (by kernel_rfl) ?_ | refine Imp.le2 ?_ | refine go_split (fun _h => ?_) (fun _h => ?_)) <;> try simp (maxSteps := 4000000) only [go_sem, seval, List.append_eq, List.cons_append, List.nil_append, postC, watchC, sll, e0, decide_true])
 | intro _h
 | refine awp_block ?_
 | refine awp_scope ?_
 | (show heapOK _ _ = true; kernel_rfl)
 | (show heapOK2 _ _ = true; kernel_rfl)
 | (omega)))
      all_goals first
        | (rw [hsu, recs_snoc]; rfl)
        | omega
        | (rcases Nat.lt_or_eq_of_le hk with h1 | rfl
           · have h2 := hal h1
             simp_all
           · first | rfl | (simp_all; done))
        | (rcases Nat.lt_or_eq_of_le hk with h1 | h1
           · exact h1
           · exfalso; have h2 := hno' h1; rw [h2] at *; simp_all)
        | (rcases Nat.lt_or_eq_of_le hk with h1 | h1
           · exfalso; have h2 := hal h1; simp_all
           · subst h1; rfl)
    · have e0 : ((k : Int) = 0) = False := eq_false (by omega)
      have e1 : decide (k = 0) = false := by simp [h0]
      rw [e1] at hnx
      (repeat' (first
 | (refine awp_ownN 4 rfl ?_; simp (maxSteps := 4000000) only [go_sem, seval, List.append_eq, List.cons_append, List.nil_append, postC, watchC, sll, List.take_succ_cons, List.take_zero, e0, decide_false]; (repeat refine And.intro (by omega) ?_); refine own_go (hnx) [3, 2] rfl ?_ ?_ rfl ?_ <;> try simp (maxSteps := 4000000) only [go_sem, seval, List.append_eq, List.cons_append, List.nil_append, postC, watchC, sll, Nat.lt_irrefl, e0, decide_false] <;> try decide)
 | (refine awp_ownN 1 rfl ?_; simp (maxSteps := 4000000) only [go_sem, seval, List.append_eq, List.cons_append, List.nil_append, postC, watchC, sll, List.take_succ_cons, List.take_zero, e0, decide_false]; (repeat refine And.intro (by omega) ?_); refine own_go (hst) [3, 2] rfl ?_ ?_ rfl ?_ <;> try simp (maxSteps := 4000000) only [go_sem, seval, List.append_eq, List.cons_append, List.nil_append, postC, watchC, sll, Nat.lt_irrefl, e0, decide_false] <;> try decide)
 | refine awp_seqK ?_
 | refine kt ?_
 | refine And.intro ?_ ?_
 | ((first | refine awp_stp rfl ?_ | refine awp_draw (by kernel_rfl) (by kernel_rfl) ?_ | refine Imp.le2 ?_ | refine go_split (fun _h => ?_) (fun _h => ?_)) <;> try simp (maxSteps := 4000000) only [go_sem, seval, List.append_eq, List.cons_append, List.nil_append, postC, watchC, sll, e0, decide_false])
 | intro _h
 | refine awp_block ?_
 | refine awp_scope ?_
 | (show heapOK _ _ = true; kernel_rfl)
 | (show heapOK2 _ _ = true; kernel_rfl)
 | (omega)))
      all_goals first
        | (rw [hsu, recs_snoc]; rfl)
        | omega
        | (rcases Nat.lt_or_eq_of_le hk with h1 | rfl
           · have h2 := hal h1
             simp_all
           · first | rfl | (simp_all; done))
        | (rcases Nat.lt_or_eq_of_le hk with h1 | h1
           · exact h1
           · exfalso; have h2 := hno' h1; rw [h2] at *; simp_all)
        | (rcases Nat.lt_or_eq_of_le hk with h1 | h1
           · exfalso; have h2 := hal h1; simp_all
           · subst h1; rfl)
end Go.Am

/- Contracts of the alarm functions: levels, breaks, those that may have failed. -/
namespace Go.Am
open Go.RowKit Go.Proofs
attribute [local irreducible] AWP CallS Kt goK CallK stepK evOps SemF SemY
set_option maxRecDepth 4000
set_option linter.unusedSimpArgs false
set_option linter.unusedVariables false
set_option maxHeartbeats 1600000
theorem all_getD {l : List Int} {q : Int → Bool} (h : l.all q = true) (i : Nat) (hi : i < l.length) : q (l.getD i 0) = true := by
  rw [List.all_eq_true] at h
  have := h _ (List.getElem_mem hi)
  rwa [show l.getD i 0 = l[i] by simp [List.getD_eq_getElem?_getD, hi]]
theorem postB_ok {p : Post} (h : postB p = true) : PostOK p := by
  obtain ⟨h1, h2, h3, h4, h5, h6, h7⟩ := of_decide_eq_true h
  exact ⟨h1, fun i hi => of_decide_eq_true (all_getD h2 i hi), h3, h4, h5, h6, h7⟩
theorem faultP_zero {p : Post} {reads : List (List Int)} (h : faultP p reads = 0) : PostOK p ∧ ReadsOK p reads := by
  unfold faultP at h
  split at h
  · omega
  · rename_i h1
    split at h
    · omega
    · split at h
      · rename_i h2 h3
        refine ⟨postB_ok (by simpa using h1), by omega, fun i hi => ?_⟩
        rw [List.all_eq_true] at h3
        have := h3 _ (List.getElem_mem hi)
        rw [show reads.getD i [] = reads[i] by simp [List.getD_eq_getElem?_getD, hi]]
        simp only [rowB, Bool.and_eq_true, decide_eq_true_eq] at this
        exact ⟨this.1, fun j hj => of_decide_eq_true (all_getD this.2 j hj)⟩
      · omega
theorem faultP_cases (p : Post) (reads : List (List Int)) : faultP p reads = 0 ∨ faultP p reads = 1 ∨ faultP p reads = 2 ∨ faultP p reads = 3 := by
  unfold faultP
  split
  · simp
  · split
    · simp
    · split <;> simp
/-- The hour in which a post breaks. -/
def brk (p : Post) (reads : List (List Int)) : Option Nat := (List.range reads.length).find? fun k => (stAt p reads k).isNone
theorem brk_none {p : Post} {reads : List (List Int)} (h : brk p reads = none) : ∀ j, j < reads.length → (stAt p reads j).isSome = true := by
  intro j hj
  unfold brk at h
  rw [List.find?_eq_none] at h
  have := h j (by simpa using hj)
  cases hs : stAt p reads j with
  | none => simp [hs] at this
  | some x => rfl
theorem brk_some {p : Post} {reads : List (List Int)} {k : Nat} (h : brk p reads = some k) : k < reads.length ∧ stAt p reads k = none ∧ ∀ j, j < k → (stAt p reads j).isSome = true := by
  unfold brk at h
  rw [List.find?_range_eq_some] at h
  obtain ⟨h1, h2, h3⟩ := h
  refine ⟨by simpa using h2, by simpa using h1, fun j hj => ?_⟩
  have := h3 j hj
  cases hs : stAt p reads j with
  | none => simp [hs] at this
  | some x => rfl
def slSt (l : List (Int × Int × Int)) : AV := .psl false l.length (recs stC l)
/-- What Levels, Breaks, Failed hand back. -/
def levelsL (p : Post) (reads : List (List Int)) : List (Int × Int × Int) := if faultP p reads = 0 then (match brk p reads with | none => states p reads reads.length | some _ => []) else []
def levelsE (p : Post) (reads : List (List Int)) : Int := if faultP p reads = 0 then (match brk p reads with | none => 0 | some _ => 9) else faultP p reads
structure InB (p : Post) (reads : List (List Int)) : Prop where
  e : p.errs.length ≤ 9223372036854775807
  n : reads.length ≤ 9223372036854775807
  rows : ∀ i, i < reads.length → (reads.getD i []).length ≤ 9223372036854775807
theorem levels_c (p : Post) (reads : List (List Int)) (hb : InB p reads) : CallS Try.prog 27 [.agg (postC p), sll reads] (.tup [slSt (levelsL p reads), .int .i64 (levelsE p reads)]) := by
  have hch := check_c p reads hb.e hb.n hb.rows
  have hfc := faultP_cases p reads
  unfold levelsL levelsE slSt
  by_cases hf : faultP p reads = 0
  · rw [if_pos hf, if_pos hf]
    obtain ⟨hp, hr⟩ := faultP_zero hf
    rw [hf] at hch
    cases hbk : brk p reads with
    | none =>
      have hru := run_ok p reads hp hr (brk_none hbk)
      have hlen := states_length (p := p) (reads := reads) (k := reads.length)
      simp only [ruH, postC, sl, watchC, sll] at hru hch
      generalize states p reads reads.length = L at *
      (refine callS_of_awp (fun w args => Try.call27 ..) Try.func27 rfl (fun w0 m0 wz => ?_); simp only [Try.ntmps27, Try.results27, initT, junks, postC, watchC, sll, sl, List.toList_toArray, List.cons_append, List.nil_append, List.length_cons, List.length_nil, Nat.reduceAdd, Nat.reduceSub])
      (repeat' (first
 | (refine awp_ownN 2 rfl ?_; simp (maxSteps := 4000000) only [go_sem, seval, List.append_eq, List.cons_append, List.nil_append, postC, watchC, sll, List.take_succ_cons, List.take_zero]; (repeat refine And.intro (by omega) ?_); refine own_go (hru) [] rfl ?_ ?_ rfl ?_ <;> try simp (maxSteps := 4000000) only [go_sem, seval, List.append_eq, List.cons_append, List.nil_append, postC, watchC, sll, Nat.lt_irrefl] <;> try decide)
 | refine awp_seqK ?_
 | refine kt ?_
 | refine And.intro ?_ ?_
 | ((first | refine awp_stp rfl ?_ | refine awp_draw (by kernel_rfl) (by kernel_rfl) ?_ | refine Imp.le2 ?_ | refine callK_of (hch) ?_ | refine go_split (fun _h => ?_) (fun _h => ?_)) <;> try simp (maxSteps := 4000000) only [go_sem, seval, List.append_eq, List.cons_append, List.nil_append, postC, watchC, sll])
 | intro _h
 | refine awp_block ?_
 | refine awp_scope ?_
 | (show heapOK _ _ = true; kernel_rfl)
 | (show heapOK2 _ _ = true; kernel_rfl)
 | (omega)))
      all_goals (simp only [recs_nil]; omega)
    | some k =>
      obtain ⟨b1, b2, b3⟩ := brk_some hbk
      have hru := run_broken p reads k hp hr b1 b2 b3
      simp only [ruH, postC, sl, watchC, sll] at hru hch
      (refine callS_of_awp (fun w args => Try.call27 ..) Try.func27 rfl (fun w0 m0 wz => ?_); simp only [Try.ntmps27, Try.results27, initT, junks, postC, watchC, sll, sl, List.toList_toArray, List.cons_append, List.nil_append, List.length_cons, List.length_nil, Nat.reduceAdd, Nat.reduceSub])
      (repeat' (first
 | (refine awp_ownN 2 rfl ?_; simp (maxSteps := 4000000) only [go_sem, seval, List.append_eq, List.cons_append, List.nil_append, postC, watchC, sll, List.take_succ_cons, List.take_zero]; (repeat refine And.intro (by omega) ?_); refine own_go (hru) [] rfl ?_ ?_ rfl ?_ <;> try simp (maxSteps := 4000000) only [go_sem, seval, List.append_eq, List.cons_append, List.nil_append, postC, watchC, sll, Nat.lt_irrefl] <;> try decide)
 | refine awp_seqK ?_
 | refine kt ?_
 | refine And.intro ?_ ?_
 | ((first | refine awp_stp rfl ?_ | refine awp_draw (by kernel_rfl) (by kernel_rfl) ?_ | refine Imp.le2 ?_ | refine callK_of (hch) ?_ | refine go_split (fun _h => ?_) (fun _h => ?_)) <;> try simp (maxSteps := 4000000) only [go_sem, seval, List.append_eq, List.cons_append, List.nil_append, postC, watchC, sll])
 | intro _h
 | refine awp_block ?_
 | refine awp_scope ?_
 | (show heapOK _ _ = true; kernel_rfl)
 | (show heapOK2 _ _ = true; kernel_rfl)
 | (omega)))
      all_goals rfl
  · rw [if_neg hf, if_neg hf]
    simp only [ruH, postC, sl, watchC, sll] at hch
    generalize faultP p reads = e at *
    (refine callS_of_awp (fun w args => Try.call27 ..) Try.func27 rfl (fun w0 m0 wz => ?_); simp only [Try.ntmps27, Try.results27, initT, junks, postC, watchC, sll, sl, List.toList_toArray, List.cons_append, List.nil_append, List.length_cons, List.length_nil, Nat.reduceAdd, Nat.reduceSub])
    (repeat' (first
 | refine awp_seqK ?_
 | refine kt ?_
 | refine And.intro ?_ ?_
 | ((first | refine awp_stp rfl ?_ | refine awp_draw (by kernel_rfl) (by kernel_rfl) ?_ | refine Imp.le2 ?_ | refine callK_of (hch) ?_ | refine go_split (fun _h => ?_) (fun _h => ?_)) <;> try simp (maxSteps := 4000000) only [go_sem, seval, List.append_eq, List.cons_append, List.nil_append, postC, watchC, sll])
 | intro _h
 | refine awp_block ?_
 | refine awp_scope ?_
 | (show heapOK _ _ = true; kernel_rfl)
 | (show heapOK2 _ _ = true; kernel_rfl)
 | (omega)))
    all_goals rfl
end Go.Am

/- What the arguments of the alarm laws can be read as: posts, rows of reads, words. -/
namespace Go.Am
open Go.RowKit Go.Proofs
theorem rd46 : Reads Try.prog 46 6 postC (fun p => p.errs.length ≤ 9223372036854775807) :=
  (reads_struct Try.underlying46 (by kernel_rfl) (readsF_cons rfl rd22 (readsF_cons rfl rd3 (readsF_cons rfl rd3 (readsF_cons rfl rd3 (readsF_cons rfl rd3 (readsF_cons rfl rd3 readsF_nil))))))).conv (fun p => ⟨p.1, p.2.1, p.2.2.1, p.2.2.2.1, p.2.2.2.2.1, p.2.2.2.2.2.1⟩) _ _ (fun _ => rfl) (fun _ => rfl) (fun _ h => h.1.1)
def rowsOK (l : List (List Int)) : Prop := l.length ≤ 9223372036854775807 ∧ ∀ i, i < l.length → (l.getD i []).length ≤ 9223372036854775807
theorem rd47 : Reads Try.prog 47 1 (fun l : List (List Int) => [sll l]) rowsOK :=
  (reads_slice Try.underlying47 (by kernel_rfl) (by omega) rd22).conv id _ _ (fun _ => rfl) (fun l => by simp only [sll, rowsC, id]; congr 2; induction l with | nil => rfl | cons a l ih => simp_all) (fun l h => ⟨h.1, fun i hi => by
    rw [show (id l).getD i [] = l[i] by simp [List.getD_eq_getElem?_getD, show i < l.length from hi]]
    exact (h.2 _ (List.getElem_mem hi)).1⟩)
theorem rd49 : Reads Try.prog 49 1 (fun l : List Int => [.psl false l.length (l.map (.int .u16))]) (fun l => l.length ≤ 9223372036854775807 ∧ ∀ a ∈ l, okI .u16 a) :=
  (reads_slice Try.underlying49 (by kernel_rfl) (by omega) rd48).conv id _ _ (fun _ => rfl) (fun l => by simp only [id]; congr 2; induction l with | nil => rfl | cons a l ih => simp_all) (fun _ h => h)
theorem inB_of {p : Post} {reads : List (List Int)} (h : p.errs.length ≤ 9223372036854775807) (h' : rowsOK reads) : InB p reads := ⟨h, h'.1, h'.2⟩
end Go.Am
