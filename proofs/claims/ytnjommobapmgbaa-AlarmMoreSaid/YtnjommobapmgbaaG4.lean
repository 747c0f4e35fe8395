/- Parts Tab, AlA, AlC, AlS, AlD, RdA, AlE, AlF, AlG, AlH, AlT, AlQ, AlI, RdB, AlB, AlV of the proof, one behind the other. No statement is proved here. -/
import Derived.Test.YtnjommobapmgbaaG2
import Derived.Test.YtnjommobapmgbaaProg
import Derived.KernelRfl
import Derived.Test.YtnjommobapmgbaaG3
set_option linter.unusedVariables false -- all
set_option linter.unusedSimpArgs false
/- MADE BY A PROGRAM of ours (wip/tools/Tab): what the program's table says of the types that the walks meet. -/
namespace Go.Am
open Go.RowKit Go.Proofs
theorem tsz3 : tsz Try.prog 3 = some 1 := by kernel_rfl
theorem tagg3 : tagg Try.prog 3 = some false := by kernel_rfl
theorem tint3 : tint Try.prog 3 = some .i64 := by kernel_rfl
theorem tbytes3 : tbytes Try.prog 3 = some 8 := by kernel_rfl
theorem tzero3 : tzero Try.prog 3 = some [.int .i64 0] := by kernel_rfl
theorem tsz4 : tsz Try.prog 4 = some 1 := by kernel_rfl
theorem tagg4 : tagg Try.prog 4 = some false := by kernel_rfl
theorem tzero4 : tzero Try.prog 4 = some [.bool false] := by kernel_rfl
theorem tsz5 : tsz Try.prog 5 = some 1 := by kernel_rfl
theorem tagg5 : tagg Try.prog 5 = some false := by kernel_rfl
theorem tsz22 : tsz Try.prog 22 = some 1 := by kernel_rfl
theorem tagg22 : tagg Try.prog 22 = some false := by kernel_rfl
theorem tslice22 : tslice Try.prog 22 = some 3 := by kernel_rfl
theorem tbytes22 : tbytes Try.prog 22 = some 24 := by kernel_rfl
theorem tzero22 : tzero Try.prog 22 = some [.nils] := by kernel_rfl
theorem tsz46 : tsz Try.prog 46 = some 6 := by kernel_rfl
theorem tagg46 : tagg Try.prog 46 = some true := by kernel_rfl
theorem tfld46_0 : tfld Try.prog 46 0 = some (0, 22) := by kernel_rfl
theorem tfld46_1 : tfld Try.prog 46 1 = some (1, 3) := by kernel_rfl
theorem tfld46_2 : tfld Try.prog 46 2 = some (2, 3) := by kernel_rfl
theorem tfld46_3 : tfld Try.prog 46 3 = some (3, 3) := by kernel_rfl
theorem tfld46_4 : tfld Try.prog 46 4 = some (4, 3) := by kernel_rfl
theorem tfld46_5 : tfld Try.prog 46 5 = some (5, 3) := by kernel_rfl
theorem tslice47 : tslice Try.prog 47 = some 22 := by kernel_rfl
theorem tsz48 : tsz Try.prog 48 = some 1 := by kernel_rfl
theorem tagg48 : tagg Try.prog 48 = some false := by kernel_rfl
theorem tund48 : (Try.prog.underlying 48).isSome = true := by kernel_rfl
theorem tslice49 : tslice Try.prog 49 = some 48 := by kernel_rfl
theorem tsz51 : tsz Try.prog 51 = some 6 := by kernel_rfl
theorem tagg51 : tagg Try.prog 51 = some true := by kernel_rfl
theorem tarr51 : tarr Try.prog 51 = none := by kernel_rfl
theorem tzero51 : tzero Try.prog 51 = some [.nils, .int .i64 0, .int .i64 0, .int .i64 0, .int .i64 0, .int .i64 0] := by kernel_rfl
theorem tplaces51 : tplaces Try.prog 51 = some [(0, 1), (1, 1), (2, 1), (3, 1), (4, 1), (5, 1)] := by kernel_rfl
theorem tfld51_0 : tfld Try.prog 51 0 = some (0, 22) := by kernel_rfl
theorem tfld51_1 : tfld Try.prog 51 1 = some (1, 3) := by kernel_rfl
theorem tfld51_2 : tfld Try.prog 51 2 = some (2, 3) := by kernel_rfl
theorem tfld51_3 : tfld Try.prog 51 3 = some (3, 3) := by kernel_rfl
theorem tfld51_4 : tfld Try.prog 51 4 = some (4, 3) := by kernel_rfl
theorem tfld51_5 : tfld Try.prog 51 5 = some (5, 3) := by kernel_rfl
theorem tslice54 : tslice Try.prog 54 = some 58 := by kernel_rfl
theorem tsz58 : tsz Try.prog 58 = some 3 := by kernel_rfl
theorem tagg58 : tagg Try.prog 58 = some true := by kernel_rfl
theorem tarr58 : tarr Try.prog 58 = none := by kernel_rfl
theorem tbytes58 : tbytes Try.prog 58 = some 24 := by kernel_rfl
theorem tzero58 : tzero Try.prog 58 = some [.int .i64 0, .int .i64 0, .int .u8 0] := by kernel_rfl
theorem tplaces58 : tplaces Try.prog 58 = some [(0, 1), (1, 1), (2, 1)] := by kernel_rfl
theorem tfld58_0 : tfld Try.prog 58 0 = some (0, 3) := by kernel_rfl
theorem tfld58_1 : tfld Try.prog 58 1 = some (1, 3) := by kernel_rfl
theorem tfld58_2 : tfld Try.prog 58 2 = some (2, 5) := by kernel_rfl
theorem tsz115 : tsz Try.prog 115 = some 1 := by kernel_rfl
theorem tagg115 : tagg Try.prog 115 = some false := by kernel_rfl
theorem tsz122 : tsz Try.prog 122 = some 2 := by kernel_rfl
theorem tagg122 : tagg Try.prog 122 = some true := by kernel_rfl
theorem tslice122 : tslice Try.prog 122 = none := by kernel_rfl
theorem tarr122 : tarr Try.prog 122 = some (2, 3) := by kernel_rfl
theorem tzero122 : tzero Try.prog 122 = some [.int .i64 0, .int .i64 0] := by kernel_rfl
theorem tzv122 : tzv Try.prog 122 = some (.agg [.int .i64 0, .int .i64 0]) := by kernel_rfl
theorem tsz123 : tsz Try.prog 123 = some 1 := by kernel_rfl
theorem tagg123 : tagg Try.prog 123 = some false := by kernel_rfl
theorem tzero123 : tzero Try.prog 123 = some [.nilf] := by kernel_rfl
theorem tsz125 : tsz Try.prog 125 = some 1 := by kernel_rfl
theorem tagg125 : tagg Try.prog 125 = some false := by kernel_rfl
theorem tsz129 : tsz Try.prog 129 = some 1 := by kernel_rfl
theorem tagg129 : tagg Try.prog 129 = some false := by kernel_rfl
theorem tmap129 : tmap Try.prog 129 = some (3, 122) := by kernel_rfl
theorem tarr142 : tarr Try.prog 142 = none := by kernel_rfl
theorem tzero142 : tzero Try.prog 142 = some [.nils, .int .i64 0, .int .i64 0, .int .i64 0, .int .i64 0, .int .i64 0, .nilm] := by kernel_rfl
theorem tplaces142 : tplaces Try.prog 142 = some [(0, 6), (6, 1)] := by kernel_rfl
theorem tfld142_0 : tfld Try.prog 142 0 = some (0, 51) := by kernel_rfl
theorem tfld142_1 : tfld Try.prog 142 1 = some (6, 129) := by kernel_rfl
theorem tsz152 : tsz Try.prog 152 = some 1 := by kernel_rfl
theorem tagg152 : tagg Try.prog 152 = some false := by kernel_rfl
theorem tsz154 : tsz Try.prog 154 = some 2 := by kernel_rfl
theorem tagg154 : tagg Try.prog 154 = some true := by kernel_rfl
theorem tarr154 : tarr Try.prog 154 = none := by kernel_rfl
theorem tzero154 : tzero Try.prog 154 = some [.int .u8 0, .nilf] := by kernel_rfl
theorem tplaces154 : tplaces Try.prog 154 = some [(0, 1), (1, 1)] := by kernel_rfl
theorem tfld154_0 : tfld Try.prog 154 0 = some (0, 5) := by kernel_rfl
theorem tfld154_1 : tfld Try.prog 154 1 = some (1, 152) := by kernel_rfl
theorem tslice155 : tslice Try.prog 155 = some 154 := by kernel_rfl
attribute [go_sem] tsz3 tagg3 tint3 tbytes3 tzero3 tsz4 tagg4 tzero4 tsz5 tagg5 tsz22 tagg22 tslice22 tbytes22 tzero22 tsz46 tagg46 tfld46_0 tfld46_1 tfld46_2 tfld46_3 tfld46_4 tfld46_5 tslice47 tsz48 tagg48 tund48 tslice49 tsz51 tagg51 tarr51 tzero51 tplaces51 tfld51_0 tfld51_1 tfld51_2 tfld51_3 tfld51_4 tfld51_5 tslice54 tsz58 tagg58 tarr58 tbytes58 tzero58 tplaces58 tfld58_0 tfld58_1 tfld58_2 tsz115 tagg115 tsz122 tagg122 tslice122 tarr122 tzero122 tzv122 tsz123 tagg123 tzero123 tsz125 tagg125 tsz129 tagg129 tmap129 tarr142 tzero142 tplaces142 tfld142_0 tfld142_1 tsz152 tagg152 tsz154 tagg154 tarr154 tzero154 tplaces154 tfld154_0 tfld154_1 tslice155
end Go.Am

/- Contracts of the alarm functions, part A: small ones. -/
namespace Go.Am
open Go.RowKit Go.Proofs
attribute [local irreducible] AWP CallS Kt goK CallK stepK evOps
set_option maxRecDepth 4000
set_option linter.unusedSimpArgs false
set_option linter.unusedVariables false
theorem within_c (n lo hi : Int) : CallS Try.prog 67 [.int .i64 n, .int .i64 lo, .int .i64 hi] (.bool (decide (lo ≤ n ∧ n ≤ hi))) := by
  (refine callS_of_awp (fun w args => Try.call67 ..) Try.func67 rfl (fun w0 m0 wz => ?_); simp only [Try.ntmps67, Try.results67, initT, junks, sl, List.toList_toArray, List.cons_append, List.nil_append, List.length_cons, List.length_nil, Nat.reduceAdd, Nat.reduceSub])
  (repeat' (first
 | refine awp_seqK ?_
 | refine kt ?_
 | refine And.intro ?_ ?_
 | ((first | refine awp_stp rfl ?_ | refine awp_draw (by kernel_rfl) (by kernel_rfl) ?_ | refine Imp.le2 ?_ | refine go_split (fun _h => ?_) (fun _h => ?_)) <;> try simp (maxSteps := 4000000) only [go_sem, seval, List.append_eq, List.cons_append, List.nil_append])
 | intro _h
 | refine awp_block ?_
 | refine awp_scope ?_
 | (show heapOK _ _ = true; kernel_rfl)
 | (show heapOK2 _ _ = true; kernel_rfl)
 | (omega)))
theorem speed_c (n : Int) : CallS Try.prog 71 [.int .i64 n] (.bool (decide (0 ≤ n ∧ n ≤ 1000))) := by
  (refine callS_of_awp (fun w args => Try.call71 ..) Try.func71 rfl (fun w0 m0 wz => ?_); simp only [Try.ntmps71, Try.results71, initT, junks, sl, List.toList_toArray, List.cons_append, List.nil_append, List.length_cons, List.length_nil, Nat.reduceAdd, Nat.reduceSub])
  (repeat' (first
 | refine awp_seqK ?_
 | refine kt ?_
 | refine And.intro ?_ ?_
 | ((first | refine awp_stp rfl ?_ | refine awp_draw (by kernel_rfl) (by kernel_rfl) ?_ | refine Imp.le2 ?_ | refine callK_of (within_c _ _ _) ?_ | refine go_split (fun _h => ?_) (fun _h => ?_)) <;> try simp (maxSteps := 4000000) only [go_sem, seval, List.append_eq, List.cons_append, List.nil_append])
 | intro _h
 | refine awp_block ?_
 | refine awp_scope ?_
 | (show heapOK _ _ = true; kernel_rfl)
 | (show heapOK2 _ _ = true; kernel_rfl)
 | (omega)))
theorem max2_c (f : Bool) (a b : Int) : CallS Try.prog 92 [.psl f 2 [.int .i64 a, .int .i64 b]] (.int .i64 (max a b)) := by
  (refine callS_of_awp (fun w args => Try.call92 ..) Try.func92 rfl (fun w0 m0 wz => ?_); simp only [Try.ntmps92, Try.results92, initT, junks, sl, List.toList_toArray, List.cons_append, List.nil_append, List.length_cons, List.length_nil, Nat.reduceAdd, Nat.reduceSub])
  (repeat' (first
 | refine awp_seqK ?_
 | refine kt ?_
 | refine And.intro ?_ ?_
 | ((first | refine awp_stp rfl ?_ | refine awp_draw (by kernel_rfl) (by kernel_rfl) ?_ | refine Imp.le2 ?_ | refine go_split (fun _h => ?_) (fun _h => ?_)) <;> try simp (maxSteps := 4000000) only [go_sem, seval, List.append_eq, List.cons_append, List.nil_append])
 | intro _h
 | refine awp_block ?_
 | refine awp_scope ?_
 | (show heapOK _ _ = true; kernel_rfl)
 | (show heapOK2 _ _ = true; kernel_rfl)
 | (omega)))
  (refine awp_rounds 2 ?_; rw [ar_s])
  (repeat' (first
 | refine awp_seqK ?_
 | refine kt ?_
 | refine And.intro ?_ ?_
 | ((first | refine awp_stp rfl ?_ | refine awp_draw (by kernel_rfl) (by kernel_rfl) ?_ | refine Imp.le2 ?_ | refine go_split (fun _h => ?_) (fun _h => ?_)) <;> try simp (maxSteps := 4000000) only [go_sem, seval, List.append_eq, List.cons_append, List.nil_append])
 | intro _h
 | refine awp_block ?_
 | refine awp_scope ?_
 | (show heapOK _ _ = true; kernel_rfl)
 | (show heapOK2 _ _ = true; kernel_rfl)
 | (omega)))
theorem min2_c (f : Bool) (a b : Int) : CallS Try.prog 99 [.psl f 2 [.int .i64 a, .int .i64 b]] (.int .i64 (min a b)) := by
  (refine callS_of_awp (fun w args => Try.call99 ..) Try.func99 rfl (fun w0 m0 wz => ?_); simp only [Try.ntmps99, Try.results99, initT, junks, sl, List.toList_toArray, List.cons_append, List.nil_append, List.length_cons, List.length_nil, Nat.reduceAdd, Nat.reduceSub])
  (repeat' (first
 | refine awp_seqK ?_
 | refine kt ?_
 | refine And.intro ?_ ?_
 | ((first | refine awp_stp rfl ?_ | refine awp_draw (by kernel_rfl) (by kernel_rfl) ?_ | refine Imp.le2 ?_ | refine go_split (fun _h => ?_) (fun _h => ?_)) <;> try simp (maxSteps := 4000000) only [go_sem, seval, List.append_eq, List.cons_append, List.nil_append])
 | intro _h
 | refine awp_block ?_
 | refine awp_scope ?_
 | (show heapOK _ _ = true; kernel_rfl)
 | (show heapOK2 _ _ = true; kernel_rfl)
 | (omega)))
  (refine awp_rounds 2 ?_; rw [ar_s])
  (repeat' (first
 | refine awp_seqK ?_
 | refine kt ?_
 | refine And.intro ?_ ?_
 | ((first | refine awp_stp rfl ?_ | refine awp_draw (by kernel_rfl) (by kernel_rfl) ?_ | refine Imp.le2 ?_ | refine go_split (fun _h => ?_) (fun _h => ?_)) <;> try simp (maxSteps := 4000000) only [go_sem, seval, List.append_eq, List.cons_append, List.nil_append])
 | intro _h
 | refine awp_block ?_
 | refine awp_scope ?_
 | (show heapOK _ _ = true; kernel_rfl)
 | (show heapOK2 _ _ = true; kernel_rfl)
 | (omega)))
theorem greatest_c (f : Bool) (a b : Int) : CallS Try.prog 75 [.psl f 2 [.int .i64 a, .int .i64 b]] (.int .i64 (max a b)) := by
  (refine callS_of_awp (fun w args => Try.call75 ..) Try.func75 rfl (fun w0 m0 wz => ?_); simp only [Try.ntmps75, Try.results75, initT, junks, sl, List.toList_toArray, List.cons_append, List.nil_append, List.length_cons, List.length_nil, Nat.reduceAdd, Nat.reduceSub])
  (repeat' (first
 | refine awp_seqK ?_
 | refine kt ?_
 | refine And.intro ?_ ?_
 | ((first | refine awp_stp rfl ?_ | refine awp_draw (by kernel_rfl) (by kernel_rfl) ?_ | refine Imp.le2 ?_ | refine callK_of (max2_c _ _ _) ?_ | refine go_split (fun _h => ?_) (fun _h => ?_)) <;> try simp (maxSteps := 4000000) only [go_sem, seval, List.append_eq, List.cons_append, List.nil_append])
 | intro _h
 | refine awp_block ?_
 | refine awp_scope ?_
 | (show heapOK _ _ = true; kernel_rfl)
 | (show heapOK2 _ _ = true; kernel_rfl)
 | (omega)))
theorem least_c (f : Bool) (a b : Int) : CallS Try.prog 84 [.psl f 2 [.int .i64 a, .int .i64 b]] (.int .i64 (min a b)) := by
  (refine callS_of_awp (fun w args => Try.call84 ..) Try.func84 rfl (fun w0 m0 wz => ?_); simp only [Try.ntmps84, Try.results84, initT, junks, sl, List.toList_toArray, List.cons_append, List.nil_append, List.length_cons, List.length_nil, Nat.reduceAdd, Nat.reduceSub])
  (repeat' (first
 | refine awp_seqK ?_
 | refine kt ?_
 | refine And.intro ?_ ?_
 | ((first | refine awp_stp rfl ?_ | refine awp_draw (by kernel_rfl) (by kernel_rfl) ?_ | refine Imp.le2 ?_ | refine callK_of (min2_c _ _ _) ?_ | refine go_split (fun _h => ?_) (fun _h => ?_)) <;> try simp (maxSteps := 4000000) only [go_sem, seval, List.append_eq, List.cons_append, List.nil_append])
 | intro _h
 | refine awp_block ?_
 | refine awp_scope ?_
 | (show heapOK _ _ = true; kernel_rfl)
 | (show heapOK2 _ _ = true; kernel_rfl)
 | (omega)))
theorem nothing_c : CallS Try.prog 91 [] (.agg [.int .i64 1, .int .i64 0]) := by
  (refine callS_of_awp (fun w args => Try.call91 ..) Try.func91 rfl (fun w0 m0 wz => ?_); simp only [Try.ntmps91, Try.results91, initT, junks, sl, List.toList_toArray, List.cons_append, List.nil_append, List.length_cons, List.length_nil, Nat.reduceAdd, Nat.reduceSub])
  (repeat' (first
 | refine awp_seqK ?_
 | refine kt ?_
 | refine And.intro ?_ ?_
 | ((first | refine awp_stp rfl ?_ | refine awp_draw (by kernel_rfl) (by kernel_rfl) ?_ | refine Imp.le2 ?_ | refine go_split (fun _h => ?_) (fun _h => ?_)) <;> try simp (maxSteps := 4000000) only [go_sem, seval, List.append_eq, List.cons_append, List.nil_append])
 | intro _h
 | refine awp_block ?_
 | refine awp_scope ?_
 | (show heapOK _ _ = true; kernel_rfl)
 | (show heapOK2 _ _ = true; kernel_rfl)
 | (omega)))
end Go.Am

/- Contracts of the alarm functions: lists of which each element is right. -/
namespace Go.Am
open Go.RowKit Go.Proofs
attribute [local irreducible] AWP CallS Kt goK CallK stepK evOps
set_option maxRecDepth 4000
set_option linter.unusedSimpArgs false
set_option linter.unusedVariables false
set_option maxHeartbeats 400000
/-- The place of the first one, or -1. -/
def idxOf {α : Type} (q : α → Bool) (l : List α) : Int := match l.findIdx? q with | some i => i | none => -1
theorem idxOf_some {α : Type} {q : α → Bool} {l : List α} {d : α} {i : Nat} (hi : i < l.length) (h : q (l.getD i d) = true) (hj : ∀ j, j < i → q (l.getD j d) = false) : (i : Int) = idxOf q l := by
  have : l.findIdx? q = some i := by
    rw [List.findIdx?_eq_some_iff_getElem]
    refine ⟨hi, by simpa [List.getD_eq_getElem?_getD, hi] using h, fun j hji => ?_⟩
    have := hj j hji
    simpa [List.getD_eq_getElem?_getD, Nat.lt_trans hji hi] using this
  simp [idxOf, this]
theorem idxOf_none {α : Type} {q : α → Bool} {l : List α} {d : α} (hj : ∀ j, j < l.length → q (l.getD j d) = false) : -1 = idxOf q l := by
  have : l.findIdx? q = none := by
    rw [List.findIdx?_eq_none_iff]
    intro x hx
    obtain ⟨j, hjl, rfl⟩ := List.mem_iff_getElem.1 hx
    have := hj j hjl
    simpa [List.getD_eq_getElem?_getD, hjl] using this
  simp [idxOf, this]
theorem idxOf_ge {α : Type} {q : α → Bool} {l : List α} : decide (0 ≤ idxOf q l) = l.any q := by
  unfold idxOf
  cases h : l.findIdx? q with
  | none =>
    rw [List.findIdx?_eq_none_iff] at h
    have : l.any q = false := by rw [List.any_eq_false]; intro x hx; simp [h x hx]
    simp [this]
  | some i =>
    rw [List.findIdx?_eq_some_iff_getElem] at h
    obtain ⟨h1, h2, _⟩ := h
    have : l.any q = true := by rw [List.any_eq_true]; exact ⟨_, List.getElem_mem h1, h2⟩
    simp [this]
theorem idx_int (l : List Int) (g : FuncId) (fv : AV) (q : Int → Bool) (hl : l.length ≤ 9223372036854775807) (hq : ∀ i, i < l.length → CallS Try.prog g [.int .i64 (l.getD i 0), .pptr [fv] 0] (.bool (q (l.getD i 0)))) :
    CallS Try.prog 103 [sl l, .fn (.func g) [] [.pptr [fv] 0]] (.int .i64 (idxOf q l)) := by
  (refine callS_of_awp (fun w args => Try.call103 ..) Try.func103 rfl (fun w0 m0 wz => ?_); simp only [Try.ntmps103, Try.results103, initT, junks, sl, List.toList_toArray, List.cons_append, List.nil_append, List.length_cons, List.length_nil, Nat.reduceAdd, Nat.reduceSub])
  (repeat' (first
 | refine awp_seqK ?_
 | refine kt ?_
 | refine And.intro ?_ ?_
 | ((first | refine awp_stp rfl ?_ | refine awp_draw (by kernel_rfl) (by kernel_rfl) ?_ | refine Imp.le2 ?_ | refine go_split (fun _h => ?_) (fun _h => ?_)) <;> try simp (maxSteps := 4000000) only [go_sem, seval, List.append_eq, List.cons_append, List.nil_append])
 | intro _h
 | refine awp_block ?_
 | refine awp_scope ?_
 | (show heapOK _ _ = true; kernel_rfl)
 | (show heapOK2 _ _ = true; kernel_rfl)
 | (omega)))
  refine awp_loopJ (fun i : Nat => i ≤ l.length ∧ ∀ j, j < i → q (l.getD j 0) = false) (fun i => ⟨mkT 19 [(0, sl l), (1, .fn (.func g) [] [.pptr [fv] 0]), (6, sl l), (7, .int .i64 l.length), (8, .int .i64 i)], [], []⟩) (fun i => l.length - i) 0 ⟨Nat.zero_le _, by simp⟩ (.le2 ?_) ?_
  · simp (maxSteps := 4000000) only [go_sem, seval, List.append_eq, List.cons_append, List.nil_append]
  · rintro i ⟨hi, hj⟩
    simp (maxSteps := 4000000) only [go_sem, seval, List.append_eq, List.cons_append, List.nil_append]
    (repeat' (first
 | refine awp_seqK ?_
 | refine kt ?_
 | refine And.intro ?_ ?_
 | ((first | refine awp_stp rfl ?_ | refine awp_draw (by kernel_rfl) (by kernel_rfl) ?_ | refine Imp.le2 ?_ | refine callK_of (hq i (by omega)) ?_ | refine go_split (fun _h => ?_) (fun _h => ?_)) <;> try simp (maxSteps := 4000000) only [go_sem, seval, List.append_eq, List.cons_append, List.nil_append])
 | intro _h
 | refine awp_block ?_
 | refine awp_scope ?_
 | (show heapOK _ _ = true; kernel_rfl)
 | (show heapOK2 _ _ = true; kernel_rfl)
 | (omega)))
    · exact idxOf_some (by omega) ‹_› hj
    · refine ⟨i + 1, ⟨by omega, fun j hji => ?_⟩, by omega, .le2 ?_⟩
      · rcases Nat.lt_succ_iff_lt_or_eq.1 hji with h | rfl
        · exact hj j h
        · assumption
      · simp (maxSteps := 4000000) only [go_sem, seval, List.append_eq, List.cons_append, List.nil_append]
        omega
    · exact idxOf_none (d := 0) (fun j hjl => hj j (by omega))
theorem has_int (l : List Int) (g : FuncId) (fv : AV) (q : Int → Bool) (hl : l.length ≤ 9223372036854775807) (hq : ∀ i, i < l.length → CallS Try.prog g [.int .i64 (l.getD i 0), .pptr [fv] 0] (.bool (q (l.getD i 0)))) :
    CallS Try.prog 97 [sl l, .fn (.func g) [] [.pptr [fv] 0]] (.bool (l.any q)) := by
  rw [← idxOf_ge]
  (refine callS_of_awp (fun w args => Try.call97 ..) Try.func97 rfl (fun w0 m0 wz => ?_); simp only [Try.ntmps97, Try.results97, initT, junks, sl, List.toList_toArray, List.cons_append, List.nil_append, List.length_cons, List.length_nil, Nat.reduceAdd, Nat.reduceSub])
  (repeat' (first
 | refine awp_seqK ?_
 | refine kt ?_
 | refine And.intro ?_ ?_
 | ((first | refine awp_stp rfl ?_ | refine awp_draw (by kernel_rfl) (by kernel_rfl) ?_ | refine Imp.le2 ?_ | refine callK_of (idx_int l g fv q hl hq) ?_ | refine go_split (fun _h => ?_) (fun _h => ?_)) <;> try simp (maxSteps := 4000000) only [go_sem, seval, List.append_eq, List.cons_append, List.nil_append])
 | intro _h
 | refine awp_block ?_
 | refine awp_scope ?_
 | (show heapOK _ _ = true; kernel_rfl)
 | (show heapOK2 _ _ = true; kernel_rfl)
 | (omega)))
theorem all1_int (n : Int) (f : FuncId) (q : Bool) (hq : CallS Try.prog f [.int .i64 n] (.bool q)) : CallS Try.prog 98 [.int .i64 n, .pptr [.fn (.func f) [] []] 0] (.bool (!q)) := by
  (refine callS_of_awp (fun w args => Try.call98 ..) Try.func98 rfl (fun w0 m0 wz => ?_); simp only [Try.ntmps98, Try.results98, initT, junks, sl, List.toList_toArray, List.cons_append, List.nil_append, List.length_cons, List.length_nil, Nat.reduceAdd, Nat.reduceSub])
  (repeat' (first
 | refine awp_seqK ?_
 | refine kt ?_
 | refine And.intro ?_ ?_
 | ((first | refine awp_stp rfl ?_ | refine awp_draw (by kernel_rfl) (by kernel_rfl) ?_ | refine Imp.le2 ?_ | refine callK_of (hq) ?_ | refine go_split (fun _h => ?_) (fun _h => ?_)) <;> try simp (maxSteps := 4000000) only [go_sem, seval, List.append_eq, List.cons_append, List.nil_append])
 | intro _h
 | refine awp_block ?_
 | refine awp_scope ?_
 | (show heapOK _ _ = true; kernel_rfl)
 | (show heapOK2 _ _ = true; kernel_rfl)
 | (omega))) <;> simp [*]
theorem all_int (l : List Int) (f : FuncId) (q : Int → Bool) (hl : l.length ≤ 9223372036854775807) (hq : ∀ i, i < l.length → CallS Try.prog f [.int .i64 (l.getD i 0)] (.bool (q (l.getD i 0)))) :
    CallS Try.prog 82 [sl l, .fn (.func f) [] []] (.bool (l.all q)) := by
  have hany : l.all q = !l.any (fun x => !q x) := by simp [List.all_eq_not_any_not]
  rw [hany]
  (refine callS_of_awp (fun w args => Try.call82 ..) Try.func82 rfl (fun w0 m0 wz => ?_); simp only [Try.ntmps82, Try.results82, initT, junks, sl, List.toList_toArray, List.cons_append, List.nil_append, List.length_cons, List.length_nil, Nat.reduceAdd, Nat.reduceSub])
  ((repeat refine awp_seqK ?_); refine awp_region ?_; simp (maxSteps := 4000000) only [go_sem, seval, List.append_eq, List.cons_append, List.nil_append]; refine kt ?_)
  (refine awp_frz 0 rfl (by simp (maxSteps := 4000000) only [go_sem, seval, List.append_eq, List.cons_append, List.nil_append]) (fun _ => rfl) ?_; simp only [frz, fzl, fz2, fz1, fz0, fzH, fzHs, fzO, fzB, List.map_cons, List.map_nil, if_true, if_false, reduceIte, Nat.reduceEqDiff, Nat.reduceAdd, Nat.succ_ne_self, Nat.zero_ne_one, Nat.one_ne_zero, reduceCtorEq, and_self])
  (repeat' (first
 | refine awp_seqK ?_
 | refine kt ?_
 | refine And.intro ?_ ?_
 | ((first | refine awp_stp rfl ?_ | refine awp_draw (by kernel_rfl) (by kernel_rfl) ?_ | refine Imp.le2 ?_ | refine callK_of (has_int l 98 (.fn (.func f) [] []) (fun x => !q x) hl (fun i hi => all1_int _ _ _ (hq i hi))) ?_ | refine go_split (fun _h => ?_) (fun _h => ?_)) <;> try simp (maxSteps := 4000000) only [go_sem, seval, List.append_eq, List.cons_append, List.nil_append])
 | intro _h
 | refine awp_block ?_
 | refine awp_scope ?_
 | (show heapOK _ _ = true; kernel_rfl)
 | (show heapOK2 _ _ = true; kernel_rfl)
 | (omega))) <;> simp only [*, Bool.not_true, Bool.not_false]
end Go.Am

/- Plain words for the alarms: seasons, rules, spells, prices. No program is in sight. -/
namespace Go.Am
structure Rule where
  start : Int
  back : Int
  hold : Int
structure Season where
  speeds : List Int
  fell : Bool
instance : Inhabited Season := ⟨⟨[], false⟩⟩
def speedB (n : Int) : Bool := decide (0 ≤ n ∧ n ≤ 1000)
end Go.Am

/- Contracts of the alarm functions: rules, seasons. -/
namespace Go.Am
open Go.RowKit Go.Proofs
attribute [local irreducible] AWP CallS Kt goK CallK stepK evOps
set_option maxRecDepth 4000
set_option linter.unusedSimpArgs false
set_option linter.unusedVariables false
set_option maxHeartbeats 400000
def ruleC (r : Rule) : List AV := [.int .i64 r.start, .int .i64 r.back, .int .i64 r.hold]
def seasonC (s : Season) : List AV := [sl s.speeds, .bool s.fell]
/-- A list of seasons. -/
def slS (l : List Season) : AV := .psl false l.length (recs seasonC l)
section
variable {α : Type} {enc : α → List AV} {sz : Nat} {l : List α} {d : α} {P : Program} {t : TypeId}
theorem nth_recs (he : ∀ a, (enc a).length = sz) {i o : Nat} (ho : o < sz) {K : AV → Prop} : optK (nth (recs enc l) (i * sz + o)) K = (i < l.length ∧ optK (nth (enc (l.getD i d)) o) K) := by
  by_cases hi : i < l.length
  · rw [recs_nth (d := d) he hi ho]; simp [hi]
  · have : nth (recs enc l) (i * sz + o) = none := by
      rw [← nth_is, List.getElem?_eq_none]
      rw [recs_length he]
      have := Nat.mul_le_mul_right sz (Nat.le_of_not_lt hi)
      omega
    simp [this, hi, optK]
end
theorem len_S {l : List Season} : (recs seasonC l).length = l.length * 2 := recs_length fun _ => rfl
attribute [go_sem] len_S
theorem list_c (l : List Int) (hl : l.length ≤ 1000000) : CallS Try.prog 39 [sl l] (sl l) := by
  (refine callS_of_awp (fun w args => Try.call39 ..) Try.func39 rfl (fun w0 m0 wz => ?_); simp only [Try.ntmps39, Try.results39, initT, junks, ruleC, seasonC, slS, sl, List.toList_toArray, List.cons_append, List.nil_append, List.length_cons, List.length_nil, Nat.reduceAdd, Nat.reduceSub])
  (repeat' (first
 | refine awp_seqK ?_
 | refine kt ?_
 | refine And.intro ?_ ?_
 | ((first | refine awp_stp rfl ?_ | refine awp_draw (by kernel_rfl) (by kernel_rfl) ?_ | refine Imp.le2 ?_ | refine go_split (fun _h => ?_) (fun _h => ?_)) <;> try simp (maxSteps := 4000000) only [go_sem, seval, List.append_eq, List.cons_append, List.nil_append, ruleC, seasonC, slS])
 | intro _h
 | refine awp_block ?_
 | refine awp_scope ?_
 | (show heapOK _ _ = true; kernel_rfl)
 | (show heapOK2 _ _ = true; kernel_rfl)
 | (omega)))
theorem in_c (n lo hi : Int) : CallS Try.prog 45 [.int .i64 n, .int .i64 lo, .int .i64 hi] (.bool (decide (lo ≤ n ∧ n ≤ hi))) := by
  (refine callS_of_awp (fun w args => Try.call45 ..) Try.func45 rfl (fun w0 m0 wz => ?_); simp only [Try.ntmps45, Try.results45, initT, junks, ruleC, seasonC, slS, sl, List.toList_toArray, List.cons_append, List.nil_append, List.length_cons, List.length_nil, Nat.reduceAdd, Nat.reduceSub])
  (repeat' (first
 | refine awp_seqK ?_
 | refine kt ?_
 | refine And.intro ?_ ?_
 | ((first | refine awp_stp rfl ?_ | refine awp_draw (by kernel_rfl) (by kernel_rfl) ?_ | refine Imp.le2 ?_ | refine go_split (fun _h => ?_) (fun _h => ?_)) <;> try simp (maxSteps := 4000000) only [go_sem, seval, List.append_eq, List.cons_append, List.nil_append, ruleC, seasonC, slS])
 | intro _h
 | refine awp_block ?_
 | refine awp_scope ?_
 | (show heapOK _ _ = true; kernel_rfl)
 | (show heapOK2 _ _ = true; kernel_rfl)
 | (omega)))
end Go.Am

/- What the arguments of the alarm laws can be read as. -/
namespace Go.Am
open Go.RowKit Go.Proofs
theorem rd3 : Reads Try.prog 3 1 (fun n : Int => [.int .i64 n]) (okI .i64) := reads_int Try.underlying3 (by kernel_rfl)
theorem rd22 : Reads Try.prog 22 1 (fun l : List Int => [sl l]) (fun l => l.length ≤ 9223372036854775807 ∧ ∀ a ∈ l, okI .i64 a) :=
  (reads_slice Try.underlying22 (by kernel_rfl) (by omega) rd3).conv id _ _ (fun _ => rfl) (fun l => by simp only [sl, ints, id]; congr 2; induction l with | nil => rfl | cons a l ih => simp_all) (fun _ h => h)
end Go.Am

/- Contracts of the alarm functions: the errors of seasons. -/
namespace Go.Am
open Go.RowKit Go.Proofs
attribute [local irreducible] AWP CallS Kt goK CallK stepK evOps
set_option maxRecDepth 4000
set_option linter.unusedSimpArgs false
set_option linter.unusedVariables false
set_option maxHeartbeats 400000
end Go.Am

/- Contracts of the alarm functions: the errors of seasons by the reference, spells. -/
namespace Go.Am
open Go.RowKit Go.Proofs
attribute [local irreducible] AWP CallS Kt goK CallK stepK evOps
set_option maxRecDepth 4000
set_option linter.unusedSimpArgs false
set_option linter.unusedVariables false
set_option maxHeartbeats 800000
end Go.Am

/- Contracts of the alarm functions: spells. -/
namespace Go.Am
open Go.RowKit Go.Proofs
attribute [local irreducible] AWP CallS Kt goK CallK stepK evOps
set_option maxRecDepth 4000
set_option linter.unusedSimpArgs false
set_option linter.unusedVariables false
set_option maxHeartbeats 800000
def spellC (x : Nat × Nat) : List AV := [.int .i64 x.1, .int .i64 x.2]
theorem len_X {l : List (Nat × Nat)} : (recs spellC l).length = l.length * 2 := recs_length fun _ => rfl
attribute [go_sem] len_X
end Go.Am

/- Contracts of the alarm functions: spells of the program. -/
namespace Go.Am
open Go.RowKit Go.Proofs
attribute [local irreducible] AWP CallS Kt goK CallK stepK evOps
set_option maxRecDepth 4000
set_option linter.unusedSimpArgs false
set_option linter.unusedVariables false
set_option maxHeartbeats 800000
end Go.Am

/- Plain words for the alarms: how spells lie, prices, the best rule. No program is in sight. -/
namespace Go.Am
/-- One behind the other. -/
def Chain (n : Nat) : Nat → List (Nat × Nat) → Prop
  | _, [] => True
  | lo, x :: l => lo ≤ x.1 ∧ x.1 < x.2 ∧ x.2 ≤ n ∧ Chain n x.2 l
theorem Chain.at {n : Nat} : ∀ {l : List (Nat × Nat)} {lo : Nat}, Chain n lo l → ∀ i, i < l.length → lo ≤ (l.getD i (0, 0)).1 ∧ (l.getD i (0, 0)).1 < (l.getD i (0, 0)).2 ∧ (l.getD i (0, 0)).2 ≤ n
  | [], _, _, i, hi => by simp at hi
  | x :: l, lo, h, 0, _ => ⟨h.1, h.2.1, h.2.2.1⟩
  | x :: l, lo, h, i + 1, hi => by
    have := Chain.at h.2.2.2 i (by simpa using hi)
    simp only [List.getD_cons_succ]
    have h1 := h.1
    have h2 := h.2.1
    exact ⟨by omega, this.2⟩
theorem Chain.lt {n : Nat} : ∀ {l : List (Nat × Nat)} {lo : Nat}, Chain n lo l → ∀ i j, i < j → j < l.length → (l.getD i (0, 0)).2 ≤ (l.getD j (0, 0)).1
  | [], _, _, i, j, _, hj => by simp at hj
  | x :: l, lo, h, 0, j + 1, _, hj => by simpa using (Chain.at h.2.2.2 j (by simpa using hj)).1
  | x :: l, lo, h, i + 1, j + 1, hij, hj => by simpa using Chain.lt h.2.2.2 i j (by omega) (by simpa using hj)
  | x :: l, lo, h, i, 0, hij, _ => by omega
end Go.Am

/- Structs and bools that are compared, in the walk. -/
namespace Go.Am
open Go.RowKit Go.Proofs
section
variable {P : Program} {t : TypeId} {K : AV → Prop} {k1 k2 k3 : IntKind} {a b c d e f : Int}
theorem bin_agg2 (h : tkb P t = some [false, false]) : binK P .eql t (.agg [.int k1 a, .int k2 b]) (.agg [.int k1 c, .int k2 d]) K = K (.bool (decide (a = c ∧ b = d))) := by
  have hs : scalEq [.int k1 a, .int k2 b] [.int k1 c, .int k2 d] = some (decide (a = c ∧ b = d)) := by simp [scalEq, Bool.decide_and]
  simp only [binK, hs, eq_true (eqOK (P := P) t), List.map_cons, List.map_nil, kindB, h, true_and]
end
theorem tkb122 : tkb Try.prog 122 = some [false, false] := by kernel_rfl
theorem eq122 {K : AV → Prop} {a b c d : Int} : binK Try.prog .eql 122 (.agg [.int .i64 a, .int .i64 b]) (.agg [.int .i64 c, .int .i64 d]) K = K (.bool (decide (a = c ∧ b = d))) := bin_agg2 tkb122
attribute [go_sem] eq122
end Go.Am

/- Contracts of the alarm functions: the price of a season. -/
namespace Go.Am
open Go.RowKit Go.Proofs
attribute [local irreducible] AWP CallS Kt goK CallK stepK evOps
set_option maxRecDepth 4000
set_option linter.unusedSimpArgs false
set_option linter.unusedVariables false
set_option maxHeartbeats 1600000
end Go.Am

/- What the arguments of the alarm laws can be read as: seasons, terms, small numbers. -/
namespace Go.Am
open Go.RowKit Go.Proofs
section
variable {H : Type} {en : TypeId × Value → H} {P : Program} {w : World} {base : Nat} {sp : Nat → Bool} {held : Bool}
theorem arg_slice {rc : Reach} {b0 : Nat} {t e : TypeId} {v : Value} {d : DataW H} {p : List MemPlace} {α : Type} {x : α → AV} {ok : α → Prop} (hu : P.underlying t = some (.slice e)) (r : Reads P t 1 (fun a => [x a]) ok)
    (hv : Value.okWide P w rc b0 t v) (h : DataW.Trod en P w base sp held t v d p) : ∃ a, ok a ∧ PRep (fun c => c < w.heap.size) w (x a) v := by
  refine arg_one r ?_ h
  cases v
  case agg cs => exact absurd hv (by simp [Value.okWide, Cell.okWide, Cell.ok, hu])
  all_goals rfl
theorem arg_int {rc : Reach} {b0 : Nat} {t : TypeId} {k : IntKind} {v : Value} {d : DataW H} {p : List MemPlace} {α : Type} {x : α → AV} {ok : α → Prop} (hu : P.underlying t = some (.int k)) (r : Reads P t 1 (fun a => [x a]) ok)
    (hv : Value.okWide P w rc b0 t v) (h : DataW.Trod en P w base sp held t v d p) : ∃ a, ok a ∧ PRep (fun c => c < w.heap.size) w (x a) v := by
  refine arg_one r ?_ h
  cases v
  case agg cs => exact absurd hv (by simp [Value.okWide, Cell.okWide, Cell.ok, hu])
  all_goals rfl
end
theorem rd48 : Reads Try.prog 48 1 (fun n : Int => [.int .u16 n]) (okI .u16) := reads_int Try.underlying48 (by kernel_rfl)
theorem okI_u16 {n : Int} (h : okI .u16 n) : 0 ≤ n ∧ n ≤ 65535 := by
  unfold okI at h
  simpa [Lit.wf, IntKind.has, IntKind.min, IntKind.max, IntKind.signed, IntKind.bits] using h
end Go.Am

/- Contracts of the alarm functions, part A: small ones. -/
namespace Go.Am
open Go.RowKit Go.Proofs
attribute [local irreducible] AWP CallS Kt goK CallK stepK evOps
set_option maxRecDepth 4000
set_option linter.unusedSimpArgs false
set_option linter.unusedVariables false
set_option maxHeartbeats 400000
/-- A post of the program. -/
structure Post where
  errs : List Int
  gain : Int
  drop : Int
  fall : Int
  out : Int
  ahead : Int
def postC (p : Post) : List AV := [sl p.errs, .int .i64 p.gain, .int .i64 p.drop, .int .i64 p.fall, .int .i64 p.out, .int .i64 p.ahead]
def agLo (errs row : List Int) (failed : Int) : Nat → Int
  | 0 => 0
  | i + 1 => if (i : Int) = failed then agLo errs row failed i else max (agLo errs row failed i) (row.getD i 0 - errs.getD i 0)
def agHi (errs row : List Int) (failed : Int) : Nat → Int
  | 0 => 1000
  | i + 1 => if (i : Int) = failed then agHi errs row failed i else min (agHi errs row failed i) (row.getD i 0 + errs.getD i 0)
def agreedEnds (errs row : List Int) (failed : Int) : Int × Int :=
  if agHi errs row failed row.length < agLo errs row failed row.length then (1, 0) else (agLo errs row failed row.length, agHi errs row failed row.length)
theorem agreed_c (p : Post) (row : List Int) (failed : Int) (hl : row.length = p.errs.length) (hb : row.length ≤ 1000) (h1 : ∀ i, i < row.length → -1000 ≤ row.getD i 0 ∧ row.getD i 0 ≤ 2000) (h2 : ∀ i, i < p.errs.length → 0 ≤ p.errs.getD i 0 ∧ p.errs.getD i 0 ≤ 1000) :
    CallS Try.prog 68 [.agg (postC p), sl row, .int .i64 failed] (.agg [.int .i64 (agreedEnds p.errs row failed).1, .int .i64 (agreedEnds p.errs row failed).2]) := by
  (refine callS_of_awp (fun w args => Try.call68 ..) Try.func68 rfl (fun w0 m0 wz => ?_); simp only [Try.ntmps68, Try.results68, initT, junks, sl, List.toList_toArray, List.cons_append, List.nil_append, List.length_cons, List.length_nil, Nat.reduceAdd, Nat.reduceSub])
  simp only [postC]
  (repeat' (first
 | refine awp_seqK ?_
 | refine kt ?_
 | refine And.intro ?_ ?_
 | ((first | refine awp_stp rfl ?_ | refine awp_draw (by kernel_rfl) (by kernel_rfl) ?_ | refine Imp.le2 ?_ | refine go_split (fun _h => ?_) (fun _h => ?_)) <;> try simp (maxSteps := 4000000) only [go_sem, seval, List.append_eq, List.cons_append, List.nil_append])
 | intro _h
 | refine awp_block ?_
 | refine awp_scope ?_
 | (show heapOK _ _ = true; kernel_rfl)
 | (show heapOK2 _ _ = true; kernel_rfl)
 | (omega)))
  refine awp_loopN row.length (fun i => ⟨mkT 49 [(1, sl row), (2, .int .i64 failed), (3, .ptr 0 0 0), (6, .ptr 1 0 0), (7, .int .i64 (agLo p.errs row failed i)), (8, .int .i64 (agHi p.errs row failed i)), (11, sl row), (12, .int .i64 row.length), (13, .int .i64 i)], [some (.cells 51 1 0 (postC p)), some (.cells 122 1 0 [.int .i64 0, .int .i64 0])], []⟩) (.le2 ?_) ?_
  · simp only [postC]; simp (maxSteps := 4000000) only [go_sem, seval, List.append_eq, List.cons_append, List.nil_append]
    all_goals first | rfl | exact ⟨rfl, rfl⟩ | exact ⟨rfl, rfl, rfl⟩
  · intro i hi
    have hr := h1 i
    have he := h2 i
    simp only [postC]; simp (maxSteps := 4000000) only [go_sem, seval, List.append_eq, List.cons_append, List.nil_append]
    (repeat' (first
 | refine awp_seqK ?_
 | refine kt ?_
 | refine And.intro ?_ ?_
 | ((first | refine awp_stp rfl ?_ | refine awp_draw (by kernel_rfl) (by kernel_rfl) ?_ | refine Imp.le2 ?_ | refine callK_of (greatest_c _ _ _) ?_ | refine callK_of (least_c _ _ _) ?_ | refine callK_of (nothing_c) ?_ | refine go_split (fun _h => ?_) (fun _h => ?_)) <;> try simp (maxSteps := 4000000) only [go_sem, seval, List.append_eq, List.cons_append, List.nil_append])
 | intro _h
 | refine awp_block ?_
 | refine awp_scope ?_
 | (show heapOK _ _ = true; kernel_rfl)
 | (show heapOK2 _ _ = true; kernel_rfl)
 | (omega)))
    all_goals first
      | (simp only [agLo, agHi]; simp only [*, if_true, if_false]; done)
      | (have e : i = row.length := by omega
         subst e; clear hl h1 h2
         simp only [agreedEnds, *, if_true, if_false])
end Go.Am

/- Plain words for the posts at work: what may be, by the gauge that failed. No program is in sight, but for maps of numbers to pairs. -/
namespace Go.Am
/-- The entries of a map, in order of their keys: k keys from f on. -/
def canonF (g : Int → Option (Int × Int)) : Nat → Int → List (Int × Int × Int)
  | 0, _ => []
  | k + 1, f => match g f with
    | some x => (f, x) :: canonF g k (f + 1)
    | none => canonF g k (f + 1)
def updI (g : Int → Option (Int × Int)) (j : Int) (v : Option (Int × Int)) : Int → Option (Int × Int) := fun i => if i = j then v else g i
theorem canonF_congr {g g' : Int → Option (Int × Int)} : ∀ (k : Nat) (f : Int), (∀ j, f ≤ j → j < f + k → g j = g' j) → canonF g k f = canonF g' k f
  | 0, _, _ => rfl
  | k + 1, f, h => by
    simp only [canonF]
    rw [h f (by omega) (by omega), canonF_congr k (f + 1) (fun j h1 h2 => h j (by omega) (by omega))]
theorem canonF_get {g : Int → Option (Int × Int)} {j : Int} : ∀ (k : Nat) (f : Int), f ≤ j → j < f + k → mpGet (canonF g k f) j = g j
  | 0, f, h1, h2 => by omega
  | k + 1, f, h1, h2 => by
    have step : ∀ f', f' = f + 1 → f ≠ j → mpGet (canonF g k f') j = g j := fun f' e hne => by subst e; exact canonF_get k (f + 1) (by omega) (by omega)
    have miss : ∀ (k : Nat) (f : Int), j < f → mpGet (canonF g k f) j = none := by
      intro k
      induction k with
      | zero => intro f h; rfl
      | succ k ih =>
        intro f h
        simp only [canonF]
        cases g f with
        | none => exact ih _ (by omega)
        | some x => simp only [mpGet]; rw [if_neg (by omega)]; exact ih _ (by omega)
    simp only [canonF]
    by_cases e : f = j
    · subst e
      cases hg : g f with
      | none => simp only; exact miss k _ (by omega)
      | some x => simp only [mpGet, if_true]
    · cases hg : g f with
      | none => exact step _ rfl e
      | some x => simp only [mpGet]; rw [if_neg e]; exact step _ rfl e
theorem canonF_put {g : Int → Option (Int × Int)} {j : Int} {v : Int × Int} : ∀ (k : Nat) (f : Int), f ≤ j → j < f + k → ((g j).isSome = true ∨ ∀ i, j < i → i < f + k → g i = none) → mpPut (canonF g k f) j v = canonF (updI g j (some v)) k f
  | 0, f, h1, h2, _ => by omega
  | k + 1, f, h1, h2, h3 => by
    simp only [canonF]
    by_cases e : f = j
    · subst e
      have e1 : updI g f (some v) f = some v := by simp [updI]
      have e2 : canonF (updI g f (some v)) k (f + 1) = canonF g k (f + 1) := canonF_congr k _ (fun i h4 _ => by simp [updI, show i ≠ f by omega])
      rw [e1, e2]
      cases hg : g f with
      | some x => simp only [mpPut, if_true]
      | none =>
        have h4 : ∀ i, f < i → i < f + (k + 1 : Nat) → g i = none := h3.resolve_left (by simp [hg])
        have e3 : canonF g k (f + 1) = [] := by
          have : ∀ (k : Nat) (f : Int), (∀ i, f ≤ i → i < f + k → g i = none) → canonF g k f = [] := by
            intro k
            induction k with
            | zero => intro f h; rfl
            | succ k ih => intro f h; simp only [canonF]; rw [h f (by omega) (by omega)]; exact ih _ (fun i h5 h6 => h i (by omega) (by omega))
          exact this k _ (fun i h5 h6 => h4 i (by omega) (by omega))
        simp only [e3, mpPut]
    · have e1 : updI g j (some v) f = g f := by simp [updI, e]
      have ih := canonF_put (g := g) (v := v) k (f + 1) (j := j) (by omega) (by omega) (h3.imp id (fun h i h4 h5 => h i h4 (by omega)))
      rw [e1]
      cases hg : g f with
      | none => exact ih
      | some x => simp only [mpPut]; rw [if_neg e, ih]
theorem canonF_del {g : Int → Option (Int × Int)} {j : Int} : ∀ (k : Nat) (f : Int), mpDel (canonF g k f) j = canonF (updI g j none) k f
  | 0, f => rfl
  | k + 1, f => by
    simp only [canonF]
    by_cases e : f = j
    · subst e
      have e1 : updI g f none f = none := by simp [updI]
      have e2 : canonF (updI g f none) k (f + 1) = canonF g k (f + 1) := canonF_congr k _ (fun i h4 _ => by simp [updI, show i ≠ f by omega])
      rw [e1, e2]
      cases hg : g f with
      | some x => simp only [mpDel, if_true]
      | none =>
        simp only
        have := canonF_del (g := g) (j := f) k (f + 1)
        rw [this, e2]
    · have e1 : updI g j none f = g f := by simp [updI, e]
      have ih := canonF_del (g := g) (j := j) k (f + 1)
      rw [e1]
      cases hg : g f with
      | none => exact ih
      | some x => simp only [mpDel]; rw [if_neg e, ih]
/-- The map of n gauges. -/
def canon (n : Nat) (g : Int → Option (Int × Int)) : List (Int × Int × Int) := canonF g (n + 1) (-1)
theorem canon_congr {n : Nat} {g g' : Int → Option (Int × Int)} (h : ∀ j : Int, -1 ≤ j → j < n → g j = g' j) : canon n g = canon n g' := canonF_congr _ _ (fun j h1 h2 => h j h1 (by omega))
theorem canon_get {n : Nat} {g : Int → Option (Int × Int)} {j : Int} (h1 : -1 ≤ j) (h2 : j < n) : mpGet (canon n g) j = g j := canonF_get _ _ h1 (by omega)
theorem canon_put {n : Nat} {g : Int → Option (Int × Int)} {j : Int} {v : Int × Int} (h1 : -1 ≤ j) (h2 : j < n) (h3 : (g j).isSome = true ∨ ∀ i, j < i → i < n → g i = none) : mpPut (canon n g) j v = canon n (updI g j (some v)) :=
  canonF_put _ _ h1 (by omega) (h3.imp id (fun h i h4 h5 => h i h4 (by omega)))
theorem canon_del {n : Nat} {g : Int → Option (Int × Int)} {j : Int} : mpDel (canon n g) j = canon n (updI g j none) := canonF_del _ _
theorem canon_none {n : Nat} {g : Int → Option (Int × Int)} (h : ∀ j : Int, -1 ≤ j → j < n → g j = none) : canon n g = [] := by
  have : ∀ (k : Nat) (f : Int), (∀ i, f ≤ i → i < f + k → g i = none) → canonF g k f = [] := by
    intro k
    induction k with
    | zero => intro f h; rfl
    | succ k ih => intro f h; simp only [canonF]; rw [h f (by omega) (by omega)]; exact ih _ (fun i h5 h6 => h i (by omega) (by omega))
  exact this _ _ (fun i h1 h2 => h i h1 (by omega))
section
variable {σ : Nat → Nat} {p : Nat → Prop} {q : Nat → Bool} {m : List (Int × Int × Int)}
theorem rb_mp : renB σ (.map (mpC m)) = .map (mpC m) := by
  simp only [renB, mpC, List.map_map]
  congr 1
theorem rf_mp : refsB p (.map (mpC m)) = True := by
  rw [eq_iff_iff, iff_true]
  simp only [refsB, mpC, List.mem_map]
  rintro _ ⟨e, _, rfl⟩
  simp [refs, refsL]
end
attribute [go_sem] rb_mp rf_mp
end Go.Am
