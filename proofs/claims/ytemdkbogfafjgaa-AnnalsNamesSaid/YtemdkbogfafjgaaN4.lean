/- Parts Tab, UaA, UaB, UaC, UaD, VrA, UbT of the proof, one behind the other. No statement is proved here. -/
import Derived.Test.YtemdkbogfafjgaaN2
import Derived.Test.YtemdkbogfafjgaaProg
import Derived.KernelRfl
import Derived.Test.YtemdkbogfafjgaaN3
import Derived.Carry
set_option linter.unusedVariables false -- all
set_option linter.unusedSimpArgs false
namespace Go.Am
open Go.RowKit Go.Proofs
theorem tsz3 : tsz Try.prog 3 = some 1 := by kernel_rfl
theorem tagg3 : tagg Try.prog 3 = some false := by kernel_rfl
theorem tint3 : tint Try.prog 3 = some .i64 := by kernel_rfl
theorem tund3 : (Try.prog.underlying 3).isSome = true := by kernel_rfl
theorem tbytes3 : tbytes Try.prog 3 = some 8 := by kernel_rfl
theorem tzero3 : tzero Try.prog 3 = some [.int .i64 0] := by kernel_rfl
theorem tzv3 : tzv Try.prog 3 = some (.int .i64 0) := by kernel_rfl
theorem tsz4 : tsz Try.prog 4 = some 1 := by kernel_rfl
theorem tagg4 : tagg Try.prog 4 = some false := by kernel_rfl
theorem tzero4 : tzero Try.prog 4 = some [.bool false] := by kernel_rfl
theorem tzv4 : tzv Try.prog 4 = some (.bool false) := by kernel_rfl
theorem tsz5 : tsz Try.prog 5 = some 1 := by kernel_rfl
theorem tagg5 : tagg Try.prog 5 = some false := by kernel_rfl
theorem tsz28 : tsz Try.prog 28 = some 1 := by kernel_rfl
theorem tagg28 : tagg Try.prog 28 = some false := by kernel_rfl
theorem tslice28 : tslice Try.prog 28 = some 59 := by kernel_rfl
theorem tzero28 : tzero Try.prog 28 = some [.nils] := by kernel_rfl
theorem tsz32 : tsz Try.prog 32 = some 1 := by kernel_rfl
theorem tagg32 : tagg Try.prog 32 = some false := by kernel_rfl
theorem tslice32 : tslice Try.prog 32 = some 58 := by kernel_rfl
theorem tsz33 : tsz Try.prog 33 = some 1 := by kernel_rfl
theorem tagg33 : tagg Try.prog 33 = some false := by kernel_rfl
theorem tslice33 : tslice Try.prog 33 = some 73 := by kernel_rfl
theorem tsz35 : tsz Try.prog 35 = some 3 := by kernel_rfl
theorem tagg35 : tagg Try.prog 35 = some true := by kernel_rfl
theorem tarr35 : tarr Try.prog 35 = none := by kernel_rfl
theorem tzero35 : tzero Try.prog 35 = some [.nils, .nils, .int .i64 0] := by kernel_rfl
theorem tplaces35 : tplaces Try.prog 35 = some [(0, 1), (1, 1), (2, 1)] := by kernel_rfl
theorem tfld35_0 : tfld Try.prog 35 0 = some (0, 32) := by kernel_rfl
theorem tfld35_1 : tfld Try.prog 35 1 = some (1, 33) := by kernel_rfl
theorem tfld35_2 : tfld Try.prog 35 2 = some (2, 3) := by kernel_rfl
theorem tslice37 : tslice Try.prog 37 = some 48 := by kernel_rfl
theorem tsz48 : tsz Try.prog 48 = some 2 := by kernel_rfl
theorem tagg48 : tagg Try.prog 48 = some true := by kernel_rfl
theorem tarr48 : tarr Try.prog 48 = none := by kernel_rfl
theorem tbytes48 : tbytes Try.prog 48 = some 16 := by kernel_rfl
theorem tzero48 : tzero Try.prog 48 = some [.int .i64 0, .int .i64 0] := by kernel_rfl
theorem tplaces48 : tplaces Try.prog 48 = some [(0, 1), (1, 1)] := by kernel_rfl
theorem tfld48_0 : tfld Try.prog 48 0 = some (0, 3) := by kernel_rfl
theorem tfld48_1 : tfld Try.prog 48 1 = some (1, 3) := by kernel_rfl
theorem tsz58 : tsz Try.prog 58 = some 3 := by kernel_rfl
theorem tagg58 : tagg Try.prog 58 = some true := by kernel_rfl
theorem tarr58 : tarr Try.prog 58 = none := by kernel_rfl
theorem tbytes58 : tbytes Try.prog 58 = some 24 := by kernel_rfl
theorem tzero58 : tzero Try.prog 58 = some [.int .i64 0, .int .i64 0, .int .i64 0] := by kernel_rfl
theorem tplaces58 : tplaces Try.prog 58 = some [(0, 1), (1, 2)] := by kernel_rfl
theorem tfld58_0 : tfld Try.prog 58 0 = some (0, 3) := by kernel_rfl
theorem tfld58_1 : tfld Try.prog 58 1 = some (1, 48) := by kernel_rfl
theorem tsz59 : tsz Try.prog 59 = some 1 := by kernel_rfl
theorem tagg59 : tagg Try.prog 59 = some false := by kernel_rfl
theorem tslice59 : tslice Try.prog 59 = some 3 := by kernel_rfl
theorem tbytes59 : tbytes Try.prog 59 = some 24 := by kernel_rfl
theorem tzero59 : tzero Try.prog 59 = some [.nils] := by kernel_rfl
theorem tsz61 : tsz Try.prog 61 = some 2 := by kernel_rfl
theorem tagg61 : tagg Try.prog 61 = some true := by kernel_rfl
theorem tarr61 : tarr Try.prog 61 = none := by kernel_rfl
theorem tzero61 : tzero Try.prog 61 = some [.nils, .nils] := by kernel_rfl
theorem tplaces61 : tplaces Try.prog 61 = some [(0, 1), (1, 1)] := by kernel_rfl
theorem tfld61_0 : tfld Try.prog 61 0 = some (0, 59) := by kernel_rfl
theorem tfld61_1 : tfld Try.prog 61 1 = some (1, 59) := by kernel_rfl
theorem tsz73 : tsz Try.prog 73 = some 3 := by kernel_rfl
theorem tagg73 : tagg Try.prog 73 = some true := by kernel_rfl
theorem tarr73 : tarr Try.prog 73 = none := by kernel_rfl
theorem tbytes73 : tbytes Try.prog 73 = some 24 := by kernel_rfl
theorem tzero73 : tzero Try.prog 73 = some [.int .u8 0, .int .i64 0, .int .i64 0] := by kernel_rfl
theorem tplaces73 : tplaces Try.prog 73 = some [(0, 1), (1, 1), (2, 1)] := by kernel_rfl
theorem tfld73_0 : tfld Try.prog 73 0 = some (0, 5) := by kernel_rfl
theorem tfld73_1 : tfld Try.prog 73 1 = some (1, 3) := by kernel_rfl
theorem tfld73_2 : tfld Try.prog 73 2 = some (2, 3) := by kernel_rfl
theorem tsz99 : tsz Try.prog 99 = some 1 := by kernel_rfl
theorem tagg99 : tagg Try.prog 99 = some false := by kernel_rfl
theorem tzero99 : tzero Try.prog 99 = some [.nilp] := by kernel_rfl
theorem tsz105 : tsz Try.prog 105 = some 1 := by kernel_rfl
theorem tagg105 : tagg Try.prog 105 = some false := by kernel_rfl
theorem tsz112 : tsz Try.prog 112 = some 1 := by kernel_rfl
theorem tagg112 : tagg Try.prog 112 = some false := by kernel_rfl
theorem tmap112 : tmap Try.prog 112 = some (136, 4) := by kernel_rfl
theorem tsz113 : tsz Try.prog 113 = some 7 := by kernel_rfl
theorem tslice113 : tslice Try.prog 113 = none := by kernel_rfl
theorem tarr113 : tarr Try.prog 113 = some (7, 3) := by kernel_rfl
theorem tarr115 : tarr Try.prog 115 = none := by kernel_rfl
theorem tzero115 : tzero Try.prog 115 = some [.nils, .nils, .int .i64 0, .nilm, .int .i64 0, .int .i64 0, .int .i64 0, .int .i64 0, .int .i64 0, .int .i64 0, .int .i64 0, .int .i64 0, .int .i64 0, .int .i64 0, .int .i64 0, .int .i64 0, .int .i64 0, .int .i64 0] := by kernel_rfl
theorem tplaces115 : tplaces Try.prog 115 = some [(0, 3), (3, 1), (4, 7), (11, 7)] := by kernel_rfl
theorem tfld115_0 : tfld Try.prog 115 0 = some (0, 35) := by kernel_rfl
theorem tfld115_1 : tfld Try.prog 115 1 = some (3, 112) := by kernel_rfl
theorem tfld115_2 : tfld Try.prog 115 2 = some (4, 113) := by kernel_rfl
theorem tfld115_3 : tfld Try.prog 115 3 = some (11, 113) := by kernel_rfl
theorem tsz119 : tsz Try.prog 119 = some 1 := by kernel_rfl
theorem tagg119 : tagg Try.prog 119 = some false := by kernel_rfl
theorem tzero119 : tzero Try.prog 119 = some [.nilf] := by kernel_rfl
theorem tsz125 : tsz Try.prog 125 = some 1 := by kernel_rfl
theorem tagg125 : tagg Try.prog 125 = some false := by kernel_rfl
theorem tsz126 : tsz Try.prog 126 = some 1 := by kernel_rfl
theorem tagg126 : tagg Try.prog 126 = some false := by kernel_rfl
theorem tzero126 : tzero Try.prog 126 = some [.nilf] := by kernel_rfl
theorem tint127 : tint Try.prog 127 = some .u64 := by kernel_rfl
theorem tund127 : (Try.prog.underlying 127).isSome = true := by kernel_rfl
theorem tsz129 : tsz Try.prog 129 = some 1 := by kernel_rfl
theorem tagg129 : tagg Try.prog 129 = some false := by kernel_rfl
theorem tsz131 : tsz Try.prog 131 = some 1 := by kernel_rfl
theorem tagg131 : tagg Try.prog 131 = some false := by kernel_rfl
theorem tzero131 : tzero Try.prog 131 = some [.nilf] := by kernel_rfl
theorem tsz132 : tsz Try.prog 132 = some 1 := by kernel_rfl
theorem tagg132 : tagg Try.prog 132 = some false := by kernel_rfl
theorem tzero132 : tzero Try.prog 132 = some [.nilf] := by kernel_rfl
theorem tsz133 : tsz Try.prog 133 = some 1 := by kernel_rfl
theorem tagg133 : tagg Try.prog 133 = some false := by kernel_rfl
theorem tsz134 : tsz Try.prog 134 = some 10 := by kernel_rfl
theorem tslice134 : tslice Try.prog 134 = none := by kernel_rfl
theorem tarr134 : tarr Try.prog 134 = some (10, 3) := by kernel_rfl
theorem tsz136 : tsz Try.prog 136 = some 19 := by kernel_rfl
theorem tagg136 : tagg Try.prog 136 = some true := by kernel_rfl
theorem tarr136 : tarr Try.prog 136 = none := by kernel_rfl
theorem tzero136 : tzero Try.prog 136 = some [.int .u8 0, .int .i64 0, .int .i64 0, .int .i64 0, .int .i64 0, .int .i64 0, .int .i64 0, .int .i64 0, .int .i64 0, .int .i64 0, .int .i64 0, .int .i64 0, .int .i64 0, .int .i64 0, .int .i64 0, .int .i64 0, .int .i64 0, .int .i64 0, .int .i64 0] := by kernel_rfl
theorem tplaces136 : tplaces Try.prog 136 = some [(0, 1), (1, 1), (2, 10), (12, 7)] := by kernel_rfl
theorem tfld136_0 : tfld Try.prog 136 0 = some (0, 133) := by kernel_rfl
theorem tfld136_1 : tfld Try.prog 136 1 = some (1, 3) := by kernel_rfl
theorem tfld136_2 : tfld Try.prog 136 2 = some (2, 134) := by kernel_rfl
theorem tfld136_3 : tfld Try.prog 136 3 = some (12, 113) := by kernel_rfl
theorem tmap143 : tmap Try.prog 143 = some (3, 3) := by kernel_rfl
theorem tsz147 : tsz Try.prog 147 = some 1 := by kernel_rfl
theorem tagg147 : tagg Try.prog 147 = some false := by kernel_rfl
theorem tsz149 : tsz Try.prog 149 = some 1 := by kernel_rfl
theorem tarr149 : tarr Try.prog 149 = none := by kernel_rfl
theorem tzero149 : tzero Try.prog 149 = some [.nilf] := by kernel_rfl
theorem tplaces149 : tplaces Try.prog 149 = some [(0, 1)] := by kernel_rfl
theorem tfld149_0 : tfld Try.prog 149 0 = some (0, 147) := by kernel_rfl
theorem tslice150 : tslice Try.prog 150 = some 149 := by kernel_rfl
attribute [go_sem] tsz3 tagg3 tint3 tund3 tbytes3 tzero3 tzv3 tsz4 tagg4 tzero4 tzv4 tsz5 tagg5 tsz28 tagg28 tslice28 tzero28 tsz32 tagg32 tslice32 tsz33 tagg33 tslice33 tsz35 tagg35 tarr35 tzero35 tplaces35 tfld35_0 tfld35_1 tfld35_2 tslice37 tsz48 tagg48 tarr48 tbytes48 tzero48 tplaces48 tfld48_0 tfld48_1 tsz58 tagg58 tarr58 tbytes58 tzero58 tplaces58 tfld58_0 tfld58_1 tsz59 tagg59 tslice59 tbytes59 tzero59 tsz61 tagg61 tarr61 tzero61 tplaces61 tfld61_0 tfld61_1 tsz73 tagg73 tarr73 tbytes73 tzero73 tplaces73 tfld73_0 tfld73_1 tfld73_2 tsz99 tagg99 tzero99 tsz105 tagg105 tsz112 tagg112 tmap112 tsz113 tslice113 tarr113 tarr115 tzero115 tplaces115 tfld115_0 tfld115_1 tfld115_2 tfld115_3 tsz119 tagg119 tzero119 tsz125 tagg125 tsz126 tagg126 tzero126 tint127 tund127 tsz129 tagg129 tsz131 tagg131 tzero131 tsz132 tagg132 tzero132 tsz133 tagg133 tsz134 tslice134 tarr134 tsz136 tagg136 tarr136 tzero136 tplaces136 tfld136_0 tfld136_1 tfld136_2 tfld136_3 tmap143 tsz147 tagg147 tsz149 tarr149 tzero149 tplaces149 tfld149_0 tslice150
end Go.Am
namespace Go.Am
open Go.RowKit Go.Proofs
attribute [local irreducible] AWP zO Kt goK CallK zT zR
set_option maxRecDepth 4000
set_option linter.unusedSimpArgs false
set_option linter.unusedVariables false
set_option maxHeartbeats 400000
structure Rpt where
 slope : Int
 lo : Int
 hi : Int
 deriving DecidableEq
structure Clm where
 kind : Int
 a : Int
 b : Int
 deriving DecidableEq
instance : Inhabited Rpt := ⟨⟨0, 0, 0⟩⟩
instance : Inhabited Clm := ⟨⟨0, 0, 0⟩⟩
structure Ann where
 reports : List Rpt
 claims : List Clm
 rest : Int
def zU (r : Rpt) : List AV := [.int .i64 r.slope, .int .i64 r.lo, .int .i64 r.hi]
def zV (c : Clm) : List AV := [.int .u8 c.kind, .int .i64 c.a, .int .i64 c.b]
def slR (l : List Rpt) : AV := .psl false l.length (recs zU l)
def slC (l : List Clm) : AV := .psl false l.length (recs zV l)
def zL (t : Ann) : List AV := [slR t.reports, slC t.claims, .int .i64 t.rest]
attribute [go_sem] List.append_eq zU zV slR slC zL
section
variable {α : Type} {enc : α → List AV} {sz : Nat} {l : List α} {d : α} {P : Program} {t : TypeId}
theorem ld_recs (ht : tagg P t = some true) (hs : tsz P t = some sz) (he : ∀ a, (enc a).length = sz) (hz : 0 < sz) {i : Nat} {K : AV → Prop} : loadK P t (recs enc l) (i * sz) K = (i < l.length ∧ K (.agg (enc (l.getD i d)))) := by
 simp only [loadK, ht, hs, recs_length he]
 by_cases hi : i < l.length
 ·have : i * sz + sz ≤ l.length * sz := by
   rw [show i * sz + sz = (i + 1) * sz by rw [Nat.add_mul, Nat.one_mul]]; exact Nat.mul_le_mul_right _ hi
  rw [recs_window (d := d) he hi]
  simp [this, hi]
 ·have : ¬ i * sz + sz ≤ l.length * sz := by
   intro h
   rw [show i * sz + sz = (i + 1) * sz by rw [Nat.add_mul, Nat.one_mul]] at h
   have := Nat.le_of_mul_le_mul_right h hz
   omega
  simp [this, hi]
theorem nth_recs (he : ∀ a, (enc a).length = sz) {i o : Nat} (ho : o < sz) {K : AV → Prop} : optK (nth (recs enc l) (i * sz + o)) K = (i < l.length ∧ optK (nth (enc (l.getD i d)) o) K) := by
 by_cases hi : i < l.length
 ·rw [recs_nth (d := d) he hi ho]; simp [hi]
 ·have : nth (recs enc l) (i * sz + o) = none := by
   rw [← nth_is, List.getElem?_eq_none]
   rw [recs_length he]
   have := Nat.mul_le_mul_right sz (Nat.le_of_not_lt hi)
   omega
  simp [this, hi, optK]
end
theorem pl_R {l : List Rpt} : pureL (recs zU l) = True := eq_true (recs_pure fun s => by simp [pureL, zU, zK])
theorem lv_R {l : List Rpt} {p : Nat → Bool} : (recs zU l).all (live2 p) = true := recs_live fun s => by simp [pureL, zU, zK]
theorem len_R {l : List Rpt} : (recs zU l).length = l.length * 3 := recs_length fun _ => rfl
theorem ld_R58 {l : List Rpt} {i : Nat} {K : AV → Prop} : loadK Try.prog 58 (recs zU l) (i * 3) K = (i < l.length ∧ K (.agg (zU (l.getD i default)))) := ld_recs tagg58 tsz58 (fun _ => rfl) (by omega)
theorem nth_R0 {l : List Rpt} {i : Nat} {K : AV → Prop} : optK (nth (recs zU l) (i * 3)) K = (i < l.length ∧ K (.int .i64 (l.getD i default).slope)) := nth_recs (sz := 3) (o := 0) (fun _ => rfl) (by omega)
theorem pl_C {l : List Clm} : pureL (recs zV l) = True := eq_true (recs_pure fun s => by simp [pureL, zV, zK])
theorem lv_C {l : List Clm} {p : Nat → Bool} : (recs zV l).all (live2 p) = true := recs_live fun s => by simp [pureL, zV, zK]
theorem len_C {l : List Clm} : (recs zV l).length = l.length * 3 := recs_length fun _ => rfl
theorem ld_C73 {l : List Clm} {i : Nat} {K : AV → Prop} : loadK Try.prog 73 (recs zV l) (i * 3) K = (i < l.length ∧ K (.agg (zV (l.getD i default)))) := ld_recs tagg73 tsz73 (fun _ => rfl) (by omega)
attribute [go_sem ↓] ld_R58 ld_C73
attribute [go_sem] pl_R lv_R len_R nth_R0 pl_C lv_C len_C
instance {l : List Int} : Still (zS l) := ⟨fun y hy => by
 simp only [zS, List.mem_map] at hy
 obtain ⟨n, _, rfl⟩ := hy
 rfl⟩
instance {l : List Rpt} : Still (recs zU l) := ⟨fun y hy => by
 simp only [recs, List.mem_flatMap] at hy
 obtain ⟨h, _, hy⟩ := hy
 simp only [zU, List.mem_cons, List.not_mem_nil, or_false] at hy
 rcases hy with rfl | rfl | rfl <;> rfl⟩
instance {l : List Clm} : Still (recs zV l) := ⟨fun y hy => by
 simp only [recs, List.mem_flatMap] at hy
 obtain ⟨h, _, hy⟩ := hy
 simp only [zV, List.mem_cons, List.not_mem_nil, or_false] at hy
 rcases hy with rfl | rfl | rfl <;> rfl⟩
theorem zF {b : Bool} {A B : Prop} (h1 : b = true → A) (h2 : b = false → B) : condK (.bool b) A B := by
 cases b
 ·exact h2 rfl
 ·exact h1 rfl
theorem within_c (n lo hi : Int) : zO Try.prog 63 [.int .i64 n, .int .i64 lo, .int .i64 hi] (.bool (decide (lo ≤ n ∧ n ≤ hi))) := by
 (refine zG (fun w args => Try.call63 ..) Try.func63 rfl (fun w0 m0 wz => ?_); simp only [Try.ntmps63, Try.results63, zN, zP, zU, zV, sl, List.toList_toArray, List.cons_append, List.nil_append, List.length_cons, List.length_nil, Nat.reduceAdd, Nat.reduceSub])
 (repeat' (first
 | refine zC ?_
 | refine kt ?_
 | refine And.intro ?_ ?_
 | ((first | refine awp_stp rfl ?_ | refine awp_draw (by kernel_rfl) (by kernel_rfl) ?_ | refine Imp.le2 ?_ | refine go_split (fun _h => ?_) (fun _h => ?_)) <;> try simp (maxSteps := 4000000) only [go_sem, seval])
 | intro _h
 | refine zA ?_
 | refine zB ?_
 | (show zE _ _ = true; kernel_rfl)
 | (show zD _ _ = true; kernel_rfl)
 | (omega)))
theorem max2_c (f : Bool) (a b : Int) : zO Try.prog 100 [.psl f 2 [.int .i64 a, .int .i64 b]] (.int .i64 (max a b)) := by
 (refine zG (fun w args => Try.call100 ..) Try.func100 rfl (fun w0 m0 wz => ?_); simp only [Try.ntmps100, Try.results100, zN, zP, zU, zV, sl, List.toList_toArray, List.cons_append, List.nil_append, List.length_cons, List.length_nil, Nat.reduceAdd, Nat.reduceSub])
 (repeat' (first
 | refine zC ?_
 | refine kt ?_
 | refine And.intro ?_ ?_
 | ((first | refine awp_stp rfl ?_ | refine awp_draw (by kernel_rfl) (by kernel_rfl) ?_ | refine Imp.le2 ?_ | refine go_split (fun _h => ?_) (fun _h => ?_)) <;> try simp (maxSteps := 4000000) only [go_sem, seval])
 | intro _h
 | refine zA ?_
 | refine zB ?_
 | (show zE _ _ = true; kernel_rfl)
 | (show zD _ _ = true; kernel_rfl)
 | (omega)))
 (refine awp_rounds 2 ?_; rw [ar_s])
 (repeat' (first
 | refine zC ?_
 | refine kt ?_
 | refine And.intro ?_ ?_
 | ((first | refine awp_stp rfl ?_ | refine awp_draw (by kernel_rfl) (by kernel_rfl) ?_ | refine Imp.le2 ?_ | refine go_split (fun _h => ?_) (fun _h => ?_)) <;> try simp (maxSteps := 4000000) only [go_sem, seval])
 | intro _h
 | refine zA ?_
 | refine zB ?_
 | (show zE _ _ = true; kernel_rfl)
 | (show zD _ _ = true; kernel_rfl)
 | (omega)))
theorem max3_c (f : Bool) (a b c : Int) : zO Try.prog 100 [.psl f 3 [.int .i64 a, .int .i64 b, .int .i64 c]] (.int .i64 (max (max a b) c)) := by
 (refine zG (fun w args => Try.call100 ..) Try.func100 rfl (fun w0 m0 wz => ?_); simp only [Try.ntmps100, Try.results100, zN, zP, zU, zV, sl, List.toList_toArray, List.cons_append, List.nil_append, List.length_cons, List.length_nil, Nat.reduceAdd, Nat.reduceSub])
 (repeat' (first
 | refine zC ?_
 | refine kt ?_
 | refine And.intro ?_ ?_
 | ((first | refine awp_stp rfl ?_ | refine awp_draw (by kernel_rfl) (by kernel_rfl) ?_ | refine Imp.le2 ?_ | refine go_split (fun _h => ?_) (fun _h => ?_)) <;> try simp (maxSteps := 4000000) only [go_sem, seval])
 | intro _h
 | refine zA ?_
 | refine zB ?_
 | (show zE _ _ = true; kernel_rfl)
 | (show zD _ _ = true; kernel_rfl)
 | (omega)))
 (refine awp_rounds 3 ?_; rw [ar_s])
 (repeat' (first
 | refine zC ?_
 | refine kt ?_
 | refine And.intro ?_ ?_
 | ((first | refine awp_stp rfl ?_ | refine awp_draw (by kernel_rfl) (by kernel_rfl) ?_ | refine Imp.le2 ?_ | refine go_split (fun _h => ?_) (fun _h => ?_)) <;> try simp (maxSteps := 4000000) only [go_sem, seval])
 | intro _h
 | refine zA ?_
 | refine zB ?_
 | (show zE _ _ = true; kernel_rfl)
 | (show zD _ _ = true; kernel_rfl)
 | (omega)))
theorem min2_c (f : Bool) (a b : Int) : zO Try.prog 110 [.psl f 2 [.int .i64 a, .int .i64 b]] (.int .i64 (min a b)) := by
 (refine zG (fun w args => Try.call110 ..) Try.func110 rfl (fun w0 m0 wz => ?_); simp only [Try.ntmps110, Try.results110, zN, zP, zU, zV, sl, List.toList_toArray, List.cons_append, List.nil_append, List.length_cons, List.length_nil, Nat.reduceAdd, Nat.reduceSub])
 (repeat' (first
 | refine zC ?_
 | refine kt ?_
 | refine And.intro ?_ ?_
 | ((first | refine awp_stp rfl ?_ | refine awp_draw (by kernel_rfl) (by kernel_rfl) ?_ | refine Imp.le2 ?_ | refine go_split (fun _h => ?_) (fun _h => ?_)) <;> try simp (maxSteps := 4000000) only [go_sem, seval])
 | intro _h
 | refine zA ?_
 | refine zB ?_
 | (show zE _ _ = true; kernel_rfl)
 | (show zD _ _ = true; kernel_rfl)
 | (omega)))
 (refine awp_rounds 2 ?_; rw [ar_s])
 (repeat' (first
 | refine zC ?_
 | refine kt ?_
 | refine And.intro ?_ ?_
 | ((first | refine awp_stp rfl ?_ | refine awp_draw (by kernel_rfl) (by kernel_rfl) ?_ | refine Imp.le2 ?_ | refine go_split (fun _h => ?_) (fun _h => ?_)) <;> try simp (maxSteps := 4000000) only [go_sem, seval])
 | intro _h
 | refine zA ?_
 | refine zB ?_
 | (show zE _ _ = true; kernel_rfl)
 | (show zD _ _ = true; kernel_rfl)
 | (omega)))
theorem latest_c (f : Bool) (a b : Int) : zO Try.prog 73 [.psl f 2 [.int .i64 a, .int .i64 b]] (.int .i64 (max a b)) := by
 (refine zG (fun w args => Try.call73 ..) Try.func73 rfl (fun w0 m0 wz => ?_); simp only [Try.ntmps73, Try.results73, zN, zP, zU, zV, sl, List.toList_toArray, List.cons_append, List.nil_append, List.length_cons, List.length_nil, Nat.reduceAdd, Nat.reduceSub])
 (repeat' (first
 | refine zC ?_
 | refine kt ?_
 | refine And.intro ?_ ?_
 | ((first | refine awp_stp rfl ?_ | refine awp_draw (by kernel_rfl) (by kernel_rfl) ?_ | refine Imp.le2 ?_ | refine callK_of (max2_c _ _ _) ?_ | refine go_split (fun _h => ?_) (fun _h => ?_)) <;> try simp (maxSteps := 4000000) only [go_sem, seval])
 | intro _h
 | refine zA ?_
 | refine zB ?_
 | (show zE _ _ = true; kernel_rfl)
 | (show zD _ _ = true; kernel_rfl)
 | (omega)))
theorem latest3_c (f : Bool) (a b c : Int) : zO Try.prog 73 [.psl f 3 [.int .i64 a, .int .i64 b, .int .i64 c]] (.int .i64 (max (max a b) c)) := by
 (refine zG (fun w args => Try.call73 ..) Try.func73 rfl (fun w0 m0 wz => ?_); simp only [Try.ntmps73, Try.results73, zN, zP, zU, zV, sl, List.toList_toArray, List.cons_append, List.nil_append, List.length_cons, List.length_nil, Nat.reduceAdd, Nat.reduceSub])
 (repeat' (first
 | refine zC ?_
 | refine kt ?_
 | refine And.intro ?_ ?_
 | ((first | refine awp_stp rfl ?_ | refine awp_draw (by kernel_rfl) (by kernel_rfl) ?_ | refine Imp.le2 ?_ | refine callK_of (max3_c _ _ _ _) ?_ | refine go_split (fun _h => ?_) (fun _h => ?_)) <;> try simp (maxSteps := 4000000) only [go_sem, seval])
 | intro _h
 | refine zA ?_
 | refine zB ?_
 | (show zE _ _ = true; kernel_rfl)
 | (show zD _ _ = true; kernel_rfl)
 | (omega)))
theorem earliest_c (f : Bool) (a b : Int) : zO Try.prog 94 [.psl f 2 [.int .i64 a, .int .i64 b]] (.int .i64 (min a b)) := by
 (refine zG (fun w args => Try.call94 ..) Try.func94 rfl (fun w0 m0 wz => ?_); simp only [Try.ntmps94, Try.results94, zN, zP, zU, zV, sl, List.toList_toArray, List.cons_append, List.nil_append, List.length_cons, List.length_nil, Nat.reduceAdd, Nat.reduceSub])
 (repeat' (first
 | refine zC ?_
 | refine kt ?_
 | refine And.intro ?_ ?_
 | ((first | refine awp_stp rfl ?_ | refine awp_draw (by kernel_rfl) (by kernel_rfl) ?_ | refine Imp.le2 ?_ | refine callK_of (min2_c _ _ _) ?_ | refine go_split (fun _h => ?_) (fun _h => ?_)) <;> try simp (maxSteps := 4000000) only [go_sem, seval])
 | intro _h
 | refine zA ?_
 | refine zB ?_
 | (show zE _ _ = true; kernel_rfl)
 | (show zD _ _ = true; kernel_rfl)
 | (omega)))
theorem has_c (lo hi n : Int) : zO Try.prog 72 [.agg [.int .i64 lo, .int .i64 hi], .int .i64 n] (.bool (decide (lo ≤ n ∧ n ≤ hi))) := by
 (refine zG (fun w args => Try.call72 ..) Try.func72 rfl (fun w0 m0 wz => ?_); simp only [Try.ntmps72, Try.results72, zN, zP, zU, zV, sl, List.toList_toArray, List.cons_append, List.nil_append, List.length_cons, List.length_nil, Nat.reduceAdd, Nat.reduceSub])
 (repeat' (first
 | refine zC ?_
 | refine kt ?_
 | refine And.intro ?_ ?_
 | ((first | refine awp_stp rfl ?_ | refine awp_draw (by kernel_rfl) (by kernel_rfl) ?_ | refine Imp.le2 ?_ | refine callK_of (within_c _ _ _) ?_ | refine go_split (fun _h => ?_) (fun _h => ?_)) <;> try simp (maxSteps := 4000000) only [go_sem, seval])
 | intro _h
 | refine zA ?_
 | refine zB ?_
 | (show zE _ _ = true; kernel_rfl)
 | (show zD _ _ = true; kernel_rfl)
 | (omega)))
theorem always_c : zO Try.prog 81 [] (.agg [.int .i64 0, .int .i64 100000]) := by
 (refine zG (fun w args => Try.call81 ..) Try.func81 rfl (fun w0 m0 wz => ?_); simp only [Try.ntmps81, Try.results81, zN, zP, zU, zV, sl, List.toList_toArray, List.cons_append, List.nil_append, List.length_cons, List.length_nil, Nat.reduceAdd, Nat.reduceSub])
 (repeat' (first
 | refine zC ?_
 | refine kt ?_
 | refine And.intro ?_ ?_
 | ((first | refine awp_stp rfl ?_ | refine awp_draw (by kernel_rfl) (by kernel_rfl) ?_ | refine Imp.le2 ?_ | refine go_split (fun _h => ?_) (fun _h => ?_)) <;> try simp (maxSteps := 4000000) only [go_sem, seval])
 | intro _h
 | refine zA ?_
 | refine zB ?_
 | (show zE _ _ = true; kernel_rfl)
 | (show zD _ _ = true; kernel_rfl)
 | (omega)))
theorem span_c (lo hi : Int) : zO Try.prog 26 [.int .i64 lo, .int .i64 hi] (.agg [.int .i64 lo, .int .i64 hi]) := by
 (refine zG (fun w args => Try.call26 ..) Try.func26 rfl (fun w0 m0 wz => ?_); simp only [Try.ntmps26, Try.results26, zN, zP, zU, zV, sl, List.toList_toArray, List.cons_append, List.nil_append, List.length_cons, List.length_nil, Nat.reduceAdd, Nat.reduceSub])
 (repeat' (first
 | refine zC ?_
 | refine kt ?_
 | refine And.intro ?_ ?_
 | ((first | refine awp_stp rfl ?_ | refine awp_draw (by kernel_rfl) (by kernel_rfl) ?_ | refine Imp.le2 ?_ | refine go_split (fun _h => ?_) (fun _h => ?_)) <;> try simp (maxSteps := 4000000) only [go_sem, seval])
 | intro _h
 | refine zA ?_
 | refine zB ?_
 | (show zE _ _ = true; kernel_rfl)
 | (show zD _ _ = true; kernel_rfl)
 | (omega)))
theorem apart_c (t : Ann) : zO Try.prog 74 [.agg (zL t)] (.int .i64 (max t.rest 1)) := by
 (refine zG (fun w args => Try.call74 ..) Try.func74 rfl (fun w0 m0 wz => ?_); simp only [Try.ntmps74, Try.results74, zN, zP, zU, zV, sl, List.toList_toArray, List.cons_append, List.nil_append, List.length_cons, List.length_nil, Nat.reduceAdd, Nat.reduceSub])
 (repeat' (first
 | refine zC ?_
 | refine kt ?_
 | refine And.intro ?_ ?_
 | ((first | refine awp_stp rfl ?_ | refine awp_draw (by kernel_rfl) (by kernel_rfl) ?_ | refine Imp.le2 ?_ | refine callK_of (latest_c _ _ _) ?_ | refine go_split (fun _h => ?_) (fun _h => ?_)) <;> try simp (maxSteps := 4000000) only [go_sem, seval])
 | intro _h
 | refine zA ?_
 | refine zB ?_
 | (show zE _ _ = true; kernel_rfl)
 | (show zD _ _ = true; kernel_rfl)
 | (omega)))
end Go.Am
namespace Go.Am
open Go.RowKit Go.Proofs
attribute [local irreducible] AWP zO Kt goK CallK zT zR SemF SemY Imp
set_option maxRecDepth 4000
set_option linter.unusedSimpArgs false
set_option linter.unusedVariables false
set_option maxHeartbeats 800000
def idxOf {α : Type} (q : α → Bool) (l : List α) : Int := match l.findIdx? q with | some i => i | none => -1
theorem idxOf_some {α : Type} {q : α → Bool} {l : List α} {d : α} {i : Nat} (hi : i < l.length) (h : q (l.getD i d) = true) (hj : ∀ j, j < i → q (l.getD j d) = false) : (i : Int) = idxOf q l := by
 have : l.findIdx? q = some i := by
  rw [List.findIdx?_eq_some_iff_getElem]
  refine ⟨hi, by simpa [List.getD_eq_getElem?_getD, hi] using h, fun j hji => ?_⟩
  have := hj j hji
  simpa [List.getD_eq_getElem?_getD, Nat.lt_trans hji hi] using this
 simp [idxOf, this]
theorem idxOf_none {α : Type} {q : α → Bool} {l : List α} {d : α} (hj : ∀ j, j < l.length → q (l.getD j d) = false) : -1 = idxOf q l := by
 have : l.findIdx? q = none := by
  rw [List.findIdx?_eq_none_iff]
  intro x hx
  obtain ⟨j, hjl, rfl⟩ := List.mem_iff_getElem.1 hx
  have := hj j hjl
  simpa [List.getD_eq_getElem?_getD, hjl] using this
 simp [idxOf, this]
theorem idxOf_ge {α : Type} {q : α → Bool} {l : List α} : decide (0 ≤ idxOf q l) = l.any q := by
 unfold idxOf
 cases h : l.findIdx? q with
 | none =>
   rw [List.findIdx?_eq_none_iff] at h
   have : l.any q = false := by rw [List.any_eq_false]; intro x hx; simp [h x hx]
   simp [this]
 | some i =>
   rw [List.findIdx?_eq_some_iff_getElem] at h
   obtain ⟨h1, h2, _⟩ := h
   have : l.any q = true := by rw [List.any_eq_true]; exact ⟨_, List.getElem_mem h1, h2⟩
   simp [this]
def rptB (r : Rpt) : Bool := decide ((0 ≤ r.slope ∧ r.slope ≤ 9) ∧ r.lo ≤ r.hi ∧ (0 ≤ r.lo ∧ r.lo ≤ 100000) ∧ (0 ≤ r.hi ∧ r.hi ≤ 100000))
def inxB (t : Ann) (n : Int) : Bool := decide (0 ≤ n ∧ n ≤ (t.reports.length : Int) - 1)
def clmB (t : Ann) (c : Clm) : Bool := decide (c.kind ≤ 2) && (inxB t c.a && (inxB t c.b && decide (c.a ≠ c.b)))
theorem rptV_c (r : Rpt) : zO Try.prog 80 [.agg (zU r)] (.bool (rptB r)) := by
 (refine zG (fun w args => Try.call80 ..) Try.func80 rfl (fun w0 m0 wz => ?_); simp only [Try.ntmps80, Try.results80, zN, zP, zU, zV, slR, slC, zL, sl, List.toList_toArray, List.cons_append, List.nil_append, List.length_cons, List.length_nil, Nat.reduceAdd, Nat.reduceSub])
 (repeat' (first
 | refine zC ?_
 | refine kt ?_
 | refine And.intro ?_ ?_
 | ((first | refine awp_stp rfl ?_ | refine awp_draw (by kernel_rfl) (by kernel_rfl) ?_ | refine Imp.le2 ?_ | refine callK_of (within_c _ _ _) ?_ | refine callK_of (always_c) ?_ | refine callK_of (has_c _ _ _) ?_ | refine go_split (fun _h => ?_) (fun _h => ?_)) <;> try simp (maxSteps := 4000000) only [go_sem, seval])
 | intro _h
 | refine zA ?_
 | refine zB ?_
 | refine zF ?_ ?_
 | (show zE _ _ = true; kernel_rfl)
 | (show zD _ _ = true; kernel_rfl)
 | (omega)))
 all_goals (unfold rptB; first | exact decide_eq_true (by omega) | exact decide_eq_false (by omega) | exact (decide_eq_true (by omega)).symm | exact (decide_eq_false (by omega)).symm)
theorem idx_R (l : List Rpt) (g : FuncId) (fv : AV) (q : Rpt → Bool) (hl : l.length ≤ 1000000) (hq : ∀ i, i < l.length → zO Try.prog g [.agg (zU (l.getD i default)), .pptr [fv] 0] (.bool (q (l.getD i default)))) :
 zO Try.prog 114 [slR l, .fn (.func g) [] [.pptr [fv] 0]] (.int .i64 (idxOf q l)) := by
 (refine zG (fun w args => Try.call114 ..) Try.func114 rfl (fun w0 m0 wz => ?_); simp only [Try.ntmps114, Try.results114, zN, zP, zU, zV, slR, slC, zL, sl, List.toList_toArray, List.cons_append, List.nil_append, List.length_cons, List.length_nil, Nat.reduceAdd, Nat.reduceSub])
 (repeat' (first
 | refine zC ?_
 | refine kt ?_
 | refine And.intro ?_ ?_
 | ((first | refine awp_stp rfl ?_ | refine awp_draw (by kernel_rfl) (by kernel_rfl) ?_ | refine Imp.le2 ?_ | refine go_split (fun _h => ?_) (fun _h => ?_)) <;> try simp (maxSteps := 4000000) only [go_sem, seval])
 | intro _h
 | refine zA ?_
 | refine zB ?_
 | refine zF ?_ ?_
 | (show zE _ _ = true; kernel_rfl)
 | (show zD _ _ = true; kernel_rfl)
 | (omega)))
 refine awp_loopJ (fun i : Nat => i ≤ l.length ∧ ∀ j, j < i → q (l.getD j default) = false) (fun i => ⟨mkT 19 [(0, slR l), (1, .fn (.func g) [] [.pptr [fv] 0]), (6, slR l), (7, .int .i64 l.length), (8, .int .i64 i)], [], []⟩) (fun i => l.length - i) 0 ⟨Nat.zero_le _, by simp⟩ (.le2 ?_) ?_
 ·simp (maxSteps := 4000000) only [go_sem, seval]
 ·rintro i ⟨hi, hj⟩
  simp (maxSteps := 4000000) only [go_sem, seval]
  have hqi := hq i
  simp only [zU] at hqi
  (repeat' (first
 | refine zC ?_
 | refine kt ?_
 | refine And.intro ?_ ?_
 | ((first | refine awp_stp rfl ?_ | refine awp_draw (by kernel_rfl) (by kernel_rfl) ?_ | refine Imp.le2 ?_ | refine callK_of (hqi (by omega)) ?_ | refine go_split (fun _h => ?_) (fun _h => ?_)) <;> try simp (maxSteps := 4000000) only [go_sem, seval])
 | intro _h
 | refine zA ?_
 | refine zB ?_
 | refine zF ?_ ?_
 | (show zE _ _ = true; kernel_rfl)
 | (show zD _ _ = true; kernel_rfl)
 | (omega)))
  ·exact idxOf_some (by omega) ‹_› hj
  ·refine ⟨i + 1, ⟨by omega, fun j hji => ?_⟩, by omega, .le2 ?_⟩
   ·rcases Nat.lt_succ_iff_lt_or_eq.1 hji with h | rfl
    ·exact hj j h
    ·assumption
   ·simp (maxSteps := 4000000) only [go_sem, seval]
    omega
  ·exact idxOf_none (d := default) (fun j hjl => hj j (by omega))
theorem has_R (l : List Rpt) (g : FuncId) (fv : AV) (q : Rpt → Bool) (hl : l.length ≤ 1000000) (hq : ∀ i, i < l.length → zO Try.prog g [.agg (zU (l.getD i default)), .pptr [fv] 0] (.bool (q (l.getD i default)))) :
 zO Try.prog 103 [slR l, .fn (.func g) [] [.pptr [fv] 0]] (.bool (l.any q)) := by
 rw [← idxOf_ge]
 have h := idx_R l g fv q hl hq
 simp only [slR] at h
 (refine zG (fun w args => Try.call103 ..) Try.func103 rfl (fun w0 m0 wz => ?_); simp only [Try.ntmps103, Try.results103, zN, zP, zU, zV, slR, slC, zL, sl, List.toList_toArray, List.cons_append, List.nil_append, List.length_cons, List.length_nil, Nat.reduceAdd, Nat.reduceSub])
 (repeat' (first
 | refine zC ?_
 | refine kt ?_
 | refine And.intro ?_ ?_
 | ((first | refine awp_stp rfl ?_ | refine awp_draw (by kernel_rfl) (by kernel_rfl) ?_ | refine Imp.le2 ?_ | refine callK_of (h) ?_ | refine go_split (fun _h => ?_) (fun _h => ?_)) <;> try simp (maxSteps := 4000000) only [go_sem, seval])
 | intro _h
 | refine zA ?_
 | refine zB ?_
 | refine zF ?_ ?_
 | (show zE _ _ = true; kernel_rfl)
 | (show zD _ _ = true; kernel_rfl)
 | (omega)))
theorem all1_R (n : Rpt) (f : FuncId) (q : Bool) (hq : zO Try.prog f [.agg (zU n)] (.bool q)) : zO Try.prog 104 [.agg (zU n), .pptr [.fn (.func f) [] []] 0] (.bool (!q)) := by
 simp only [zU] at hq
 (refine zG (fun w args => Try.call104 ..) Try.func104 rfl (fun w0 m0 wz => ?_); simp only [Try.ntmps104, Try.results104, zN, zP, zU, zV, slR, slC, zL, sl, List.toList_toArray, List.cons_append, List.nil_append, List.length_cons, List.length_nil, Nat.reduceAdd, Nat.reduceSub])
 (repeat' (first
 | refine zC ?_
 | refine kt ?_
 | refine And.intro ?_ ?_
 | ((first | refine awp_stp rfl ?_ | refine awp_draw (by kernel_rfl) (by kernel_rfl) ?_ | refine Imp.le2 ?_ | refine callK_of (hq) ?_ | refine go_split (fun _h => ?_) (fun _h => ?_)) <;> try simp (maxSteps := 4000000) only [go_sem, seval])
 | intro _h
 | refine zA ?_
 | refine zB ?_
 | refine zF ?_ ?_
 | (show zE _ _ = true; kernel_rfl)
 | (show zD _ _ = true; kernel_rfl)
 | (omega))) <;> simp [*]
theorem all_R (l : List Rpt) (f : FuncId) (q : Rpt → Bool) (hl : l.length ≤ 1000000) (hq : ∀ i, i < l.length → zO Try.prog f [.agg (zU (l.getD i default))] (.bool (q (l.getD i default)))) :
 zO Try.prog 84 [slR l, .fn (.func f) [] []] (.bool (l.all q)) := by
 have hany : l.all q = !l.any (fun x => !q x) := by simp [List.all_eq_not_any_not]
 rw [hany]
 have h := has_R l 104 (.fn (.func f) [] []) (fun x => !q x) hl (fun i hi => all1_R _ _ _ (hq i hi))
 simp only [slR] at h
 (refine zG (fun w args => Try.call84 ..) Try.func84 rfl (fun w0 m0 wz => ?_); simp only [Try.ntmps84, Try.results84, zN, zP, zU, zV, slR, slC, zL, sl, List.toList_toArray, List.cons_append, List.nil_append, List.length_cons, List.length_nil, Nat.reduceAdd, Nat.reduceSub])
 ((repeat refine zC ?_); refine awp_region ?_; simp (maxSteps := 4000000) only [go_sem, seval]; refine kt ?_)
 (refine awp_frz 0 rfl (by simp (maxSteps := 4000000) only [go_sem, seval]) (fun _ => rfl) ?_; simp only [frz, fzl, fz2, fz1, fz0, fzH, fzHs, fzO, fzB, List.map_cons, List.map_nil, if_true, if_false, reduceIte, Nat.reduceEqDiff, Nat.reduceAdd, Nat.succ_ne_self, Nat.zero_ne_one, Nat.one_ne_zero, reduceCtorEq, and_self])
 (repeat' (first
 | refine zC ?_
 | refine kt ?_
 | refine And.intro ?_ ?_
 | ((first | refine awp_stp rfl ?_ | refine awp_draw (by kernel_rfl) (by kernel_rfl) ?_ | refine Imp.le2 ?_ | refine callK_of (h) ?_ | refine go_split (fun _h => ?_) (fun _h => ?_)) <;> try simp (maxSteps := 4000000) only [go_sem, seval])
 | intro _h
 | refine zA ?_
 | refine zB ?_
 | refine zF ?_ ?_
 | (show zE _ _ = true; kernel_rfl)
 | (show zD _ _ = true; kernel_rfl)
 | (omega))) <;> simp only [*, Bool.not_true, Bool.not_false]
def B0 (t : Ann) : Option ABlk := some (.cells 35 1 0 (zL t))
def B1 : Option ABlk := some (.cells 119 1 0 [.fn (.func 82) [] [.ptr 0 0 0]])
def B2 : Option ABlk := some (.cells 125 1 0 [.fn (.func 83) [] [.ptr 1 0 0]])
theorem inx_c (t : Ann) (n : Int) (hl : t.reports.length ≤ 1000000) : SemF Try.prog 82 [.int .i64 n, .ptr 0 0 0] [B0 t] (.bool (inxB t n)) [B0 t] := by
 simp only [B0, zL, slR, slC]
 (refine zH (ys := [.bool (inxB t n)]) (fun w args => Try.call82 ..) Try.func82 rfl (fun w0 m0 wz => ?_); simp only [Try.ntmps82, Try.results82, zN, zP, zU, zV, slR, slC, zL, sl, List.toList_toArray, List.cons_append, List.nil_append, List.length_cons, List.length_nil, Nat.reduceAdd, Nat.reduceSub])
 (repeat' (first
 | refine zC ?_
 | refine kt ?_
 | refine And.intro ?_ ?_
 | ((first | refine awp_stp rfl ?_ | refine awp_draw (by kernel_rfl) (by kernel_rfl) ?_ | refine Imp.le2 ?_ | refine callK_of (within_c _ _ _) ?_ | refine go_split (fun _h => ?_) (fun _h => ?_)) <;> try simp (maxSteps := 4000000) only [go_sem, seval])
 | intro _h
 | refine zA ?_
 | refine zB ?_
 | refine zF ?_ ?_
 | (show zE _ _ = true; kernel_rfl)
 | (show zD _ _ = true; kernel_rfl)
 | (omega)))
 all_goals (unfold inxB; first | exact (decide_eq_true ‹_›).symm | exact (decide_eq_false ‹_›).symm)
theorem clmV_c (t : Ann) (c : Clm) (hl : t.reports.length ≤ 1000000) : SemF Try.prog 83 [.agg (zV c), .ptr 1 0 0] [B0 t, B1] (.bool (clmB t c)) [B0 t, B1] := by
 have h1 := inx_c t c.a hl
 have h2 := inx_c t c.b hl
 simp only [B0, B1, zL, slR, slC] at h1 h2 ⊢
 unfold clmB
 generalize inxB t c.a = qa at *
 generalize inxB t c.b = qb at *
 (refine zH (ys := [.bool (decide (c.kind ≤ 2) && (qa && (qb && decide (c.a ≠ c.b))))]) (fun w args => Try.call83 ..) Try.func83 rfl (fun w0 m0 wz => ?_); simp only [Try.ntmps83, Try.results83, zN, zP, zU, zV, slR, slC, zL, sl, List.toList_toArray, List.cons_append, List.nil_append, List.length_cons, List.length_nil, Nat.reduceAdd, Nat.reduceSub])
 (repeat' (first
 | (refine awp_segO (id := 1) [7, 5] ?_; simp (maxSteps := 4000000) only [go_sem, seval, so_cons, so_nil, List.take_succ_cons, List.take_zero, List.drop_succ_cons, List.drop_zero])
 | (refine zQ (h1) [0] rfl ?_ ?_ rfl ?_ <;> try simp (maxSteps := 4000000) only [go_sem, seval, Nat.lt_irrefl, so_cons, so_nil, List.take_succ_cons, List.take_zero, List.drop_succ_cons, List.drop_zero] <;> try decide)
 | (refine zQ (h2) [0] rfl ?_ ?_ rfl ?_ <;> try simp (maxSteps := 4000000) only [go_sem, seval, Nat.lt_irrefl, so_cons, so_nil, List.take_succ_cons, List.take_zero, List.drop_succ_cons, List.drop_zero] <;> try decide)
 | refine zC ?_
 | refine kt ?_
 | refine And.intro ?_ ?_
 | ((first | refine awp_stp rfl ?_ | refine awp_draw (by kernel_rfl) (by kernel_rfl) ?_ | refine Imp.le2 ?_ | refine go_split (fun _h => ?_) (fun _h => ?_)) <;> try simp (maxSteps := 4000000) only [go_sem, seval])
 | intro _h
 | refine zA ?_
 | refine zB ?_
 | refine zF ?_ ?_
 | (show zE _ _ = true; kernel_rfl)
 | (show zD _ _ = true; kernel_rfl)
 | (omega)))
 all_goals first | rfl | (simp [*]; done) | trace_state
theorem all1_C (t : Ann) (c : Clm) (hl : t.reports.length ≤ 1000000) : SemF Try.prog 102 [.agg (zV c), .ptr 2 0 0] [B0 t, B1, B2] (.bool (!clmB t c)) [B0 t, B1, B2] := by
 have h1 := clmV_c t c hl
 simp only [B0, B1, B2, zL, slR, slC, zV] at h1 ⊢
 generalize clmB t c = q at *
 (refine zH (ys := [.bool (!q)]) (fun w args => Try.call102 ..) Try.func102 rfl (fun w0 m0 wz => ?_); simp only [Try.ntmps102, Try.results102, zN, zP, zU, zV, slR, slC, zL, sl, List.toList_toArray, List.cons_append, List.nil_append, List.length_cons, List.length_nil, Nat.reduceAdd, Nat.reduceSub])
 (repeat' (first
 | (refine zJ 2 rfl ?_; simp (maxSteps := 4000000) only [go_sem, seval, List.take_succ_cons, List.take_zero]; (repeat refine And.intro (by omega) ?_); refine zQ (h1) [0, 1] rfl ?_ ?_ rfl ?_ <;> try simp (maxSteps := 4000000) only [go_sem, seval, Nat.lt_irrefl] <;> try decide)
 | refine zC ?_
 | refine kt ?_
 | refine And.intro ?_ ?_
 | ((first | refine awp_stp rfl ?_ | refine awp_draw (by kernel_rfl) (by kernel_rfl) ?_ | refine Imp.le2 ?_ | refine go_split (fun _h => ?_) (fun _h => ?_)) <;> try simp (maxSteps := 4000000) only [go_sem, seval])
 | intro _h
 | refine zA ?_
 | refine zB ?_
 | refine zF ?_ ?_
 | (show zE _ _ = true; kernel_rfl)
 | (show zD _ _ = true; kernel_rfl)
 | (omega))) <;> simp [*]
theorem idx_C (t : Ann) (l : List Clm) (hr : t.reports.length ≤ 1000000) (hl : l.length ≤ 1000000) : SemF Try.prog 113 [slC l, .fn (.func 102) [] [.ptr 2 0 0]] [B0 t, B1, B2] (.int .i64 (idxOf (fun c => !clmB t c) l)) [B0 t, B1, B2] := by
 have hq := fun i => all1_C t (l.getD i default) hr
 simp only [B0, B1, B2, zL, slR, slC, zV] at hq ⊢
 (refine zH (ys := [.int .i64 (idxOf (fun c => !clmB t c) l)]) (fun w args => Try.call113 ..) Try.func113 rfl (fun w0 m0 wz => ?_); simp only [Try.ntmps113, Try.results113, zN, zP, zU, zV, slR, slC, zL, sl, List.toList_toArray, List.cons_append, List.nil_append, List.length_cons, List.length_nil, Nat.reduceAdd, Nat.reduceSub])
 (repeat' (first
 | refine zC ?_
 | refine kt ?_
 | refine And.intro ?_ ?_
 | ((first | refine awp_stp rfl ?_ | refine awp_draw (by kernel_rfl) (by kernel_rfl) ?_ | refine Imp.le2 ?_ | refine go_split (fun _h => ?_) (fun _h => ?_)) <;> try simp (maxSteps := 4000000) only [go_sem, seval])
 | intro _h
 | refine zA ?_
 | refine zB ?_
 | refine zF ?_ ?_
 | (show zE _ _ = true; kernel_rfl)
 | (show zD _ _ = true; kernel_rfl)
 | (omega)))
 refine awp_loopJ (fun i : Nat => i ≤ l.length ∧ ∀ j, j < i → (!clmB t (l.getD j default)) = false) (fun i => ⟨mkT 19 [(0, slC l), (1, .fn (.func 102) [] [.ptr 2 0 0]), (6, slC l), (7, .int .i64 l.length), (8, .int .i64 i)], [B0 t, B1, B2], []⟩) (fun i => l.length - i) 0 ⟨Nat.zero_le _, by simp⟩ (.le2 ?_) ?_
 ·simp only [B0, B1, B2, zL, slR, slC]; simp (maxSteps := 4000000) only [go_sem, seval]
  all_goals first | rfl | exact ⟨rfl, rfl⟩ | exact ⟨rfl, rfl, rfl⟩
 ·rintro i ⟨hi, hj⟩
  have hqi := hq i
  simp only [B0, B1, B2, zL, slR, slC]; simp (maxSteps := 4000000) only [go_sem, seval]
  (repeat' (first
 | (refine zJ 5 rfl ?_; simp (maxSteps := 4000000) only [go_sem, seval, List.take_succ_cons, List.take_zero]; (repeat refine And.intro (by omega) ?_); refine zQ (hqi) [0, 1, 2] rfl ?_ ?_ rfl ?_ <;> try simp (maxSteps := 4000000) only [go_sem, seval, Nat.lt_irrefl] <;> try decide)
 | refine zC ?_
 | refine kt ?_
 | refine And.intro ?_ ?_
 | ((first | refine awp_stp rfl ?_ | refine awp_draw (by kernel_rfl) (by kernel_rfl) ?_ | refine Imp.le2 ?_ | refine go_split (fun _h => ?_) (fun _h => ?_)) <;> try simp (maxSteps := 4000000) only [go_sem, seval])
 | intro _h
 | refine zA ?_
 | refine zB ?_
 | refine zF ?_ ?_
 | (show zE _ _ = true; kernel_rfl)
 | (show zD _ _ = true; kernel_rfl)
 | (omega)))
  ·exact idxOf_some (d := default) (by omega) ‹_› hj
  ·refine ⟨i + 1, ⟨by omega, fun j hji => ?_⟩, by omega, .le2 ?_⟩
   ·rcases Nat.lt_succ_iff_lt_or_eq.1 hji with h | rfl
    ·exact hj j h
    ·assumption
   ·simp (maxSteps := 4000000) only [go_sem, seval]
    omega
  ·exact idxOf_none (d := default) (fun j hjl => hj j (by omega))
theorem hasC_c (t : Ann) (l : List Clm) (hr : t.reports.length ≤ 1000000) (hl : l.length ≤ 1000000) : SemF Try.prog 101 [slC l, .fn (.func 102) [] [.ptr 2 0 0]] [B0 t, B1, B2] (.bool (l.any fun c => !clmB t c)) [B0 t, B1, B2] := by
 have h := idx_C t l hr hl
 rw [← idxOf_ge]
 simp only [B0, B1, B2, zL, slR, slC] at h ⊢
 (refine zH (ys := [.bool (decide (0 ≤ idxOf (fun c => !clmB t c) l))]) (fun w args => Try.call101 ..) Try.func101 rfl (fun w0 m0 wz => ?_); simp only [Try.ntmps101, Try.results101, zN, zP, zU, zV, slR, slC, zL, sl, List.toList_toArray, List.cons_append, List.nil_append, List.length_cons, List.length_nil, Nat.reduceAdd, Nat.reduceSub])
 (repeat' (first
 | (refine zJ 2 rfl ?_; simp (maxSteps := 4000000) only [go_sem, seval, List.take_succ_cons, List.take_zero]; (repeat refine And.intro (by omega) ?_); refine zQ (h) [0, 1, 2] rfl ?_ ?_ rfl ?_ <;> try simp (maxSteps := 4000000) only [go_sem, seval, Nat.lt_irrefl] <;> try decide)
 | refine zC ?_
 | refine kt ?_
 | refine And.intro ?_ ?_
 | ((first | refine awp_stp rfl ?_ | refine awp_draw (by kernel_rfl) (by kernel_rfl) ?_ | refine Imp.le2 ?_ | refine go_split (fun _h => ?_) (fun _h => ?_)) <;> try simp (maxSteps := 4000000) only [go_sem, seval])
 | intro _h
 | refine zA ?_
 | refine zB ?_
 | refine zF ?_ ?_
 | (show zE _ _ = true; kernel_rfl)
 | (show zD _ _ = true; kernel_rfl)
 | (omega))) <;> simp [*]
theorem all_C (t : Ann) (l : List Clm) (hr : t.reports.length ≤ 1000000) (hl : l.length ≤ 1000000) : SemF Try.prog 75 [slC l, .fn (.func 83) [] [.ptr 1 0 0]] [B0 t, B1] (.bool (l.all (clmB t))) [B0 t, B1] := by
 have hany : l.all (clmB t) = !l.any (fun x => !clmB t x) := by simp [List.all_eq_not_any_not]
 rw [hany]
 have h := hasC_c t l hr hl
 simp only [B0, B1, B2, zL, slR, slC] at h ⊢
 (refine zH (ys := [.bool (!l.any (fun x => !clmB t x))]) (fun w args => Try.call75 ..) Try.func75 rfl (fun w0 m0 wz => ?_); simp only [Try.ntmps75, Try.results75, zN, zP, zU, zV, slR, slC, zL, sl, List.toList_toArray, List.cons_append, List.nil_append, List.length_cons, List.length_nil, Nat.reduceAdd, Nat.reduceSub])
 (repeat' (first
 | (refine zJ 2 rfl ?_; simp (maxSteps := 4000000) only [go_sem, seval, List.take_succ_cons, List.take_zero]; (repeat refine And.intro (by omega) ?_); refine zQ (h) [0, 1, 2] rfl ?_ ?_ rfl ?_ <;> try simp (maxSteps := 4000000) only [go_sem, seval, Nat.lt_irrefl] <;> try decide)
 | refine zC ?_
 | refine kt ?_
 | refine And.intro ?_ ?_
 | ((first | refine awp_stp rfl ?_ | refine awp_draw (by kernel_rfl) (by kernel_rfl) ?_ | refine Imp.le2 ?_ | refine go_split (fun _h => ?_) (fun _h => ?_)) <;> try simp (maxSteps := 4000000) only [go_sem, seval])
 | intro _h
 | refine zA ?_
 | refine zB ?_
 | refine zF ?_ ?_
 | (show zE _ _ = true; kernel_rfl)
 | (show zD _ _ = true; kernel_rfl)
 | (omega))) <;> simp only [*, Bool.not_true, Bool.not_false]
end Go.Am
namespace Go.Am
open Go.RowKit Go.Proofs
attribute [local irreducible] AWP zO Kt goK CallK zT zR SemF SemY Imp
set_option maxRecDepth 4000
set_option linter.unusedSimpArgs false
set_option linter.unusedVariables false
set_option maxHeartbeats 1600000
def faultA (t : Ann) : Int :=
 if 7 < t.reports.length ∨ 30 < t.claims.length then 3
 else if (t.reports.length = 0 ∨ ¬ (0 ≤ t.rest ∧ t.rest ≤ 100000)) ∨ t.reports.all rptB = false ∨ t.claims.all (clmB t) = false then 1 else 0
def annOK (t : Ann) : Prop := t.reports.length ≤ 1000000 ∧ t.claims.length ≤ 1000000
theorem check_c (t : Ann) (ht : annOK t) : zO Try.prog 50 [.agg (zL t)] (.int .i64 (faultA t)) := by
 obtain ⟨hl1, hl2⟩ := ht
 have h1 := all_R t.reports 80 rptB hl1 (fun i hi => rptV_c _)
 have h2 := all_C t t.claims hl1 hl2
 unfold faultA
 by_cases hbig : 7 < t.reports.length ∨ 30 < t.claims.length
 ·rw [if_pos hbig]
  simp only [zL, slR, slC] at h1 ⊢
  (refine zG (fun w args => Try.call50 ..) Try.func50 rfl (fun w0 m0 wz => ?_); simp only [Try.ntmps50, Try.results50, zN, zP, zU, zV, slR, slC, zL, sl, List.toList_toArray, List.cons_append, List.nil_append, List.length_cons, List.length_nil, Nat.reduceAdd, Nat.reduceSub])
  (repeat' (first
 | ((exfalso; omega))
 | refine zC ?_
 | refine kt ?_
 | refine And.intro ?_ ?_
 | ((first | refine awp_stp rfl ?_ | refine awp_draw (by kernel_rfl) (by kernel_rfl) ?_ | refine Imp.le2 ?_ | refine callK_of (always_c) ?_ | refine callK_of (has_c _ _ _) ?_ | refine callK_of (h1) ?_ | refine go_split (fun _h => ?_) (fun _h => ?_)) <;> try simp (maxSteps := 4000000) only [go_sem, seval])
 | intro _h
 | refine zA ?_
 | refine zB ?_
 | refine zF ?_ ?_
 | (show zE _ _ = true; kernel_rfl)
 | (show zD _ _ = true; kernel_rfl)
 | (omega)))
  all_goals trace_state
 ·rw [if_neg hbig]
  by_cases hA : (t.reports.length = 0 ∨ ¬ (0 ≤ t.rest ∧ t.rest ≤ 100000)) ∨ t.reports.all rptB = false
  ·rw [if_pos (by rcases hA with h | h; exact .inl h; exact .inr (.inl h))]
   generalize t.reports.all rptB = q1 at *
   simp only [zL, slR, slC] at h1 ⊢
   (refine zG (fun w args => Try.call50 ..) Try.func50 rfl (fun w0 m0 wz => ?_); simp only [Try.ntmps50, Try.results50, zN, zP, zU, zV, slR, slC, zL, sl, List.toList_toArray, List.cons_append, List.nil_append, List.length_cons, List.length_nil, Nat.reduceAdd, Nat.reduceSub])
   (repeat' (first
 | ((exfalso; omega))
 | ((exfalso; rcases hA with (h | h) | h <;> first | omega | (simp [*] at h; done) | contradiction))
 | refine zC ?_
 | refine kt ?_
 | refine And.intro ?_ ?_
 | ((first | refine awp_stp rfl ?_ | refine awp_draw (by kernel_rfl) (by kernel_rfl) ?_ | refine Imp.le2 ?_ | refine callK_of (always_c) ?_ | refine callK_of (has_c _ _ _) ?_ | refine callK_of (h1) ?_ | refine go_split (fun _h => ?_) (fun _h => ?_)) <;> try simp (maxSteps := 4000000) only [go_sem, seval])
 | intro _h
 | refine zA ?_
 | refine zB ?_
 | refine zF ?_ ?_
 | (show zE _ _ = true; kernel_rfl)
 | (show zD _ _ = true; kernel_rfl)
 | (omega)))
   all_goals trace_state
  ·have hA1 : t.reports.length ≠ 0 := fun h => hA (.inl (.inl h))
   have hA2 : 0 ≤ t.rest ∧ t.rest ≤ 100000 := Classical.not_not.1 fun h => hA (.inl (.inr h))
   have hA3 : t.reports.all rptB = true := by
    cases h : t.reports.all rptB with
    | true => rfl
    | false => exact absurd (.inr h) hA
   rw [hA3] at h1
   have e1 : ((t.reports.length : Int) = 0) = False := eq_false (by omega)
   have e2 : (0 ≤ t.rest ∧ t.rest ≤ 100000) = True := eq_true hA2
   have e3 : (7 < (t.reports.length : Int)) = False := eq_false (by omega)
   have e4 : (30 < (t.claims.length : Int)) = False := eq_false (by omega)
   have hif : (if (t.reports.length = 0 ∨ ¬ (0 ≤ t.rest ∧ t.rest ≤ 100000)) ∨ t.reports.all rptB = false ∨ t.claims.all (clmB t) = false then (1 : Int) else 0) = if t.claims.all (clmB t) = false then 1 else 0 := by
    rw [hA3]; simp [hA1, hA2]
   rw [hif]
   generalize t.claims.all (clmB t) = q2 at *
   simp only [zL, slR, slC, B0, B1] at h1 h2 ⊢
   (refine zG (fun w args => Try.call50 ..) Try.func50 rfl (fun w0 m0 wz => ?_); simp only [Try.ntmps50, Try.results50, zN, zP, zU, zV, slR, slC, zL, sl, List.toList_toArray, List.cons_append, List.nil_append, List.length_cons, List.length_nil, Nat.reduceAdd, Nat.reduceSub])
   (repeat' (first
 | refine zC ?_
 | refine kt ?_
 | refine And.intro ?_ ?_
 | ((first | refine awp_stp rfl ?_ | refine Imp.le2 ?_ | refine go_split (fun _h => ?_) (fun _h => ?_)) <;> try simp (maxSteps := 4000000) only [go_sem, seval, e1, e2, e3, e4, decide_true, decide_false])
 | intro _h
 | refine zA ?_
 | refine zB ?_
 | refine zF ?_ ?_
 | (show zE _ _ = true; kernel_rfl)
 | (show zD _ _ = true; kernel_rfl)
 | (omega)))
   ((repeat refine zC ?_); refine awp_draws [(22, [])] (by kernel_rfl) (by kernel_rfl) ?_; simp (maxSteps := 4000000) only [go_sem, seval, sg_cons, sg_nil, List.take_succ_cons, List.take_zero, List.drop_succ_cons, List.drop_zero])
   (repeat' (first
 | refine zC ?_
 | refine kt ?_
 | refine And.intro ?_ ?_
 | ((first | refine awp_stp rfl ?_ | refine Imp.le2 ?_ | refine callK_of (always_c) ?_ | refine callK_of (has_c _ _ _) ?_ | refine callK_of (h1) ?_ | refine go_split (fun _h => ?_) (fun _h => ?_)) <;> try simp (maxSteps := 4000000) only [go_sem, seval, e1, e2, e3, e4, decide_true, decide_false])
 | intro _h
 | refine zA ?_
 | refine zB ?_
 | refine zF ?_ ?_
 | (show zE _ _ = true; kernel_rfl)
 | (show zD _ _ = true; kernel_rfl)
 | (omega)))
   (refine zQ (h2) [0, 1] rfl (by simp (maxSteps := 4000000) only [go_sem, seval]) (by simp (maxSteps := 4000000) only [go_sem, seval, Nat.lt_irrefl] <;> decide) rfl ?_; simp (maxSteps := 4000000) only [go_sem, seval]; refine And.intro (frm_of (by repeat (first | exact rfl | exact ⟨_, rfl⟩ | refine And.intro ?_ ?_))) ?_; try simp (maxSteps := 4000000) only [go_sem, seval, sg_cons, sg_nil, List.take_succ_cons, List.take_zero, List.drop_succ_cons, List.drop_zero])
   (repeat' (first
 | refine zC ?_
 | refine kt ?_
 | refine And.intro ?_ ?_
 | ((first | refine awp_stp rfl ?_ | refine Imp.le2 ?_ | refine go_split (fun _h => ?_) (fun _h => ?_)) <;> try simp (maxSteps := 4000000) only [go_sem, seval])
 | intro _h
 | refine zA ?_
 | refine zB ?_
 | refine zF ?_ ?_
 | (show zE _ _ = true; kernel_rfl)
 | (show zD _ _ = true; kernel_rfl)
 | (omega)))
   all_goals (cases q2 <;> first | rfl | exact absurd ‹(!true) = true› (by decide) | exact absurd ‹(!false) = false› (by decide))
theorem getD_mem {α : Type} {l : List α} {d : α} {i : Nat} (h : i < l.length) : l.getD i d ∈ l := by
 simp [List.getD_eq_getElem?_getD, h]
theorem mem_getD {α : Type} {l : List α} {d : α} {x : α} (h : x ∈ l) : ∃ i, i < l.length ∧ l.getD i d = x := by
 obtain ⟨i, hi, rfl⟩ := List.mem_iff_getElem.1 h
 exact ⟨i, hi, by simp [List.getD_eq_getElem?_getD, hi]⟩
end Go.Am
namespace Go.Am
open Go.RowKit Go.Proofs
attribute [local irreducible] AWP zO Kt goK CallK zT zR SemF SemY Imp
set_option maxRecDepth 4000
set_option linter.unusedSimpArgs false
set_option linter.unusedVariables false
set_option maxHeartbeats 1600000
theorem ints_c (l l' : List Int) (hl : l.length ≤ 9223372036854775807) : zO Try.prog 35 [sl l, sl l'] (.bool (decide (l = l'))) := by
 have hyes : l.length = l'.length → (∀ j, j < l.length → l.getD j 0 = l'.getD j 0) → true = decide (l = l') := fun a b => by
  refine (decide_eq_true ?_).symm
  apply List.ext_getElem a
  intro i h1 h2
  have := b i h1
  simpa [List.getD_eq_getElem?_getD, h1, h2] using this
 have hno : (l = l' → False) → false = decide (l = l') := fun a => (decide_eq_false a).symm
 generalize decide (l = l') = r at *
 (refine zG (fun w args => Try.call35 ..) Try.func35 rfl (fun w0 m0 wz => ?_); simp only [Try.ntmps35, Try.results35, zN, zP, zU, zV, slR, slC, zL, sl, List.toList_toArray, List.cons_append, List.nil_append, List.length_cons, List.length_nil, Nat.reduceAdd, Nat.reduceSub])
 (repeat' (first
 | refine zC ?_
 | refine kt ?_
 | refine And.intro ?_ ?_
 | ((first | refine awp_stp rfl ?_ | refine awp_draw (by kernel_rfl) (by kernel_rfl) ?_ | refine Imp.le2 ?_ | refine go_split (fun _h => ?_) (fun _h => ?_)) <;> try simp (maxSteps := 4000000) only [go_sem, seval])
 | intro _h
 | refine zA ?_
 | refine zB ?_
 | refine zF ?_ ?_
 | (show zE _ _ = true; kernel_rfl)
 | (show zD _ _ = true; kernel_rfl)
 | (omega)))
 all_goals first
  | exact hno (fun h => by subst h; contradiction)
  | exact (hno (fun h => by subst h; contradiction)).symm
  | skip
 refine awp_loopJ (fun i : Nat => i ≤ l.length ∧ ∀ j, j < i → l.getD j 0 = l'.getD j 0) (fun i => ⟨mkT 26 [(0, sl l), (1, sl l'), (5, .int .i64 i)], [], []⟩) (fun i => l.length - i) 0 ⟨Nat.zero_le _, by simp⟩ (.le2 ?_) ?_
 ·simp (maxSteps := 4000000) only [go_sem, seval]
 ·rintro i ⟨hi, hj⟩
  simp (maxSteps := 4000000) only [go_sem, seval]
  (repeat' (first
 | refine zC ?_
 | refine kt ?_
 | refine And.intro ?_ ?_
 | ((first | refine awp_stp rfl ?_ | refine awp_draw (by kernel_rfl) (by kernel_rfl) ?_ | refine Imp.le2 ?_ | refine go_split (fun _h => ?_) (fun _h => ?_)) <;> try simp (maxSteps := 4000000) only [go_sem, seval])
 | intro _h
 | refine zA ?_
 | refine zB ?_
 | refine zF ?_ ?_
 | (show zE _ _ = true; kernel_rfl)
 | (show zD _ _ = true; kernel_rfl)
 | (omega)))
  all_goals first
   | (refine ⟨i + 1, ⟨by omega, fun j hji => ?_⟩, by omega, .le2 ?_⟩
      ·rcases Nat.lt_succ_iff_lt_or_eq.1 hji with h | rfl
       ·exact hj j h
       ·assumption
      ·simp (maxSteps := 4000000) only [go_sem, seval] <;> omega)
   | exact (hno (fun h => by subst h; contradiction)).symm
   | exact (hyes (by omega) (fun j h => hj j (by omega))).symm
   | exact (hno (fun h => by subst h; contradiction))
   | exact (hyes (by omega) (fun j h => hj j (by omega)))
   | trace_state
theorem tkb48 : tkb Try.prog 48 = some [false, false] := by kernel_rfl
theorem tkb73 : tkb Try.prog 73 = some [false, false, false] := by kernel_rfl
attribute [go_sem] tkb48 tkb73
end Go.Am
namespace Go.Am
open Go.RowKit Go.Proofs
end Go.Am
namespace Go.Am
open Go.RowKit Go.Proofs
set_option linter.unusedSimpArgs false
set_option linter.unusedVariables false
def tab {α : Type} (n : Nat) (f : Nat → α) : List α := (List.range n).map f
section
variable {α : Type} {n : Nat} {f g : Nat → α}
theorem tab_length : (tab n f).length = n := by simp [tab]
theorem tab_getD {j : Nat} {d : α} (h : j < n) : (tab n f).getD j d = f j := by simp [tab, List.getD_eq_getElem?_getD, h]
def isp (l : List α) (j : Nat) (v : α) : List α := l.take j ++ v :: l.drop (j + 1)
theorem isp_set {l : List α} {j : Nat} {v : α} (h : j < l.length) : isp l j v = l.set j v := by rw [List.set_eq_take_append_cons_drop, if_pos h]; rfl
theorem isp_length {l : List α} {j : Nat} {v : α} (h : j < l.length) : (isp l j v).length = l.length := by rw [isp_set h, List.length_set]
theorem isp_getD {l : List α} {j k : Nat} {v d : α} (h : j < l.length) : (isp l j v).getD k d = if k = j then v else l.getD k d := by
 rw [isp_set h]
 simp only [List.getD_eq_getElem?_getD, List.getElem?_set]
 by_cases e : j = k
 ·subst e; simp [h]
 ·rw [if_neg e, if_neg (Ne.symm e)]
end
theorem sp_ints {l : List Int} {j : Nat} {v : Int} : splice (zS l) j [.int .i64 v] = zS (isp l j v) := by
 simp [splice, zS, isp, List.map_take, List.map_drop]
attribute [go_sem] tab_length
attribute [go_sem] sp_ints
section
variable {κ ν : Type} [DecidableEq κ]
def gmC (eK : κ → AV) (eV : ν → AV) (m : List (κ × ν)) : List (AV × AV) := m.map fun e => (eK e.1, eV e.2)
def gmGet : List (κ × ν) → κ → Option ν
 | [], _ => none
 | e :: m, k => if e.1 = k then some e.2 else gmGet m k
def gmPut : List (κ × ν) → κ → ν → List (κ × ν)
 | [], k, v => [(k, v)]
 | e :: m, k, v => if e.1 = k then (k, v) :: m else e :: gmPut m k v
def KeyE (eK : κ → AV) : Prop := ∀ a b v es, mapFind ((eK a, v) :: es) (eK b) = if a = b then some (some (0, v)) else (mapFind es (eK b)).map (·.map fun p => (p.1 + 1, p.2))
theorem gfind {eK : κ → AV} {eV : ν → AV} (he : KeyE eK) (k : κ) : ∀ m : List (κ × ν),
 (∃ i v, mapFind (gmC eK eV m) (eK k) = some (some (i, eV v)) ∧ gmGet m k = some v ∧ (∀ a, (gmC eK eV m).set i (eK k, eV a) = gmC eK eV (gmPut m k a))) ∨
 (mapFind (gmC eK eV m) (eK k) = some none ∧ gmGet m k = none ∧ (∀ a, gmC eK eV m ++ [(eK k, eV a)] = gmC eK eV (gmPut m k a)))
 | [] => .inr ⟨by simp [gmC, mapFind], rfl, fun a => rfl⟩
 | e :: m => by
   have hc : mapFind (gmC eK eV (e :: m)) (eK k) = if e.1 = k then some (some (0, eV e.2)) else (mapFind (gmC eK eV m) (eK k)).map (·.map fun p => (p.1 + 1, p.2)) := he _ _ _ _
   by_cases h : e.1 = k
   ·refine .inl ⟨0, e.2, ?_, ?_, fun a => ?_⟩
    ·rw [hc, if_pos h]
    ·simp [gmGet, h]
    ·simp [gmC, gmPut, h]
   ·rcases gfind he k m with ⟨i, v, h1, h2, h3⟩ | ⟨h1, h2, h3⟩
    ·refine .inl ⟨i + 1, v, ?_, by simp [gmGet, h, h2], fun a => ?_⟩
     ·rw [hc, if_neg h, h1]; rfl
     ·have := h3 a
      simp only [gmC, List.map_cons, gmPut, h, if_false, List.set_cons_succ] at this ⊢
      rw [this]
    ·refine .inr ⟨?_, by simp [gmGet, h, h2], fun a => ?_⟩
     ·rw [hc, if_neg h, h1]; rfl
     ·have := h3 a
      simp only [gmC, List.map_cons, gmPut, h, if_false, List.cons_append] at this ⊢
      rw [this]
theorem mup_g {eK : κ → AV} {eV : ν → AV} (he : KeyE eK) {m : List (κ × ν)} {k : κ} {v : ν} {f : List (AV × AV) → Prop} : mupK (gmC eK eV m) (eK k) (eV v) f = f (gmC eK eV (gmPut m k v)) := by
 rcases gfind (eV := eV) he k m with ⟨i, w, h1, h2, h3⟩ | ⟨h1, h2, h3⟩
 ·simp only [mupK, h1, h3]
 ·simp only [mupK, h1, h3]
theorem mget_gs {eK : κ → AV} {eV : ν → AV} (he : KeyE eK) {m : List (κ × ν)} {k : κ} {v : ν} {z : AV} {f : AV → Bool → Prop} (h : gmGet m k = some v) : mgetK (gmC eK eV m) (eK k) z f = f (eV v) true := by
 rcases gfind (eV := eV) he k m with ⟨i, w, h1, h2, h3⟩ | ⟨h1, h2, h3⟩
 ·rw [h] at h2; cases h2; simp only [mgetK, h1]
 ·rw [h] at h2; cases h2
theorem mget_gn {eK : κ → AV} {eV : ν → AV} (he : KeyE eK) {m : List (κ × ν)} {k : κ} {z : AV} {f : AV → Bool → Prop} (h : gmGet m k = none) : mgetK (gmC eK eV m) (eK k) z f = f z false := by
 rcases gfind (eV := eV) he k m with ⟨i, w, h1, h2, h3⟩ | ⟨h1, h2, h3⟩
 ·rw [h] at h2; cases h2
 ·simp only [mgetK, h1]
end
theorem key_int : KeyE (AV.int .i64) := fun a b v es => by
 simp only [mapFind, if_true]
end Go.Am
