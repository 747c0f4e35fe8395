/- Parts Tab, TaA, TaB, TaC, TaD, TaE, TbA, TdA, Tab2, TdB, TbD, RwA of the proof, one behind the other. No statement is proved here. -/
import Derived.Test.YtghlpjfpfjpddaaK2
import Derived.Test.YtghlpjfpfjpddaaProg
import Derived.KernelRfl
import Derived.Test.YtghlpjfpfjpddaaK3
import Derived.Carry
set_option linter.unusedVariables false -- all
set_option linter.unusedSimpArgs false
/- MADE BY A PROGRAM of ours (wip/tools/Tab): what the program's table says of the types that the walks meet. -/
namespace Go.Am
open Go.RowKit Go.Proofs
theorem tsz3 : tsz Try.prog 3 = some 1 := by kernel_rfl
theorem tagg3 : tagg Try.prog 3 = some false := by kernel_rfl
theorem tint3 : tint Try.prog 3 = some .i64 := by kernel_rfl
theorem tbytes3 : tbytes Try.prog 3 = some 8 := by kernel_rfl
theorem tzero3 : tzero Try.prog 3 = some [.int .i64 0] := by kernel_rfl
theorem tzv3 : tzv Try.prog 3 = some (.int .i64 0) := by kernel_rfl
theorem tsz4 : tsz Try.prog 4 = some 1 := by kernel_rfl
theorem tagg4 : tagg Try.prog 4 = some false := by kernel_rfl
theorem tbytes4 : tbytes Try.prog 4 = some 1 := by kernel_rfl
theorem tzero4 : tzero Try.prog 4 = some [.bool false] := by kernel_rfl
theorem tsz5 : tsz Try.prog 5 = some 1 := by kernel_rfl
theorem tagg5 : tagg Try.prog 5 = some false := by kernel_rfl
theorem tund5 : (Try.prog.underlying 5).isSome = true := by kernel_rfl
theorem tsz22 : tsz Try.prog 22 = some 1 := by kernel_rfl
theorem tagg22 : tagg Try.prog 22 = some false := by kernel_rfl
theorem tslice22 : tslice Try.prog 22 = some 45 := by kernel_rfl
theorem tsz23 : tsz Try.prog 23 = some 1 := by kernel_rfl
theorem tagg23 : tagg Try.prog 23 = some false := by kernel_rfl
theorem tslice23 : tslice Try.prog 23 = some 56 := by kernel_rfl
theorem tsz25 : tsz Try.prog 25 = some 2 := by kernel_rfl
theorem tagg25 : tagg Try.prog 25 = some true := by kernel_rfl
theorem tfld25_0 : tfld Try.prog 25 0 = some (0, 3) := by kernel_rfl
theorem tfld25_1 : tfld Try.prog 25 1 = some (1, 3) := by kernel_rfl
theorem tsz27 : tsz Try.prog 27 = some 5 := by kernel_rfl
theorem tagg27 : tagg Try.prog 27 = some true := by kernel_rfl
theorem tfld27_0 : tfld Try.prog 27 0 = some (0, 22) := by kernel_rfl
theorem tfld27_1 : tfld Try.prog 27 1 = some (1, 23) := by kernel_rfl
theorem tfld27_2 : tfld Try.prog 27 2 = some (2, 3) := by kernel_rfl
theorem tfld27_3 : tfld Try.prog 27 3 = some (3, 25) := by kernel_rfl
theorem tslice28 : tslice Try.prog 28 = some 49 := by kernel_rfl
theorem tsz32 : tsz Try.prog 32 = some 1 := by kernel_rfl
theorem tagg32 : tagg Try.prog 32 = some false := by kernel_rfl
theorem tslice32 : tslice Try.prog 32 = some 48 := by kernel_rfl
theorem tzero32 : tzero Try.prog 32 = some [.nils] := by kernel_rfl
theorem tsz36 : tsz Try.prog 36 = some 1 := by kernel_rfl
theorem tagg36 : tagg Try.prog 36 = some false := by kernel_rfl
theorem tslice36 : tslice Try.prog 36 = some 106 := by kernel_rfl
theorem tsz37 : tsz Try.prog 37 = some 1 := by kernel_rfl
theorem tagg37 : tagg Try.prog 37 = some false := by kernel_rfl
theorem tslice37 : tslice Try.prog 37 = some 91 := by kernel_rfl
theorem tsz38 : tsz Try.prog 38 = some 2 := by kernel_rfl
theorem tagg38 : tagg Try.prog 38 = some true := by kernel_rfl
theorem tarr38 : tarr Try.prog 38 = none := by kernel_rfl
theorem tzero38 : tzero Try.prog 38 = some [.int .i64 0, .int .i64 0] := by kernel_rfl
theorem tplaces38 : tplaces Try.prog 38 = some [(0, 1), (1, 1)] := by kernel_rfl
theorem tfld38_0 : tfld Try.prog 38 0 = some (0, 3) := by kernel_rfl
theorem tfld38_1 : tfld Try.prog 38 1 = some (1, 3) := by kernel_rfl
theorem tsz40 : tsz Try.prog 40 = some 5 := by kernel_rfl
theorem tagg40 : tagg Try.prog 40 = some true := by kernel_rfl
theorem tarr40 : tarr Try.prog 40 = none := by kernel_rfl
theorem tzero40 : tzero Try.prog 40 = some [.nils, .nils, .int .i64 0, .int .i64 0, .int .i64 0] := by kernel_rfl
theorem tplaces40 : tplaces Try.prog 40 = some [(0, 1), (1, 1), (2, 1), (3, 2)] := by kernel_rfl
theorem tfld40_0 : tfld Try.prog 40 0 = some (0, 36) := by kernel_rfl
theorem tfld40_1 : tfld Try.prog 40 1 = some (1, 37) := by kernel_rfl
theorem tfld40_2 : tfld Try.prog 40 2 = some (2, 3) := by kernel_rfl
theorem tfld40_3 : tfld Try.prog 40 3 = some (3, 38) := by kernel_rfl
theorem tsz45 : tsz Try.prog 45 = some 6 := by kernel_rfl
theorem tagg45 : tagg Try.prog 45 = some true := by kernel_rfl
theorem tzero45 : tzero Try.prog 45 = some [.int .i64 0, .int .u8 0, .int .i64 0, .int .i64 0, .int .i64 0, .int .i64 0] := by kernel_rfl
theorem tfld45_0 : tfld Try.prog 45 0 = some (0, 3) := by kernel_rfl
theorem tfld45_1 : tfld Try.prog 45 1 = some (1, 5) := by kernel_rfl
theorem tfld45_2 : tfld Try.prog 45 2 = some (2, 25) := by kernel_rfl
theorem tfld45_3 : tfld Try.prog 45 3 = some (4, 3) := by kernel_rfl
theorem tfld45_4 : tfld Try.prog 45 4 = some (5, 3) := by kernel_rfl
theorem tsz46 : tsz Try.prog 46 = some 1 := by kernel_rfl
theorem tagg46 : tagg Try.prog 46 = some false := by kernel_rfl
theorem tslice46 : tslice Try.prog 46 = some 3 := by kernel_rfl
theorem tsz48 : tsz Try.prog 48 = some 3 := by kernel_rfl
theorem tagg48 : tagg Try.prog 48 = some true := by kernel_rfl
theorem tarr48 : tarr Try.prog 48 = none := by kernel_rfl
theorem tbytes48 : tbytes Try.prog 48 = some 40 := by kernel_rfl
theorem tzero48 : tzero Try.prog 48 = some [.int .i64 0, .int .i64 0, .nils] := by kernel_rfl
theorem tplaces48 : tplaces Try.prog 48 = some [(0, 1), (1, 1), (2, 1)] := by kernel_rfl
theorem tfld48_0 : tfld Try.prog 48 0 = some (0, 3) := by kernel_rfl
theorem tfld48_1 : tfld Try.prog 48 1 = some (1, 3) := by kernel_rfl
theorem tfld48_2 : tfld Try.prog 48 2 = some (2, 46) := by kernel_rfl
theorem tsz49 : tsz Try.prog 49 = some 3 := by kernel_rfl
theorem tagg49 : tagg Try.prog 49 = some true := by kernel_rfl
theorem tarr49 : tarr Try.prog 49 = none := by kernel_rfl
theorem tbytes49 : tbytes Try.prog 49 = some 40 := by kernel_rfl
theorem tzero49 : tzero Try.prog 49 = some [.int .i64 0, .int .i64 0, .nils] := by kernel_rfl
theorem tplaces49 : tplaces Try.prog 49 = some [(0, 1), (1, 1), (2, 1)] := by kernel_rfl
theorem tfld49_0 : tfld Try.prog 49 0 = some (0, 3) := by kernel_rfl
theorem tfld49_1 : tfld Try.prog 49 1 = some (1, 3) := by kernel_rfl
theorem tfld49_2 : tfld Try.prog 49 2 = some (2, 46) := by kernel_rfl
theorem tsz56 : tsz Try.prog 56 = some 3 := by kernel_rfl
theorem tagg56 : tagg Try.prog 56 = some true := by kernel_rfl
theorem tzero56 : tzero Try.prog 56 = some [.int .i64 0, .int .u8 0, .int .i64 0] := by kernel_rfl
theorem tfld56_0 : tfld Try.prog 56 0 = some (0, 3) := by kernel_rfl
theorem tfld56_1 : tfld Try.prog 56 1 = some (1, 5) := by kernel_rfl
theorem tfld56_2 : tfld Try.prog 56 2 = some (2, 3) := by kernel_rfl
theorem tsz91 : tsz Try.prog 91 = some 3 := by kernel_rfl
theorem tagg91 : tagg Try.prog 91 = some true := by kernel_rfl
theorem tarr91 : tarr Try.prog 91 = none := by kernel_rfl
theorem tbytes91 : tbytes Try.prog 91 = some 24 := by kernel_rfl
theorem tzero91 : tzero Try.prog 91 = some [.int .i64 0, .int .u8 0, .int .i64 0] := by kernel_rfl
theorem tplaces91 : tplaces Try.prog 91 = some [(0, 1), (1, 1), (2, 1)] := by kernel_rfl
theorem tfld91_0 : tfld Try.prog 91 0 = some (0, 3) := by kernel_rfl
theorem tfld91_1 : tfld Try.prog 91 1 = some (1, 5) := by kernel_rfl
theorem tfld91_2 : tfld Try.prog 91 2 = some (2, 3) := by kernel_rfl
theorem tsz93 : tsz Try.prog 93 = some 1 := by kernel_rfl
theorem tagg93 : tagg Try.prog 93 = some false := by kernel_rfl
theorem tzero93 : tzero Try.prog 93 = some [.nilp] := by kernel_rfl
theorem tsz95 : tsz Try.prog 95 = some 1 := by kernel_rfl
theorem tagg95 : tagg Try.prog 95 = some false := by kernel_rfl
theorem tsz96 : tsz Try.prog 96 = some 3 := by kernel_rfl
theorem tslice96 : tslice Try.prog 96 = none := by kernel_rfl
theorem tarr96 : tarr Try.prog 96 = some (3, 3) := by kernel_rfl
theorem tsz98 : tsz Try.prog 98 = some 4 := by kernel_rfl
theorem tagg98 : tagg Try.prog 98 = some true := by kernel_rfl
theorem tarr98 : tarr Try.prog 98 = none := by kernel_rfl
theorem tzero98 : tzero Try.prog 98 = some [.int .u8 0, .int .i64 0, .int .i64 0, .int .i64 0] := by kernel_rfl
theorem tplaces98 : tplaces Try.prog 98 = some [(0, 1), (1, 3)] := by kernel_rfl
theorem tfld98_0 : tfld Try.prog 98 0 = some (0, 95) := by kernel_rfl
theorem tfld98_1 : tfld Try.prog 98 1 = some (1, 96) := by kernel_rfl
theorem tsz100 : tsz Try.prog 100 = some 1 := by kernel_rfl
theorem tagg100 : tagg Try.prog 100 = some false := by kernel_rfl
theorem tzero100 : tzero Try.prog 100 = some [.nilf] := by kernel_rfl
theorem tsz106 : tsz Try.prog 106 = some 6 := by kernel_rfl
theorem tagg106 : tagg Try.prog 106 = some true := by kernel_rfl
theorem tarr106 : tarr Try.prog 106 = none := by kernel_rfl
theorem tbytes106 : tbytes Try.prog 106 = some 48 := by kernel_rfl
theorem tzero106 : tzero Try.prog 106 = some [.int .i64 0, .int .u8 0, .int .i64 0, .int .i64 0, .int .i64 0, .int .i64 0] := by kernel_rfl
theorem tplaces106 : tplaces Try.prog 106 = some [(0, 1), (1, 1), (2, 2), (4, 1), (5, 1)] := by kernel_rfl
theorem tfld106_0 : tfld Try.prog 106 0 = some (0, 3) := by kernel_rfl
theorem tfld106_1 : tfld Try.prog 106 1 = some (1, 5) := by kernel_rfl
theorem tfld106_2 : tfld Try.prog 106 2 = some (2, 38) := by kernel_rfl
theorem tfld106_3 : tfld Try.prog 106 3 = some (4, 3) := by kernel_rfl
theorem tfld106_4 : tfld Try.prog 106 4 = some (5, 3) := by kernel_rfl
theorem tsz114 : tsz Try.prog 114 = some 1 := by kernel_rfl
theorem tagg114 : tagg Try.prog 114 = some false := by kernel_rfl
theorem tsz120 : tsz Try.prog 120 = some 1 := by kernel_rfl
theorem tagg120 : tagg Try.prog 120 = some false := by kernel_rfl
theorem tsz122 : tsz Try.prog 122 = some 1 := by kernel_rfl
theorem tagg122 : tagg Try.prog 122 = some false := by kernel_rfl
theorem tsz123 : tsz Try.prog 123 = some 1 := by kernel_rfl
theorem tagg123 : tagg Try.prog 123 = some false := by kernel_rfl
theorem tmap123 : tmap Try.prog 123 = some (98, 3) := by kernel_rfl
theorem tarr125 : tarr Try.prog 125 = none := by kernel_rfl
theorem tzero125 : tzero Try.prog 125 = some [.nils, .nils, .int .i64 0, .int .i64 0, .int .i64 0, .nils, .nilm] := by kernel_rfl
theorem tplaces125 : tplaces Try.prog 125 = some [(0, 5), (5, 1), (6, 1)] := by kernel_rfl
theorem tfld125_0 : tfld Try.prog 125 0 = some (0, 40) := by kernel_rfl
theorem tfld125_1 : tfld Try.prog 125 1 = some (5, 46) := by kernel_rfl
theorem tfld125_2 : tfld Try.prog 125 2 = some (6, 123) := by kernel_rfl
theorem tslice131 : tslice Try.prog 131 = some 4 := by kernel_rfl
attribute [go_sem] tsz3 tagg3 tint3 tbytes3 tzero3 tzv3 tsz4 tagg4 tbytes4 tzero4 tsz5 tagg5 tund5 tsz22 tagg22 tslice22 tsz23 tagg23 tslice23 tsz25 tagg25 tfld25_0 tfld25_1 tsz27 tagg27 tfld27_0 tfld27_1 tfld27_2 tfld27_3 tslice28 tsz32 tagg32 tslice32 tzero32 tsz36 tagg36 tslice36 tsz37 tagg37 tslice37 tsz38 tagg38 tarr38 tzero38 tplaces38 tfld38_0 tfld38_1 tsz40 tagg40 tarr40 tzero40 tplaces40 tfld40_0 tfld40_1 tfld40_2 tfld40_3 tsz45 tagg45 tzero45 tfld45_0 tfld45_1 tfld45_2 tfld45_3 tfld45_4 tsz46 tagg46 tslice46 tsz48 tagg48 tarr48 tbytes48 tzero48 tplaces48 tfld48_0 tfld48_1 tfld48_2 tsz49 tagg49 tarr49 tbytes49 tzero49 tplaces49 tfld49_0 tfld49_1 tfld49_2 tsz56 tagg56 tzero56 tfld56_0 tfld56_1 tfld56_2 tsz91 tagg91 tarr91 tbytes91 tzero91 tplaces91 tfld91_0 tfld91_1 tfld91_2 tsz93 tagg93 tzero93 tsz95 tagg95 tsz96 tslice96 tarr96 tsz98 tagg98 tarr98 tzero98 tplaces98 tfld98_0 tfld98_1 tsz100 tagg100 tzero100 tsz106 tagg106 tarr106 tbytes106 tzero106 tplaces106 tfld106_0 tfld106_1 tfld106_2 tfld106_3 tfld106_4 tsz114 tagg114 tsz120 tagg120 tsz122 tagg122 tsz123 tagg123 tmap123 tarr125 tzero125 tplaces125 tfld125_0 tfld125_1 tfld125_2 tslice131
end Go.Am

/- Contracts of the away functions: small ones, structs. -/
namespace Go.Am
open Go.RowKit Go.Proofs
attribute [local irreducible] AWP CallS Kt goK CallK stepK evOps
set_option maxRecDepth 4000
set_option linter.unusedSimpArgs false
set_option linter.unusedVariables false
set_option maxHeartbeats 400000
structure Home where
  people : Int
  pets : Int
  lo : Int
  hi : Int
  walk : Int
  gone : Int
structure Hall where
  room : Int
  pets : Int
  drive : Int
instance : Inhabited Home := ⟨⟨0, 0, 0, 0, 0, 0⟩⟩
instance : Inhabited Hall := ⟨⟨0, 0, 0⟩⟩
structure Town where
  homes : List Home
  halls : List Hall
  seats : Int
  clo : Int
  chi : Int
def homeC (h : Home) : List AV := [.int .i64 h.people, .int .u8 h.pets, .int .i64 h.lo, .int .i64 h.hi, .int .i64 h.walk, .int .i64 h.gone]
def hallC (h : Hall) : List AV := [.int .i64 h.room, .int .u8 h.pets, .int .i64 h.drive]
def slH (l : List Home) : AV := .psl false l.length (recs homeC l)
def slL (l : List Hall) : AV := .psl false l.length (recs hallC l)
def townC (t : Town) : List AV := [slH t.homes, slL t.halls, .int .i64 t.seats, .int .i64 t.clo, .int .i64 t.chi]
attribute [go_sem] List.append_eq homeC hallC slH slL townC
section
variable {α : Type} {enc : α → List AV} {sz : Nat} {l : List α} {d : α} {P : Program} {t : TypeId}
theorem ld_recs (ht : tagg P t = some true) (hs : tsz P t = some sz) (he : ∀ a, (enc a).length = sz) (hz : 0 < sz) {i : Nat} {K : AV → Prop} : loadK P t (recs enc l) (i * sz) K = (i < l.length ∧ K (.agg (enc (l.getD i d)))) := by
  simp only [loadK, ht, hs, recs_length he]
  by_cases hi : i < l.length
  · have : i * sz + sz ≤ l.length * sz := by
      rw [show i * sz + sz = (i + 1) * sz by rw [Nat.add_mul, Nat.one_mul]]; exact Nat.mul_le_mul_right _ hi
    rw [recs_window (d := d) he hi]
    simp [this, hi]
  · have : ¬ i * sz + sz ≤ l.length * sz := by
      intro h
      rw [show i * sz + sz = (i + 1) * sz by rw [Nat.add_mul, Nat.one_mul]] at h
      have := Nat.le_of_mul_le_mul_right h hz
      omega
    simp [this, hi]
theorem nth_recs (he : ∀ a, (enc a).length = sz) {i o : Nat} (ho : o < sz) {K : AV → Prop} : optK (nth (recs enc l) (i * sz + o)) K = (i < l.length ∧ optK (nth (enc (l.getD i d)) o) K) := by
  by_cases hi : i < l.length
  · rw [recs_nth (d := d) he hi ho]; simp [hi]
  · have : nth (recs enc l) (i * sz + o) = none := by
      rw [← nth_is, List.getElem?_eq_none]
      rw [recs_length he]
      have := Nat.mul_le_mul_right sz (Nat.le_of_not_lt hi)
      omega
    simp [this, hi, optK]
end
theorem pl_H {l : List Home} : pureL (recs homeC l) = True := eq_true (recs_pure fun s => by simp [pureL, homeC, cellPure])
theorem lv_H {l : List Home} {p : Nat → Bool} : (recs homeC l).all (live2 p) = true := recs_live fun s => by simp [pureL, homeC, cellPure]
theorem len_H {l : List Home} : (recs homeC l).length = l.length * 6 := recs_length fun _ => rfl
theorem ld_H {l : List Home} {i : Nat} {K : AV → Prop} : loadK Try.prog 106 (recs homeC l) (i * 6) K = (i < l.length ∧ K (.agg (homeC (l.getD i default)))) := ld_recs tagg106 tsz106 (fun _ => rfl) (by omega)
theorem nth_H0 {l : List Home} {i : Nat} {K : AV → Prop} : optK (nth (recs homeC l) (i * 6)) K = (i < l.length ∧ K (.int .i64 (l.getD i default).people)) := nth_recs (sz := 6) (o := 0) (fun _ => rfl) (by omega)
theorem nth_H1 {l : List Home} {i : Nat} {K : AV → Prop} : optK (nth (recs homeC l) (i * 6 + 1)) K = (i < l.length ∧ K (.int .u8 (l.getD i default).pets)) := nth_recs (sz := 6) (o := 1) (fun _ => rfl) (by omega)
theorem nth_H5 {l : List Home} {i : Nat} {K : AV → Prop} : optK (nth (recs homeC l) (i * 6 + 5)) K = (i < l.length ∧ K (.int .i64 (l.getD i default).gone)) := nth_recs (sz := 6) (o := 5) (fun _ => rfl) (by omega)
theorem pl_L {l : List Hall} : pureL (recs hallC l) = True := eq_true (recs_pure fun s => by simp [pureL, hallC, cellPure])
theorem lv_L {l : List Hall} {p : Nat → Bool} : (recs hallC l).all (live2 p) = true := recs_live fun s => by simp [pureL, hallC, cellPure]
theorem len_L {l : List Hall} : (recs hallC l).length = l.length * 3 := recs_length fun _ => rfl
theorem ld_L {l : List Hall} {i : Nat} {K : AV → Prop} : loadK Try.prog 91 (recs hallC l) (i * 3) K = (i < l.length ∧ K (.agg (hallC (l.getD i default)))) := ld_recs tagg91 tsz91 (fun _ => rfl) (by omega)
theorem nth_L0 {l : List Hall} {i : Nat} {K : AV → Prop} : optK (nth (recs hallC l) (i * 3)) K = (i < l.length ∧ K (.int .i64 (l.getD i default).room)) := nth_recs (sz := 3) (o := 0) (fun _ => rfl) (by omega)
theorem nth_L1 {l : List Hall} {i : Nat} {K : AV → Prop} : optK (nth (recs hallC l) (i * 3 + 1)) K = (i < l.length ∧ K (.int .u8 (l.getD i default).pets)) := nth_recs (sz := 3) (o := 1) (fun _ => rfl) (by omega)
theorem nth_L2 {l : List Hall} {i : Nat} {K : AV → Prop} : optK (nth (recs hallC l) (i * 3 + 2)) K = (i < l.length ∧ K (.int .i64 (l.getD i default).drive)) := nth_recs (sz := 3) (o := 2) (fun _ => rfl) (by omega)
attribute [go_sem] pl_H lv_H len_H nth_H0 nth_H1 nth_H5 pl_L lv_L len_L nth_L0 nth_L1 nth_L2
attribute [go_sem ↓] ld_H ld_L
theorem cond_b {b : Bool} {A B : Prop} (h1 : b = true → A) (h2 : b = false → B) : condK (.bool b) A B := by
  cases b
  · exact h2 rfl
  · exact h1 rfl
theorem within_c (n lo hi : Int) : CallS Try.prog 62 [.int .i64 n, .int .i64 lo, .int .i64 hi] (.bool (decide (lo ≤ n ∧ n ≤ hi))) := by
  (refine callS_of_awp (fun w args => Try.call62 ..) Try.func62 rfl (fun w0 m0 wz => ?_); simp only [Try.ntmps62, Try.results62, initT, junks, homeC, hallC, sl, List.toList_toArray, List.cons_append, List.nil_append, List.length_cons, List.length_nil, Nat.reduceAdd, Nat.reduceSub])
  (repeat' (first
 | refine awp_seqK ?_
 | refine kt ?_
 | refine And.intro ?_ ?_
 | ((first | refine awp_stp rfl ?_ | refine awp_draw (by kernel_rfl) (by kernel_rfl) ?_ | refine Imp.le2 ?_ | refine go_split (fun _h => ?_) (fun _h => ?_)) <;> try simp (maxSteps := 4000000) only [go_sem, seval])
 | intro _h
 | refine awp_block ?_
 | refine awp_scope ?_
 | (show heapOK _ _ = true; kernel_rfl)
 | (show heapOK2 _ _ = true; kernel_rfl)
 | (omega)))
theorem in_c (n lo hi : Int) : CallS Try.prog 36 [.int .i64 n, .int .i64 lo, .int .i64 hi] (.bool (decide (lo ≤ n ∧ n ≤ hi))) := by
  (refine callS_of_awp (fun w args => Try.call36 ..) Try.func36 rfl (fun w0 m0 wz => ?_); simp only [Try.ntmps36, Try.results36, initT, junks, homeC, hallC, sl, List.toList_toArray, List.cons_append, List.nil_append, List.length_cons, List.length_nil, Nat.reduceAdd, Nat.reduceSub])
  (repeat' (first
 | refine awp_seqK ?_
 | refine kt ?_
 | refine And.intro ?_ ?_
 | ((first | refine awp_stp rfl ?_ | refine awp_draw (by kernel_rfl) (by kernel_rfl) ?_ | refine Imp.le2 ?_ | refine go_split (fun _h => ?_) (fun _h => ?_)) <;> try simp (maxSteps := 4000000) only [go_sem, seval])
 | intro _h
 | refine awp_block ?_
 | refine awp_scope ?_
 | (show heapOK _ _ = true; kernel_rfl)
 | (show heapOK2 _ _ = true; kernel_rfl)
 | (omega)))
theorem max2_c (f : Bool) (a b : Int) : CallS Try.prog 87 [.psl f 2 [.int .i64 a, .int .i64 b]] (.int .i64 (max a b)) := by
  (refine callS_of_awp (fun w args => Try.call87 ..) Try.func87 rfl (fun w0 m0 wz => ?_); simp only [Try.ntmps87, Try.results87, initT, junks, homeC, hallC, sl, List.toList_toArray, List.cons_append, List.nil_append, List.length_cons, List.length_nil, Nat.reduceAdd, Nat.reduceSub])
  (repeat' (first
 | refine awp_seqK ?_
 | refine kt ?_
 | refine And.intro ?_ ?_
 | ((first | refine awp_stp rfl ?_ | refine awp_draw (by kernel_rfl) (by kernel_rfl) ?_ | refine Imp.le2 ?_ | refine go_split (fun _h => ?_) (fun _h => ?_)) <;> try simp (maxSteps := 4000000) only [go_sem, seval])
 | intro _h
 | refine awp_block ?_
 | refine awp_scope ?_
 | (show heapOK _ _ = true; kernel_rfl)
 | (show heapOK2 _ _ = true; kernel_rfl)
 | (omega)))
  (refine awp_rounds 2 ?_; rw [ar_s])
  (repeat' (first
 | refine awp_seqK ?_
 | refine kt ?_
 | refine And.intro ?_ ?_
 | ((first | refine awp_stp rfl ?_ | refine awp_draw (by kernel_rfl) (by kernel_rfl) ?_ | refine Imp.le2 ?_ | refine go_split (fun _h => ?_) (fun _h => ?_)) <;> try simp (maxSteps := 4000000) only [go_sem, seval])
 | intro _h
 | refine awp_block ?_
 | refine awp_scope ?_
 | (show heapOK _ _ = true; kernel_rfl)
 | (show heapOK2 _ _ = true; kernel_rfl)
 | (omega)))
theorem min2_c (f : Bool) (a b : Int) : CallS Try.prog 94 [.psl f 2 [.int .i64 a, .int .i64 b]] (.int .i64 (min a b)) := by
  (refine callS_of_awp (fun w args => Try.call94 ..) Try.func94 rfl (fun w0 m0 wz => ?_); simp only [Try.ntmps94, Try.results94, initT, junks, homeC, hallC, sl, List.toList_toArray, List.cons_append, List.nil_append, List.length_cons, List.length_nil, Nat.reduceAdd, Nat.reduceSub])
  (repeat' (first
 | refine awp_seqK ?_
 | refine kt ?_
 | refine And.intro ?_ ?_
 | ((first | refine awp_stp rfl ?_ | refine awp_draw (by kernel_rfl) (by kernel_rfl) ?_ | refine Imp.le2 ?_ | refine go_split (fun _h => ?_) (fun _h => ?_)) <;> try simp (maxSteps := 4000000) only [go_sem, seval])
 | intro _h
 | refine awp_block ?_
 | refine awp_scope ?_
 | (show heapOK _ _ = true; kernel_rfl)
 | (show heapOK2 _ _ = true; kernel_rfl)
 | (omega)))
  (refine awp_rounds 2 ?_; rw [ar_s])
  (repeat' (first
 | refine awp_seqK ?_
 | refine kt ?_
 | refine And.intro ?_ ?_
 | ((first | refine awp_stp rfl ?_ | refine awp_draw (by kernel_rfl) (by kernel_rfl) ?_ | refine Imp.le2 ?_ | refine go_split (fun _h => ?_) (fun _h => ?_)) <;> try simp (maxSteps := 4000000) only [go_sem, seval])
 | intro _h
 | refine awp_block ?_
 | refine awp_scope ?_
 | (show heapOK _ _ = true; kernel_rfl)
 | (show heapOK2 _ _ = true; kernel_rfl)
 | (omega)))
theorem latest_c (f : Bool) (a b : Int) : CallS Try.prog 63 [.psl f 2 [.int .i64 a, .int .i64 b]] (.int .i64 (max a b)) := by
  (refine callS_of_awp (fun w args => Try.call63 ..) Try.func63 rfl (fun w0 m0 wz => ?_); simp only [Try.ntmps63, Try.results63, initT, junks, homeC, hallC, sl, List.toList_toArray, List.cons_append, List.nil_append, List.length_cons, List.length_nil, Nat.reduceAdd, Nat.reduceSub])
  (repeat' (first
 | refine awp_seqK ?_
 | refine kt ?_
 | refine And.intro ?_ ?_
 | ((first | refine awp_stp rfl ?_ | refine awp_draw (by kernel_rfl) (by kernel_rfl) ?_ | refine Imp.le2 ?_ | refine callK_of (max2_c _ _ _) ?_ | refine go_split (fun _h => ?_) (fun _h => ?_)) <;> try simp (maxSteps := 4000000) only [go_sem, seval])
 | intro _h
 | refine awp_block ?_
 | refine awp_scope ?_
 | (show heapOK _ _ = true; kernel_rfl)
 | (show heapOK2 _ _ = true; kernel_rfl)
 | (omega)))
theorem earliest_c (f : Bool) (a b : Int) : CallS Try.prog 75 [.psl f 2 [.int .i64 a, .int .i64 b]] (.int .i64 (min a b)) := by
  (refine callS_of_awp (fun w args => Try.call75 ..) Try.func75 rfl (fun w0 m0 wz => ?_); simp only [Try.ntmps75, Try.results75, initT, junks, homeC, hallC, sl, List.toList_toArray, List.cons_append, List.nil_append, List.length_cons, List.length_nil, Nat.reduceAdd, Nat.reduceSub])
  (repeat' (first
 | refine awp_seqK ?_
 | refine kt ?_
 | refine And.intro ?_ ?_
 | ((first | refine awp_stp rfl ?_ | refine awp_draw (by kernel_rfl) (by kernel_rfl) ?_ | refine Imp.le2 ?_ | refine callK_of (min2_c _ _ _) ?_ | refine go_split (fun _h => ?_) (fun _h => ?_)) <;> try simp (maxSteps := 4000000) only [go_sem, seval])
 | intro _h
 | refine awp_block ?_
 | refine awp_scope ?_
 | (show heapOK _ _ = true; kernel_rfl)
 | (show heapOK2 _ _ = true; kernel_rfl)
 | (omega)))
theorem upto_c (lo hi m : Int) : CallS Try.prog 69 [.agg [.int .i64 lo, .int .i64 hi], .int .i64 m] (.bool (decide (0 ≤ lo ∧ lo ≤ hi ∧ hi ≤ m))) := by
  (refine callS_of_awp (fun w args => Try.call69 ..) Try.func69 rfl (fun w0 m0 wz => ?_); simp only [Try.ntmps69, Try.results69, initT, junks, homeC, hallC, sl, List.toList_toArray, List.cons_append, List.nil_append, List.length_cons, List.length_nil, Nat.reduceAdd, Nat.reduceSub])
  (repeat' (first
 | refine awp_seqK ?_
 | refine kt ?_
 | refine And.intro ?_ ?_
 | ((first | refine awp_stp rfl ?_ | refine awp_draw (by kernel_rfl) (by kernel_rfl) ?_ | refine Imp.le2 ?_ | refine go_split (fun _h => ?_) (fun _h => ?_)) <;> try simp (maxSteps := 4000000) only [go_sem, seval])
 | intro _h
 | refine awp_block ?_
 | refine awp_scope ?_
 | (show heapOK _ _ = true; kernel_rfl)
 | (show heapOK2 _ _ = true; kernel_rfl)
 | (omega)))
theorem span_c (lo hi m : Int) : CallS Try.prog 58 [.agg [.int .i64 lo, .int .i64 hi], .int .i64 m] (.bool (decide (0 ≤ lo ∧ lo ≤ hi ∧ hi ≤ m))) := by
  (refine callS_of_awp (fun w args => Try.call58 ..) Try.func58 rfl (fun w0 m0 wz => ?_); simp only [Try.ntmps58, Try.results58, initT, junks, homeC, hallC, sl, List.toList_toArray, List.cons_append, List.nil_append, List.length_cons, List.length_nil, Nat.reduceAdd, Nat.reduceSub])
  (repeat' (first
 | refine awp_seqK ?_
 | refine kt ?_
 | refine And.intro ?_ ?_
 | ((first | refine awp_stp rfl ?_ | refine awp_draw (by kernel_rfl) (by kernel_rfl) ?_ | refine Imp.le2 ?_ | refine callK_of (in_c _ _ _) ?_ | refine go_split (fun _h => ?_) (fun _h => ?_)) <;> try simp (maxSteps := 4000000) only [go_sem, seval])
 | intro _h
 | refine awp_block ?_
 | refine awp_scope ?_
 | (show heapOK _ _ = true; kernel_rfl)
 | (show heapOK2 _ _ = true; kernel_rfl)
 | (omega)))
def homeB (h : Home) : Bool := decide ((1 ≤ h.people ∧ h.people ≤ 200) ∧ (0 ≤ h.lo ∧ h.lo ≤ h.hi ∧ h.hi ≤ 1000) ∧ (0 ≤ h.walk ∧ h.walk ≤ 1000) ∧ 0 ≤ h.gone ∧ h.gone ≤ 10000)
def hallB (h : Hall) : Bool := decide ((0 ≤ h.room ∧ h.room ≤ 2000) ∧ 0 ≤ h.drive ∧ h.drive ≤ 1000)
theorem homeV_c (h : Home) : CallS Try.prog 71 [.agg (homeC h)] (.bool (homeB h)) := by
  unfold homeB
  (refine callS_of_awp (fun w args => Try.call71 ..) Try.func71 rfl (fun w0 m0 wz => ?_); simp only [Try.ntmps71, Try.results71, initT, junks, homeC, hallC, sl, List.toList_toArray, List.cons_append, List.nil_append, List.length_cons, List.length_nil, Nat.reduceAdd, Nat.reduceSub])
  (repeat' (first
 | refine awp_seqK ?_
 | refine kt ?_
 | refine And.intro ?_ ?_
 | ((first | refine awp_stp rfl ?_ | refine awp_draw (by kernel_rfl) (by kernel_rfl) ?_ | refine Imp.le2 ?_ | refine callK_of (within_c _ _ _) ?_ | refine callK_of (upto_c _ _ _) ?_ | refine go_split (fun _h => ?_) (fun _h => ?_)) <;> try simp (maxSteps := 4000000) only [go_sem, seval])
 | intro _h
 | refine awp_block ?_
 | refine awp_scope ?_
 | (show heapOK _ _ = true; kernel_rfl)
 | (show heapOK2 _ _ = true; kernel_rfl)
 | (omega)))
theorem hallV_c (h : Hall) : CallS Try.prog 73 [.agg (hallC h)] (.bool (hallB h)) := by
  unfold hallB
  (refine callS_of_awp (fun w args => Try.call73 ..) Try.func73 rfl (fun w0 m0 wz => ?_); simp only [Try.ntmps73, Try.results73, initT, junks, homeC, hallC, sl, List.toList_toArray, List.cons_append, List.nil_append, List.length_cons, List.length_nil, Nat.reduceAdd, Nat.reduceSub])
  (repeat' (first
 | refine awp_seqK ?_
 | refine kt ?_
 | refine And.intro ?_ ?_
 | ((first | refine awp_stp rfl ?_ | refine awp_draw (by kernel_rfl) (by kernel_rfl) ?_ | refine Imp.le2 ?_ | refine callK_of (within_c _ _ _) ?_ | refine go_split (fun _h => ?_) (fun _h => ?_)) <;> try simp (maxSteps := 4000000) only [go_sem, seval])
 | intro _h
 | refine awp_block ?_
 | refine awp_scope ?_
 | (show heapOK _ _ = true; kernel_rfl)
 | (show heapOK2 _ _ = true; kernel_rfl)
 | (omega)))
theorem home_c (t : Town) (n : Int) (hl : t.homes.length ≤ 1000000) : CallS Try.prog 65 [.agg (townC t), .int .i64 n] (.bool (decide (0 ≤ n ∧ n < t.homes.length))) := by
  (refine callS_of_awp (fun w args => Try.call65 ..) Try.func65 rfl (fun w0 m0 wz => ?_); simp only [Try.ntmps65, Try.results65, initT, junks, homeC, hallC, sl, List.toList_toArray, List.cons_append, List.nil_append, List.length_cons, List.length_nil, Nat.reduceAdd, Nat.reduceSub])
  simp only [townC, slH, slL]
  (repeat' (first
 | refine awp_seqK ?_
 | refine kt ?_
 | refine And.intro ?_ ?_
 | ((first | refine awp_stp rfl ?_ | refine awp_draw (by kernel_rfl) (by kernel_rfl) ?_ | refine Imp.le2 ?_ | refine callK_of (within_c _ _ _) ?_ | refine go_split (fun _h => ?_) (fun _h => ?_)) <;> try simp (maxSteps := 4000000) only [go_sem, seval])
 | intro _h
 | refine awp_block ?_
 | refine awp_scope ?_
 | (show heapOK _ _ = true; kernel_rfl)
 | (show heapOK2 _ _ = true; kernel_rfl)
 | (omega)))
end Go.Am

/- Contracts of the away functions: lists of which each element is right; a town that is valid. -/
namespace Go.Am
open Go.RowKit Go.Proofs
attribute [local irreducible] AWP CallS Kt goK CallK stepK evOps
set_option maxRecDepth 4000
set_option linter.unusedSimpArgs false
set_option linter.unusedVariables false
set_option maxHeartbeats 400000
/-- The place of the first one, or -1. -/
def idxOf {α : Type} (q : α → Bool) (l : List α) : Int := match l.findIdx? q with | some i => i | none => -1
theorem idxOf_some {α : Type} {q : α → Bool} {l : List α} {d : α} {i : Nat} (hi : i < l.length) (h : q (l.getD i d) = true) (hj : ∀ j, j < i → q (l.getD j d) = false) : (i : Int) = idxOf q l := by
  have : l.findIdx? q = some i := by
    rw [List.findIdx?_eq_some_iff_getElem]
    refine ⟨hi, by simpa [List.getD_eq_getElem?_getD, hi] using h, fun j hji => ?_⟩
    have := hj j hji
    simpa [List.getD_eq_getElem?_getD, Nat.lt_trans hji hi] using this
  simp [idxOf, this]
theorem idxOf_none {α : Type} {q : α → Bool} {l : List α} {d : α} (hj : ∀ j, j < l.length → q (l.getD j d) = false) : -1 = idxOf q l := by
  have : l.findIdx? q = none := by
    rw [List.findIdx?_eq_none_iff]
    intro x hx
    obtain ⟨j, hjl, rfl⟩ := List.mem_iff_getElem.1 hx
    have := hj j hjl
    simpa [List.getD_eq_getElem?_getD, hjl] using this
  simp [idxOf, this]
theorem idxOf_ge {α : Type} {q : α → Bool} {l : List α} : decide (0 ≤ idxOf q l) = l.any q := by
  unfold idxOf
  cases h : l.findIdx? q with
  | none =>
    rw [List.findIdx?_eq_none_iff] at h
    have : l.any q = false := by rw [List.any_eq_false]; intro x hx; simp [h x hx]
    simp [this]
  | some i =>
    rw [List.findIdx?_eq_some_iff_getElem] at h
    obtain ⟨h1, h2, _⟩ := h
    have : l.any q = true := by rw [List.any_eq_true]; exact ⟨_, List.getElem_mem h1, h2⟩
    simp [this]
theorem idx_int (l : List Int) (g : FuncId) (fv : AV) (q : Int → Bool) (hl : l.length ≤ 1000000) (hq : ∀ i, i < l.length → CallS Try.prog g [.int .i64 (l.getD i 0), .pptr [fv] 0] (.bool (q (l.getD i 0)))) :
    CallS Try.prog 104 [sl l, .fn (.func g) [] [.pptr [fv] 0]] (.int .i64 (idxOf q l)) := by
  (refine callS_of_awp (fun w args => Try.call104 ..) Try.func104 rfl (fun w0 m0 wz => ?_); simp only [Try.ntmps104, Try.results104, initT, junks, homeC, hallC, slH, slL, townC, sl, List.toList_toArray, List.cons_append, List.nil_append, List.length_cons, List.length_nil, Nat.reduceAdd, Nat.reduceSub])
  (repeat' (first
 | refine awp_seqK ?_
 | refine kt ?_
 | refine And.intro ?_ ?_
 | ((first | refine awp_stp rfl ?_ | refine awp_draw (by kernel_rfl) (by kernel_rfl) ?_ | refine Imp.le2 ?_ | refine go_split (fun _h => ?_) (fun _h => ?_)) <;> try simp (maxSteps := 4000000) only [go_sem, seval])
 | intro _h
 | refine awp_block ?_
 | refine awp_scope ?_
 | refine cond_b ?_ ?_
 | (show heapOK _ _ = true; kernel_rfl)
 | (show heapOK2 _ _ = true; kernel_rfl)
 | (omega)))
  refine awp_loopJ (fun i : Nat => i ≤ l.length ∧ ∀ j, j < i → q (l.getD j 0) = false) (fun i => ⟨mkT 19 [(0, sl l), (1, .fn (.func g) [] [.pptr [fv] 0]), (6, sl l), (7, .int .i64 l.length), (8, .int .i64 i)], [], []⟩) (fun i => l.length - i) 0 ⟨Nat.zero_le _, by simp⟩ (.le2 ?_) ?_
  · simp (maxSteps := 4000000) only [go_sem, seval]
  · rintro i ⟨hi, hj⟩
    simp (maxSteps := 4000000) only [go_sem, seval]
    have hqi := hq i
    (repeat' (first
 | refine awp_seqK ?_
 | refine kt ?_
 | refine And.intro ?_ ?_
 | ((first | refine awp_stp rfl ?_ | refine awp_draw (by kernel_rfl) (by kernel_rfl) ?_ | refine Imp.le2 ?_ | refine callK_of (hqi (by omega)) ?_ | refine go_split (fun _h => ?_) (fun _h => ?_)) <;> try simp (maxSteps := 4000000) only [go_sem, seval])
 | intro _h
 | refine awp_block ?_
 | refine awp_scope ?_
 | refine cond_b ?_ ?_
 | (show heapOK _ _ = true; kernel_rfl)
 | (show heapOK2 _ _ = true; kernel_rfl)
 | (omega)))
    · exact idxOf_some (by omega) ‹_› hj
    · refine ⟨i + 1, ⟨by omega, fun j hji => ?_⟩, by omega, .le2 ?_⟩
      · rcases Nat.lt_succ_iff_lt_or_eq.1 hji with h | rfl
        · exact hj j h
        · assumption
      · simp (maxSteps := 4000000) only [go_sem, seval]
        omega
    · exact idxOf_none (d := 0) (fun j hjl => hj j (by omega))
theorem idx_H (l : List Home) (g : FuncId) (fv : AV) (q : Home → Bool) (hl : l.length ≤ 1000000) (hq : ∀ i, i < l.length → CallS Try.prog g [.agg (homeC (l.getD i default)), .pptr [fv] 0] (.bool (q (l.getD i default)))) :
    CallS Try.prog 116 [slH l, .fn (.func g) [] [.pptr [fv] 0]] (.int .i64 (idxOf q l)) := by
  (refine callS_of_awp (fun w args => Try.call116 ..) Try.func116 rfl (fun w0 m0 wz => ?_); simp only [Try.ntmps116, Try.results116, initT, junks, homeC, hallC, slH, slL, townC, sl, List.toList_toArray, List.cons_append, List.nil_append, List.length_cons, List.length_nil, Nat.reduceAdd, Nat.reduceSub])
  (repeat' (first
 | refine awp_seqK ?_
 | refine kt ?_
 | refine And.intro ?_ ?_
 | ((first | refine awp_stp rfl ?_ | refine awp_draw (by kernel_rfl) (by kernel_rfl) ?_ | refine Imp.le2 ?_ | refine go_split (fun _h => ?_) (fun _h => ?_)) <;> try simp (maxSteps := 4000000) only [go_sem, seval])
 | intro _h
 | refine awp_block ?_
 | refine awp_scope ?_
 | refine cond_b ?_ ?_
 | (show heapOK _ _ = true; kernel_rfl)
 | (show heapOK2 _ _ = true; kernel_rfl)
 | (omega)))
  refine awp_loopJ (fun i : Nat => i ≤ l.length ∧ ∀ j, j < i → q (l.getD j default) = false) (fun i => ⟨mkT 19 [(0, slH l), (1, .fn (.func g) [] [.pptr [fv] 0]), (6, slH l), (7, .int .i64 l.length), (8, .int .i64 i)], [], []⟩) (fun i => l.length - i) 0 ⟨Nat.zero_le _, by simp⟩ (.le2 ?_) ?_
  · simp (maxSteps := 4000000) only [go_sem, seval]
  · rintro i ⟨hi, hj⟩
    simp (maxSteps := 4000000) only [go_sem, seval]
    have hqi := hq i
    simp only [homeC] at hqi
    (repeat' (first
 | refine awp_seqK ?_
 | refine kt ?_
 | refine And.intro ?_ ?_
 | ((first | refine awp_stp rfl ?_ | refine awp_draw (by kernel_rfl) (by kernel_rfl) ?_ | refine Imp.le2 ?_ | refine callK_of (hqi (by omega)) ?_ | refine go_split (fun _h => ?_) (fun _h => ?_)) <;> try simp (maxSteps := 4000000) only [go_sem, seval])
 | intro _h
 | refine awp_block ?_
 | refine awp_scope ?_
 | refine cond_b ?_ ?_
 | (show heapOK _ _ = true; kernel_rfl)
 | (show heapOK2 _ _ = true; kernel_rfl)
 | (omega)))
    · exact idxOf_some (by omega) ‹_› hj
    · refine ⟨i + 1, ⟨by omega, fun j hji => ?_⟩, by omega, .le2 ?_⟩
      · rcases Nat.lt_succ_iff_lt_or_eq.1 hji with h | rfl
        · exact hj j h
        · assumption
      · simp (maxSteps := 4000000) only [go_sem, seval]
        omega
    · exact idxOf_none (d := default) (fun j hjl => hj j (by omega))
theorem has_H (l : List Home) (g : FuncId) (fv : AV) (q : Home → Bool) (hl : l.length ≤ 1000000) (hq : ∀ i, i < l.length → CallS Try.prog g [.agg (homeC (l.getD i default)), .pptr [fv] 0] (.bool (q (l.getD i default)))) :
    CallS Try.prog 90 [slH l, .fn (.func g) [] [.pptr [fv] 0]] (.bool (l.any q)) := by
  rw [← idxOf_ge]
  have h := idx_H l g fv q hl hq
  simp only [slH] at h
  (refine callS_of_awp (fun w args => Try.call90 ..) Try.func90 rfl (fun w0 m0 wz => ?_); simp only [Try.ntmps90, Try.results90, initT, junks, homeC, hallC, slH, slL, townC, sl, List.toList_toArray, List.cons_append, List.nil_append, List.length_cons, List.length_nil, Nat.reduceAdd, Nat.reduceSub])
  (repeat' (first
 | refine awp_seqK ?_
 | refine kt ?_
 | refine And.intro ?_ ?_
 | ((first | refine awp_stp rfl ?_ | refine awp_draw (by kernel_rfl) (by kernel_rfl) ?_ | refine Imp.le2 ?_ | refine callK_of (h) ?_ | refine go_split (fun _h => ?_) (fun _h => ?_)) <;> try simp (maxSteps := 4000000) only [go_sem, seval])
 | intro _h
 | refine awp_block ?_
 | refine awp_scope ?_
 | refine cond_b ?_ ?_
 | (show heapOK _ _ = true; kernel_rfl)
 | (show heapOK2 _ _ = true; kernel_rfl)
 | (omega)))
theorem all1_H (n : Home) (f : FuncId) (q : Bool) (hq : CallS Try.prog f [.agg (homeC n)] (.bool q)) : CallS Try.prog 91 [.agg (homeC n), .pptr [.fn (.func f) [] []] 0] (.bool (!q)) := by
  simp only [homeC] at hq
  (refine callS_of_awp (fun w args => Try.call91 ..) Try.func91 rfl (fun w0 m0 wz => ?_); simp only [Try.ntmps91, Try.results91, initT, junks, homeC, hallC, slH, slL, townC, sl, List.toList_toArray, List.cons_append, List.nil_append, List.length_cons, List.length_nil, Nat.reduceAdd, Nat.reduceSub])
  (repeat' (first
 | refine awp_seqK ?_
 | refine kt ?_
 | refine And.intro ?_ ?_
 | ((first | refine awp_stp rfl ?_ | refine awp_draw (by kernel_rfl) (by kernel_rfl) ?_ | refine Imp.le2 ?_ | refine callK_of (hq) ?_ | refine go_split (fun _h => ?_) (fun _h => ?_)) <;> try simp (maxSteps := 4000000) only [go_sem, seval])
 | intro _h
 | refine awp_block ?_
 | refine awp_scope ?_
 | refine cond_b ?_ ?_
 | (show heapOK _ _ = true; kernel_rfl)
 | (show heapOK2 _ _ = true; kernel_rfl)
 | (omega))) <;> simp [*]
theorem all_H (l : List Home) (f : FuncId) (q : Home → Bool) (hl : l.length ≤ 1000000) (hq : ∀ i, i < l.length → CallS Try.prog f [.agg (homeC (l.getD i default))] (.bool (q (l.getD i default)))) :
    CallS Try.prog 70 [slH l, .fn (.func f) [] []] (.bool (l.all q)) := by
  have hany : l.all q = !l.any (fun x => !q x) := by simp [List.all_eq_not_any_not]
  rw [hany]
  have h := has_H l 91 (.fn (.func f) [] []) (fun x => !q x) hl (fun i hi => all1_H _ _ _ (hq i hi))
  simp only [slH] at h
  (refine callS_of_awp (fun w args => Try.call70 ..) Try.func70 rfl (fun w0 m0 wz => ?_); simp only [Try.ntmps70, Try.results70, initT, junks, homeC, hallC, slH, slL, townC, sl, List.toList_toArray, List.cons_append, List.nil_append, List.length_cons, List.length_nil, Nat.reduceAdd, Nat.reduceSub])
  ((repeat refine awp_seqK ?_); refine awp_region ?_; simp (maxSteps := 4000000) only [go_sem, seval]; refine kt ?_)
  (refine awp_frz 0 rfl (by simp (maxSteps := 4000000) only [go_sem, seval]) (fun _ => rfl) ?_; simp only [frz, fzl, fz2, fz1, fz0, fzH, fzHs, fzO, fzB, List.map_cons, List.map_nil, if_true, if_false, reduceIte, Nat.reduceEqDiff, Nat.reduceAdd, Nat.succ_ne_self, Nat.zero_ne_one, Nat.one_ne_zero, reduceCtorEq, and_self])
  (repeat' (first
 | refine awp_seqK ?_
 | refine kt ?_
 | refine And.intro ?_ ?_
 | ((first | refine awp_stp rfl ?_ | refine awp_draw (by kernel_rfl) (by kernel_rfl) ?_ | refine Imp.le2 ?_ | refine callK_of (h) ?_ | refine go_split (fun _h => ?_) (fun _h => ?_)) <;> try simp (maxSteps := 4000000) only [go_sem, seval])
 | intro _h
 | refine awp_block ?_
 | refine awp_scope ?_
 | refine cond_b ?_ ?_
 | (show heapOK _ _ = true; kernel_rfl)
 | (show heapOK2 _ _ = true; kernel_rfl)
 | (omega))) <;> simp only [*, Bool.not_true, Bool.not_false]
theorem idx_L (l : List Hall) (g : FuncId) (fv : AV) (q : Hall → Bool) (hl : l.length ≤ 1000000) (hq : ∀ i, i < l.length → CallS Try.prog g [.agg (hallC (l.getD i default)), .pptr [fv] 0] (.bool (q (l.getD i default)))) :
    CallS Try.prog 117 [slL l, .fn (.func g) [] [.pptr [fv] 0]] (.int .i64 (idxOf q l)) := by
  (refine callS_of_awp (fun w args => Try.call117 ..) Try.func117 rfl (fun w0 m0 wz => ?_); simp only [Try.ntmps117, Try.results117, initT, junks, homeC, hallC, slH, slL, townC, sl, List.toList_toArray, List.cons_append, List.nil_append, List.length_cons, List.length_nil, Nat.reduceAdd, Nat.reduceSub])
  (repeat' (first
 | refine awp_seqK ?_
 | refine kt ?_
 | refine And.intro ?_ ?_
 | ((first | refine awp_stp rfl ?_ | refine awp_draw (by kernel_rfl) (by kernel_rfl) ?_ | refine Imp.le2 ?_ | refine go_split (fun _h => ?_) (fun _h => ?_)) <;> try simp (maxSteps := 4000000) only [go_sem, seval])
 | intro _h
 | refine awp_block ?_
 | refine awp_scope ?_
 | refine cond_b ?_ ?_
 | (show heapOK _ _ = true; kernel_rfl)
 | (show heapOK2 _ _ = true; kernel_rfl)
 | (omega)))
  refine awp_loopJ (fun i : Nat => i ≤ l.length ∧ ∀ j, j < i → q (l.getD j default) = false) (fun i => ⟨mkT 19 [(0, slL l), (1, .fn (.func g) [] [.pptr [fv] 0]), (6, slL l), (7, .int .i64 l.length), (8, .int .i64 i)], [], []⟩) (fun i => l.length - i) 0 ⟨Nat.zero_le _, by simp⟩ (.le2 ?_) ?_
  · simp (maxSteps := 4000000) only [go_sem, seval]
  · rintro i ⟨hi, hj⟩
    simp (maxSteps := 4000000) only [go_sem, seval]
    have hqi := hq i
    simp only [hallC] at hqi
    (repeat' (first
 | refine awp_seqK ?_
 | refine kt ?_
 | refine And.intro ?_ ?_
 | ((first | refine awp_stp rfl ?_ | refine awp_draw (by kernel_rfl) (by kernel_rfl) ?_ | refine Imp.le2 ?_ | refine callK_of (hqi (by omega)) ?_ | refine go_split (fun _h => ?_) (fun _h => ?_)) <;> try simp (maxSteps := 4000000) only [go_sem, seval])
 | intro _h
 | refine awp_block ?_
 | refine awp_scope ?_
 | refine cond_b ?_ ?_
 | (show heapOK _ _ = true; kernel_rfl)
 | (show heapOK2 _ _ = true; kernel_rfl)
 | (omega)))
    · exact idxOf_some (by omega) ‹_› hj
    · refine ⟨i + 1, ⟨by omega, fun j hji => ?_⟩, by omega, .le2 ?_⟩
      · rcases Nat.lt_succ_iff_lt_or_eq.1 hji with h | rfl
        · exact hj j h
        · assumption
      · simp (maxSteps := 4000000) only [go_sem, seval]
        omega
    · exact idxOf_none (d := default) (fun j hjl => hj j (by omega))
theorem has_L (l : List Hall) (g : FuncId) (fv : AV) (q : Hall → Bool) (hl : l.length ≤ 1000000) (hq : ∀ i, i < l.length → CallS Try.prog g [.agg (hallC (l.getD i default)), .pptr [fv] 0] (.bool (q (l.getD i default)))) :
    CallS Try.prog 92 [slL l, .fn (.func g) [] [.pptr [fv] 0]] (.bool (l.any q)) := by
  rw [← idxOf_ge]
  have h := idx_L l g fv q hl hq
  simp only [slL] at h
  (refine callS_of_awp (fun w args => Try.call92 ..) Try.func92 rfl (fun w0 m0 wz => ?_); simp only [Try.ntmps92, Try.results92, initT, junks, homeC, hallC, slH, slL, townC, sl, List.toList_toArray, List.cons_append, List.nil_append, List.length_cons, List.length_nil, Nat.reduceAdd, Nat.reduceSub])
  (repeat' (first
 | refine awp_seqK ?_
 | refine kt ?_
 | refine And.intro ?_ ?_
 | ((first | refine awp_stp rfl ?_ | refine awp_draw (by kernel_rfl) (by kernel_rfl) ?_ | refine Imp.le2 ?_ | refine callK_of (h) ?_ | refine go_split (fun _h => ?_) (fun _h => ?_)) <;> try simp (maxSteps := 4000000) only [go_sem, seval])
 | intro _h
 | refine awp_block ?_
 | refine awp_scope ?_
 | refine cond_b ?_ ?_
 | (show heapOK _ _ = true; kernel_rfl)
 | (show heapOK2 _ _ = true; kernel_rfl)
 | (omega)))
theorem all1_L (n : Hall) (f : FuncId) (q : Bool) (hq : CallS Try.prog f [.agg (hallC n)] (.bool q)) : CallS Try.prog 93 [.agg (hallC n), .pptr [.fn (.func f) [] []] 0] (.bool (!q)) := by
  simp only [hallC] at hq
  (refine callS_of_awp (fun w args => Try.call93 ..) Try.func93 rfl (fun w0 m0 wz => ?_); simp only [Try.ntmps93, Try.results93, initT, junks, homeC, hallC, slH, slL, townC, sl, List.toList_toArray, List.cons_append, List.nil_append, List.length_cons, List.length_nil, Nat.reduceAdd, Nat.reduceSub])
  (repeat' (first
 | refine awp_seqK ?_
 | refine kt ?_
 | refine And.intro ?_ ?_
 | ((first | refine awp_stp rfl ?_ | refine awp_draw (by kernel_rfl) (by kernel_rfl) ?_ | refine Imp.le2 ?_ | refine callK_of (hq) ?_ | refine go_split (fun _h => ?_) (fun _h => ?_)) <;> try simp (maxSteps := 4000000) only [go_sem, seval])
 | intro _h
 | refine awp_block ?_
 | refine awp_scope ?_
 | refine cond_b ?_ ?_
 | (show heapOK _ _ = true; kernel_rfl)
 | (show heapOK2 _ _ = true; kernel_rfl)
 | (omega))) <;> simp [*]
theorem all_L (l : List Hall) (f : FuncId) (q : Hall → Bool) (hl : l.length ≤ 1000000) (hq : ∀ i, i < l.length → CallS Try.prog f [.agg (hallC (l.getD i default))] (.bool (q (l.getD i default)))) :
    CallS Try.prog 72 [slL l, .fn (.func f) [] []] (.bool (l.all q)) := by
  have hany : l.all q = !l.any (fun x => !q x) := by simp [List.all_eq_not_any_not]
  rw [hany]
  have h := has_L l 93 (.fn (.func f) [] []) (fun x => !q x) hl (fun i hi => all1_L _ _ _ (hq i hi))
  simp only [slL] at h
  (refine callS_of_awp (fun w args => Try.call72 ..) Try.func72 rfl (fun w0 m0 wz => ?_); simp only [Try.ntmps72, Try.results72, initT, junks, homeC, hallC, slH, slL, townC, sl, List.toList_toArray, List.cons_append, List.nil_append, List.length_cons, List.length_nil, Nat.reduceAdd, Nat.reduceSub])
  ((repeat refine awp_seqK ?_); refine awp_region ?_; simp (maxSteps := 4000000) only [go_sem, seval]; refine kt ?_)
  (refine awp_frz 0 rfl (by simp (maxSteps := 4000000) only [go_sem, seval]) (fun _ => rfl) ?_; simp only [frz, fzl, fz2, fz1, fz0, fzH, fzHs, fzO, fzB, List.map_cons, List.map_nil, if_true, if_false, reduceIte, Nat.reduceEqDiff, Nat.reduceAdd, Nat.succ_ne_self, Nat.zero_ne_one, Nat.one_ne_zero, reduceCtorEq, and_self])
  (repeat' (first
 | refine awp_seqK ?_
 | refine kt ?_
 | refine And.intro ?_ ?_
 | ((first | refine awp_stp rfl ?_ | refine awp_draw (by kernel_rfl) (by kernel_rfl) ?_ | refine Imp.le2 ?_ | refine callK_of (h) ?_ | refine go_split (fun _h => ?_) (fun _h => ?_)) <;> try simp (maxSteps := 4000000) only [go_sem, seval])
 | intro _h
 | refine awp_block ?_
 | refine awp_scope ?_
 | refine cond_b ?_ ?_
 | (show heapOK _ _ = true; kernel_rfl)
 | (show heapOK2 _ _ = true; kernel_rfl)
 | (omega))) <;> simp only [*, Bool.not_true, Bool.not_false]
theorem allA_home (t : Town) (x : Int) (q : Bool) (hq : CallS Try.prog 65 [.agg (townC t), .int .i64 x] (.bool q)) : SemF Try.prog 86 [.int .i64 x, .ptr 0 0 0] [some (.cells 114 1 0 [.fn (.func 65) [.agg (townC t)] []])] (.bool (!q)) [some (.cells 114 1 0 [.fn (.func 65) [.agg (townC t)] []])] := by
  simp only [townC, slH, slL]
  (refine semF_of_awp (ys := [.bool (!q)]) (fun w args => Try.call86 ..) Try.func86 rfl (fun w0 m0 wz => ?_); simp only [Try.ntmps86, Try.results86, initT, junks, homeC, hallC, slH, slL, townC, sl, List.toList_toArray, List.cons_append, List.nil_append, List.length_cons, List.length_nil, Nat.reduceAdd, Nat.reduceSub])
  (repeat' (first
 | refine awp_seqK ?_
 | refine kt ?_
 | refine And.intro ?_ ?_
 | ((first | refine awp_stp rfl ?_ | refine awp_draw (by kernel_rfl) (by kernel_rfl) ?_ | refine Imp.le2 ?_ | refine callK_of (hq) ?_ | refine go_split (fun _h => ?_) (fun _h => ?_)) <;> try simp (maxSteps := 4000000) only [go_sem, seval])
 | intro _h
 | refine awp_block ?_
 | refine awp_scope ?_
 | refine cond_b ?_ ?_
 | (show heapOK _ _ = true; kernel_rfl)
 | (show heapOK2 _ _ = true; kernel_rfl)
 | (omega))) <;> simp [*]
theorem idxA_home (t : Town) (l : List Int) (q : Int → Bool) (hl : l.length ≤ 1000000) (hq : ∀ i, i < l.length → SemF Try.prog 86 [.int .i64 (l.getD i 0), .ptr 0 0 0] [some (.cells 114 1 0 [.fn (.func 65) [.agg (townC t)] []])] (.bool (q (l.getD i 0))) [some (.cells 114 1 0 [.fn (.func 65) [.agg (townC t)] []])]) :
    SemF Try.prog 104 [sl l, .fn (.func 86) [] [.ptr 0 0 0]] [some (.cells 114 1 0 [.fn (.func 65) [.agg (townC t)] []])] (.int .i64 (idxOf q l)) [some (.cells 114 1 0 [.fn (.func 65) [.agg (townC t)] []])] := by
  simp only [townC, slH, slL]
  simp only [townC, slH, slL] at hq
  (refine semF_of_awp (ys := [.int .i64 (idxOf q l)]) (fun w args => Try.call104 ..) Try.func104 rfl (fun w0 m0 wz => ?_); simp only [Try.ntmps104, Try.results104, initT, junks, homeC, hallC, slH, slL, townC, sl, List.toList_toArray, List.cons_append, List.nil_append, List.length_cons, List.length_nil, Nat.reduceAdd, Nat.reduceSub])
  (repeat' (first
 | refine awp_seqK ?_
 | refine kt ?_
 | refine And.intro ?_ ?_
 | ((first | refine awp_stp rfl ?_ | refine awp_draw (by kernel_rfl) (by kernel_rfl) ?_ | refine Imp.le2 ?_ | refine go_split (fun _h => ?_) (fun _h => ?_)) <;> try simp (maxSteps := 4000000) only [go_sem, seval])
 | intro _h
 | refine awp_block ?_
 | refine awp_scope ?_
 | refine cond_b ?_ ?_
 | (show heapOK _ _ = true; kernel_rfl)
 | (show heapOK2 _ _ = true; kernel_rfl)
 | (omega)))
  refine awp_loopJ (fun i : Nat => i ≤ l.length ∧ ∀ j, j < i → q (l.getD j 0) = false) (fun i => ⟨mkT 19 [(0, sl l), (1, .fn (.func 86) [] [.ptr 0 0 0]), (6, sl l), (7, .int .i64 l.length), (8, .int .i64 i)], [some (.cells 114 1 0 [.fn (.func 65) [.agg (townC t)] []])], []⟩) (fun i => l.length - i) 0 ⟨Nat.zero_le _, by simp⟩ (.le2 ?_) ?_
  · simp (maxSteps := 4000000) only [go_sem, seval]
  · rintro i ⟨hi, hj⟩
    simp (maxSteps := 4000000) only [go_sem, seval]
    have hqi := hq i
    (repeat' (first
 | (refine awp_ownN 5 rfl ?_; simp (maxSteps := 4000000) only [go_sem, seval, List.take_succ_cons, List.take_zero]; (repeat refine And.intro (by omega) ?_); refine own_go (hqi (by omega)) [0] rfl ?_ ?_ rfl ?_ <;> try simp (maxSteps := 4000000) only [go_sem, seval, Nat.lt_irrefl] <;> try decide)
 | refine awp_seqK ?_
 | refine kt ?_
 | refine And.intro ?_ ?_
 | ((first | refine awp_stp rfl ?_ | refine awp_draw (by kernel_rfl) (by kernel_rfl) ?_ | refine Imp.le2 ?_ | refine go_split (fun _h => ?_) (fun _h => ?_)) <;> try simp (maxSteps := 4000000) only [go_sem, seval])
 | intro _h
 | refine awp_block ?_
 | refine awp_scope ?_
 | refine cond_b ?_ ?_
 | (show heapOK _ _ = true; kernel_rfl)
 | (show heapOK2 _ _ = true; kernel_rfl)
 | (omega)))
    · exact idxOf_some (by omega) ‹_› hj
    · refine ⟨i + 1, ⟨by omega, fun j hji => ?_⟩, by omega, .le2 ?_⟩
      · rcases Nat.lt_succ_iff_lt_or_eq.1 hji with h | rfl
        · exact hj j h
        · assumption
      · simp (maxSteps := 4000000) only [go_sem, seval]
        omega
    · exact idxOf_none (d := 0) (fun j hjl => hj j (by omega))
theorem hasA_home (t : Town) (l : List Int) (q : Int → Bool) (hl : l.length ≤ 1000000) (hq : ∀ i, i < l.length → SemF Try.prog 86 [.int .i64 (l.getD i 0), .ptr 0 0 0] [some (.cells 114 1 0 [.fn (.func 65) [.agg (townC t)] []])] (.bool (q (l.getD i 0))) [some (.cells 114 1 0 [.fn (.func 65) [.agg (townC t)] []])]) :
    SemF Try.prog 85 [sl l, .fn (.func 86) [] [.ptr 0 0 0]] [some (.cells 114 1 0 [.fn (.func 65) [.agg (townC t)] []])] (.bool (l.any q)) [some (.cells 114 1 0 [.fn (.func 65) [.agg (townC t)] []])] := by
  have h := idxA_home (hq := hq) (hl := hl)
  rw [← idxOf_ge]
  simp only [townC, slH, slL]
  simp only [sl, townC, slH, slL] at h
  (refine semF_of_awp (ys := [.bool (decide (0 ≤ idxOf q l))]) (fun w args => Try.call85 ..) Try.func85 rfl (fun w0 m0 wz => ?_); simp only [Try.ntmps85, Try.results85, initT, junks, homeC, hallC, slH, slL, townC, sl, List.toList_toArray, List.cons_append, List.nil_append, List.length_cons, List.length_nil, Nat.reduceAdd, Nat.reduceSub])
  (repeat' (first
 | (refine awp_ownN 2 rfl ?_; simp (maxSteps := 4000000) only [go_sem, seval, List.take_succ_cons, List.take_zero]; (repeat refine And.intro (by omega) ?_); refine own_go (h) [0] rfl ?_ ?_ rfl ?_ <;> try simp (maxSteps := 4000000) only [go_sem, seval, Nat.lt_irrefl] <;> try decide)
 | refine awp_seqK ?_
 | refine kt ?_
 | refine And.intro ?_ ?_
 | ((first | refine awp_stp rfl ?_ | refine awp_draw (by kernel_rfl) (by kernel_rfl) ?_ | refine Imp.le2 ?_ | refine go_split (fun _h => ?_) (fun _h => ?_)) <;> try simp (maxSteps := 4000000) only [go_sem, seval])
 | intro _h
 | refine awp_block ?_
 | refine awp_scope ?_
 | refine cond_b ?_ ?_
 | (show heapOK _ _ = true; kernel_rfl)
 | (show heapOK2 _ _ = true; kernel_rfl)
 | (omega))) <;> simp [*]
theorem allB_home (t : Town) (l : List Int) (q : Int → Bool) (hl : l.length ≤ 1000000) (hq : ∀ i, i < l.length → CallS Try.prog 65 [.agg (townC t), .int .i64 (l.getD i 0)] (.bool (q (l.getD i 0)))) :
    SemF Try.prog 60 [sl l, .fn (.func 65) [.agg (townC t)] []] [] (.bool (l.all q)) [] := by
  have hany : l.all q = !l.any (fun x => !q x) := by simp [List.all_eq_not_any_not]
  rw [hany]
  have h := hasA_home (l := l) (q := fun x => !q x) (hl := hl) (hq := fun i hi => allA_home (x := l.getD i 0) (q := q (l.getD i 0)) (hq := hq i hi))
  simp only [sl, townC, slH, slL] at h ⊢
  (refine semF_of_awp (ys := [.bool (!l.any (fun x => !q x))]) (fun w args => Try.call60 ..) Try.func60 rfl (fun w0 m0 wz => ?_); simp only [Try.ntmps60, Try.results60, initT, junks, homeC, hallC, slH, slL, townC, sl, List.toList_toArray, List.cons_append, List.nil_append, List.length_cons, List.length_nil, Nat.reduceAdd, Nat.reduceSub])
  (repeat' (first
 | (refine awp_ownN 2 rfl ?_; simp (maxSteps := 4000000) only [go_sem, seval, List.take_succ_cons, List.take_zero]; (repeat refine And.intro (by omega) ?_); refine own_go (h) [0] rfl ?_ ?_ rfl ?_ <;> try simp (maxSteps := 4000000) only [go_sem, seval, Nat.lt_irrefl] <;> try decide)
 | refine awp_seqK ?_
 | refine kt ?_
 | refine And.intro ?_ ?_
 | ((first | refine awp_stp rfl ?_ | refine awp_draw (by kernel_rfl) (by kernel_rfl) ?_ | refine Imp.le2 ?_ | refine go_split (fun _h => ?_) (fun _h => ?_)) <;> try simp (maxSteps := 4000000) only [go_sem, seval])
 | intro _h
 | refine awp_block ?_
 | refine awp_scope ?_
 | refine cond_b ?_ ?_
 | (show heapOK _ _ = true; kernel_rfl)
 | (show heapOK2 _ _ = true; kernel_rfl)
 | (omega))) <;> simp only [*, Bool.not_true, Bool.not_false]
/-- The error of a town. -/
def faultT (t : Town) : Int :=
  if 8 < t.homes.length ∨ 3 < t.halls.length then 3
  else if (t.homes.length = 0 ∨ ¬ (1 ≤ t.seats ∧ t.seats ≤ 200)) ∨ ¬ (0 ≤ t.clo ∧ t.clo ≤ t.chi ∧ t.chi ≤ 60) ∨ t.homes.all homeB = false ∨ t.halls.all hallB = false then 1 else 0
def townOK (t : Town) : Prop := t.homes.length ≤ 1000000 ∧ t.halls.length ≤ 1000000
theorem check_c (t : Town) (ht : townOK t) : CallS Try.prog 49 [.agg (townC t)] (.int .i64 (faultT t)) := by
  have h1 := all_H t.homes 71 homeB ht.1 (fun i hi => homeV_c _)
  have h2 := all_L t.halls 73 hallB ht.2 (fun i hi => hallV_c _)
  obtain ⟨hl1, hl2⟩ := ht
  simp only [slH, slL] at h1 h2
  unfold faultT
  simp only [townC, slH, slL]
  (refine callS_of_awp (fun w args => Try.call49 ..) Try.func49 rfl (fun w0 m0 wz => ?_); simp only [Try.ntmps49, Try.results49, initT, junks, homeC, hallC, slH, slL, townC, sl, List.toList_toArray, List.cons_append, List.nil_append, List.length_cons, List.length_nil, Nat.reduceAdd, Nat.reduceSub])
  (repeat' (first
 | refine awp_seqK ?_
 | refine kt ?_
 | refine And.intro ?_ ?_
 | ((first | refine awp_stp rfl ?_ | refine awp_draw (by kernel_rfl) (by kernel_rfl) ?_ | refine Imp.le2 ?_ | refine callK_of (within_c _ _ _) ?_ | refine callK_of (upto_c _ _ _) ?_ | refine callK_of (h1) ?_ | refine callK_of (h2) ?_ | refine go_split (fun _h => ?_) (fun _h => ?_)) <;> try simp (maxSteps := 4000000) only [go_sem, seval])
 | intro _h
 | refine awp_block ?_
 | refine awp_scope ?_
 | refine cond_b ?_ ?_
 | (show heapOK _ _ = true; kernel_rfl)
 | (show heapOK2 _ _ = true; kernel_rfl)
 | (omega)))
  all_goals first
    | (rw [if_pos (by omega)])
    | (rw [if_neg (by omega), if_pos (by first | (left; omega) | (right; left; omega) | (right; right; left; assumption) | (right; right; right; assumption))])
    | (rw [if_neg (by omega), if_neg (by rintro (h | h | h | h) <;> first | omega | (simp only [*, reduceCtorEq] at h))])
end Go.Am

/- Contracts of the away functions: the latest minutes, by when; the reference of them; the town for the program. -/
namespace Go.Am
open Go.RowKit Go.Proofs
attribute [local irreducible] AWP CallS Kt goK CallK stepK evOps SemF SemY Imp
set_option maxRecDepth 4000
set_option linter.unusedSimpArgs false
set_option linter.unusedVariables false
set_option maxHeartbeats 800000
/-- Bits of one that another one has not. -/
def andn (a b : Int) : Int := IntKind.u8.wrap (BitVec.ofInt IntKind.u8.bits a &&& ~~~ BitVec.ofInt IntKind.u8.bits b).toNat
theorem bin_andn {P : Program} {t : TypeId} {a b : Int} {K : AV → Prop} : binK P .andNot t (.int .u8 a) (.int .u8 b) K = K (.int .u8 (andn a b)) := by simp [binK, binInt, bits, andn]
attribute [go_sem] bin_andn
theorem ld_H45 {l : List Home} {i : Nat} {K : AV → Prop} : loadK Try.prog 45 (recs homeC l) (i * 6) K = (i < l.length ∧ K (.agg (homeC (l.getD i default)))) := ld_recs tagg45 tsz45 (fun _ => rfl) (by omega)
theorem ld_L56 {l : List Hall} {i : Nat} {K : AV → Prop} : loadK Try.prog 56 (recs hallC l) (i * 3) K = (i < l.length ∧ K (.agg (hallC (l.getD i default)))) := ld_recs tagg56 tsz56 (fun _ => rfl) (by omega)
attribute [go_sem ↓] ld_H45 ld_L56
structure HomeOK (h : Home) : Prop where
  people : 1 ≤ h.people ∧ h.people ≤ 200
  prep : 0 ≤ h.lo ∧ h.lo ≤ h.hi ∧ h.hi ≤ 1000
  walk : 0 ≤ h.walk ∧ h.walk ≤ 1000
  gone : 0 ≤ h.gone ∧ h.gone ≤ 10000
structure HallOK (l : Hall) : Prop where
  room : 0 ≤ l.room ∧ l.room ≤ 2000
  drive : 0 ≤ l.drive ∧ l.drive ≤ 1000
theorem homeB_ok {h : Home} (e : homeB h = true) : HomeOK h := by
  have := of_decide_eq_true e
  exact ⟨this.1, this.2.1, this.2.2.1, this.2.2.2⟩
theorem hallB_ok {h : Hall} (e : hallB h = true) : HallOK h := by
  have := of_decide_eq_true e
  exact ⟨this.1, this.2⟩
structure TownOK (t : Town) : Prop where
  homes : 1 ≤ t.homes.length ∧ t.homes.length ≤ 8
  halls : t.halls.length ≤ 3
  seats : 1 ≤ t.seats ∧ t.seats ≤ 200
  call : 0 ≤ t.clo ∧ t.clo ≤ t.chi ∧ t.chi ≤ 60
  home : ∀ i, i < t.homes.length → HomeOK (t.homes.getD i default)
  hall : ∀ i, i < t.halls.length → HallOK (t.halls.getD i default)
theorem faultT_zero {t : Town} (h : faultT t = 0) : TownOK t := by
  unfold faultT at h
  split at h
  · omega
  · split at h
    · omega
    · rename_i h1 h2
      simp only [not_or, Bool.not_eq_false, Classical.not_not] at h2
      obtain ⟨⟨a, b⟩, c, d, e⟩ := h2
      refine ⟨by omega, by omega, b, c, fun i hi => homeB_ok ?_, fun i hi => hallB_ok ?_⟩
      · rw [List.all_eq_true] at d
        rw [List.getD_eq_getElem?_getD, List.getElem?_eq_getElem hi]
        exact d _ (List.getElem_mem hi)
      · rw [List.all_eq_true] at e
        rw [List.getD_eq_getElem?_getD, List.getElem?_eq_getElem hi]
        exact e _ (List.getElem_mem hi)
theorem TownOK.ok {t : Town} (h : TownOK t) : townOK t := ⟨by have := h.homes; omega, by have := h.halls; omega⟩
def worstN (t : Town) (h : Home) : Int := t.homes.length * t.chi + h.hi + h.walk
def worstL (t : Town) : List Int := t.homes.map (worstN t)
theorem worstL_length {t : Town} : (worstL t).length = t.homes.length := by simp [worstL]
theorem take_snoc {α : Type} {l : List α} {d : α} {k : Nat} (h : k < l.length) : l.take (k + 1) = l.take k ++ [l.getD k d] := by
  rw [List.take_succ_eq_append_getElem h]; simp [List.getD_eq_getElem?_getD, h]
theorem mul_bd {a b A B : Int} (h1 : 0 ≤ a) (h2 : a ≤ A) (h3 : 0 ≤ b) (h4 : b ≤ B) : 0 ≤ a * b ∧ a * b ≤ A * B :=
  ⟨Int.mul_nonneg h1 h3, Int.mul_le_mul h2 h4 h3 (by omega)⟩
theorem worst_c (t : Town) (ht : TownOK t) : CallS Try.prog 56 [.agg (townC t)] (sl (worstL t)) := by
  obtain ⟨hh1, hh2⟩ := ht.homes
  have hc := ht.call
  have hm := mul_bd (a := t.homes.length) (A := 8) (b := t.chi) (B := 60) (by omega) (by omega) (by omega) (by omega)
  (refine callS_of_awp (fun w args => Try.call56 ..) Try.func56 rfl (fun w0 m0 wz => ?_); simp only [Try.ntmps56, Try.results56, initT, junks, homeC, hallC, slH, slL, townC, sl, List.toList_toArray, List.cons_append, List.nil_append, List.length_cons, List.length_nil, Nat.reduceAdd, Nat.reduceSub])
  (repeat' (first
 | refine awp_seqK ?_
 | refine kt ?_
 | refine And.intro ?_ ?_
 | ((first | refine awp_stp rfl ?_ | refine awp_draw (by kernel_rfl) (by kernel_rfl) ?_ | refine Imp.le2 ?_ | refine go_split (fun _h => ?_) (fun _h => ?_)) <;> try simp (maxSteps := 4000000) only [go_sem, seval])
 | intro _h
 | refine awp_block ?_
 | refine awp_scope ?_
 | refine cond_b ?_ ?_
 | (show heapOK _ _ = true; kernel_rfl)
 | (show heapOK2 _ _ = true; kernel_rfl)
 | (omega)))
  (refine awp_adT 2 3 1 rfl ?_; simp only [adT, lset, hset, List.length_cons, List.length_nil, Nat.reduceAdd])
  refine awp_loopN t.homes.length (fun k => ⟨mkT 31 [(1, .ptr 0 0 0), (2, .osl 1 k 0 k), (6, slH t.homes), (7, .int .i64 t.homes.length), (8, .int .i64 k)], [some (.cells 40 1 0 (townC t)), some (.cells 3 1 k (ints ((worstL t).take k)))], []⟩) (.le2 ?_) ?_
  · simp only [townC, slH, slL]; simp (maxSteps := 4000000) only [go_sem, seval]
    rfl
  · intro k hk
    have hlt : ((worstL t).take k).length = k := by simp [worstL_length]; omega
    have hho := ht.home k
    have hsn : k < t.homes.length → ints ((worstL t).take k) ++ [.int .i64 (t.homes.length * t.chi + (t.homes.getD k default).hi + (t.homes.getD k default).walk)] = ints ((worstL t).take (k + 1)) := fun h => by
      rw [take_snoc (d := 0) (by rw [worstL_length]; exact h), ints_append]
      simp [worstL, ints, worstN, List.getD_eq_getElem?_getD, h]
    simp only [townC, slH, slL]; simp (maxSteps := 4000000) only [go_sem, seval, hlt]
    by_cases hk1 : k < t.homes.length
    · obtain ⟨_, hp, hw, _⟩ := hho hk1
      have hs1 := hsn hk1
      (repeat' (first
 | ((omega))
 | refine awp_seqK ?_
 | refine kt ?_
 | refine And.intro ?_ ?_
 | ((first | refine awp_stp rfl ?_ | refine awp_draw (by kernel_rfl) (by kernel_rfl) ?_ | refine Imp.le2 ?_ | refine go_split (fun _h => ?_) (fun _h => ?_)) <;> try simp (maxSteps := 4000000) only [go_sem, seval, hlt, hs1])
 | intro _h
 | refine awp_block ?_
 | refine awp_scope ?_
 | refine cond_b ?_ ?_
 | (show heapOK _ _ = true; kernel_rfl)
 | (show heapOK2 _ _ = true; kernel_rfl)
 | (omega)))
    · have : k = t.homes.length := by omega
      subst this
      (repeat' (first
 | ((omega))
 | refine awp_seqK ?_
 | refine kt ?_
 | refine And.intro ?_ ?_
 | ((first | refine awp_stp rfl ?_ | refine awp_draw (by kernel_rfl) (by kernel_rfl) ?_ | refine Imp.le2 ?_ | refine go_split (fun _h => ?_) (fun _h => ?_)) <;> try simp (maxSteps := 4000000) only [go_sem, seval, hlt])
 | intro _h
 | refine awp_block ?_
 | refine awp_scope ?_
 | refine cond_b ?_ ?_
 | (show heapOK _ _ = true; kernel_rfl)
 | (show heapOK2 _ _ = true; kernel_rfl)
 | (omega)))
      all_goals simp [worstL_length, List.take_of_length_le]
theorem taken_c (h : Home) (l : Hall) : CallS Try.prog 103 [.agg (homeC h), .agg (hallC l)] (.bool (decide (andn h.pets l.pets = 0))) := by
  (refine callS_of_awp (fun w args => Try.call103 ..) Try.func103 rfl (fun w0 m0 wz => ?_); simp only [Try.ntmps103, Try.results103, initT, junks, homeC, hallC, slH, slL, townC, sl, List.toList_toArray, List.cons_append, List.nil_append, List.length_cons, List.length_nil, Nat.reduceAdd, Nat.reduceSub])
  (repeat' (first
 | refine awp_seqK ?_
 | refine kt ?_
 | refine And.intro ?_ ?_
 | ((first | refine awp_stp rfl ?_ | refine awp_draw (by kernel_rfl) (by kernel_rfl) ?_ | refine Imp.le2 ?_ | refine go_split (fun _h => ?_) (fun _h => ?_)) <;> try simp (maxSteps := 4000000) only [go_sem, seval])
 | intro _h
 | refine awp_block ?_
 | refine awp_scope ?_
 | refine cond_b ?_ ?_
 | (show heapOK _ _ = true; kernel_rfl)
 | (show heapOK2 _ _ = true; kernel_rfl)
 | (omega)))
/-- A hall that a home may go to. -/
def fitB (h : Home) (l : Hall) : Prop := andn h.pets l.pets = 0 ∧ h.people ≤ l.room
instance (h : Home) (l : Hall) : Decidable (fitB h l) := inferInstanceAs (Decidable (_ ∧ _))
end Go.Am

/- Contracts of the away functions: what the statements use of the reference; the town for the program. -/
namespace Go.Am
open Go.RowKit Go.Proofs
attribute [local irreducible] AWP CallS Kt goK CallK stepK evOps SemF SemY Imp
set_option maxRecDepth 4000
set_option linter.unusedSimpArgs false
set_option linter.unusedVariables false
set_option maxHeartbeats 800000
theorem list_c (l : List Int) (hl : l.length ≤ 1000000) : CallS Try.prog 32 [sl l] (sl l) := by
  (refine callS_of_awp (fun w args => Try.call32 ..) Try.func32 rfl (fun w0 m0 wz => ?_); simp only [Try.ntmps32, Try.results32, initT, junks, homeC, hallC, slH, slL, townC, sl, List.toList_toArray, List.cons_append, List.nil_append, List.length_cons, List.length_nil, Nat.reduceAdd, Nat.reduceSub])
  (repeat' (first
 | refine awp_seqK ?_
 | refine kt ?_
 | refine And.intro ?_ ?_
 | ((first | refine awp_stp rfl ?_ | refine awp_draw (by kernel_rfl) (by kernel_rfl) ?_ | refine Imp.le2 ?_ | refine go_split (fun _h => ?_) (fun _h => ?_)) <;> try simp (maxSteps := 4000000) only [go_sem, seval])
 | intro _h
 | refine awp_block ?_
 | refine awp_scope ?_
 | refine cond_b ?_ ?_
 | (show heapOK _ _ = true; kernel_rfl)
 | (show heapOK2 _ _ = true; kernel_rfl)
 | (omega)))
theorem ints_c (l l' : List Int) (hl : l.length ≤ 9223372036854775807) : CallS Try.prog 34 [sl l, sl l'] (.bool (decide (l = l'))) := by
  have hyes : l.length = l'.length → (∀ j, j < l.length → l.getD j 0 = l'.getD j 0) → true = decide (l = l') := fun a b => by
    refine (decide_eq_true ?_).symm
    apply List.ext_getElem a
    intro i h1 h2
    have := b i h1
    simpa [List.getD_eq_getElem?_getD, h1, h2] using this
  have hno : (l = l' → False) → false = decide (l = l') := fun a => (decide_eq_false a).symm
  generalize decide (l = l') = r at *
  (refine callS_of_awp (fun w args => Try.call34 ..) Try.func34 rfl (fun w0 m0 wz => ?_); simp only [Try.ntmps34, Try.results34, initT, junks, homeC, hallC, slH, slL, townC, sl, List.toList_toArray, List.cons_append, List.nil_append, List.length_cons, List.length_nil, Nat.reduceAdd, Nat.reduceSub])
  (repeat' (first
 | refine awp_seqK ?_
 | refine kt ?_
 | refine And.intro ?_ ?_
 | ((first | refine awp_stp rfl ?_ | refine awp_draw (by kernel_rfl) (by kernel_rfl) ?_ | refine Imp.le2 ?_ | refine go_split (fun _h => ?_) (fun _h => ?_)) <;> try simp (maxSteps := 4000000) only [go_sem, seval])
 | intro _h
 | refine awp_block ?_
 | refine awp_scope ?_
 | refine cond_b ?_ ?_
 | (show heapOK _ _ = true; kernel_rfl)
 | (show heapOK2 _ _ = true; kernel_rfl)
 | (omega)))
  all_goals first
    | exact hno (fun h => by subst h; contradiction)
    | exact (hno (fun h => by subst h; contradiction)).symm
    | skip
  refine awp_loopJ (fun i : Nat => i ≤ l.length ∧ ∀ j, j < i → l.getD j 0 = l'.getD j 0) (fun i => ⟨mkT 26 [(0, sl l), (1, sl l'), (5, .int .i64 i)], [], []⟩) (fun i => l.length - i) 0 ⟨Nat.zero_le _, by simp⟩ (.le2 ?_) ?_
  · simp (maxSteps := 4000000) only [go_sem, seval]
  · rintro i ⟨hi, hj⟩
    simp (maxSteps := 4000000) only [go_sem, seval]
    (repeat' (first
 | refine awp_seqK ?_
 | refine kt ?_
 | refine And.intro ?_ ?_
 | ((first | refine awp_stp rfl ?_ | refine awp_draw (by kernel_rfl) (by kernel_rfl) ?_ | refine Imp.le2 ?_ | refine go_split (fun _h => ?_) (fun _h => ?_)) <;> try simp (maxSteps := 4000000) only [go_sem, seval])
 | intro _h
 | refine awp_block ?_
 | refine awp_scope ?_
 | refine cond_b ?_ ?_
 | (show heapOK _ _ = true; kernel_rfl)
 | (show heapOK2 _ _ = true; kernel_rfl)
 | (omega)))
    all_goals first
      | (refine ⟨i + 1, ⟨by omega, fun j hji => ?_⟩, by omega, .le2 ?_⟩
         · rcases Nat.lt_succ_iff_lt_or_eq.1 hji with h | rfl
           · exact hj j h
           · assumption
         · simp (maxSteps := 4000000) only [go_sem, seval] <;> omega)
      | exact (hno (fun h => by subst h; contradiction)).symm
      | exact (hyes (by omega) (fun j h => hj j (by omega))).symm
      | exact (hno (fun h => by subst h; contradiction))
      | exact (hyes (by omega) (fun j h => hj j (by omega)))
      | trace_state
def thinB (t : Town) : Bool := decide (t.homes.length ≤ 12 ∧ t.halls.length ≤ 6)
theorem thin_c (t : Town) : CallS Try.prog 30 [.agg (townC t)] (.bool (thinB t)) := by
  unfold thinB
  (refine callS_of_awp (fun w args => Try.call30 ..) Try.func30 rfl (fun w0 m0 wz => ?_); simp only [Try.ntmps30, Try.results30, initT, junks, homeC, hallC, slH, slL, townC, sl, List.toList_toArray, List.cons_append, List.nil_append, List.length_cons, List.length_nil, Nat.reduceAdd, Nat.reduceSub])
  (repeat' (first
 | refine awp_seqK ?_
 | refine kt ?_
 | refine And.intro ?_ ?_
 | ((first | refine awp_stp rfl ?_ | refine awp_draw (by kernel_rfl) (by kernel_rfl) ?_ | refine Imp.le2 ?_ | refine go_split (fun _h => ?_) (fun _h => ?_)) <;> try simp (maxSteps := 4000000) only [go_sem, seval])
 | intro _h
 | refine awp_block ?_
 | refine awp_scope ?_
 | refine cond_b ?_ ?_
 | (show heapOK _ _ = true; kernel_rfl)
 | (show heapOK2 _ _ = true; kernel_rfl)
 | (omega)))
  all_goals (simp only [eq_comm, decide_eq_true_eq, decide_eq_false_iff_not]; omega)
theorem to_c (lo hi : Int) : CallS Try.prog 54 [.agg [.int .i64 lo, .int .i64 hi]] (.agg [.int .i64 lo, .int .i64 hi]) := by
  (refine callS_of_awp (fun w args => Try.call54 ..) Try.func54 rfl (fun w0 m0 wz => ?_); simp only [Try.ntmps54, Try.results54, initT, junks, homeC, hallC, slH, slL, townC, sl, List.toList_toArray, List.cons_append, List.nil_append, List.length_cons, List.length_nil, Nat.reduceAdd, Nat.reduceSub])
  (repeat' (first
 | refine awp_seqK ?_
 | refine kt ?_
 | refine And.intro ?_ ?_
 | ((first | refine awp_stp rfl ?_ | refine awp_draw (by kernel_rfl) (by kernel_rfl) ?_ | refine Imp.le2 ?_ | refine go_split (fun _h => ?_) (fun _h => ?_)) <;> try simp (maxSteps := 4000000) only [go_sem, seval])
 | intro _h
 | refine awp_block ?_
 | refine awp_scope ?_
 | refine cond_b ?_ ?_
 | (show heapOK _ _ = true; kernel_rfl)
 | (show heapOK2 _ _ = true; kernel_rfl)
 | (omega)))
theorem rWorst_c (t : Town) (i : Nat) (ht : TownOK t) (hi : i < t.homes.length) : CallS Try.prog 40 [.agg (townC t), .int .i64 i] (.int .i64 (worstN t (t.homes.getD i default))) := by
  obtain ⟨hh1, hh2⟩ := ht.homes
  have hc := ht.call
  have hm := mul_bd (a := t.homes.length) (A := 8) (b := t.chi) (B := 60) (by omega) (by omega) (by omega) (by omega)
  obtain ⟨_, hp, hw, _⟩ := ht.home i hi
  unfold worstN
  (refine callS_of_awp (fun w args => Try.call40 ..) Try.func40 rfl (fun w0 m0 wz => ?_); simp only [Try.ntmps40, Try.results40, initT, junks, homeC, hallC, slH, slL, townC, sl, List.toList_toArray, List.cons_append, List.nil_append, List.length_cons, List.length_nil, Nat.reduceAdd, Nat.reduceSub])
  (repeat' (first
 | refine awp_seqK ?_
 | refine kt ?_
 | refine And.intro ?_ ?_
 | ((first | refine awp_stp rfl ?_ | refine awp_draw (by kernel_rfl) (by kernel_rfl) ?_ | refine Imp.le2 ?_ | refine go_split (fun _h => ?_) (fun _h => ?_)) <;> try simp (maxSteps := 4000000) only [go_sem, seval])
 | intro _h
 | refine awp_block ?_
 | refine awp_scope ?_
 | refine cond_b ?_ ?_
 | (show heapOK _ _ = true; kernel_rfl)
 | (show heapOK2 _ _ = true; kernel_rfl)
 | (omega)))
theorem takes_c (t : Town) (k i : Nat) (hk : k < t.halls.length) (hi : i < t.homes.length) : CallS Try.prog 84 [.agg (townC t), .int .i64 k, .int .i64 i] (.bool (decide (andn (t.homes.getD i default).pets (t.halls.getD k default).pets = 0))) := by
  (refine callS_of_awp (fun w args => Try.call84 ..) Try.func84 rfl (fun w0 m0 wz => ?_); simp only [Try.ntmps84, Try.results84, initT, junks, homeC, hallC, slH, slL, townC, sl, List.toList_toArray, List.cons_append, List.nil_append, List.length_cons, List.length_nil, Nat.reduceAdd, Nat.reduceSub])
  (repeat' (first
 | refine awp_seqK ?_
 | refine kt ?_
 | refine And.intro ?_ ?_
 | ((first | refine awp_stp rfl ?_ | refine awp_draw (by kernel_rfl) (by kernel_rfl) ?_ | refine Imp.le2 ?_ | refine go_split (fun _h => ?_) (fun _h => ?_)) <;> try simp (maxSteps := 4000000) only [go_sem, seval])
 | intro _h
 | refine awp_block ?_
 | refine awp_scope ?_
 | refine cond_b ?_ ?_
 | (show heapOK _ _ = true; kernel_rfl)
 | (show heapOK2 _ _ = true; kernel_rfl)
 | (omega)))
end Go.Am

/- Contracts of the away functions: the error of a town, by the reference; the town for the program. -/
namespace Go.Am
open Go.RowKit Go.Proofs
attribute [local irreducible] AWP CallS Kt goK CallK stepK evOps SemF SemY Imp
set_option maxRecDepth 4000
set_option linter.unusedSimpArgs false
set_option linter.unusedVariables false
set_option maxHeartbeats 1600000
theorem getD_mem {α : Type} {l : List α} {d : α} {i : Nat} (h : i < l.length) : l.getD i d ∈ l := by
  rw [List.getD_eq_getElem?_getD, List.getElem?_eq_getElem h]; exact List.getElem_mem h
theorem mem_getD {α : Type} {l : List α} {d : α} {x : α} (h : x ∈ l) : ∃ i, i < l.length ∧ l.getD i d = x := by
  obtain ⟨i, hi, rfl⟩ := List.mem_iff_getElem.1 h
  exact ⟨i, hi, by simp [List.getD_eq_getElem?_getD, hi]⟩
theorem fault_c (t : Town) (hb : townOK t) : CallS Try.prog 26 [.agg (townC t)] (.int .i64 (faultT t)) := by
  obtain ⟨hb1, hb2⟩ := hb
  have r3 : (8 < t.homes.length ∨ 3 < t.halls.length) → 3 = faultT t := fun h => by unfold faultT; rw [if_pos h]
  have r1 : ¬ (8 < t.homes.length ∨ 3 < t.halls.length) → ((t.homes.length = 0 ∨ ¬ (1 ≤ t.seats ∧ t.seats ≤ 200)) ∨ ¬ (0 ≤ t.clo ∧ t.clo ≤ t.chi ∧ t.chi ≤ 60)) → 1 = faultT t := fun h h' => by
    unfold faultT; rw [if_neg h, if_pos (by rcases h' with h' | h'; exact .inl h'; exact .inr (.inl h'))]
  have rH : ¬ (8 < t.homes.length ∨ 3 < t.halls.length) → ∀ j, j < t.homes.length → homeB (t.homes.getD j default) = false → 1 = faultT t := fun h j hj h' => by
    unfold faultT; rw [if_neg h, if_pos (.inr (.inr (.inl (by rw [List.all_eq_false]; exact ⟨t.homes.getD j default, getD_mem hj, by rw [h']; simp⟩))))]
  have rL : ¬ (8 < t.homes.length ∨ 3 < t.halls.length) → ∀ j, j < t.halls.length → hallB (t.halls.getD j default) = false → 1 = faultT t := fun h j hj h' => by
    unfold faultT; rw [if_neg h, if_pos (.inr (.inr (.inr (by rw [List.all_eq_false]; exact ⟨t.halls.getD j default, getD_mem hj, by rw [h']; simp⟩))))]
  have r0 : ¬ (8 < t.homes.length ∨ 3 < t.halls.length) → ¬ ((t.homes.length = 0 ∨ ¬ (1 ≤ t.seats ∧ t.seats ≤ 200)) ∨ ¬ (0 ≤ t.clo ∧ t.clo ≤ t.chi ∧ t.chi ≤ 60)) → (∀ j, j < t.homes.length → homeB (t.homes.getD j default) = true) → (∀ j, j < t.halls.length → hallB (t.halls.getD j default) = true) → 0 = faultT t := fun h h' h1 h2 => by
    have e1 : t.homes.all homeB = true := by
      rw [List.all_eq_true]; intro x hx; obtain ⟨i, hi, rfl⟩ := mem_getD (d := default) hx; exact h1 i hi
    have e2 : t.halls.all hallB = true := by
      rw [List.all_eq_true]; intro x hx; obtain ⟨i, hi, rfl⟩ := mem_getD (d := default) hx; exact h2 i hi
    unfold faultT; rw [if_neg h, if_neg (by rw [e1, e2]; simp only [reduceCtorEq, or_false]; exact h')]
  generalize faultT t = r at *
  (refine callS_of_awp (fun w args => Try.call26 ..) Try.func26 rfl (fun w0 m0 wz => ?_); simp only [Try.ntmps26, Try.results26, initT, junks, homeC, hallC, slH, slL, townC, sl, List.toList_toArray, List.cons_append, List.nil_append, List.length_cons, List.length_nil, Nat.reduceAdd, Nat.reduceSub])
  (repeat' (first
 | refine awp_seqK ?_
 | refine kt ?_
 | refine And.intro ?_ ?_
 | ((first | refine awp_stp rfl ?_ | refine awp_draw (by kernel_rfl) (by kernel_rfl) ?_ | refine Imp.le2 ?_ | refine callK_of (in_c _ _ _) ?_ | refine callK_of (span_c _ _ _) ?_ | refine go_split (fun _h => ?_) (fun _h => ?_)) <;> try simp (maxSteps := 4000000) only [go_sem, seval])
 | intro _h
 | refine awp_block ?_
 | refine awp_scope ?_
 | refine cond_b ?_ ?_
 | (show heapOK _ _ = true; kernel_rfl)
 | (show heapOK2 _ _ = true; kernel_rfl)
 | (omega)))
  all_goals first
    | (exact r3 (by omega))
    | (exact r1 (by omega) (by omega))
    | (exact (r3 (by omega)).symm)
    | (exact (r1 (by omega) (by omega)).symm)
    | skip
  refine awp_loopJ (fun i : Nat => i ≤ t.homes.length ∧ ∀ j, j < i → homeB (t.homes.getD j default) = true) (fun i => ⟨mkT 91 [(1, .ptr 0 0 0), (3, .int .i64 i)], [some (.cells 27 1 0 (townC t))], []⟩) (fun i => t.homes.length - i) 0 ⟨Nat.zero_le _, by simp⟩ (.le2 ?_) ?_
  · simp only [townC, slH, slL]; simp (maxSteps := 4000000) only [go_sem, seval]
  · rintro i ⟨hi, hj⟩
    have r3' := r3; clear r3
    simp only [townC, slH, slL]; simp (maxSteps := 4000000) only [go_sem, seval]
    (repeat' (first
 | refine awp_seqK ?_
 | refine kt ?_
 | refine And.intro ?_ ?_
 | ((first | refine awp_stp rfl ?_ | refine awp_draw (by kernel_rfl) (by kernel_rfl) ?_ | refine Imp.le2 ?_ | refine callK_of (in_c _ _ _) ?_ | refine callK_of (span_c _ _ _) ?_ | refine go_split (fun _h => ?_) (fun _h => ?_)) <;> try simp (maxSteps := 4000000) only [go_sem, seval])
 | intro _h
 | refine awp_block ?_
 | refine awp_scope ?_
 | refine cond_b ?_ ?_
 | (show heapOK _ _ = true; kernel_rfl)
 | (show heapOK2 _ _ = true; kernel_rfl)
 | (omega)))
    all_goals first
      | (refine ⟨i + 1, ⟨by omega, fun j hji => ?_⟩, by omega, .le2 ?_⟩
         · rcases Nat.lt_succ_iff_lt_or_eq.1 hji with h | rfl
           · exact hj j h
           · exact decide_eq_true ⟨‹_›, ‹_›, ‹_›, ‹_›⟩
         · simp (maxSteps := 4000000) only [go_sem, seval] <;> omega)
      | (exact rH (by omega) i (by omega) (decide_eq_false (by omega)))
      | (exact (rH (by omega) i (by omega) (decide_eq_false (by omega))).symm)
      | skip
    have hi' : i = t.homes.length := by omega
    subst hi'
    refine awp_loopJ (fun i : Nat => i ≤ t.halls.length ∧ ∀ j, j < i → hallB (t.halls.getD j default) = true) (fun i => ⟨mkT 91 [(1, .ptr 0 0 0), (5, .int .i64 i)], [some (.cells 27 1 0 (townC t))], []⟩) (fun i => t.halls.length - i) 0 ⟨Nat.zero_le _, by simp⟩ (.le2 ?_) ?_
    · simp only [townC, slH, slL]; simp (maxSteps := 4000000) only [go_sem, seval]
    · rintro k ⟨hk, hkj⟩
      simp only [townC, slH, slL]; simp (maxSteps := 4000000) only [go_sem, seval]
      (repeat' (first
 | refine awp_seqK ?_
 | refine kt ?_
 | refine And.intro ?_ ?_
 | ((first | refine awp_stp rfl ?_ | refine awp_draw (by kernel_rfl) (by kernel_rfl) ?_ | refine Imp.le2 ?_ | refine callK_of (in_c _ _ _) ?_ | refine go_split (fun _h => ?_) (fun _h => ?_)) <;> try simp (maxSteps := 4000000) only [go_sem, seval])
 | intro _h
 | refine awp_block ?_
 | refine awp_scope ?_
 | refine cond_b ?_ ?_
 | (show heapOK _ _ = true; kernel_rfl)
 | (show heapOK2 _ _ = true; kernel_rfl)
 | (omega)))
      all_goals first
        | (refine ⟨k + 1, ⟨by omega, fun j hji => ?_⟩, by omega, .le2 ?_⟩
           · rcases Nat.lt_succ_iff_lt_or_eq.1 hji with h | rfl
             · exact hkj j h
             · exact decide_eq_true ⟨‹_›, ‹_›⟩
           · simp (maxSteps := 4000000) only [go_sem, seval] <;> omega)
        | (exact rL (by omega) k (by omega) (decide_eq_false (by omega)))
        | (exact (rL (by omega) k (by omega) (decide_eq_false (by omega))).symm)
        | (exact r0 (by omega) (by omega) (fun j h => hj j (by omega)) (fun j h => hkj j (by omega)))
        | (exact (r0 (by omega) (by omega) (fun j h => hj j (by omega)) (fun j h => hkj j (by omega))).symm)
        | trace_state
theorem recs_take {α : Type} {enc : α → List AV} {l : List α} {d : α} {k : Nat} (h : k < l.length) : recs enc (l.take k) ++ enc (l.getD k d) = recs enc (l.take (k + 1)) := by
  rw [take_snoc (d := d) h, recs_snoc]
theorem Town_c (t : Town) (hb : townOK t) : CallS Try.prog 18 [.agg (townC t)] (.agg (townC t)) := by
  obtain ⟨hb1, hb2⟩ := hb
  (refine callS_of_awp (fun w args => Try.call18 ..) Try.func18 rfl (fun w0 m0 wz => ?_); simp only [Try.ntmps18, Try.results18, initT, junks, homeC, hallC, slH, slL, townC, sl, List.toList_toArray, List.cons_append, List.nil_append, List.length_cons, List.length_nil, Nat.reduceAdd, Nat.reduceSub])
  (repeat' (first
 | refine awp_seqK ?_
 | refine kt ?_
 | refine And.intro ?_ ?_
 | ((first | refine awp_stp rfl ?_ | refine awp_draw (by kernel_rfl) (by kernel_rfl) ?_ | refine Imp.le2 ?_ | refine callK_of (to_c _ _) ?_ | refine go_split (fun _h => ?_) (fun _h => ?_)) <;> try simp (maxSteps := 4000000) only [go_sem, seval])
 | intro _h
 | refine awp_block ?_
 | refine awp_scope ?_
 | refine cond_b ?_ ?_
 | (show heapOK _ _ = true; kernel_rfl)
 | (show heapOK2 _ _ = true; kernel_rfl)
 | (omega)))
  refine awp_adH 2 0 106 6 rfl rfl ?_
  simp only [adH, hget, hset, lset, List.length_cons, List.length_nil, Nat.reduceAdd]
  refine awp_adH 2 1 91 3 rfl rfl ?_
  simp only [adH, hget, hset, lset, List.length_cons, List.length_nil, Nat.reduceAdd]
  refine awp_loopN t.homes.length (fun k => ⟨mkT 68 [(1, .ptr 0 0 0), (2, .ptr 1 0 0), (3, .ptr 2 0 0), (4, .int .i64 k)], [some (.cells 27 1 0 (townC t)), some (.cells 40 1 0 [.nils, .nils, .int .i64 0, .int .i64 0, .int .i64 0]), some (.cells 40 1 0 [.osl 3 k 0 k, .osl 4 0 0 0, .int .i64 t.seats, .int .i64 t.clo, .int .i64 t.chi]), some (.cells 106 6 k (recs homeC (t.homes.take k))), some (.cells 91 3 0 [])], []⟩) (.le2 ?_) ?_
  · simp only [townC, slH, slL]; simp (maxSteps := 4000000) only [go_sem, seval]
    rfl
  · intro k hk
    rcases Nat.lt_or_eq_of_le hk with hk1 | hk1
    · have hlt : (t.homes.take k).length = k := by simp; omega
      have hsn := recs_take (enc := homeC) (d := default) hk1
      simp only [homeC] at hsn
      simp only [townC, slH, slL]; simp (maxSteps := 4000000) only [go_sem, seval]
      (repeat' (first
 | ((omega))
 | refine awp_seqK ?_
 | refine kt ?_
 | refine And.intro ?_ ?_
 | ((first | refine awp_stp rfl ?_ | refine awp_draw (by kernel_rfl) (by kernel_rfl) ?_ | refine Imp.le2 ?_ | refine callK_of (to_c _ _) ?_ | refine go_split (fun _h => ?_) (fun _h => ?_)) <;> try simp (maxSteps := 4000000) only [go_sem, seval, hlt, hsn])
 | intro _h
 | refine awp_block ?_
 | refine awp_scope ?_
 | refine cond_b ?_ ?_
 | (show heapOK _ _ = true; kernel_rfl)
 | (show heapOK2 _ _ = true; kernel_rfl)
 | (omega)))
      all_goals trace_state
    · subst hk1
      have hlt : (t.homes.take t.homes.length) = t.homes := by simp
      simp only [townC, slH, slL]; simp (maxSteps := 4000000) only [go_sem, seval, hlt]
      (repeat' (first
 | ((exfalso; omega))
 | refine awp_seqK ?_
 | refine kt ?_
 | refine And.intro ?_ ?_
 | ((first | refine awp_stp rfl ?_ | refine awp_draw (by kernel_rfl) (by kernel_rfl) ?_ | refine Imp.le2 ?_ | refine go_split (fun _h => ?_) (fun _h => ?_)) <;> try simp (maxSteps := 4000000) only [go_sem, seval, hlt])
 | intro _h
 | refine awp_block ?_
 | refine awp_scope ?_
 | refine cond_b ?_ ?_
 | (show heapOK _ _ = true; kernel_rfl)
 | (show heapOK2 _ _ = true; kernel_rfl)
 | (omega)))
      refine awp_loopN t.halls.length (fun k => ⟨mkT 68 [(1, .ptr 0 0 0), (2, .ptr 1 0 0), (3, .ptr 2 0 0), (6, .int .i64 k)], [some (.cells 27 1 0 (townC t)), some (.cells 40 1 0 [.nils, .nils, .int .i64 0, .int .i64 0, .int .i64 0]), some (.cells 40 1 0 [.osl 3 t.homes.length 0 t.homes.length, .osl 4 k 0 k, .int .i64 t.seats, .int .i64 t.clo, .int .i64 t.chi]), some (.cells 106 6 t.homes.length (recs homeC t.homes)), some (.cells 91 3 k (recs hallC (t.halls.take k)))], []⟩) (.le2 ?_) ?_
      · simp only [townC, slH, slL]; simp (maxSteps := 4000000) only [go_sem, seval]
        rfl
      · intro k hk
        rcases Nat.lt_or_eq_of_le hk with hk1 | hk1
        · have hlt : (t.halls.take k).length = k := by simp; omega
          have hsn := recs_take (enc := hallC) (d := default) hk1
          simp only [hallC] at hsn
          simp only [townC, slH, slL]; simp (maxSteps := 4000000) only [go_sem, seval]
          (repeat' (first
 | ((omega))
 | refine awp_seqK ?_
 | refine kt ?_
 | refine And.intro ?_ ?_
 | ((first | refine awp_stp rfl ?_ | refine awp_draw (by kernel_rfl) (by kernel_rfl) ?_ | refine Imp.le2 ?_ | refine go_split (fun _h => ?_) (fun _h => ?_)) <;> try simp (maxSteps := 4000000) only [go_sem, seval, hlt, hsn])
 | intro _h
 | refine awp_block ?_
 | refine awp_scope ?_
 | refine cond_b ?_ ?_
 | (show heapOK _ _ = true; kernel_rfl)
 | (show heapOK2 _ _ = true; kernel_rfl)
 | (omega)))
          all_goals trace_state
        · subst hk1
          have hlt : (t.halls.take t.halls.length) = t.halls := by simp
          simp only [townC, slH, slL]; simp (maxSteps := 4000000) only [go_sem, seval, hlt]
          (repeat' (first
 | ((exfalso; omega))
 | refine awp_seqK ?_
 | refine kt ?_
 | refine And.intro ?_ ?_
 | ((first | refine awp_stp rfl ?_ | refine awp_draw (by kernel_rfl) (by kernel_rfl) ?_ | refine Imp.le2 ?_ | refine go_split (fun _h => ?_) (fun _h => ?_)) <;> try simp (maxSteps := 4000000) only [go_sem, seval, hlt])
 | intro _h
 | refine awp_block ?_
 | refine awp_scope ?_
 | refine cond_b ?_ ?_
 | (show heapOK _ _ = true; kernel_rfl)
 | (show heapOK2 _ _ = true; kernel_rfl)
 | (omega)))
          all_goals trace_state
end Go.Am

/- Lists that are told by a function; lists of bools; maps with keys of any kind; orders. -/
namespace Go.Am
open Go.RowKit Go.Proofs
set_option linter.unusedSimpArgs false
set_option linter.unusedVariables false
/-- A list of n elements, told by a function. -/
def tab {α : Type} (n : Nat) (f : Nat → α) : List α := (List.range n).map f
section
variable {α : Type} {n : Nat} {f g : Nat → α}
theorem tab_length : (tab n f).length = n := by simp [tab]
theorem tab_getD {j : Nat} {d : α} (h : j < n) : (tab n f).getD j d = f j := by simp [tab, List.getD_eq_getElem?_getD, h]
theorem tab_congr (h : ∀ j, j < n → f j = g j) : tab n f = tab n g := List.map_congr_left fun j hj => h j (by simpa using hj)
/-- One element in another's place. -/
def isp (l : List α) (j : Nat) (v : α) : List α := l.take j ++ v :: l.drop (j + 1)
theorem isp_set {l : List α} {j : Nat} {v : α} (h : j < l.length) : isp l j v = l.set j v := by rw [List.set_eq_take_append_cons_drop, if_pos h]; rfl
theorem isp_length {l : List α} {j : Nat} {v : α} (h : j < l.length) : (isp l j v).length = l.length := by rw [isp_set h, List.length_set]
theorem isp_getD {l : List α} {j k : Nat} {v d : α} (h : j < l.length) : (isp l j v).getD k d = if k = j then v else l.getD k d := by
  rw [isp_set h]
  simp only [List.getD_eq_getElem?_getD, List.getElem?_set]
  by_cases e : j = k
  · subst e; simp [h]
  · rw [if_neg e, if_neg (Ne.symm e)]
theorem isp_tab {j : Nat} {v : α} (h : j < n) : isp (tab n f) j v = tab n fun i => if i = j then v else f i := by
  rw [isp_set (by rw [tab_length]; exact h)]
  apply List.ext_getElem
  · simp [tab]
  · intro i a b
    simp only [tab, List.getElem_set, List.getElem_map, List.getElem_range]
    by_cases e : j = i
    · subst e; simp
    · rw [if_neg e, if_neg (Ne.symm e)]
theorem replicate_tab {a : α} : List.replicate n a = tab n fun _ => a := by
  apply List.ext_getElem
  · simp [tab]
  · intro i h1 h2; simp [tab]
end
/-- A list of bools, as cells. -/
def bools (l : List Bool) : List AV := l.map .bool
theorem bools_length {l : List Bool} : (bools l).length = l.length := by simp [bools]
theorem al_bools {l : List Bool} {p : Nat → Bool} : (bools l).all (live2 p) = true := by
  simp only [bools, List.all_map, List.all_eq_true]
  intro z _; rfl
theorem nth_bools {l : List Bool} {j : Nat} {K : AV → Prop} : optK (nth (bools l) j) K = (j < l.length ∧ K (.bool (l.getD j false))) := by
  rw [← nth_is]
  simp only [bools, List.getElem?_map]
  by_cases h : j < l.length
  · simp [h, optK, List.getD_eq_getElem?_getD]
  · simp [h, optK]
theorem sp_bools {l : List Bool} {j : Nat} {b : Bool} : splice (bools l) j [.bool b] = bools (isp l j b) := by
  simp [splice, bools, isp, List.map_take, List.map_drop]
theorem sp_ints {l : List Int} {j : Nat} {v : Int} : splice (ints l) j [.int .i64 v] = ints (isp l j v) := by
  simp [splice, ints, isp, List.map_take, List.map_drop]
theorem rep_ints {n : Nat} {v : Int} : (List.replicate n [AV.int .i64 v]).flatten = ints (tab n fun _ => v) := by
  rw [← replicate_tab]
  induction n with
  | zero => rfl
  | succ n ih => rw [List.replicate_succ, List.flatten_cons, ih]; rfl
theorem rep_bools {n : Nat} {v : Bool} : (List.replicate n [AV.bool v]).flatten = bools (tab n fun _ => v) := by
  rw [← replicate_tab]
  induction n with
  | zero => rfl
  | succ n ih => rw [List.replicate_succ, List.flatten_cons, ih]; rfl
attribute [go_sem] bools_length al_bools nth_bools sp_bools tab_length
attribute [go_sem] sp_ints
section
variable {κ ν : Type} [DecidableEq κ]
def gmC (eK : κ → AV) (eV : ν → AV) (m : List (κ × ν)) : List (AV × AV) := m.map fun e => (eK e.1, eV e.2)
def gmGet : List (κ × ν) → κ → Option ν
  | [], _ => none
  | e :: m, k => if e.1 = k then some e.2 else gmGet m k
def gmPut : List (κ × ν) → κ → ν → List (κ × ν)
  | [], k, v => [(k, v)]
  | e :: m, k, v => if e.1 = k then (k, v) :: m else e :: gmPut m k v
/-- Keys that a map finds. -/
def KeyE (eK : κ → AV) : Prop := ∀ a b v es, mapFind ((eK a, v) :: es) (eK b) = if a = b then some (some (0, v)) else (mapFind es (eK b)).map (·.map fun p => (p.1 + 1, p.2))
theorem gfind {eK : κ → AV} {eV : ν → AV} (he : KeyE eK) (k : κ) : ∀ m : List (κ × ν),
    (∃ i v, mapFind (gmC eK eV m) (eK k) = some (some (i, eV v)) ∧ gmGet m k = some v ∧ (∀ a, (gmC eK eV m).set i (eK k, eV a) = gmC eK eV (gmPut m k a))) ∨
    (mapFind (gmC eK eV m) (eK k) = some none ∧ gmGet m k = none ∧ (∀ a, gmC eK eV m ++ [(eK k, eV a)] = gmC eK eV (gmPut m k a)))
  | [] => .inr ⟨by simp [gmC, mapFind], rfl, fun a => rfl⟩
  | e :: m => by
    have hc : mapFind (gmC eK eV (e :: m)) (eK k) = if e.1 = k then some (some (0, eV e.2)) else (mapFind (gmC eK eV m) (eK k)).map (·.map fun p => (p.1 + 1, p.2)) := he _ _ _ _
    by_cases h : e.1 = k
    · refine .inl ⟨0, e.2, ?_, ?_, fun a => ?_⟩
      · rw [hc, if_pos h]
      · simp [gmGet, h]
      · simp [gmC, gmPut, h]
    · rcases gfind he k m with ⟨i, v, h1, h2, h3⟩ | ⟨h1, h2, h3⟩
      · refine .inl ⟨i + 1, v, ?_, by simp [gmGet, h, h2], fun a => ?_⟩
        · rw [hc, if_neg h, h1]; rfl
        · have := h3 a
          simp only [gmC, List.map_cons, gmPut, h, if_false, List.set_cons_succ] at this ⊢
          rw [this]
      · refine .inr ⟨?_, by simp [gmGet, h, h2], fun a => ?_⟩
        · rw [hc, if_neg h, h1]; rfl
        · have := h3 a
          simp only [gmC, List.map_cons, gmPut, h, if_false, List.cons_append] at this ⊢
          rw [this]
theorem mup_g {eK : κ → AV} {eV : ν → AV} (he : KeyE eK) {m : List (κ × ν)} {k : κ} {v : ν} {f : List (AV × AV) → Prop} : mupK (gmC eK eV m) (eK k) (eV v) f = f (gmC eK eV (gmPut m k v)) := by
  rcases gfind (eV := eV) he k m with ⟨i, w, h1, h2, h3⟩ | ⟨h1, h2, h3⟩
  · simp only [mupK, h1, h3]
  · simp only [mupK, h1, h3]
theorem mget_gs {eK : κ → AV} {eV : ν → AV} (he : KeyE eK) {m : List (κ × ν)} {k : κ} {v : ν} {z : AV} {f : AV → Bool → Prop} (h : gmGet m k = some v) : mgetK (gmC eK eV m) (eK k) z f = f (eV v) true := by
  rcases gfind (eV := eV) he k m with ⟨i, w, h1, h2, h3⟩ | ⟨h1, h2, h3⟩
  · rw [h] at h2; cases h2; simp only [mgetK, h1]
  · rw [h] at h2; cases h2
theorem mget_gn {eK : κ → AV} {eV : ν → AV} (he : KeyE eK) {m : List (κ × ν)} {k : κ} {z : AV} {f : AV → Bool → Prop} (h : gmGet m k = none) : mgetK (gmC eK eV m) (eK k) z f = f z false := by
  rcases gfind (eV := eV) he k m with ⟨i, w, h1, h2, h3⟩ | ⟨h1, h2, h3⟩
  · rw [h] at h2; cases h2
  · simp only [mgetK, h1]
end
/-- A list of different numbers below n has n at most. -/
theorem nodup_le : ∀ (n : Nat) (l : List Int), l.Nodup → (∀ x ∈ l, 0 ≤ x ∧ x < n) → l.length ≤ n
  | 0, l, _, h => by
    cases l with
    | nil => simp
    | cons x l => have := h x (by simp); omega
  | n + 1, l, hn, h => by
    have h1 := nodup_le n (l.erase (n : Int)) (hn.erase _) (fun x hx => by
      rw [hn.mem_erase_iff] at hx
      have := h x hx.2
      have := hx.1
      omega)
    rw [List.length_erase] at h1
    split at h1 <;> omega
end Go.Am

/- Plain words: sets of homes as numbers, buses, states of a plan. No program is in sight. -/
namespace Go.Am
set_option linter.unusedSimpArgs false
set_option linter.unusedVariables false
/-- What is left of one set without another one. -/
def ndiff (a b : Nat) : Nat := a &&& (255 ^^^ b)
/-- The least bit. -/
def lowB (m : Nat) : Nat := m &&& ((256 - m) % 256)
def u8and (a b : Int) : Int := IntKind.u8.wrap (BitVec.ofInt IntKind.u8.bits a &&& BitVec.ofInt IntKind.u8.bits b).toNat
def u8or (a b : Int) : Int := IntKind.u8.wrap (BitVec.ofInt IntKind.u8.bits a ||| BitVec.ofInt IntKind.u8.bits b).toNat
theorem wrap_nat {n : Nat} (h : n < 256) : IntKind.u8.wrap (n : Int) = n := by
  have h1 : IntKind.u8.wrap (n : Int) = ((n : Int) % 256) := rfl
  rw [h1]; omega
theorem ofInt_nat {a : Nat} : (BitVec.ofInt IntKind.u8.bits (a : Int)) = BitVec.ofNat 8 a := BitVec.ofInt_natCast _ _
theorem u8and_nat {a b : Nat} (ha : a < 256) (hb : b < 256) : u8and a b = ((a &&& b : Nat) : Int) := by
  have : (BitVec.ofNat 8 a &&& BitVec.ofNat 8 b).toNat = a &&& b := by
    rw [BitVec.toNat_and, BitVec.toNat_ofNat, BitVec.toNat_ofNat, Nat.mod_eq_of_lt (by omega), Nat.mod_eq_of_lt (by omega)]
  unfold u8and
  rw [ofInt_nat, ofInt_nat]
  show IntKind.u8.wrap ((BitVec.ofNat 8 a &&& BitVec.ofNat 8 b).toNat : Int) = _
  rw [this, wrap_nat (Nat.lt_of_le_of_lt Nat.and_le_left ha)]
theorem u8or_nat {a b : Nat} (ha : a < 256) (hb : b < 256) : u8or a b = ((a ||| b : Nat) : Int) := by
  have : (BitVec.ofNat 8 a ||| BitVec.ofNat 8 b).toNat = a ||| b := by
    rw [BitVec.toNat_or, BitVec.toNat_ofNat, BitVec.toNat_ofNat, Nat.mod_eq_of_lt (by omega), Nat.mod_eq_of_lt (by omega)]
  unfold u8or
  rw [ofInt_nat, ofInt_nat]
  show IntKind.u8.wrap ((BitVec.ofNat 8 a ||| BitVec.ofNat 8 b).toNat : Int) = _
  rw [this, wrap_nat (Nat.or_lt_two_pow (n := 8) ha hb)]
theorem andn_nat {a b : Nat} (ha : a < 256) (hb : b < 256) : IntKind.u8.wrap (BitVec.ofInt IntKind.u8.bits a &&& ~~~ BitVec.ofInt IntKind.u8.bits b).toNat = ((ndiff a b : Nat) : Int) := by
  have h255 : (255 ^^^ b) = 255 - b := by
    have := (List.all_eq_true.1 (show (List.range 256).all (fun b => (255 ^^^ b) == 255 - b) = true by kernel_rfl)) b (by simpa using hb)
    simpa using this
  have : (BitVec.ofNat 8 a &&& ~~~ BitVec.ofNat 8 b).toNat = ndiff a b := by
    rw [BitVec.toNat_and, BitVec.toNat_not, BitVec.toNat_ofNat, BitVec.toNat_ofNat, Nat.mod_eq_of_lt (by omega), Nat.mod_eq_of_lt (by omega)]
    unfold ndiff
    rw [h255]
  rw [ofInt_nat, ofInt_nat]
  show IntKind.u8.wrap ((BitVec.ofNat 8 a &&& ~~~ BitVec.ofNat 8 b).toNat : Int) = _
  rw [this, wrap_nat (n := ndiff a b) (Nat.lt_of_le_of_lt Nat.and_le_left ha)]
theorem neg_nat {m : Nat} (h : m < 256) : IntKind.u8.wrap (0 - (m : Int)) = (((256 - m) % 256 : Nat) : Int) := by
  have h1 : IntKind.u8.wrap (0 - (m : Int)) = ((0 - (m : Int)) % 256) := rfl
  rw [h1]; omega
theorem low_nat {m : Nat} (h : m < 256) : u8and m (IntKind.u8.wrap (0 - (m : Int))) = ((lowB m : Nat) : Int) := by
  rw [neg_nat h, u8and_nat (b := (256 - m) % 256) h (by omega)]; rfl
theorem sub_nat {m : Nat} (h : m < 256) (h0 : m ≠ 0) : IntKind.u8.wrap ((m : Int) - 1) = ((m - 1 : Nat) : Int) := by
  have h1 : IntKind.u8.wrap ((m : Int) - 1) = (((m : Int) - 1) % 256) := rfl
  rw [h1]; omega
theorem shr_nat {m k : Nat} (h : m < 256) (hk : k < 8) : (u8and ((m : Int).fdiv (2 ^ (min (k : Int).toNat IntKind.u8.bits))) 1 = 1) = (m.testBit k = true) := by
  have e1 : min (k : Int).toNat IntKind.u8.bits = k := by
    have : IntKind.u8.bits = 8 := rfl
    rw [this]; omega
  have e2 : (m : Int).fdiv (2 ^ k) = ((m / 2 ^ k : Nat) : Int) := by
    rw [show ((2 : Int) ^ k) = ((2 ^ k : Nat) : Int) by simp]
    rw [Int.fdiv_eq_ediv_of_nonneg _ (Int.natCast_nonneg _)]; rfl
  have e3 : m / 2 ^ k < 256 := Nat.lt_of_le_of_lt (Nat.div_le_self _ _) h
  rw [e1, e2, show (1 : Int) = ((1 : Nat) : Int) from rfl, u8and_nat e3 (by omega), Nat.testBit_eq_decide_div_mod_eq]
  rw [Nat.and_one_is_mod]
  simp only [decide_eq_true_eq, eq_iff_iff]
  omega
theorem lowB_lt {m : Nat} (h : m < 256) : lowB m < 256 := Nat.lt_of_le_of_lt Nat.and_le_left h
theorem ndiff_lt {a b : Nat} (h : a < 256) : ndiff a b < 256 := Nat.lt_of_le_of_lt Nat.and_le_left h
theorem ndiff_bit {a b i : Nat} (hi : i < 8) : (ndiff a b).testBit i = (a.testBit i && !b.testBit i) := by
  unfold ndiff
  rw [Nat.testBit_and, Nat.testBit_xor]
  have : (255 : Nat).testBit i = true := by
    have := (List.all_eq_true.1 (show (List.range 8).all (fun i => (255 : Nat).testBit i) = true by kernel_rfl)) i (by simpa using hi)
    exact this
  rw [this]; simp
/-- The homes of a set below some number, rising. -/
def lstN (m : Nat) : Nat → List Int
  | 0 => []
  | k + 1 => if m.testBit k = true then lstN m k ++ [(k : Int)] else lstN m k
def lst (m : Nat) : List Int := lstN m 8
theorem lstN_mem {m : Nat} {x : Int} : ∀ {k : Nat}, x ∈ lstN m k ↔ 0 ≤ x ∧ x < k ∧ m.testBit x.toNat = true
  | 0 => by simp [lstN]; omega
  | k + 1 => by
    simp only [lstN]
    split
    · rename_i h
      rw [List.mem_append, lstN_mem, List.mem_singleton]
      constructor
      · rintro (h1 | rfl)
        · exact ⟨h1.1, by omega, h1.2.2⟩
        · exact ⟨by omega, by omega, by simpa using h⟩
      · rintro ⟨h1, h2, h3⟩
        by_cases e : x = k
        · exact .inr e
        · exact .inl ⟨h1, by omega, h3⟩
    · rename_i h
      rw [lstN_mem]
      constructor
      · rintro ⟨h1, h2, h3⟩; exact ⟨h1, by omega, h3⟩
      · rintro ⟨h1, h2, h3⟩
        refine ⟨h1, ?_, h3⟩
        by_cases e : x = k
        · subst e; simp at h3; exact absurd h3 h
        · omega
theorem lst_mem {m : Nat} {x : Int} : x ∈ lst m ↔ 0 ≤ x ∧ x < 8 ∧ m.testBit x.toNat = true := lstN_mem
theorem lstN_le {m : Nat} : ∀ k, (lstN m k).length ≤ k
  | 0 => by simp [lstN]
  | k + 1 => by
    have := lstN_le (m := m) k
    simp only [lstN]
    split <;> simp <;> omega
theorem lstN_rise {m : Nat} : ∀ k, (lstN m k).Pairwise (· < ·)
  | 0 => by simp [lstN]
  | k + 1 => by
    simp only [lstN]
    split
    · rw [List.pairwise_append]
      refine ⟨lstN_rise k, by simp, fun a ha b hb => ?_⟩
      rw [lstN_mem] at ha
      simp only [List.mem_singleton] at hb
      omega
    · exact lstN_rise k
/-- All that are part of a set, from the greatest one on: as the program goes through them. -/
def subsF (o : Nat) : Nat → Nat → List Nat
  | 0, m => [m]
  | f + 1, m => m :: if m = 0 then [] else subsF o f ((m - 1) &&& o)
def subs (o : Nat) : List Nat := subsF o 256 o
theorem subsF_fuel {o : Nat} : ∀ (f g m : Nat), m ≤ f → m ≤ g → subsF o f m = subsF o g m
  | 0, 0, m, _, _ => rfl
  | 0, g + 1, m, h, _ => by
    have : m = 0 := by omega
    subst this; simp [subsF]
  | f + 1, 0, m, _, h => by
    have : m = 0 := by omega
    subst this; simp [subsF]
  | f + 1, g + 1, m, h1, h2 => by
    simp only [subsF]
    by_cases h0 : m = 0
    · simp [h0]
    · have : (m - 1) &&& o ≤ m - 1 := Nat.and_le_left
      rw [if_neg h0, if_neg h0, subsF_fuel f g _ (by omega) (by omega)]
def subsE (o : Nat) : List Nat := ((List.range 256).filter fun x => Nat.beq (Nat.land x o) x).reverse
def leq : List Nat → List Nat → Bool
  | [], [] => true
  | a :: l, b :: l' => Nat.beq a b && leq l l'
  | _, _ => false
theorem leq_eq : ∀ {l l' : List Nat}, leq l l' = true → l = l'
  | [], [], _ => rfl
  | a :: l, b :: l', h => by
    simp only [leq, Bool.and_eq_true] at h
    rw [Nat.eq_of_beq_eq_true h.1, leq_eq h.2]
  | [], _ :: _, h => by cases h
  | _ :: _, [], h => by cases h
def subsC (f o : Nat) : Nat → List Nat := fun m => Nat.rec (motive := fun _ => Nat → List Nat) (fun m => [m]) (fun _ ih m => m :: (match m with | 0 => [] | k + 1 => ih (Nat.land k o))) f m
theorem subsC_is {o : Nat} : ∀ f m, subsC f o m = subsF o f m
  | 0, m => rfl
  | f + 1, m => by
    show m :: (match m with | 0 => [] | k + 1 => subsC f o (Nat.land k o)) = _
    simp only [subsF]
    cases m with
    | zero => simp
    | succ k => simp only [Nat.add_one_sub_one, Nat.succ_ne_zero, if_false]; rw [subsC_is f]; rfl
theorem subs_all : (List.range 256).all (fun o => leq (subsC 256 o o) (subsE o)) = true := by kernel_rfl
theorem subs_eq {o : Nat} (h : o < 256) : subs o = subsE o := by
  have := List.all_eq_true.1 subs_all o (by simpa using h)
  have := leq_eq this
  rw [← this, subsC_is]; rfl
theorem subs_mem {o x : Nat} (h : o < 256) : x ∈ subs o ↔ x &&& o = x := by
  rw [subs_eq h]
  have hb : (Nat.beq (Nat.land x o) x = true) = (x &&& o = x) := propext ⟨Nat.eq_of_beq_eq_true, fun e => by show Nat.beq (x &&& o) x = true; rw [e]; exact Nat.beq_refl x⟩
  simp only [subsE, List.mem_reverse, List.mem_filter, List.mem_range, hb]
  constructor
  · rintro ⟨_, h2⟩; exact h2
  · intro h2
    refine ⟨?_, h2⟩
    have h3 : x &&& o ≤ o := Nat.and_le_right
    rw [h2] at h3; omega
end Go.Am

/- MADE BY A PROGRAM of ours (wip/tools/Tab): what the program's table says of more of the types that the walks meet. -/
namespace Go.Am
open Go.RowKit Go.Proofs
theorem tsz142 : tsz Try.prog 142 = some 1 := by kernel_rfl
theorem tagg142 : tagg Try.prog 142 = some false := by kernel_rfl
theorem tsz144 : tsz Try.prog 144 = some 1 := by kernel_rfl
theorem tagg144 : tagg Try.prog 144 = some true := by kernel_rfl
theorem tarr144 : tarr Try.prog 144 = none := by kernel_rfl
theorem tzero144 : tzero Try.prog 144 = some [.nilf] := by kernel_rfl
theorem tplaces144 : tplaces Try.prog 144 = some [(0, 1)] := by kernel_rfl
theorem tfld144_0 : tfld Try.prog 144 0 = some (0, 142) := by kernel_rfl
theorem tslice145 : tslice Try.prog 145 = some 144 := by kernel_rfl
theorem tsz146 : tsz Try.prog 146 = some 1 := by kernel_rfl
theorem tagg146 : tagg Try.prog 146 = some false := by kernel_rfl
attribute [go_sem] tsz142 tagg142 tsz144 tagg144 tarr144 tzero144 tplaces144 tfld144_0 tslice145 tsz146 tagg146
end Go.Am

/- Contracts of the away functions: sets of homes, buses, people. -/
namespace Go.Am
open Go.RowKit Go.Proofs
attribute [local irreducible] AWP CallS Kt goK CallK stepK evOps SemF SemY Imp
set_option maxRecDepth 4000
set_option linter.unusedSimpArgs false
set_option linter.unusedVariables false
set_option maxHeartbeats 1600000
theorem bin_u8and {P : Program} {t : TypeId} {a b : Int} {K : AV → Prop} : binK P .and t (.int .u8 a) (.int .u8 b) K = K (.int .u8 (u8and a b)) := by simp [binK, binInt, bits, u8and]
theorem bin_u8or {P : Program} {t : TypeId} {a b : Int} {K : AV → Prop} : binK P .or t (.int .u8 a) (.int .u8 b) K = K (.int .u8 (u8or a b)) := by simp [binK, binInt, bits, u8or]
theorem bin_shr {P : Program} {t : TypeId} {a b : Int} {k k' : IntKind} {K : AV → Prop} : binK P .shr t (.int k a) (.int k' b) K = (0 ≤ b ∧ K (.int k (a.fdiv (2 ^ (min b.toNat k.bits))))) := by simp [binK, binInt]
theorem bin_shl {P : Program} {t : TypeId} {a b : Int} {k k' : IntKind} {K : AV → Prop} : binK P .shl t (.int k a) (.int k' b) K = (0 ≤ b ∧ K (.int k (k.wrap (a * 2 ^ (min b.toNat k.bits))))) := by simp [binK, binInt]
theorem bin_sub8 {P : Program} {t : TypeId} {a b : Int} {K : AV → Prop} : binK P .sub t (.int .u8 a) (.int .u8 b) K = K (.int .u8 (IntKind.u8.wrap (a - b))) := by simp [binK, binInt, arith]
theorem un_neg8 {a : Int} {K : AV → Prop} : unK .neg (.int .u8 a) K = K (.int .u8 (IntKind.u8.wrap (0 - a))) := by simp [unK, arith]
attribute [go_sem] bin_u8and bin_u8or bin_shr bin_shl bin_sub8 un_neg8
theorem andn_nat2 {a b : Nat} (ha : a < 256) (hb : b < 256) : andn a b = ((ndiff a b : Nat) : Int) := andn_nat ha hb
theorem inS_c (m k : Nat) (hm : m < 256) (hk : k < 8) : CallS Try.prog 118 [.int .u8 m, .int .i64 k] (.bool (m.testBit k)) := by
  have h := shr_nat hm hk
  rw [Int.toNat_natCast] at h
  have hq : m.testBit k = decide (u8and ((m : Int).fdiv (2 ^ (min k IntKind.u8.bits))) 1 = 1) := by
    rw [Bool.eq_iff_iff, decide_eq_true_eq, h]
  rw [hq]
  (refine callS_of_awp (fun w args => Try.call118 ..) Try.func118 rfl (fun w0 m0 wz => ?_); simp only [Try.ntmps118, Try.results118, initT, junks, homeC, hallC, slH, slL, townC, sl, List.toList_toArray, List.cons_append, List.nil_append, List.length_cons, List.length_nil, Nat.reduceAdd, Nat.reduceSub])
  (repeat' (first
 | refine awp_seqK ?_
 | refine kt ?_
 | refine And.intro ?_ ?_
 | ((first | refine awp_stp rfl ?_ | refine awp_draw (by kernel_rfl) (by kernel_rfl) ?_ | refine Imp.le2 ?_ | refine go_split (fun _h => ?_) (fun _h => ?_)) <;> try simp (maxSteps := 4000000) only [go_sem, seval])
 | intro _h
 | refine awp_block ?_
 | refine awp_scope ?_
 | refine cond_b ?_ ?_
 | (show heapOK _ _ = true; kernel_rfl)
 | (show heapOK2 _ _ = true; kernel_rfl)
 | (omega)))
  all_goals first
    | (exact decide_eq_true ‹_›)
    | (exact decide_eq_false ‹_›)
theorem list_c2 (m : Nat) (hm : m < 256) : CallS Try.prog 95 [.int .u8 m] (sl (lst m)) := by
  (refine callS_of_awp (fun w args => Try.call95 ..) Try.func95 rfl (fun w0 m0 wz => ?_); simp only [Try.ntmps95, Try.results95, initT, junks, homeC, hallC, slH, slL, townC, sl, List.toList_toArray, List.cons_append, List.nil_append, List.length_cons, List.length_nil, Nat.reduceAdd, Nat.reduceSub])
  (repeat' (first
 | refine awp_seqK ?_
 | refine kt ?_
 | refine And.intro ?_ ?_
 | ((first | refine awp_stp rfl ?_ | refine awp_draw (by kernel_rfl) (by kernel_rfl) ?_ | refine Imp.le2 ?_ | refine go_split (fun _h => ?_) (fun _h => ?_)) <;> try simp (maxSteps := 4000000) only [go_sem, seval])
 | intro _h
 | refine awp_block ?_
 | refine awp_scope ?_
 | refine cond_b ?_ ?_
 | (show heapOK _ _ = true; kernel_rfl)
 | (show heapOK2 _ _ = true; kernel_rfl)
 | (omega)))
  (refine awp_adT 2 3 1 rfl ?_; simp only [adT, lset, hset, List.length_cons, List.length_nil, Nat.reduceAdd])
  refine awp_loopN 8 (fun k => ⟨mkT 16 [(0, .int .u8 m), (2, .osl 0 (lstN m k).length 0 (lstN m k).length), (4, .int .i64 k)], [some (.cells 3 1 (lstN m k).length (ints (lstN m k)))], []⟩) (.le2 ?_) ?_
  · simp only [lstN]; simp (maxSteps := 4000000) only [go_sem, seval]
  · intro k hk
    have hle := lstN_le (m := m) k
    rcases Nat.lt_or_eq_of_le hk with hk1 | hk1
    · have hin := inS_c m k hm hk1
      cases hb : m.testBit k with
      | true =>
        have e : lstN m (k + 1) = lstN m k ++ [(k : Int)] := by simp [lstN, hb]
        rw [hb] at hin
        rw [e]
        generalize lstN m k = L at *
        simp (maxSteps := 4000000) only [go_sem, seval]
        (repeat' (first
 | ((exfalso; omega))
 | refine awp_seqK ?_
 | refine kt ?_
 | refine And.intro ?_ ?_
 | ((first | refine awp_stp rfl ?_ | refine awp_draw (by kernel_rfl) (by kernel_rfl) ?_ | refine Imp.le2 ?_ | refine callK_of (hin) ?_ | refine go_split (fun _h => ?_) (fun _h => ?_)) <;> try simp (maxSteps := 4000000) only [go_sem, seval])
 | intro _h
 | refine awp_block ?_
 | refine awp_scope ?_
 | refine cond_b ?_ ?_
 | (show heapOK _ _ = true; kernel_rfl)
 | (show heapOK2 _ _ = true; kernel_rfl)
 | (omega)))
        all_goals simp [ints_append, ints_cons, ints_nil]
      | false =>
        have e : lstN m (k + 1) = lstN m k := by simp [lstN, hb]
        rw [hb] at hin
        rw [e]
        generalize lstN m k = L at *
        simp (maxSteps := 4000000) only [go_sem, seval]
        (repeat' (first
 | ((exfalso; omega))
 | refine awp_seqK ?_
 | refine kt ?_
 | refine And.intro ?_ ?_
 | ((first | refine awp_stp rfl ?_ | refine awp_draw (by kernel_rfl) (by kernel_rfl) ?_ | refine Imp.le2 ?_ | refine callK_of (hin) ?_ | refine go_split (fun _h => ?_) (fun _h => ?_)) <;> try simp (maxSteps := 4000000) only [go_sem, seval])
 | intro _h
 | refine awp_block ?_
 | refine awp_scope ?_
 | refine cond_b ?_ ?_
 | (show heapOK _ _ = true; kernel_rfl)
 | (show heapOK2 _ _ = true; kernel_rfl)
 | (omega)))
    · subst hk1
      simp (maxSteps := 4000000) only [go_sem, seval]
      (repeat' (first
 | ((exfalso; omega))
 | refine awp_seqK ?_
 | refine kt ?_
 | refine And.intro ?_ ?_
 | ((first | refine awp_stp rfl ?_ | refine awp_draw (by kernel_rfl) (by kernel_rfl) ?_ | refine Imp.le2 ?_ | refine go_split (fun _h => ?_) (fun _h => ?_)) <;> try simp (maxSteps := 4000000) only [go_sem, seval])
 | intro _h
 | refine awp_block ?_
 | refine awp_scope ?_
 | refine cond_b ?_ ?_
 | (show heapOK _ _ = true; kernel_rfl)
 | (show heapOK2 _ _ = true; kernel_rfl)
 | (omega)))
      all_goals rfl
structure Bus where
  leave : Int
  hall : Int
  homes : List Int
instance : Inhabited Bus := ⟨⟨0, 0, []⟩⟩
def busC (b : Bus) : List AV := [.int .i64 b.leave, .int .i64 b.hall, sl b.homes]
/-- A town that is planned, with its map. -/
def planC (t : Town) (mb : Nat) : List AV := townC t ++ [sl (worstL t), .map mb]
def leaveL (t : Town) (l : List Int) : Nat → Int
  | 0 => 0
  | k + 1 => max (leaveL t l k) ((worstL t).getD (l.getD k 0).toNat 0)
def pplL (t : Town) (l : List Int) : Nat → Int
  | 0 => 0
  | k + 1 => pplL t l k + (t.homes.getD (l.getD k 0).toNat default).people
def ppl (t : Town) (l : List Int) : Int := pplL t l l.length
def mkBus (t : Town) (m : Nat) (i : Int) : Bus := ⟨leaveL t (lst m) (lst m).length, i, lst m⟩
theorem pplL_bd {t : Town} {l : List Int} (ht : TownOK t) (hl : ∀ x ∈ l, 0 ≤ x ∧ x < t.homes.length) : ∀ k, k ≤ l.length → 0 ≤ pplL t l k ∧ pplL t l k ≤ 200 * k
  | 0, _ => by simp [pplL]
  | k + 1, h => by
    have := pplL_bd ht hl k (by omega)
    have h2 := hl _ (getD_mem (d := 0) (i := k) (by omega))
    have h3 := (ht.home (l.getD k 0).toNat (by omega)).people
    simp only [pplL]
    omega
structure Sta where
  rest : Nat
  r0 : Int
  r1 : Int
  r2 : Int
  deriving DecidableEq
def Sta.room (s : Sta) (i : Nat) : Int := if i = 0 then s.r0 else if i = 1 then s.r1 else s.r2
def stC (s : Sta) : List AV := [.int .u8 s.rest, .int .i64 s.r0, .int .i64 s.r1, .int .i64 s.r2]
def kmC (m : List (Sta × Int)) : List (AV × AV) := gmC (fun s : Sta => AV.agg (stC s)) (AV.int .i64) m
def plB (t : Town) (mb : Nat) : Option ABlk := some (.cells 125 1 0 (planC t mb))
theorem worst_at {t : Town} {x : Int} (h : 0 ≤ x ∧ x < t.homes.length) : (worstL t).getD x.toNat 0 = worstN t (t.homes.getD x.toNat default) := by
  have : x.toNat < t.homes.length := by omega
  simp [worstL, List.getD_eq_getElem?_getD, this]
theorem worstN_bd {t : Town} {i : Nat} (ht : TownOK t) (hi : i < t.homes.length) : 0 ≤ worstN t (t.homes.getD i default) ∧ worstN t (t.homes.getD i default) ≤ 2480 := by
  obtain ⟨hh1, hh2⟩ := ht.homes
  have hc := ht.call
  have hm := mul_bd (a := t.homes.length) (A := 8) (b := t.chi) (B := 60) (by omega) (by omega) (by omega) (by omega)
  obtain ⟨_, hp, hw, _⟩ := ht.home i hi
  unfold worstN
  omega
theorem leaveL_bd {t : Town} {l : List Int} (ht : TownOK t) (hl : ∀ x ∈ l, 0 ≤ x ∧ x < t.homes.length) : ∀ k, k ≤ l.length → 0 ≤ leaveL t l k ∧ leaveL t l k ≤ 2480
  | 0, _ => by simp [leaveL]
  | k + 1, h => by
    have := leaveL_bd ht hl k (by omega)
    have h2 := hl _ (getD_mem (d := 0) (i := k) (by omega))
    have h3 := worstN_bd ht (i := (l.getD k 0).toNat) (by omega)
    simp only [leaveL, worst_at h2]
    omega
theorem lst_in {m n : Nat} (hm : m < 2 ^ n) (hn : n ≤ 8) : ∀ x ∈ lst m, 0 ≤ x ∧ x < n := fun x hx => by
  obtain ⟨h1, h2, h3⟩ := lst_mem.1 hx
  refine ⟨h1, ?_⟩
  by_cases h : x.toNat < n
  · omega
  · have h4 : m.testBit x.toNat = false := Nat.testBit_lt_two_pow (Nat.lt_of_lt_of_le hm (Nat.pow_le_pow_right (by omega) (by omega)))
    rw [h4] at h3; cases h3
theorem al_km {q : Nat → Bool} {m : List (Sta × Int)} : ((kmC m).all fun e => live2 q e.1 && live2 q e.2) = true := by
  simp only [kmC, gmC, List.all_map, List.all_eq_true]
  intro e _; rfl
theorem rb_km {σ : Nat → Nat} {m : List (Sta × Int)} : renB σ (.map (kmC m)) = .map (kmC m) := by
  simp only [renB, kmC, gmC, List.map_map]
  congr 1
theorem rf_km {p : Nat → Prop} {m : List (Sta × Int)} : refsB p (.map (kmC m)) = True := by
  rw [eq_iff_iff, iff_true]
  simp only [refsB, kmC, gmC, List.mem_map]
  rintro _ ⟨e, _, rfl⟩
  simp [refs, refsL, stC]
theorem key_st : KeyE (fun s : Sta => AV.agg (stC s)) := fun a b v es => by
  have e : scalEq (stC b) (stC a) = some (decide (a = b)) := by
    have h8 : ∀ {k : IntKind} {x y : Int} {xs ys : List AV}, scalEq (.int k x :: xs) (.int k y :: ys) = (scalEq xs ys).map (decide (x = y) && ·) := fun {k x y xs ys} => by simp only [scalEq, if_true]
    have h9 : scalEq [] [] = some true := rfl
    simp only [stC, h8, h9, Option.map_some, Bool.and_true, Option.some.injEq]
    rw [Bool.eq_iff_iff]
    simp only [Bool.and_eq_true, decide_eq_true_eq]
    obtain ⟨a0, a1, a2, a3⟩ := a
    obtain ⟨b0, b1, b2, b3⟩ := b
    simp only [Sta.mk.injEq]
    omega
  simp only [mapFind, e]
  by_cases h : a = b
  · simp [h]
  · simp [h]
theorem mup_km {m : List (Sta × Int)} {s : Sta} {v : Int} {f : List (AV × AV) → Prop} : mupK (kmC m) (.agg (stC s)) (.int .i64 v) f = f (kmC (gmPut m s v)) := mup_g (eV := AV.int .i64) key_st
theorem mget_ks {m : List (Sta × Int)} {k : Sta} {v : Int} {z : AV} {f : AV → Bool → Prop} (h : gmGet m k = some v) : mgetK (kmC m) (.agg (stC k)) z f = f (.int .i64 v) true := mget_gs (eV := AV.int .i64) key_st h
theorem mget_kn {m : List (Sta × Int)} {k : Sta} {z : AV} {f : AV → Bool → Prop} (h : gmGet m k = none) : mgetK (kmC m) (.agg (stC k)) z f = f z false := mget_gn (eV := AV.int .i64) key_st h
attribute [go_sem] al_km rb_km rf_km
theorem people_c (t : Town) (b : Bus) (K : List (Sta × Int)) (ht : TownOK t) (hl : ∀ x ∈ b.homes, 0 ≤ x ∧ x < t.homes.length) (hn : b.homes.length ≤ 1000000) :
    SemF Try.prog 78 [.ptr 0 0 0, .agg (busC b)] [plB t 1, some (.map (kmC K))] (.int .i64 (ppl t b.homes)) [plB t 1, some (.map (kmC K))] := by
  simp only [plB, planC, busC, sl, townC, slH, slL]
  (refine semF_of_awp (ys := [.int .i64 (ppl t b.homes)]) (fun w args => Try.call78 ..) Try.func78 rfl (fun w0 m0 wz => ?_); simp only [Try.ntmps78, Try.results78, initT, junks, homeC, hallC, slH, slL, townC, sl, List.toList_toArray, List.cons_append, List.nil_append, List.length_cons, List.length_nil, Nat.reduceAdd, Nat.reduceSub])
  (repeat' (first
 | refine awp_seqK ?_
 | refine kt ?_
 | refine And.intro ?_ ?_
 | ((first | refine awp_stp rfl ?_ | refine awp_draw (by kernel_rfl) (by kernel_rfl) ?_ | refine Imp.le2 ?_ | refine go_split (fun _h => ?_) (fun _h => ?_)) <;> try simp (maxSteps := 4000000) only [go_sem, seval])
 | intro _h
 | refine awp_block ?_
 | refine awp_scope ?_
 | refine cond_b ?_ ?_
 | (show heapOK _ _ = true; kernel_rfl)
 | (show heapOK2 _ _ = true; kernel_rfl)
 | (omega)))
  refine awp_loopN b.homes.length (fun k => ⟨mkT 27 [(0, .ptr 0 0 0), (3, .ptr 2 0 0), (4, .int .i64 (pplL t b.homes k)), (8, sl b.homes), (9, .int .i64 b.homes.length), (10, .int .i64 k)], [plB t 1, some (.map (kmC K)), some (.cells 48 1 0 (busC b))], []⟩) (.le2 ?_) ?_
  · simp only [plB, planC, busC, sl, townC, slH, slL]; simp (maxSteps := 4000000) only [go_sem, seval]
    first | rfl | exact ⟨rfl, rfl⟩
  · intro k hk
    have hbd := pplL_bd ht hl k hk
    rcases Nat.lt_or_eq_of_le hk with hk1 | hk1
    · have h2 := hl _ (getD_mem (d := 0) hk1)
      have h3 := (ht.home (b.homes.getD k 0).toNat (by omega)).people
      have e : pplL t b.homes (k + 1) = pplL t b.homes k + (t.homes.getD (b.homes.getD k 0).toNat default).people := rfl
      rw [e]
      simp only [plB, planC, busC, sl, townC, slH, slL]; simp (maxSteps := 4000000) only [go_sem, seval]
      (repeat' (first
 | ((exfalso; omega))
 | refine awp_seqK ?_
 | refine kt ?_
 | refine And.intro ?_ ?_
 | ((first | refine awp_stp rfl ?_ | refine awp_draw (by kernel_rfl) (by kernel_rfl) ?_ | refine Imp.le2 ?_ | refine go_split (fun _h => ?_) (fun _h => ?_)) <;> try simp (maxSteps := 4000000) only [go_sem, seval])
 | intro _h
 | refine awp_block ?_
 | refine awp_scope ?_
 | refine cond_b ?_ ?_
 | (show heapOK _ _ = true; kernel_rfl)
 | (show heapOK2 _ _ = true; kernel_rfl)
 | (omega)))
    · subst hk1
      simp only [plB, planC, busC, sl, townC, slH, slL]; simp (maxSteps := 4000000) only [go_sem, seval]
      (repeat' (first
 | ((exfalso; omega))
 | refine awp_seqK ?_
 | refine kt ?_
 | refine And.intro ?_ ?_
 | ((first | refine awp_stp rfl ?_ | refine awp_draw (by kernel_rfl) (by kernel_rfl) ?_ | refine Imp.le2 ?_ | refine go_split (fun _h => ?_) (fun _h => ?_)) <;> try simp (maxSteps := 4000000) only [go_sem, seval])
 | intro _h
 | refine awp_block ?_
 | refine awp_scope ?_
 | refine cond_b ?_ ?_
 | (show heapOK _ _ = true; kernel_rfl)
 | (show heapOK2 _ _ = true; kernel_rfl)
 | (omega)))
      all_goals rfl
theorem bus_c (t : Town) (m : Nat) (i : Int) (K : List (Sta × Int)) (ht : TownOK t) (hm : m < 2 ^ t.homes.length) :
    SemF Try.prog 77 [.ptr 0 0 0, .int .u8 m, .int .i64 i] [plB t 1, some (.map (kmC K))] (.agg (busC (mkBus t m i))) [plB t 1, some (.map (kmC K))] := by
  have hln := ht.homes
  have hm8 : m < 256 := Nat.lt_of_lt_of_le hm (show 2 ^ t.homes.length ≤ 2 ^ 8 from Nat.pow_le_pow_right (by omega) (by omega))
  have hli := list_c2 m hm8
  have hin := lst_in hm (by omega)
  have hwl := worstL_length (t := t)
  have hl8 : (lst m).length ≤ 8 := lstN_le 8
  have el : leaveL t (lst m) (lst m).length = (mkBus t m i).leave := rfl
  simp only [sl] at hli
  simp only [plB, planC, busC, sl, townC, slH, slL]
  (refine semF_of_awp (ys := [.agg (busC (mkBus t m i))]) (fun w args => Try.call77 ..) Try.func77 rfl (fun w0 m0 wz => ?_); simp only [Try.ntmps77, Try.results77, initT, junks, homeC, hallC, slH, slL, townC, sl, List.toList_toArray, List.cons_append, List.nil_append, List.length_cons, List.length_nil, Nat.reduceAdd, Nat.reduceSub])
  (repeat' (first
 | refine awp_seqK ?_
 | refine kt ?_
 | refine And.intro ?_ ?_
 | ((first | refine awp_stp rfl ?_ | refine awp_draw (by kernel_rfl) (by kernel_rfl) ?_ | refine Imp.le2 ?_ | refine callK_of (hli) ?_ | refine go_split (fun _h => ?_) (fun _h => ?_)) <;> try simp (maxSteps := 4000000) only [go_sem, seval])
 | intro _h
 | refine awp_block ?_
 | refine awp_scope ?_
 | refine cond_b ?_ ?_
 | (show heapOK _ _ = true; kernel_rfl)
 | (show heapOK2 _ _ = true; kernel_rfl)
 | (omega)))
  refine awp_loopN (lst m).length (fun k => ⟨mkT 35 [(0, .ptr 0 0 0), (1, .int .u8 m), (2, .int .i64 i), (6, .ptr 2 0 0), (7, .ptr 3 0 0), (15, sl (lst m)), (16, .int .i64 (lst m).length), (17, .int .i64 k)], [plB t 1, some (.map (kmC K)), some (.cells 48 1 0 [.int .i64 0, .int .i64 0, .nils]), some (.cells 48 1 0 [.int .i64 (leaveL t (lst m) k), .int .i64 i, sl (lst m)])], []⟩) (.le2 ?_) ?_
  · simp only [plB, planC, busC, sl, townC, slH, slL]; simp (maxSteps := 4000000) only [go_sem, seval]
    first | rfl | exact ⟨rfl, rfl⟩
  · intro k hk
    have hbd := leaveL_bd ht hin k hk
    rcases Nat.lt_or_eq_of_le hk with hk1 | hk1
    · have h2 := hin _ (getD_mem (d := 0) hk1)
      have h3 := worstN_bd ht (i := ((lst m).getD k 0).toNat) (by omega)
      have e : leaveL t (lst m) (k + 1) = max (leaveL t (lst m) k) ((worstL t).getD ((lst m).getD k 0).toNat 0) := rfl
      rw [e]
      simp only [plB, planC, busC, sl, townC, slH, slL]; simp (maxSteps := 4000000) only [go_sem, seval]
      (repeat' (first
 | ((exfalso; omega))
 | refine awp_seqK ?_
 | refine kt ?_
 | refine And.intro ?_ ?_
 | ((first | refine awp_stp rfl ?_ | refine awp_draw (by kernel_rfl) (by kernel_rfl) ?_ | refine Imp.le2 ?_ | refine callK_of (latest_c _ _ _) ?_ | refine go_split (fun _h => ?_) (fun _h => ?_)) <;> try simp (maxSteps := 4000000) only [go_sem, seval])
 | intro _h
 | refine awp_block ?_
 | refine awp_scope ?_
 | refine cond_b ?_ ?_
 | (show heapOK _ _ = true; kernel_rfl)
 | (show heapOK2 _ _ = true; kernel_rfl)
 | (omega)))
      all_goals trace_state
    · subst hk1
      simp only [plB, planC, busC, sl, townC, slH, slL]; simp (maxSteps := 4000000) only [go_sem, seval]
      (repeat' (first
 | ((exfalso; omega))
 | refine awp_seqK ?_
 | refine kt ?_
 | refine And.intro ?_ ?_
 | ((first | refine awp_stp rfl ?_ | refine awp_draw (by kernel_rfl) (by kernel_rfl) ?_ | refine Imp.le2 ?_ | refine go_split (fun _h => ?_) (fun _h => ?_)) <;> try simp (maxSteps := 4000000) only [go_sem, seval])
 | intro _h
 | refine awp_block ?_
 | refine awp_scope ?_
 | refine cond_b ?_ ?_
 | (show heapOK _ _ = true; kernel_rfl)
 | (show heapOK2 _ _ = true; kernel_rfl)
 | (omega)))
      all_goals rfl
end Go.Am

/- Lists of words. -/
namespace Go.Am
open Go.RowKit Go.Proofs
set_option linter.unusedSimpArgs false
set_option linter.unusedVariables false
end Go.Am

/- What the arguments of the away laws can be read as. -/
namespace Go.Am
open Go.RowKit Go.Proofs Go.ChangeShapes
section
variable {H : Type} {en : TypeId × Value → H} {P : Program} {w : World} {base : Nat} {sp : Nat → Bool} {held : Bool}
theorem arg_slice {rc : Reach} {b0 : Nat} {t e : TypeId} {v : Value} {d : DataW H} {p : List MemPlace} {α : Type} {x : α → AV} {ok : α → Prop} (hu : P.underlying t = some (.slice e)) (r : Reads P t 1 (fun a => [x a]) ok)
    (hv : Value.okWide P w rc b0 t v) (h : DataW.Trod en P w base sp held t v d p) : ∃ a, ok a ∧ PRep (fun c => c < w.heap.size) w (x a) v := by
  refine arg_one r ?_ h
  cases v
  case agg cs => exact absurd hv (by simp [Value.okWide, Cell.okWide, Cell.ok, hu])
  all_goals rfl
theorem arg_int {rc : Reach} {b0 : Nat} {t : TypeId} {k : IntKind} {v : Value} {d : DataW H} {p : List MemPlace} {α : Type} {x : α → AV} {ok : α → Prop} (hu : P.underlying t = some (.int k)) (r : Reads P t 1 (fun a => [x a]) ok)
    (hv : Value.okWide P w rc b0 t v) (h : DataW.Trod en P w base sp held t v d p) : ∃ a, ok a ∧ PRep (fun c => c < w.heap.size) w (x a) v := by
  refine arg_one r ?_ h
  cases v
  case agg cs => exact absurd hv (by simp [Value.okWide, Cell.okWide, Cell.ok, hu])
  all_goals rfl
theorem arg_bool {rc : Reach} {b0 : Nat} {t : TypeId} {v : Value} {d : DataW H} {p : List MemPlace} {α : Type} {x : α → AV} {ok : α → Prop} (hu : P.underlying t = some .bool) (r : Reads P t 1 (fun a => [x a]) ok)
    (hv : Value.okWide P w rc b0 t v) (h : DataW.Trod en P w base sp held t v d p) : ∃ a, ok a ∧ PRep (fun c => c < w.heap.size) w (x a) v := by
  refine arg_one r ?_ h
  cases v
  case agg cs => exact absurd hv (by simp [Value.okWide, Cell.okWide, Cell.ok, hu])
  all_goals rfl
variable {enc : TypeId × Value → H} {spare : Nat → Bool}
theorem trodAll_five {t0 t1 t2 t3 t4 : TypeId} {args : Array Value} {ds : List (DataW H)} {ps : List MemPlace} (h : DataW.TrodAll enc P w base spare held [t0, t1, t2, t3, t4] args.toList ds ps) :
    ∃ v0 v1 v2 v3 v4 d0 d1 d2 d3 d4 p0 p1 p2 p3 p4, args = #[v0, v1, v2, v3, v4] ∧ ds = [d0, d1, d2, d3, d4] ∧ ps = p0 ++ p1 ++ p2 ++ p3 ++ p4 ∧ DataW.Trod enc P w base spare held t0 v0 d0 p0 ∧ DataW.Trod enc P w base spare held t1 v1 d1 p1 ∧
      DataW.Trod enc P w base spare held t2 v2 d2 p2 ∧ DataW.Trod enc P w base spare held t3 v3 d3 p3 ∧ DataW.Trod enc P w base spare held t4 v4 d4 p4 := by
  obtain ⟨v0, _, d0, _, p0, _, hargs, rfl, rfl, h0, r0⟩ := trodAll_cons h
  obtain ⟨v1, _, d1, _, p1, _, rfl, rfl, rfl, h1, r1⟩ := trodAll_cons r0
  obtain ⟨v2, _, d2, _, p2, _, rfl, rfl, rfl, h2, r2⟩ := trodAll_cons r1
  obtain ⟨v3, _, d3, _, p3, _, rfl, rfl, rfl, h3, r3⟩ := trodAll_cons r2
  obtain ⟨v4, _, d4, _, p4, _, rfl, rfl, rfl, h4, r4⟩ := trodAll_cons r3
  obtain ⟨rfl, rfl, rfl⟩ := trodAll_nil r4
  exact ⟨v0, v1, v2, v3, v4, d0, d1, d2, d3, d4, p0, p1, p2, p3, p4, by cases args; simp_all, rfl, by simp, h0, h1, h2, h3, h4⟩
end
theorem okI_u8 {n : Int} (h : okI .u8 n) : 0 ≤ n ∧ n ≤ 255 := by
  unfold okI at h
  simpa [Lit.wf, IntKind.has, IntKind.min, IntKind.max, IntKind.signed, IntKind.bits] using h
theorem okI_i8 {n : Int} (h : okI .i8 n) : -128 ≤ n ∧ n ≤ 127 := by
  unfold okI at h
  simpa [Lit.wf, IntKind.has, IntKind.min, IntKind.max, IntKind.signed, IntKind.bits] using h
theorem okI_i64 {n : Int} (h : okI .i64 n) : -9223372036854775808 ≤ n ∧ n ≤ 9223372036854775807 := by
  unfold okI at h
  simpa [Lit.wf, IntKind.has, IntKind.min, IntKind.max, IntKind.signed, IntKind.bits] using h
theorem rd3 : Reads Try.prog 3 1 (fun n : Int => [.int .i64 n]) (okI .i64) := reads_int Try.underlying3 (by kernel_rfl)
theorem rd4 : Reads Try.prog 4 1 (fun b : Bool => [.bool b]) (fun _ => True) := reads_bool Try.underlying4 (by kernel_rfl)
theorem rd5 : Reads Try.prog 5 1 (fun n : Int => [.int .u8 n]) (okI .u8) := reads_int Try.underlying5 (by kernel_rfl)
theorem rd61 : Reads Try.prog 61 1 (fun n : Int => [.int .i8 n]) (okI .i8) := reads_int Try.underlying61 (by kernel_rfl)
/-- Numbers that an int can be. -/
def okL (l : List Int) : Prop := l.length ≤ 9223372036854775807 ∧ ∀ a ∈ l, -9223372036854775808 ≤ a ∧ a ≤ 9223372036854775807
theorem rd46 : Reads Try.prog 46 1 (fun l : List Int => [sl l]) okL :=
  (reads_slice Try.underlying46 (by kernel_rfl) (by omega) rd3).conv id _ _ (fun _ => rfl) (fun l => by simp only [sl, ints, id]; congr 2; induction l with | nil => rfl | cons a l ih => simp_all) (fun l h => ⟨h.1, fun a ha => okI_i64 (h.2 a ha)⟩)
theorem rd25 : Reads Try.prog 25 2 (fun p : Int × Int => [.int .i64 p.1, .int .i64 p.2]) (fun _ => True) :=
  (reads_struct Try.underlying25 (by kernel_rfl) (readsF_cons rfl rd3 (readsF_cons rfl rd3 readsF_nil))).conv (fun p => (p.1, p.2.1)) _ _ (fun _ => rfl) (fun _ => rfl) (fun _ _ => trivial)
theorem rd45 : Reads Try.prog 45 6 homeC (fun h => 0 ≤ h.pets ∧ h.pets ≤ 255) :=
  (reads_struct Try.underlying45 (by kernel_rfl) (readsF_cons rfl rd3 (readsF_cons rfl rd5 (readsF_cons rfl rd25 (readsF_cons rfl rd3 (readsF_cons rfl rd3 readsF_nil)))))).conv (fun p => ⟨p.1, p.2.1, p.2.2.1.1, p.2.2.1.2, p.2.2.2.1, p.2.2.2.2.1⟩) _ _ (fun _ => rfl) (fun _ => rfl) (fun _ h => okI_u8 h.2.1)
theorem rd56 : Reads Try.prog 56 3 hallC (fun h => 0 ≤ h.pets ∧ h.pets ≤ 255) :=
  (reads_struct Try.underlying56 (by kernel_rfl) (readsF_cons rfl rd3 (readsF_cons rfl rd5 (readsF_cons rfl rd3 readsF_nil)))).conv (fun p => ⟨p.1, p.2.1, p.2.2.1⟩) _ _ (fun _ => rfl) (fun _ => rfl) (fun _ h => okI_u8 h.2.1)
theorem rd22 : Reads Try.prog 22 1 (fun l : List Home => [slH l]) (fun l => l.length ≤ 9223372036854775807 ∧ ∀ h ∈ l, 0 ≤ h.pets ∧ h.pets ≤ 255) :=
  (reads_slice Try.underlying22 (by kernel_rfl) (by omega) rd45).conv id _ _ (fun _ => rfl) (fun l => rfl) (fun l h => h)
theorem rd23 : Reads Try.prog 23 1 (fun l : List Hall => [slL l]) (fun l => l.length ≤ 9223372036854775807 ∧ ∀ h ∈ l, 0 ≤ h.pets ∧ h.pets ≤ 255) :=
  (reads_slice Try.underlying23 (by kernel_rfl) (by omega) rd56).conv id _ _ (fun _ => rfl) (fun l => rfl) (fun l h => h)
/-- A town as it can be handed in. -/
structure TownR (t : Town) : Prop where
  homes : ∀ h ∈ t.homes, 0 ≤ h.pets ∧ h.pets ≤ 255
  halls : ∀ h ∈ t.halls, 0 ≤ h.pets ∧ h.pets ≤ 255
theorem rd27 : Reads Try.prog 27 5 townC TownR :=
  (reads_struct Try.underlying27 (by kernel_rfl) (readsF_cons rfl rd22 (readsF_cons rfl rd23 (readsF_cons rfl rd3 (readsF_cons rfl rd25 readsF_nil))))).conv (fun p => ⟨p.1, p.2.1, p.2.2.1, p.2.2.2.1.1, p.2.2.2.1.2⟩) _ _ (fun _ => rfl) (fun _ => rfl) (fun _ h => ⟨h.1.2, h.2.1.2⟩)
theorem rd49 : Reads Try.prog 49 3 busC (fun b => okL b.homes ∧ (-9223372036854775808 ≤ b.leave ∧ b.leave ≤ 9223372036854775807) ∧ -9223372036854775808 ≤ b.hall ∧ b.hall ≤ 9223372036854775807) :=
  (reads_struct Try.underlying49 (by kernel_rfl) (readsF_cons rfl rd3 (readsF_cons rfl rd3 (readsF_cons rfl rd46 readsF_nil)))).conv (fun p => ⟨p.1, p.2.1, p.2.2.1⟩) _ _ (fun _ => rfl) (fun _ => rfl) (fun _ h => ⟨h.2.2.1, okI_i64 h.1, okI_i64 h.2.1⟩)
def okP (l : List Bus) : Prop := l.length ≤ 9223372036854775807 ∧ ∀ b ∈ l, okL b.homes ∧ (-9223372036854775808 ≤ b.leave ∧ b.leave ≤ 9223372036854775807) ∧ -9223372036854775808 ≤ b.hall ∧ b.hall ≤ 9223372036854775807
theorem rd28 : Reads Try.prog 28 1 (fun l : List Bus => [.psl false l.length (recs busC l)]) okP :=
  (reads_slice Try.underlying28 (by kernel_rfl) (by omega) rd49).conv id _ _ (fun _ => rfl) (fun l => rfl) (fun l h => h)
end Go.Am
