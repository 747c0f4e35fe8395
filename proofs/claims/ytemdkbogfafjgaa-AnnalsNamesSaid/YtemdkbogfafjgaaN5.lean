/- Parts UbA, Xo, Xk, UbB, UbC, UbD, UbM, UbE, UeA, UeB, UiE of the proof, one behind the other. No statement is proved here. -/
import Derived.Test.YtemdkbogfafjgaaN4
import Derived.KernelRfl
import Derived.Test.YtemdkbogfafjgaaN3
set_option linter.unusedVariables false -- all
set_option linter.unusedSimpArgs false
namespace Go.Am
set_option linter.unusedSimpArgs false
set_option linter.unusedVariables false
def ndiff (a b : Nat) : Nat := a &&& (255 ^^^ b)
def u8and (a b : Int) : Int := IntKind.u8.wrap (BitVec.ofInt IntKind.u8.bits a &&& BitVec.ofInt IntKind.u8.bits b).toNat
theorem wrap_nat {n : Nat} (h : n < 256) : IntKind.u8.wrap (n : Int) = n := by
 have h1 : IntKind.u8.wrap (n : Int) = ((n : Int) % 256) := rfl
 rw [h1]; omega
theorem ofInt_nat {a : Nat} : (BitVec.ofInt IntKind.u8.bits (a : Int)) = BitVec.ofNat 8 a := BitVec.ofInt_natCast _ _
theorem u8and_nat {a b : Nat} (ha : a < 256) (hb : b < 256) : u8and a b = ((a &&& b : Nat) : Int) := by
 have : (BitVec.ofNat 8 a &&& BitVec.ofNat 8 b).toNat = a &&& b := by
  rw [BitVec.toNat_and, BitVec.toNat_ofNat, BitVec.toNat_ofNat, Nat.mod_eq_of_lt (by omega), Nat.mod_eq_of_lt (by omega)]
 unfold u8and
 rw [ofInt_nat, ofInt_nat]
 show IntKind.u8.wrap ((BitVec.ofNat 8 a &&& BitVec.ofNat 8 b).toNat : Int) = _
 rw [this, wrap_nat (Nat.lt_of_le_of_lt Nat.and_le_left ha)]
theorem andn_nat {a b : Nat} (ha : a < 256) (hb : b < 256) : IntKind.u8.wrap (BitVec.ofInt IntKind.u8.bits a &&& ~~~ BitVec.ofInt IntKind.u8.bits b).toNat = ((ndiff a b : Nat) : Int) := by
 have h255 : (255 ^^^ b) = 255 - b := by
  have := (List.all_eq_true.1 (show (List.range 256).all (fun b => (255 ^^^ b) == 255 - b) = true by kernel_rfl)) b (by simpa using hb)
  simpa using this
 have : (BitVec.ofNat 8 a &&& ~~~ BitVec.ofNat 8 b).toNat = ndiff a b := by
  rw [BitVec.toNat_and, BitVec.toNat_not, BitVec.toNat_ofNat, BitVec.toNat_ofNat, Nat.mod_eq_of_lt (by omega), Nat.mod_eq_of_lt (by omega)]
  unfold ndiff
  rw [h255]
 rw [ofInt_nat, ofInt_nat]
 show IntKind.u8.wrap ((BitVec.ofNat 8 a &&& ~~~ BitVec.ofNat 8 b).toNat : Int) = _
 rw [this, wrap_nat (n := ndiff a b) (Nat.lt_of_le_of_lt Nat.and_le_left ha)]
theorem sub_nat {m : Nat} (h : m < 256) (h0 : m ≠ 0) : IntKind.u8.wrap ((m : Int) - 1) = ((m - 1 : Nat) : Int) := by
 have h1 : IntKind.u8.wrap ((m : Int) - 1) = (((m : Int) - 1) % 256) := rfl
 rw [h1]; omega
theorem shr_nat {m k : Nat} (h : m < 256) (hk : k < 8) : (u8and ((m : Int).fdiv (2 ^ (min (k : Int).toNat IntKind.u8.bits))) 1 = 1) = (m.testBit k = true) := by
 have e1 : min (k : Int).toNat IntKind.u8.bits = k := by
  have : IntKind.u8.bits = 8 := rfl
  rw [this]; omega
 have e2 : (m : Int).fdiv (2 ^ k) = ((m / 2 ^ k : Nat) : Int) := by
  rw [show ((2 : Int) ^ k) = ((2 ^ k : Nat) : Int) by simp]
  rw [Int.fdiv_eq_ediv_of_nonneg _ (Int.natCast_nonneg _)]; rfl
 have e3 : m / 2 ^ k < 256 := Nat.lt_of_le_of_lt (Nat.div_le_self _ _) h
 rw [e1, e2, show (1 : Int) = ((1 : Nat) : Int) from rfl, u8and_nat e3 (by omega), Nat.testBit_eq_decide_div_mod_eq]
 rw [Nat.and_one_is_mod]
 simp only [decide_eq_true_eq, eq_iff_iff]
 omega
theorem ndiff_lt {a b : Nat} (h : a < 256) : ndiff a b < 256 := Nat.lt_of_le_of_lt Nat.and_le_left h
theorem ndiff_bit {a b i : Nat} (hi : i < 8) : (ndiff a b).testBit i = (a.testBit i && !b.testBit i) := by
 unfold ndiff
 rw [Nat.testBit_and, Nat.testBit_xor]
 have : (255 : Nat).testBit i = true := by
  have := (List.all_eq_true.1 (show (List.range 8).all (fun i => (255 : Nat).testBit i) = true by kernel_rfl)) i (by simpa using hi)
  exact this
 rw [this]; simp
def lstN (m : Nat) : Nat → List Int
 | 0 => []
 | k + 1 => if m.testBit k = true then lstN m k ++ [(k : Int)] else lstN m k
def lst (m : Nat) : List Int := lstN m 8
def subsF (o : Nat) : Nat → Nat → List Nat
 | 0, m => [m]
 | f + 1, m => m :: if m = 0 then [] else subsF o f ((m - 1) &&& o)
theorem subsF_fuel {o : Nat} : ∀ (f g m : Nat), m ≤ f → m ≤ g → subsF o f m = subsF o g m
 | 0, 0, m, _, _ => rfl
 | 0, g + 1, m, h, _ => by
   have : m = 0 := by omega
   subst this; simp [subsF]
 | f + 1, 0, m, _, h => by
   have : m = 0 := by omega
   subst this; simp [subsF]
 | f + 1, g + 1, m, h1, h2 => by
   simp only [subsF]
   by_cases h0 : m = 0
   ·simp [h0]
   ·have : (m - 1) &&& o ≤ m - 1 := Nat.and_le_left
    rw [if_neg h0, if_neg h0, subsF_fuel f g _ (by omega) (by omega)]
def leq : List Nat → List Nat → Bool
 | [], [] => true
 | a :: l, b :: l' => Nat.beq a b && leq l l'
 | _, _ => false
end Go.Am
namespace Go.Am
open Go.RowKit
set_option linter.unusedSimpArgs false
set_option linter.unusedVariables false
end Go.Am
namespace Go.Am
open Go.RowKit
set_option linter.unusedSimpArgs false
set_option linter.unusedVariables false
end Go.Am
namespace Go.Am
open Go.RowKit Go.Proofs
attribute [local irreducible] AWP zO Kt goK CallK zT zR SemF SemY Imp
set_option maxRecDepth 4000
set_option linter.unusedSimpArgs false
set_option linter.unusedVariables false
set_option maxHeartbeats 1600000
def andn (a b : Int) : Int := IntKind.u8.wrap (BitVec.ofInt IntKind.u8.bits a &&& ~~~ BitVec.ofInt IntKind.u8.bits b).toNat
theorem bin_andn {P : Program} {t : TypeId} {a b : Int} {K : AV → Prop} : binK P .andNot t (.int .u8 a) (.int .u8 b) K = K (.int .u8 (andn a b)) := by simp [binK, binInt, bits, andn]
attribute [go_sem] bin_andn
theorem bin_u8and {P : Program} {t : TypeId} {a b : Int} {K : AV → Prop} : binK P .and t (.int .u8 a) (.int .u8 b) K = K (.int .u8 (u8and a b)) := by simp [binK, binInt, bits, u8and]
theorem bin_shr {P : Program} {t : TypeId} {a b : Int} {k k' : IntKind} {K : AV → Prop} : binK P .shr t (.int k a) (.int k' b) K = (0 ≤ b ∧ K (.int k (a.fdiv (2 ^ (min b.toNat k.bits))))) := by simp [binK, binInt]
theorem bin_shl {P : Program} {t : TypeId} {a b : Int} {k k' : IntKind} {K : AV → Prop} : binK P .shl t (.int k a) (.int k' b) K = (0 ≤ b ∧ K (.int k (k.wrap (a * 2 ^ (min b.toNat k.bits))))) := by simp [binK, binInt]
theorem bin_sub8 {P : Program} {t : TypeId} {a b : Int} {K : AV → Prop} : binK P .sub t (.int .u8 a) (.int .u8 b) K = K (.int .u8 (IntKind.u8.wrap (a - b))) := by simp [binK, binInt, arith]
attribute [go_sem] bin_u8and bin_shr bin_shl bin_sub8
theorem andn_nat2 {a b : Nat} (ha : a < 256) (hb : b < 256) : andn a b = ((ndiff a b : Nat) : Int) := andn_nat ha hb
theorem inS_c (m k : Nat) (hm : m < 256) (hk : k < 8) : zO Try.prog 88 [.int .u8 m, .int .i64 k] (.bool (m.testBit k)) := by
 have h := shr_nat hm hk
 rw [Int.toNat_natCast] at h
 have hq : m.testBit k = decide (u8and ((m : Int).fdiv (2 ^ (min k IntKind.u8.bits))) 1 = 1) := by
  rw [Bool.eq_iff_iff, decide_eq_true_eq, h]
 rw [hq]
 (refine zG (fun w args => Try.call88 ..) Try.func88 rfl (fun w0 m0 wz => ?_); simp only [Try.ntmps88, Try.results88, zN, zP, zU, zV, slR, slC, zL, sl, List.toList_toArray, List.cons_append, List.nil_append, List.length_cons, List.length_nil, Nat.reduceAdd, Nat.reduceSub])
 (repeat' (first
 | refine zC ?_
 | refine kt ?_
 | refine And.intro ?_ ?_
 | ((first | refine awp_stp rfl ?_ | refine awp_draw (by kernel_rfl) (by kernel_rfl) ?_ | refine Imp.le2 ?_ | refine go_split (fun _h => ?_) (fun _h => ?_)) <;> try simp (maxSteps := 4000000) only [go_sem, seval])
 | intro _h
 | refine zA ?_
 | refine zB ?_
 | refine zF ?_ ?_
 | (show zE _ _ = true; kernel_rfl)
 | (show zD _ _ = true; kernel_rfl)
 | (omega)))
 all_goals first
 | (exact decide_eq_true ‹_›)
 | (exact decide_eq_false ‹_›)
def tz (m : Nat) : Nat := (List.range 8).findIdx fun k => m.testBit k
def entU (g : FuncId) : Bool := Nat.ble 105 g && Nat.ble g 106
theorem entU_all : (List.range' 105 2).all (entB Try.prog) = true := by kernel_rfl
theorem entU_ok (g : FuncId) (h : entU g = true) : Enters Try.prog g := by
 simp only [entU, Bool.and_eq_true, Nat.ble_eq] at h
 refine enters_of ?_
 have := List.all_eq_true.1 entU_all g (by rw [List.mem_range']; exact ⟨g - 105, by omega, by omega⟩)
 exact this
theorem mixedU : Try.prog.follows .mixedOrders = true := by kernel_rfl
noncomputable def tzB (m : Nat) : Bool := match pcallX (xcall Try.prog (fun _ => true) (fun _ => true) entU 2000 60) 106 [.int .u8 m] with
 | some (.int .i64 n) => decide (n = (tz m : Int))
 | _ => false
set_option maxRecDepth 100000 in
theorem tz_all : (List.range 256).all tzB = true := by kernel_rfl
theorem tz_c (m : Nat) (hm : m < 256) : zO Try.prog 106 [.int .u8 m] (.int .i64 (tz m)) := by
 have h := List.all_eq_true.1 tz_all m (by simpa using hm)
 unfold tzB at h
 split at h
 ·rename_i n hx
  rw [← of_decide_eq_true h]
  exact callS_run (eqt := fun _ => true) (pm := fun _ => true) (ent := entU) (lf := 2000) (n := 60) (fun t _ => eqOK t) entU_ok mixedU hx
 ·cases h
def hold1 (c : Clm) (now later : Nat) : Bool := !now.testBit c.b.toNat || (!now.testBit c.a.toNat && !later.testBit c.a.toNat)
def hold2 (c : Clm) (now : Nat) : Bool := now.testBit c.a.toNat == now.testBit c.b.toNat
def hold3 (c : Clm) (now : Nat) : Bool := !now.testBit c.a.toNat || !now.testBit c.b.toNat
structure ClmIn (c : Clm) : Prop where
 a : 0 ≤ c.a ∧ c.a < 8
 b : 0 ≤ c.b ∧ c.b < 8
theorem inI_c (m : Nat) (k : Int) (hm : m < 256) (hk : 0 ≤ k ∧ k < 8) : zO Try.prog 88 [.int .u8 m, .int .i64 k] (.bool (m.testBit k.toNat)) := by
 have := inS_c m k.toNat hm (by omega)
 rwa [show ((k.toNat : Nat) : Int) = k by omega] at this
theorem kind1_c (c : Clm) (now later : Nat) (hc : ClmIn c) (h1 : now < 256) (h2 : later < 256) : zO Try.prog 115 [.agg (zV c), .int .u8 now, .int .u8 later] (.bool (hold1 c now later)) := by
 have i1 := inI_c now c.b h1 hc.b
 have i2 := inI_c now c.a h1 hc.a
 have i3 := inI_c later c.a h2 hc.a
 unfold hold1
 generalize now.testBit c.b.toNat = q1 at *
 generalize now.testBit c.a.toNat = q2 at *
 generalize later.testBit c.a.toNat = q3 at *
 (refine zG (fun w args => Try.call115 ..) Try.func115 rfl (fun w0 m0 wz => ?_); simp only [Try.ntmps115, Try.results115, zN, zP, zU, zV, slR, slC, zL, sl, List.toList_toArray, List.cons_append, List.nil_append, List.length_cons, List.length_nil, Nat.reduceAdd, Nat.reduceSub])
 (repeat' (first
 | refine zC ?_
 | refine kt ?_
 | refine And.intro ?_ ?_
 | ((first | refine awp_stp rfl ?_ | refine awp_draw (by kernel_rfl) (by kernel_rfl) ?_ | refine Imp.le2 ?_ | refine callK_of (i1) ?_ | refine callK_of (i2) ?_ | refine callK_of (i3) ?_ | refine go_split (fun _h => ?_) (fun _h => ?_)) <;> try simp (maxSteps := 4000000) only [go_sem, seval])
 | intro _h
 | refine zA ?_
 | refine zB ?_
 | refine zF ?_ ?_
 | (show zE _ _ = true; kernel_rfl)
 | (show zD _ _ = true; kernel_rfl)
 | (omega)))
 all_goals first | rfl | (simp [*]; done) | (subst_vars; rfl) | trace_state
theorem kind2_c (c : Clm) (now later : Nat) (hc : ClmIn c) (h1 : now < 256) (h2 : later < 256) : zO Try.prog 116 [.agg (zV c), .int .u8 now, .int .u8 later] (.bool (hold2 c now)) := by
 have i1 := inI_c now c.b h1 hc.b
 have i2 := inI_c now c.a h1 hc.a
 unfold hold2
 generalize now.testBit c.b.toNat = q1 at *
 generalize now.testBit c.a.toNat = q2 at *
 (refine zG (fun w args => Try.call116 ..) Try.func116 rfl (fun w0 m0 wz => ?_); simp only [Try.ntmps116, Try.results116, zN, zP, zU, zV, slR, slC, zL, sl, List.toList_toArray, List.cons_append, List.nil_append, List.length_cons, List.length_nil, Nat.reduceAdd, Nat.reduceSub])
 (repeat' (first
 | refine zC ?_
 | refine kt ?_
 | refine And.intro ?_ ?_
 | ((first | refine awp_stp rfl ?_ | refine awp_draw (by kernel_rfl) (by kernel_rfl) ?_ | refine Imp.le2 ?_ | refine callK_of (i1) ?_ | refine callK_of (i2) ?_ | refine go_split (fun _h => ?_) (fun _h => ?_)) <;> try simp (maxSteps := 4000000) only [go_sem, seval])
 | intro _h
 | refine zA ?_
 | refine zB ?_
 | refine zF ?_ ?_
 | (show zE _ _ = true; kernel_rfl)
 | (show zD _ _ = true; kernel_rfl)
 | (omega)))
 all_goals first | rfl | (simp [*]; done) | exact absurd ‹(true == true) = false› (by decide) | exact absurd ‹(false == false) = false› (by decide) | exact absurd ‹(true == false) = true› (by decide) | exact absurd ‹(false == true) = true› (by decide) | trace_state
theorem kind3_c (c : Clm) (now later : Nat) (hc : ClmIn c) (h1 : now < 256) (h2 : later < 256) : zO Try.prog 117 [.agg (zV c), .int .u8 now, .int .u8 later] (.bool (hold3 c now)) := by
 have i1 := inI_c now c.b h1 hc.b
 have i2 := inI_c now c.a h1 hc.a
 unfold hold3
 generalize now.testBit c.b.toNat = q1 at *
 generalize now.testBit c.a.toNat = q2 at *
 (refine zG (fun w args => Try.call117 ..) Try.func117 rfl (fun w0 m0 wz => ?_); simp only [Try.ntmps117, Try.results117, zN, zP, zU, zV, slR, slC, zL, sl, List.toList_toArray, List.cons_append, List.nil_append, List.length_cons, List.length_nil, Nat.reduceAdd, Nat.reduceSub])
 (repeat' (first
 | refine zC ?_
 | refine kt ?_
 | refine And.intro ?_ ?_
 | ((first | refine awp_stp rfl ?_ | refine awp_draw (by kernel_rfl) (by kernel_rfl) ?_ | refine Imp.le2 ?_ | refine callK_of (i1) ?_ | refine callK_of (i2) ?_ | refine go_split (fun _h => ?_) (fun _h => ?_)) <;> try simp (maxSteps := 4000000) only [go_sem, seval])
 | intro _h
 | refine zA ?_
 | refine zB ?_
 | refine zF ?_ ?_
 | (show zE _ _ = true; kernel_rfl)
 | (show zD _ _ = true; kernel_rfl)
 | (omega)))
 all_goals first | rfl | (simp [*]; done) | (subst_vars; rfl) | trace_state
theorem kinds_c : zO Try.prog 105 [] (.psl true 3 [.fn (.func 115) [] [], .fn (.func 116) [] [], .fn (.func 117) [] []]) := by
 (refine zG (fun w args => Try.call105 ..) Try.func105 rfl (fun w0 m0 wz => ?_); simp only [Try.ntmps105, Try.results105, zN, zP, zU, zV, slR, slC, zL, sl, List.toList_toArray, List.cons_append, List.nil_append, List.length_cons, List.length_nil, Nat.reduceAdd, Nat.reduceSub])
 (repeat' (first
 | refine zC ?_
 | refine kt ?_
 | refine And.intro ?_ ?_
 | ((first | refine awp_stp rfl ?_ | refine awp_draw (by kernel_rfl) (by kernel_rfl) ?_ | refine Imp.le2 ?_ | refine go_split (fun _h => ?_) (fun _h => ?_)) <;> try simp (maxSteps := 4000000) only [go_sem, seval])
 | intro _h
 | refine zA ?_
 | refine zB ?_
 | refine zF ?_ ?_
 | (show zE _ _ = true; kernel_rfl)
 | (show zD _ _ = true; kernel_rfl)
 | (omega)))
 all_goals first | (cases ‹_ = AV.junk›; done) | (simp [avSub]; done) | trace_state
end Go.Am
namespace Go.Am
open Go.RowKit Go.Proofs
attribute [local irreducible] AWP zO Kt goK CallK zT zR SemF SemY Imp
set_option maxRecDepth 4000
set_option linter.unusedSimpArgs false
set_option linter.unusedVariables false
set_option maxHeartbeats 1600000
structure Ste where
 rest : Nat
 day : Int
 slopes : List Int
 frm : List Int
 deriving DecidableEq
def stC (s : Ste) : List AV := .int .u8 s.rest :: .int .i64 s.day :: (zS s.slopes ++ zS s.frm)
def begS (t : Ann) : Ste := ⟨2 ^ t.reports.length - 1, 0, [0, 0, 0, 0, 0, 0, 0, 0, 0, 0], [0, 0, 0, 0, 0, 0, 0]⟩
theorem ints_nth {l : List Int} {i : Nat} (h : i < l.length) : nth (zS l) i = some (.int .i64 (l.getD i 0)) := by
 rw [← nth_is]
 simp [zS, List.getD_eq_getElem?_getD, h]
theorem nth_app1 {a b : List AV} {i : Nat} (h : i < a.length) : nth (a ++ b) i = nth a i := by
 rw [← nth_is, ← nth_is, List.getElem?_append_left h]
theorem nth_app2 {a b : List AV} {i : Nat} : nth (a ++ b) (a.length + i) = nth b i := by
 rw [← nth_is, ← nth_is, List.getElem?_append_right (by omega), Nat.add_sub_cancel_left]
theorem nth_s2 {x y : AV} {l : List AV} {i : Nat} : nth (x :: y :: l) (2 + i) = nth l i := by
 rw [← nth_is, ← nth_is, show 2 + i = i + 1 + 1 by omega]; rfl
theorem st_slope {u d : AV} {S F : List Int} {i : Nat} (h : i < S.length) {K : AV → Prop} : optK (nth (u :: d :: (zS S ++ zS F)) (2 + i)) K = K (.int .i64 (S.getD i 0)) := by
 rw [nth_s2, nth_app1 (by rw [ints_length]; exact h), ints_nth h]; rfl
theorem st_from {u d : AV} {S F : List Int} {i : Nat} (hS : S.length = 10) (h : i < F.length) {K : AV → Prop} : optK (nth (u :: d :: (zS S ++ zS F)) (12 + i)) K = K (.int .i64 (F.getD i 0)) := by
 rw [show 12 + i = 2 + (10 + i) by omega, nth_s2, show 10 + i = (zS S).length + i by rw [ints_length, hS], nth_app2, ints_nth h]; rfl
theorem ints_isp {l : List Int} {i : Nat} {v : Int} : zS (isp l i v) = isp (zS l) i (.int .i64 v) := by
 simp [zS, isp, List.map_take, List.map_drop]
theorem sp_slope {u d : AV} {S F : List Int} {i : Nat} (h : i < S.length) {v : Int} : splice (u :: d :: (zS S ++ zS F)) (2 + i) [.int .i64 v] = u :: d :: (zS (isp S i v) ++ zS F) := by
 rw [ints_isp]
 simp only [splice, isp]
 rw [show 2 + i = i + 1 + 1 by omega, show i + 1 + 1 + [AV.int IntKind.i64 v].length = (i + 1) + 1 + 1 by simp]
 simp only [List.take_succ_cons, List.drop_succ_cons]
 rw [List.take_append_of_le_length (by rw [ints_length]; omega), List.drop_append_of_le_length (by rw [ints_length]; omega)]
 simp
theorem sp_from {u d : AV} {S F : List Int} {i : Nat} (hS : S.length = 10) (h : i < F.length) {v : Int} : splice (u :: d :: (zS S ++ zS F)) (12 + i) [.int .i64 v] = u :: d :: (zS S ++ zS (isp F i v)) := by
 rw [ints_isp]
 simp only [splice, isp]
 have hl : (zS S).length = 10 := by rw [ints_length, hS]
 rw [show 12 + i = (10 + i) + 1 + 1 by omega, show (10 + i) + 1 + 1 + [AV.int IntKind.i64 v].length = (10 + (i + 1)) + 1 + 1 by simp only [List.length_cons, List.length_nil]; omega]
 simp only [List.take_succ_cons, List.drop_succ_cons]
 rw [← hl, List.take_length_add_append, List.drop_length_add_append]
 simp
theorem two_wrap {n : Nat} (h : n ≤ 7) : IntKind.u8.wrap (IntKind.u8.wrap (1 * 2 ^ (min ((n : Int).toNat) IntKind.u8.bits)) - 1) = ((2 ^ n - 1 : Nat) : Int) := by
 rw [Int.toNat_natCast]
 rcases (by omega : n = 0 ∨ n = 1 ∨ n = 2 ∨ n = 3 ∨ n = 4 ∨ n = 5 ∨ n = 6 ∨ n = 7) with rfl | rfl | rfl | rfl | rfl | rfl | rfl | rfl <;> decide
theorem begin_c (t : Ann) (h : t.reports.length ≤ 7) : zO Try.prog 89 [.agg (zL t)] (.agg (stC (begS t))) := by
 have h2 := two_wrap h
 rw [Int.toNat_natCast] at h2
 simp only [stC, begS, ints_cons, ints_nil, List.cons_append, List.nil_append]
 generalize 2 ^ t.reports.length - 1 = q at *
 (refine zG (fun w args => Try.call89 ..) Try.func89 rfl (fun w0 m0 wz => ?_); simp only [Try.ntmps89, Try.results89, zN, zP, zU, zV, slR, slC, zL, sl, List.toList_toArray, List.cons_append, List.nil_append, List.length_cons, List.length_nil, Nat.reduceAdd, Nat.reduceSub])
 (repeat' (first
 | refine zC ?_
 | refine kt ?_
 | refine And.intro ?_ ?_
 | ((first | refine awp_stp rfl ?_ | refine awp_draw (by kernel_rfl) (by kernel_rfl) ?_ | refine Imp.le2 ?_ | refine go_split (fun _h => ?_) (fun _h => ?_)) <;> try simp (maxSteps := 4000000) only [go_sem, seval])
 | intro _h
 | refine zA ?_
 | refine zB ?_
 | refine zF ?_ ?_
 | (show zE _ _ = true; kernel_rfl)
 | (show zD _ _ = true; kernel_rfl)
 | (omega)))
 all_goals exact h2
end Go.Am
namespace Go.Am
open Go.RowKit Go.Proofs
attribute [local irreducible] AWP zO Kt goK CallK zT zR SemF SemY Imp
set_option maxRecDepth 4000
set_option linter.unusedSimpArgs false
set_option linter.unusedVariables false
set_option maxHeartbeats 3200000
structure AnnOK (t : Ann) : Prop where
 reports : 1 ≤ t.reports.length ∧ t.reports.length ≤ 7
 claims : t.claims.length ≤ 30
 rest : 0 ≤ t.rest ∧ t.rest ≤ 100000
 rpt : ∀ i, i < t.reports.length → (0 ≤ (t.reports.getD i default).slope ∧ (t.reports.getD i default).slope ≤ 9) ∧ 0 ≤ (t.reports.getD i default).lo ∧ (t.reports.getD i default).lo ≤ (t.reports.getD i default).hi ∧ (t.reports.getD i default).hi ≤ 100000
 clm : ∀ i, i < t.claims.length → (0 ≤ (t.claims.getD i default).kind ∧ (t.claims.getD i default).kind ≤ 2) ∧ (0 ≤ (t.claims.getD i default).a ∧ (t.claims.getD i default).a < t.reports.length) ∧ (0 ≤ (t.claims.getD i default).b ∧ (t.claims.getD i default).b < t.reports.length)
def holdB (c : Clm) (now later : Nat) : Bool := if c.kind = 0 then hold1 c now later else if c.kind = 1 then hold2 c now else hold3 c now
def slopeO (t : Ann) (now : Nat) : Int := (t.reports.getD (tz now) default).slope
def dayK (t : Ann) (s : Ste) (now : Nat) : Nat → Int
 | 0 => max s.day (s.slopes.getD (slopeO t now).toNat 0)
 | k + 1 => if now.testBit k = true then max (max (dayK t s now k) (t.reports.getD k default).lo) (s.frm.getD k 0) else dayK t s now k
def fitK (t : Ann) (now : Nat) (day : Int) (q : Bool) : Nat → Bool
 | 0 => q
 | k + 1 => fitK t now day q k && (!now.testBit k || decide (day ≤ (t.reports.getD k default).hi))
def fromK (t : Ann) (now : Nat) (day : Int) (F : List Int) : Nat → List Int
 | 0 => F
 | k + 1 => if (t.claims.getD k default).kind = 0 ∧ now.testBit (t.claims.getD k default).a.toNat = true then isp (fromK t now day F k) (t.claims.getD k default).b.toNat (max ((fromK t now day F k).getD (t.claims.getD k default).b.toNat 0) (day + 1)) else fromK t now day F k
def allH (t : Ann) (now later : Nat) : Bool := t.claims.all fun c => holdB c now later
def dayN (t : Ann) (s : Ste) (now : Nat) : Int := dayK t s now t.reports.length
def mayS (t : Ann) (s : Ste) (now : Nat) : Ste × Bool :=
 (⟨ndiff s.rest now, dayN t s now, isp s.slopes (slopeO t now).toNat (dayN t s now + max t.rest 1), fromK t now (dayN t s now) s.frm t.claims.length⟩,
  fitK t now (dayN t s now) (allH t now (ndiff s.rest now)) t.reports.length)
structure SteOK (t : Ann) (s : Ste) : Prop where
 rest : s.rest < 2 ^ t.reports.length
 sl : s.slopes.length = 10
 fl : s.frm.length = 7
 day : 0 ≤ s.day ∧ s.day ≤ 1000000
 slo : ∀ i, i < 10 → 0 ≤ s.slopes.getD i 0 ∧ s.slopes.getD i 0 ≤ 1000000
 frm : ∀ i, i < 7 → 0 ≤ s.frm.getD i 0 ∧ s.frm.getD i 0 ≤ 1000000
def seC (t : Ann) (pl dy : List Int) : List AV := slR t.reports :: slC t.claims :: .int .i64 t.rest :: .map 1 :: (zS pl ++ zS dy)
theorem fromK_length {t : Ann} {now : Nat} {day : Int} {F : List Int} (ht : AnnOK t) (hF : F.length = 7) : ∀ k, k ≤ t.claims.length → (fromK t now day F k).length = 7
 | 0, _ => hF
 | k + 1, h => by
   have ih := fromK_length (now := now) (day := day) ht hF k (by omega)
   have h2 := (ht.clm k (by omega)).2.2
   have h3 := ht.reports
   simp only [fromK]
   split
   ·rw [isp_length (by omega)]; exact ih
   ·exact ih
theorem dayK_bd {t : Ann} {s : Ste} {now : Nat} (ht : AnnOK t) (hs : SteOK t s) (hsl : 0 ≤ slopeO t now ∧ slopeO t now ≤ 9) : ∀ k, k ≤ t.reports.length → 0 ≤ dayK t s now k ∧ dayK t s now k ≤ 1000000
 | 0, _ => by
   have h1 := hs.day
   have h2 := hs.slo (slopeO t now).toNat (by omega)
   simp only [dayK]; omega
 | k + 1, h => by
   have ih := dayK_bd ht hs hsl k (by omega)
   have h1 := (ht.rpt k (by omega)).2
   have h2 := hs.frm k (by have := ht.reports; omega)
   simp only [dayK]
   split <;> omega
theorem tz_lt : (List.range 128).all (fun m => Nat.beq m 0 || (Nat.ble (tz m + 1) 7 && m.testBit (tz m) )) = true := by kernel_rfl
theorem testBit_lt {m n k : Nat} (h : m < 2 ^ n) (hb : m.testBit k = true) : k < n := by
 rcases Nat.lt_or_ge k n with h1 | h1
 ·exact h1
 ·rw [Nat.testBit_lt_two_pow (Nat.lt_of_lt_of_le h (Nat.pow_le_pow_right (by omega) h1))] at hb; cases hb
theorem tz_in {m n : Nat} (h0 : m ≠ 0) (hm : m < 2 ^ n) (hn : n ≤ 7) : tz m < n := by
 have h128 : m < 128 := Nat.lt_of_lt_of_le hm (show 2 ^ n ≤ 2 ^ 7 from Nat.pow_le_pow_right (by omega) hn)
 have := List.all_eq_true.1 tz_lt m (by simpa using h128)
 simp only [Bool.or_eq_true, Nat.beq_eq, Bool.and_eq_true] at this
 rcases this with h | h
 ·exact absurd h h0
 ·exact testBit_lt hm h.2
end Go.Am
namespace Go.Am
open Go.RowKit Go.Proofs
set_option linter.unusedSimpArgs false
set_option linter.unusedVariables false
theorem stt_len {S F : List Int} (h1 : S.length = 10) (h2 : F.length = 7) : (zS S ++ zS F).length = 17 := by rw [List.length_append, ints_length, ints_length, h1, h2]
theorem stt_win {S F : List Int} (h1 : S.length = 10) (h2 : F.length = 7) : window (zS S ++ zS F) 0 17 = zS S ++ zS F := by
 rw [window, List.drop_zero, List.take_of_length_le (by rw [stt_len h1 h2]; exact Nat.le_refl _)]
theorem mem_ints {l : List Int} {x : AV} (h : x ∈ zS l) : ∃ n, x = .int .i64 n := by
 simp only [zS, List.mem_map] at h
 obtain ⟨n, _, rfl⟩ := h
 exact ⟨n, rfl⟩
theorem stt_live {S F : List Int} {p : Nat → Bool} : (zS S ++ zS F).all (live2 p) = true := by
 rw [List.all_append, Bool.and_eq_true]
 constructor <;> (rw [List.all_eq_true]; intro x hx; obtain ⟨n, rfl⟩ := mem_ints hx; rfl)
theorem stt_live1 {S F : List Int} {p : Nat → Bool} : (zS S ++ zS F).all (live1 p) = true := by
 rw [List.all_append, Bool.and_eq_true]
 constructor <;> (rw [List.all_eq_true]; intro x hx; obtain ⟨n, rfl⟩ := mem_ints hx; rfl)
theorem renL_ints {σ : Nat → Nat} : ∀ {l : List Int}, renL σ (zS l) = zS l
 | [] => rfl
 | n :: l => by rw [ints_cons, renL, renL_ints]; simp [ren]
theorem renL_app {σ : Nat → Nat} : ∀ {a b : List AV}, renL σ (a ++ b) = renL σ a ++ renL σ b
 | [], _ => rfl
 | x :: a, b => by simp only [List.cons_append, renL, renL_app]
theorem stt_ren {σ : Nat → Nat} {S F : List Int} : renL σ (zS S ++ zS F) = zS S ++ zS F := by rw [renL_app, renL_ints, renL_ints]
theorem refsL_ints {p : Nat → Prop} : ∀ {l : List Int}, refsL p (zS l) = True
 | [] => rfl
 | n :: l => by rw [ints_cons, refsL, refsL_ints]; simp [refs]
theorem refsL_app {p : Nat → Prop} : ∀ {a b : List AV}, refsL p (a ++ b) = (refsL p a ∧ refsL p b)
 | [], b => by simp [refsL]
 | x :: a, b => by simp only [List.cons_append, refsL, refsL_app, and_assoc]
theorem stt_refs {p : Nat → Prop} {S F : List Int} : refsL p (zS S ++ zS F) = True := by rw [refsL_app, refsL_ints, refsL_ints]; simp
attribute [go_sem] stt_live stt_live1 stt_ren stt_refs
abbrev Key := {s : Ste // s.slopes.length = 10 ∧ s.frm.length = 7}
def keyV (k : Key) : AV := .agg (stC k.1)
def kmC (m : List (Key × Bool)) : List (AV × AV) := gmC keyV AV.bool m
theorem live_key {q : Nat → Bool} {k : Key} : live2 q (keyV k) = true := by
 have : (stC k.1).all (live1 q) = true := by
  simp only [stC, List.all_cons, stt_live1, Bool.and_true]; rfl
 exact this
theorem al_km {q : Nat → Bool} {m : List (Key × Bool)} : ((kmC m).all fun e => live2 q e.1 && live2 q e.2) = true := by
 simp only [kmC, gmC, List.all_map, List.all_eq_true]
 intro e _
 show (live2 q (keyV e.1) && live2 q (.bool e.2)) = true
 rw [live_key]; rfl
theorem ren_key {σ : Nat → Nat} {k : Key} : ren σ (keyV k) = keyV k := by
 unfold keyV
 rw [ren]
 congr 1
 simp only [stC, renL, stt_ren, ren]
theorem rb_km {σ : Nat → Nat} {m : List (Key × Bool)} : renB σ (.map (kmC m)) = .map (kmC m) := by
 simp only [renB, kmC, gmC, List.map_map]
 congr 1
 apply List.map_congr_left
 intro e _
 simp only [Function.comp, ren_key, ren]
theorem rf_km {p : Nat → Prop} {m : List (Key × Bool)} : refsB p (.map (kmC m)) = True := by
 rw [eq_iff_iff, iff_true]
 simp only [refsB, kmC, gmC, List.mem_map]
 rintro _ ⟨e, _, rfl⟩
 refine ⟨?_, by simp [refs]⟩
 simp only [keyV, refs, stC, refsL, stt_refs]
 trivial
attribute [go_sem] al_km rb_km rf_km
theorem scal_ints : ∀ {a b : List Int} {A B : List AV}, a.length = b.length → scalEq (zS a ++ A) (zS b ++ B) = (scalEq A B).map (decide (a = b) && ·)
 | [], [], A, B, _ => by
   show scalEq A B = _
   cases scalEq A B <;> simp
 | x :: a, y :: b, A, B, h => by
   have ih := scal_ints (a := a) (b := b) (A := A) (B := B) (by simpa using h)
   rw [ints_cons, ints_cons, List.cons_append, List.cons_append]
   simp only [scalEq, if_true]
   rw [ih]
   cases scalEq A B with
   | none => rfl
   | some q =>
     simp only [Option.map_some, Option.some.injEq]
     by_cases h1 : x = y <;> by_cases h2 : a = b <;> simp [h1, h2]
 | [], _ :: _, _, _, h => by simp at h
 | _ :: _, [], _, _, h => by simp at h
theorem key_st : KeyE keyV := fun a b v es => by
 have e : scalEq (stC b.1) (stC a.1) = some (decide (a = b)) := by
  have h8 : ∀ {k : IntKind} {x y : Int} {xs ys : List AV}, scalEq (.int k x :: xs) (.int k y :: ys) = (scalEq xs ys).map (decide (x = y) && ·) := fun {k x y xs ys} => by simp only [scalEq, if_true]
  have h9 : scalEq [] [] = some true := rfl
  have hF : scalEq (zS b.1.frm) (zS a.1.frm) = some (decide (b.1.frm = a.1.frm)) := by
   have := scal_ints (a := b.1.frm) (b := a.1.frm) (A := []) (B := []) (by rw [b.2.2, a.2.2])
   simpa [h9] using this
  obtain ⟨⟨ra, da, Sa, Fa⟩, ha1, ha2⟩ := a
  obtain ⟨⟨rb, db, Sb, Fb⟩, hb1, hb2⟩ := b
  simp only at hF ha1 hb1
  simp only [stC, h8]
  rw [scal_ints (by omega), hF]
  simp only [Option.map_some, Option.some.injEq]
  rw [Bool.eq_iff_iff]
  simp only [Bool.and_eq_true, decide_eq_true_eq, Subtype.mk.injEq, Ste.mk.injEq]
  constructor
  ·rintro ⟨h1, h2, h3, h4⟩; exact ⟨by omega, by omega, h3.symm, h4.symm⟩
  ·rintro ⟨h1, h2, h3, h4⟩; exact ⟨by omega, by omega, h3.symm, h4.symm⟩
 simp only [keyV, mapFind, e]
 by_cases h : a = b
 ·simp [h]
 ·simp [h]
theorem mup_km {m : List (Key × Bool)} {k : Key} {v : Bool} {f : List (AV × AV) → Prop} : mupK (kmC m) (keyV k) (.bool v) f = f (kmC (gmPut m k v)) := mup_g (eV := AV.bool) key_st
theorem mget_ks {m : List (Key × Bool)} {k : Key} {v : Bool} {z : AV} {f : AV → Bool → Prop} (h : gmGet m k = some v) : mgetK (kmC m) (keyV k) z f = f (.bool v) true := mget_gs (eV := AV.bool) key_st h
theorem mget_kn {m : List (Key × Bool)} {k : Key} {z : AV} {f : AV → Bool → Prop} (h : gmGet m k = none) : mgetK (kmC m) (keyV k) z f = f z false := mget_gn (eV := AV.bool) key_st h
end Go.Am
namespace Go.Am
open Go.RowKit Go.Proofs
attribute [local irreducible] AWP zO Kt goK CallK zT zR SemF SemY Imp
set_option maxRecDepth 4000
set_option linter.unusedSimpArgs false
set_option linter.unusedVariables false
set_option maxHeartbeats 3200000
def zst : List AV := [.int .u8 0, .int .i64 0, .int .i64 0, .int .i64 0, .int .i64 0, .int .i64 0, .int .i64 0, .int .i64 0, .int .i64 0, .int .i64 0, .int .i64 0, .int .i64 0, .int .i64 0, .int .i64 0, .int .i64 0, .int .i64 0, .int .i64 0, .int .i64 0, .int .i64 0]
theorem allH_no {t : Ann} {now later : Nat} {i : Nat} (hi : i < t.claims.length) (h : holdB (t.claims.getD i default) now later = false) : false = allH t now later := by
 symm
 unfold allH
 rw [List.all_eq_false]
 exact ⟨_, getD_mem hi, by rw [h]; simp⟩
theorem allH_yes {t : Ann} {now later : Nat} (h : ∀ j, j < t.claims.length → holdB (t.claims.getD j default) now later = true) : true = allH t now later := by
 symm
 unfold allH
 rw [List.all_eq_true]
 intro x hx
 obtain ⟨i, hi, rfl⟩ := mem_getD (d := default) hx
 exact h i hi
def mB (t : Ann) (pl dy : List Int) (K : List (Key × Bool)) (s : Ste) : List (Option ABlk) := [some (.cells 115 1 0 (seC t pl dy)), some (.map (kmC K)), some (.cells 136 1 0 (stC s)), some (.cells 136 1 0 zst)]
theorem may_c (t : Ann) (s : Ste) (now : Nat) (pl dy : List Int) (K : List (Key × Bool)) (ht : AnnOK t) (hs : SteOK t s) (h0 : now ≠ 0) (hn : now < 2 ^ t.reports.length) :
 SemF Try.prog 85 [.ptr 0 0 0, .agg (stC s), .int .u8 now] [some (.cells 115 1 0 (seC t pl dy)), some (.map (kmC K))] (.tup [.agg (stC (mayS t s now).1), .bool (mayS t s now).2]) [some (.cells 115 1 0 (seC t pl dy)), some (.map (kmC K))] := by
 have hr := ht.reports
 have hcl := ht.claims
 have hrs := ht.rest
 have htz := tz_in h0 hn hr.2
 have h256 : now < 256 := Nat.lt_of_lt_of_le hn (show 2 ^ t.reports.length ≤ 2 ^ 8 from Nat.pow_le_pow_right (by omega) (by omega))
 have hre : s.rest < 256 := Nat.lt_of_lt_of_le hs.rest (show 2 ^ t.reports.length ≤ 2 ^ 8 from Nat.pow_le_pow_right (by omega) (by omega))
 have e2 : andn s.rest now = ((ndiff s.rest now : Nat) : Int) := andn_nat2 hre h256
 have hla : ndiff s.rest now < 256 := ndiff_lt hre
 have htc := tz_c now h256
 have hsl := (ht.rpt (tz now) htz).1
 have hSl := hs.sl
 have hFl := hs.fl
 have hday := hs.day
 have hslo := hs.slo
 have hfrm := hs.frm
 have hdk := fun k hk => dayK_bd (now := now) ht hs (show 0 ≤ slopeO t now ∧ slopeO t now ≤ 9 from hsl) k hk
 simp only [mayS]
 generalize hLR : ndiff s.rest now = later at *
 obtain ⟨rest, day, S, F⟩ := s
 simp only at hLR e2 hSl hFl hday hslo hfrm hre
 simp only [seC, stC, slR, slC]
 (refine zH (ys := [.agg (.int .u8 later :: .int .i64 (dayN t ⟨rest, day, S, F⟩ now) :: (zS (isp S (slopeO t now).toNat (dayN t ⟨rest, day, S, F⟩ now + max t.rest 1)) ++ zS (fromK t now (dayN t ⟨rest, day, S, F⟩ now) F t.claims.length))), .bool (fitK t now (dayN t ⟨rest, day, S, F⟩ now) (allH t now later) t.reports.length)]) (fun w args => Try.call85 ..) Try.func85 rfl (fun w0 m0 wz => ?_); simp only [Try.ntmps85, Try.results85, zN, zP, zU, zV, slR, slC, zL, sl, List.toList_toArray, List.cons_append, List.nil_append, List.length_cons, List.length_nil, Nat.reduceAdd, Nat.reduceSub])
 have hst := stt_win hSl hFl
 have hsn := stt_len hSl hFl
 (repeat' (first
 | refine zC ?_
 | refine kt ?_
 | refine And.intro ?_ ?_
 | ((first | refine awp_stp rfl ?_ | refine awp_draw (by kernel_rfl) (by kernel_rfl) ?_ | refine Imp.le2 ?_ | refine go_split (fun _h => ?_) (fun _h => ?_)) <;> try simp (maxSteps := 4000000) only [go_sem, seval])
 | intro _h
 | refine zA ?_
 | refine zB ?_
 | refine zF ?_ ?_
 | (show zE _ _ = true; kernel_rfl)
 | (show zD _ _ = true; kernel_rfl)
 | (omega)))
 refine awp_cut 0 (γ := Bool) (fun g => g = allH t now later) (fun g => ⟨mkT 170 [(0, .ptr 0 0 0), (2, .int .u8 now), (4, .ptr 2 0 0), (6, .ptr 3 0 0), (8, .bool g)], mB t pl dy K ⟨rest, day, S, F⟩, []⟩) ?_ ?_
 ·refine awp_loopJ (fun i : Nat => i ≤ t.claims.length ∧ ∀ j, j < i → holdB (t.claims.getD j default) now later = true) (fun i => ⟨mkT 170 [(0, .ptr 0 0 0), (2, .int .u8 now), (4, .ptr 2 0 0), (6, .ptr 3 0 0), (8, .bool true), (23, slC t.claims), (24, .int .i64 t.claims.length), (25, .int .i64 i)], mB t pl dy K ⟨rest, day, S, F⟩, []⟩) (fun i => t.claims.length - i) 0 ⟨Nat.zero_le _, fun j h => by omega⟩ (.le2 ?_) ?_
  ·simp only [mB, zst, seC, stC, slR, slC]; simp (maxSteps := 4000000) only [go_sem, seval]
   all_goals first | rfl | exact ⟨rfl, rfl⟩ | trace_state
  ·rintro i ⟨hi, hj⟩
   rcases Nat.lt_or_eq_of_le hi with hi1 | hi1
   ·obtain ⟨hk, hca, hcb⟩ := ht.clm i hi1
    have hno := fun h => allH_no (now := now) (later := later) hi1 h
    have hyes : holdB (t.claims.getD i default) now later = true → ∀ j, j < i + 1 → holdB (t.claims.getD j default) now later = true := fun h j hji => by
     rcases Nat.lt_succ_iff_lt_or_eq.1 hji with h1 | rfl
     ·exact hj j h1
     ·exact h
    obtain ⟨c, hce⟩ : ∃ c, t.claims.getD i default = c := ⟨_, rfl⟩
    rw [hce] at hk hca hcb hno hyes
    obtain ⟨q, hq⟩ : ∃ q, holdB c now later = q := ⟨_, rfl⟩
    rw [hq] at hno hyes
    have hin : ClmIn c := ⟨⟨hca.1, by omega⟩, ⟨hcb.1, by omega⟩⟩
    have k1 := kind1_c c now later hin h256 hla
    have k2 := kind2_c c now later hin h256 hla
    have k3 := kind3_c c now later hin h256 hla
    have hkc := kinds_c
    obtain ⟨ck, ca, cb⟩ := c
    simp only [zV] at k1 k2 k3
    simp only at hk
    rcases (by omega : ck = 0 ∨ ck = 1 ∨ ck = 2) with rfl | rfl | rfl
    ·rw [show hold1 ⟨0, ca, cb⟩ now later = q from by rw [← hq]; simp [holdB]] at k1
     clear hq
     simp only [mB, zst, seC, stC, slR, slC]; simp (maxSteps := 4000000) only [go_sem, seval]
     (repeat' (first
 | ((exfalso; omega))
 | ((omega))
 | refine zC ?_
 | refine kt ?_
 | refine And.intro ?_ ?_
 | ((first | refine awp_stp rfl ?_ | refine awp_draw (by kernel_rfl) (by kernel_rfl) ?_ | refine Imp.le2 ?_ | refine callK_of (hkc) ?_ | refine callK_of (k1) ?_ | refine go_split (fun _h => ?_) (fun _h => ?_)) <;> try simp (maxSteps := 4000000) only [go_sem, seval, hce, e2, Nat.zero_ne_one, if_false])
 | intro _h
 | refine zA ?_
 | refine zB ?_
 | refine zF ?_ ?_
 | (show zE _ _ = true; kernel_rfl)
 | (show zD _ _ = true; kernel_rfl)
 | (omega)))
     all_goals first
      | (refine ⟨i + 1, ⟨by omega, hyes ‹q = true›⟩, by omega, .le2 ?_⟩
         (try simp only [mB, zst, seC, stC, slR, slC]); simp (maxSteps := 4000000) only [go_sem, seval]
         all_goals first | rfl | exact ⟨rfl, rfl⟩ | omega | trace_state)
      | (refine ⟨false, hno ‹q = false›, .le2 ?_⟩
         (try simp only [mB, zst, seC, stC, slR, slC]); simp (maxSteps := 4000000) only [go_sem, seval]
         all_goals first | rfl | exact ⟨rfl, rfl⟩ | trace_state)
      | trace_state
    ·rw [show hold2 ⟨1, ca, cb⟩ now = q from by rw [← hq]; simp [holdB]] at k2
     clear hq
     simp only [mB, zst, seC, stC, slR, slC]; simp (maxSteps := 4000000) only [go_sem, seval]
     (repeat' (first
 | ((exfalso; omega))
 | ((omega))
 | refine zC ?_
 | refine kt ?_
 | refine And.intro ?_ ?_
 | ((first | refine awp_stp rfl ?_ | refine awp_draw (by kernel_rfl) (by kernel_rfl) ?_ | refine Imp.le2 ?_ | refine callK_of (hkc) ?_ | refine callK_of (k2) ?_ | refine go_split (fun _h => ?_) (fun _h => ?_)) <;> try simp (maxSteps := 4000000) only [go_sem, seval, hce, e2, Nat.zero_ne_one, if_false])
 | intro _h
 | refine zA ?_
 | refine zB ?_
 | refine zF ?_ ?_
 | (show zE _ _ = true; kernel_rfl)
 | (show zD _ _ = true; kernel_rfl)
 | (omega)))
     all_goals first
      | (refine ⟨i + 1, ⟨by omega, hyes ‹q = true›⟩, by omega, .le2 ?_⟩
         (try simp only [mB, zst, seC, stC, slR, slC]); simp (maxSteps := 4000000) only [go_sem, seval]
         all_goals first | rfl | exact ⟨rfl, rfl⟩ | omega | trace_state)
      | (refine ⟨false, hno ‹q = false›, .le2 ?_⟩
         (try simp only [mB, zst, seC, stC, slR, slC]); simp (maxSteps := 4000000) only [go_sem, seval]
         all_goals first | rfl | exact ⟨rfl, rfl⟩ | trace_state)
      | trace_state
    ·rw [show hold3 ⟨2, ca, cb⟩ now = q from by rw [← hq]; simp [holdB]] at k3
     clear hq
     simp only [mB, zst, seC, stC, slR, slC]; simp (maxSteps := 4000000) only [go_sem, seval]
     (repeat' (first
 | ((exfalso; omega))
 | ((omega))
 | refine zC ?_
 | refine kt ?_
 | refine And.intro ?_ ?_
 | ((first | refine awp_stp rfl ?_ | refine awp_draw (by kernel_rfl) (by kernel_rfl) ?_ | refine Imp.le2 ?_ | refine callK_of (hkc) ?_ | refine callK_of (k3) ?_ | refine go_split (fun _h => ?_) (fun _h => ?_)) <;> try simp (maxSteps := 4000000) only [go_sem, seval, hce, e2, Nat.zero_ne_one, if_false])
 | intro _h
 | refine zA ?_
 | refine zB ?_
 | refine zF ?_ ?_
 | (show zE _ _ = true; kernel_rfl)
 | (show zD _ _ = true; kernel_rfl)
 | (omega)))
     all_goals first
      | (refine ⟨i + 1, ⟨by omega, hyes ‹q = true›⟩, by omega, .le2 ?_⟩
         (try simp only [mB, zst, seC, stC, slR, slC]); simp (maxSteps := 4000000) only [go_sem, seval]
         all_goals first | rfl | exact ⟨rfl, rfl⟩ | omega | trace_state)
      | (refine ⟨false, hno ‹q = false›, .le2 ?_⟩
         (try simp only [mB, zst, seC, stC, slR, slC]); simp (maxSteps := 4000000) only [go_sem, seval]
         all_goals first | rfl | exact ⟨rfl, rfl⟩ | trace_state)
      | trace_state
   ·subst hi1
    simp only [mB, zst, seC, stC, slR, slC]; simp (maxSteps := 4000000) only [go_sem, seval]
    (repeat' (first
 | ((exfalso; omega))
 | ((omega))
 | refine zC ?_
 | refine kt ?_
 | refine And.intro ?_ ?_
 | ((first | refine awp_stp rfl ?_ | refine awp_draw (by kernel_rfl) (by kernel_rfl) ?_ | refine Imp.le2 ?_ | refine go_split (fun _h => ?_) (fun _h => ?_)) <;> try simp (maxSteps := 4000000) only [go_sem, seval])
 | intro _h
 | refine zA ?_
 | refine zB ?_
 | refine zF ?_ ?_
 | (show zE _ _ = true; kernel_rfl)
 | (show zD _ _ = true; kernel_rfl)
 | (omega)))
    all_goals first
     | (refine ⟨true, allH_yes hj, .le2 ?_⟩
        (try simp only [mB, zst, seC, stC, slR, slC]); simp (maxSteps := 4000000) only [go_sem, seval]
        all_goals first | rfl | exact ⟨rfl, rfl⟩ | trace_state)
     | trace_state
 ·rintro fine hJ s' hs'
  simp (maxSteps := 4000000) only [go_sem, seval]
  refine kt_imp hs' ?_
  refine kt ?_
  clear hs'
  simp only [mB, zst, seC, stC, slR, slC]
  simp (maxSteps := 4000000) only [go_sem, seval]
  obtain ⟨sl, hsle⟩ : ∃ sl, slopeO t now = sl := ⟨_, rfl⟩
  have hsl9 : 0 ≤ sl ∧ sl ≤ 9 := by rw [← hsle]; exact hsl
  have hsle2 : (t.reports.getD (tz now) default).slope = sl := hsle
  have hns := fun u d K => st_slope (u := u) (d := d) (S := S) (F := F) (i := sl.toNat) (K := K) (by omega)
  have hsb := hslo sl.toNat (by omega)
  obtain ⟨dk, hdke⟩ : ∃ dk : Nat → Int, dk = fun k => dayK t ⟨rest, day, S, F⟩ now k := ⟨_, rfl⟩
  have dk0 : max day (S.getD sl.toNat 0) = dk 0 := by rw [hdke, ← hsle]; rfl
  have dks : ∀ k, dk (k + 1) = if now.testBit k = true then max (max (dk k) (t.reports.getD k default).lo) (F.getD k 0) else dk k := fun k => by rw [hdke]; rfl
  have dkb : ∀ k, k ≤ t.reports.length → 0 ≤ dk k ∧ dk k ≤ 1000000 := fun k hk => by rw [hdke]; exact hdk k hk
  have dkN : dayN t ⟨rest, day, S, F⟩ now = dk t.reports.length := by rw [hdke]; rfl
  rw [dkN, hsle]
  clear hdke
  (repeat' (first
 | ((omega))
 | refine zC ?_
 | refine kt ?_
 | refine And.intro ?_ ?_
 | ((first | refine awp_stp rfl ?_ | refine awp_draw (by kernel_rfl) (by kernel_rfl) ?_ | refine Imp.le2 ?_ | refine callK_of (htc) ?_ | refine callK_of (latest_c _ _ _) ?_ | refine go_split (fun _h => ?_) (fun _h => ?_)) <;> try simp (maxSteps := 4000000) only [go_sem, seval, hst, hsn, hsle2, hns, dk0])
 | intro _h
 | refine zA ?_
 | refine zB ?_
 | refine zF ?_ ?_
 | (show zE _ _ = true; kernel_rfl)
 | (show zD _ _ = true; kernel_rfl)
 | (omega)))
  refine awp_loopN t.reports.length (fun k => ⟨mkT 170 [(0, .ptr 0 0 0), (2, .int .u8 now), (4, .ptr 2 0 0), (6, .ptr 3 0 0), (8, .bool fine), (11, .int .i64 sl), (12, .ptr 4 0 0), (68, slR t.reports), (69, .int .i64 t.reports.length), (70, .int .i64 k)], [some (.cells 115 1 0 (seC t pl dy)), some (.map (kmC K)), some (.cells 136 1 0 (stC ⟨rest, day, S, F⟩)), some (.cells 136 1 0 zst), some (.cells 136 1 0 (.int .u8 rest :: .int .i64 (dk k) :: (zS S ++ zS F)))], []⟩) (.le2 ?_) ?_
  ·simp only [zst, seC, stC, slR, slC]; simp (maxSteps := 4000000) only [go_sem, seval]
   all_goals first | rfl | exact ⟨rfl, rfl⟩ | trace_state
  ·intro k hk
   rcases Nat.lt_or_eq_of_le hk with hk1 | hk1
   ·have hin := inS_c now k h256 (by omega)
    have hfr := fun u d K => st_from (u := u) (d := d) (S := S) (F := F) (i := k) (K := K) hSl (by omega)
    have hsk := dks k
    rw [hsk]
    cases hb : now.testBit k with
    | true =>
      rw [hb] at hin
      simp only [if_true]
      simp only [zst, seC, stC, slR, slC]; simp (maxSteps := 4000000) only [go_sem, seval]
      (repeat' (first
 | ((exfalso; omega))
 | ((omega))
 | refine zC ?_
 | refine kt ?_
 | refine And.intro ?_ ?_
 | ((first | refine awp_stp rfl ?_ | refine awp_draw (by kernel_rfl) (by kernel_rfl) ?_ | refine Imp.le2 ?_ | refine callK_of (hin) ?_ | refine callK_of (latest3_c _ _ _ _) ?_ | refine go_split (fun _h => ?_) (fun _h => ?_)) <;> try simp (maxSteps := 4000000) only [go_sem, seval, hfr])
 | intro _h
 | refine zA ?_
 | refine zB ?_
 | refine zF ?_ ?_
 | (show zE _ _ = true; kernel_rfl)
 | (show zD _ _ = true; kernel_rfl)
 | (omega)))
      all_goals first | rfl | exact ⟨rfl, rfl⟩ | trace_state
    | false =>
      rw [hb] at hin
      simp only [Bool.false_eq_true, if_false]
      simp only [zst, seC, stC, slR, slC]; simp (maxSteps := 4000000) only [go_sem, seval]
      (repeat' (first
 | ((exfalso; omega))
 | ((omega))
 | refine zC ?_
 | refine kt ?_
 | refine And.intro ?_ ?_
 | ((first | refine awp_stp rfl ?_ | refine awp_draw (by kernel_rfl) (by kernel_rfl) ?_ | refine Imp.le2 ?_ | refine callK_of (hin) ?_ | refine callK_of (latest3_c _ _ _ _) ?_ | refine go_split (fun _h => ?_) (fun _h => ?_)) <;> try simp (maxSteps := 4000000) only [go_sem, seval, hfr])
 | intro _h
 | refine zA ?_
 | refine zB ?_
 | refine zF ?_ ?_
 | (show zE _ _ = true; kernel_rfl)
 | (show zD _ _ = true; kernel_rfl)
 | (omega)))
      all_goals first | rfl | exact ⟨rfl, rfl⟩ | trace_state
   ·subst hk1
    have hdN := dkb t.reports.length (Nat.le_refl _)
    generalize dk t.reports.length = dN at *
    simp only [zst, seC, stC, slR, slC]; simp (maxSteps := 4000000) only [go_sem, seval]
    (repeat' (first
 | ((exfalso; omega))
 | ((omega))
 | refine zC ?_
 | refine kt ?_
 | refine And.intro ?_ ?_
 | ((first | refine awp_stp rfl ?_ | refine awp_draw (by kernel_rfl) (by kernel_rfl) ?_ | refine Imp.le2 ?_ | refine go_split (fun _h => ?_) (fun _h => ?_)) <;> try simp (maxSteps := 4000000) only [go_sem, seval])
 | intro _h
 | refine zA ?_
 | refine zB ?_
 | refine zF ?_ ?_
 | (show zE _ _ = true; kernel_rfl)
 | (show zD _ _ = true; kernel_rfl)
 | (omega)))
    refine awp_loopN t.reports.length (fun k => ⟨mkT 170 [(0, .ptr 0 0 0), (2, .int .u8 now), (4, .ptr 2 0 0), (6, .ptr 3 0 0), (8, .bool (fitK t now dN fine k)), (11, .int .i64 sl), (12, .ptr 4 0 0), (95, slR t.reports), (96, .int .i64 t.reports.length), (97, .int .i64 k)], [some (.cells 115 1 0 (seC t pl dy)), some (.map (kmC K)), some (.cells 136 1 0 (stC ⟨rest, day, S, F⟩)), some (.cells 136 1 0 zst), some (.cells 136 1 0 (.int .u8 rest :: .int .i64 dN :: (zS S ++ zS F)))], []⟩) (.le2 ?_) ?_
    ·simp only [zst, seC, stC, slR, slC, fitK]; simp (maxSteps := 4000000) only [go_sem, seval]
     all_goals first | rfl | exact ⟨rfl, rfl⟩ | trace_state
    ·intro k hk
     rcases Nat.lt_or_eq_of_le hk with hk1 | hk1
     ·have hin := inS_c now k h256 (by omega)
      have hfs : fitK t now dN fine (k + 1) = (fitK t now dN fine k && (!now.testBit k || decide (dN ≤ (t.reports.getD k default).hi))) := rfl
      rw [hfs]
      clear hfs hdk
      generalize fitK t now dN fine k = fq
      generalize now.testBit k = q at *
      simp only [zst, seC, stC, slR, slC]; simp (maxSteps := 4000000) only [go_sem, seval]
      (repeat' (first
 | ((exfalso; omega))
 | ((omega))
 | refine zC ?_
 | refine kt ?_
 | refine And.intro ?_ ?_
 | ((first | refine awp_stp rfl ?_ | refine awp_draw (by kernel_rfl) (by kernel_rfl) ?_ | refine Imp.le2 ?_ | refine callK_of (hin) ?_ | refine go_split (fun _h => ?_) (fun _h => ?_)) <;> try simp (maxSteps := 4000000) only [go_sem, seval])
 | intro _h
 | refine zA ?_
 | refine zB ?_
 | refine zF ?_ ?_
 | (show zE _ _ = true; kernel_rfl)
 | (show zD _ _ = true; kernel_rfl)
 | (omega)))
      all_goals first | rfl | exact ⟨rfl, rfl⟩ | (simp only [‹fq = true›, ‹q = true›, decide_eq_true ‹dN ≤ _›]; rfl) | (simp only [‹fq = true›, ‹q = true›, decide_eq_false ‹¬ dN ≤ _›]; rfl) | (simp only [‹fq = true›, ‹q = false›]; rfl) | (simp only [‹fq = false›]; rfl) | trace_state
     ·subst hk1
      rw [← hJ]
      generalize fitK t now dN fine t.reports.length = fq at *
      have hsp := fun u d v => sp_slope (u := u) (d := d) (S := S) (F := F) (i := sl.toNat) (v := v) (by omega)
      have hap := apart_c t
      simp only [zL, slR, slC] at hap
      simp only [zst, seC, stC, slR, slC]; simp (maxSteps := 4000000) only [go_sem, seval]
      (repeat' (first
 | ((exfalso; omega))
 | ((omega))
 | refine zC ?_
 | refine kt ?_
 | refine And.intro ?_ ?_
 | ((first | refine awp_stp rfl ?_ | refine awp_draw (by kernel_rfl) (by kernel_rfl) ?_ | refine Imp.le2 ?_ | refine callK_of (hap) ?_ | refine go_split (fun _h => ?_) (fun _h => ?_)) <;> try simp (maxSteps := 4000000) only [go_sem, seval, e2, hsp])
 | intro _h
 | refine zA ?_
 | refine zB ?_
 | refine zF ?_ ?_
 | (show zE _ _ = true; kernel_rfl)
 | (show zD _ _ = true; kernel_rfl)
 | (omega)))
      have hSl2 : (isp S sl.toNat (dN + max t.rest 1)).length = 10 := by rw [isp_length (by omega)]; exact hSl
      have hGl := fun k hk => fromK_length (t := t) (now := now) (day := dN) (F := F) ht hFl k hk
      generalize isp S sl.toNat (dN + max t.rest 1) = S2 at *
      refine awp_loopN t.claims.length (fun k => ⟨mkT 170 [(0, .ptr 0 0 0), (2, .int .u8 now), (4, .ptr 2 0 0), (6, .ptr 3 0 0), (8, .bool fq), (11, .int .i64 sl), (12, .ptr 4 0 0), (138, slC t.claims), (139, .int .i64 t.claims.length), (140, .int .i64 k)], [some (.cells 115 1 0 (seC t pl dy)), some (.map (kmC K)), some (.cells 136 1 0 (stC ⟨rest, day, S, F⟩)), some (.cells 136 1 0 zst), some (.cells 136 1 0 (.int .u8 later :: .int .i64 dN :: (zS S2 ++ zS (fromK t now dN F k))))], []⟩) (.le2 ?_) ?_
      ·simp only [zst, seC, stC, slR, slC, fromK]; simp (maxSteps := 4000000) only [go_sem, seval]
       all_goals first | rfl | exact ⟨rfl, rfl⟩ | trace_state
      ·intro k hk
       have hG := hGl k hk
       rcases Nat.lt_or_eq_of_le hk with hk1 | hk1
       ·obtain ⟨hkd, hca, hcb⟩ := ht.clm k hk1
        have hfs : fromK t now dN F (k + 1) = if (t.claims.getD k default).kind = 0 ∧ now.testBit (t.claims.getD k default).a.toNat = true then isp (fromK t now dN F k) (t.claims.getD k default).b.toNat (max ((fromK t now dN F k).getD (t.claims.getD k default).b.toNat 0) (dN + 1)) else fromK t now dN F k := rfl
        rw [hfs]
        clear hfs hGl hdk
        generalize fromK t now dN F k = G at *
        have hin := inI_c now (t.claims.getD k default).a h256 ⟨hca.1, by omega⟩
        obtain ⟨c, hce⟩ : ∃ c, t.claims.getD k default = c := ⟨_, rfl⟩
        rw [hce] at hkd hca hcb hin ⊢
        obtain ⟨ck, ca, cb⟩ := c
        simp only at hkd hca hcb hin ⊢
        have hsn2 := stt_len hSl2 hG
        have hfr := fun u d K => st_from (u := u) (d := d) (S := S2) (F := G) (i := cb.toNat) (K := K) hSl2 (by omega)
        have hsf := fun u d v => sp_from (u := u) (d := d) (S := S2) (F := G) (i := cb.toNat) (v := v) hSl2 (by omega)
        generalize now.testBit ca.toNat = q at *
        simp only [zst, seC, stC, slR, slC]; simp (maxSteps := 4000000) only [go_sem, seval]
        (repeat' (first
 | ((exfalso; omega))
 | ((omega))
 | refine zC ?_
 | refine kt ?_
 | refine And.intro ?_ ?_
 | ((first | refine awp_stp rfl ?_ | refine awp_draw (by kernel_rfl) (by kernel_rfl) ?_ | refine Imp.le2 ?_ | refine callK_of (hin) ?_ | refine callK_of (latest_c _ _ _) ?_ | refine go_split (fun _h => ?_) (fun _h => ?_)) <;> try simp (maxSteps := 4000000) only [go_sem, seval, hce, hfr, hsf, hsn2])
 | intro _h
 | refine zA ?_
 | refine zB ?_
 | refine zF ?_ ?_
 | (show zE _ _ = true; kernel_rfl)
 | (show zD _ _ = true; kernel_rfl)
 | (omega)))
        all_goals first | rfl | exact ⟨rfl, rfl⟩ | (rw [if_pos ⟨‹_›, ‹_›⟩]; done) | (rw [if_neg (fun h => absurd h.1 ‹_›)]; done) | (rw [if_neg (fun h => by have := h.2; simp_all)]; done) | trace_state
       ·subst hk1
        have hst2 := stt_win hSl2 hG
        have hsn2 := stt_len hSl2 hG
        generalize fromK t now dN F t.claims.length = G at *
        simp only [zst, seC, stC, slR, slC]; simp (maxSteps := 4000000) only [go_sem, seval]
        (repeat' (first
 | ((exfalso; omega))
 | ((omega))
 | refine zC ?_
 | refine kt ?_
 | refine And.intro ?_ ?_
 | ((first | refine awp_stp rfl ?_ | refine awp_draw (by kernel_rfl) (by kernel_rfl) ?_ | refine Imp.le2 ?_ | refine go_split (fun _h => ?_) (fun _h => ?_)) <;> try simp (maxSteps := 4000000) only [go_sem, seval, hst2, hsn2])
 | intro _h
 | refine zA ?_
 | refine zB ?_
 | refine zF ?_ ?_
 | (show zE _ _ = true; kernel_rfl)
 | (show zD _ _ = true; kernel_rfl)
 | (omega)))
        all_goals first | exact (‹fq = true›).symm | exact (‹fq = false›).symm | trace_state
end Go.Am
namespace Go.Am
open Go.RowKit Go.Proofs
set_option linter.unusedSimpArgs false
set_option linter.unusedVariables false
structure EA (V : Type) where
 v : V
 pl : List Int
 dy : List Int
 K : List (Key × Bool)
def wrM (now : Nat) (x : Int) : Nat → List Int → List Int
 | 0, l => l
 | k + 1, l => if now.testBit k = true then isp (wrM now x k l) k x else wrM now x k l
def sameK (t : Ann) (now : Nat) : Nat → Bool
 | 0 => true
 | k + 1 => sameK t now k && (!now.testBit k || decide ((t.reports.getD k default).slope = slopeO t now))
def goodN (t : Ann) (m : Nat) : Bool := !decide (m = 0) && sameK t m t.reports.length
def subsR (o m : Nat) : List Nat := subsF o m m
theorem subsR_step {o m : Nat} : subsR o m = m :: if m = 0 then [] else subsR o ((m - 1) &&& o) := by
 unfold subsR
 cases m with
 | zero => simp [subsF]
 | succ k =>
   simp only [subsF, Nat.succ_ne_zero, if_false, Nat.add_one_sub_one]
   have : k &&& o ≤ k := Nat.and_le_left
   rw [subsF_fuel k (k &&& o) (k &&& o) this (Nat.le_refl _)]
def candN (t : Ann) (o m : Nat) : List Nat := (subsR o m).filter (goodN t)
theorem candN_zero {t : Ann} {o : Nat} : candN t o 0 = [] := by
 unfold candN
 rw [subsR_step]
 simp [goodN]
theorem candN_step {t : Ann} {o m : Nat} (h : m ≠ 0) : candN t o m = if sameK t m t.reports.length = true then m :: candN t o ((m - 1) &&& o) else candN t o ((m - 1) &&& o) := by
 unfold candN
 rw [subsR_step, if_neg h, List.filter_cons]
 have e : goodN t m = sameK t m t.reports.length := by simp [goodN, h]
 rw [e]
section
variable {V : Type}
def putE (t : Ann) (now : Nat) (place day : Int) (a : EA V) : EA V := { a with pl := wrM now place t.reports.length a.pl, dy := wrM now day t.reports.length a.dy }
def goE (one : Nat → EA V → (Bool × Bool) × EA V) : List Nat → Bool → EA V → (Bool × Bool) × EA V
 | [], fd, a => ((fd, true), a)
 | n :: l, fd, a => if (one n a).1.2 = true then goE one l (fd || (one n a).1.1) (one n a).2 else ((fd || (one n a).1.1, false), (one n a).2)
def getS (K : List (Key × Bool)) (s : Ste) : Option Bool := if h : s.slopes.length = 10 ∧ s.frm.length = 7 then gmGet K ⟨s, h⟩ else none
def putS (K : List (Key × Bool)) (s : Ste) (b : Bool) : List (Key × Bool) := if h : s.slopes.length = 10 ∧ s.frm.length = 7 then gmPut K ⟨s, h⟩ b else K
def oneM (t : Ann) (rec : Ste → Int → EA V → (Bool × Bool) × EA V) (s : Ste) (place : Int) (now : Nat) (a : EA V) : (Bool × Bool) × EA V :=
 if (mayS t s now).2 = true then rec (mayS t s now).1 (place + 1) (putE t now place (mayS t s now).1.day a) else ((false, true), a)
def endM (s : Ste) (r : (Bool × Bool) × EA V) : (Bool × Bool) × EA V := if r.1.2 = true then (r.1, { r.2 with K := putS r.2.K s (!r.1.1) }) else r
def eachM (t : Ann) (step : V → List Int → List Int → V × Bool) : Nat → Ste → Int → EA V → (Bool × Bool) × EA V
 | 0, _, _, a => ((false, true), a)
 | f + 1, s, place, a => if s.rest = 0 then ((true, (step a.v a.pl a.dy).2), { a with v := (step a.v a.pl a.dy).1 })
   else if getS a.K s = some true then ((false, true), a)
   else endM s (goE (oneM t (eachM t step f) s place) (candN t s.rest s.rest) false a)
structure PDOK (pl dy : List Int) : Prop where
 lpl : pl.length = 7
 ldy : dy.length = 7
 plb : ∀ i, 0 ≤ pl.getD i 0 ∧ pl.getD i 0 ≤ 1000
 dyb : ∀ i, 0 ≤ dy.getD i 0 ∧ dy.getD i 0 ≤ 100000
end
theorem wrM_length {now : Nat} {x : Int} {l : List Int} : ∀ {k : Nat}, k ≤ l.length → (wrM now x k l).length = l.length
 | 0, _ => rfl
 | k + 1, h => by
   have ih := wrM_length (now := now) (x := x) (l := l) (k := k) (by omega)
   simp only [wrM]
   split
   ·rw [isp_length (by omega)]; exact ih
   ·exact ih
theorem wrM_get {now : Nat} {x : Int} {l : List Int} {i : Nat} : ∀ {k : Nat}, k ≤ l.length → (wrM now x k l).getD i 0 = if i < k ∧ now.testBit i = true then x else l.getD i 0
 | 0, _ => by simp [wrM]
 | k + 1, h => by
   have ih := wrM_get (now := now) (x := x) (l := l) (i := i) (k := k) (by omega)
   have hl := wrM_length (now := now) (x := x) (l := l) (k := k) (by omega)
   simp only [wrM]
   by_cases hk : now.testBit k = true
   ·rw [if_pos hk, isp_getD (by omega), ih]
    by_cases e : i = k
    ·subst e; simp [hk]
    ·rw [if_neg e]
     by_cases e2 : i < k
     ·simp [e2, show i < k + 1 by omega]
     ·simp [e2, show ¬ i < k + 1 by omega]
   ·rw [if_neg hk, ih]
    by_cases e : i = k
    ·subst e; simp [hk]
    ·by_cases e2 : i < k
     ·simp [e2, show i < k + 1 by omega]
     ·simp [e2, show ¬ i < k + 1 by omega]
theorem PDOK.put {t : Ann} {now : Nat} {place day : Int} {pl dy : List Int} (h : PDOK pl dy) (hn : t.reports.length ≤ 7) (hp : 0 ≤ place ∧ place ≤ 1000) (hd : 0 ≤ day ∧ day ≤ 100000) : PDOK (wrM now place t.reports.length pl) (wrM now day t.reports.length dy) := by
 have h1 := h.lpl
 have h2 := h.ldy
 refine ⟨by rw [wrM_length (by omega)]; exact h1, by rw [wrM_length (by omega)]; exact h2, fun i => ?_, fun i => ?_⟩
 ·rw [wrM_get (by omega)]
  split
  ·exact hp
  ·exact h.plb i
 ·rw [wrM_get (by omega)]
  split
  ·exact hd
  ·exact h.dyb i
theorem ndiff_less {a b : Nat} (ha : a < 256) (hb : b ≠ 0) (hs : b &&& a = b) : ndiff a b < a := by
 have hle : ndiff a b ≤ a := Nat.and_le_left
 rcases Nat.lt_or_eq_of_le hle with h | h
 ·exact h
 ·exfalso
  have hba : b < 256 := by
   have : b &&& a ≤ a := Nat.and_le_right
   rw [hs] at this; omega
  apply hb
  apply Nat.eq_of_testBit_eq
  intro i
  rw [Nat.zero_testBit]
  by_cases hi : i < 8
  ·have h1 := ndiff_bit (a := a) (b := b) hi
   rw [h] at h1
   have h2 : (b &&& a).testBit i = b.testBit i := by rw [hs]
   rw [Nat.testBit_and] at h2
   cases hbi : b.testBit i with
   | false => rfl
   | true =>
     rw [hbi] at h1 h2
     rw [Bool.true_and] at h2
     rw [h2] at h1
     simp at h1
  ·exact Nat.testBit_lt_two_pow (Nat.lt_of_lt_of_le hba (show 2 ^ 8 ≤ 2 ^ i from Nat.pow_le_pow_right (by omega) (by omega)))
theorem fitK_bd {t : Ann} {now : Nat} {day : Int} {q : Bool} : ∀ {k i : Nat}, fitK t now day q k = true → i < k → now.testBit i = true → day ≤ (t.reports.getD i default).hi
 | 0, _, _, h, _ => by omega
 | k + 1, i, h, hi, hb => by
   simp only [fitK, Bool.and_eq_true, Bool.or_eq_true, Bool.not_eq_true', decide_eq_true_eq] at h
   by_cases e : i = k
   ·subst e
    rcases h.2 with h2 | h2
    ·rw [hb] at h2; cases h2
    ·exact h2
   ·exact fitK_bd h.1 (by omega) hb
theorem tz_bit {m n : Nat} (h0 : m ≠ 0) (hm : m < 2 ^ n) (hn : n ≤ 7) : m.testBit (tz m) = true := by
 have h128 : m < 128 := Nat.lt_of_lt_of_le hm (show 2 ^ n ≤ 2 ^ 7 from Nat.pow_le_pow_right (by omega) hn)
 have := List.all_eq_true.1 tz_lt m (by simpa using h128)
 simp only [Bool.or_eq_true, Nat.beq_eq, Bool.and_eq_true] at this
 rcases this with h | h
 ·exact absurd h h0
 ·exact h.2
theorem fromK_bd {t : Ann} {now : Nat} {day : Int} {F : List Int} (ht : AnnOK t) (hF : F.length = 7) (hd : 0 ≤ day ∧ day ≤ 100000) (hb : ∀ i, i < 7 → 0 ≤ F.getD i 0 ∧ F.getD i 0 ≤ 1000000) : ∀ k, k ≤ t.claims.length → ∀ i, i < 7 → 0 ≤ (fromK t now day F k).getD i 0 ∧ (fromK t now day F k).getD i 0 ≤ 1000000
 | 0, _ => hb
 | k + 1, h => by
   intro i hi
   have ih := fromK_bd (now := now) ht hF hd hb k (by omega)
   have hl := fromK_length (now := now) (day := day) ht hF k (by omega)
   have h2 := (ht.clm k (by omega)).2.2
   have h3 := ht.reports
   simp only [fromK]
   split
   ·rw [isp_getD (by omega)]
    split
    ·have := ih (t.claims.getD k default).b.toNat (by omega)
     omega
    ·exact ih i hi
   ·exact ih i hi
theorem mayS_ok {t : Ann} {s : Ste} {now : Nat} (ht : AnnOK t) (hs : SteOK t s) (h0 : now ≠ 0) (hn : now &&& s.rest = now) (hf : (mayS t s now).2 = true) :
 SteOK t (mayS t s now).1 ∧ (mayS t s now).1.rest < s.rest ∧ 0 ≤ (mayS t s now).1.day ∧ (mayS t s now).1.day ≤ 100000 := by
 have hr := ht.reports
 have hrs := ht.rest
 have hsr := hs.rest
 have h256 : s.rest < 256 := Nat.lt_of_lt_of_le hs.rest (show 2 ^ t.reports.length ≤ 2 ^ 8 from Nat.pow_le_pow_right (by omega) (by omega))
 have hle : now ≤ s.rest := by
  have : now &&& s.rest ≤ s.rest := Nat.and_le_right
  rw [hn] at this; exact this
 have hlt := ndiff_less h256 h0 hn
 have hnb : now < 2 ^ t.reports.length := by omega
 have htz := tz_in h0 hnb hr.2
 have htb := tz_bit h0 hnb hr.2
 have hsl := (ht.rpt (tz now) htz).1
 have hdb := dayK_bd (now := now) ht hs hsl t.reports.length (Nat.le_refl _)
 simp only [mayS] at hf ⊢
 have hup := fitK_bd hf htz htb
 have hhi := (ht.rpt (tz now) htz).2
 have hdd : 0 ≤ dayN t s now ∧ dayN t s now ≤ 100000 := ⟨hdb.1, by omega⟩
 refine ⟨⟨by show ndiff s.rest now < _; omega, ?_, ?_, ⟨hdd.1, by show dayN t s now ≤ _; omega⟩, fun i hi => ?_, ?_⟩, hlt, hdd⟩
 ·show (isp s.slopes _ _).length = 10
  rw [isp_length (by rw [hs.sl]; unfold slopeO; omega)]; exact hs.sl
 ·exact fromK_length ht hs.fl _ (Nat.le_refl _)
 ·show 0 ≤ (isp s.slopes _ _).getD i 0 ∧ (isp s.slopes _ _).getD i 0 ≤ _
  rw [isp_getD (by rw [hs.sl]; unfold slopeO; omega)]
  split
  ·omega
  ·exact hs.slo i hi
 ·exact fromK_bd ht hs.fl hdd hs.frm _ (Nat.le_refl _)
theorem mayS_len {t : Ann} {s : Ste} {now : Nat} (ht : AnnOK t) (hs : SteOK t s) (h0 : now ≠ 0) (hn : now < 2 ^ t.reports.length) : (mayS t s now).1.slopes.length = 10 ∧ (mayS t s now).1.frm.length = 7 := by
 have htz := tz_in h0 hn ht.reports.2
 have hsl := (ht.rpt (tz now) htz).1
 refine ⟨?_, fromK_length ht hs.fl _ (Nat.le_refl _)⟩
 show (isp s.slopes _ _).length = 10
 rw [isp_length (by rw [hs.sl]; unfold slopeO; omega)]; exact hs.sl
section
variable {V : Type} {t : Ann} {step : V → List Int → List Int → V × Bool}
def EAOK (VOK : V → Prop) (a : EA V) : Prop := VOK a.v ∧ PDOK a.pl a.dy
theorem mem_candN {o : Nat} (ho : o < 256) {x m : Nat} (hm : m &&& o = m) (h : x ∈ candN t o m) : x ≠ 0 ∧ x &&& o = x ∧ sameK t x t.reports.length = true := by
 unfold candN at h
 rw [List.mem_filter] at h
 have h2 : x ≠ 0 ∧ sameK t x t.reports.length = true := by simpa [goodN] using h.2
 refine ⟨h2.1, ?_, h2.2⟩
 have : ∀ (n m : Nat), m ≤ n → m &&& o = m → x ∈ subsR o m → x &&& o = x := by
  intro n
  induction n with
  | zero =>
    intro m g1 g2 g3
    have e : m = 0 := by omega
    rw [e, subsR_step] at g3
    simp at g3
    rw [g3]; exact Nat.zero_and _
  | succ n ih =>
    intro m g1 g2 g3
    rw [subsR_step] at g3
    rcases List.mem_cons.1 g3 with e | e
    ·rw [e]; exact g2
    ·split at e
     ·cases e
     ·have hle : (m - 1) &&& o ≤ m - 1 := Nat.and_le_left
      exact ih _ (by omega) (by rw [Nat.and_assoc, Nat.and_self]) e
 exact this m m (Nat.le_refl _) hm h.1
theorem goE_ok {VOK : V → Prop} {one : Nat → EA V → (Bool × Bool) × EA V} : ∀ {l : List Nat} {fd : Bool} {a : EA V}, (∀ n ∈ l, ∀ a, EAOK VOK a → EAOK VOK (one n a).2) → EAOK VOK a → EAOK VOK (goE one l fd a).2
 | [], _, _, _, h => h
 | n :: l, fd, a, h1, h => by
   have h2 := h1 n (by simp) a h
   simp only [goE]
   split
   ·exact goE_ok (fun m hm => h1 m (by simp [hm])) h2
   ·exact h2
theorem eachM_ok {VOK : V → Prop} (ht : AnnOK t) (hst : ∀ v pl dy, VOK v → PDOK pl dy → VOK (step v pl dy).1) : ∀ (f : Nat) (s : Ste) (place : Int) (a : EA V), SteOK t s → 0 ≤ place → place + s.rest ≤ 1000 → EAOK VOK a → EAOK VOK (eachM t step f s place a).2
 | 0, _, _, _, _, _, _, h => h
 | f + 1, s, place, a, hs, hp0, hp, h => by
   have h256 : s.rest < 256 := Nat.lt_of_lt_of_le hs.rest (show 2 ^ t.reports.length ≤ 2 ^ 8 from Nat.pow_le_pow_right (by omega) (by have := ht.reports; omega))
   simp only [eachM]
   split
   ·exact ⟨hst _ _ _ h.1 h.2, h.2⟩
   ·split
    ·exact h
    ·have hg : EAOK VOK (goE (oneM t (eachM t step f) s place) (candN t s.rest s.rest) false a).2 := by
      refine goE_ok (fun n hn a ha => ?_) h
      obtain ⟨n0, n1, n2⟩ := mem_candN h256 (Nat.and_self _) hn
      unfold oneM
      split
      ·rename_i hm
       obtain ⟨m1, m2, m3⟩ := mayS_ok ht hs n0 n1 hm
       exact eachM_ok ht hst f _ _ _ m1 (by omega) (by omega) ⟨ha.1, ha.2.put ht.reports.2 ⟨hp0, by omega⟩ m3⟩
      ·exact ha
     unfold endM
     split
     ·exact hg
     ·exact hg
end
end Go.Am
namespace Go.Am
open Go.RowKit Go.Proofs
attribute [local irreducible] AWP zO Kt goK CallK zT zR SemF SemY Imp
set_option maxRecDepth 4000
set_option linter.unusedSimpArgs false
set_option linter.unusedVariables false
set_option maxHeartbeats 1600000
theorem next_c (t : Ann) (s : Ste) : SemF Try.prog 87 [.agg (zL t), .agg (stC s)] [] (.fn (.func 107) [] [.ptr 1 0 0, .ptr 0 0 0]) [some (.cells 35 1 0 (zL t)), some (.cells 136 1 0 (stC s))] := by
 simp only [zL, slR, slC, stC]
 (refine zH (ys := [.fn (.func 107) [] [.ptr 1 0 0, .ptr 0 0 0]]) (fun w args => Try.call87 ..) Try.func87 rfl (fun w0 m0 wz => ?_); simp only [Try.ntmps87, Try.results87, zN, zP, zU, zV, slR, slC, zL, sl, List.toList_toArray, List.cons_append, List.nil_append, List.length_cons, List.length_nil, Nat.reduceAdd, Nat.reduceSub])
 (repeat' (first
 | refine zC ?_
 | refine kt ?_
 | refine And.intro ?_ ?_
 | ((first | refine awp_stp rfl ?_ | refine awp_draw (by kernel_rfl) (by kernel_rfl) ?_ | refine Imp.le2 ?_ | refine go_split (fun _h => ?_) (fun _h => ?_)) <;> try simp (maxSteps := 4000000) only [go_sem, seval])
 | intro _h
 | refine zA ?_
 | refine zB ?_
 | refine zF ?_ ?_
 | (show zE _ _ = true; kernel_rfl)
 | (show zD _ _ = true; kernel_rfl)
 | (omega)))
def seG (t : Ann) (b : Nat) (pl dy : List Int) : List AV := slR t.reports :: slC t.claims :: .int .i64 t.rest :: .map b :: (zS pl ++ zS dy)
theorem nth_s4 {x y z u : AV} {l : List AV} {i : Nat} : nth (x :: y :: z :: u :: l) (4 + i) = nth l i := by
 rw [← nth_is, ← nth_is, show 4 + i = i + 1 + 1 + 1 + 1 by omega]; rfl
theorem se_pl {x y z u : AV} {S F : List Int} {i : Nat} (h : i < S.length) {K : AV → Prop} : optK (nth (x :: y :: z :: u :: (zS S ++ zS F)) (4 + i)) K = K (.int .i64 (S.getD i 0)) := by
 rw [nth_s4, nth_app1 (by rw [ints_length]; exact h), ints_nth h]; rfl
theorem se_dy {x y z u : AV} {S F : List Int} {i : Nat} (hS : S.length = 7) (h : i < F.length) {K : AV → Prop} : optK (nth (x :: y :: z :: u :: (zS S ++ zS F)) (11 + i)) K = K (.int .i64 (F.getD i 0)) := by
 rw [show 11 + i = 4 + (7 + i) by omega, nth_s4, show 7 + i = (zS S).length + i by rw [ints_length, hS], nth_app2, ints_nth h]; rfl
theorem ss_pl {x y z u : AV} {S F : List Int} {i : Nat} (h : i < S.length) {v : Int} : splice (x :: y :: z :: u :: (zS S ++ zS F)) (4 + i) [.int .i64 v] = x :: y :: z :: u :: (zS (isp S i v) ++ zS F) := by
 rw [ints_isp]
 simp only [splice, isp]
 rw [show 4 + i = i + 1 + 1 + 1 + 1 by omega, show i + 1 + 1 + 1 + 1 + [AV.int IntKind.i64 v].length = (i + 1) + 1 + 1 + 1 + 1 by simp]
 simp only [List.take_succ_cons, List.drop_succ_cons]
 rw [List.take_append_of_le_length (by rw [ints_length]; omega), List.drop_append_of_le_length (by rw [ints_length]; omega)]
 simp
theorem ss_dy {x y z u : AV} {S F : List Int} {i : Nat} (hS : S.length = 7) (h : i < F.length) {v : Int} : splice (x :: y :: z :: u :: (zS S ++ zS F)) (11 + i) [.int .i64 v] = x :: y :: z :: u :: (zS S ++ zS (isp F i v)) := by
 rw [ints_isp]
 simp only [splice, isp]
 have hl : (zS S).length = 7 := by rw [ints_length, hS]
 rw [show 11 + i = (7 + i) + 1 + 1 + 1 + 1 by omega, show (7 + i) + 1 + 1 + 1 + 1 + [AV.int IntKind.i64 v].length = (7 + (i + 1)) + 1 + 1 + 1 + 1 by simp only [List.length_cons, List.length_nil]; omega]
 simp only [List.take_succ_cons, List.drop_succ_cons]
 rw [← hl, List.take_length_add_append, List.drop_length_add_append]
 simp
theorem se_len {S F : List Int} (h1 : S.length = 7) (h2 : F.length = 7) : (zS S ++ zS F).length = 14 := by rw [List.length_append, ints_length, ints_length, h1, h2]
theorem tkb136 : tkb Try.prog 136 = some ([false, false] ++ List.replicate 17 false) := by kernel_rfl
theorem keyS {a d : Int} {S F : List Int} (h1 : S.length = 10) (h2 : F.length = 7) : keyOK Try.prog 136 (.agg (.int .u8 a :: .int .i64 d :: (zS S ++ zS F))) := by
 refine ⟨eqOK 136, ?_⟩
 rw [tkb136]
 have : (zS S ++ zS F).map kindB = List.replicate 17 false := by
  apply List.ext_getElem
  ·rw [List.length_map, stt_len h1 h2, List.length_replicate]
  ·intro i a b
   rw [List.getElem_map, List.getElem_replicate]
   obtain ⟨n, hn⟩ : ∃ n, (zS S ++ zS F)[i]'(by simpa using a) = .int .i64 n := by
    have := List.getElem_mem (l := zS S ++ zS F) (n := i) (by simpa using a)
    rcases List.mem_append.1 this with h | h
    ·obtain ⟨n, hn⟩ := mem_ints h; exact ⟨n, hn⟩
    ·obtain ⟨n, hn⟩ := mem_ints h; exact ⟨n, hn⟩
   rw [hn]; rfl
 rw [List.map_cons, List.map_cons, this]
 rfl
theorem rb_mn {σ : Nat → Nat} : renB σ (.map []) = .map [] := by simp [renB]
theorem rf_mn {p : Nat → Prop} : refsB p (.map []) = True := by simp [refsB]
attribute [go_sem] rb_mn rf_mn
theorem kmC_nil2 : kmC [] = [] := rfl
def zer7 : List Int := [0, 0, 0, 0, 0, 0, 0]
theorem zer_ok : PDOK zer7 zer7 := by
 have h : ∀ i, zer7.getD i 0 = 0 := fun i => by
  rcases Nat.lt_or_ge i 7 with h | h
  ·exact (show ∀ i, i < 7 → zer7.getD i 0 = 0 by decide) i h
  ·rw [List.getD_eq_getElem?_getD, List.getElem?_eq_none h]; rfl
 exact ⟨rfl, rfl, fun i => by rw [h]; omega, fun i => by rw [h]; omega⟩
theorem begS_ok {t : Ann} (ht : AnnOK t) : SteOK t (begS t) := by
 have h10 : ∀ i, i < 10 → (begS t).slopes.getD i 0 = 0 := show ∀ i, i < 10 → ([0, 0, 0, 0, 0, 0, 0, 0, 0, 0] : List Int).getD i 0 = 0 by decide
 have h7 : ∀ i, i < 7 → (begS t).frm.getD i 0 = 0 := show ∀ i, i < 7 → ([0, 0, 0, 0, 0, 0, 0] : List Int).getD i 0 = 0 by decide
 refine ⟨?_, rfl, rfl, ⟨Int.le_refl _, show (0 : Int) ≤ 1000000 by omega⟩, fun i hi => by rw [h10 i hi]; omega, fun i hi => by rw [h7 i hi]; omega⟩
 show 2 ^ t.reports.length - 1 < 2 ^ t.reports.length
 have : 0 < 2 ^ t.reports.length := Nat.pos_of_ne_zero (by simp)
 omega
section
variable {V : Type}
def allM (t : Ann) (step : V → List Int → List Int → V × Bool) (v : V) : (Bool × Bool) × EA V := eachM t step 128 (begS t) 0 ⟨v, zer7, zer7, []⟩
variable {fin : V → Bool} {t : Ann} {step : V → List Int → List Int → V × Bool}
theorem goE_fin {one : Nat → EA V → (Bool × Bool) × EA V} (h1 : ∀ n a, fin (one n a).2.v = true → fin a.v = true) : ∀ {l : List Nat} {fd : Bool} {a : EA V}, fin (goE one l fd a).2.v = true → fin a.v = true
 | [], _, _, h => h
 | n :: l, fd, a, h => by
   simp only [goE] at h
   split at h
   ·exact h1 n a (goE_fin h1 h)
   ·exact h1 n a h
theorem endM_v {s : Ste} {r : (Bool × Bool) × EA V} : (endM s r).2.v = r.2.v := by unfold endM; split <;> rfl
theorem oneM_fin {rec : Ste → Int → EA V → (Bool × Bool) × EA V} (h : ∀ s place a, fin (rec s place a).2.v = true → fin a.v = true) (s : Ste) (place : Int) (n : Nat) (a : EA V) (h2 : fin (oneM t rec s place n a).2.v = true) : fin a.v = true := by
 unfold oneM at h2
 split at h2
 ·exact h _ _ (putE t n place (mayS t s n).1.day a) h2
 ·exact h2
theorem eachM_fin (hs : ∀ v pl dy, fin (step v pl dy).1 = true → fin v = true) : ∀ (f : Nat) (s : Ste) (place : Int) (a : EA V), fin (eachM t step f s place a).2.v = true → fin a.v = true
 | 0, _, _, _, h => h
 | f + 1, s, place, a, h => by
   simp only [eachM] at h
   split at h
   ·exact hs _ _ _ h
   ·split at h
    ·exact h
    ·rw [endM_v] at h
     exact goE_fin (oneM_fin (eachM_fin hs f) s place) h
end
end Go.Am
namespace Go.Am
open Go.RowKit Go.Proofs
set_option linter.unusedSimpArgs false
set_option linter.unusedVariables false
theorem faultA_ok {t : Ann} (hk : ∀ c ∈ t.claims, 0 ≤ c.kind) (h : faultA t = 0) : AnnOK t := by
 unfold faultA at h
 split at h
 ·omega
 ·rename_i h1
  split at h
  ·omega
  ·rename_i h2
   have hR : t.reports.all rptB = true := by
    cases hr : t.reports.all rptB with
    | true => rfl
    | false => exact absurd (.inr (.inl hr)) h2
   have hC : t.claims.all (clmB t) = true := by
    cases hr : t.claims.all (clmB t) with
    | true => rfl
    | false => exact absurd (.inr (.inr hr)) h2
   have h3 : ¬ (t.reports.length = 0 ∨ ¬ (0 ≤ t.rest ∧ t.rest ≤ 100000)) := fun h => h2 (.inl h)
   have h4 : 0 ≤ t.rest ∧ t.rest ≤ 100000 := Classical.not_not.1 fun h => h3 (.inr h)
   refine ⟨by omega, by omega, h4, fun i hi => ?_, fun j hj => ?_⟩
   ·have h5 : rptB (t.reports.getD i default) = true := List.all_eq_true.1 hR _ (by rw [List.getD_eq_getElem?_getD, List.getElem?_eq_getElem hi]; exact List.getElem_mem hi)
    unfold rptB at h5
    have h6 := of_decide_eq_true h5
    omega
   ·have hm : t.claims.getD j default ∈ t.claims := by rw [List.getD_eq_getElem?_getD, List.getElem?_eq_getElem hj]; exact List.getElem_mem hj
    have h5 : clmB t (t.claims.getD j default) = true := List.all_eq_true.1 hC _ hm
    have h6 := hk _ hm
    unfold clmB inxB at h5
    simp only [Bool.and_eq_true, decide_eq_true_eq] at h5
    omega
end Go.Am
