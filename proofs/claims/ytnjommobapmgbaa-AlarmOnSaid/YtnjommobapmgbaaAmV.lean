/- The abstract machine Am, part V: the rewriting of results; lists of numbers. -/
import Derived.Test.YtnjommobapmgbaaAmU
namespace Go.Am
open Go.RowKit

def sub1 (x y : AV) : Prop := avSub x y ∧ y ≠ .junk
section
variable {x y : AV} {xs ys : List AV} {a b : Int} {k : IntKind} {n n' : Nat} {f f' : Bool}
theorem sL_n : subL [] [] = True := nrfl rfl
theorem sL_c : subL (x :: xs) (y :: ys) = (sub1 x y ∧ subL xs ys) := by simp [subL, sub1, and_assoc]
theorem s1_int : sub1 (.int k a) (.int k b) = (a = b) := by simp [sub1, avSub]
theorem s1_tt {b : Bool} : sub1 (.bool true) (.bool b) = (b = true) := by simp [sub1, avSub, eq_comm]
theorem s1_ff {b : Bool} : sub1 (.bool false) (.bool b) = (b = false) := by simp [sub1, avSub, eq_comm]
theorem s1_bb {b c : Bool} : sub1 (.bool b) (.bool c) = (b = c) := by simp [sub1, avSub]
theorem s1_nils : sub1 .nils .nils = True := by simp [sub1, avSub]
theorem s1_nilp : sub1 .nilp .nilp = True := by simp [sub1, avSub]
theorem s1_nilm : sub1 .nilm .nilm = True := by simp [sub1, avSub]
theorem s1_psl : sub1 (.psl f n xs) (.psl false n' ys) = (n = n' ∧ xs = ys) := by
  cases f <;> simp [sub1, avSub]
theorem s1_pslt : sub1 (.psl true n xs) (.psl true n' ys) = (n = n' ∧ xs = ys) := by simp [sub1, avSub]
theorem s1_ns : sub1 .nils (.psl f n ys) = (n = 0 ∧ ys = []) := by simp [sub1, avSub]
theorem rS_tup : resSub (.tup xs) (.tup ys) = subL xs ys := nrfl rfl
theorem rS_agg : resSub (.agg xs) (.agg ys) = subL xs ys := nrfl rfl
theorem rS_int : resSub (.int k a) (.int k b) = (a = b) := s1_int
theorem rS_tt {b : Bool} : resSub (.bool true) (.bool b) = (b = true) := s1_tt
theorem rS_ff {b : Bool} : resSub (.bool false) (.bool b) = (b = false) := s1_ff
theorem rS_bb {b c : Bool} : resSub (.bool b) (.bool c) = (b = c) := s1_bb
theorem rS_psl : resSub (.psl f n xs) (.psl false n' ys) = (n = n' ∧ xs = ys) := s1_psl
theorem rS_ns : resSub .nils (.psl f n ys) = (n = 0 ∧ ys = []) := s1_ns
theorem rS_nn : resSub .nils .nils = True := s1_nils
theorem pa_fnc {g : FuncId} : (pureA (.fn (.func g) xs ys) = true) = (pureL xs ∧ pureL ys) := by simp [pureA, pureL]
theorem decide_t {p : Prop} [Decidable p] : (decide p = true) = p := by simp
theorem decide_f {p : Prop} [Decidable p] : (decide p = false) = ¬ p := by simp

/-- A list of numbers, as cells. -/
def ints (l : List Int) : List AV := l.map (.int .i64)
theorem ints_length {l : List Int} : (ints l).length = l.length := by simp [ints]
theorem ints_nil : ints [] = [] := nrfl rfl
theorem ints_cons {l : List Int} : ints (a :: l) = .int .i64 a :: ints l := nrfl rfl
theorem ints_append {l l' : List Int} : ints (l ++ l') = ints l ++ ints l' := by simp [ints]
theorem pl_ints {l : List Int} : pureL (ints l) = True := by
  simp only [pureL, ints, List.mem_map, eq_iff_iff, iff_true]
  rintro _ ⟨a, _, rfl⟩; rfl
theorem nth_ints {l : List Int} {j : Nat} {K : AV → Prop} : optK (nth (ints l) j) K = (j < l.length ∧ K (.int .i64 (l.getD j 0))) := by
  rw [← nth_is]
  simp only [ints, List.getElem?_map]
  by_cases h : j < l.length
  · simp [h, optK, List.getD_eq_getElem?_getD]
  · simp [h, optK]
/-- A list of numbers. -/
def sl (l : List Int) : AV := .psl false l.length (ints l)
attribute [go_sem] sL_n sL_c s1_int s1_tt s1_ff s1_nils s1_nilp s1_nilm s1_psl s1_pslt s1_ns rS_tup rS_agg rS_int rS_tt rS_ff rS_psl rS_ns rS_nn pa_fnc decide_t decide_f ints_length ints_nil ints_cons pl_ints nth_ints sl
def condK (x : AV) (a b : Prop) : Prop := match x with | .bool true => a | .bool false => b | _ => False
@[congr] theorem condK_congr {x x' : AV} {a b : Prop} (h : x = x') : condK x a b = condK x' a b := by rw [h]
theorem cd_t {a b : Prop} : condK (.bool true) a b = a := nrfl rfl
theorem cd_f {a b : Prop} : condK (.bool false) a b = b := nrfl rfl
theorem awp_cd [Base] {P : Program} {w0 : World} {r : Option Nat} {X : List (AV × Value)} {s : St} {Q : Exit → St → Prop} {c : Operand} {x y : Code} (h : condK (aev s.T c) (AWP P w0 r X x s Q) (AWP P w0 r X y s Q)) : AWP P w0 r X (.cond c x y) s Q := by
  unfold condK at h
  split at h
  · rename_i e; exact awp_cond_true e h
  · rename_i e; exact awp_cond_false e h
  · exact h.elim
/-- What one state says, the other says too. -/
def Imp [Base] (w0 : World) (X : List (AV × Value)) (s s' : St) : Prop := ∀ a w, Sat w0 X s a w → Sat w0 X s' a w
section
variable [Base] {P : Program} {w0 : World} {r : Option Nat} {X : List (AV × Value)} {s s' s'' : St} {Q : Exit → St → Prop} {c : Code}
theorem Imp.refl : Imp w0 X s s := fun _ _ h => h
theorem Imp.trans (h : Imp w0 X s s') (h' : Imp w0 X s' s'') : Imp w0 X s s'' := fun a w hs => h' a w (h a w hs)
theorem Imp.le2 (h : Le2 X s s') : Imp w0 X s s' := fun _ _ hs => hs.le2 h
theorem Imp.frz (b : Nat) {t : TypeId} {sz g : Nat} {xs : List AV} (hb : hget s.H b = some (.cells t sz g xs)) (hp : pureL xs) (hX : ∀ q ∈ X, fz2 b g xs q.1 = q.1) : Imp w0 X s (frz b g xs s) := fun _ _ hs => hs.frz hb hp hX
theorem Imp.adT (j : Nat) (e : TypeId) (sz : Nat) (hj : lget s.T j = .nils) : Imp w0 X s (adT j e sz s) := fun _ _ hs => hs.adT j e sz hj
theorem awp_imp (h : Imp w0 X s s') (h' : AWP P w0 r X c s' Q) : AWP P w0 r X c s Q := fun a w hs => h' a w (h a w hs)
/-- A LOOP. -/
theorem awp_loopI {γ : Type} (I : γ → St) (μ : γ → Nat) (g0 : γ) (h0 : Imp w0 X s (I g0))
    (round : ∀ g, AWP P w0 r X c (I g) (thenQ (fun s' => ∃ g', μ g' < μ g ∧ Imp w0 X s' (I g')) Q)) : AWP P w0 r X (.loop c) s Q := by
  intro a w hs
  refine wpIn_loop_g (fun g a w => Sat w0 X (I g) a w) μ g0 (h0 a w hs) (fun g a w hI => wpIn_mono (round g a w hI) ?_)
  rintro e a' w' ⟨s', h1, h2⟩
  cases e with
  | normal => obtain ⟨g', hlt, hle⟩ := h1; exact ⟨g', hlt, hle _ _ h2⟩
  | exit id => exact ⟨s', h1, h2⟩
  | goto l => exact ⟨s', h1, h2⟩
  | ret => exact ⟨s', h1, h2⟩
  | panic c => exact ⟨s', h1, h2⟩
  | outgrown => exact ⟨s', h1, h2⟩
/-- So many rounds at most. -/
def ARounds (P : Program) (w0 : World) (r : Option Nat) (X : List (AV × Value)) (c : Code) (Q : Exit → St → Prop) : Nat → St → Prop
  | 0, _ => False
  | n + 1, s => AWP P w0 r X c s (thenQ (ARounds P w0 r X c Q n) Q)
theorem awp_rounds (n : Nat) (h : ARounds P w0 r X c Q n s) : AWP P w0 r X (.loop c) s Q := by
  refine awp_loopI (γ := { p : Nat × St // ARounds P w0 r X c Q p.1 p.2 }) (fun g => g.1.2) (fun g => g.1.1) ⟨(n, s), h⟩ .refl ?_
  rintro ⟨⟨n, s⟩, h⟩
  cases n with
  | zero => exact h.elim
  | succ n =>
    refine AWP.mono h fun e s' hq => ?_
    cases e with
    | normal => exact ⟨⟨(n, s'), hq⟩, Nat.lt_succ_self _, .refl⟩
    | exit id => exact hq
    | goto l => exact hq
    | ret => exact hq
    | panic c => exact hq
    | outgrown => exact hq
theorem ar_s {n : Nat} : ARounds P w0 r X c Q (n + 1) s = AWP P w0 r X c s (thenQ (ARounds P w0 r X c Q n) Q) := nrfl rfl
end
attribute [go_sem] cd_t cd_f Int.cast_ofNat_Int
attribute [go_sem] List.toList_toArray List.map_cons List.map_nil List.cons_append List.nil_append List.length_cons List.length_nil List.drop_succ_cons List.drop_zero List.drop_nil List.replicate_succ List.replicate_zero List.flatten_cons List.flatten_nil List.append_nil Nat.zero_add Nat.add_zero Nat.mul_one Nat.zero_mul Nat.one_mul Nat.le_refl Nat.zero_lt_one List.getElem?_cons_zero List.getElem?_cons_succ Int.toNat_natCast true_and and_true and_self if_true Bool.not_true Bool.not_false true_implies false_implies implies_true not_true_eq_false not_false_eq_true
end
end Go.Am
