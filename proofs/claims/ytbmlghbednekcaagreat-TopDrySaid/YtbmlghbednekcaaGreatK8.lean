/- Parts LbA, RwD, LbB, LbC, LbD, LbE of the proof, one behind the other. No statement is proved here. -/
import Derived.Test.YtbmlghbednekcaaGreatK6
import Derived.Test.YtbmlghbednekcaaGreatK7
import Derived.Test.YtbmlghbednekcaaGreatK2
import Derived.Test.YtbmlghbednekcaaGreatK5
import Derived.KernelRfl
import Derived.Carry
import Derived.Test.YtbmlghbednekcaaGreatK4
set_option linter.unusedVariables false -- all
set_option linter.unusedSimpArgs false
/- Contracts of the law TopDry: words, and the closed lake. -/
namespace Go.Am
namespace La
open Go.RowKit Go.Proofs
attribute [local irreducible] AWP CallS Kt goK CallK stepK evOps SemF SemY Imp
set_option maxRecDepth 4000
set_option linter.unusedSimpArgs false
set_option linter.unusedVariables false
set_option maxHeartbeats 3200000

def u16s (l : List Int) : List AV := l.map (.int .u16)
def slW (l : List Int) : AV := .psl false l.length (u16s l)
theorem u16s_length {l : List Int} : (u16s l).length = l.length := by simp [u16s]
theorem pl_u16s {l : List Int} : pureL (u16s l) = True := by
  simp only [pureL, u16s, List.mem_map, eq_iff_iff, iff_true]
  rintro x ⟨a, _, rfl⟩; rfl
theorem al_u16s {l : List Int} {p : Nat → Bool} : (u16s l).all (live2 p) = true := by
  simp only [u16s, List.all_map, List.all_eq_true]
  intro x _; rfl
theorem nth_u16s {l : List Int} {j : Nat} {K : AV → Prop} : optK (nth (u16s l) j) K = (j < l.length ∧ K (.int .u16 (l.getD j 0))) := by
  rw [← nth_is]
  simp only [u16s, List.getElem?_map]
  by_cases h : j < l.length
  · simp [h, optK, List.getD_eq_getElem?_getD]
  · simp [h, optK]
attribute [go_sem] u16s_length pl_u16s al_u16s nth_u16s
def wordsOK (words : List Int) : Prop := words.length ≤ 9223372036854775807 ∧ ∀ i, i < words.length → 0 ≤ words.getD i 0 ∧ words.getD i 0 ≤ 65535
theorem tmod_bd {a b : Int} (h : 0 ≤ a) (hb : 0 < b) : 0 ≤ a.tmod b ∧ a.tmod b < b := ⟨Int.tmod_nonneg b h, Int.tmod_lt_of_pos a hb⟩
/-- One of some words. -/
def wdV (words : List Int) (at_ : Int) : Int := if words.length = 0 then 0 else words.getD (at_.tmod words.length).toNat 0
theorem wdV_bd {words : List Int} {at_ : Int} (hw : wordsOK words) (ha : 0 ≤ at_) : 0 ≤ wdV words at_ ∧ wdV words at_ ≤ 65535 := by
  unfold wdV
  split
  · omega
  · have h1 := tmod_bd (b := (words.length : Int)) ha (by omega)
    exact hw.2 (at_.tmod words.length).toNat (by omega)
theorem word_c (words : List Int) (at_ : Int) (hw : wordsOK words) (ha : 0 ≤ at_) : CallS Tryz.prog 20 [slW words, .int .i64 at_] (.int .i64 (wdV words at_)) := by
  have hw1 := hw.1
  have h1 := fun h : 0 < (words.length : Int) => tmod_bd (b := (words.length : Int)) ha h
  have h2 := fun h : 0 < (words.length : Int) => hw.2 (at_.tmod words.length).toNat (by have := h1 h; omega)
  unfold wdV
  simp only [slW]
  (refine callS_of_awp (fun w args => Tryz.call20 ..) Tryz.func20 rfl (fun w0 m0 wz => ?_); simp only [Tryz.ntmps20, Tryz.results20, initT, junks, sl, List.toList_toArray, List.cons_append, List.nil_append, List.length_cons, List.length_nil, Nat.reduceAdd, Nat.reduceSub])
  (repeat' (first
 | refine awp_seqK ?_
 | refine kt ?_
 | refine And.intro ?_ ?_
 | ((first | refine awp_stp rfl ?_ | refine awp_draw (by kernel_rfl) (by kernel_rfl) ?_ | refine Imp.le2 ?_ | refine go_split (fun _h => ?_) (fun _h => ?_)) <;> try simp (maxSteps := 4000000) only [go_sem, seval])
 | intro _h
 | refine awp_block ?_
 | refine awp_scope ?_
 | refine cond_b ?_ ?_
 | (show heapOK _ _ = true; kernel_rfl)
 | (show heapOK2 _ _ = true; kernel_rfl)
 | (omega)))
  all_goals first
    | omega
    | (rw [if_pos (by omega)])
    | (rw [if_neg (by omega)])
    | (have h1 := h1 (by omega); have h2 := h2 (by omega); omega)
    | trace_state
/-! The closed lake. -/
def dryL : Lake := ⟨[0, 5], 1, 1, 0, 0, 0, 0, 0, 0, [(9, 9)]⟩
def dryH : House := ⟨0, 0, 1⟩
theorem dry_ok : LakeOK dryL := by
  refine ⟨by decide, by decide, by decide, by decide, fun i hi => ?_, by decide, by decide, by decide, by decide, by decide, fun h hh => ?_⟩
  · have hi : i + 1 < 2 := hi
    have : i = 0 := by omega
    subst this; decide
  · have hh : h < 1 := hh
    have : h = 0 := by omega
    subst this; decide
theorem dry_cho : ChoOK 0 [] := ⟨by decide, fun i hi => by simp at hi, fun i hi => by simp at hi⟩
theorem dry_rea : reaV dryL [] [] 0 0 dryH 1 = ⟨true, 9, 0⟩ := by kernel_rfl
theorem tkb66 : tkb Tryz.prog 66 = some [true, false, false] := by kernel_rfl
theorem eq66 {K : AV → Prop} : binK Tryz.prog .eql 66 (.agg [.bool true, .int .i64 9, .int .i64 0]) (.agg [.bool true, .int .i64 9, .int .i64 0]) K = K (.bool true) := by
  have hs : scalEq [.bool true, .int .i64 9, .int .i64 0] [.bool true, .int .i64 9, .int .i64 0] = some true := by simp [scalEq]
  simp only [binK, hs, eq_true (eqOK (P := Tryz.prog) (t := 66)), List.map_cons, List.map_nil, kindB, tkb66, true_and]
attribute [go_sem] eq66
theorem dry_c : CallS Tryz.prog 11 [] (.bool true) := by
  have h1 := Waves_c dryL [] [] 0 0 0 [dryH] dry_ok (by decide) (by decide) dry_cho (by decide) (by omega) (by decide) (by decide)
  have e0 : [dryH].map (fun h => reaV dryL [] [] 0 0 h dryL.infl.length) = [⟨true, 9, 0⟩] := by
    rw [List.map_singleton]; exact congrArg (fun x => [x]) dry_rea
  rw [e0] at h1
  simp only [slRe, slWk, slHo, sl, ints, recs, lakeC, dryL, dryH, rivC, slR, rngC, houseC, reaC, List.length_cons, List.length_nil, List.flatMap_cons, List.flatMap_nil, List.append_nil, List.cons_append, List.nil_append, List.map_cons, List.map_nil, Nat.zero_add, Nat.reduceAdd] at h1
  (refine callS_of_awp (fun w args => Tryz.call11 ..) Tryz.func11 rfl (fun w0 m0 wz => ?_); simp only [Tryz.ntmps11, Tryz.results11, initT, junks, sl, List.toList_toArray, List.cons_append, List.nil_append, List.length_cons, List.length_nil, Nat.reduceAdd, Nat.reduceSub])
  (repeat' (first
 | refine awp_seqK ?_
 | refine kt ?_
 | refine And.intro ?_ ?_
 | ((first | refine awp_stp rfl ?_ | refine awp_draw (by kernel_rfl) (by kernel_rfl) ?_ | refine Imp.le2 ?_ | refine callK_of ((h1.subD (by simp [subD, subL, avSub]))) ?_ | refine go_split (fun _h => ?_) (fun _h => ?_)) <;> try simp (maxSteps := 4000000) only [go_sem, seval])
 | intro _h
 | refine awp_block ?_
 | refine awp_scope ?_
 | refine cond_b ?_ ?_
 | (show heapOK _ _ = true; kernel_rfl)
 | (show heapOK2 _ _ = true; kernel_rfl)
 | (omega)))
  all_goals trace_state
end La
end Go.Am

/- What the arguments of the law TopDry can be read as. -/
namespace Go.Am
open Go.RowKit Go.Proofs Go.ChangeShapes
section
variable {H : Type} {en : TypeId × Value → H} {P : Program} {w : World} {base : Nat} {sp : Nat → Bool} {held : Bool}
theorem arg_slice {rc : Reach} {b0 : Nat} {t e : TypeId} {v : Value} {d : DataW H} {p : List MemPlace} {α : Type} {x : α → AV} {ok : α → Prop} (hu : P.underlying t = some (.slice e)) (r : Reads P t 1 (fun a => [x a]) ok)
    (hv : Value.okWide P w rc b0 t v) (h : DataW.Trod en P w base sp held t v d p) : ∃ a, ok a ∧ PRep (fun c => c < w.heap.size) w (x a) v := by
  refine arg_one r ?_ h
  cases v
  case agg cs => exact absurd hv (by simp [Value.okWide, Cell.okWide, Cell.ok, hu])
  all_goals rfl
theorem arg_int {rc : Reach} {b0 : Nat} {t : TypeId} {k : IntKind} {v : Value} {d : DataW H} {p : List MemPlace} {α : Type} {x : α → AV} {ok : α → Prop} (hu : P.underlying t = some (.int k)) (r : Reads P t 1 (fun a => [x a]) ok)
    (hv : Value.okWide P w rc b0 t v) (h : DataW.Trod en P w base sp held t v d p) : ∃ a, ok a ∧ PRep (fun c => c < w.heap.size) w (x a) v := by
  refine arg_one r ?_ h
  cases v
  case agg cs => exact absurd hv (by simp [Value.okWide, Cell.okWide, Cell.ok, hu])
  all_goals rfl
theorem arg_bool {rc : Reach} {b0 : Nat} {t : TypeId} {v : Value} {d : DataW H} {p : List MemPlace} {α : Type} {x : α → AV} {ok : α → Prop} (hu : P.underlying t = some .bool) (r : Reads P t 1 (fun a => [x a]) ok)
    (hv : Value.okWide P w rc b0 t v) (h : DataW.Trod en P w base sp held t v d p) : ∃ a, ok a ∧ PRep (fun c => c < w.heap.size) w (x a) v := by
  refine arg_one r ?_ h
  cases v
  case agg cs => exact absurd hv (by simp [Value.okWide, Cell.okWide, Cell.ok, hu])
  all_goals rfl
variable {enc : TypeId × Value → H} {spare : Nat → Bool}
theorem trodAll_seven {t0 t1 t2 t3 t4 t5 t6 : TypeId} {args : Array Value} {ds : List (DataW H)} {ps : List MemPlace} (h : DataW.TrodAll enc P w base spare held [t0, t1, t2, t3, t4, t5, t6] args.toList ds ps) :
    ∃ v0 v1 v2 v3 v4 v5 v6 d0 d1 d2 d3 d4 d5 d6 p0 p1 p2 p3 p4 p5 p6, args = #[v0, v1, v2, v3, v4, v5, v6] ∧ ds = [d0, d1, d2, d3, d4, d5, d6] ∧ ps = p0 ++ p1 ++ p2 ++ p3 ++ p4 ++ p5 ++ p6 ∧ DataW.Trod enc P w base spare held t0 v0 d0 p0 ∧ DataW.Trod enc P w base spare held t1 v1 d1 p1 ∧ DataW.Trod enc P w base spare held t2 v2 d2 p2 ∧ DataW.Trod enc P w base spare held t3 v3 d3 p3 ∧ DataW.Trod enc P w base spare held t4 v4 d4 p4 ∧ DataW.Trod enc P w base spare held t5 v5 d5 p5 ∧ DataW.Trod enc P w base spare held t6 v6 d6 p6 := by
  obtain ⟨v0, _, d0, _, p0, _, hargs, rfl, rfl, h0, r0⟩ := trodAll_cons h
  obtain ⟨v1, _, d1, _, p1, _, rfl, rfl, rfl, h1, r1⟩ := trodAll_cons r0
  obtain ⟨v2, _, d2, _, p2, _, rfl, rfl, rfl, h2, r2⟩ := trodAll_cons r1
  obtain ⟨v3, _, d3, _, p3, _, rfl, rfl, rfl, h3, r3⟩ := trodAll_cons r2
  obtain ⟨v4, _, d4, _, p4, _, rfl, rfl, rfl, h4, r4⟩ := trodAll_cons r3
  obtain ⟨v5, _, d5, _, p5, _, rfl, rfl, rfl, h5, r5⟩ := trodAll_cons r4
  obtain ⟨v6, _, d6, _, p6, _, rfl, rfl, rfl, h6, r6⟩ := trodAll_cons r5
  obtain ⟨rfl, rfl, rfl⟩ := trodAll_nil r6
  exact ⟨v0, v1, v2, v3, v4, v5, v6, d0, d1, d2, d3, d4, d5, d6, p0, p1, p2, p3, p4, p5, p6, by cases args; simp_all, rfl, by simp, h0, h1, h2, h3, h4, h5, h6⟩
end
theorem okI_u8 {n : Int} (h : okI .u8 n) : 0 ≤ n ∧ n ≤ 255 := by
  unfold okI at h
  simpa [Lit.wf, IntKind.has, IntKind.min, IntKind.max, IntKind.signed, IntKind.bits] using h
theorem okI_i8 {n : Int} (h : okI .i8 n) : -128 ≤ n ∧ n ≤ 127 := by
  unfold okI at h
  simpa [Lit.wf, IntKind.has, IntKind.min, IntKind.max, IntKind.signed, IntKind.bits] using h
theorem okI_u16 {n : Int} (h : okI .u16 n) : 0 ≤ n ∧ n ≤ 65535 := by
  unfold okI at h
  simpa [Lit.wf, IntKind.has, IntKind.min, IntKind.max, IntKind.signed, IntKind.bits] using h
theorem okI_i64 {n : Int} (h : okI .i64 n) : -9223372036854775808 ≤ n ∧ n ≤ 9223372036854775807 := by
  unfold okI at h
  simpa [Lit.wf, IntKind.has, IntKind.min, IntKind.max, IntKind.signed, IntKind.bits] using h
namespace La
theorem rd3 : Reads Tryz.prog 3 1 (fun n : Int => [.int .i64 n]) (okI .i64) := reads_int Tryz.underlying3 (by kernel_rfl)
theorem rd5 : Reads Tryz.prog 5 1 (fun n : Int => [.int .u8 n]) (okI .u8) := reads_int Tryz.underlying5 (by kernel_rfl)
theorem rd131 : Reads Tryz.prog 131 1 (fun n : Int => [.int .u16 n]) (okI .u16) := reads_int Tryz.underlying131 (by kernel_rfl)
theorem rd28 : Reads Tryz.prog 28 1 (fun l : List Int => [sl l]) (fun _ => True) :=
  (reads_slice Tryz.underlying28 (by kernel_rfl) (by omega) rd3).conv id _ _ (fun _ => rfl) (fun l => by simp only [sl, ints, id]; congr 2; induction l with | nil => rfl | cons a l ih => simp_all) (fun _ _ => trivial)
theorem rd37 : Reads Tryz.prog 37 1 (fun l : List Int => [slW l]) wordsOK :=
  (reads_slice Tryz.underlying37 (by kernel_rfl) (by omega) rd131).conv id _ _ (fun _ => rfl) (fun l => by simp only [slW, u16s, id]; congr 2; induction l with | nil => rfl | cons a l ih => simp_all) (fun l h => ⟨h.1, fun i hi => by
    have hi : i < l.length := hi
    rw [show (id l).getD i 0 = l[i] by simp [List.getD_eq_getElem?_getD, hi]]
    exact okI_u16 (h.2 _ (List.getElem_mem hi))⟩)
theorem rd25 : Reads Tryz.prog 25 2 (fun p : Int × Int => [.int .i64 p.1, .int .i64 p.2]) (fun _ => True) :=
  (reads_struct Tryz.underlying25 (by kernel_rfl) (readsF_cons rfl rd3 (readsF_cons rfl rd3 readsF_nil))).conv (fun p => (p.1, p.2.1)) _ _ (fun _ => rfl) (fun _ => rfl) (fun _ _ => trivial)
theorem rd29 : Reads Tryz.prog 29 2 (fun p : Int × Int => [.int .i64 p.1, .int .i64 p.2]) (fun _ => True) :=
  (reads_struct Tryz.underlying29 (by kernel_rfl) (readsF_cons rfl rd3 (readsF_cons rfl rd3 readsF_nil))).conv (fun p => (p.1, p.2.1)) _ _ (fun _ => rfl) (fun _ => rfl) (fun _ _ => trivial)
theorem rd68 : Reads Tryz.prog 68 6 homeC (fun _ => True) :=
  (reads_struct Tryz.underlying68 (by kernel_rfl) (readsF_cons rfl rd3 (readsF_cons rfl rd5 (readsF_cons rfl rd25 (readsF_cons rfl rd3 (readsF_cons rfl rd3 readsF_nil)))))).conv (fun p => ⟨p.1, p.2.1, p.2.2.1.1, p.2.2.1.2, p.2.2.2.1, p.2.2.2.2.1⟩) _ _ (fun _ => rfl) (fun _ => rfl) (fun _ _ => trivial)
theorem rd93 : Reads Tryz.prog 93 3 hallC (fun _ => True) :=
  (reads_struct Tryz.underlying93 (by kernel_rfl) (readsF_cons rfl rd3 (readsF_cons rfl rd5 (readsF_cons rfl rd3 readsF_nil)))).conv (fun p => ⟨p.1, p.2.1, p.2.2.1⟩) _ _ (fun _ => rfl) (fun _ => rfl) (fun _ _ => trivial)
theorem rd22 : Reads Tryz.prog 22 1 (fun l : List Home => [slH l]) (fun _ => True) :=
  (reads_slice Tryz.underlying22 (by kernel_rfl) (by omega) rd68).conv id _ _ (fun _ => rfl) (fun l => rfl) (fun _ _ => trivial)
theorem rd23 : Reads Tryz.prog 23 1 (fun l : List Hall => [slL l]) (fun _ => True) :=
  (reads_slice Tryz.underlying23 (by kernel_rfl) (by omega) rd93).conv id _ _ (fun _ => rfl) (fun l => rfl) (fun _ _ => trivial)
theorem rd27 : Reads Tryz.prog 27 5 townC (fun _ => True) :=
  (reads_struct Tryz.underlying27 (by kernel_rfl) (readsF_cons rfl rd22 (readsF_cons rfl rd23 (readsF_cons rfl rd3 (readsF_cons rfl rd25 readsF_nil))))).conv (fun p => ⟨p.1, p.2.1, p.2.2.1, p.2.2.2.1.1, p.2.2.2.1.2⟩) _ _ (fun _ => rfl) (fun _ => rfl) (fun _ _ => trivial)
theorem rd30 : Reads Tryz.prog 30 1 (fun l : List (Int × Int) => [slR l]) (fun _ => True) :=
  (reads_slice Tryz.underlying30 (by kernel_rfl) (by omega) rd29).conv id _ _ (fun _ => rfl) (fun l => rfl) (fun _ _ => trivial)
theorem rd32 : Reads Tryz.prog 32 10 lakeC (fun _ => True) :=
  (reads_struct Tryz.underlying32 (by kernel_rfl) (readsF_cons rfl rd28 (readsF_cons rfl rd3 (readsF_cons rfl rd3 (readsF_cons rfl rd29 (readsF_cons rfl rd29 (readsF_cons rfl rd29 (readsF_cons rfl rd30 readsF_nil)))))))).conv (fun p => ⟨p.1, p.2.1, p.2.2.1, p.2.2.2.1.1, p.2.2.2.1.2, p.2.2.2.2.1.1, p.2.2.2.2.1.2, p.2.2.2.2.2.1.1, p.2.2.2.2.2.1.2, p.2.2.2.2.2.2.1⟩) _ _ (fun _ => rfl) (fun _ => rfl) (fun _ _ => trivial)
theorem rd96 : Reads Tryz.prog 96 3 workC (fun _ => True) :=
  (reads_struct Tryz.underlying96 (by kernel_rfl) (readsF_cons rfl rd3 (readsF_cons rfl rd3 (readsF_cons rfl rd3 readsF_nil)))).conv (fun p => ⟨p.1, p.2.1, p.2.2.1⟩) _ _ (fun _ => rfl) (fun _ => rfl) (fun _ _ => trivial)
theorem rd33 : Reads Tryz.prog 33 1 (fun l : List Work => [slWk l]) (fun _ => True) :=
  (reads_slice Tryz.underlying33 (by kernel_rfl) (by omega) rd96).conv id _ _ (fun _ => rfl) (fun l => rfl) (fun _ _ => trivial)
theorem rd35 : Reads Tryz.prog 35 3 (fun p : Int × Int × Int => rivC p.1 p.2.1 p.2.2) (fun _ => True) :=
  (reads_struct Tryz.underlying35 (by kernel_rfl) (readsF_cons rfl rd3 (readsF_cons rfl rd29 readsF_nil))).conv (fun p => (p.1, p.2.1.1, p.2.1.2)) _ _ (fun _ => rfl) (fun _ => rfl) (fun _ _ => trivial)
theorem rd48 : Reads Tryz.prog 48 3 houseC (fun _ => True) :=
  (reads_struct Tryz.underlying48 (by kernel_rfl) (readsF_cons rfl rd3 (readsF_cons rfl rd3 (readsF_cons rfl rd3 readsF_nil)))).conv (fun p => ⟨p.1, p.2.1, p.2.2.1⟩) _ _ (fun _ => rfl) (fun _ => rfl) (fun _ _ => trivial)
theorem rd36 : Reads Tryz.prog 36 1 (fun l : List House => [slHo l]) (fun l => l.length ≤ 9223372036854775807) :=
  (reads_slice Tryz.underlying36 (by kernel_rfl) (by omega) rd48).conv id _ _ (fun _ => rfl) (fun l => rfl) (fun _ h => h.1)
end La
end Go.Am

/- Plain words: the Real by words; homes that have to be gone when a wave may come. No program is in sight. -/
namespace Go.Am
namespace La
open Go.RowKit Go.Proofs
set_option linter.unusedSimpArgs false
set_option linter.unusedVariables false

/-- What flows in and what seeps, by words. -/
def inW (l : Lake) (words : List Int) (h : Nat) : Int := (l.infl.getD h default).1 + (wdV words (2 * (h : Int) + 2)).tmod ((l.infl.getD h default).2 - (l.infl.getD h default).1 + 1)
def seW (l : Lake) (words : List Int) (h : Nat) : Int := l.seLo + (wdV words (2 * (h : Int) + 3)).tmod (l.seHi - l.seLo + 1)
def tabI (f : Nat → Int) (k : Nat) : List Int := (List.range k).map f
theorem tabI_length {f : Nat → Int} {k : Nat} : (tabI f k).length = k := by simp [tabI]
theorem tabI_succ {f : Nat → Int} {k : Nat} : ints (tabI f k) ++ [.int .i64 (f k)] = ints (tabI f (k + 1)) := by simp [tabI, List.range_succ, ints]
theorem tabI_getD {f : Nat → Int} {k i : Nat} (h : i < k) : (tabI f k).getD i 0 = f i := by
  simp [tabI, List.getD_eq_getElem?_getD, h]
def stW (l : Lake) (words : List Int) : Int := l.stLo + (wdV words 0).tmod (l.stHi - l.stLo + 1)
def soW (l : Lake) (words : List Int) : Int := l.soLo + (wdV words 1).tmod (l.soHi - l.soLo + 1)
def realW (l : Lake) (words : List Int) (k : Nat) : Real := ⟨tabI (inW l words) k, tabI (seW l words) k, stW l words, soW l words⟩
theorem realW_ok {l : Lake} {words : List Int} (hw : wordsOK words) (hl : LakeOK l) : RealOK l (realW l words l.infl.length) := by
  refine ⟨tabI_length, tabI_length, fun h hh => ?_, fun h hh => ?_, ?_, ?_⟩
  · have h1 := hl.infl h hh
    have h2 := tmod_bd (b := (l.infl.getD h default).2 - (l.infl.getD h default).1 + 1) (wdV_bd (at_ := 2 * (h : Int) + 2) hw (by omega)).1 (by omega)
    show _ ≤ (tabI (inW l words) _).getD h 0 ∧ (tabI (inW l words) _).getD h 0 ≤ _
    rw [tabI_getD hh]
    unfold inW; omega
  · have h1 := hl.seep
    have h2 := tmod_bd (b := l.seHi - l.seLo + 1) (wdV_bd (at_ := 2 * (h : Int) + 3) hw (by omega)).1 (by omega)
    show _ ≤ (tabI (seW l words) _).getD h 0 ∧ (tabI (seW l words) _).getD h 0 ≤ _
    rw [tabI_getD hh]
    unfold seW; omega
  · have h1 := hl.start
    have h2 := tmod_bd (b := l.stHi - l.stLo + 1) (wdV_bd (at_ := 0) hw (by omega)).1 (by omega)
    show _ ≤ stW l words ∧ stW l words ≤ _
    unfold stW; omega
  · have h1 := hl.soft
    have h2 := tmod_bd (b := l.soHi - l.soLo + 1) (wdV_bd (at_ := 1) hw (by omega)).1 (by omega)
    show _ ≤ soW l words ∧ soW l words ≤ _
    unfold soW; omega
/-- A home has to be gone when a wave may come. -/
def setG (R : List Rea) (i : Nat) (h : Home) : Home := ⟨h.people, h.pets, h.lo, h.hi, h.walk, if (R.getD (i % R.length) default).may = true then min h.gone (R.getD (i % R.length) default).fr else h.gone⟩
def gonL (R : List Rea) (l : List Home) : Nat → List Home
  | 0 => l
  | k + 1 => isp (gonL R l k) k (setG R k ((gonL R l k).getD k default))
theorem gonL_length {R : List Rea} {l : List Home} : ∀ k, k ≤ l.length → (gonL R l k).length = l.length
  | 0, _ => rfl
  | k + 1, h => by
    have ih := gonL_length (R := R) (l := l) k (by omega)
    simp only [gonL]
    rw [isp_length (by omega), ih]
theorem gonL_getD {R : List Rea} {l : List Home} {i : Nat} : ∀ k, k ≤ l.length → (gonL R l k).getD i default = if i < k then setG R i (l.getD i default) else l.getD i default
  | 0, _ => by simp [gonL]
  | k + 1, h => by
    have hl := gonL_length (R := R) (l := l) k (by omega)
    simp only [gonL]
    rw [isp_getD (by omega), gonL_getD k (by omega), gonL_getD k (by omega)]
    by_cases e : i = k
    · subst e; simp
    · rw [if_neg e]
      by_cases e2 : i < k
      · rw [if_pos e2, if_pos (by omega)]
      · rw [if_neg e2, if_neg (by omega)]
theorem gonL_same {R : List Rea} {l : List Home} {k : Nat} (hk : k < l.length) (h : (R.getD (k % R.length) default).may = false) : gonL R l (k + 1) = gonL R l k := by
  have hl := gonL_length (R := R) (l := l) k (by omega)
  simp only [gonL]
  have e : setG R k ((gonL R l k).getD k default) = (gonL R l k).getD k default := by unfold setG; rw [h]; simp
  rw [e, isp_set (by omega)]
  apply List.ext_getElem (by simp)
  intro i h1 h2
  rw [List.getElem_set]
  split
  · rename_i e; subst e; rw [List.getD_eq_getElem?_getD, List.getElem?_eq_getElem (by omega)]; rfl
  · rfl
def gonT (R : List Rea) (t : Town) : Town := ⟨gonL R t.homes t.homes.length, t.halls, t.seats, t.clo, t.chi⟩
theorem gonT_ok {R : List Rea} {t : Town} (ht : TownOK t) (hR : 0 < R.length) (h : ∀ i, i < R.length → (R.getD i default).may = true → 0 ≤ (R.getD i default).fr) : TownOK (gonT R t) := by
  have hl := gonL_length (R := R) (l := t.homes) t.homes.length (Nat.le_refl _)
  refine ⟨?_, ht.halls, ht.seats, ht.call, fun i hi => ?_, ht.hall⟩
  · show 1 ≤ (gonL R t.homes t.homes.length).length ∧ (gonL R t.homes t.homes.length).length ≤ 8
    rw [hl]; exact ht.homes
  · have hi : i < (gonL R t.homes t.homes.length).length := hi
    rw [hl] at hi
    show HomeOK ((gonL R t.homes t.homes.length).getD i default)
    rw [gonL_getD _ (Nat.le_refl _), if_pos hi]
    obtain ⟨h1, h2, h3, h4⟩ := ht.home i hi
    refine ⟨h1, h2, h3, ?_⟩
    unfold setG
    simp only
    split
    · rename_i hm
      have := h (i % R.length) (Nat.mod_lt _ hR) hm
      omega
    · exact h4
/-- A bus of the plan is in its hall before the wave that may reach a home. -/
theorem bus_told {R : List Rea} {t : Town} {b : Bus} {x : Int} (hb : BusP (gonT R t) b) (hx : x ∈ b.homes) : 0 ≤ x ∧ ((R.getD (x.toNat % R.length) default).may = true → thV (gonT R t) b ≤ (R.getD (x.toNat % R.length) default).fr) := by
  obtain ⟨⟨h1, h2⟩, h3⟩ := hb.gone x hx
  refine ⟨h1, fun hm => ?_⟩
  have hl := gonL_length (R := R) (l := t.homes) t.homes.length (Nat.le_refl _)
  have h2 : x < (gonL R t.homes t.homes.length).length := h2
  rw [hl] at h2
  have e : (gonT R t).homes.getD x.toNat default = setG R x.toNat (t.homes.getD x.toNat default) := by
    show (gonL R t.homes t.homes.length).getD _ _ = _
    rw [gonL_getD _ (Nat.le_refl _), if_pos (by omega)]
  rw [e] at h3
  unfold setG at h3
  simp only [hm, if_true] at h3
  unfold thV
  omega
end La
end Go.Am

/- The law TopDry, as a contract: what it does with arguments that are not right. -/
namespace Go.Am
namespace La
open Go.RowKit Go.Proofs
attribute [local irreducible] AWP CallS Kt goK CallK stepK evOps SemF SemY Imp
set_option maxRecDepth 4000
set_option linter.unusedSimpArgs false
set_option linter.unusedVariables false
set_option maxHeartbeats 6400000

theorem thinLB_ok {l : Lake} {works : List Work} {ch : List Int} (h : thinLB l works ch = true) : l.vols.length ≤ 35 ∧ l.infl.length ≤ 65 ∧ works.length ≤ 15 ∧ ch.length ≤ 15 := by
  unfold thinLB at h
  simp only [Bool.and_eq_true, decide_eq_true_eq] at h
  omega
/-- What the law asks of its arguments. -/
def guardB (t : Town) (l : Lake) (works : List Work) (ch : List Int) (loss plo phi : Int) (hs : List House) : Prop :=
  thinB t = true ∧ faultT t = 0 ∧ thinLB l works ch = true ∧ faultK l = 0 ∧ faultW works = 0 ∧ choB works.length ch = true ∧ ((0 ≤ loss ∧ loss ≤ 1000000) ∧ (0 ≤ plo ∧ plo ≤ phi) ∧ phi ≤ 60) ∧ 0 < hs.length ∧ hs.length ≤ 20
theorem dryNot_c (t : Town) (l : Lake) (works : List Work) (ch : List Int) (loss plo phi : Int) (hs : List House) (words : List Int) (hg : ¬ guardB t l works ch loss plo phi hs) (hlen : hs.length ≤ 9223372036854775807) :
    CallS Tryz.prog 3 [.agg (townC t), .agg (lakeC l), slWk works, sl ch, .agg (rivC loss plo phi), slHo hs, slW words] (.bool true) := by
  have hA := dry_c
  have k1 := Go.Am.thin_c t
  have k3 := thin_c l works ch
  have k7 := rightRiver_c loss plo phi
  simp only [rivC, slHo, slW]
  cases c1 : thinB t with
  | false =>
    rw [c1] at k1
    simp only [sl, slWk, slR, lakeC, townC, slH, slL] at k1 k3 k7 ⊢
    (refine callS_of_awp (fun w args => Tryz.call3 ..) Tryz.func3 rfl (fun w0 m0 wz => ?_); simp only [Tryz.ntmps3, Tryz.results3, initT, junks, slHo, slW, rivC, sl, List.toList_toArray, List.cons_append, List.nil_append, List.length_cons, List.length_nil, Nat.reduceAdd, Nat.reduceSub])
    (repeat' (first
 | ((omega))
 | ((exfalso; omega))
 | refine awp_seqK ?_
 | refine kt ?_
 | refine And.intro ?_ ?_
 | ((first | refine awp_stp rfl ?_ | refine awp_draw (by kernel_rfl) (by kernel_rfl) ?_ | refine Imp.le2 ?_ | refine callK_of (k1) ?_ | refine callK_of (hA) ?_ | refine go_split (fun _h => ?_) (fun _h => ?_)) <;> try simp (maxSteps := 4000000) only [go_sem, seval])
 | intro _h
 | refine awp_block ?_
 | refine awp_scope ?_
 | refine cond_b ?_ ?_
 | (show heapOK _ _ = true; kernel_rfl)
 | (show heapOK2 _ _ = true; kernel_rfl)
 | (omega)))
    all_goals trace_state
  | true =>
  rw [c1] at k1
  have hb : townOK t := by
    have := of_decide_eq_true c1
    exact ⟨by omega, by omega⟩
  have k2 := fault_c t hb
  by_cases c2 : faultT t = 0
  rotate_left
  · generalize faultT t = e at *
    simp only [sl, slWk, slR, lakeC, townC, slH, slL] at k1 k2 k3 k7 ⊢
    (refine callS_of_awp (fun w args => Tryz.call3 ..) Tryz.func3 rfl (fun w0 m0 wz => ?_); simp only [Tryz.ntmps3, Tryz.results3, initT, junks, slHo, slW, rivC, sl, List.toList_toArray, List.cons_append, List.nil_append, List.length_cons, List.length_nil, Nat.reduceAdd, Nat.reduceSub])
    (repeat' (first
 | ((omega))
 | ((exfalso; omega))
 | refine awp_seqK ?_
 | refine kt ?_
 | refine And.intro ?_ ?_
 | ((first | refine awp_stp rfl ?_ | refine awp_draw (by kernel_rfl) (by kernel_rfl) ?_ | refine Imp.le2 ?_ | refine callK_of (k1) ?_ | refine callK_of (k2) ?_ | refine callK_of (hA) ?_ | refine go_split (fun _h => ?_) (fun _h => ?_)) <;> try simp (maxSteps := 4000000) only [go_sem, seval])
 | intro _h
 | refine awp_block ?_
 | refine awp_scope ?_
 | refine cond_b ?_ ?_
 | (show heapOK _ _ = true; kernel_rfl)
 | (show heapOK2 _ _ = true; kernel_rfl)
 | (omega)))
    all_goals first | (exfalso; simp at _h; omega) | trace_state
  rw [c2] at k2
  cases c3 : thinLB l works ch with
  | false =>
    rw [c3] at k3
    simp only [sl, slWk, slR, lakeC, townC, slH, slL] at k1 k2 k3 k7 ⊢
    (refine callS_of_awp (fun w args => Tryz.call3 ..) Tryz.func3 rfl (fun w0 m0 wz => ?_); simp only [Tryz.ntmps3, Tryz.results3, initT, junks, slHo, slW, rivC, sl, List.toList_toArray, List.cons_append, List.nil_append, List.length_cons, List.length_nil, Nat.reduceAdd, Nat.reduceSub])
    (repeat' (first
 | ((omega))
 | ((exfalso; omega))
 | refine awp_seqK ?_
 | refine kt ?_
 | refine And.intro ?_ ?_
 | ((first | refine awp_stp rfl ?_ | refine awp_draw (by kernel_rfl) (by kernel_rfl) ?_ | refine Imp.le2 ?_ | refine callK_of (k1) ?_ | refine callK_of (k2) ?_ | refine callK_of (k3) ?_ | refine callK_of (hA) ?_ | refine go_split (fun _h => ?_) (fun _h => ?_)) <;> try simp (maxSteps := 4000000) only [go_sem, seval])
 | intro _h
 | refine awp_block ?_
 | refine awp_scope ?_
 | refine cond_b ?_ ?_
 | (show heapOK _ _ = true; kernel_rfl)
 | (show heapOK2 _ _ = true; kernel_rfl)
 | (omega)))
    all_goals trace_state
  | true =>
  rw [c3] at k3
  obtain ⟨b1, b2, b3, b4⟩ := thinLB_ok c3
  have k4 := rFault_c l (by omega) (by omega)
  by_cases c4 : faultK l = 0
  rotate_left
  · generalize faultK l = e at *
    simp only [sl, slWk, slR, lakeC, townC, slH, slL] at k1 k2 k3 k4 k7 ⊢
    (refine callS_of_awp (fun w args => Tryz.call3 ..) Tryz.func3 rfl (fun w0 m0 wz => ?_); simp only [Tryz.ntmps3, Tryz.results3, initT, junks, slHo, slW, rivC, sl, List.toList_toArray, List.cons_append, List.nil_append, List.length_cons, List.length_nil, Nat.reduceAdd, Nat.reduceSub])
    (repeat' (first
 | ((omega))
 | ((exfalso; omega))
 | refine awp_seqK ?_
 | refine kt ?_
 | refine And.intro ?_ ?_
 | ((first | refine awp_stp rfl ?_ | refine awp_draw (by kernel_rfl) (by kernel_rfl) ?_ | refine Imp.le2 ?_ | refine callK_of (k1) ?_ | refine callK_of (k2) ?_ | refine callK_of (k3) ?_ | refine callK_of (k4) ?_ | refine callK_of (hA) ?_ | refine go_split (fun _h => ?_) (fun _h => ?_)) <;> try simp (maxSteps := 4000000) only [go_sem, seval])
 | intro _h
 | refine awp_block ?_
 | refine awp_scope ?_
 | refine cond_b ?_ ?_
 | (show heapOK _ _ = true; kernel_rfl)
 | (show heapOK2 _ _ = true; kernel_rfl)
 | (omega)))
    all_goals first | (exfalso; simp at _h; omega) | trace_state
  rw [c4] at k4
  have k5 := worksFault_c works (by omega)
  by_cases c5 : faultW works = 0
  rotate_left
  · generalize faultW works = e at *
    simp only [sl, slWk, slR, lakeC, townC, slH, slL] at k1 k2 k3 k4 k5 k7 ⊢
    (refine callS_of_awp (fun w args => Tryz.call3 ..) Tryz.func3 rfl (fun w0 m0 wz => ?_); simp only [Tryz.ntmps3, Tryz.results3, initT, junks, slHo, slW, rivC, sl, List.toList_toArray, List.cons_append, List.nil_append, List.length_cons, List.length_nil, Nat.reduceAdd, Nat.reduceSub])
    (repeat' (first
 | ((omega))
 | ((exfalso; omega))
 | refine awp_seqK ?_
 | refine kt ?_
 | refine And.intro ?_ ?_
 | ((first | refine awp_stp rfl ?_ | refine awp_draw (by kernel_rfl) (by kernel_rfl) ?_ | refine Imp.le2 ?_ | refine callK_of (k1) ?_ | refine callK_of (k2) ?_ | refine callK_of (k3) ?_ | refine callK_of (k4) ?_ | refine callK_of (k5) ?_ | refine callK_of (hA) ?_ | refine go_split (fun _h => ?_) (fun _h => ?_)) <;> try simp (maxSteps := 4000000) only [go_sem, seval])
 | intro _h
 | refine awp_block ?_
 | refine awp_scope ?_
 | refine cond_b ?_ ?_
 | (show heapOK _ _ = true; kernel_rfl)
 | (show heapOK2 _ _ = true; kernel_rfl)
 | (omega)))
    all_goals first | (exfalso; simp at _h; omega) | trace_state
  rw [c5] at k5
  have k6 := choice_c works ch (by omega) (by omega)
  cases c6 : choB works.length ch with
  | false =>
    rw [c6] at k6
    simp only [sl, slWk, slR, lakeC, townC, slH, slL] at k1 k2 k3 k4 k5 k6 k7 ⊢
    (refine callS_of_awp (fun w args => Tryz.call3 ..) Tryz.func3 rfl (fun w0 m0 wz => ?_); simp only [Tryz.ntmps3, Tryz.results3, initT, junks, slHo, slW, rivC, sl, List.toList_toArray, List.cons_append, List.nil_append, List.length_cons, List.length_nil, Nat.reduceAdd, Nat.reduceSub])
    (repeat' (first
 | ((omega))
 | ((exfalso; omega))
 | refine awp_seqK ?_
 | refine kt ?_
 | refine And.intro ?_ ?_
 | ((first | refine awp_stp rfl ?_ | refine awp_draw (by kernel_rfl) (by kernel_rfl) ?_ | refine Imp.le2 ?_ | refine callK_of (k1) ?_ | refine callK_of (k2) ?_ | refine callK_of (k3) ?_ | refine callK_of (k4) ?_ | refine callK_of (k5) ?_ | refine callK_of (k6) ?_ | refine callK_of (hA) ?_ | refine go_split (fun _h => ?_) (fun _h => ?_)) <;> try simp (maxSteps := 4000000) only [go_sem, seval])
 | intro _h
 | refine awp_block ?_
 | refine awp_scope ?_
 | refine cond_b ?_ ?_
 | (show heapOK _ _ = true; kernel_rfl)
 | (show heapOK2 _ _ = true; kernel_rfl)
 | (omega)))
    all_goals trace_state
  | true =>
  rw [c6] at k6
  by_cases c7 : ((0 ≤ loss ∧ loss ≤ 1000000) ∧ (0 ≤ plo ∧ plo ≤ phi) ∧ phi ≤ 60)
  rotate_left
  · rw [decide_eq_false c7] at k7
    simp only [sl, slWk, slR, lakeC, townC, slH, slL] at k1 k2 k3 k4 k5 k6 k7 ⊢
    (refine callS_of_awp (fun w args => Tryz.call3 ..) Tryz.func3 rfl (fun w0 m0 wz => ?_); simp only [Tryz.ntmps3, Tryz.results3, initT, junks, slHo, slW, rivC, sl, List.toList_toArray, List.cons_append, List.nil_append, List.length_cons, List.length_nil, Nat.reduceAdd, Nat.reduceSub])
    (repeat' (first
 | ((omega))
 | ((exfalso; omega))
 | refine awp_seqK ?_
 | refine kt ?_
 | refine And.intro ?_ ?_
 | ((first | refine awp_stp rfl ?_ | refine awp_draw (by kernel_rfl) (by kernel_rfl) ?_ | refine Imp.le2 ?_ | refine callK_of (k1) ?_ | refine callK_of (k2) ?_ | refine callK_of (k3) ?_ | refine callK_of (k4) ?_ | refine callK_of (k5) ?_ | refine callK_of (k6) ?_ | refine callK_of (k7) ?_ | refine callK_of (hA) ?_ | refine go_split (fun _h => ?_) (fun _h => ?_)) <;> try simp (maxSteps := 4000000) only [go_sem, seval])
 | intro _h
 | refine awp_block ?_
 | refine awp_scope ?_
 | refine cond_b ?_ ?_
 | (show heapOK _ _ = true; kernel_rfl)
 | (show heapOK2 _ _ = true; kernel_rfl)
 | (omega)))
    all_goals trace_state
  rw [decide_eq_true c7] at k7
  by_cases c8 : hs.length = 0
  · have e8 : ((hs.length : Int) = 0) = True := eq_true (by omega)
    simp only [sl, slWk, slR, lakeC, townC, slH, slL] at k1 k2 k3 k4 k5 k6 k7 ⊢
    (refine callS_of_awp (fun w args => Tryz.call3 ..) Tryz.func3 rfl (fun w0 m0 wz => ?_); simp only [Tryz.ntmps3, Tryz.results3, initT, junks, slHo, slW, rivC, sl, List.toList_toArray, List.cons_append, List.nil_append, List.length_cons, List.length_nil, Nat.reduceAdd, Nat.reduceSub])
    (repeat' (first
 | ((omega))
 | ((exfalso; omega))
 | refine awp_seqK ?_
 | refine kt ?_
 | refine And.intro ?_ ?_
 | ((first | refine awp_stp rfl ?_ | refine awp_draw (by kernel_rfl) (by kernel_rfl) ?_ | refine Imp.le2 ?_ | refine callK_of (k1) ?_ | refine callK_of (k2) ?_ | refine callK_of (k3) ?_ | refine callK_of (k4) ?_ | refine callK_of (k5) ?_ | refine callK_of (k6) ?_ | refine callK_of (k7) ?_ | refine callK_of (hA) ?_ | refine go_split (fun _h => ?_) (fun _h => ?_)) <;> try simp (maxSteps := 4000000) only [go_sem, seval, e8, decide_true])
 | intro _h
 | refine awp_block ?_
 | refine awp_scope ?_
 | refine cond_b ?_ ?_
 | (show heapOK _ _ = true; kernel_rfl)
 | (show heapOK2 _ _ = true; kernel_rfl)
 | (omega)))
    all_goals trace_state
  · have e8 : ((hs.length : Int) = 0) = False := eq_false (by omega)
    have c9 : ¬ hs.length ≤ 20 := fun h => hg ⟨c1, c2, c3, c4, c5, c6, c7, by omega, h⟩
    have e9 : (20 < (hs.length : Int)) = True := eq_true (by omega)
    simp only [sl, slWk, slR, lakeC, townC, slH, slL] at k1 k2 k3 k4 k5 k6 k7 ⊢
    (refine callS_of_awp (fun w args => Tryz.call3 ..) Tryz.func3 rfl (fun w0 m0 wz => ?_); simp only [Tryz.ntmps3, Tryz.results3, initT, junks, slHo, slW, rivC, sl, List.toList_toArray, List.cons_append, List.nil_append, List.length_cons, List.length_nil, Nat.reduceAdd, Nat.reduceSub])
    (repeat' (first
 | ((omega))
 | ((exfalso; omega))
 | refine awp_seqK ?_
 | refine kt ?_
 | refine And.intro ?_ ?_
 | ((first | refine awp_stp rfl ?_ | refine awp_draw (by kernel_rfl) (by kernel_rfl) ?_ | refine Imp.le2 ?_ | refine callK_of (k1) ?_ | refine callK_of (k2) ?_ | refine callK_of (k3) ?_ | refine callK_of (k4) ?_ | refine callK_of (k5) ?_ | refine callK_of (k6) ?_ | refine callK_of (k7) ?_ | refine callK_of (hA) ?_ | refine go_split (fun _h => ?_) (fun _h => ?_)) <;> try simp (maxSteps := 4000000) only [go_sem, seval, e8, e9, decide_true, decide_false])
 | intro _h
 | refine awp_block ?_
 | refine awp_scope ?_
 | refine cond_b ?_ ?_
 | (show heapOK _ _ = true; kernel_rfl)
 | (show heapOK2 _ _ = true; kernel_rfl)
 | (omega)))
    all_goals trace_state
end La
end Go.Am

/- The law TopDry, as a contract: it returns true. -/
namespace Go.Am
namespace La
open Go.RowKit Go.Proofs
attribute [local irreducible] AWP CallS Kt goK CallK stepK evOps SemF SemY Imp
set_option maxRecDepth 4000
set_option linter.unusedSimpArgs false
set_option linter.unusedVariables false
set_option maxHeartbeats 6400000

section
variable {α : Type} {enc : α → List AV} {sz : Nat} {l : List α} {d : α}
theorem sp_recs (he : ∀ a, (enc a).length = sz) {i o : Nat} (hi : i < l.length) (ho : o < sz) {v : AV} {a' : α} (h : enc a' = splice (enc (l.getD i d)) o [v]) : splice (recs enc l) (i * sz + o) [v] = recs enc (isp l i a') := by
  have e0 : recs enc l = recs enc (l.take i) ++ recs enc (l.drop i) := by
    show l.flatMap enc = (l.take i).flatMap enc ++ (l.drop i).flatMap enc
    rw [← List.flatMap_append, List.take_append_drop]
  have e1 : recs enc (l.drop i) = enc (l.getD i d) ++ recs enc (l.drop (i + 1)) := by rw [← recs_drop he, recs_at (d := d) he hi]
  have e2 : (recs enc (l.take i)).length = i * sz := by rw [recs_length he, List.length_take, Nat.min_eq_left (by omega)]
  have e3 := he (l.getD i d)
  have e4 : recs enc (isp l i a') = recs enc (l.take i) ++ (enc a' ++ recs enc (l.drop (i + 1))) := by simp [recs, isp]
  rw [e4, e0, e1, h]
  simp only [splice]
  generalize recs enc (l.take i) = A at *
  generalize enc (l.getD i d) = E at *
  generalize recs enc (l.drop (i + 1)) = B at *
  rw [← e2, ← List.append_assoc, List.take_append_of_le_length (by rw [List.length_append]; omega), List.take_length_add_append, List.drop_append_of_le_length (by rw [List.length_append, List.length_singleton]; omega), show A.length + o + [v].length = A.length + (o + [v].length) by omega, List.drop_length_add_append]
  simp only [List.append_assoc]
end
theorem nth_B2 {l : List Bus} {i : Nat} {K : AV → Prop} : optK (nth (recs busC l) (i * 3 + 2)) K = (i < l.length ∧ K (sl (l.getD i default).homes)) := nth_recs (sz := 3) (o := 2) (fun _ => rfl) (by omega)
theorem ld_Re66 {l : List Rea} {i : Nat} {K : AV → Prop} : loadK Tryz.prog 66 (recs reaC l) (i * 3) K = (i < l.length ∧ K (.agg (reaC (l.getD i default)))) := ld_recs tagg66 tsz66 (fun _ => rfl) (by omega)
attribute [go_sem ↓] nth_B2 ld_Re66
instance {l : List Home} : Still (recs homeC l) := ⟨fun y hy => by
  simp only [recs, List.mem_flatMap] at hy
  obtain ⟨h, _, hy⟩ := hy
  simp only [homeC, List.mem_cons, List.not_mem_nil, or_false] at hy
  rcases hy with rfl | rfl | rfl | rfl | rfl | rfl <;> rfl⟩
theorem homeB_of {h : Home} (o : HomeOK h) : homeB h = true := decide_eq_true ⟨o.people, o.prep, o.walk, o.gone⟩
theorem hallB_of {h : Hall} (o : HallOK h) : hallB h = true := decide_eq_true ⟨o.room, o.drive⟩
theorem townOK_fault {t : Town} (h : TownOK t) : faultT t = 0 := by
  have h1 := h.homes
  have h2 := h.halls
  have e1 : t.homes.all homeB = true := by
    rw [List.all_eq_true]; intro x hx; obtain ⟨i, hi, rfl⟩ := mem_getD (d := default) hx; exact homeB_of (h.home i hi)
  have e2 : t.halls.all hallB = true := by
    rw [List.all_eq_true]; intro x hx; obtain ⟨i, hi, rfl⟩ := mem_getD (d := default) hx; exact hallB_of (h.hall i hi)
  unfold faultT
  rw [if_neg (by omega), if_neg]
  rintro ((h3 | h3) | h3 | h3 | h3)
  · omega
  · exact h3 h.seats
  · exact h3 h.call
  · rw [e1] at h3; cases h3
  · rw [e2] at h3; cases h3
/-- The fewest buses of fewer homes are not more. -/
instance {l : List Int} : Still (ints l) := ⟨fun y hy => by
  simp only [ints, List.mem_map] at hy
  obtain ⟨n, _, rfl⟩ := hy
  rfl⟩
theorem mem_ints' {l : List Int} {y : AV} (h : y ∈ ints l) : ∃ n, y = .int .i64 n := by
  simp only [ints, List.mem_map] at h
  obtain ⟨n, _, rfl⟩ := h
  exact ⟨n, rfl⟩
/-- The choice is handed on as a list of its own, and taken away. -/
theorem take_waves {l : Lake} {works : List Work} {ch : List Int} {loss plo phi : Int} {hs : List House} {r : AV} (h : CallS Tryz.prog 13 [.agg (lakeC l), slWk works, sl ch, .agg (rivC loss plo phi), slHo hs] r) :
    SemF Tryz.prog 13 [.agg (lakeC l), slWk works, .osl 0 0 0 ch.length, .agg (rivC loss plo phi), slHo hs] [some (.cells 3 1 0 (ints ch))] r [some (.cells 3 1 1 [])] := by
  have e : fzl (fz2 0 0 (ints ch)) [.agg (lakeC l), slWk works, .osl 0 0 0 ch.length, .agg (rivC loss plo phi), slHo hs] = [.agg (lakeC l), slWk works, sl ch, .agg (rivC loss plo phi), slHo hs] := by
    simp [fzl, fz2, fz1, fz0, lakeC, slWk, rivC, slHo, slR, sl]
  refine semF_take ?_ ?_ ?_
  · rw [e]; exact h
  · intro y hy
    obtain ⟨n, rfl⟩ := mem_ints' hy
    rfl
  · rw [e]
    intro x hx
    simp only [List.mem_cons, List.not_mem_nil, or_false] at hx
    rcases hx with rfl | rfl | rfl | rfl | rfl <;> rfl
theorem take_fill {l : Lake} {works : List Work} {ch : List Int} {q : Real} {r : AV} (h : CallS Tryz.prog 21 [.agg (lakeC l), slWk works, sl ch, .agg (realC q)] r) :
    SemF Tryz.prog 21 [.agg (lakeC l), slWk works, .osl 0 0 0 ch.length, .agg (realC q)] [some (.cells 3 1 0 (ints ch))] r [some (.cells 3 1 1 [])] := by
  have e : fzl (fz2 0 0 (ints ch)) [.agg (lakeC l), slWk works, .osl 0 0 0 ch.length, .agg (realC q)] = [.agg (lakeC l), slWk works, sl ch, .agg (realC q)] := by
    simp [fzl, fz2, fz1, fz0, lakeC, slWk, realC, slR, sl]
  refine semF_take ?_ ?_ ?_
  · rw [e]; exact h
  · intro y hy
    obtain ⟨n, rfl⟩ := mem_ints' hy
    rfl
  · rw [e]
    intro x hx
    simp only [List.mem_cons, List.not_mem_nil, or_false] at hx
    rcases hx with rfl | rfl | rfl | rfl <;> rfl
def wavL (l : Lake) (works : List Work) (ch : List Int) (loss plo : Int) (hs : List House) : List Rea := hs.map fun h => reaV l works ch loss plo h l.infl.length
theorem wavL_length {l : Lake} {works : List Work} {ch : List Int} {loss plo : Int} {hs : List House} : (wavL l works ch loss plo hs).length = hs.length := by simp [wavL]
def tnV (w hc hh wd : AV) : List (Nat × AV) := [(2, w), (3, hc), (5, hh), (6, wd), (7, .ptr 0 0 0), (8, .ptr 1 0 0), (11, .ptr 2 0 0)]
theorem dryYes_c (t : Town) (l : Lake) (works : List Work) (ch : List Int) (loss plo phi : Int) (hs : List House) (words : List Int) (hg : guardB t l works ch loss plo phi hs) (hw : wordsOK words) :
    CallS Tryz.prog 3 [.agg (townC t), .agg (lakeC l), slWk works, sl ch, .agg (rivC loss plo phi), slHo hs, slW words] (.bool true) := by
  have hA := dry_c
  have k1 := Go.Am.thin_c t
  have k3 := thin_c l works ch
  have k7 := rightRiver_c loss plo phi
  obtain ⟨c1, c2, c3, c4, c5, c6, c7, c8, c9⟩ := hg
  obtain ⟨b1, b2, b3, b4⟩ := thinLB_ok c3
  have hb : townOK t := by
    have := of_decide_eq_true c1
    exact ⟨by omega, by omega⟩
  have k2 := fault_c t hb
  have k4 := rFault_c l (by omega) (by omega)
  have k5 := worksFault_c works (by omega)
  have k6 := choice_c works ch (by omega) (by omega)
  rw [c1] at k1
  rw [c2] at k2
  rw [c3] at k3
  rw [c4] at k4
  rw [c5] at k5
  rw [c6] at k6
  rw [decide_eq_true c7] at k7
  have e8 : ((hs.length : Int) = 0) = False := eq_false (by omega)
  have e9 : (20 < (hs.length : Int)) = False := eq_false (by omega)
  have ht := faultT_zero c2
  have hl := faultK_zero c4
  have hlm := hl.m
  have hln := hl.n
  have hhn := ht.homes
  have hco : ChoOK works.length ch := by
    unfold choB at c6; exact @of_decide_eq_true _ (Classical.propDecidable _) c6
  have hwo : works.all workB = true := by
    unfold faultW at c5
    split at c5
    · cases c5
    · split at c5
      · assumption
      · cases c5
  simp only [rivC, slHo, slW]
  simp only [sl, slWk, slR, lakeC, townC, slH, slL] at k1 k2 k3 k4 k5 k6 k7 ⊢
  (refine callS_of_awp (fun w args => Tryz.call3 ..) Tryz.func3 rfl (fun w0 m0 wz => ?_); simp only [Tryz.ntmps3, Tryz.results3, initT, junks, slHo, slW, rivC, sl, List.toList_toArray, List.cons_append, List.nil_append, List.length_cons, List.length_nil, Nat.reduceAdd, Nat.reduceSub])
  (repeat' (first
 | ((omega))
 | ((exfalso; omega))
 | refine awp_seqK ?_
 | refine kt ?_
 | refine And.intro ?_ ?_
 | ((first | refine awp_stp rfl ?_ | refine awp_draw (by kernel_rfl) (by kernel_rfl) ?_ | refine Imp.le2 ?_ | refine callK_of (k1) ?_ | refine callK_of (k2) ?_ | refine callK_of (k3) ?_ | refine callK_of (k4) ?_ | refine callK_of (k5) ?_ | refine callK_of (k6) ?_ | refine callK_of (k7) ?_ | refine callK_of (hA) ?_ | refine go_split (fun _h => ?_) (fun _h => ?_)) <;> try simp (maxSteps := 4000000) only [go_sem, seval, e8, e9, decide_true, decide_false])
 | intro _h
 | refine awp_block ?_
 | refine awp_scope ?_
 | refine cond_b ?_ ?_
 | (show heapOK _ _ = true; kernel_rfl)
 | (show heapOK2 _ _ = true; kernel_rfl)
 | (omega)))
  refine awp_loopJ (fun i : Nat => i ≤ hs.length ∧ ∀ j, j < i → houseB (hs.getD j default) = true) (fun i => ⟨mkT 354 ((15, .int .i64 i) :: tnV (slWk works) (sl ch) (slHo hs) (slW words)), [some (.cells 27 1 0 (townC t)), some (.cells 32 1 0 (lakeC l)), some (.cells 35 1 0 (rivC loss plo phi))], []⟩) (fun i => hs.length - i) 0 ⟨Nat.zero_le _, by simp⟩ (.le2 ?_) ?_
  · simp only [tnV, sl, slWk, slR, slHo, slW, rivC, lakeC, townC, slH, slL]; simp (maxSteps := 4000000) only [go_sem, seval]
    all_goals first | rfl | exact ⟨rfl, rfl⟩ | trace_state
  rintro i ⟨hi, hj⟩
  rcases Nat.lt_or_eq_of_le hi with hi1 | hi1
  · have kh := rightHouse_c (hs.getD i default)
    obtain ⟨h, hh⟩ : ∃ h, hs.getD i default = h := ⟨_, rfl⟩
    rw [hh] at kh
    cases hB : houseB h with
    | true =>
      rw [hB] at kh
      simp only [tnV, sl, slWk, slR, slHo, slW, rivC, lakeC, townC, slH, slL]; simp (maxSteps := 4000000) only [go_sem, seval]
      (repeat' (first
 | ((omega))
 | ((exfalso; omega))
 | refine awp_seqK ?_
 | refine kt ?_
 | refine And.intro ?_ ?_
 | ((first | refine awp_stp rfl ?_ | refine awp_draw (by kernel_rfl) (by kernel_rfl) ?_ | refine Imp.le2 ?_ | refine callK_of (kh) ?_ | refine go_split (fun _h => ?_) (fun _h => ?_)) <;> try simp (maxSteps := 4000000) only [go_sem, seval, hh, Bool.not_true])
 | intro _h
 | refine awp_block ?_
 | refine awp_scope ?_
 | refine cond_b ?_ ?_
 | (show heapOK _ _ = true; kernel_rfl)
 | (show heapOK2 _ _ = true; kernel_rfl)
 | (omega)))
      refine ⟨i + 1, ⟨by omega, fun j hji => ?_⟩, by omega, .le2 ?_⟩
      · rcases Nat.lt_succ_iff_lt_or_eq.1 hji with h | rfl
        · exact hj j h
        · rw [hh]; exact hB
      · (try simp only [tnV, sl, slWk, slR, slHo, slW, rivC, lakeC, townC, slH, slL]); (try simp (maxSteps := 4000000) only [go_sem, seval])
        all_goals first | rfl | exact ⟨rfl, rfl⟩ | omega
    | false =>
      rw [hB] at kh
      simp only [tnV, sl, slWk, slR, slHo, slW, rivC, lakeC, townC, slH, slL]; simp (maxSteps := 4000000) only [go_sem, seval]
      (repeat' (first
 | ((omega))
 | ((exfalso; omega))
 | refine awp_seqK ?_
 | refine kt ?_
 | refine And.intro ?_ ?_
 | ((first | refine awp_stp rfl ?_ | refine awp_draw (by kernel_rfl) (by kernel_rfl) ?_ | refine Imp.le2 ?_ | refine callK_of (kh) ?_ | refine callK_of (hA) ?_ | refine go_split (fun _h => ?_) (fun _h => ?_)) <;> try simp (maxSteps := 4000000) only [go_sem, seval, hh, Bool.not_false])
 | intro _h
 | refine awp_block ?_
 | refine awp_scope ?_
 | refine cond_b ?_ ?_
 | (show heapOK _ _ = true; kernel_rfl)
 | (show heapOK2 _ _ = true; kernel_rfl)
 | (omega)))
      all_goals trace_state
  subst hi1
  have hha : hs.all houseB = true := by
    rw [List.all_eq_true]
    intro x hx
    obtain ⟨j, hjl, rfl⟩ := mem_getD (d := default) hx
    exact hj j hjl
  have hwv := take_waves (Waves_c l works ch loss plo phi hs hl c5 hwo hco b4 ⟨c7.1, c7.2.1.1, c7.2.1.2, c7.2.2⟩ c9 hha)
  have hRl := wavL_length (l := l) (works := works) (ch := ch) (loss := loss) (plo := plo) (hs := hs)
  have hRd : (hs.map fun h => reaV l works ch loss plo h l.infl.length) = wavL l works ch loss plo hs := rfl
  rw [hRd] at hwv
  have q1 := Lake_c l (by omega) (by omega)
  have q2 := Works_c works (by omega)
  have q3 := River_c loss plo phi
  have q4 := Houses_c hs (by omega)
  have eR : (((wavL l works ch loss plo hs).length : Int) = hs.length) = True := eq_true (by omega)
  obtain ⟨R, hR⟩ : ∃ R, wavL l works ch loss plo hs = R := ⟨_, rfl⟩
  rw [hR] at hwv hRl eR
  simp only [slRe, sl, slWk, slHo, slW, rivC, slR, lakeC] at hwv q1 q2 q3 q4
  simp only [tnV, sl, slWk, slR, slHo, slW, rivC, lakeC, townC, slH, slL]; simp (maxSteps := 4000000) only [go_sem, seval]
  (repeat' (first
 | ((omega))
 | ((exfalso; omega))
 | refine awp_seqK ?_
 | refine kt ?_
 | refine And.intro ?_ ?_
 | ((first | refine awp_stp rfl ?_ | refine Imp.le2 ?_ | refine go_split (fun _h => ?_) (fun _h => ?_)) <;> try simp (maxSteps := 4000000) only [go_sem, seval])
 | intro _h
 | refine awp_block ?_
 | refine awp_scope ?_
 | refine cond_b ?_ ?_
 | (show heapOK _ _ = true; kernel_rfl)
 | (show heapOK2 _ _ = true; kernel_rfl)
 | (omega)))
  ((repeat refine awp_seqK ?_); refine awp_draws [(10, [3])] (by kernel_rfl) (by kernel_rfl) ?_; simp (maxSteps := 4000000) only [go_sem, seval, sg_cons, sg_nil, List.take_succ_cons, List.take_zero, List.drop_succ_cons, List.drop_zero])
  (repeat' (first
 | ((omega))
 | ((exfalso; omega))
 | refine awp_seqK ?_
 | refine kt ?_
 | refine And.intro ?_ ?_
 | ((first | refine awp_stp rfl ?_ | refine Imp.le2 ?_ | refine callK_of (q1) ?_ | refine callK_of (q2) ?_ | refine callK_of (q3) ?_ | refine callK_of (q4) ?_ | refine go_split (fun _h => ?_) (fun _h => ?_)) <;> try simp (maxSteps := 4000000) only [go_sem, seval])
 | intro _h
 | refine awp_block ?_
 | refine awp_scope ?_
 | refine cond_b ?_ ?_
 | (show heapOK _ _ = true; kernel_rfl)
 | (show heapOK2 _ _ = true; kernel_rfl)
 | (omega)))
  (refine own_go (hwv) [3] rfl (by simp (maxSteps := 4000000) only [go_sem, seval]) (by simp (maxSteps := 4000000) only [go_sem, seval, Nat.lt_irrefl] <;> decide) rfl ?_; simp (maxSteps := 4000000) only [go_sem, seval]; refine And.intro (frm_of (by repeat (first | exact rfl | exact ⟨_, rfl⟩ | refine And.intro ?_ ?_))) ?_; try simp (maxSteps := 4000000) only [go_sem, seval, sg_cons, sg_nil, List.take_succ_cons, List.take_zero, List.drop_succ_cons, List.drop_zero])
  (refine And.intro (by kernel_rfl) ?_; refine kt ?_)
  (repeat' (first
 | ((omega))
 | ((exfalso; omega))
 | refine awp_seqK ?_
 | refine kt ?_
 | refine And.intro ?_ ?_
 | ((first | refine awp_stp rfl ?_ | refine Imp.le2 ?_ | refine go_split (fun _h => ?_) (fun _h => ?_)) <;> try simp (maxSteps := 4000000) only [go_sem, seval, eR, decide_true, decide_false])
 | intro _h
 | refine awp_block ?_
 | refine awp_scope ?_
 | refine cond_b ?_ ?_
 | (show heapOK _ _ = true; kernel_rfl)
 | (show heapOK2 _ _ = true; kernel_rfl)
 | (omega)))
  have hfr : ∀ i, i < R.length → (R.getD i default).may = true → 0 ≤ (R.getD i default).fr := by
    intro i hi hm
    rw [← hR] at hi hm ⊢
    unfold wavL at hi hm ⊢
    rw [List.length_map] at hi
    rw [show (hs.map fun h => reaV l works ch loss plo h l.infl.length).getD i default = reaV l works ch loss plo (hs.getD i default) l.infl.length by simp [List.getD_eq_getElem?_getD, hi]] at hm ⊢
    obtain ⟨j, _, e⟩ := (rea_may (l := l) (works := works) (ch := ch) (loss := loss) (plo := plo) (o := hs.getD i default) l.infl.length).1 hm
    rw [e]
    have h1 := List.all_eq_true.1 hha _ (getD_mem (d := default) hi)
    unfold houseB at h1
    have h2 := of_decide_eq_true h1
    have := Int.mul_nonneg h2.1.1 c7.2.1.1
    omega
  refine awp_loopN t.homes.length (fun k => ⟨mkT 354 ((16, slRe R) :: (18, .ptr 4 0 0) :: (19, .int .i64 k) :: tnV (slWk works) (sl ch) (slHo hs) (slW words)), [some (.cells 27 1 0 (townC t)), some (.cells 32 1 0 (lakeC l)), some (.cells 35 1 0 (rivC loss plo phi)), none, some (.cells 27 1 0 [.osl 5 0 0 t.homes.length, slL t.halls, .int .i64 t.seats, .int .i64 t.clo, .int .i64 t.chi]), some (.cells 68 6 0 (recs homeC (gonL R t.homes k)))], []⟩) (.le2 ?_) ?_
  · simp only [tnV, gonL, slRe, sl, slWk, slR, slHo, slW, rivC, lakeC, townC, slH, slL]; simp (maxSteps := 4000000) only [go_sem, seval]
    all_goals first | rfl | exact ⟨rfl, rfl⟩ | trace_state
  intro k hk
  rcases Nat.lt_or_eq_of_le hk with hk1 | hk1
  · obtain ⟨q, hq⟩ : ∃ q, k % hs.length = q := ⟨_, rfl⟩
    have hqm : (k : Int).tmod (hs.length : Int) = (q : Int) := by rw [← hq]; rfl
    have hql : q < hs.length := by rw [← hq]; exact Nat.mod_lt _ c8
    have hGl := gonL_length (R := R) (l := t.homes) k hk
    have hqR : k % R.length = q := by rw [hRl]; exact hq
    have hfq := hfr q (by omega)
    have hsame := gonL_same (R := R) hk1
    have hstep : gonL R t.homes (k + 1) = isp (gonL R t.homes k) k (setG R k ((gonL R t.homes k).getD k default)) := rfl
    rw [hqR] at hsame
    unfold setG at hstep
    rw [hqR] at hstep
    generalize gonL R t.homes (k + 1) = G2 at *
    generalize gonL R t.homes k = G at *
    obtain ⟨w, hwq⟩ : ∃ w, R.getD q default = w := ⟨_, rfl⟩
    rw [hwq] at hfq hsame hstep
    cases hm : w.may with
    | true =>
      have hf0 := hfq hm
      rw [hm, if_pos rfl] at hstep
      have hsp : splice (recs homeC G) (k * 6 + 5) [.int .i64 (min (G.getD k default).gone w.fr)] = recs homeC G2 := by
        rw [hstep]; exact sp_recs (d := default) (sz := 6) (fun _ => rfl) (by omega) (by omega) rfl
      have hGl2 : G2.length = t.homes.length := by rw [hstep, isp_length (by omega), hGl]
      simp only [tnV, slRe, sl, slWk, slR, slHo, slW, rivC, lakeC, townC, slH, slL]; simp (maxSteps := 4000000) only [go_sem, seval]
      (repeat' (first
 | ((omega))
 | ((exfalso; omega))
 | refine awp_seqK ?_
 | refine kt ?_
 | refine And.intro ?_ ?_
 | ((first | refine awp_stp rfl ?_ | refine awp_draw (by kernel_rfl) (by kernel_rfl) ?_ | refine Imp.le2 ?_ | refine go_split (fun _h => ?_) (fun _h => ?_)) <;> try simp (maxSteps := 4000000) only [go_sem, seval, hqm, hwq, reaC, hm, hsp, hGl2])
 | intro _h
 | refine awp_block ?_
 | refine awp_scope ?_
 | refine cond_b ?_ ?_
 | (show heapOK _ _ = true; kernel_rfl)
 | (show heapOK2 _ _ = true; kernel_rfl)
 | (omega)))
      all_goals trace_state
    | false =>
      have hst := hsame hm
      subst hst
      simp only [tnV, slRe, sl, slWk, slR, slHo, slW, rivC, lakeC, townC, slH, slL]; simp (maxSteps := 4000000) only [go_sem, seval]
      (repeat' (first
 | ((omega))
 | ((exfalso; omega))
 | refine awp_seqK ?_
 | refine kt ?_
 | refine And.intro ?_ ?_
 | ((first | refine awp_stp rfl ?_ | refine awp_draw (by kernel_rfl) (by kernel_rfl) ?_ | refine Imp.le2 ?_ | refine go_split (fun _h => ?_) (fun _h => ?_)) <;> try simp (maxSteps := 4000000) only [go_sem, seval, hqm, hwq, reaC, hm])
 | intro _h
 | refine awp_block ?_
 | refine awp_scope ?_
 | refine cond_b ?_ ?_
 | (show heapOK _ _ = true; kernel_rfl)
 | (show heapOK2 _ _ = true; kernel_rfl)
 | (omega)))
      all_goals trace_state
  subst hk1
  have hGl := gonL_length (R := R) (l := t.homes) t.homes.length (Nat.le_refl _)
  have hX := gonT_ok ht (by omega : 0 < R.length) hfr
  have hxb : townOK (gonT R t) := hX.ok
  have k8 := Town_c (gonT R t) hxb
  have k9 := Plan_c (gonT R t) hxb
  have hBT := fun b x h hx => bus_told (R := R) (t := t) (b := b) (x := x) h hx
  have hXd : gonT R t = ⟨gonL R t.homes t.homes.length, t.halls, t.seats, t.clo, t.chi⟩ := rfl
  generalize gonL R t.homes t.homes.length = G at *
  generalize gonT R t = X at *
  by_cases c10 : planE X = 0
  rotate_left
  · have e10 : planE X = 9 := by
      have h0 := townOK_fault hX
      unfold planE at c10 ⊢
      rw [if_neg (by rw [h0]; simp)] at c10 ⊢
      by_cases h : 1000 ≤ needV X (stBeg X X.homes.length X.halls.length)
      · rw [if_pos h]
      · rw [if_neg h] at c10; exact absurd rfl c10
    have v10 : planV X = .nils := by unfold planV; rw [if_neg c10]
    rw [e10, v10] at k9
    subst hXd
    simp only [townC, slH, slL, hGl] at k8 k9
    simp only [tnV, slRe, sl, slWk, slR, slHo, slW, rivC, lakeC, townC, slH, slL]; simp (maxSteps := 4000000) only [go_sem, seval]
    (repeat' (first
 | (refine awp_frz (c := .region 21 _ _) 5 rfl (by simp (maxSteps := 4000000) only [go_sem, seval]) (fun _ => rfl) ?_; simp only [frz, fq_pure, fzB_c, fzB_m, fzB_d, fzB_l, fzO, fzH, fzHs, fzl, fz2, fz1, fz0, List.map_cons, List.map_nil, if_true, if_false, reduceIte, Nat.reduceEqDiff, Nat.reduceAdd, Nat.succ_ne_self, Nat.zero_ne_one, Nat.one_ne_zero, reduceCtorEq, and_self])
 | ((omega))
 | ((exfalso; omega))
 | refine awp_seqK ?_
 | refine kt ?_
 | refine And.intro ?_ ?_
 | ((first | refine awp_stp rfl ?_ | refine Imp.le2 ?_ | refine callK_of (k8) ?_ | refine callK_of (k9) ?_ | refine callK_of (hA) ?_ | refine go_split (fun _h => ?_) (fun _h => ?_)) <;> try simp (maxSteps := 4000000) only [go_sem, seval])
 | intro _h
 | refine awp_block ?_
 | refine awp_scope ?_
 | refine cond_b ?_ ?_
 | (show heapOK _ _ = true; kernel_rfl)
 | (show heapOK2 _ _ = true; kernel_rfl)
 | (omega)))
    all_goals trace_state
  have v10 : planV X = slB (planL X) := by unfold planV; rw [if_pos c10]
  rw [c10, v10] at k9
  have hBP := fun b hb => planL_p hX (b := b) hb
  have hLl : (planL X).length ≤ 256 := planF_le _ _
  generalize planL X = P at *
  have hpk := fun at_ a => word_c words at_ hw a
  have hwb := fun at_ (a : 0 ≤ at_) => wdV_bd (words := words) (at_ := at_) hw a
  simp only [slW] at hpk
  have hRe := realW_ok hw hl
  obtain ⟨fn, fb, hF, hfl⟩ := Fill_c l works ch (realW l words l.infl.length) hl c5 hwo hco b4 hRe
  have hfl := take_fill hfl
  have q5 := Real_c (tabI (inW l words) l.infl.length) (tabI (seW l words) l.infl.length) (stW l words) (soW l words) (by rw [tabI_length]; omega) (by rw [tabI_length]; omega)
  have hst : l.stLo + (wdV words 0).tmod (l.stHi - l.stLo + 1) = stW l words := rfl
  have hso : l.soLo + (wdV words 1).tmod (l.soHi - l.soLo + 1) = soW l words := rfl
  have hstb := tmod_bd (b := l.stHi - l.stLo + 1) (hwb 0 (by omega)).1 (by have := hl.start; omega)
  have hsob := tmod_bd (b := l.soHi - l.soLo + 1) (hwb 1 (by omega)).1 (by have := hl.soft; omega)
  have hvb := vols_bd hl (i := l.weak.toNat) (by have := hl.weak; have := hl.crest; omega)
  have hls := hl.start
  have hlo := hl.soft
  have hle := hl.seep
  obtain ⟨XC, hXC⟩ : ∃ XC, townC X = XC := ⟨_, rfl⟩
  rw [hXC] at k8 k9
  have hXC2 := hXC
  rw [hXd] at hXC2
  simp only [townC, slH, slL, hGl] at hXC2
  subst hXC2
  simp only [slB] at k9
  simp only [tnV, slRe, sl, slWk, slR, slHo, slW, rivC, lakeC, townC, slH, slL]; simp (maxSteps := 4000000) only [go_sem, seval]
  (repeat' (first
 | (refine awp_frz (c := .region 21 _ _) 5 rfl (by simp (maxSteps := 4000000) only [go_sem, seval, hst, hso]) (fun _ => rfl) ?_; simp only [frz, fq_pure, fzB_c, fzB_m, fzB_d, fzB_l, fzO, fzH, fzHs, fzl, fz2, fz1, fz0, List.map_cons, List.map_nil, if_true, if_false, reduceIte, Nat.reduceEqDiff, Nat.reduceAdd, Nat.succ_ne_self, Nat.zero_ne_one, Nat.one_ne_zero, reduceCtorEq, and_self])
 | ((omega))
 | ((exfalso; omega))
 | refine awp_seqK ?_
 | refine kt ?_
 | refine And.intro ?_ ?_
 | ((first | refine awp_stp rfl ?_ | refine awp_draw (by kernel_rfl) (by kernel_rfl) ?_ | refine Imp.le2 ?_ | refine callK_of (k8) ?_ | refine callK_of (k9) ?_ | refine callK_of (hA) ?_ | refine callK_of (hpk _ (by omega)) ?_ | refine go_split (fun _h => ?_) (fun _h => ?_)) <;> try simp (maxSteps := 4000000) only [go_sem, seval, hst, hso])
 | intro _h
 | refine awp_block ?_
 | refine awp_scope ?_
 | refine cond_b ?_ ?_
 | (show heapOK _ _ = true; kernel_rfl)
 | (show heapOK2 _ _ = true; kernel_rfl)
 | (omega)))
  refine awp_adH 6 0 3 1 rfl rfl ?_
  simp only [adH, hget, hset, lset, List.length_cons, List.length_nil, Nat.reduceAdd]
  refine awp_adH 6 1 3 1 rfl rfl ?_
  simp only [adH, hget, hset, lset, List.length_cons, List.length_nil, Nat.reduceAdd]
  refine awp_loopN l.infl.length (fun k => ⟨mkT 354 ((18, .ptr 4 0 0) :: (21, .psl false P.length (recs busC P)) :: (23, .ptr 6 0 0) :: (24, .int .i64 k) :: tnV (slWk works) (sl ch) (slHo hs) (slW words)), [some (.cells 27 1 0 (townC t)), some (.cells 32 1 0 (lakeC l)), some (.cells 35 1 0 (rivC loss plo phi)), none, some (.cells 27 1 0 [.psl false t.homes.length (recs homeC G), slL t.halls, .int .i64 t.seats, .int .i64 t.clo, .int .i64 t.chi]), none, some (.cells 80 1 0 [.osl 7 k 0 k, .osl 8 k 0 k, .int .i64 (stW l words), .int .i64 (soW l words)]), some (.cells 3 1 k (ints (tabI (inW l words) k))), some (.cells 3 1 k (ints (tabI (seW l words) k)))], []⟩) (.le2 ?_) ?_
  · simp only [tnV, tabI, List.range_zero, List.map_nil, ints, slRe, sl, slWk, slR, slHo, slW, rivC, lakeC, townC, slH, slL]; simp (maxSteps := 4000000) only [go_sem, seval]
    all_goals first | rfl | exact ⟨rfl, rfl⟩ | trace_state
  intro k hk
  rcases Nat.lt_or_eq_of_le hk with hk1 | hk1
  · obtain ⟨q, hq⟩ : ∃ q, l.infl.getD k default = q := ⟨_, rfl⟩
    have hin := hl.infl k hk1
    have hw2 := hwb (2 * (k : Int) + 2) (by omega)
    have hw3 := hwb (2 * (k : Int) + 3) (by omega)
    have hi1 : (l.infl.getD k default).1 + (wdV words (2 * (k : Int) + 2)).tmod ((l.infl.getD k default).2 - (l.infl.getD k default).1 + 1) = inW l words k := rfl
    have hi2 : l.seLo + (wdV words (2 * (k : Int) + 3)).tmod (l.seHi - l.seLo + 1) = seW l words k := rfl
    have sn1 := tabI_succ (f := inW l words) (k := k)
    have sn2 := tabI_succ (f := seW l words) (k := k)
    rw [hq] at hi1 hin
    have hb1 := tmod_bd (b := q.2 - q.1 + 1) hw2.1 (by omega)
    have hb2 := tmod_bd (b := l.seHi - l.seLo + 1) hw3.1 (by omega)
    simp only [tnV, slRe, sl, slWk, slR, slHo, slW, rivC, lakeC, townC, slH, slL]; simp (maxSteps := 4000000) only [go_sem, seval]
    (repeat' (first
 | ((omega))
 | ((exfalso; omega))
 | refine awp_seqK ?_
 | refine kt ?_
 | refine And.intro ?_ ?_
 | ((first | refine awp_stp rfl ?_ | refine awp_draw (by kernel_rfl) (by kernel_rfl) ?_ | refine Imp.le2 ?_ | refine callK_of (hpk _ (by omega)) ?_ | refine go_split (fun _h => ?_) (fun _h => ?_)) <;> try simp (maxSteps := 4000000) only [go_sem, seval, hq, rngC, hi1, hi2, sn1, sn2, tabI_length])
 | intro _h
 | refine awp_block ?_
 | refine awp_scope ?_
 | refine cond_b ?_ ?_
 | (show heapOK _ _ = true; kernel_rfl)
 | (show heapOK2 _ _ = true; kernel_rfl)
 | (omega)))
    all_goals trace_state
  subst hk1
  have hnl := hF.le
  have hvl := volL_length (works := works) (ch := ch) (r := realW l words l.infl.length) (k := fn)
  simp only [sl, realW, realC, tabI_length] at q5
  simp only [sl, slWk, slR, lakeC, realC] at hfl
  simp only [realW, tabI_length] at hfl hvl
  rw [hvl] at hfl
  have hrw : realW l words l.infl.length = ⟨tabI (inW l words) l.infl.length, tabI (seW l words) l.infl.length, stW l words, soW l words⟩ := rfl
  rw [← hrw] at hfl hvl
  obtain ⟨V, hV⟩ : ∃ V, volL works ch (realW l words l.infl.length) fn = V := ⟨_, rfl⟩
  rw [hV] at hfl hvl
  simp only [tnV, slRe, sl, slWk, slR, slHo, slW, rivC, lakeC, townC, slH, slL]; simp (maxSteps := 4000000) only [go_sem, seval]
  (repeat' (first
 | ((omega))
 | ((exfalso; omega))
 | refine awp_seqK ?_
 | refine kt ?_
 | refine And.intro ?_ ?_
 | ((first | refine awp_stp rfl ?_ | refine Imp.le2 ?_ | refine go_split (fun _h => ?_) (fun _h => ?_)) <;> try simp (maxSteps := 4000000) only [go_sem, seval])
 | intro _h
 | refine awp_block ?_
 | refine awp_scope ?_
 | refine cond_b ?_ ?_
 | (show heapOK _ _ = true; kernel_rfl)
 | (show heapOK2 _ _ = true; kernel_rfl)
 | (omega)))
  (refine awp_frz 7 rfl (by simp (maxSteps := 4000000) only [go_sem, seval]) (fun _ => rfl) ?_; simp only [frz, fq_pure, fzB_c, fzB_m, fzB_d, fzB_l, fzO, fzH, fzHs, fzl, fz2, fz1, fz0, List.map_cons, List.map_nil, if_true, if_false, reduceIte, Nat.reduceEqDiff, Nat.reduceAdd, Nat.succ_ne_self, Nat.zero_ne_one, Nat.one_ne_zero, reduceCtorEq, and_self])
  (refine awp_frz 8 rfl (by simp (maxSteps := 4000000) only [go_sem, seval]) (fun _ => rfl) ?_; simp only [frz, fq_pure, fzB_c, fzB_m, fzB_d, fzB_l, fzO, fzH, fzHs, fzl, fz2, fz1, fz0, List.map_cons, List.map_nil, if_true, if_false, reduceIte, Nat.reduceEqDiff, Nat.reduceAdd, Nat.succ_ne_self, Nat.zero_ne_one, Nat.one_ne_zero, reduceCtorEq, and_self])
  ((repeat refine awp_seqK ?_); refine awp_draws [(8, [9])] (by kernel_rfl) (by kernel_rfl) ?_; simp (maxSteps := 4000000) only [go_sem, seval, sg_cons, sg_nil, List.take_succ_cons, List.take_zero, List.drop_succ_cons, List.drop_zero])
  (repeat' (first
 | ((omega))
 | ((exfalso; omega))
 | refine awp_seqK ?_
 | refine kt ?_
 | refine And.intro ?_ ?_
 | ((first | refine awp_stp rfl ?_ | refine Imp.le2 ?_ | refine callK_of (q1) ?_ | refine callK_of (q2) ?_ | refine callK_of (q5) ?_ | refine go_split (fun _h => ?_) (fun _h => ?_)) <;> try simp (maxSteps := 4000000) only [go_sem, seval])
 | intro _h
 | refine awp_block ?_
 | refine awp_scope ?_
 | refine cond_b ?_ ?_
 | (show heapOK _ _ = true; kernel_rfl)
 | (show heapOK2 _ _ = true; kernel_rfl)
 | (omega)))
  (refine own_go (hfl) [9] rfl (by simp (maxSteps := 4000000) only [go_sem, seval]) (by simp (maxSteps := 4000000) only [go_sem, seval, Nat.lt_irrefl] <;> decide) rfl ?_; simp (maxSteps := 4000000) only [go_sem, seval]; refine And.intro (frm_of (by repeat (first | exact rfl | exact ⟨_, rfl⟩ | refine And.intro ?_ ?_))) ?_; try simp (maxSteps := 4000000) only [go_sem, seval, sg_cons, sg_nil, List.take_succ_cons, List.take_zero, List.drop_succ_cons, List.drop_zero])
  (refine And.intro (by kernel_rfl) ?_; refine kt ?_)
  rcases hF.fin with ⟨hb1, hb2, hb3⟩ | ⟨hf0, hb1, hff⟩
  · subst hb1
    (repeat' (first
 | ((omega))
 | ((exfalso; omega))
 | refine awp_seqK ?_
 | refine kt ?_
 | refine And.intro ?_ ?_
 | ((first | refine awp_stp rfl ?_ | refine Imp.le2 ?_ | refine callK_of (hA) ?_ | refine go_split (fun _h => ?_) (fun _h => ?_)) <;> try simp (maxSteps := 4000000) only [go_sem, seval])
 | intro _h
 | refine awp_block ?_
 | refine awp_scope ?_
 | refine cond_b ?_ ?_
 | (show heapOK _ _ = true; kernel_rfl)
 | (show heapOK2 _ _ = true; kernel_rfl)
 | (omega)))
    all_goals trace_state
  obtain ⟨b, rfl⟩ : ∃ b, fn = b + 1 := ⟨fn - 1, by omega⟩
  have hb2 : fb = (b : Int) := by omega
  subst hb2
  have hwt := fun (o : House) (h1 : 0 < o.wide) => wave_told (loss := loss) (plo := plo) (o := o) hl hRe (by omega : b < l.infl.length) (fun j hj => hF.hold j (by omega)) hff h1
  have hvB := volV_bd hl hwo hco hRe (b + 1) (by omega)
  have hVb : V.getD b 0 = volV works ch (realW l words l.infl.length) (b + 1) := by
    rw [← hV]; unfold volL; simp [List.getD_eq_getElem?_getD]
  rw [← hVb] at hvB
  rw [show b + 1 - 1 = b by omega] at hff
  generalize volV works ch (realW l words l.infl.length) (b + 1) = vb at *
  subst hVb
  (repeat' (first
 | ((omega))
 | ((exfalso; omega))
 | refine awp_seqK ?_
 | refine kt ?_
 | refine And.intro ?_ ?_
 | ((first | refine awp_stp rfl ?_ | refine Imp.le2 ?_ | refine go_split (fun _h => ?_) (fun _h => ?_)) <;> try simp (maxSteps := 4000000) only [go_sem, seval])
 | intro _h
 | refine awp_block ?_
 | refine awp_scope ?_
 | refine cond_b ?_ ?_
 | (show heapOK _ _ = true; kernel_rfl)
 | (show heapOK2 _ _ = true; kernel_rfl)
 | (omega)))
  refine awp_loopN P.length (fun i => ⟨mkT 354 ((5, slHo hs) :: (6, slW words) :: (11, .ptr 2 0 0) :: (18, .ptr 4 0 0) :: (21, .psl false P.length (recs busC P)) :: (26, .psl false (b + 1) (ints V)) :: (27, .int .i64 b) :: (29, .int .i64 i) :: []), [none, none, some (.cells 35 1 0 (rivC loss plo phi)), none, some (.cells 27 1 0 [.psl false t.homes.length (recs homeC G), slL t.halls, .int .i64 t.seats, .int .i64 t.clo, .int .i64 t.chi])], []⟩) (.le2 ?_) ?_
  · simp only [tnV, tabI, List.range_zero, List.map_nil, slRe, sl, slWk, slR, slHo, slW, rivC, lakeC, townC, slH, slL]; simp (maxSteps := 4000000) only [go_sem, seval]
    all_goals first | rfl | exact ⟨rfl, rfl⟩ | trace_state
  intro i hi2
  rcases Nat.lt_or_eq_of_le hi2 with hi3 | hi3
  rotate_left
  · subst hi3
    simp only [tnV, slRe, sl, slWk, slR, slHo, slW, rivC, lakeC, townC, slH, slL]; simp (maxSteps := 4000000) only [go_sem, seval]
    (repeat' (first
 | ((omega))
 | ((exfalso; omega))
 | refine awp_seqK ?_
 | refine kt ?_
 | refine And.intro ?_ ?_
 | ((first | refine awp_stp rfl ?_ | refine Imp.le2 ?_ | refine callK_of (hA) ?_ | refine go_split (fun _h => ?_) (fun _h => ?_)) <;> try simp (maxSteps := 4000000) only [go_sem, seval])
 | intro _h
 | refine awp_block ?_
 | refine awp_scope ?_
 | refine cond_b ?_ ?_
 | (show heapOK _ _ = true; kernel_rfl)
 | (show heapOK2 _ _ = true; kernel_rfl)
 | (omega)))
    all_goals trace_state
  have hbm : P.getD i default ∈ P := getD_mem hi3
  have hbp := hBP _ hbm
  have hth := there_c X (P.getD i default) hX hbp
  have htb := thV_bd hX hbp
  have hbt := fun x hx => hBT (P.getD i default) x hbp hx
  have hb8 := hbp.homes
  obtain ⟨o, ho⟩ : ∃ o, P.getD i default = o := ⟨_, rfl⟩
  rw [ho] at hth htb hbt hb8
  obtain ⟨tv, htv⟩ : ∃ tv, thV X o = tv := ⟨_, rfl⟩
  rw [htv] at hth htb hbt
  obtain ⟨XC, hXC⟩ : ∃ XC, townC X = XC := ⟨_, rfl⟩
  rw [hXC] at hth
  have hXC2 := hXC
  rw [hXd] at hXC2
  simp only [townC, slH, slL, hGl] at hXC2
  subst hXC2
  simp only [busC, sl] at hth
  simp only [tnV, slRe, sl, slWk, slR, slHo, slW, rivC, lakeC, townC, slH, slL]; simp (maxSteps := 4000000) only [go_sem, seval]
  (repeat' (first
 | ((omega))
 | ((exfalso; omega))
 | refine awp_seqK ?_
 | refine kt ?_
 | refine And.intro ?_ ?_
 | ((first | refine awp_stp rfl ?_ | refine awp_draw (by kernel_rfl) (by kernel_rfl) ?_ | refine Imp.le2 ?_ | refine callK_of (hth) ?_ | refine go_split (fun _h => ?_) (fun _h => ?_)) <;> try simp (maxSteps := 4000000) only [go_sem, seval, ho, busC, sl])
 | intro _h
 | refine awp_block ?_
 | refine awp_scope ?_
 | refine cond_b ?_ ?_
 | (show heapOK _ _ = true; kernel_rfl)
 | (show heapOK2 _ _ = true; kernel_rfl)
 | (omega)))
  refine awp_loopN o.homes.length (fun k => ⟨mkT 354 ((5, slHo hs) :: (6, slW words) :: (11, .ptr 2 0 0) :: (18, .ptr 4 0 0) :: (21, .psl false P.length (recs busC P)) :: (26, .psl false (b + 1) (ints V)) :: (27, .int .i64 b) :: (29, .int .i64 i) :: (30, .int .i64 tv) :: (31, .int .i64 k) :: []), [none, none, some (.cells 35 1 0 (rivC loss plo phi)), none, some (.cells 27 1 0 [.psl false t.homes.length (recs homeC G), slL t.halls, .int .i64 t.seats, .int .i64 t.clo, .int .i64 t.chi])], []⟩) (.le2 ?_) ?_
  · simp only [tnV, slRe, sl, slWk, slR, slHo, slW, rivC, lakeC, townC, slH, slL]; simp (maxSteps := 4000000) only [go_sem, seval]
    all_goals first | rfl | exact ⟨rfl, rfl⟩ | trace_state
  intro k hk9
  rcases Nat.lt_or_eq_of_le hk9 with hk1 | hk1
  rotate_left
  · subst hk1
    simp only [tnV, slRe, sl, slWk, slR, slHo, slW, rivC, lakeC, townC, slH, slL]; simp (maxSteps := 4000000) only [go_sem, seval]
    (repeat' (first
 | ((omega))
 | ((exfalso; omega))
 | refine awp_seqK ?_
 | refine kt ?_
 | refine And.intro ?_ ?_
 | ((first | refine awp_stp rfl ?_ | refine awp_draw (by kernel_rfl) (by kernel_rfl) ?_ | refine Imp.le2 ?_ | refine go_split (fun _h => ?_) (fun _h => ?_)) <;> try simp (maxSteps := 4000000) only [go_sem, seval, ho, busC, sl])
 | intro _h
 | refine awp_block ?_
 | refine awp_scope ?_
 | refine cond_b ?_ ?_
 | (show heapOK _ _ = true; kernel_rfl)
 | (show heapOK2 _ _ = true; kernel_rfl)
 | (omega)))
    all_goals trace_state
  obtain ⟨y, hy⟩ : ∃ y, o.homes.getD k 0 = y := ⟨_, rfl⟩
  obtain ⟨hy0, hyt⟩ := hbt y (by rw [← hy]; exact getD_mem hk1)
  obtain ⟨q, hq⟩ : ∃ q, y.toNat % hs.length = q := ⟨_, rfl⟩
  have hqm : (max 0 y).tmod (hs.length : Int) = (q : Int) := by
    rw [show max 0 y = ((y.toNat : Nat) : Int) by omega, ← hq]; rfl
  have hql : q < hs.length := by rw [← hq]; exact Nat.mod_lt _ c8
  have hRq : R.getD q default = reaV l works ch loss plo (hs.getD q default) l.infl.length := by
    rw [← hR]; unfold wavL; simp [List.getD_eq_getElem?_getD, hql]
  rw [hRl, hq, hRq] at hyt
  have hhq : houseB (hs.getD q default) = true := List.all_eq_true.1 hha _ (getD_mem hql)
  have hwq := hwt (hs.getD q default)
  have q9 := rHeight_c loss plo phi (hs.getD q default) (V.getD b 0) c7.1 hhq ⟨hvB.1, by omega⟩
  obtain ⟨ho2, hho⟩ : ∃ o, hs.getD q default = o := ⟨_, rfl⟩
  rw [hho] at hyt hhq hwq q9
  obtain ⟨u1, u2, u3⟩ := of_decide_eq_true (show decide _ = true from hhq)
  obtain ⟨ht9, hht⟩ : ∃ z, heightV loss ho2.far ho2.wide (V.getD b 0) = z := ⟨_, rfl⟩
  rw [hht] at q9 hwq
  have hww := hwb (k : Int) (by omega)
  have hwm := tmod_bd (b := phi - plo + 1) hww.1 (by omega)
  obtain ⟨m, hm⟩ : ∃ m, plo + (wdV words (k : Int)).tmod (phi - plo + 1) = m := ⟨_, rfl⟩
  obtain ⟨pr, hpr⟩ : ∃ z, ho2.far * m = z := ⟨_, rfl⟩
  have hp1 : ho2.far * plo ≤ pr := by rw [← hpr]; exact Int.mul_le_mul_of_nonneg_left (by omega) (by omega)
  have hp2 : 0 ≤ pr ∧ pr ≤ 200 * 60 := by rw [← hpr]; exact mul_bd u1.1 u1.2 (by omega) (by omega)
  have hend : ho2.high < ht9 → tv ≤ 60 * (b : Int) + pr := fun h => by
    obtain ⟨w1, w2⟩ := hwq (by omega) h
    have := hyt w1
    omega
  simp only [rivC, houseC] at q9
  simp only [tnV, slRe, sl, slWk, slR, slHo, slW, rivC, lakeC, townC, slH, slL]; simp (maxSteps := 4000000) only [go_sem, seval]
  (repeat' (first
 | ((omega))
 | ((exfalso; omega))
 | refine awp_seqK ?_
 | refine kt ?_
 | refine And.intro ?_ ?_
 | ((first | refine awp_stp rfl ?_ | refine awp_draw (by kernel_rfl) (by kernel_rfl) ?_ | refine Imp.le2 ?_ | refine callK_of (hpk _ (by omega)) ?_ | refine callK_of (q9) ?_ | refine go_split (fun _h => ?_) (fun _h => ?_)) <;> try simp (maxSteps := 4000000) only [go_sem, seval, ho, busC, sl, hy, hqm, hho, houseC, hm, hpr])
 | intro _h
 | refine awp_block ?_
 | refine awp_scope ?_
 | refine cond_b ?_ ?_
 | (show heapOK _ _ = true; kernel_rfl)
 | (show heapOK2 _ _ = true; kernel_rfl)
 | (omega)))
  all_goals trace_state
end La
end Go.Am

/- The law TopDry, as a contract: whatever its arguments are. -/
namespace Go.Am
namespace La
open Go.RowKit Go.Proofs
theorem dryLaw_c (t : Town) (l : Lake) (works : List Work) (ch : List Int) (r : Int × Int × Int) (hs : List House) (words : List Int) (hh : hs.length ≤ 9223372036854775807) (hw : wordsOK words) :
    CallS Tryz.prog 3 [.agg (townC t), .agg (lakeC l), slWk works, sl ch, .agg (rivC r.1 r.2.1 r.2.2), slHo hs, slW words] (.bool true) := by
  by_cases h : guardB t l works ch r.1 r.2.1 r.2.2 hs
  · exact dryYes_c t l works ch _ _ _ hs words h hw
  · exact dryNot_c t l works ch _ _ _ hs words h hh
end La
end Go.Am
