/- Parts EsA, EsD, RwT, EsE of the proof, one behind the other. No statement is proved here. -/
import Derived.Test.YtnhikillgkneoaaE5
import Derived.Test.YtnhikillgkneoaaE2
import Derived.Test.YtnhikillgkneoaaE4
import Derived.KernelRfl
import Derived.Carry
set_option linter.unusedVariables false -- all
set_option linter.unusedSimpArgs false
/- Plain words: the buses of a plan go to halls that there are, and leave in time. No program is in sight. -/
namespace Go.Am
open Go.RowKit Go.Proofs
set_option linter.unusedSimpArgs false
set_option linter.unusedVariables false
theorem leaveL_ge {t : Town} {l : List Int} : ∀ k, 0 ≤ leaveL t l k
  | 0 => Int.le_refl _
  | k + 1 => by
    have := leaveL_ge (t := t) (l := l) k
    simp only [leaveL]; omega
/-- A bus of a plan. -/
structure BusP (t : Town) (b : Bus) : Prop where
  hall : 0 ≤ b.hall ∧ b.hall < t.halls.length
  leave : 0 ≤ b.leave ∧ b.leave ≤ 10000
  homes : b.homes.length ≤ 8
theorem mkBus_p {t : Town} {s : Sta} {m j : Nat} (ht : TownOK t) (hs : m < 2 ^ t.homes.length) (hj : j < t.halls.length) (hf : fitsB t s m j = true) : BusP t (mkBus t m j) := by
  unfold fitsB at hf
  rw [Bool.and_eq_true] at hf
  have hm := hf.2
  unfold mayB at hm
  simp only [Bool.and_eq_true] at hm
  have htm := hm.2
  rw [List.all_eq_true] at htm
  have hlen : ∀ k, (lstN m k).length ≤ k := fun k => by
    induction k with
    | zero => simp [lstN]
    | succ k ih => simp only [lstN]; split <;> (try simp) <;> omega
  refine ⟨⟨by show (0 : Int) ≤ (j : Int); omega, by show (j : Int) < _; omega⟩, ⟨leaveL_ge _, ?_⟩, hlen 8⟩
  cases hl : lst m with
  | nil =>
    show leaveL t (lst m) (lst m).length ≤ 10000
    rw [hl]; simp [leaveL]
  | cons x l =>
    have hx : x ∈ lst m := by rw [hl]; simp
    have h1 := of_decide_eq_true (htm x hx)
    have hxr := (lstN_mem (m := m) (k := 8)).1 hx
    have hxh : x.toNat < t.homes.length := by
      apply Classical.byContradiction
      intro h
      have h2 : 2 ^ t.homes.length ≤ 2 ^ x.toNat := Nat.pow_le_pow_right (by omega) (by omega)
      have := Nat.testBit_lt_two_pow (show m < 2 ^ x.toNat by omega)
      rw [this] at hxr; simp at hxr
    have h2 := (ht.home x.toNat hxh).gone
    have h3 : 0 ≤ (t.halls.getD (mkBus t m j).hall.toNat default).drive := by
      have : (mkBus t m j).hall.toNat = j := by show ((j : Int)).toNat = j; omega
      rw [this]
      exact (ht.hall j hj).drive.1
    omega
theorem planF_p {t : Town} (ht : TownOK t) : ∀ (f : Nat) (s : Sta), StOK t s → ∀ b ∈ planF t f s, BusP t b
  | 0, s, _, b, hb => by simp [planF] at hb
  | f + 1, s, hs, b, hb => by
    simp only [planF] at hb
    split at hb
    · cases hb
    · rename_i h0
      split at hb
      · rename_i p hp
        have hr : s.rest < 256 := hs.lt ht
        have hmem := List.mem_of_find?_eq_some hp
        obtain ⟨x, j, h1, h2, h3, rfl⟩ := (nextL_mem hr).1 hmem
        have hsub := mask_sub hr h1
        have hlt : lowB s.rest ||| x < 2 ^ t.homes.length := Nat.lt_of_le_of_lt (sub_le hsub) hs.1
        rcases List.mem_cons.1 hb with rfl | hb
        · exact mkBus_p ht hlt h2 h3
        · exact planF_p ht f _ (toSt_ok ht hs h0 h1 h2 h3) b hb
      · cases hb
theorem planL_p {t : Town} (ht : TownOK t) {b : Bus} (hb : b ∈ planL t) : BusP t b := planF_p ht 256 _ (stBeg_ok ht (Nat.le_refl _)) b hb
/-- When a bus is in its hall. -/
def thV (t : Town) (b : Bus) : Int := b.leave + (t.halls.getD b.hall.toNat default).drive
theorem thV_bd {t : Town} {b : Bus} (ht : TownOK t) (hb : BusP t b) : 0 ≤ thV t b ∧ thV t b ≤ 11000 := by
  have h1 := hb.leave
  have h2 := hb.hall
  have h3 := (ht.hall b.hall.toNat (by omega)).drive
  unfold thV; omega
/-- The last bus, of the first so many. -/
def lastK (t : Town) (L : List Bus) : Nat → Int
  | 0 => 0
  | k + 1 => max (lastK t L k) (thV t (L.getD k default))
theorem lastK_ge {t : Town} {L : List Bus} : ∀ {n k : Nat}, k < n → thV t (L.getD k default) ≤ lastK t L n
  | n + 1, k, h => by
    simp only [lastK]
    by_cases e : k = n
    · subst e; omega
    · have := lastK_ge (t := t) (L := L) (n := n) (k := k) (by omega)
      omega
theorem lastK_bd {t : Town} {L : List Bus} (h : ∀ k, k < L.length → 0 ≤ thV t (L.getD k default) ∧ thV t (L.getD k default) ≤ 11000) : ∀ n, n ≤ L.length → 0 ≤ lastK t L n ∧ lastK t L n ≤ 11000
  | 0, _ => by simp [lastK]
  | n + 1, hn => by
    have := lastK_bd h n (by omega)
    have := h n (by omega)
    simp only [lastK]; omega
end Go.Am

/- Contracts: when a bus is there; a home that one bus takes. -/
namespace Go.Am
open Go.RowKit Go.Proofs
attribute [local irreducible] AWP CallS Kt goK CallK stepK evOps SemF SemY Imp
set_option maxRecDepth 4000
set_option linter.unusedSimpArgs false
set_option linter.unusedVariables false
set_option maxHeartbeats 1600000
theorem ld_B49 {l : List Bus} {i : Nat} {K : AV → Prop} : loadK Try.prog 49 (recs busC l) (i * 3) K = (i < l.length ∧ K (.agg (busC (l.getD i default)))) := ld_recs tagg49 tsz49 (fun _ => rfl) (by omega)
attribute [go_sem ↓] ld_B49
theorem there_c (t : Town) (b : Bus) (ht : TownOK t) (hb : BusP t b) : CallS Try.prog 10 [.agg (townC t), .agg (busC b)] (.int .i64 (thV t b)) := by
  have h1 := hb.hall
  have h2 := hb.leave
  have h3 := (ht.hall b.hall.toNat (by omega)).drive
  unfold thV
  simp only [busC, sl]
  (refine callS_of_awp (fun w args => Try.call10 ..) Try.func10 rfl (fun w0 m0 wz => ?_); simp only [Try.ntmps10, Try.results10, initT, junks, homeC, hallC, slH, slL, townC, busC, slB, sl, List.toList_toArray, List.cons_append, List.nil_append, List.length_cons, List.length_nil, Nat.reduceAdd, Nat.reduceSub])
  (repeat' (first
 | ((exfalso; omega))
 | ((omega))
 | refine awp_seqK ?_
 | refine kt ?_
 | refine And.intro ?_ ?_
 | ((first | refine awp_stp rfl ?_ | refine awp_draw (by kernel_rfl) (by kernel_rfl) ?_ | refine Imp.le2 ?_ | refine go_split (fun _h => ?_) (fun _h => ?_)) <;> try simp (maxSteps := 4000000) only [go_sem, seval])
 | intro _h
 | refine awp_block ?_
 | refine awp_scope ?_
 | refine cond_b ?_ ?_
 | (show heapOK _ _ = true; kernel_rfl)
 | (show heapOK2 _ _ = true; kernel_rfl)
 | (omega)))
  all_goals trace_state
def lvT : Town := ⟨[⟨1, 0, 0, 0, 0, 5⟩], [⟨1, 0, 5⟩], 1, 0, 0⟩
theorem lv_PE : planE lvT = 0 := by kernel_rfl
theorem lv_PL : planL lvT = [⟨0, 0, [0]⟩] := by kernel_rfl
theorem leaves_c : CallS Try.prog 7 [] (.bool true) := by
  have hp := Plan_c lvT ⟨by decide, by decide⟩
  have e : planV lvT = .psl false 1 [.int .i64 0, .int .i64 0, .psl false 1 [.int .i64 0]] := by
    unfold planV; rw [if_pos lv_PE, lv_PL]; rfl
  rw [lv_PE, e] at hp
  have e2 : townC lvT = [.psl false 1 [.int .i64 1, .int .u8 0, .int .i64 0, .int .i64 0, .int .i64 0, .int .i64 5], .psl false 1 [.int .i64 1, .int .u8 0, .int .i64 5], .int .i64 1, .int .i64 0, .int .i64 0] := rfl
  rw [e2] at hp
  have hq := CallS.subA (xs := [.psl true 1 [.int .i64 1, .int .u8 0, .int .i64 0, .int .i64 0, .int .i64 0, .int .i64 5], .psl true 1 [.int .i64 1, .int .u8 0, .int .i64 5], .int .i64 1, .int .i64 0, .int .i64 0]) hp (by simp [subL, avSub])
  (refine callS_of_awp (fun w args => Try.call7 ..) Try.func7 rfl (fun w0 m0 wz => ?_); simp only [Try.ntmps7, Try.results7, initT, junks, homeC, hallC, slH, slL, townC, busC, slB, sl, List.toList_toArray, List.cons_append, List.nil_append, List.length_cons, List.length_nil, Nat.reduceAdd, Nat.reduceSub])
  (repeat' (first
 | refine awp_seqK ?_
 | refine kt ?_
 | refine And.intro ?_ ?_
 | ((first | refine awp_stp rfl ?_ | refine awp_draw (by kernel_rfl) (by kernel_rfl) ?_ | refine Imp.le2 ?_ | refine callK_of (hq) ?_ | refine go_split (fun _h => ?_) (fun _h => ?_)) <;> try simp (maxSteps := 4000000) only [go_sem, seval])
 | intro _h
 | refine awp_block ?_
 | refine awp_scope ?_
 | refine cond_b ?_ ?_
 | (show heapOK _ _ = true; kernel_rfl)
 | (show heapOK2 _ _ = true; kernel_rfl)
 | (omega)))
  all_goals trace_state
end Go.Am

/- What the arguments of the law TopEscaped can be read as. -/
namespace Go.Am
open Go.RowKit Go.Proofs Go.ChangeShapes
section
variable {H : Type} {en : TypeId × Value → H} {P : Program} {w : World} {base : Nat} {sp : Nat → Bool} {held : Bool}
theorem arg_slice {rc : Reach} {b0 : Nat} {t e : TypeId} {v : Value} {d : DataW H} {p : List MemPlace} {α : Type} {x : α → AV} {ok : α → Prop} (hu : P.underlying t = some (.slice e)) (r : Reads P t 1 (fun a => [x a]) ok)
    (hv : Value.okWide P w rc b0 t v) (h : DataW.Trod en P w base sp held t v d p) : ∃ a, ok a ∧ PRep (fun c => c < w.heap.size) w (x a) v := by
  refine arg_one r ?_ h
  cases v
  case agg cs => exact absurd hv (by simp [Value.okWide, Cell.okWide, Cell.ok, hu])
  all_goals rfl
theorem arg_int {rc : Reach} {b0 : Nat} {t : TypeId} {k : IntKind} {v : Value} {d : DataW H} {p : List MemPlace} {α : Type} {x : α → AV} {ok : α → Prop} (hu : P.underlying t = some (.int k)) (r : Reads P t 1 (fun a => [x a]) ok)
    (hv : Value.okWide P w rc b0 t v) (h : DataW.Trod en P w base sp held t v d p) : ∃ a, ok a ∧ PRep (fun c => c < w.heap.size) w (x a) v := by
  refine arg_one r ?_ h
  cases v
  case agg cs => exact absurd hv (by simp [Value.okWide, Cell.okWide, Cell.ok, hu])
  all_goals rfl
variable {enc : TypeId × Value → H} {spare : Nat → Bool}
theorem trodAll_five {t0 t1 t2 t3 t4 : TypeId} {args : Array Value} {ds : List (DataW H)} {ps : List MemPlace} (h : DataW.TrodAll enc P w base spare held [t0, t1, t2, t3, t4] args.toList ds ps) :
    ∃ v0 v1 v2 v3 v4 d0 d1 d2 d3 d4 p0 p1 p2 p3 p4, args = #[v0, v1, v2, v3, v4] ∧ ds = [d0, d1, d2, d3, d4] ∧ ps = p0 ++ p1 ++ p2 ++ p3 ++ p4 ∧ DataW.Trod enc P w base spare held t0 v0 d0 p0 ∧ DataW.Trod enc P w base spare held t1 v1 d1 p1 ∧
      DataW.Trod enc P w base spare held t2 v2 d2 p2 ∧ DataW.Trod enc P w base spare held t3 v3 d3 p3 ∧ DataW.Trod enc P w base spare held t4 v4 d4 p4 := by
  obtain ⟨v0, _, d0, _, p0, _, hargs, rfl, rfl, h0, r0⟩ := trodAll_cons h
  obtain ⟨v1, _, d1, _, p1, _, rfl, rfl, rfl, h1, r1⟩ := trodAll_cons r0
  obtain ⟨v2, _, d2, _, p2, _, rfl, rfl, rfl, h2, r2⟩ := trodAll_cons r1
  obtain ⟨v3, _, d3, _, p3, _, rfl, rfl, rfl, h3, r3⟩ := trodAll_cons r2
  obtain ⟨v4, _, d4, _, p4, _, rfl, rfl, rfl, h4, r4⟩ := trodAll_cons r3
  obtain ⟨rfl, rfl, rfl⟩ := trodAll_nil r4
  exact ⟨v0, v1, v2, v3, v4, d0, d1, d2, d3, d4, p0, p1, p2, p3, p4, by cases args; simp_all, rfl, by simp, h0, h1, h2, h3, h4⟩
end
theorem okI_u8 {n : Int} (h : okI .u8 n) : 0 ≤ n ∧ n ≤ 255 := by
  unfold okI at h
  simpa [Lit.wf, IntKind.has, IntKind.min, IntKind.max, IntKind.signed, IntKind.bits] using h
theorem okI_i8 {n : Int} (h : okI .i8 n) : -128 ≤ n ∧ n ≤ 127 := by
  unfold okI at h
  simpa [Lit.wf, IntKind.has, IntKind.min, IntKind.max, IntKind.signed, IntKind.bits] using h
theorem okI_u16 {n : Int} (h : okI .u16 n) : 0 ≤ n ∧ n ≤ 65535 := by
  unfold okI at h
  simpa [Lit.wf, IntKind.has, IntKind.min, IntKind.max, IntKind.signed, IntKind.bits] using h
theorem rd3 : Reads Try.prog 3 1 (fun n : Int => [.int .i64 n]) (okI .i64) := reads_int Try.underlying3 (by kernel_rfl)
theorem rd5 : Reads Try.prog 5 1 (fun n : Int => [.int .u8 n]) (okI .u8) := reads_int Try.underlying5 (by kernel_rfl)
theorem rd31 : Reads Try.prog 31 1 (fun n : Int => [.int .i8 n]) (okI .i8) := reads_int Try.underlying31 (by kernel_rfl)
theorem rd104 : Reads Try.prog 104 1 (fun n : Int => [.int .u16 n]) (okI .u16) := reads_int Try.underlying104 (by kernel_rfl)
theorem rd22 : Reads Try.prog 22 1 (fun l : List Int => [sl l]) (fun l => l.length ≤ 9223372036854775807 ∧ ∀ a ∈ l, okI .i64 a) :=
  (reads_slice Try.underlying22 (by kernel_rfl) (by omega) rd3).conv id _ _ (fun _ => rfl) (fun l => by simp only [sl, ints, id]; congr 2; induction l with | nil => rfl | cons a l ih => simp_all) (fun _ h => h)
theorem rd24 : Reads Try.prog 24 6 Al.postC (fun p => p.errs.length ≤ 9223372036854775807) :=
  (reads_struct Try.underlying24 (by kernel_rfl) (readsF_cons rfl rd22 (readsF_cons rfl rd3 (readsF_cons rfl rd3 (readsF_cons rfl rd3 (readsF_cons rfl rd3 (readsF_cons rfl rd3 readsF_nil))))))).conv (fun p => ⟨p.1, p.2.1, p.2.2.1, p.2.2.2.1, p.2.2.2.2.1, p.2.2.2.2.2.1⟩) _ _ (fun _ => rfl) (fun _ => rfl) (fun _ h => h.1.1)
theorem rd32 : Reads Try.prog 32 1 (fun l : List Int => [Al.slW l]) Al.wordsOK :=
  (reads_slice Try.underlying32 (by kernel_rfl) (by omega) rd104).conv id _ _ (fun _ => rfl) (fun l => by simp only [Al.slW, Al.u16s, id]; congr 2; induction l with | nil => rfl | cons a l ih => simp_all) (fun l h => ⟨h.1, fun i hi => by
    have hi : i < l.length := hi
    rw [show (id l).getD i 0 = l[i] by simp [List.getD_eq_getElem?_getD, hi]]
    exact okI_u16 (h.2 _ (List.getElem_mem hi))⟩)
theorem rd28 : Reads Try.prog 28 2 (fun p : Int × Int => [.int .i64 p.1, .int .i64 p.2]) (fun _ => True) :=
  (reads_struct Try.underlying28 (by kernel_rfl) (readsF_cons rfl rd3 (readsF_cons rfl rd3 readsF_nil))).conv (fun p => (p.1, p.2.1)) _ _ (fun _ => rfl) (fun _ => rfl) (fun _ _ => trivial)
theorem rd64 : Reads Try.prog 64 6 homeC (fun _ => True) :=
  (reads_struct Try.underlying64 (by kernel_rfl) (readsF_cons rfl rd3 (readsF_cons rfl rd5 (readsF_cons rfl rd28 (readsF_cons rfl rd3 (readsF_cons rfl rd3 readsF_nil)))))).conv (fun p => ⟨p.1, p.2.1, p.2.2.1.1, p.2.2.1.2, p.2.2.2.1, p.2.2.2.2.1⟩) _ _ (fun _ => rfl) (fun _ => rfl) (fun _ _ => trivial)
theorem rd66 : Reads Try.prog 66 3 hallC (fun _ => True) :=
  (reads_struct Try.underlying66 (by kernel_rfl) (readsF_cons rfl rd3 (readsF_cons rfl rd5 (readsF_cons rfl rd3 readsF_nil)))).conv (fun p => ⟨p.1, p.2.1, p.2.2.1⟩) _ _ (fun _ => rfl) (fun _ => rfl) (fun _ _ => trivial)
theorem rd25 : Reads Try.prog 25 1 (fun l : List Home => [slH l]) (fun _ => True) :=
  (reads_slice Try.underlying25 (by kernel_rfl) (by omega) rd64).conv id _ _ (fun _ => rfl) (fun l => rfl) (fun _ _ => trivial)
theorem rd26 : Reads Try.prog 26 1 (fun l : List Hall => [slL l]) (fun _ => True) :=
  (reads_slice Try.underlying26 (by kernel_rfl) (by omega) rd66).conv id _ _ (fun _ => rfl) (fun l => rfl) (fun _ _ => trivial)
theorem rd30 : Reads Try.prog 30 5 townC (fun _ => True) :=
  (reads_struct Try.underlying30 (by kernel_rfl) (readsF_cons rfl rd25 (readsF_cons rfl rd26 (readsF_cons rfl rd3 (readsF_cons rfl rd28 readsF_nil))))).conv (fun p => ⟨p.1, p.2.1, p.2.2.1, p.2.2.2.1.1, p.2.2.2.1.2⟩) _ _ (fun _ => rfl) (fun _ => rfl) (fun _ _ => trivial)
end Go.Am

/- The law TopEscaped, as a contract: it returns true. -/
namespace Go.Am
open Go.RowKit Go.Proofs
attribute [local irreducible] AWP CallS Kt goK CallK stepK evOps SemF SemY Imp tab
set_option maxRecDepth 4000
set_option linter.unusedSimpArgs false
set_option linter.unusedVariables false
set_option maxHeartbeats 6400000
/-- The first hour of a call, of the first so many. -/
def callK (L : List (Int × Int × Int)) : Nat → Int
  | 0 => -1
  | k + 1 => if (L.getD k default).2.2 = 3 ∧ callK L k < 0 then k else callK L k
theorem callK_bd {L : List (Int × Int × Int)} : ∀ k, -1 ≤ callK L k ∧ callK L k < k
  | 0 => by simp [callK]
  | k + 1 => by
    have := callK_bd (L := L) k
    simp only [callK]
    split <;> omega
theorem callK_le {L : List (Int × Int × Int)} {j : Nat} (h : (L.getD j default).2.2 = 3) : ∀ {k : Nat}, j < k → 0 ≤ callK L k ∧ callK L k ≤ j
  | k + 1, hk => by
    simp only [callK]
    by_cases e : j = k
    · subst e
      by_cases h0 : callK L j < 0
      · rw [if_pos ⟨h, h0⟩]; omega
      · rw [if_neg (by omega)]
        have := callK_bd (L := L) j
        omega
    · have ih := callK_le h (k := k) (by omega)
      rw [if_neg (by omega)]; exact ih
/-- How many hours people need. -/
def outV (l : Int) : Int := (l + 59).tdiv 60
theorem outV_bd {l : Int} (h : 0 ≤ l) : 0 ≤ outV l ∧ l ≤ 60 * outV l ∧ outV l * 60 ≤ l + 59 := by
  unfold outV
  rw [Int.tdiv_eq_ediv_of_nonneg (by omega)]
  omega
theorem escaped_c (p : Al.Post) (t : Town) (hours failed : Int) (words : List Int) (hpb : p.errs.length ≤ 9223372036854775807) (hh : 0 ≤ hours ∧ hours ≤ 255) (hfd : -128 ≤ failed ∧ failed ≤ 127) (hw : Al.wordsOK words) :
    CallS Try.prog 3 [.agg (Al.postC p), .agg (townC t), .int .u8 hours, .int .i8 failed, Al.slW words] (.bool true) := by
  have hA := leaves_c
  have k1 := Al.right_c p hpb
  have k2 := thin_c t
  by_cases c1 : 15 < p.errs.length
  · simp only [Al.postC, sl, townC, Al.slW] at k1 k2 ⊢
    (refine callS_of_awp (fun w args => Try.call3 ..) Try.func3 rfl (fun w0 m0 wz => ?_); simp only [Try.ntmps3, Try.results3, initT, junks, homeC, hallC, slH, slL, townC, busC, slB, Al.postC, Al.sll, Al.slSt, Al.slW, sl, List.toList_toArray, List.cons_append, List.nil_append, List.length_cons, List.length_nil, Nat.reduceAdd, Nat.reduceSub])
    (repeat' (first
 | ((omega))
 | ((exfalso; omega))
 | refine awp_seqK ?_
 | refine kt ?_
 | refine And.intro ?_ ?_
 | ((first | refine awp_stp rfl ?_ | refine awp_draw (by kernel_rfl) (by kernel_rfl) ?_ | refine Imp.le2 ?_ | refine callK_of (hA) ?_ | refine go_split (fun _h => ?_) (fun _h => ?_)) <;> try simp (maxSteps := 4000000) only [go_sem, seval])
 | intro _h
 | refine awp_block ?_
 | refine awp_scope ?_
 | refine cond_b ?_ ?_
 | (show heapOK _ _ = true; kernel_rfl)
 | (show heapOK2 _ _ = true; kernel_rfl)
 | (omega)))
    all_goals trace_state
  cases c2 : Al.postB p with
  | false =>
    rw [c2] at k1
    simp only [Al.postC, sl, townC, Al.slW] at k1 k2 ⊢
    (refine callS_of_awp (fun w args => Try.call3 ..) Try.func3 rfl (fun w0 m0 wz => ?_); simp only [Try.ntmps3, Try.results3, initT, junks, homeC, hallC, slH, slL, townC, busC, slB, Al.postC, Al.sll, Al.slSt, Al.slW, sl, List.toList_toArray, List.cons_append, List.nil_append, List.length_cons, List.length_nil, Nat.reduceAdd, Nat.reduceSub])
    (repeat' (first
 | ((omega))
 | ((exfalso; omega))
 | refine awp_seqK ?_
 | refine kt ?_
 | refine And.intro ?_ ?_
 | ((first | refine awp_stp rfl ?_ | refine awp_draw (by kernel_rfl) (by kernel_rfl) ?_ | refine Imp.le2 ?_ | refine callK_of (k1) ?_ | refine callK_of (hA) ?_ | refine go_split (fun _h => ?_) (fun _h => ?_)) <;> try simp (maxSteps := 4000000) only [go_sem, seval])
 | intro _h
 | refine awp_block ?_
 | refine awp_scope ?_
 | refine cond_b ?_ ?_
 | (show heapOK _ _ = true; kernel_rfl)
 | (show heapOK2 _ _ = true; kernel_rfl)
 | (omega)))
    all_goals trace_state
  | true =>
  cases c3 : thinB t with
  | false =>
    rw [c2] at k1
    rw [c3] at k2
    simp only [Al.postC, sl, townC, Al.slW] at k1 k2 ⊢
    (refine callS_of_awp (fun w args => Try.call3 ..) Try.func3 rfl (fun w0 m0 wz => ?_); simp only [Try.ntmps3, Try.results3, initT, junks, homeC, hallC, slH, slL, townC, busC, slB, Al.postC, Al.sll, Al.slSt, Al.slW, sl, List.toList_toArray, List.cons_append, List.nil_append, List.length_cons, List.length_nil, Nat.reduceAdd, Nat.reduceSub])
    (repeat' (first
 | ((omega))
 | ((exfalso; omega))
 | refine awp_seqK ?_
 | refine kt ?_
 | refine And.intro ?_ ?_
 | ((first | refine awp_stp rfl ?_ | refine awp_draw (by kernel_rfl) (by kernel_rfl) ?_ | refine Imp.le2 ?_ | refine callK_of (k1) ?_ | refine callK_of (k2) ?_ | refine callK_of (hA) ?_ | refine go_split (fun _h => ?_) (fun _h => ?_)) <;> try simp (maxSteps := 4000000) only [go_sem, seval])
 | intro _h
 | refine awp_block ?_
 | refine awp_scope ?_
 | refine cond_b ?_ ?_
 | (show heapOK _ _ = true; kernel_rfl)
 | (show heapOK2 _ _ = true; kernel_rfl)
 | (omega)))
    all_goals trace_state
  | true =>
  rw [c2] at k1
  rw [c3] at k2
  have hb : townOK t := by
    have := of_decide_eq_true c3
    exact ⟨by omega, by omega⟩
  have k3 := fault_c t hb
  by_cases c4 : faultT t = 0
  · rw [c4] at k3
    have ht := faultT_zero c4
    have k4 := Town_c t hb
    have k5 := Plan_c t hb
    by_cases c5 : planE t = 0
    · have v5 : planV t = slB (planL t) := by unfold planV; rw [if_pos c5]
      rw [c5, v5] at k5
      have hBP := fun b hb => planL_p ht (b := b) hb
      have hLl : (planL t).length ≤ 256 := planF_le _ _
      generalize planL t = L at *
      have hmem : ∀ i, i < L.length → L.getD i default ∈ L := fun i hi => by
        rw [List.getD_eq_getElem?_getD, List.getElem?_eq_getElem hi]; exact List.getElem_mem hi
      have hth := fun i (hi : i < L.length) => there_c t (L.getD i default) ht (hBP _ (hmem i hi))
      have hbd := fun i (hi : i < L.length) => thV_bd ht (hBP _ (hmem i hi))
      have hla := lastK_bd hbd
      have hP := Al.postB_ok c2
      have k7 := Al.Post_c p (by omega)
      have hl1 := hP.len
      obtain ⟨ft, hft⟩ : ∃ f, failed.tmod (p.errs.length : Int) = f := ⟨_, rfl⟩
      have hfb : -(p.errs.length : Int) < ft ∧ ft < p.errs.length := by
        rw [← hft]; exact ⟨Int.lt_tmod_of_pos _ (by omega), Int.tmod_lt_of_pos _ (by omega)⟩
      have hhm := Al.tmod_bd (a := hours) (b := 30) hh.1 (by omega)
      obtain ⟨hm, hhmm⟩ : ∃ z, hours.tmod 30 = z := ⟨_, rfl⟩
      rw [hhmm] at hhm
      have hfin := hla L.length (Nat.le_refl _)
      have hob := outV_bd hfin.1
      simp only [Al.postC, sl, townC, slH, slL, slB, busC, Al.slW] at k1 k2 k3 k4 k5 k7 hth ⊢
      (refine callS_of_awp (fun w args => Try.call3 ..) Try.func3 rfl (fun w0 m0 wz => ?_); simp only [Try.ntmps3, Try.results3, initT, junks, homeC, hallC, slH, slL, townC, busC, slB, Al.postC, Al.sll, Al.slSt, Al.slW, sl, List.toList_toArray, List.cons_append, List.nil_append, List.length_cons, List.length_nil, Nat.reduceAdd, Nat.reduceSub])
      (repeat' (first
 | ((omega))
 | ((exfalso; omega))
 | refine awp_seqK ?_
 | refine kt ?_
 | refine And.intro ?_ ?_
 | ((first | refine awp_stp rfl ?_ | refine awp_draw (by kernel_rfl) (by kernel_rfl) ?_ | refine Imp.le2 ?_ | refine callK_of (k1) ?_ | refine callK_of (k2) ?_ | refine callK_of (k3) ?_ | refine callK_of (k4) ?_ | refine callK_of (k5) ?_ | refine go_split (fun _h => ?_) (fun _h => ?_)) <;> try simp (maxSteps := 4000000) only [go_sem, seval])
 | intro _h
 | refine awp_block ?_
 | refine awp_scope ?_
 | refine cond_b ?_ ?_
 | (show heapOK _ _ = true; kernel_rfl)
 | (show heapOK2 _ _ = true; kernel_rfl)
 | (omega)))
      refine awp_loopN L.length (fun i => ⟨mkT 168 [(2, .int .u8 hours), (3, .int .i8 failed), (4, Al.slW words), (5, .ptr 0 0 0), (6, .ptr 1 0 0), (11, slB L), (13, .int .i64 (lastK t L i)), (14, .int .i64 i)], [some (.cells 24 1 0 (Al.postC p)), some (.cells 30 1 0 (townC t))], []⟩) (.le2 ?_) ?_
      · simp only [Al.postC, sl, townC, slH, slL, slB, Al.slW, lastK]; simp (maxSteps := 4000000) only [go_sem, seval]
        all_goals first | rfl | exact ⟨rfl, rfl⟩ | exact ⟨rfl, rfl, rfl⟩ | trace_state
      · intro i hi
        rcases Nat.lt_or_eq_of_le hi with hi1 | hi1
        · have hti := hth i hi1
          have hbi := hbd i hi1
          have hli := hla i hi
          have els : lastK t L (i + 1) = max (lastK t L i) (thV t (L.getD i default)) := rfl
          rw [els]
          generalize lastK t L i = z at *
          generalize thV t (L.getD i default) = y at *
          simp only [Al.postC, sl, townC, slH, slL, slB, Al.slW]; simp (maxSteps := 4000000) only [go_sem, seval]
          (repeat' (first
 | ((omega))
 | ((exfalso; omega))
 | refine awp_seqK ?_
 | refine kt ?_
 | refine And.intro ?_ ?_
 | ((first | refine awp_stp rfl ?_ | refine awp_draw (by kernel_rfl) (by kernel_rfl) ?_ | refine Imp.le2 ?_ | refine callK_of (hti) ?_ | refine go_split (fun _h => ?_) (fun _h => ?_)) <;> try simp (maxSteps := 4000000) only [go_sem, seval, busC, sl])
 | intro _h
 | refine awp_block ?_
 | refine awp_scope ?_
 | refine cond_b ?_ ?_
 | (show heapOK _ _ = true; kernel_rfl)
 | (show heapOK2 _ _ = true; kernel_rfl)
 | (omega)))
          all_goals trace_state
        · subst hi1
          generalize hz : lastK t L L.length = z at *
          have hoe : (z + 59).tdiv 60 = outV z := rfl
          generalize outV z = o at *
          simp only [Al.postC, sl, townC, slH, slL, slB, Al.slW]; simp (maxSteps := 4000000) only [go_sem, seval]
          by_cases ho : 60 < o
          · (repeat' (first
 | ((omega))
 | ((exfalso; omega))
 | refine awp_seqK ?_
 | refine kt ?_
 | refine And.intro ?_ ?_
 | ((first | refine awp_stp rfl ?_ | refine awp_draw (by kernel_rfl) (by kernel_rfl) ?_ | refine Imp.le2 ?_ | refine callK_of (k7) ?_ | refine callK_of (hA) ?_ | refine go_split (fun _h => ?_) (fun _h => ?_)) <;> try simp (maxSteps := 4000000) only [go_sem, seval, hoe])
 | intro _h
 | refine awp_block ?_
 | refine awp_scope ?_
 | refine cond_b ?_ ?_
 | (show heapOK _ _ = true; kernel_rfl)
 | (show heapOK2 _ _ = true; kernel_rfl)
 | (omega)))
            all_goals trace_state
          · have hcl := Al.climb_c p (1 + hm) ft words hP hw (by omega)
            obtain ⟨f1, f2, f3, f4⟩ := Al.climb_facts (p := p) (o := o) (f := ft) (words := words) (H := (1 + hm).toNat) c2 (by omega) hw (by omega) (by omega)
            have hRl : ∀ r ∈ (Al.tab (1 + hm).toNat fun h => Al.tab p.errs.length (Al.rdC p ft words h)), r.length = p.errs.length := fun r hr => by
              obtain ⟨x, _, rfl⟩ := Al.mem_tab hr
              exact Al.tab_length
            have hRn : (Al.tab (1 + hm).toNat fun h => Al.tab p.errs.length (Al.rdC p ft words h)).length = (1 + hm).toNat := Al.tab_length
            generalize (Al.tab (1 + hm).toNat fun h => Al.tab p.errs.length (Al.rdC p ft words h)) = R at *
            generalize Al.tab (1 + hm).toNat (Al.spC p words) = sp at *
            have hlv := Al.levels_c (Al.outP p o) R ⟨hpb, by omega, fun x hx => by
              rw [List.getD_eq_getElem?_getD, List.getElem?_eq_getElem hx]
              have := hRl R[x] (List.getElem_mem hx)
              show R[x].length ≤ _
              omega⟩
            rw [f1] at hlv
            generalize Al.levelsL (Al.outP p o) R = LL at *
            simp only [Al.postC, Al.outP, sl, Al.sll, Al.slSt, Al.slW] at hcl hlv
            (repeat' (first
 | ((omega))
 | ((exfalso; omega))
 | refine awp_seqK ?_
 | refine kt ?_
 | refine And.intro ?_ ?_
 | ((first | refine awp_stp rfl ?_ | refine awp_draw (by kernel_rfl) (by kernel_rfl) ?_ | refine Imp.le2 ?_ | refine callK_of (k7) ?_ | refine callK_of (hcl) ?_ | refine callK_of (hlv) ?_ | refine go_split (fun _h => ?_) (fun _h => ?_)) <;> try simp (maxSteps := 4000000) only [go_sem, seval, hoe, hft, hhmm])
 | intro _h
 | refine awp_block ?_
 | refine awp_scope ?_
 | refine cond_b ?_ ?_
 | (show heapOK _ _ = true; kernel_rfl)
 | (show heapOK2 _ _ = true; kernel_rfl)
 | (omega)))
            refine awp_loopN LL.length (fun k => ⟨mkT 168 [(5, .ptr 0 0 0), (6, .ptr 1 0 0), (11, slB L), (16, .ptr 2 0 0), (17, .psl false sp.length (ints sp)), (19, .psl false LL.length (recs Al.stC LL)), (21, .int .i64 (callK LL k)), (22, .int .i64 k)], [some (.cells 24 1 0 (Al.postC p)), some (.cells 30 1 0 (townC t)), some (.cells 50 1 0 (Al.postC (Al.outP p o)))], []⟩) (.le2 ?_) ?_
            · simp only [Al.postC, Al.outP, sl, townC, slH, slL, slB, Al.slW, callK]; simp (maxSteps := 4000000) only [go_sem, seval]
              all_goals first | rfl | exact ⟨rfl, rfl⟩ | exact ⟨rfl, rfl, rfl⟩ | trace_state
            · intro k hk
              rcases Nat.lt_or_eq_of_le hk with hk1 | hk1
              · have hkey : p.fall ≤ sp.getD k 0 → o ≤ k → 0 ≤ callK LL (k + 1) ∧ callK LL (k + 1) ≤ (k : Int) - o := fun h1 h2 => by
                  have h3 := f4 k ((k : Int) - o).toNat (by omega) h1 (by omega) (by omega)
                  have h4 := callK_le h3 (k := k + 1) (by omega)
                  omega
                have hcb := callK_bd (L := LL) (k + 1)
                have hcb0 := callK_bd (L := LL) k
                have hck : callK LL (k + 1) = if (LL.getD k default).2.2 = 3 ∧ callK LL k < 0 then (k : Int) else callK LL k := rfl
                generalize callK LL (k + 1) = c1 at *
                generalize callK LL k = c0 at *
                obtain ⟨lv, hlvk⟩ : ∃ z, (LL.getD k default).2.2 = z := ⟨_, rfl⟩
                rw [hlvk] at hck
                by_cases hc : lv = 3 ∧ c0 < 0
                · rw [if_pos hc] at hck
                  subst hck
                  by_cases hs : p.fall ≤ sp.getD k 0 ∧ o ≤ (k : Int)
                  · have hkk := hkey hs.1 hs.2
                    simp only [Al.postC, Al.outP, sl, townC, slH, slL, slB, Al.slW]; simp (maxSteps := 4000000) only [go_sem, seval]
                    (repeat' (first
 | ((omega))
 | ((exfalso; omega))
 | refine awp_seqK ?_
 | refine kt ?_
 | refine And.intro ?_ ?_
 | ((first | refine awp_stp rfl ?_ | refine awp_draw (by kernel_rfl) (by kernel_rfl) ?_ | refine Imp.le2 ?_ | refine go_split (fun _h => ?_) (fun _h => ?_)) <;> try simp (maxSteps := 4000000) only [go_sem, seval, hlvk])
 | intro _h
 | refine awp_block ?_
 | refine awp_scope ?_
 | refine cond_b ?_ ?_
 | (show heapOK _ _ = true; kernel_rfl)
 | (show heapOK2 _ _ = true; kernel_rfl)
 | (omega)))
                    all_goals
                      refine awp_loopN L.length (fun i => ⟨mkT 168 [(5, .ptr 0 0 0), (6, .ptr 1 0 0), (11, slB L), (16, .ptr 2 0 0), (17, .psl false sp.length (ints sp)), (19, .psl false LL.length (recs Al.stC LL)), (21, .int .i64 k), (22, .int .i64 k), (23, .int .i64 i)], [some (.cells 24 1 0 (Al.postC p)), some (.cells 30 1 0 (townC t)), some (.cells 50 1 0 (Al.postC (Al.outP p o)))], []⟩) (.le2 ?_) ?_
                      · simp only [Al.postC, Al.outP, sl, townC, slH, slL, slB, Al.slW]; simp (maxSteps := 4000000) only [go_sem, seval]
                        all_goals first | rfl | exact ⟨rfl, rfl⟩ | exact ⟨rfl, rfl, rfl⟩ | trace_state
                      · intro i hi
                        rcases Nat.lt_or_eq_of_le hi with hi1 | hi1
                        · have hti := hth i hi1
                          have hbi := hbd i hi1
                          have hle := lastK_ge (t := t) (L := L) hi1
                          rw [hz] at hle
                          generalize thV t (L.getD i default) = y at *
                          simp only [Al.postC, Al.outP, sl, townC, slH, slL, slB, Al.slW]; simp (maxSteps := 4000000) only [go_sem, seval]
                          (repeat' (first
 | ((omega))
 | ((exfalso; omega))
 | refine awp_seqK ?_
 | refine kt ?_
 | refine And.intro ?_ ?_
 | ((first | refine awp_stp rfl ?_ | refine awp_draw (by kernel_rfl) (by kernel_rfl) ?_ | refine Imp.le2 ?_ | refine callK_of (hti) ?_ | refine go_split (fun _h => ?_) (fun _h => ?_)) <;> try simp (maxSteps := 4000000) only [go_sem, seval, busC, sl])
 | intro _h
 | refine awp_block ?_
 | refine awp_scope ?_
 | refine cond_b ?_ ?_
 | (show heapOK _ _ = true; kernel_rfl)
 | (show heapOK2 _ _ = true; kernel_rfl)
 | (omega)))
                          all_goals trace_state
                        · subst hi1
                          simp only [Al.postC, Al.outP, sl, townC, slH, slL, slB, Al.slW]; simp (maxSteps := 4000000) only [go_sem, seval]
                          (repeat' (first
 | ((omega))
 | ((exfalso; omega))
 | refine awp_seqK ?_
 | refine kt ?_
 | refine And.intro ?_ ?_
 | ((first | refine awp_stp rfl ?_ | refine awp_draw (by kernel_rfl) (by kernel_rfl) ?_ | refine Imp.le2 ?_ | refine go_split (fun _h => ?_) (fun _h => ?_)) <;> try simp (maxSteps := 4000000) only [go_sem, seval])
 | intro _h
 | refine awp_block ?_
 | refine awp_scope ?_
 | refine cond_b ?_ ?_
 | (show heapOK _ _ = true; kernel_rfl)
 | (show heapOK2 _ _ = true; kernel_rfl)
 | (omega)))
                          all_goals first | rfl | exact ⟨rfl, rfl⟩ | trace_state
                  · simp only [Al.postC, Al.outP, sl, townC, slH, slL, slB, Al.slW]; simp (maxSteps := 4000000) only [go_sem, seval]
                    (repeat' (first
 | ((omega))
 | ((exfalso; omega))
 | refine awp_seqK ?_
 | refine kt ?_
 | refine And.intro ?_ ?_
 | ((first | refine awp_stp rfl ?_ | refine awp_draw (by kernel_rfl) (by kernel_rfl) ?_ | refine Imp.le2 ?_ | refine go_split (fun _h => ?_) (fun _h => ?_)) <;> try simp (maxSteps := 4000000) only [go_sem, seval, hlvk])
 | intro _h
 | refine awp_block ?_
 | refine awp_scope ?_
 | refine cond_b ?_ ?_
 | (show heapOK _ _ = true; kernel_rfl)
 | (show heapOK2 _ _ = true; kernel_rfl)
 | (omega)))
                    all_goals first | rfl | exact ⟨rfl, rfl⟩ | trace_state
                · rw [if_neg hc] at hck
                  subst hck
                  by_cases hs : p.fall ≤ sp.getD k 0 ∧ o ≤ (k : Int)
                  · have hkk := hkey hs.1 hs.2
                    simp only [Al.postC, Al.outP, sl, townC, slH, slL, slB, Al.slW]; simp (maxSteps := 4000000) only [go_sem, seval]
                    (repeat' (first
 | ((omega))
 | ((exfalso; omega))
 | refine awp_seqK ?_
 | refine kt ?_
 | refine And.intro ?_ ?_
 | ((first | refine awp_stp rfl ?_ | refine awp_draw (by kernel_rfl) (by kernel_rfl) ?_ | refine Imp.le2 ?_ | refine go_split (fun _h => ?_) (fun _h => ?_)) <;> try simp (maxSteps := 4000000) only [go_sem, seval, hlvk])
 | intro _h
 | refine awp_block ?_
 | refine awp_scope ?_
 | refine cond_b ?_ ?_
 | (show heapOK _ _ = true; kernel_rfl)
 | (show heapOK2 _ _ = true; kernel_rfl)
 | (omega)))
                    all_goals
                      refine awp_loopN L.length (fun i => ⟨mkT 168 [(5, .ptr 0 0 0), (6, .ptr 1 0 0), (11, slB L), (16, .ptr 2 0 0), (17, .psl false sp.length (ints sp)), (19, .psl false LL.length (recs Al.stC LL)), (21, .int .i64 c1), (22, .int .i64 k), (23, .int .i64 i)], [some (.cells 24 1 0 (Al.postC p)), some (.cells 30 1 0 (townC t)), some (.cells 50 1 0 (Al.postC (Al.outP p o)))], []⟩) (.le2 ?_) ?_
                      · simp only [Al.postC, Al.outP, sl, townC, slH, slL, slB, Al.slW]; simp (maxSteps := 4000000) only [go_sem, seval]
                        all_goals first | rfl | exact ⟨rfl, rfl⟩ | exact ⟨rfl, rfl, rfl⟩ | trace_state
                      · intro i hi
                        rcases Nat.lt_or_eq_of_le hi with hi1 | hi1
                        · have hti := hth i hi1
                          have hbi := hbd i hi1
                          have hle := lastK_ge (t := t) (L := L) hi1
                          rw [hz] at hle
                          generalize thV t (L.getD i default) = y at *
                          simp only [Al.postC, Al.outP, sl, townC, slH, slL, slB, Al.slW]; simp (maxSteps := 4000000) only [go_sem, seval]
                          (repeat' (first
 | ((omega))
 | ((exfalso; omega))
 | refine awp_seqK ?_
 | refine kt ?_
 | refine And.intro ?_ ?_
 | ((first | refine awp_stp rfl ?_ | refine awp_draw (by kernel_rfl) (by kernel_rfl) ?_ | refine Imp.le2 ?_ | refine callK_of (hti) ?_ | refine go_split (fun _h => ?_) (fun _h => ?_)) <;> try simp (maxSteps := 4000000) only [go_sem, seval, busC, sl])
 | intro _h
 | refine awp_block ?_
 | refine awp_scope ?_
 | refine cond_b ?_ ?_
 | (show heapOK _ _ = true; kernel_rfl)
 | (show heapOK2 _ _ = true; kernel_rfl)
 | (omega)))
                          all_goals trace_state
                        · subst hi1
                          simp only [Al.postC, Al.outP, sl, townC, slH, slL, slB, Al.slW]; simp (maxSteps := 4000000) only [go_sem, seval]
                          (repeat' (first
 | ((omega))
 | ((exfalso; omega))
 | refine awp_seqK ?_
 | refine kt ?_
 | refine And.intro ?_ ?_
 | ((first | refine awp_stp rfl ?_ | refine awp_draw (by kernel_rfl) (by kernel_rfl) ?_ | refine Imp.le2 ?_ | refine go_split (fun _h => ?_) (fun _h => ?_)) <;> try simp (maxSteps := 4000000) only [go_sem, seval])
 | intro _h
 | refine awp_block ?_
 | refine awp_scope ?_
 | refine cond_b ?_ ?_
 | (show heapOK _ _ = true; kernel_rfl)
 | (show heapOK2 _ _ = true; kernel_rfl)
 | (omega)))
                          all_goals first | rfl | exact ⟨rfl, rfl⟩ | trace_state
                  · simp only [Al.postC, Al.outP, sl, townC, slH, slL, slB, Al.slW]; simp (maxSteps := 4000000) only [go_sem, seval]
                    (repeat' (first
 | ((omega))
 | ((exfalso; omega))
 | refine awp_seqK ?_
 | refine kt ?_
 | refine And.intro ?_ ?_
 | ((first | refine awp_stp rfl ?_ | refine awp_draw (by kernel_rfl) (by kernel_rfl) ?_ | refine Imp.le2 ?_ | refine go_split (fun _h => ?_) (fun _h => ?_)) <;> try simp (maxSteps := 4000000) only [go_sem, seval, hlvk])
 | intro _h
 | refine awp_block ?_
 | refine awp_scope ?_
 | refine cond_b ?_ ?_
 | (show heapOK _ _ = true; kernel_rfl)
 | (show heapOK2 _ _ = true; kernel_rfl)
 | (omega)))
                    all_goals first | rfl | exact ⟨rfl, rfl⟩ | trace_state
              · subst hk1
                simp only [Al.postC, Al.outP, sl, townC, slH, slL, slB, Al.slW]; simp (maxSteps := 4000000) only [go_sem, seval]
                (repeat' (first
 | ((exfalso; omega))
 | refine awp_seqK ?_
 | refine kt ?_
 | refine And.intro ?_ ?_
 | ((first | refine awp_stp rfl ?_ | refine awp_draw (by kernel_rfl) (by kernel_rfl) ?_ | refine Imp.le2 ?_ | refine callK_of (hA) ?_ | refine go_split (fun _h => ?_) (fun _h => ?_)) <;> try simp (maxSteps := 4000000) only [go_sem, seval])
 | intro _h
 | refine awp_block ?_
 | refine awp_scope ?_
 | refine cond_b ?_ ?_
 | (show heapOK _ _ = true; kernel_rfl)
 | (show heapOK2 _ _ = true; kernel_rfl)
 | (omega)))
                all_goals trace_state
    · have e5 : planE t = 9 := by
        unfold planE at c5 ⊢
        rw [if_neg (by rw [c4]; simp)] at c5 ⊢
        by_cases h : 1000 ≤ needV t (stBeg t t.homes.length t.halls.length)
        · rw [if_pos h]
        · rw [if_neg h] at c5; exact absurd rfl c5
      have v5 : planV t = .nils := by unfold planV; rw [if_neg c5]
      rw [e5, v5] at k5
      simp only [Al.postC, sl, townC, slH, slL, Al.slW] at k1 k2 k3 k4 k5 ⊢
      (refine callS_of_awp (fun w args => Try.call3 ..) Try.func3 rfl (fun w0 m0 wz => ?_); simp only [Try.ntmps3, Try.results3, initT, junks, homeC, hallC, slH, slL, townC, busC, slB, Al.postC, Al.sll, Al.slSt, Al.slW, sl, List.toList_toArray, List.cons_append, List.nil_append, List.length_cons, List.length_nil, Nat.reduceAdd, Nat.reduceSub])
      (repeat' (first
 | ((omega))
 | ((exfalso; omega))
 | refine awp_seqK ?_
 | refine kt ?_
 | refine And.intro ?_ ?_
 | ((first | refine awp_stp rfl ?_ | refine awp_draw (by kernel_rfl) (by kernel_rfl) ?_ | refine Imp.le2 ?_ | refine callK_of (k1) ?_ | refine callK_of (k2) ?_ | refine callK_of (k3) ?_ | refine callK_of (k4) ?_ | refine callK_of (k5) ?_ | refine callK_of (hA) ?_ | refine go_split (fun _h => ?_) (fun _h => ?_)) <;> try simp (maxSteps := 4000000) only [go_sem, seval])
 | intro _h
 | refine awp_block ?_
 | refine awp_scope ?_
 | refine cond_b ?_ ?_
 | (show heapOK _ _ = true; kernel_rfl)
 | (show heapOK2 _ _ = true; kernel_rfl)
 | (omega)))
      all_goals trace_state
  · generalize faultT t = e at *
    simp only [Al.postC, sl, townC, slH, slL, Al.slW] at k1 k2 k3 ⊢
    (refine callS_of_awp (fun w args => Try.call3 ..) Try.func3 rfl (fun w0 m0 wz => ?_); simp only [Try.ntmps3, Try.results3, initT, junks, homeC, hallC, slH, slL, townC, busC, slB, Al.postC, Al.sll, Al.slSt, Al.slW, sl, List.toList_toArray, List.cons_append, List.nil_append, List.length_cons, List.length_nil, Nat.reduceAdd, Nat.reduceSub])
    (repeat' (first
 | ((omega))
 | ((exfalso; omega))
 | refine awp_seqK ?_
 | refine kt ?_
 | refine And.intro ?_ ?_
 | ((first | refine awp_stp rfl ?_ | refine awp_draw (by kernel_rfl) (by kernel_rfl) ?_ | refine Imp.le2 ?_ | refine callK_of (k1) ?_ | refine callK_of (k2) ?_ | refine callK_of (k3) ?_ | refine callK_of (hA) ?_ | refine go_split (fun _h => ?_) (fun _h => ?_)) <;> try simp (maxSteps := 4000000) only [go_sem, seval])
 | intro _h
 | refine awp_block ?_
 | refine awp_scope ?_
 | refine cond_b ?_ ?_
 | (show heapOK _ _ = true; kernel_rfl)
 | (show heapOK2 _ _ = true; kernel_rfl)
 | (omega)))
    all_goals first | (exfalso; simp at _h; omega) | trace_state
end Go.Am
