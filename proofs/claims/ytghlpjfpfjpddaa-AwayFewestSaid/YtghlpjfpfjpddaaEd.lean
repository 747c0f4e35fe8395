/- Parts TnB, TnE of the proof, one behind the other. No statement is proved here. -/
import Derived.Test.YtghlpjfpfjpddaaEc
import Derived.Test.YtghlpjfpfjpddaaE3
import Derived.Test.YtghlpjfpfjpddaaN4
/- A town that asks less: a plan that is right stays right. -/
namespace Go.Am
open Go.RowKit Go.Proofs
set_option linter.unusedSimpArgs false
set_option linter.unusedVariables false

structure Easier (t x : Town) : Prop where
  ok : TownOK x
  hl : x.homes.length = t.homes.length
  ll : x.halls.length = t.halls.length
  seats : t.seats ≤ x.seats
  home : ∀ i, i < t.homes.length → ((x.homes.getD i default).people = (t.homes.getD i default).people ∧ (x.homes.getD i default).pets = (t.homes.getD i default).pets) ∧ worstN x (x.homes.getD i default) ≤ worstN t (t.homes.getD i default) ∧ (t.homes.getD i default).gone ≤ (x.homes.getD i default).gone
  hall : ∀ i, i < t.halls.length → ((t.halls.getD i default).room ≤ (x.halls.getD i default).room ∧ (x.halls.getD i default).drive = (t.halls.getD i default).drive) ∧ ∀ a, andn a (t.halls.getD i default).pets = 0 → andn a (x.halls.getD i default).pets = 0
theorem easier_ppl {t x : Town} (h : Easier t x) {l : List Int} (hl : ∀ y ∈ l, 0 ≤ y ∧ y < t.homes.length) : ∀ k, k ≤ l.length → pplL x l k = pplL t l k
  | 0, _ => rfl
  | k + 1, hk => by
    have h2 := hl _ (getD_mem (d := 0) (i := k) (by omega))
    have h3 := (h.home (l.getD k 0).toNat (by omega)).1.1
    simp only [pplL]
    rw [easier_ppl h hl k (by omega), h3]
theorem easier_bus {t x : Town} (h : Easier t x) {b : Bus} (hb : BusG t b) : BusG x b := by
  have hy := hb.may
  have hh := hb.hall
  have hx := hb.homes
  simp only [mayB, Bool.and_eq_true, decide_eq_true_eq, List.all_eq_true] at hy
  obtain ⟨⟨y1, y2⟩, y3⟩ := hy
  refine ⟨hb.leave, by rw [h.ll]; exact hh, hb.some, by rw [h.hl]; exact hx, ?_⟩
  simp only [mayB, Bool.and_eq_true, decide_eq_true_eq, List.all_eq_true]
  have hk := h.hall b.hall.toNat (by omega)
  refine ⟨⟨?_, fun y hm => ?_⟩, fun y hm => ?_⟩
  · have e : ppl x b.homes = ppl t b.homes := easier_ppl h hx _ (Nat.le_refl _)
    have := h.seats
    omega
  · have z := y2 y hm
    have r := hx y hm
    have hi := h.home y.toNat (by omega)
    simp only [sheB, decide_eq_true_eq] at z ⊢
    rw [hi.1.2]
    exact hk.2 _ z
  · have z := y3 y hm
    have r := hx y hm
    have hi := h.home y.toNat (by omega)
    simp only [timB, decide_eq_true_eq] at z ⊢
    rw [worst_at (t := t) r] at z
    rw [worst_at (t := x) (by rw [h.hl]; exact r), hk.1.2]
    omega
theorem easier_right {t x : Town} (ht : TownOK t) (h : Easier t x) {P : List Bus} (hq : rightB t P = true) : rightB x P = true := by
  have R := (refR_iff ht).1 hq
  refine (refR_iff h.ok).2 ⟨R.len, fun j hj => ⟨easier_bus h (R.one j hj).1, (R.one j hj).2⟩, fun i hi => R.cnt i (by rw [← h.hl]; exact hi), fun i hi => ?_⟩
  have hi2 : i < t.halls.length := by rw [← h.ll]; exact hi
  have e : roomN x P P.length i = roomN t P P.length i := sumN_congr fun j hj => by
    have e2 : ppl x (P.getD j default).homes = ppl t (P.getD j default).homes := easier_ppl h (R.one j hj).1.homes _ (Nat.le_refl _)
    rw [e2]
  rw [e]
  have := R.roo i hi2
  have := (h.hall i hi2).1.1
  omega
theorem easier_plan {t x : Town} (ht : faultT t = 0) (h : Easier t x) (hE : planE t = 0) : planE x = 0 ∧ (planL x).length ≤ (planL t).length ∧ rightB x (planL t) = true := by
  have h0 := faultT_zero ht
  have hq := easier_right h0 h (plan_right ht hE).1
  have hx := townOK_fault h.ok
  obtain ⟨f1, f2⟩ := plan_few hx hq
  have f3 := (plan_right hx f2).2
  exact ⟨f2, by omega, hq⟩
/-! ### The ways of being easier -/
def setH (t : Town) (q : Nat) (h : Home) : Town := ⟨isp t.homes q h, t.halls, t.seats, t.clo, t.chi⟩
def setL (t : Town) (k : Nat) (l : Hall) : Town := ⟨t.homes, isp t.halls k l, t.seats, t.clo, t.chi⟩
def orP (a b : Int) : Int := IntKind.u8.wrap (BitVec.ofInt IntKind.u8.bits a ||| BitVec.ofInt IntKind.u8.bits b).toNat
theorem Easier.refl {t : Town} (ht : TownOK t) : Easier t t := ⟨ht, rfl, rfl, Int.le_refl _, fun i hi => ⟨⟨rfl, rfl⟩, Int.le_refl _, Int.le_refl _⟩, fun i hi => ⟨⟨Int.le_refl _, rfl⟩, fun a h => h⟩⟩
theorem easier_seats {t : Town} (ht : TownOK t) {s : Int} (h1 : t.seats ≤ s) (h2 : s ≤ 200) : Easier t ⟨t.homes, t.halls, s, t.clo, t.chi⟩ := by
  have := ht.seats
  exact ⟨⟨ht.homes, ht.halls, ⟨by simp only; omega, h2⟩, ht.call, ht.home, ht.hall⟩, rfl, rfl, h1, fun i hi => ⟨⟨rfl, rfl⟩, Int.le_refl _, Int.le_refl _⟩, fun i hi => ⟨⟨Int.le_refl _, rfl⟩, fun a h => h⟩⟩
theorem easier_call {t : Town} (ht : TownOK t) {c : Int} (h1 : t.clo ≤ c) (h2 : c ≤ t.chi) : Easier t ⟨t.homes, t.halls, t.seats, t.clo, c⟩ := by
  have := ht.call
  refine ⟨⟨ht.homes, ht.halls, ht.seats, ⟨by simp only; omega, h1, by simp only; omega⟩, ht.home, ht.hall⟩, rfl, rfl, Int.le_refl _, fun i hi => ⟨⟨rfl, rfl⟩, ?_, Int.le_refl _⟩, fun i hi => ⟨⟨Int.le_refl _, rfl⟩, fun a h => h⟩⟩
  have := Int.mul_le_mul_of_nonneg_left h2 (Int.natCast_nonneg t.homes.length)
  simp only [worstN]; omega
theorem easier_home {t : Town} (ht : TownOK t) {q : Nat} (hq : q < t.homes.length) {h : Home} (hok : HomeOK h) (h1 : h.people = (t.homes.getD q default).people) (h2 : h.pets = (t.homes.getD q default).pets) (h3 : h.hi + h.walk ≤ (t.homes.getD q default).hi + (t.homes.getD q default).walk) (h4 : (t.homes.getD q default).gone ≤ h.gone) : Easier t (setH t q h) := by
  have hl : (setH t q h).homes.length = t.homes.length := isp_length hq
  have hg : ∀ i, (setH t q h).homes.getD i default = if i = q then h else t.homes.getD i default := fun i => isp_getD hq
  have hc : (setH t q h).chi = t.chi := rfl
  refine ⟨⟨by rw [hl]; exact ht.homes, ht.halls, ht.seats, ht.call, fun i hi => ?_, ht.hall⟩, hl, rfl, Int.le_refl _, fun i hi => ?_, fun i hi => ⟨⟨Int.le_refl _, rfl⟩, fun a h => h⟩⟩
  · rw [hl] at hi
    rw [hg]; split
    · exact hok
    · exact ht.home i hi
  · unfold worstN
    rw [hg, hl, hc]; split
    · rename_i e; subst e
      exact ⟨⟨h1, h2⟩, by omega, h4⟩
    · exact ⟨⟨rfl, rfl⟩, Int.le_refl _, Int.le_refl _⟩
theorem easier_hall {t : Town} (ht : TownOK t) {k : Nat} (hk : k < t.halls.length) {l : Hall} (hok : HallOK l) (h1 : (t.halls.getD k default).room ≤ l.room) (h2 : l.drive = (t.halls.getD k default).drive) (h3 : ∀ a, andn a (t.halls.getD k default).pets = 0 → andn a l.pets = 0) : Easier t (setL t k l) := by
  have hl : (setL t k l).halls.length = t.halls.length := isp_length hk
  have hg : ∀ i, (setL t k l).halls.getD i default = if i = k then l else t.halls.getD i default := fun i => isp_getD hk
  refine ⟨⟨ht.homes, by rw [hl]; exact ht.halls, ht.seats, ht.call, ht.home, fun i hi => ?_⟩, rfl, hl, Int.le_refl _, fun i hi => ⟨⟨rfl, rfl⟩, Int.le_refl _, Int.le_refl _⟩, fun i hi => ?_⟩
  · rw [hl] at hi
    rw [hg]; split
    · exact hok
    · exact ht.hall i hi
  · rw [hg]; split
    · rename_i e; subst e
      exact ⟨⟨h1, h2⟩, h3⟩
    · exact ⟨⟨Int.le_refl _, rfl⟩, fun a h => h⟩
theorem wrap8 {v : BitVec IntKind.u8.bits} : IntKind.u8.wrap (v.toNat : Int) = v.toNat := by
  have := v.isLt
  simp only [IntKind.bits] at this
  simp only [IntKind.wrap, IntKind.signed, IntKind.bits, Bool.false_and, Bool.false_eq_true, if_false]
  omega
theorem andn_or {a b c : Int} (h : andn a b = 0) : andn a (orP b c) = 0 := by
  unfold andn orP at *
  rw [wrap8] at *
  rw [wrap8]
  have e : BitVec.ofInt IntKind.u8.bits ((BitVec.ofInt IntKind.u8.bits b ||| BitVec.ofInt IntKind.u8.bits c).toNat : Int) = BitVec.ofInt IntKind.u8.bits b ||| BitVec.ofInt IntKind.u8.bits c := by
    rw [BitVec.ofInt_natCast, BitVec.ofNat_toNat, BitVec.setWidth_eq]
  rw [e]
  generalize BitVec.ofInt IntKind.u8.bits a = A at *
  generalize BitVec.ofInt IntKind.u8.bits b = B at *
  generalize BitVec.ofInt IntKind.u8.bits c = C at *
  have hz : A &&& ~~~B = 0 := by
    apply BitVec.eq_of_toNat_eq
    simpa using h
  have : A &&& ~~~(B ||| C) = 0 := by
    rw [BitVec.not_or, ← BitVec.and_assoc, hz]; simp
  rw [this]; simp
/-! ### One cell of a list of records -/
section
variable {α : Type} {enc : α → List AV} {sz : Nat} {l : List α} {d : α}
theorem sp_recs (he : ∀ a, (enc a).length = sz) {i o : Nat} (hi : i < l.length) (ho : o < sz) {v : AV} {a' : α} (h : enc a' = splice (enc (l.getD i d)) o [v]) : splice (recs enc l) (i * sz + o) [v] = recs enc (isp l i a') := by
  have e0 : recs enc l = recs enc (l.take i) ++ recs enc (l.drop i) := by
    show l.flatMap enc = (l.take i).flatMap enc ++ (l.drop i).flatMap enc
    rw [← List.flatMap_append, List.take_append_drop]
  have e1 : recs enc (l.drop i) = enc (l.getD i d) ++ recs enc (l.drop (i + 1)) := by rw [← recs_drop he, recs_at (d := d) he hi]
  have e2 : (recs enc (l.take i)).length = i * sz := by rw [recs_length he, List.length_take, Nat.min_eq_left (by omega)]
  have e3 := he (l.getD i d)
  have e4 : recs enc (isp l i a') = recs enc (l.take i) ++ (enc a' ++ recs enc (l.drop (i + 1))) := by simp [recs, isp]
  rw [e4, e0, e1, h]
  simp only [splice]
  generalize recs enc (l.take i) = A at *
  generalize enc (l.getD i d) = E at *
  generalize recs enc (l.drop (i + 1)) = B at *
  rw [← e2, ← List.append_assoc, List.take_append_of_le_length (by rw [List.length_append]; omega), List.take_length_add_append, List.drop_append_of_le_length (by rw [List.length_append, List.length_singleton]; omega), show A.length + o + [v].length = A.length + (o + [v].length) by omega, List.drop_length_add_append]
  simp only [List.append_assoc]
end
end Go.Am

/- What the law AwayEasier leans on. -/
namespace Go.Am
open Go.RowKit Go.Proofs
set_option linter.unusedSimpArgs false
set_option linter.unusedVariables false

theorem tmod_bd {a b : Int} (h : 0 ≤ a) (hb : 0 < b) : 0 ≤ a.tmod b ∧ a.tmod b < b := ⟨Int.tmod_nonneg b h, Int.tmod_lt_of_pos a hb⟩
theorem at_mod {a : Int} {n : Nat} (h : 0 ≤ a) (hn : 0 < n) : ∃ q : Nat, q < n ∧ a.tmod (n : Int) = (q : Int) :=
  ⟨a.toNat % n, Nat.mod_lt _ hn, by
    conv => lhs; rw [show a = ((a.toNat : Nat) : Int) by omega]
    rfl⟩
theorem ready_ok {t : Town} (h : readyB t = true) : townOK t ∧ faultT t = 0 := by
  simp only [readyB, Bool.and_eq_true, decide_eq_true_eq] at h
  exact ⟨(thinB_ok h.1).1, h.2⟩
theorem planL_sh2 {t : Town} (h0 : faultT t = 0) : PlanS (planL t) := by
  have ht := faultT_zero h0
  refine ⟨by have := planF_le (t := t) 256 (stBeg t t.homes.length t.halls.length); unfold planL; omega, fun b hb => ?_⟩
  have := planF_short ht 256 _ (stBeg_ok ht (Nat.le_refl _)) b hb
  omega
theorem planE_nine {t : Town} (h0 : faultT t = 0) (h : planE t ≠ 0) : planE t = 9 := by
  rw [planE_few h0] at h ⊢
  split at h
  · rename_i h1; rw [if_pos h1]
  · exact absurd rfl h
theorem easier_prove {t x : Town} (h0 : faultT t = 0) (hX : Easier t x) (plan : List Bus) (h : proveB t plan = true) : proveB x plan = true := by
  have hx0 := townOK_fault hX.ok
  unfold proveB at h ⊢
  simp only [Bool.and_eq_true, decide_eq_true_eq, h0, hx0, true_and] at h ⊢
  exact easier_right (faultT_zero h0) hX h
theorem bin_or {P : Program} {t : TypeId} {a b : Int} {K : AV → Prop} : binK P .or t (.int .u8 a) (.int .u8 b) K = K (.int .u8 (orP a b)) := by simp [binK, binInt, bits, orP]
instance {l : List Home} : Still (recs homeC l) := ⟨fun y hy => by
  simp only [recs, List.mem_flatMap] at hy
  obtain ⟨h, _, hy⟩ := hy
  simp only [homeC, List.mem_cons, List.not_mem_nil, or_false] at hy
  rcases hy with rfl | rfl | rfl | rfl | rfl | rfl <;> rfl⟩
instance {l : List Hall} : Still (recs hallC l) := ⟨fun y hy => by
  simp only [recs, List.mem_flatMap] at hy
  obtain ⟨h, _, hy⟩ := hy
  simp only [hallC, List.mem_cons, List.not_mem_nil, or_false] at hy
  rcases hy with rfl | rfl | rfl <;> rfl⟩
end Go.Am
