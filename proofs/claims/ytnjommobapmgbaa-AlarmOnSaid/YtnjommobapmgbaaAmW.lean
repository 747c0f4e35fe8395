/- The abstract machine Am, part W: the rewriting of 'this state says less'; loops that count. -/
import Derived.Test.YtnjommobapmgbaaAmV
import Derived.Test.YtnjommobapmgbaaX5
namespace Go.Am
set_option linter.unusedSimpArgs false
set_option linter.unusedVariables false
open Go.RowKit

/-- A list of temporaries, of which some are told. -/
def putT : List AV → List (Nat × AV) → List AV
  | T, [] => T
  | T, (j, x) :: l => putT (lset T j x) l
def mkT (n : Nat) (l : List (Nat × AV)) : List AV := putT (junks n) l
theorem mkT_def {n : Nat} {l : List (Nat × AV)} : mkT n l = putT (junks n) l := nrfl rfl

section
variable {p : Nat → Bool} {x y : AV} {xs ys : List AV} {a b : Int} {k : IntKind} {n n' : Nat} {f f' : Bool}
theorem av_j : avSub x .junk = True := nrfl rfl
theorem av_int : avSub (.int k a) (.int k b) = (a = b) := by simp [avSub]
theorem av_bool : avSub (.bool f) (.bool f') = (f = f') := by simp [avSub]
theorem av_nils : avSub .nils .nils = True := by simp [avSub]
theorem av_nilp : avSub .nilp .nilp = True := by simp [avSub]
theorem av_nilm : avSub .nilm .nilm = True := by simp [avSub]
theorem av_nilf : avSub .nilf .nilf = True := by simp [avSub]
theorem av_ptr {c g o c' g' o' : Nat} : avSub (.ptr c g o) (.ptr c' g' o') = (c = c' ∧ g = g' ∧ o = o') := by simp [avSub]
theorem av_osl {c g o l c' g' o' l' : Nat} : avSub (.osl c g o l) (.osl c' g' o' l') = (c = c' ∧ g = g' ∧ o = o' ∧ l = l') := by simp [avSub]
theorem av_map {c c' : Nat} : avSub (.map c) (.map c') = (c = c') := by simp [avSub]
theorem av_pptr : avSub (.pptr xs n) (.pptr ys n') = (xs = ys ∧ n = n') := by simp [avSub]
theorem av_psl : avSub (.psl f n xs) (.psl false n' ys) = (n = n' ∧ xs = ys) := by cases f <;> simp [avSub]
theorem av_pslt : avSub (.psl true n xs) (.psl true n' ys) = (n = n' ∧ xs = ys) := by simp [avSub]
theorem av_ns : avSub .nils (.psl f n ys) = (n = 0 ∧ ys = []) := by simp [avSub]
theorem av_agg : avSub (.agg xs) (.agg ys) = (xs = ys) := by simp [avSub]
theorem av_tup : avSub (.tup xs) (.tup ys) = (xs = ys) := by simp [avSub]
theorem av_fn {g g' : Fn} {us vs : List AV} : avSub (.fn g xs ys) (.fn g' us vs) = (g = g' ∧ xs = us ∧ ys = vs) := by simp [avSub]
theorem lv_j : live2 p .junk = true := nrfl rfl
theorem lv_int : live2 p (.int k a) = true := nrfl rfl
theorem lv_bool : live2 p (.bool f) = true := nrfl rfl
theorem lv_nils : live2 p .nils = true := nrfl rfl
theorem lv_nilp : live2 p .nilp = true := nrfl rfl
theorem lv_nilm : live2 p .nilm = true := nrfl rfl
theorem lv_nilf : live2 p .nilf = true := nrfl rfl
theorem lv_psl : live2 p (.psl f n xs) = true := nrfl rfl
theorem lv_pptr : live2 p (.pptr xs n) = true := nrfl rfl
theorem lv_ptr {c g o : Nat} : live2 p (.ptr c g o) = p c := nrfl rfl
theorem lv_osl {c g o l : Nat} : live2 p (.osl c g o l) = p c := nrfl rfl
theorem lv_map {c : Nat} : live2 p (.map c) = p c := nrfl rfl
theorem lv_agg : live2 p (.agg xs) = xs.all (live1 p) := nrfl rfl
theorem lv_tup : live2 p (.tup xs) = xs.all (live1 p) := nrfl rfl
theorem lv_fn {g : FuncId} : live2 p (.fn (.func g) xs ys) = (xs.all (live1 p) && ys.all (live1 p)) := nrfl rfl
theorem l1_int : live1 p (.int k a) = true := nrfl rfl
theorem l1_bool : live1 p (.bool f) = true := nrfl rfl
theorem l1_nils : live1 p .nils = true := nrfl rfl
theorem l1_nilm : live1 p .nilm = true := nrfl rfl
theorem l1_psl : live1 p (.psl f n xs) = true := nrfl rfl
theorem l1_pptr : live1 p (.pptr xs n) = true := nrfl rfl
theorem l1_ptr {c g o : Nat} : live1 p (.ptr c g o) = p c := nrfl rfl
theorem l1_osl {c g o l : Nat} : live1 p (.osl c g o l) = p c := nrfl rfl
theorem l1_map {c : Nat} : live1 p (.map c) = p c := nrfl rfl
theorem l1_agg : live1 p (.agg xs) = xs.all (live0 p) := nrfl rfl
theorem l0_int : live0 p (.int k a) = true := nrfl rfl
theorem l0_bool : live0 p (.bool f) = true := nrfl rfl
theorem l0_psl : live0 p (.psl f n xs) = true := nrfl rfl
theorem l0_nils : live0 p .nils = true := nrfl rfl
theorem li_s {H : List (Option ABlk)} {c : Nat} : liveIn H c = (hget H c).isSome := nrfl rfl
theorem is_s {K : ABlk} : (some K).isSome = true := nrfl rfl
theorem lt_n : leT p [] [] = True := nrfl rfl
theorem lt_c : leT p (x :: xs) (y :: ys) = ((avSub x y ∧ live2 p y = true) ∧ leT p xs ys) := nrfl rfl
theorem lh_n {H : List (Option ABlk)} : leH p H [] = True := by cases H <;> rfl
theorem lh_0 {o : Option ABlk} {H H' : List (Option ABlk)} : leH p (o :: H) (none :: H') = leH p H H' := by simp [leH]
theorem lh_s {o : Option ABlk} {K : ABlk} {H H' : List (Option ABlk)} : leH p (o :: H) (some K :: H') = ((o = some K ∧ blkLive p K = true) ∧ leH p H H') := by simp [leH]
theorem bl_c {t : TypeId} {sz g : Nat} : blkLive p (.cells t sz g xs) = xs.all (live2 p) := nrfl rfl
theorem bl_m {es : List (AV × AV)} : blkLive p (.map es) = es.all (fun e => live2 p e.1 && live2 p e.2) := nrfl rfl
theorem bl_d : blkLive p (.dfr f) = true := nrfl rfl
theorem al_ints {l : List Int} : (ints l).all (live2 p) = true := by
  simp only [ints, List.all_map, List.all_eq_true]
  intro z _; rfl
theorem le2_s {T T' : List AV} {H H' : List (Option ABlk)} {D : List Nat} : Le2 [] ⟨T, H, D⟩ ⟨T', H', D⟩ = (leT (liveIn H') T T' ∧ leH (liveIn H') H H' ∧ ∀ d ∈ D, liveIn H' d = true) := by
  simp [Le2]
theorem fd_n {P : Nat → Prop} : (∀ d ∈ ([] : List Nat), P d) = True := by simp
theorem fd_c {P : Nat → Prop} {c : Nat} {l : List Nat} : (∀ d ∈ c :: l, P d) = (P c ∧ ∀ d ∈ l, P d) := by simp
theorem mk_n {T : List AV} : putT T [] = T := nrfl rfl
theorem mk_c {T : List AV} {j : Nat} {l : List (Nat × AV)} : putT T ((j, x) :: l) = putT (lset T j x) l := nrfl rfl
theorem ju_s : junks (n + 1) = .junk :: junks n := nrfl rfl
theorem ju_0 : junks 0 = [] := nrfl rfl
theorem and_t {c d : Bool} : ((c && d) = true) = (c = true ∧ d = true) := by simp
attribute [go_sem] av_j av_int av_bool av_nils av_nilp av_nilm av_nilf av_ptr av_osl av_map av_pptr av_psl av_pslt av_ns av_agg av_tup av_fn lv_j lv_int lv_bool lv_nils lv_nilp lv_nilm lv_nilf lv_psl lv_pptr lv_ptr lv_osl lv_map lv_agg lv_tup lv_fn l1_int l1_bool l1_nils l1_nilm l1_psl l1_pptr l1_ptr l1_osl l1_map l1_agg l0_int l0_bool l0_psl l0_nils li_s is_s lt_n lt_c lh_n lh_0 lh_s bl_c bl_m bl_d al_ints le2_s fd_n fd_c mkT_def mk_n mk_c ju_s ju_0 and_t List.all_cons List.all_nil Option.isSome_some Option.some.injEq ABlk.cells.injEq ABlk.map.injEq
end

theorem CallS.sub {P : Program} {f : FuncId} {xs ys : List AV} {r : AV} (h : CallS P f ys r) (hs : subL xs ys) : CallS P f xs r := by
  obtain ⟨hl, hj⟩ := subL_spec hs
  refine ⟨h.1, fun w vs ok hok hlen hrep => h.2 w vs ok hok (by omega) (fun j a b => prep_sub (hrep j (by omega) b) (hj j (by omega) a).1 (hj j (by omega) a).2)⟩
theorem go_split {P : Program} {all : Array Oper} {d : Option Tmp} {os : List Oper} {T : List AV} {H : List (Option ABlk)} {D : List Nat} {tr : List E} {K : St → List E → Prop} {b : Bool} {rd : List Nat}
    (h1 : b = true → goK P all d os T H D tr K (.bool true) rd) (h2 : b = false → goK P all d os T H D tr K (.bool false) rd) : goK P all d os T H D tr K (.bool b) rd := by
  rw [go_var]; exact ⟨h1, h2⟩
section
variable [Base] {P : Program} {w0 : World} {r : Option Nat} {X : List (AV × Value)} {s : St} {Q : Exit → St → Prop} {c : Code}
theorem awp_label {l : Nat} (h : Q .normal s) : AWP P w0 r X (.label l) s Q := fun _ _ hs => wpIn_label ⟨s, h, hs⟩
def scopeQ (Q : Exit → St → Prop) : Exit → St → Prop
  | .goto _, _ => False
  | e, s => Q e s
theorem awp_scope {c : Code} (h : AWP P w0 r X c s (scopeQ Q)) : AWP P w0 r X (.scope c) s Q := by
  intro ac w hs
  refine wpIn_scope (wpIn_mono (h ac w hs) ?_)
  rintro e a' w' ⟨s', h1, h2⟩
  cases e with
  | goto l => exact h1.elim
  | normal => exact ⟨by simp, s', h1, h2⟩
  | exit i => exact ⟨by simp, s', h1, h2⟩
  | ret => exact ⟨by simp, s', h1, h2⟩
  | panic c => exact ⟨by simp, s', h1, h2⟩
  | outgrown => exact ⟨by simp, s', h1, h2⟩
omit [Base] in
theorem scope_n : scopeQ Q .normal s = Q .normal s := nrfl rfl
omit [Base] in
theorem scope_r : scopeQ Q .ret s = Q .ret s := nrfl rfl
omit [Base] in
theorem scope_e {i : Nat} : scopeQ Q (.exit i) s = Q (.exit i) s := nrfl rfl
attribute [go_sem] scope_n scope_r scope_e
/-- What is still to be walked, under a shut name. -/
def Kt (P : Program) (w0 : World) (r : Option Nat) (X : List (AV × Value)) (c : Code) (Q : Exit → St → Prop) (s : St) : Prop := AWP P w0 r X c s Q
theorem kt (h : AWP P w0 r X c s Q) : Kt P w0 r X c Q s := h
theorem awp_seqK {a b : Code} (h : AWP P w0 r X a s (thenQ (Kt P w0 r X b Q) Q)) : AWP P w0 r X (.seq a b) s Q := awp_seq fun _ hK => AWP.mono h fun e s' hq => by
  cases e with
  | normal => exact hK _ hq
  | exit id => exact hq
  | goto l => exact hq
  | ret => exact hq
  | panic c => exact hq
  | outgrown => exact hq
@[congr] theorem Kt_congr : Kt P w0 r X c Q s = Kt P w0 r X c Q s := nrfl rfl
@[congr] theorem AWP_congr : AWP P w0 r X c s Q = AWP P w0 r X c s Q := nrfl rfl
/-- A loop that counts up to n. -/
theorem awp_loopN (n : Nat) (I : Nat → St) (h0 : Imp w0 X s (I 0))
    (round : ∀ i, i ≤ n → AWP P w0 r X c (I i) (thenQ (fun s' => i < n ∧ Imp w0 X s' (I (i + 1))) Q)) : AWP P w0 r X (.loop c) s Q := by
  refine awp_loopI (γ := { i : Nat // i ≤ n }) (fun g => I g.1) (fun g => n - g.1) ⟨0, Nat.zero_le _⟩ h0 ?_
  rintro ⟨i, hi⟩
  refine AWP.mono (round i hi) fun e s' hq => ?_
  cases e with
  | normal => exact ⟨⟨i + 1, hq.1⟩, by have := hq.1; simp only; omega, hq.2⟩
  | exit id => exact hq
  | goto l => exact hq
  | ret => exact hq
  | panic c => exact hq
  | outgrown => exact hq
/-- A loop whose heads are told by a ghost that is fit. -/
theorem awp_loopJ {γ : Type} (J : γ → Prop) (I : γ → St) (μ : γ → Nat) (g0 : γ) (hJ : J g0) (h0 : Imp w0 X s (I g0))
    (round : ∀ g, J g → AWP P w0 r X c (I g) (thenQ (fun s' => ∃ g', J g' ∧ μ g' < μ g ∧ Imp w0 X s' (I g')) Q)) : AWP P w0 r X (.loop c) s Q := by
  refine awp_loopI (γ := { g : γ // J g }) (fun g => I g.1) (fun g => μ g.1) ⟨g0, hJ⟩ h0 ?_
  rintro ⟨g, hg⟩
  refine AWP.mono (round g hg) fun e s' hq => ?_
  cases e with
  | normal => obtain ⟨g', h1, h2, h3⟩ := hq; exact ⟨⟨g', h1⟩, h2, h3⟩
  | exit id => exact hq
  | goto l => exact hq
  | ret => exact hq
  | panic c => exact hq
  | outgrown => exact hq
end

/-! ### Lists of records -/
/-- The cells of a list of records. -/
def recs {α : Type} (enc : α → List AV) (l : List α) : List AV := l.flatMap enc
section
variable {α : Type} {enc : α → List AV} {sz : Nat} {l : List α} {d : α}
theorem recs_length (he : ∀ a, (enc a).length = sz) : (recs enc l).length = l.length * sz := by
  induction l with
  | nil => simp [recs]
  | cons a l ih => simp only [recs, List.flatMap_cons, List.length_append, he, List.length_cons] at ih ⊢; rw [ih, Nat.add_mul]; omega
theorem recs_drop (he : ∀ a, (enc a).length = sz) : ∀ (i : Nat), (recs enc l).drop (i * sz) = recs enc (l.drop i) := by
  intro i
  induction i generalizing l with
  | zero => simp
  | succ i ih =>
    cases l with
    | nil => simp [recs]
    | cons a l =>
      have : (i + 1) * sz = (enc a).length + i * sz := by rw [he, Nat.add_mul]; omega
      rw [this]
      simp only [recs, List.flatMap_cons, List.drop_succ_cons]
      rw [← List.drop_drop, List.drop_left]
      exact ih (l := l)
theorem recs_at (he : ∀ a, (enc a).length = sz) {i : Nat} (hi : i < l.length) : (recs enc l).drop (i * sz) = enc (l.getD i d) ++ recs enc (l.drop (i + 1)) := by
  rw [recs_drop he, List.drop_eq_getElem_cons hi]
  simp only [recs, List.flatMap_cons]
  have : l.getD i d = l[i] := by simp [List.getD_eq_getElem?_getD, hi]
  rw [this]
theorem recs_window (he : ∀ a, (enc a).length = sz) {i : Nat} (hi : i < l.length) : window (recs enc l) (i * sz) sz = enc (l.getD i d) := by
  unfold window
  rw [recs_at (d := d) he hi, List.take_left' (he _)]
theorem recs_nth (he : ∀ a, (enc a).length = sz) {i o : Nat} (hi : i < l.length) (ho : o < sz) : nth (recs enc l) (i * sz + o) = nth (enc (l.getD i d)) o := by
  rw [← nth_is, ← nth_is]
  have : (recs enc l)[i * sz + o]? = ((recs enc l).drop (i * sz))[o]? := by rw [List.getElem?_drop]
  rw [this, recs_at (d := d) he hi, List.getElem?_append_left (by rw [he]; exact ho)]
theorem recs_pure (h : ∀ a, pureL (enc a)) : pureL (recs enc l) := by
  intro x hx
  obtain ⟨a, _, ha⟩ := List.mem_flatMap.1 hx
  exact h a x ha
theorem recs_live {p : Nat → Bool} (h : ∀ a, pureL (enc a)) : (recs enc l).all (live2 p) = true := by
  rw [List.all_eq_true]
  intro x hx
  have := recs_pure (l := l) h x hx
  cases x <;> simp only [cellPure, Bool.false_eq_true] at this <;> try rfl
  rename_i f xs ys
  cases f <;> simp only [cellPure, Bool.false_eq_true, Bool.and_eq_true, List.isEmpty_iff] at this
  obtain ⟨rfl, rfl⟩ := this
  rfl
theorem recs_snoc {a : α} : recs enc (l ++ [a]) = recs enc l ++ enc a := by simp [recs]
theorem recs_nil : recs enc [] = [] := rfl
end
end Go.Am
