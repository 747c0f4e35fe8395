/- The abstract machine Am, part X7: types that are compared cell by cell; functions that are entered. -/
import Derived.Test.YtnjommobapmgbaaX6
import Derived.ChangeKeysEq
namespace Go.Am
open Go.RowKit

/-- Cells as a value of a type. -/
def Val (P : Program) (t : TypeId) (us : List Value) (v : Value) : Prop := (tagg P t = some true ∧ v = .agg us.toArray) ∨ (tagg P t = some false ∧ us = [v])
/-- Cells that are numbers and bools. -/
def SV (xs : List AV) (us : List Value) : Prop := xs.mapM scalVal = some us

theorem sv_nil {us : List Value} : SV [] us ↔ us = [] := by simp [SV, eq_comm]
theorem sv_cons {x : AV} {xs : List AV} {us : List Value} : SV (x :: xs) us ↔ ∃ u vs, scalVal x = some u ∧ SV xs vs ∧ us = u :: vs := by
  simp only [SV, List.mapM_cons, Option.bind_eq_bind, Option.bind_eq_some_iff, Option.pure_def, Option.some.injEq]
  constructor
  · rintro ⟨u, hu, vs, hv, rfl⟩; exact ⟨u, vs, hu, hv, rfl⟩
  · rintro ⟨u, vs, hu, hv, rfl⟩; exact ⟨u, hu, vs, hv, rfl⟩
theorem SV.length : ∀ {xs : List AV} {us : List Value}, SV xs us → us.length = xs.length
  | [], us, h => by rw [sv_nil.1 h]; rfl
  | x :: xs, us, h => by obtain ⟨u, vs, _, hv, rfl⟩ := sv_cons.1 h; simp [hv.length]
theorem SV.drop : ∀ (n : Nat) {xs : List AV} {us : List Value}, SV xs us → SV (xs.drop n) (us.drop n)
  | 0, xs, us, h => by simpa using h
  | n + 1, [], us, h => by rw [sv_nil.1 h]; simpa using sv_nil.2 rfl
  | n + 1, x :: xs, us, h => by
    obtain ⟨u, vs, _, hv, rfl⟩ := sv_cons.1 h
    simpa using hv.drop n
theorem SV.take : ∀ (n : Nat) {xs : List AV} {us : List Value}, SV xs us → SV (xs.take n) (us.take n)
  | 0, xs, us, h => by simpa using sv_nil.2 rfl
  | n + 1, [], us, h => by rw [sv_nil.1 h]; simpa using sv_nil.2 rfl
  | n + 1, x :: xs, us, h => by
    obtain ⟨u, vs, hu, hv, rfl⟩ := sv_cons.1 h
    simp only [List.take_succ_cons]
    exact sv_cons.2 ⟨u, _, hu, hv.take n, rfl⟩

theorem scalEq_split : ∀ (n : Nat) {xs ys : List AV} {b : Bool}, scalEq xs ys = some b → ∃ b1 b2, scalEq (xs.take n) (ys.take n) = some b1 ∧ scalEq (xs.drop n) (ys.drop n) = some b2 ∧ b = (b1 && b2)
  | 0, xs, ys, b, h => ⟨true, b, by simp [scalEq], by simpa using h, by simp⟩
  | n + 1, xs, ys, b, h => by
    match xs, ys with
    | [], [] => simp only [scalEq, Option.some.injEq] at h; subst h; exact ⟨true, true, by simp [scalEq], by simp [scalEq], rfl⟩
    | x :: xs, [] => cases x <;> simp [scalEq] at h
    | [], y :: ys => simp [scalEq] at h
    | x :: xs, y :: ys =>
      cases x <;> cases y <;> simp only [scalEq, reduceCtorEq] at h
      case int.int k a k' a' =>
        split at h
        · rename_i hk
          obtain ⟨c, hc, rfl⟩ := map_some h
          obtain ⟨b1, b2, h1, h2, rfl⟩ := scalEq_split n hc
          exact ⟨decide (a = a') && b1, b2, by simp [scalEq, hk, h1], by simpa using h2, by simp [Bool.and_assoc]⟩
        · cases h
      case bool.bool a a' =>
        obtain ⟨c, hc, rfl⟩ := map_some h
        obtain ⟨b1, b2, h1, h2, rfl⟩ := scalEq_split n hc
        exact ⟨(a == a') && b1, b2, by simp [scalEq, h1], by simpa using h2, by simp [Bool.and_assoc]⟩

section
variable {P : Program}
theorem part_val {t : TypeId} {b : Bool} {n off : Nat} {us : List Value} (ht : tagg P t = some b) (hs : tsz P t = some n) (hn : b = false → n = 1) (hl : off + n ≤ us.length) (w : World) :
    ∃ v, (part t us.toArray off).run P w = .ok v w ∧ Val P t ((us.drop off).take n) v := by
  have hi : ∃ i, P.info? t = some i ∧ i.size = n := by
    unfold tsz at hs; exact Option.map_eq_some_iff.1 hs
  obtain ⟨i, hi, hin⟩ := hi
  unfold part
  cases b
  · have hn1 := hn rfl
    subst hn1
    have hlt : off < us.length := by omega
    refine ⟨us[off], ?_, .inr ⟨ht, ?_⟩⟩
    · simp only [Sem.run_bind, tagg_spec ht, Result.andThen_ok, Bool.false_eq_true, if_false]
      simp [hlt]
    · rw [List.drop_eq_getElem_cons hlt]; rfl
  · refine ⟨.agg ((us.drop off).take n).toArray, ?_, .inl ⟨ht, rfl⟩⟩
    simp only [Sem.run_bind, tagg_spec ht, Result.andThen_ok, if_true, run_sizeOf w hi, Sem.run_pure]
    have : P.cellsOf t = n := by simp [Program.cellsOf, hi, hin]
    rw [this]
    simp [List.take_drop, Nat.add_comm]

/-- What a type of numbers and bools says of two values. -/
def EqVal (P : Program) (d : Nat) (t : TypeId) (bs : List Bool) : Prop := ∀ (k : Nat) (xs ys : List AV) (us vs : List Value) (u v : Value) (b : Bool) (w : World), xs.map kindB = bs → ys.map kindB = bs → SV xs us → SV ys vs → Val P t us u → Val P t vs v → scalEq xs ys = some b →
  (Op.equalIn (d + k) t u v).run P w = .ok b w

theorem flat_info {d : Nat} {t : TypeId} {bs : List Bool} (h : flatT P d t = some bs) : ∃ b, tagg P t = some b ∧ tsz P t = some bs.length ∧ (b = false → bs.length = 1) := by
  cases d with
  | zero => simp [flatT] at h
  | succ d =>
    simp only [flatT] at h
    split at h
    · split at h
      · rename_i hc; cases h; exact ⟨false, hc.1, hc.2, fun _ => rfl⟩
      · cases h
    · split at h
      · rename_i hc; cases h; exact ⟨false, hc.1, hc.2, fun _ => rfl⟩
      · cases h
    · split at h
      · rename_i hc
        split at h
        · split at h
          · rename_i hs; cases h; exact ⟨true, hc.2, hs, by simp⟩
          · cases h
        · cases h
      · cases h
    · split at h
      · rename_i hc
        split at h
        · split at h
          · rename_i hs; cases h; exact ⟨true, hc, by rw [hs]; simp, by simp⟩
          · cases h
        · cases h
      · cases h
    · cases h

theorem take_map {xs : List AV} {l bs : List Bool} {off : Nat} (h : (xs.drop off).map kindB = l ++ bs) : ((xs.drop off).take l.length).map kindB = l ∧ (xs.drop (off + l.length)).map kindB = bs ∧ off + l.length ≤ xs.length ∨ (l = [] ∧ ((xs.drop off).take l.length).map kindB = l ∧ (xs.drop (off + l.length)).map kindB = bs) := by
  have h1 : ((xs.drop off).take l.length).map kindB = l := by rw [List.map_take, h, List.take_left]
  have h2 : (xs.drop (off + l.length)).map kindB = bs := by rw [← List.drop_drop, List.map_drop, h, List.drop_left]
  cases l with
  | nil => exact .inr ⟨rfl, h1, h2⟩
  | cons x l =>
    refine .inl ⟨h1, h2, ?_⟩
    have := congrArg List.length h
    simp at this
    simp
    omega

theorem eqFields_flat {d : Nat} (ih : ∀ t bs, flatT P d t = some bs → EqVal P d t bs) (k : Nat) (xs ys : List AV) (us vs : List Value) (hx : SV xs us) (hy : SV ys vs) (w : World) : ∀ (fs : List Field) (off : Nat) (bs : List Bool) (b : Bool),
    flatF (flatT P d) fs off = some bs → (xs.drop off).map kindB = bs → (ys.drop off).map kindB = bs → off ≤ xs.length → off ≤ ys.length → scalEq (xs.drop off) (ys.drop off) = some b → (Op.eqFields (d + k) us.toArray vs.toArray fs).run P w = .ok b w
  | [], off, bs, b, hf, h1, h2, _, _, hb => by
    simp only [flatF, Option.some.injEq] at hf
    subst hf
    rw [List.map_eq_nil_iff.1 h1, List.map_eq_nil_iff.1 h2] at hb
    simp only [scalEq, Option.some.injEq] at hb
    subst hb
    simp [Op.eqFields]
  | f :: fs, off, bs, b, hf, hbx, hby, ox, oy, hb => by
    simp only [flatF] at hf
    split at hf
    · rename_i hc
      obtain ⟨hname, rfl⟩ := hc
      split at hf
      · rename_i l hcf
        obtain ⟨bs', hfs, rfl⟩ := map_some hf
        obtain ⟨b1, b2, h1, h2, rfl⟩ := scalEq_split l.length hb
        rw [List.drop_drop, List.drop_drop] at h2
        have lenx := congrArg List.length hbx
        have leny := congrArg List.length hby
        simp only [List.length_map, List.length_drop, List.length_append] at lenx leny
        have kx : ((xs.drop f.offset).take l.length).map kindB = l := by rw [List.map_take, hbx, List.take_left]
        have ky : ((ys.drop f.offset).take l.length).map kindB = l := by rw [List.map_take, hby, List.take_left]
        have dx : (xs.drop (f.offset + l.length)).map kindB = bs' := by rw [← List.drop_drop, List.map_drop, hbx, List.drop_left]
        have dy : (ys.drop (f.offset + l.length)).map kindB = bs' := by rw [← List.drop_drop, List.map_drop, hby, List.drop_left]
        have hr := eqFields_flat ih k xs ys us vs hx hy w fs (f.offset + l.length) bs' b2 hfs dx dy (by omega) (by omega) h2
        obtain ⟨bb, g1, g2, g3⟩ := flat_info hcf
        have lx := hx.length
        have ly := hy.length
        obtain ⟨u, p1, p2⟩ := part_val (us := us) (off := f.offset) g1 g2 g3 (by omega) w
        obtain ⟨v, q1, q2⟩ := part_val (us := vs) (off := f.offset) g1 g2 g3 (by omega) w
        have he := ih f.type l hcf k _ _ _ _ u v b1 w kx ky ((hx.drop _).take _) ((hy.drop _).take _) p2 q2 h1
        have hname' : f.name ≠ "_" := by simpa using hname
        simp only [Op.eqFields, hname', ne_eq, not_false_eq_true, if_true, Sem.run_bind, p1, q1, he, Result.andThen_ok]
        cases b1
        · simp
        · simpa using hr
      · cases hf
    · cases hf

theorem eqItems_flat {d : Nat} {e : TypeId} {l : List Bool} (he : flatT P d e = some l) (ih : EqVal P d e l) (k : Nat) (xs ys : List AV) (us vs : List Value) (hx : SV xs us) (hy : SV ys vs) (w : World) : ∀ (n i : Nat) (b : Bool),
    (xs.drop (i * l.length)).map kindB = (List.replicate n l).flatten → (ys.drop (i * l.length)).map kindB = (List.replicate n l).flatten → i * l.length ≤ xs.length → i * l.length ≤ ys.length → scalEq (xs.drop (i * l.length)) (ys.drop (i * l.length)) = some b → (Op.eqItems (d + k) e (P.cellsOf e) us.toArray vs.toArray (List.range' i n)).run P w = .ok b w
  | 0, i, b, h1, h2, _, _, hb => by
    simp only [List.replicate_zero, List.flatten_nil, List.map_eq_nil_iff] at h1 h2
    rw [h1, h2] at hb
    simp only [scalEq, Option.some.injEq] at hb
    subst hb
    simp [Op.eqItems]
  | n + 1, i, b, hbx, hby, ox, oy, hb => by
    obtain ⟨b1, b2, h1, h2, rfl⟩ := scalEq_split l.length hb
    have hi1 : i * l.length + l.length = (i + 1) * l.length := by rw [Nat.add_mul, Nat.one_mul]
    rw [List.drop_drop, List.drop_drop, hi1] at h2
    rw [List.replicate_succ, List.flatten_cons] at hbx hby
    have lenx := congrArg List.length hbx
    have leny := congrArg List.length hby
    simp only [List.length_map, List.length_drop, List.length_append] at lenx leny
    have kx : ((xs.drop (i * l.length)).take l.length).map kindB = l := by rw [List.map_take, hbx, List.take_left]
    have ky : ((ys.drop (i * l.length)).take l.length).map kindB = l := by rw [List.map_take, hby, List.take_left]
    have dx : (xs.drop ((i + 1) * l.length)).map kindB = (List.replicate n l).flatten := by rw [← hi1, ← List.drop_drop, List.map_drop, hbx, List.drop_left]
    have dy : (ys.drop ((i + 1) * l.length)).map kindB = (List.replicate n l).flatten := by rw [← hi1, ← List.drop_drop, List.map_drop, hby, List.drop_left]
    have hr := eqItems_flat he ih k xs ys us vs hx hy w n (i + 1) b2 dx dy (by omega) (by omega) h2
    obtain ⟨bb, g1, g2, g3⟩ := flat_info he
    have hcell : P.cellsOf e = l.length := by
      unfold tsz at g2
      obtain ⟨ii, hi, hin⟩ := Option.map_eq_some_iff.1 g2
      simp [Program.cellsOf, hi, hin]
    have lx := hx.length
    have ly := hy.length
    obtain ⟨u, p1, p2⟩ := part_val (us := us) g1 g2 g3 (off := i * l.length) (by omega) w
    obtain ⟨v, q1, q2⟩ := part_val (us := vs) g1 g2 g3 (off := i * l.length) (by omega) w
    have hq := ih k _ _ _ _ u v b1 w kx ky ((hx.drop _).take _) ((hy.drop _).take _) p2 q2 h1
    rw [hcell] at hr ⊢
    simp only [List.range'_succ, Op.eqItems, Sem.run_bind, p1, q1, hq, Result.andThen_ok]
    cases b1
    · simp
    · simpa using hr

theorem flat_eq : ∀ (d : Nat) (t : TypeId) (bs : List Bool), flatT P d t = some bs → EqVal P d t bs := by
  intro d
  induction d with
  | zero => intro t n h; simp [flatT] at h
  | succ d ih =>
    intro t bs h k xs ys us vs u v b w hxl hyl hx hy hu hv hb
    rw [show d + 1 + k = (d + k) + 1 by omega]
    have scal : ∀ z, tagg P t = some false → bs = [z] → ∃ x y, xs = [x] ∧ ys = [y] ∧ kindB x = z ∧ kindB y = z ∧ scalVal x = some u ∧ scalVal y = some v := by
      intro z ht hn
      subst hn
      have lx : xs.length = 1 := by have := congrArg List.length hxl; simpa using this
      have ly : ys.length = 1 := by have := congrArg List.length hyl; simpa using this
      match xs, ys, lx, ly with
      | [x], [y], _, _ =>
        obtain ⟨u', _, hu1, hu2, rfl⟩ := sv_cons.1 hx
        obtain ⟨v', _, hv1, hv2, rfl⟩ := sv_cons.1 hy
        rw [sv_nil.1 hu2] at hu
        rw [sv_nil.1 hv2] at hv
        rcases hu with ⟨h1, _⟩ | ⟨_, h1⟩
        · rw [ht] at h1; cases h1
        · rcases hv with ⟨h2, _⟩ | ⟨_, h2⟩
          · rw [ht] at h2; cases h2
          · cases h1; cases h2; exact ⟨x, y, rfl, rfl, by simpa using hxl, by simpa using hyl, hu1, hv1⟩
    simp only [flatT] at h
    split at h
    · rename_i q hq
      split at h
      · rename_i hc; cases h
        obtain ⟨x, y, rfl, rfl, k1, k2, h1, h2⟩ := scal _ hc.1 rfl
        cases x <;> cases y <;> simp only [scalEq, reduceCtorEq] at hb <;> simp only [scalVal, Option.some.injEq] at h1 h2 <;> subst h1 <;> subst h2
        · split at hb
          · rename_i hkk
            subst hkk
            simp only [Option.map_some, Bool.and_true, Option.some.injEq] at hb
            subst hb
            rw [run_equalIn_int w (d + k) t _ q _ _ hq]
            rfl
          · cases hb
        · simp [kindB] at k1
      · cases h
    · rename_i hq
      split at h
      · rename_i hc; cases h
        obtain ⟨x, y, rfl, rfl, k1, k2, h1, h2⟩ := scal _ hc.1 rfl
        cases x <;> cases y <;> simp only [scalEq, reduceCtorEq] at hb <;> simp only [scalVal, Option.some.injEq] at h1 h2 <;> subst h1 <;> subst h2
        · simp [kindB] at k1
        · simp only [Option.map_some, Bool.and_true, Option.some.injEq] at hb
          subst hb
          rw [run_equalIn_bool' w (d + k) t _ _ hq]
      · cases h
    · rename_i fs hfs
      split at h
      · rename_i hc
        split at h
        · rename_i l hn'
          split at h
          · rename_i hs; cases h
            rcases hu with ⟨_, rfl⟩ | ⟨h1, _⟩
            · rcases hv with ⟨_, rfl⟩ | ⟨h2, _⟩
              · have hfo : P.fieldsOf t = fs := by simp [Program.fieldsOf, hfs]
                rw [run_equalIn_struct w (d + k) t _ _ (by rw [hfo]; exact hfs) hc.1, hfo]
                exact eqFields_flat ih k xs ys us vs hx hy w fs.toList 0 bs b hn' (by simpa using hxl) (by simpa using hyl) (by omega) (by omega) (by simpa using hb)
              · rw [hc.2] at h2; cases h2
            · rw [hc.2] at h1; cases h1
          · cases h
        · cases h
      · cases h
    · rename_i m e hm
      split at h
      · rename_i hc
        split at h
        · rename_i l hce
          split at h
          · rename_i hs; cases h
            rcases hu with ⟨_, rfl⟩ | ⟨h1, _⟩
            · rcases hv with ⟨_, rfl⟩ | ⟨h2, _⟩
              · obtain ⟨_, _, g2, _⟩ := flat_info hce
                unfold tsz at g2
                obtain ⟨ii, hi, hin⟩ := Option.map_eq_some_iff.1 g2
                rw [run_equalIn_array w (d + k) _ _ hm hi]
                have := eqItems_flat hce (ih e l hce) k xs ys us vs hx hy w m 0 b (by simpa using hxl) (by simpa using hyl) (by omega) (by omega) (by simpa using hb)
                rwa [List.range_eq_range']
              · rw [hc] at h2; cases h2
            · rw [hc] at h1; cases h1
          · cases h
        · cases h
      · cases h
    · cases h

/-- EVERY TYPE. -/
theorem eqOK (t : TypeId) : EqOK P t := by
  refine ⟨fun bs h => ?_, fun xs ys us vs b w hx hy kx ky hb => ?_⟩
  · unfold tkb at h
    split at h
    · rename_i hg; exact hg.1
    · cases h
  · unfold tkb at kx ky
    split at kx
    · rename_i hg
      have ky' : flatT P 8 t = some (ys.map kindB) := by simpa [hg] using ky
      exact flat_eq 8 t _ kx 9992 xs ys us vs (.agg us.toArray) (.agg vs.toArray) b w rfl (by rw [kx] at ky'; exact (Option.some.inj ky').symm) hx hy (.inl ⟨hg.2, rfl⟩) (.inl ⟨hg.2, rfl⟩) hb
    · cases kx

/-- A function that has a body is entered. -/
def entB (P : Program) (f : FuncId) : Bool := match P.funcs[f]? with
  | some fn => (!(fn.name == "runtime.NumGoroutine")) && fn.body.isSome
  | none => false
theorem enters_of {f : FuncId} (h : entB P f = true) : Enters P f := by
  intro w args
  unfold entB at h
  split at h
  · rename_i fn hfn
    simp only [Bool.and_eq_true, Bool.not_eq_true'] at h
    obtain ⟨h1, h2⟩ := h
    have h4 : ¬ (fn.name = "runtime.NumGoroutine") := by simpa using h1
    have h5 : ¬ (fn.body = none) := by intro e; rw [e] at h2; cases h2
    simp [callFunc, run_program, Sem.run_bind, hfn, h4, h5]
  · cases h
end
end Go.Am
