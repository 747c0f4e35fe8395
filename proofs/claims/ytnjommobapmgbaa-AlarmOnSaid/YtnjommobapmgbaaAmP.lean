/- The abstract machine Am, part P: functions; lists that are changed no more (freeze), nil that is taken for a list of one's own (adopt). -/
import Derived.Test.YtnjommobapmgbaaAmO
namespace Go.Am
open Go.RowKit

/-- A result, as the caller may read it. -/
def out1 (h : Nat → Option ABlk) (x : AV) (K : AV → Prop) : Prop :=
  match x with
  | .osl b g off len => (match h b with
    | some (.cells _ _ g' xs) => g = g' ∧ off = 0 ∧ (∀ y ∈ xs, cellPure y = true) ∧ K (.psl false len xs)
    | _ => False)
  | x => cellPure x = true ∧ K x

def outL (h : Nat → Option ABlk) : List AV → (List AV → Prop) → Prop
  | [], K => K []
  | x :: xs, K => out1 h x fun y => outL h xs fun ys => K (y :: ys)

def outA (h : Nat → Option ABlk) (x : AV) (K : AV → Prop) : Prop :=
  match x with
  | .agg xs => outL h xs fun ys => K (.agg ys)
  | x => out1 h x K

def outs (h : Nat → Option ABlk) : List AV → (List AV → Prop) → Prop
  | [], K => K []
  | x :: xs, K => outA h x fun y => outs h xs fun ys => K (y :: ys)

def resK (P : Program) (s : St) : List ResultVar → (List AV → Prop) → Prop
  | [], K => K []
  | .tmp t :: rs, K => resK P s rs fun xs => K (lget s.T t :: xs)
  | .cell a t :: rs, K => match lget s.T a with
    | .ptr b g off => (match hget s.H b with
      | some (.cells _ _ g' xs) => g = g' ∧ loadK P t xs off fun v => resK P s rs fun vs => K (v :: vs)
      | _ => False)
    | _ => False

def finAV : List AV → AV
  | [x] => x
  | xs => .tup xs

/-- The marks of loops over functions are shut. -/
def shut (P : Program) : List Nat → St → (St → Prop) → Prop
  | [], s, K => K s
  | d :: ds, s, K => hget s.H d = some (.dfr true) ∧ shut P ds ⟨s.T, hset s.H d (.dfr false), ds⟩ K

/-- WHAT A FUNCTION's BODY COMES TO: the results. -/
def retQ (P : Program) (rs : List ResultVar) (R : AV → Prop) : Exit → St → Prop
  | .normal, s => shut P s.D s fun s => resK P s rs fun xs => outs (hget s.H) xs fun ys => R (finAV ys)
  | .ret, s => shut P s.D s fun s => resK P s rs fun xs => outs (hget s.H) xs fun ys => R (finAV ys)
  | _, _ => False

def resSem (tmps : Array Value) : ResultVar → Sem Value
  | .tmp t => pure (tmps.getD t undef)
  | .cell b t => do loadVar t (← asAddr (tmps.getD b undef))

variable [Base]
section
variable {P : Program} {w0 : World} {h : Nat → Option ABlk} {m : Nat → Option Loc} {w : World}

def OkB (w : World) (c : Nat) : Prop := Base.B c ∧ c < w.heap.size

theorem ok_okB {x : AV} {v : Value} (p : PRep (Ok m w) w x v) : PRep (OkB w) w x v := p.mono (fun _ _ => rfl) (fun _ hc => ⟨hc.2.2, hc.1⟩)

theorem one_of_pure {x : AV} {v : Value} (r : Rep h m w x v) (hx : cellPure x = true) : v.oneCell' = true := by
  have := prep_pure r hx
  cases this <;> first | rfl | simp [cellPure] at hx

/-- A list of one's own, read by whoever may look at it. -/
theorem osl_prep {b g len : Nat} {t : TypeId} {sz : Nat} {xs : List AV} {v : Value} (hg : Good w0 h m w) (hb : h b = some (.cells t sz g xs)) (hp : ∀ y ∈ xs, cellPure y = true) (hr : Rep h m w (.osl b g 0 len) v) {ok : Nat → Prop}
    (hok : ∀ c, Ok m w c → ok c) (hokb : ∀ l, m b = some l → ok l.c) : PRep ok w (.psl false len xs) v ∧ v.oneCell' = true := by
  rcases rep_osl hr hb with ⟨hm, _, rfl, rfl⟩ | ⟨l, cap, hm, rfl, hc1, hc2, hc3⟩
  · rcases hg.blk b _ hb with ⟨_, h2⟩ | ⟨l', arr, h2, _⟩
    · subst h2; exact ⟨.psle (Nat.le_refl _) (by simp) (by simp), rfl⟩
    · rw [hm] at h2; cases h2
  · obtain ⟨arr, hheap, hasz, hlen, vs, hvs, hcell, hrep⟩ := blk_cells hg hb hm
    exact ⟨.psl vs hc1 (by simp) (hokb l hm) hcell (fun j hj => (prep_pure (hrep j hj) (hp _ (List.getElem_mem _))).mono (fun _ _ => rfl) (fun c hc => hok c hc)), rfl⟩

theorem out1_sound {x : AV} {K : AV → Prop} (hk : out1 h x K) : ∃ y, K y ∧ ∀ {m : Nat → Option Loc} {w : World} {v : Value}, Good w0 h m w → Rep h m w x v → PRep (OkB w) w y v ∧ v.oneCell' = true := by
  have pure : cellPure x = true → K x → ∃ y, K y ∧ ∀ {m : Nat → Option Loc} {w : World} {v : Value}, Good w0 h m w → Rep h m w x v → PRep (OkB w) w y v ∧ v.oneCell' = true :=
    fun hc hK => ⟨x, hK, fun _ hr => ⟨ok_okB (prep_pure hr hc), one_of_pure hr hc⟩⟩
  cases x <;> simp only [out1] at hk
  case osl b g off len =>
    cases hb : h b with
    | none => simp [hb] at hk
    | some k =>
      cases k <;> simp only [hb] at hk
      case cells t sz g' xs =>
        obtain ⟨rfl, rfl, hp, hk⟩ := hk
        exact ⟨_, hk, fun hg hr => osl_prep hg hb hp hr (fun c hc => ⟨hc.2.2, hc.1⟩) (fun l hl => ⟨hg.fresh _ (hg.base b l hl), hg.lt hl⟩)⟩
      all_goals exact hk.elim
  all_goals exact pure hk.1 hk.2

theorem outL_sound : ∀ (xs : List AV) {K : List AV → Prop}, outL h xs K → ∃ ys, K ys ∧ ys.length = xs.length ∧ ∀ {m : Nat → Option Loc} {w : World} {us : List Value}, Good w0 h m w →
    xs.length = us.length → (∀ j (a : j < xs.length) (c : j < us.length), Rep h m w xs[j] us[j]) → (∀ u ∈ us, u.oneCell' = true) ∧ ∀ j (a : j < ys.length) (c : j < us.length), PRep (OkB w) w ys[j] us[j]
  | [], K, hk => ⟨[], hk, rfl, fun {m w us} _ hl _ => by
      have : us = [] := List.eq_nil_of_length_eq_zero (by simpa using hl.symm)
      subst this
      exact ⟨by simp, fun j a => by simp at a⟩⟩
  | x :: xs, K, hk => by
    obtain ⟨y, hk, hy⟩ := out1_sound (w0 := w0) hk
    obtain ⟨ys, hk, hyl, hys⟩ := outL_sound xs hk
    refine ⟨y :: ys, hk, by simp [hyl], fun {m w us} hg hl hr => ?_⟩
    cases us with
    | nil => simp at hl
    | cons u us =>
      have h0 := hy hg (hr 0 (by simp) (by simp))
      have h1 := hys hg (by simpa using hl) (fun j a c => hr (j + 1) (by simpa using a) (by simpa using c))
      refine ⟨fun v hv => ?_, fun j a c => ?_⟩
      · rcases List.mem_cons.1 hv with rfl | hv
        · exact h0.2
        · exact h1.1 v hv
      · cases j with
        | zero => exact h0.1
        | succ j => exact h1.2 j (by simpa using a) (by simpa using c)

theorem outA_sound {x : AV} {K : AV → Prop} (hk : outA h x K) : ∃ y, K y ∧ ∀ {m : Nat → Option Loc} {w : World} {v : Value}, Good w0 h m w → Rep h m w x v → PRep (OkB w) w y v := by
  have base : out1 h x K → ∃ y, K y ∧ ∀ {m : Nat → Option Loc} {w : World} {v : Value}, Good w0 h m w → Rep h m w x v → PRep (OkB w) w y v := by
    intro hk
    obtain ⟨y, h1, h2⟩ := out1_sound (w0 := w0) hk
    exact ⟨y, h1, fun hg hr => (h2 hg hr).1⟩
  cases x
  case agg xs =>
    simp only [outA] at hk
    obtain ⟨ys, hk, hyl, hys⟩ := outL_sound (w0 := w0) xs hk
    refine ⟨_, hk, fun hg hr => ?_⟩
    obtain ⟨us, rfl, l1, l2, l3⟩ := rep_agg hr
    obtain ⟨h1, h2⟩ := hys hg l1 l3
    exact .agg us (by omega) h1 h2
  all_goals exact base hk

theorem outs_sound : ∀ (xs : List AV) {K : List AV → Prop}, outs h xs K → ∃ ys, K ys ∧ ys.length = xs.length ∧ ∀ {m : Nat → Option Loc} {w : World} {us : List Value}, Good w0 h m w →
    xs.length = us.length → (∀ j (a : j < xs.length) (c : j < us.length), Rep h m w xs[j] us[j]) → ∀ j (a : j < ys.length) (c : j < us.length), PRep (OkB w) w ys[j] us[j]
  | [], K, hk => ⟨[], hk, rfl, fun _ _ _ j a => by simp at a⟩
  | x :: xs, K, hk => by
    obtain ⟨y, hk, hy⟩ := outA_sound (w0 := w0) hk
    obtain ⟨ys, hk, hyl, hys⟩ := outs_sound xs hk
    refine ⟨y :: ys, hk, by simp [hyl], fun {m w us} hg hl hr j a c => ?_⟩
    cases us with
    | nil => simp at hl
    | cons u us =>
      cases j with
      | zero => exact hy hg (hr 0 (by simp) (by simp))
      | succ j => exact hys hg (by simpa using hl) (fun j a c => hr (j + 1) (by simpa using a) (by simpa using c)) j (by simpa using a) (by simpa using c)

theorem resK_sound {X : List (AV × Value)} {s : St} : ∀ (rs : List ResultVar) {K : List AV → Prop}, resK P s rs K → ∃ xs, K xs ∧ xs.length = rs.length ∧ ∀ {m : Nat → Option Loc} {a : Act} {w : World}, SatM w0 X (lget s.T) s.T.length (hget s.H) s.D m a w →
    ∃ us : List Value, us.length = xs.length ∧ (rs.mapM (resSem a.tmps)).run P w = .ok us w ∧ ∀ j (x : j < xs.length) (y : j < us.length), Rep (hget s.H) m w xs[j] us[j]
  | [], K, hk => ⟨[], hk, rfl, fun _ => ⟨[], rfl, by simp, fun j x => by simp at x⟩⟩
  | .tmp t :: rs, K, hk => by
    obtain ⟨xs, h1, h2, h3⟩ := resK_sound rs hk
    refine ⟨_, h1, by simp [h2], fun {m a w} hs => ?_⟩
    obtain ⟨us, h4, h5, h6⟩ := h3 hs
    refine ⟨a.tmps.getD t undef :: us, by simp [h4], by simp only [List.mapM_cons, resSem, Sem.run_bind, Sem.run_pure, Result.andThen_ok, h5], fun j x y => ?_⟩
    cases j with
    | zero => exact hs.eval s.T rfl (.tmp t) (fun _ _ _ => rfl)
    | succ j => exact h6 j (by simpa using x) (by simpa using y)
  | .cell b t :: rs, K, hk => by
    simp only [resK] at hk
    cases hb : lget s.T b <;> simp only [hb] at hk
    case ptr bb g off =>
      cases hh : hget s.H bb with
      | none => simp [hh] at hk
      | some k =>
        cases k <;> simp only [hh] at hk
        case cells t' sz g' xs =>
          obtain ⟨rfl, hk⟩ := hk
          obtain ⟨x, hk, hl⟩ := loadK_is hk
          obtain ⟨ys, h1, h2, h3⟩ := resK_sound rs hk
          refine ⟨_, h1, by simp [h2], fun {m a w} hs => ?_⟩
          obtain ⟨us, h4, h5, h6⟩ := h3 hs
          have hr := hs.eval s.T rfl (.tmp b) (fun _ _ _ => rfl)
          simp only [aev, hb, Act.eval] at hr
          obtain ⟨l, hm, he⟩ := rep_ptr hr hh
          obtain ⟨arr, _, _, _, vs, _, h7, h8⟩ := blk_cells hs.good hh hm
          obtain ⟨v, hv, hrv⟩ := load_run hl h7 h8
          rw [Nat.zero_add] at hv
          refine ⟨v :: us, by simp [h4], ?_, fun j x y => ?_⟩
          · simp only [List.mapM_cons, resSem, Sem.run_bind, he, asAddr, Sem.run_pure, Result.andThen_ok, hv, h5]
          · cases j with
            | zero => exact hrv
            | succ j => exact h6 j (by simpa using x) (by simpa using y)
        all_goals exact hk.elim
    all_goals exact hk.elim

omit [Base] in
theorem run_results {fn : Func} {tmps : Array Value} {us : List Value} {w : World} (h : (fn.results.toList.mapM (resSem tmps)).run P w = .ok us w) : (results fn tmps).run P w = .ok (match us with | [u] => u | us => .tuple us.toArray) w := by
  have e : results fn tmps = (do let vs ← fn.results.mapM (resSem tmps); pure (if h : vs.size = 1 then vs[0] else .tuple vs)) := by
    unfold results
    congr 1
  rw [e, Array.mapM_eq_mapM_toList]
  simp only [Sem.run_bind, Sem.run_map, h, Result.andThen_ok]
  match us with
  | [] => simp
  | [u] => simp
  | u :: v :: us => simp

/-- The marks are shut, one after the other; then the results are read. -/
theorem leaves_sound {X : List (AV × Value)} {fn : Func} {R : AV → Prop} {RR : Ending → World → Prop} : ∀ (D : List Nat) (s : St) (a : Act) (w : World), s.D = D → shut P D s (fun s => resK P s fn.results.toList fun xs => outs (hget s.H) xs fun ys => R (finAV ys)) →
    Sat w0 X s a w → (∀ y v w', R y → PRep (OkB w') w' y v → Below w0.heap.size w0 w' → RR (.returned v) w') → LeavesInM (FW none) 0 P fn a.tmps RR a.defers .returning w
  | [], s, a, w, hD, hk, ⟨m, hs⟩, hR => by
    obtain ⟨ls, h1, _, h3⟩ := hs.marks
    rw [hD] at h1
    have : ls = [] := List.eq_nil_of_length_eq_zero (by simpa using h1)
    subst this
    rw [h3]
    simp only [shut] at hk
    obtain ⟨xs, hk, hxl, hres⟩ := resK_sound (w0 := w0) (X := X) _ hk
    obtain ⟨ys, hk, hyl, hout⟩ := outs_sound (w0 := w0) _ hk
    obtain ⟨us, hul, hrun, hrep⟩ := hres hs
    have hpr := hout hs.good (by omega) hrep
    refine ⟨_, run_results hrun, hR _ _ _ hk ?_ hs.good.below⟩
    match ys, us, hyl, hul with
    | [], [], _, _ => exact .tup [] rfl (fun j a => by simp at a)
    | [y], [u], _, _ => exact hpr 0 (by simp) (by simp)
    | y :: y' :: ys, u :: u' :: us, hyl, hul => exact .tup (u :: u' :: us) (by simp at hyl hul ⊢; omega) hpr
    | [], _ :: _, hyl, hul => simp at hyl hul; omega
    | _ :: _, [], hyl, hul => simp at hyl hul; omega
    | [_], _ :: _ :: _, hyl, hul => simp at hyl hul; omega
    | _ :: _ :: _, [_], hyl, hul => simp at hyl hul; omega
  | d :: ds, s, a, w, hD, hk, ⟨m, hs⟩, hR => by
    obtain ⟨hd, hk⟩ := hk
    obtain ⟨ls, h1, h2, h3⟩ := hs.marks
    rw [hD] at h1
    cases ls with
    | nil => simp at h1
    | cons l ls =>
      have hm0 : m d = some l := by
        have := (h2 0 (by rw [hD]; simp) (by simp)).1
        simpa [hD] using this
      obtain ⟨l', hl', hheap⟩ := hs.good.blk d _ hd
      rw [hm0] at hl'; cases hl'
      simp only [if_true] at hheap
      rw [h3]
      simp only [List.map_cons]
      have htake : (Instr.takeDeferred l.c).run P w = .ok [] { w with heap := w.heap.setIfInBounds l.c (.deferred none) } := by
        have hgo : (getObj l.c).run P w = .ok (.deferred (some [])) w := by simp [getObj, Sem.run, hheap]
        have hso : (setObj l.c (.deferred none)).run P w = .ok () { w with heap := w.heap.setIfInBounds l.c (.deferred none) } := by simp [setObj, Sem.run, hheap]
        simp only [Instr.takeDeferred, Sem.run_bind, hgo, Result.andThen_ok, hso, Sem.run_pure]
      have hsize : w.heap.size ≤ ({ w with heap := w.heap.setIfInBounds l.c (.deferred none) } : World).heap.size := by simp
      have hsame : ∀ c, c < w.heap.size → (∀ l0, m d = some l0 → l0.c ≠ c) → ({ w with heap := w.heap.setIfInBounds l.c (.deferred none) } : World).heap[c]? = w.heap[c]? :=
        fun c _ hne => Array.getElem?_setIfInBounds_ne (hne l hm0)
      have hfits : ∀ k0, hget s.H d = some k0 → Fits k0 (.dfr false) (m d ≠ some l) := by intro k0 hk0; rw [hd] at hk0; cases hk0; exact fun hne => hne hm0
      have e1 := ext_put (k := .dfr false) (l' := l) hs.good hsize hsame (.inl hm0) hfits
      have g1 : Good w0 _ _ ({ w with heap := w.heap.setIfInBounds l.c (.deferred none) } : World) := good_put hs.good rfl rfl rfl hsize hsame (.inl hm0) hfits ⟨l, upd_same _ _ _, by simpa using Array.getElem?_setIfInBounds_self_of_lt (lt_of_heap hheap)⟩ (by simp)
      refine ⟨by simp, .inl ⟨l.c, _, rfl, htake, ?_⟩⟩
      refine leaves_sound (X := X) ds ⟨s.T, hset s.H d (.dfr false), ds⟩ { a with defers := ls.map fun l => { target := .collected l.c, args := #[] } } _ rfl hk ⟨upd m d (some l), ?_⟩ hR
      have hhs : hget (hset s.H d (.dfr false)) = upd (hget s.H) d (some (.dfr false)) := hget_seto s.H (some (d, .dfr false))
      rw [hhs]
      refine ⟨g1, hs.size, fun j hj => let ⟨v, hv, hr⟩ := hs.tmps j hj; ⟨v, hv, hr.ext e1⟩, fun q hq => (hs.roots q hq).ext e1, ls, by simpa using h1, fun j x y => ?_, rfl⟩
      have := h2 (j + 1) (by rw [hD]; simpa using x) (by simpa using y)
      simp only [hD, List.getElem_cons_succ] at this
      obtain ⟨b1, oo, b2⟩ := this
      obtain ⟨⟨o', b3⟩, b4⟩ := e1.dfr _ _ b2
      exact ⟨b4.trans b1, o', b3⟩

end
end Go.Am
