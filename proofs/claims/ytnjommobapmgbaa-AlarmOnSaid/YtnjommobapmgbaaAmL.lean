/- The abstract machine Am, part L: states, the operations of a region in the order of the text, and in whatever order is drawn. -/
import Derived.Test.YtnjommobapmgbaaAmK
namespace Go.Am
open Go.RowKit
variable [Base]

/-- Abstract states: temporaries, blocks, the marks of loops over functions. -/
structure St where
  T : List AV
  H : List (Option ABlk)
  D : List Nat

def hget : List (Option ABlk) → Nat → Option ABlk
  | [], _ => none
  | x :: _, 0 => x
  | _ :: t, n + 1 => hget t n

def hset : List (Option ABlk) → Nat → ABlk → List (Option ABlk)
  | [], 0, k => [some k]
  | [], n + 1, k => none :: hset [] n k
  | _ :: t, 0, k => some k :: t
  | x :: t, n + 1, k => x :: hset t n k

def hseto (H : List (Option ABlk)) : Option (Nat × ABlk) → List (Option ABlk)
  | none => H
  | some (b, k) => hset H b k

def lseto (T : List AV) : Option Nat → AV → List AV
  | none, _ => T
  | some d, v => lset T d v

omit [Base] in
theorem hget_set : ∀ (H : List (Option ABlk)) (b i : Nat) (k : ABlk), hget (hset H b k) i = if i = b then some k else hget H i
  | [], 0, 0, k => rfl
  | [], 0, i + 1, k => by simp [hset, hget]
  | [], b + 1, 0, k => by simp [hset, hget]
  | [], b + 1, i + 1, k => by simp [hset, hget, hget_set [] b i k]
  | x :: t, 0, 0, k => by simp [hset, hget]
  | x :: t, 0, i + 1, k => by simp [hset, hget]
  | x :: t, b + 1, 0, k => by simp [hset, hget]
  | x :: t, b + 1, i + 1, k => by simp [hset, hget, hget_set t b i k]

omit [Base] in
theorem hget_seto (H : List (Option ABlk)) (wr : Option (Nat × ABlk)) : hget (hseto H wr) = updo (hget H) wr := by
  cases wr with
  | none => rfl
  | some p => obtain ⟨b, k⟩ := p; funext i; simp only [hseto, updo, upd, hget_set]

omit [Base] in
theorem hget_length (H : List (Option ABlk)) (i : Nat) (h : H.length ≤ i) : hget H i = none := by
  induction H generalizing i with
  | nil => rfl
  | cons x t ih =>
    cases i with
    | zero => simp at h
    | succ i => simp only [hget]; exact ih i (by simpa using h)

omit [Base] in
theorem lget_get (T : List AV) (i : Nat) : lget T i = (T[i]?).getD .junk := by
  induction T generalizing i with
  | nil => simp [lget]
  | cons x t ih =>
    cases i with
    | zero => simp [lget]
    | succ i => simp [lget, ih]

omit [Base] in
theorem lset_eq (T : List AV) (i : Nat) (v : AV) : lset T i v = T.set i v := by
  induction T generalizing i with
  | nil => simp [lset]
  | cons x t ih =>
    cases i with
    | zero => simp [lset]
    | succ i => simp [lset, ih]

omit [Base] in
theorem lset_length (T : List AV) (i : Nat) (v : AV) : (lset T i v).length = T.length := by rw [lset_eq]; simp
omit [Base] in
theorem lseto_length (T : List AV) (d : Option Nat) (v : AV) : (lseto T d v).length = T.length := by cases d <;> simp [lseto, lset_length]
omit [Base] in
theorem lget_set (T : List AV) (i j : Nat) (v : AV) : lget (lset T i v) j = if i = j ∧ j < T.length then v else lget T j := by
  rw [lget_get, lget_get, lset_eq, List.getElem?_set]
  by_cases h : i = j
  · subst h
    by_cases h2 : i < T.length <;> simp [h2]
  · simp [h]

/-- Whether a guarded operation runs. -/
def guardOf (all : Array Oper) (T : List AV) (o : Oper) : Option Bool :=
  match o.guard with
  | none => some true
  | some (j, want) => match (all[j]?).bind (·.dst) with
    | some d => match lget T d with
      | .bool b => some (b == want)
      | .tup _ => some false
      | _ => none
    | none => none

def splitB (v : AV) (k : AV → Prop) : Prop :=
  match v with
  | .bool b => (b = true → k (.bool true)) ∧ (b = false → k (.bool false))
  | v => k v

/-- THE OPERATIONS OF A REGION, IN THE ORDER OF THE TEXT. -/
def evOps (P : Program) (all : Array Oper) : List Oper → St → List E → (St → List E → Prop) → Prop
  | [], s, tr, K => K s tr
  | o :: os, s, tr, K =>
    match guardOf all s.T o with
    | some true => effK P o (aev s.T) (hget s.H) s.H.length fun e => splitB e.val fun v => evOps P all os ⟨lseto s.T o.dst v, hseto s.H e.wr, s.D⟩ (tr ++ [⟨v, e.rd, e.wr⟩]) K
    | some false => evOps P all os ⟨lseto s.T o.dst (.tup []), s.H, s.D⟩ (tr ++ [⟨.tup [], [], none⟩]) K
    | none => False

/-- The trace of a region. -/
inductive Trace (P : Program) (w0 : World) (r : Option Nat) (all : Array Oper) : Nat → St → List E → St → Prop
  | nil (i : Nat) (s : St) : Trace P w0 r all i s [] s
  | run {i : Nat} {s s' : St} {o : Oper} {e : E} {es : List E} (ho : all[i]? = some o) (hg : guardOf all s.T o = some true) (hok : OpOK P w0 r o (aev s.T) (hget s.H) e)
      (rest : Trace P w0 r all (i + 1) ⟨lseto s.T o.dst e.val, hseto s.H e.wr, s.D⟩ es s') : Trace P w0 r all i s (e :: es) s'
  | skip {i : Nat} {s s' : St} {o : Oper} {es : List E} (ho : all[i]? = some o) (hg : guardOf all s.T o = some false)
      (rest : Trace P w0 r all (i + 1) ⟨lseto s.T o.dst (.tup []), s.H, s.D⟩ es s') : Trace P w0 r all i s (⟨.tup [], [], none⟩ :: es) s'

section
variable {P : Program} {w0 : World} {r : Option Nat} {all : Array Oper}

theorem ev_trace : ∀ (os : List Oper) (i : Nat) (s : St) (tr : List E) (K : St → List E → Prop), (∀ k, os[k]? = all[i + k]?) → evOps P all os s tr K →
    ∃ es s', Trace P w0 r all i s es s' ∧ es.length = os.length ∧ K s' (tr ++ es)
  | [], i, s, tr, K, _, hk => ⟨[], s, .nil i s, rfl, by simpa [evOps] using hk⟩
  | o :: os, i, s, tr, K, hos, hk => by
    have ho : all[i]? = some o := by have := hos 0; simpa using this.symm
    have hos' : ∀ k, os[k]? = all[i + 1 + k]? := fun k => by have := hos (k + 1); simp at this; rw [this]; congr 1; omega
    unfold evOps at hk
    cases hg : guardOf all s.T o with
    | none => simp [hg] at hk
    | some b =>
      cases b
      · simp only [hg] at hk
        obtain ⟨es, s', h1, h2, h3⟩ := ev_trace os (i + 1) _ _ K hos' hk
        exact ⟨_ :: es, s', .skip ho hg h1, by simp [h2], by simpa using h3⟩
      · simp only [hg] at hk
        obtain ⟨e, hk, hok⟩ := effK_sound (w0 := w0) (r := r) (hget_length s.H _ (Nat.le_refl _)) hk
        have fin : evOps P all os ⟨lseto s.T o.dst e.val, hseto s.H e.wr, s.D⟩ (tr ++ [⟨e.val, e.rd, e.wr⟩]) K → ∃ es s', Trace P w0 r all i s es s' ∧ es.length = (o :: os).length ∧ K s' (tr ++ es) := by
          intro hk
          obtain ⟨es, s', h1, h2, h3⟩ := ev_trace os (i + 1) _ _ K hos' hk
          exact ⟨e :: es, s', .run ho hg hok h1, by simp [h2], by simpa using h3⟩
        unfold splitB at hk
        split at hk
        · rename_i b hb
          cases b
          · exact fin (by rw [hb]; exact hk.2 rfl)
          · exact fin (by rw [hb]; exact hk.1 rfl)
        · exact fin hk

/-- What holds of the temporaries and of other values that must be kept (X). -/
structure SatM (w0 : World) (X : List (AV × Value)) (Tf : Nat → AV) (len : Nat) (h : Nat → Option ABlk) (D : List Nat) (m : Nat → Option Loc) (a : Act) (w : World) : Prop where
  good : Good w0 h m w
  size : a.tmps.size = len
  tmps : ∀ j, j < len → ∃ v, a.tmps[j]? = some v ∧ Rep h m w (Tf j) v
  roots : ∀ p ∈ X, Rep h m w p.1 p.2
  marks : ∃ ls : List Loc, ls.length = D.length ∧ (∀ j (a : j < D.length) (b : j < ls.length), m D[j] = some ls[j] ∧ ∃ o, h D[j] = some (.dfr o)) ∧ a.defers = ls.map fun l => { target := .collected l.c, args := #[] }

def SatF (w0 : World) (X : List (AV × Value)) (Tf : Nat → AV) (len : Nat) (h : Nat → Option ABlk) (D : List Nat) (a : Act) (w : World) : Prop := ∃ m, SatM w0 X Tf len h D m a w

def Sat (w0 : World) (X : List (AV × Value)) (s : St) (a : Act) (w : World) : Prop := SatF w0 X (lget s.T) s.T.length (hget s.H) s.D a w

omit [Base] in
theorem constAV_cases (v : Value) : constAV v = .junk ∨ cellPure (constAV v) = true := by
  unfold constAV; split <;> first | exact .inl rfl | exact .inr rfl

theorem SatM.eval {X : List (AV × Value)} {Tf : Nat → AV} {len : Nat} {h : Nat → Option ABlk} {D : List Nat} {m : Nat → Option Loc} {a : Act} {w : World} (s : SatM w0 X Tf len h D m a w) (T : List AV) (hlen : T.length = len) (x : Operand)
    (hx : ∀ t, x = .tmp t → t < len → Tf t = lget T t) : Rep h m w (aev T x) (a.eval x) := by
  cases x with
  | tmp t =>
    simp only [aev, Act.eval]
    rcases Nat.lt_or_ge t len with ht | ht
    · obtain ⟨v, hv, hr⟩ := s.tmps t ht
      rw [← hx t rfl ht]
      simpa [hv] using hr
    · have : lget T t = .junk := by rw [lget_get, List.getElem?_eq_none (by rw [hlen]; exact ht)]; rfl
      rw [this]; exact .junk _
  | const v =>
    simp only [aev, Act.eval]
    rcases constAV_cases v with hc | hc
    · rw [hc]; exact .junk _
    · exact .pure (const_rep hc).1
  | global g => exact .junk _
  | func f => exact .pure (.fn [] [] (by simp) rfl rfl (fun j h => by simp at h) (fun j h => by simp at h))

theorem SatM.put {X : List (AV × Value)} {Tf Tf' : Nat → AV} {len : Nat} {h h' : Nat → Option ABlk} {D : List Nat} {m m' : Nat → Option Loc} {a : Act} {w w' : World} {d : Option Nat} {x : AV} {v : Value} (s : SatM w0 X Tf len h D m a w)
    (g : Good w0 h' m' w') (e : Ext h m w h' m' w') (hv : Rep h' m' w' x v) (hT : ∀ j, j < len → Tf' j = if d = some j then x else Tf j) : SatM w0 X Tf' len h' D m' (a.put d v) w' := by
  refine ⟨g, ?_, fun j hj => ?_, fun p hp => (s.roots p hp).ext e, ?_⟩
  · cases d <;> simp [Act.put, s.size]
  · obtain ⟨u, hu, hr⟩ := s.tmps j hj
    rw [hT j hj]
    cases d with
    | none => exact ⟨u, hu, by simpa using hr.ext e⟩
    | some d =>
      by_cases hd : d = j
      · subst hd
        refine ⟨v, ?_, by simpa using hv⟩
        simp only [Act.put]
        exact Array.getElem?_setIfInBounds_self_of_lt (by rw [s.size]; exact hj)
      · refine ⟨u, ?_, by simpa [hd] using hr.ext e⟩
        simp only [Act.put]
        rw [Array.getElem?_setIfInBounds_ne hd]; exact hu
  · obtain ⟨ls, h1, h2, h3⟩ := s.marks
    refine ⟨ls, h1, fun j a b => ?_, by cases d <;> simpa [Act.put] using h3⟩
    obtain ⟨h4, o, h5⟩ := h2 j a b
    obtain ⟨⟨o', h6⟩, h7⟩ := e.dfr _ _ h5
    exact ⟨h7.trans h4, o', h6⟩

theorem rep_undef {h : Nat → Option ABlk} {m : Nat → Option Loc} {w : World} : Rep h m w (.tup []) undef := .pure (.tup [] rfl (fun j h => by simp at h))

theorem guard_wanted {X : List (AV × Value)} {Tf : Nat → AV} {len : Nat} {h : Nat → Option ABlk} {D : List Nat} {m : Nat → Option Loc} {a : Act} {w : World} (s : SatM w0 X Tf len h D m a w) {T : List AV} (hlen : T.length = len) {o : Oper} {b : Bool}
    (hg : guardOf all T o = some b) (hx : ∀ j want d, o.guard = some (j, want) → (all[j]?).bind (·.dst) = some d → d < len → Tf d = lget T d) : Region.wanted o (yielded all a.tmps) = b := by
  unfold guardOf at hg
  unfold Region.wanted
  cases hgd : o.guard with
  | none => simp [hgd] at hg; simp [hg]
  | some p =>
    obtain ⟨j, want⟩ := p
    simp only [hgd] at hg
    cases hd : (all[j]?).bind (·.dst) with
    | none => simp [hd] at hg
    | some d =>
      simp only [hd] at hg
      cases hl : lget T d <;> simp only [hl, reduceCtorEq] at hg
      case bool q =>
        have hdl : d < len := by
          rcases Nat.lt_or_ge d len with h1 | h1
          · exact h1
          · rw [lget_get, List.getElem?_eq_none (by omega)] at hl; cases hl
        obtain ⟨v, hv, hr⟩ := s.tmps d hdl
        rw [hx j want d hgd hd hdl, hl] at hr
        have := rep_bool hr
        subst this
        simp only [Option.some.injEq] at hg
        simp [yielded, hd, hv, ← hg]
      case tup q =>
        have hdl : d < len := by
          rcases Nat.lt_or_ge d len with h1 | h1
          · exact h1
          · rw [lget_get, List.getElem?_eq_none (by omega)] at hl; cases hl
        obtain ⟨v, hv, hr⟩ := s.tmps d hdl
        rw [hx j want d hgd hd hdl, hl] at hr
        obtain ⟨us, rfl, _⟩ := rep_tup hr
        simp only [Option.some.injEq] at hg
        simp [yielded, hd, hv, ← hg]

/-- In the order of the text. -/
theorem trace_seq {X : List (AV × Value)} {Q : Exit → Act → World → Prop} : ∀ {i : Nat} {s s' : St} {es : List E}, Trace P w0 r all i s es s' → (∀ a w, Sat w0 X s' a w → Q .normal a w) → ∀ a w, Sat w0 X s a w →
    wpOpsIn (FW r) 0 P all Q (List.range' i es.length) a w := by
  intro i s s' es ht hQ
  induction ht with
  | nil i s => intro a w hs; exact hQ a w hs
  | run ho hg hok rest ih =>
    rename_i i s s' o e es
    intro a w ⟨m, hs⟩
    simp only [List.length_cons, List.range'_succ]
    rw [wpOpsIn_cons]
    unfold wpOpIn
    simp only [ho]
    rw [guard_wanted hs rfl hg (fun _ _ _ _ _ _ => rfl), if_pos rfl]
    refine hok _ m w a _ Q (fun _ _ => rfl) (fun _ _ _ => rfl) hs.good (fun x _ => hs.eval s.T rfl x (fun _ _ _ => rfl)) (fun v w' m' g1 e1 r1 => ih hQ _ _ ⟨m', ?_⟩)
    simp only [hget_seto, lseto_length]
    refine hs.put g1 e1 r1 (fun j hj => ?_)
    cases hd : o.dst with
    | none => simp [lseto]
    | some d => simp only [lseto, lget_set, Option.some.injEq, hj, and_true]
  | skip ho hg rest ih =>
    rename_i i s s' o es
    intro a w ⟨m, hs⟩
    simp only [List.length_cons, List.range'_succ]
    rw [wpOpsIn_cons]
    unfold wpOpIn
    simp only [ho]
    rw [guard_wanted hs rfl hg (fun _ _ _ _ _ _ => rfl), if_neg (by simp)]
    refine ⟨fun _ _ => trivial, ih hQ _ _ ⟨m, ?_⟩⟩
    simp only [lseto_length]
    refine hs.put hs.good (Ext.refl _ _ _) rep_undef (fun j hj => ?_)
    cases hd : o.dst with
    | none => simp [lseto]
    | some d => simp only [lseto, lget_set, Option.some.injEq, hj, and_true]

end
end Go.Am
